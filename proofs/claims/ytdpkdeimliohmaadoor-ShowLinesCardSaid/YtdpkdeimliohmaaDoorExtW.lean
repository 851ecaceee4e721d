/- What the library does, known by contract: texts joined, texts said again, numerals, builders. Conditions: none. -/
import Derived.Test.YtdpkdeimliohmaaDoorBldB
import Derived.Test.YtdpkdeimliohmaaDoorIntX
import Derived.Test.YtdpkdeimliohmaaDoorK2
set_option linter.unusedSimpArgs false
set_option linter.unusedVariables false
namespace Go.Proofs.YtdpkdeimliohmaaDoor
open Go Go.Ab
/-- Strings, as a list that may be asked. -/
def rowsOfA : AV → Option (List (List Dt))
  | .d (.sl rows) => some rows
  | .full rows => some rows
  | .grow _ _ rows => some rows
  | _ => none
def joinX : List AV → List AObj → Option (Out × List AObj)
  | [a, .d (.str sep)], H => match (rowsOfA a).bind strRows with
    | some xs => if xs.length ≤ 1048576 ∧ (Lib.join xs sep).length ≤ 140737488355328 then some (.ret (.d (.str (Lib.join xs sep))), H) else none
    | none => none
  | _, _ => none
theorem rowsOfA_rep {w : World} {Im : Imm} {g : List Gh} {v : Value} {a : AV} {rows : List (List Dt)} (h : RepA w Im g v a) (hr : rowsOfA a = some rows) : RepD w Im v (.sl rows) := by
  cases h with
  | d h => rename_i x; cases x with
    | sl r => simp only [rowsOfA] at hr; cases hr; exact h
    | _ => simp [rowsOfA] at hr
  | full h => simp only [rowsOfA] at hr; cases hr; exact h
  | grow h => simp only [rowsOfA] at hr; cases hr; exact h
  | _ => simp [rowsOfA] at hr
theorem joinX_some {as0 : List AV} {H H' : List AObj} {out : Out} (h : joinX as0 H = some (out, H')) : ∃ a sep xs, as0 = [a, .d (.str sep)] ∧ (rowsOfA a).bind strRows = some xs ∧ xs.length ≤ 1048576 ∧ (Lib.join xs sep).length ≤ 140737488355328 ∧ out = .ret (.d (.str (Lib.join xs sep))) ∧ H' = H := by
  match as0, h with
  | [a, .d (.str sep)], h =>
    simp only [joinX] at h
    split at h
    · rename_i xs hxs
      split at h
      · rename_i hb
        cases h
        exact ⟨a, sep, xs, rfl, hxs, hb.1, hb.2, rfl, rfl⟩
      · cases h
    · cases h
theorem join_sound (as0 : List AV) (H : List AObj) (out : Out) (H' : List AObj) (h : joinX as0 H = some (out, H')) : (∀ args w, (callFunc 29 args).run Tryd.prog w = .ok (.enter 29 args) w) ∧ H.length ≤ H'.length ∧
    ∀ (w : World) (Im : Imm) (g : List Gh) (vs : List Value), HR Tryd.prog w Im g H → RepAs w Im g vs as0 → Calls Tryd.prog 29 ⟨vs⟩ w (CallPost Tryd.prog w Im g out H') := by
  obtain ⟨a, sep, xs, rfl, hxs, hb1, hb2, rfl, rfl⟩ := joinX_some h
  clear h
  refine ext_calls (enter_of Tryd.func29 (by kernel_rfl) rfl) fun w Im g vs hH hr => ?_
  obtain ⟨v1, v2, rfl, h1, h2⟩ := repAs_two hr
  rw [repA_str h2]
  obtain ⟨rows, hr1, hr2⟩ := Option.bind_eq_some_iff.1 hxs
  have hd := rowsOfA_rep h1 hr1
  rw [strRows_some hr2] at hd
  clear hr1 hr2 h1 h2 hr hxs
  rcases repD_strs hd with ⟨p, cap, rfl, rfl⟩ | ⟨b, o, cap, rfl, hcap, hc⟩
  · refine (Tryd.strings_Join_none p cap ⟨⟨sep⟩⟩ w).mono ?_
    rintro e w' ⟨he, rfl⟩
    exact ⟨RowKit.Below.refl _ _, _, he, fun w' => .d (.str [])⟩
  · by_cases h0 : xs = []
    · subst h0
      refine (Tryd.strings_Join_none (some ⟨b, o, none⟩) cap ⟨⟨sep⟩⟩ w).mono ?_
      rintro e w' ⟨he, rfl⟩
      exact ⟨RowKit.Below.refl _ _, _, he, fun w' => .d (.str [])⟩
    · have hbk : b < w.heap.size := by
        obtain ⟨x, hx⟩ : ∃ x, xs[0]? = some x := ⟨xs[0]'(List.length_pos_iff.2 h0), List.getElem?_eq_getElem _⟩
        exact hH.im _ _ (hc 0 x hx).1
      have hmap : (xs.map fun x => (⟨⟨x⟩⟩ : ByteArray)).map (·.data.toList) = xs := by rw [List.map_map]; exact List.map_id _
      have hcells : ∀ (j : Nat) x, (xs.map fun x => (⟨⟨x⟩⟩ : ByteArray))[j]? = some x → w.cell? ⟨b, o + j, none⟩ = some (.string x) := by
        intro j x hx
        rw [List.getElem?_map] at hx
        cases hj : xs[j]? with
        | none => rw [hj] at hx; cases hx
        | some y => rw [hj] at hx; cases hx; exact (hc j y hj).2
      have hml : (xs.map fun x => (⟨⟨x⟩⟩ : ByteArray)).length = xs.length := List.length_map _
      have := Tryd.strings_Join b o cap (xs.map fun x => ⟨⟨x⟩⟩) ⟨⟨sep⟩⟩ w hcells hbk (by rw [hml]; omega) (by rw [hml]; exact hcap) (by rw [hmap]; exact hb2)
      rw [hmap, hml] at this
      refine this.mono ?_
      rintro e w' ⟨he, hw⟩
      exact ⟨hw, _, he, fun w' => .d (.str (Lib.join xs sep))⟩
theorem joinL_lib (sep : List UInt8) : ∀ l : List (List UInt8), Lib.join l sep = joinL sep l
  | [] => rfl
  | [x] => Lib.join_one x sep
  | x :: y :: l => by
    simp only [joinL]
    rw [← joinL_lib sep (y :: l), Lib.join_cons, Lib.join_cons]
    simp [Lib.joinTail]
def repX : List AV → List AObj → Option (Out × List AObj)
  | [.d (.str s), .d (.int .i64 n)], H => if 0 ≤ n ∧ s ≠ [] ∧ s.length * n.toNat ≤ 1000000 then some (.ret (.d (.str (Lib.repeatL s n.toNat))), H) else none
  | _, _ => none
theorem rep_sound (as0 : List AV) (H : List AObj) (out : Out) (H' : List AObj) (h : repX as0 H = some (out, H')) : (∀ args w, (callFunc 52 args).run Tryd.prog w = .ok (.enter 52 args) w) ∧ H.length ≤ H'.length ∧
    ∀ (w : World) (Im : Imm) (g : List Gh) (vs : List Value), HR Tryd.prog w Im g H → RepAs w Im g vs as0 → Calls Tryd.prog 52 ⟨vs⟩ w (CallPost Tryd.prog w Im g out H') := by
  unfold repX at h
  split at h
  · rename_i s n
    split at h
    · rename_i hc
      obtain ⟨h0, hs, hl⟩ := hc
      cases h
      refine ext_calls (enter_of Tryd.func52 (by kernel_rfl) rfl) fun w Im g vs hH hr => ?_
      obtain ⟨v1, v2, rfl, h1, h2⟩ := repAs_two hr
      rw [repA_str h1, repA_int h2]
      obtain ⟨k, rfl⟩ : ∃ k : Nat, n = (k : Int) := ⟨n.toNat, by omega⟩
      rw [Int.toNat_natCast] at hl ⊢
      have hsz : (⟨⟨s⟩⟩ : ByteArray).size = s.length := rfl
      have hpos : 0 < s.length := List.length_pos_iff.2 hs
      match k, hl with
      | 0, _ =>
        refine (Tryd.strings_Repeat_zero ⟨⟨s⟩⟩ w).mono ?_
        rintro e w' ⟨he, rfl⟩
        exact ⟨RowKit.Below.refl _ _, _, he, fun w' => .d (.str [])⟩
      | 1, _ =>
        refine (Tryd.strings_Repeat_one ⟨⟨s⟩⟩ w).mono ?_
        rintro e w' ⟨he, rfl⟩
        have hs1 : Lib.repeatL s 1 = s := by simp [Lib.repeatL]
        rw [hs1]
        exact ⟨RowKit.Below.refl _ _, _, he, fun w' => .d (.str s)⟩
      | k + 2, hl =>
        have hk : k + 2 ≤ s.length * (k + 2) := Nat.le_mul_of_pos_left _ hpos
        refine (Tryd.strings_Repeat_main ⟨⟨s⟩⟩ (k + 2) w (by omega) (by omega) (by rw [hsz]; omega) (by rw [hsz]; exact hpos)).mono ?_
        rintro e w' ⟨he, hb⟩
        exact ⟨hb, _, he, fun w' => .d (.str (Lib.repeatL s (k + 2)))⟩
    · cases h
  · cases h
noncomputable def extW : Sem' := fun f as0 H => if f = 29 then joinX as0 H else if f = 52 then repX as0 H else if f = 25 then fmX as0 H else if f = 46 then bwX as0 H else if f = 47 then bsX as0 H else none
theorem extW_ok : Sound Tryd.prog extW := by
  intro f as0 H out H' h
  unfold extW at h
  split at h
  · subst f
    exact join_sound as0 H out H' h
  · split at h
    · subst f
      exact rep_sound as0 H out H' h
    · split at h
      · subst f
        exact fm_sound as0 H out H' h
      · split at h
        · subst f
          exact bw_sound as0 H out H' h
        · split at h
          · subst f
            exact bs_sound as0 H out H' h
          · cases h
theorem extW_t3 : T3 extW where
  clear := fun f xs H h => by
    unfold extW
    rw [if_neg, if_neg, if_neg, if_neg, if_neg]
    all_goals
      rintro rfl
      cases h
  join := fun xs sep h1 h2 => by
    unfold extW joinX
    rw [if_pos rfl]
    simp only [rowsOfA, Option.bind_some, strRows_map, joinL_lib]
    rw [if_pos ⟨h1, h2⟩]
  rep := fun s n h h0 => by
    unfold extW repX
    rw [if_neg (by decide), if_pos rfl]
    simp only
    rw [if_pos ⟨by omega, h0, by rw [Int.toNat_natCast]; exact h⟩, Int.toNat_natCast]
  fmt := fun n h1 h2 => by
    unfold extW fmX
    rw [if_neg (by decide), if_neg (by decide), if_pos rfl]
    simp only
    rw [if_pos (by unfold isI64; simp [h1, h2])]
  bw := fun l s h => by
    unfold extW bwX
    rw [if_neg (by decide), if_neg (by decide), if_neg (by decide), if_pos rfl]
    simp only
    rw [if_pos ⟨trivial, h⟩]
  bs := fun s h => by
    unfold extW bsX
    rw [if_neg (by decide), if_neg (by decide), if_neg (by decide), if_neg (by decide), if_pos rfl]
    simp only
    rw [if_pos ⟨trivial, h⟩]
theorem str_arg {xs : List Dt} (h : WfD .str xs) : ∃ s, argOf .str xs = .d (.str s) := by
  simp only [WfD] at h
  obtain ⟨s, rfl, _⟩ := h
  exact ⟨s, rfl⟩
theorem num_arg {xs : List Dt} (h : WfD (.int .i64) xs) : ∃ n, argOf (.int .i64) xs = .d (.int .i64 n) := by
  simp only [WfD] at h
  obtain ⟨n, rfl, _⟩ := h
  exact ⟨n, rfl⟩
end Go.Proofs.YtdpkdeimliohmaaDoor
