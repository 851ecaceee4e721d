/- What is known of the library: a text joined. Conditions: none. -/
import Derived.Test.YtlcbnlfbbjmpbaaTExt
import Derived.Test.YtlcbnlfbbjmpbaaJoinS
namespace Go.Proofs.Ytlcbnlfbbjmpbaa
open Go Go.Ab
/-- Strings, as a list that may be asked. -/
def rowsOfA : AV → Option (List (List Dt))
  | .d (.sl rows) => some rows
  | .full rows => some rows
  | .grow _ _ rows => some rows
  | _ => none
def joinX : List AV → List AObj → Option (Out × List AObj)
  | [a, .d (.str sep)], H => match (rowsOfA a).bind strRows with
    | some xs => if xs.length ≤ 1048576 ∧ (Lib.join xs sep).length ≤ 140737488355328 then some (.ret (.d (.str (Lib.join xs sep))), H) else none
    | none => none
  | _, _ => none
theorem rowsOfA_rep {w : World} {Im : Imm} {g : List Gh} {v : Value} {a : AV} {rows : List (List Dt)} (h : RepA w Im g v a) (hr : rowsOfA a = some rows) : RepD w Im v (.sl rows) := by
  cases h with
  | d h => rename_i x; cases x with
    | sl r => simp only [rowsOfA] at hr; cases hr; exact h
    | _ => simp [rowsOfA] at hr
  | full h => simp only [rowsOfA] at hr; cases hr; exact h
  | grow h => simp only [rowsOfA] at hr; cases hr; exact h
  | _ => simp [rowsOfA] at hr
theorem joinX_some {as0 : List AV} {H H' : List AObj} {out : Out} (h : joinX as0 H = some (out, H')) : ∃ a sep xs, as0 = [a, .d (.str sep)] ∧ (rowsOfA a).bind strRows = some xs ∧ xs.length ≤ 1048576 ∧ (Lib.join xs sep).length ≤ 140737488355328 ∧ out = .ret (.d (.str (Lib.join xs sep))) ∧ H' = H := by
  match as0, h with
  | [a, .d (.str sep)], h =>
    simp only [joinX] at h
    split at h
    · rename_i xs hxs
      split at h
      · rename_i hb
        cases h
        exact ⟨a, sep, xs, rfl, hxs, hb.1, hb.2, rfl, rfl⟩
      · cases h
    · cases h
theorem join_sound (as0 : List AV) (H : List AObj) (out : Out) (H' : List AObj) (h : joinX as0 H = some (out, H')) : (∀ args w, (callFunc 17 args).run Try.prog w = .ok (.enter 17 args) w) ∧ H.length ≤ H'.length ∧
    ∀ (w : World) (Im : Imm) (g : List Gh) (vs : List Value), HR Try.prog w Im g H → RepAs w Im g vs as0 → Calls Try.prog 17 ⟨vs⟩ w (CallPost Try.prog w Im g out H') := by
  obtain ⟨a, sep, xs, rfl, hxs, hb1, hb2, rfl, rfl⟩ := joinX_some h
  clear h
  refine ext_calls (enter_of Try.func17 (by kernel_rfl) rfl) fun w Im g vs hH hr => ?_
  obtain ⟨v1, v2, rfl, h1, h2⟩ := repAs_two hr
  rw [repA_str h2]
  obtain ⟨rows, hr1, hr2⟩ := Option.bind_eq_some_iff.1 hxs
  have hd := rowsOfA_rep h1 hr1
  rw [strRows_some hr2] at hd
  clear hr1 hr2 h1 h2 hr hxs
  rcases repD_strs hd with ⟨p, cap, rfl, rfl⟩ | ⟨b, o, cap, rfl, hcap, hc⟩
  · refine (Try.strings_Join_none p cap ⟨⟨sep⟩⟩ w).mono ?_
    rintro e w' ⟨he, rfl⟩
    exact ⟨RowKit.Below.refl _ _, _, he, fun w' => .d (.str [])⟩
  · by_cases h0 : xs = []
    · subst h0
      refine (Try.strings_Join_none (some ⟨b, o, none⟩) cap ⟨⟨sep⟩⟩ w).mono ?_
      rintro e w' ⟨he, rfl⟩
      exact ⟨RowKit.Below.refl _ _, _, he, fun w' => .d (.str [])⟩
    · have hbk : b < w.heap.size := by
        obtain ⟨x, hx⟩ : ∃ x, xs[0]? = some x := ⟨xs[0]'(List.length_pos_iff.2 h0), List.getElem?_eq_getElem _⟩
        exact hH.im _ _ (hc 0 x hx).1
      have hmap : (xs.map fun x => (⟨⟨x⟩⟩ : ByteArray)).map (·.data.toList) = xs := by rw [List.map_map]; exact List.map_id _
      have hcells : ∀ (j : Nat) x, (xs.map fun x => (⟨⟨x⟩⟩ : ByteArray))[j]? = some x → w.cell? ⟨b, o + j, none⟩ = some (.string x) := by
        intro j x hx
        rw [List.getElem?_map] at hx
        cases hj : xs[j]? with
        | none => rw [hj] at hx; cases hx
        | some y => rw [hj] at hx; cases hx; exact (hc j y hj).2
      have hml : (xs.map fun x => (⟨⟨x⟩⟩ : ByteArray)).length = xs.length := List.length_map _
      have := Try.strings_Join b o cap (xs.map fun x => ⟨⟨x⟩⟩) ⟨⟨sep⟩⟩ w hcells hbk (by rw [hml]; omega) (by rw [hml]; exact hcap) (by rw [hmap]; exact hb2)
      rw [hmap, hml] at this
      refine this.mono ?_
      rintro e w' ⟨he, hw⟩
      exact ⟨hw, _, he, fun w' => .d (.str (Lib.join xs sep))⟩
noncomputable def ext2 : Sem' := fun f as0 H => if f = 78 then indexX as0 H else if f = 17 then joinX as0 H else none
theorem ext2_ok : Sound Try.prog ext2 := by
  intro f as0 H out H' h
  unfold ext2 at h
  split at h
  · subst f
    exact index_sound as0 H out H' h
  · split at h
    · subst f
      exact join_sound as0 H out H' h
    · cases h
theorem ext2_tx : TX ext2 := by
  refine ⟨fun f xs H h => ?_, fun s c hs => ?_⟩
  · unfold ext2
    rw [if_neg, if_neg]
    · rintro rfl
      cases h
    · rintro rfl
      cases h
  · unfold ext2 indexX
    simp only [if_true]
    rw [idxI_lib]
    simp
/-- A text joined. -/
def joinL (sep : List UInt8) : List (List UInt8) → List UInt8
  | [] => []
  | [x] => x
  | x :: y :: l => x ++ sep ++ joinL sep (y :: l)
theorem joinL_lib (sep : List UInt8) : ∀ l : List (List UInt8), Lib.join l sep = joinL sep l
  | [] => rfl
  | [x] => Lib.join_one x sep
  | x :: y :: l => by
    simp only [joinL]
    rw [← joinL_lib sep (y :: l), Lib.join_cons, Lib.join_cons]
    simp [Lib.joinTail]
/-- What is known of the library, with texts joined. -/
structure TXJ (ext : Sem') : Prop extends TX ext where
  join : ∀ (xs : List (List UInt8)) (sep : List UInt8) (H : List AObj), xs.length ≤ 1048576 → (joinL sep xs).length ≤ 140737488355328 → ext 17 [.d (.sl (xs.map fun x => [.str x])), .d (.str sep)] H = some (.ret (.d (.str (joinL sep xs))), H)
theorem ext2_txj : TXJ ext2 := by
  refine ⟨ext2_tx, fun xs sep H h1 h2 => ?_⟩
  unfold ext2 joinX
  rw [if_neg (by decide), if_pos rfl]
  simp only [rowsOfA, Option.bind_some, strRows_map, joinL_lib]
  rw [if_pos ⟨h1, h2⟩]
theorem joinL_snoc (sep x : List UInt8) : ∀ xs : List (List UInt8), joinL sep (xs ++ [x]) = if xs = [] then x else joinL sep xs ++ sep ++ x
  | [] => rfl
  | [y] => by simp [joinL]
  | y :: z :: l => by
    have := joinL_snoc sep x (z :: l)
    simp only [List.cons_append, joinL] at this ⊢
    rw [this]
    simp
theorem joinL_le (sep : List UInt8) (xs ys : List (List UInt8)) : (joinL sep xs).length ≤ (joinL sep (xs ++ ys)).length := by
  induction ys generalizing xs with
  | nil => simp
  | cons y ys ih =>
    have h1 := ih (xs ++ [y])
    rw [List.append_assoc, List.singleton_append] at h1
    refine Nat.le_trans ?_ h1
    rw [joinL_snoc]
    split
    · rename_i h; subst h; simp [joinL]
    · simp
end Go.Proofs.Ytlcbnlfbbjmpbaa
