/- slices.Clone of lists of numbers, by its walk. Conditions: none. -/
import Derived.Test.YtchedkjlhjfadaaUtil
import Derived.Test.YtchedkjlhjfadaaQA
import Derived.Test.YtchedkjlhjfadaaExtC2
import Derived.Shelf.SlicesE.Clone
set_option linter.unusedSimpArgs false
set_option linter.unusedVariables false
namespace Go.Proofs.Ytchedkjlhjfadaa
open Go Go.Ab Go.RowKit Go.Lib
theorem under_lists : Try.prog.underlying 22 = some (.slice 43) := by kernel_rfl
theorem info_list1 : (Try.prog.info? 43).map (fun i => (i.size, i.bytes)) = some (1, 24) := by kernel_rfl
theorem info_list2 : ((Try.prog.info? 43).bind (·.zero)).map (fun z => z.cells.size) = some 1 := by kernel_rfl
theorem info_list : ∃ i z, Try.prog.info? 43 = some i ∧ i.zero = some z ∧ i.size = 1 ∧ i.bytes = 24 ∧ z.cells.size = 1 := by
  have h1 := info_list1
  have h2 := info_list2
  generalize Try.prog.info? 43 = x at h1 h2 ⊢
  cases x with
  | none => cases h1
  | some i =>
    cases hz : i.zero with
    | none => simp [hz] at h2
    | some z =>
      simp [hz] at h1 h2
      exact ⟨i, z, rfl, hz, h1.1, h1.2, h2⟩
set_option maxHeartbeats 2000000 in
theorem cloneL_some (a : Addr) (n c : Nat) (news : List Value) (w : World) (hl : news.length = n * 1) (hn : n ≤ 1000000) (hc : ∀ j u, news[j]? = some u → w.cell? (a.add j) = some u) (h1 : ∀ u ∈ news, u.oneCell' = true) :
    Calls Try.prog 42 #[.slice (some a) n c] w fun e w' => ∃ v', e = .returned v' ∧ w'.ownsRow w.heap.size 43 1 v' n news ∧ Below w.heap.size w w' := by
  obtain ⟨i0, z, hi, hz0, hz1, hz2, hzs⟩ := info_list
  have q22 : ∀ (w : World) (a : Option Addr) (n c n' c' : Nat), (binOp .eql 22 (.slice a n c) (.slice none n' c')).run Try.prog w = .ok (.bool a.isNone) w := fun w a n c n' c' => Lib.run_eql_slice_nil w _ _ a n c n' c' under_lists
  have A : Aside (∀ j u, news[j]? = some u → w.cell? (a.add j) = some u) := hc
  clear hc
  go_enter Try.func42, Try.ntmps42
  go_wp2_with (at_builtin; refine wpList_append_own _ rfl _ _ 22 rfl w.heap.size 43 i0 z 1 24 under_lists hi hz0 hz1 hz2 hzs (by decide) _ _ _ rfl (World.ownsRow_made w #[] 0 (Nat.le_refl _) (Nat.zero_le _) (by simp)) a n c news rfl ?qc1 ?qc2 ?qc3 ?qc4 ?qc5 ?qc6 ?_)
  case qc1 => exact hl
  case qc2 =>
    intro j u hj
    exact Lib.cell?_alloc_some _ (A.out j u hj)
  case qc3 => exact h1
  case qc4 => rw [Nat.zero_add]; simp only [maxLen]; omega
  case qc5 => rw [Nat.zero_add]; omega
  case qc6 => simp
  intro v' w1 hown hgrow hnil
  go_wp2
  go_ret
  refine ⟨v', rfl, by simpa using hown, ?_⟩
  exact ((Below.refl _ w).alloc (Nat.le_refl _) _).grown hgrow (by simp) (by intro k hk; simp [Value.ownBlock] at hk; omega)
set_option maxHeartbeats 1000000 in
theorem cloneL_nil (n c : Nat) (w : World) : Calls Try.prog 42 #[.slice none n c] w fun e w' => e = .returned (.slice none 0 0) ∧ w' = w := by
  have q22 : ∀ (w : World) (a : Option Addr) (n c n' c' : Nat), (binOp .eql 22 (.slice a n c) (.slice none n' c')).run Try.prog w = .ok (.bool a.isNone) w := fun w a n c n' c' => Lib.run_eql_slice_nil w _ _ a n c n' c' under_lists
  go_enter Try.func42, Try.ntmps42
  go_wp2
  go_ret
  exact ⟨rfl, rfl⟩
def rowsO : List (List Dt) → Bool
  | [] => true
  | r :: l => decide (r.length = 1) && rowsO l
theorem rowsO_all : ∀ {l : List (List Dt)}, rowsO l = true → ∀ row, row ∈ l → row.length = 1
  | [], _, row, h => by cases h
  | r :: l, h, row, hr => by
    simp only [rowsO, Bool.and_eq_true, decide_eq_true_eq] at h
    rcases List.mem_cons.1 hr with rfl | hr
    · exact h.1
    · exact rowsO_all h.2 row hr
def cloneLX : List AV → List AObj → Option (Out × List AObj)
  | [.d (.sl rows)], [] => if rows.length ≤ 1000000 ∧ rowsO rows = true then some (.ret (.grow 0 0 rows), [.grow 0 1]) else none
  | _, _ => none
theorem cloneL_sound (as0 : List AV) (H : List AObj) (out : Out) (H' : List AObj) (h : cloneLX as0 H = some (out, H')) : (∀ args w, (callFunc 42 args).run Try.prog w = .ok (.enter 42 args) w) ∧ H.length ≤ H'.length ∧
    ∀ (w : World) (Im : Imm) (g : List Gh) (vs : List Value), HR Try.prog w Im g H → RepAs w Im g vs as0 → Calls Try.prog 42 ⟨vs⟩ w (CallPost Try.prog w Im g out H') := by
  unfold cloneLX at h
  split at h
  · rename_i rows
    split at h
    · rename_i hc
      cases h
      refine ⟨enter_of Try.func42 (by kernel_rfl) rfl, by simp, fun w Im g vs hH hr => ?_⟩
      have hg : g = [] := List.length_eq_zero_iff.1 hH.len
      subst hg
      have h3 := rowsO_all hc.2
      have hfl := flat1 h3
      obtain ⟨hl, hr⟩ := hr
      match vs, hl with
      | [v], _ =>
        have hv := hr 0 v _ rfl rfl
        cases hv with
        | d hd =>
          cases hd with
          | sl0 a cap =>
            cases a with
            | none =>
              refine (cloneL_nil 0 cap w).mono ?_
              rintro e w' ⟨rfl, rfl⟩
              exact own_post (news := []) (t := 43) hH.im h3 (fun k u x h => by simp at h) (World.ownsRow_nil _ _ _ _) (Below.refl _ _)
            | some a =>
              refine (cloneL_some a 0 cap [] w (by simp) (by omega) (fun j u h => by simp at h) (fun u h => by simp at h)).mono ?_
              rintro e w' ⟨v', rfl, ho, hb⟩
              exact own_post (news := []) hH.im h3 (fun k u x h => by simp at h) ho hb
          | sl b o cap sz rows us hcap hsz him hrr =>
            have hat : ∀ (j : Nat) (u : Value), ((List.range (rows.length * 1)).map us)[j]? = some u → j < rows.flatten.length ∧ u = us j := by
              intro j u h
              rw [List.getElem?_map] at h
              have hj : j < rows.length * 1 := by
                rcases Nat.lt_or_ge j (rows.length * 1) with hj | hj
                · exact hj
                · rw [List.getElem?_eq_none (by simpa using hj)] at h; cases h
              rw [List.getElem?_range hj] at h
              simp at h
              exact ⟨by omega, h.symm⟩
            have hrx : ∀ (k : Nat), k < rows.flatten.length → RepD w Im (us k) (rows.flatten[k]?.getD .nilp) := fun k hk => hrr k _ (by rw [List.getElem?_eq_getElem hk]; rfl)
            refine (cloneL_some ⟨b, o, none⟩ rows.length cap ((List.range (rows.length * 1)).map us) w (by simp) hc.1 (fun j u h => ?_) (fun u h => ?_)).mono ?_
            · obtain ⟨hj, rfl⟩ := hat j u h
              rw [add_none]
              exact (him j hj).2
            · obtain ⟨j, hj0⟩ := List.getElem?_of_mem h
              obtain ⟨hj, rfl⟩ := hat j u hj0
              exact repD_one (hrx j hj)
            · rintro e w' ⟨v', rfl, ho, hb⟩
              refine own_post hH.im h3 (fun k u x h hx => ?_) ho hb
              obtain ⟨hj, rfl⟩ := hat k u h
              exact hrr k x hx
    · cases h
  · cases h
end Go.Proofs.Ytchedkjlhjfadaa
