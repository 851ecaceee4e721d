/- slices.DeleteFunc of numbers. Conditions: none. -/
import Derived.Test.YtchedkjlhjfadaaC1
set_option linter.unusedSimpArgs false
set_option linter.unusedVariables false
namespace Go.Proofs.Ytchedkjlhjfadaa
open Go Go.Ab
variable {ext : Sem'}
theorem data_av (l : List Int) : dataAs (l.map avI) = some (l.map fun x => .int .i64 x) := by
  induction l with
  | nil => rfl
  | cons x l ih => simp only [List.map_cons, dataAs, avI, dataA, ih]
theorem chunk_one (f : Int → Dt) (l : List Int) : chunk 1 l.length (l.map f) = l.map fun x => [f x] := by
  induction l with
  | nil => rfl
  | cons x l ih => simp only [List.length_cons, List.map_cons, chunk, List.take_succ_cons, List.take_zero, List.drop_succ_cons, List.drop_zero, ih]
/-- What is handed over of the first of numbers. -/
theorem give_first (a b : List Int) : (if a.length ≤ (List.map avI (a ++ b)).length then dataAs (List.take a.length (List.map avI (a ++ b))) else none) = some (a.map fun x => Dt.int .i64 x) := by
  rw [if_pos (by simp), List.map_append, List.take_left' (by simp), data_av]
theorem chunk_ints (a : List Int) : chunk 1 a.length (a.map fun x => Dt.int .i64 x) = a.map rowI := chunk_one _ _
theorem idx_split {p : Int → Bool} : ∀ {l : List Int} {i : Nat}, idxP p l = some i → ∃ x r, l = l.take i ++ x :: r ∧ p x = true ∧ (∀ y, y ∈ l.take i → p y = false) ∧ i < l.length ∧ r = l.drop (i + 1)
  | [], i, h => by cases h
  | x :: l, i, h => by
    unfold idxP at h
    split at h
    · rename_i hp; cases h; exact ⟨x, l, by simp, hp, by simp, by simp, by simp⟩
    · rename_i hp
      cases hl : idxP p l with
      | none => rw [hl] at h; cases h
      | some j =>
        rw [hl] at h
        cases h
        obtain ⟨y, r, h1, h2, h3, h4, h5⟩ := idx_split hl
        refine ⟨y, r, by simp only [Option.map_some]; rw [List.take_succ_cons, List.cons_append, ← h1], h2, ?_, by simp; exact h4, by simp [h5]⟩
        intro z hz
        rw [List.take_succ_cons] at hz
        rcases List.mem_cons.1 hz with rfl | hz
        · simpa using hp
        · exact h3 z hz
theorem idx_none {p : Int → Bool} : ∀ {l : List Int}, idxP p l = none → ∀ y, y ∈ l → p y = false
  | [], _, y, hy => by cases hy
  | x :: l, h, y, hy => by
    unfold idxP at h
    split at h
    · cases h
    · rename_i hp
      rcases List.mem_cons.1 hy with rfl | hy
      · simpa using hp
      · exact idx_none (by simpa using h) y hy
theorem set_av {l : List Int} {a : Nat} {y : Int} (h : a < l.length) : List.take a (List.map avI l) ++ [.d (.int .i64 y)] ++ List.drop (a + 1) (List.map avI l) = (l.set a y).map avI := by
  rw [List.set_eq_take_append_cons_drop, if_pos h, List.map_append, List.map_cons, List.map_take, List.map_drop, List.append_assoc]
  rfl
theorem give_cut {l : List Int} {a : Nat} (Z D : List AV) (h : a ≤ l.length) : (if a ≤ (List.take a (List.map avI l)).length + Z.length + D.length then dataAs (List.take a (List.take a (List.map avI l) ++ Z ++ D)) else none) = some ((l.take a).map fun x => Dt.int .i64 x) := by
  have hl : (List.take a (List.map avI l)).length = a := by simp; omega
  rw [if_pos (by omega), List.append_assoc, List.take_left' hl, ← List.map_take, data_av]
theorem take_set_same {l : List Int} {a : Nat} {y : Int} : List.take a (l.set a y) = List.take a l := by
  induction l generalizing a with
  | nil => rfl
  | cons x l ih => cases a with
    | zero => rfl
    | succ a => simp only [List.set_cons_succ, List.take_succ_cons, ih]
set_option maxHeartbeats 2000000 in
theorem delete0_e (hx : TX ext) (F : Nat) (cs : List AV) (k1 : (cs.map refs).flatten = []) (k2 : ∀ f, cs.map (ren f) = cs) :
    G ext 101 [.d (.sl []), .fn F [] [.ptr 0 0]] [.cells cs] = some (.ret (.d (.sl [])), [.cells cs]) := by
  have hi := index1_e hx.toT0 F (fun _ => false) cs k1 k2 [] (by simp) (fun x h => by cases h)
  simp only [List.map_nil, idxN, idxP] at hi
  rw [G_body hx.clear rfl Try.func101 rfl Try.results101 hv_101 rfl]
  simp (config := { maxSteps := 4000000 }) (disch := first | (intros; contradiction) | omega) only [go_sem, k1, k2, hi]
set_option maxHeartbeats 2000000 in
theorem delete1_e (hx : TX ext) (F : Nat) (p : Int → Bool) (cs : List AV) (k1 : (cs.map refs).flatten = []) (k2 : ∀ f, cs.map (ren f) = cs) (l : List Int) (hl : l.length ≤ 1000000) (hp : ∀ x, x ∈ l → G ext F [.d (.int .i64 x), .ptr 0 0] [.cells cs] = some (.ret (.d (.bool (p x))), [.cells cs])) :
    G ext 101 [.own 0 0 l.length 1, .fn F [] [.ptr 1 0]] [.cells (l.map avI), .cells cs] = some (.ret (.d (.sl ((l.filter fun y => !p y).map rowI))), [.no, .cells cs]) := by
  have hll : (l.map avI).length = l.length := List.length_map _
  have hi := index1o_e hx.toT0 F p cs k1 k2 l hl hp
  have a1 := fun l => av_refs l
  have a2 := fun l f => av_ren f l
  have hch := chunk_ints
  rw [G_body hx.clear rfl Try.func101 rfl Try.results101 hv_101 rfl]
  cases hix : idxP p l with
  | none =>
    have hn : idxN p l = -1 := by unfold idxN; rw [hix]
    rw [hn] at hi
    have hf : (l.filter fun y => !p y) = l := List.filter_eq_self.2 (fun y hy => by rw [idx_none hix y hy]; rfl)
    rw [hf]
    have hg := give_first l []
    rw [List.append_nil] at hg
    simp (config := { maxSteps := 4000000 }) (disch := first | (intros; contradiction) | omega) only [go_sem, k1, k2, a1, a2, hi, hg, hch, Nat.mul_one]
  | some i =>
    have hn : idxN p l = i := by unfold idxN; rw [hix]
    rw [hn] at hi
    obtain ⟨x, r, h1, h2, h3, h4, h5⟩ := idx_split hix
    have hne : ¬ (i : Int) = -1 := by omega
    simp (config := { maxSteps := 4000000 }) (disch := first | (intros; contradiction) | omega) only [go_sem, k1, k2, a1, a2, hi, hne, wrap64]
    generalize hL : loopA _ _ _ = L
    apply loop_upd hL (by simp (config := { maxSteps := 4000000 }) (disch := first | (intros; contradiction) | omega) only [go_sem, k1, k2, a1, a2] <;> rfl) (fun s : Nat × Nat × List Int => s.2.2.length = l.length ∧ s.1 < s.2.1 ∧ s.2.1 ≤ l.length ∧ s.2.2.take s.1 = (l.take s.2.1).filter (fun y => !p y) ∧ s.2.2.drop s.2.1 = l.drop s.2.1) (fun s => l.length - s.2.1)
      (fun s => [(5, .d (.int .i64 s.1)), (6, .d (.int .i64 s.2.1)), (7, .any)]) (fun s => [(0, .cells (s.2.2.map avI))]) (i, i + 1, l) (by simp (config := { maxSteps := 4000000 }) (disch := first | (intros; contradiction) | omega) only [go_sem, k1, k2, a1, a2] <;> rfl) ⟨rfl, by simp, h4, ?_, rfl⟩ ?_
    · simp only
      rw [List.take_succ_eq_append_getElem h4, List.filter_append]
      have e1 : l[i] = x := by
        have := congrArg (fun m => m[i]?) h1
        simp only [List.getElem?_eq_getElem h4] at this
        rw [List.getElem?_append_right (by simp; omega)] at this
        simpa [Nat.min_eq_left (Nat.le_of_lt h4)] using this
      rw [e1]
      have e2 : (l.take i).filter (fun y => !p y) = l.take i := List.filter_eq_self.2 (fun y hy => by rw [h3 y hy]; rfl)
      rw [e2]
      simp [h2]
    · rintro ⟨a, j, cur⟩ ⟨i1, i2, i3, i4, i5⟩ next ih
      clear hL
      simp only at i1 i2 i3 i4 i5 ih ⊢
      have hcl : (cur.map avI).length = l.length := by simp [i1]
      by_cases hj : j < l.length
      · have hlt : (j : Int) < (l.length : Int) := by omega
        have hcj : cur[j]? = some l[j] := by
          have := congrArg (fun m => m[0]?) i5
          simpa [List.getElem?_eq_getElem hj] using this
        have hr : (cur.map avI)[j]? = some (.d (.int .i64 l[j])) := by rw [List.getElem?_map, hcj]; rfl
        have hc := hp l[j] (List.getElem_mem hj)
        have htk := List.take_succ_eq_append_getElem hj
        have hdr : cur.drop (j + 1) = l.drop (j + 1) := by
          have := congrArg (List.drop 1) i5
          simpa [List.drop_drop, Nat.add_comm] using this
        generalize l[j] = y at hr hc htk
        cases hpy : p y with
        | true =>
          rw [hpy] at hc
          simp (config := { maxSteps := 4000000 }) (disch := first | (intros; contradiction) | omega) only [go_sem, k1, k2, a1, a2, hlt, hr, hc, wrap64, Nat.mul_one]
          refine ih (a, j + 1, cur) _ ⟨i1, by simp only; omega, by simp only; omega, ?_, hdr⟩ (by simp only; omega) (by simp (config := { maxSteps := 4000000 }) (disch := first | (intros; contradiction) | omega) only [go_sem, k1, k2, a1, a2] <;> rfl)
          simp only
          rw [htk, List.filter_append, i4]
          simp [hpy]
        | false =>
          rw [hpy] at hc
          have hlt2 : (a : Int) < (l.length : Int) := by omega
          have hle : a + 1 ≤ (cur.map avI).length := by omega
          simp (config := { maxSteps := 4000000 }) (disch := first | (intros; contradiction) | omega) only [go_sem, k1, k2, a1, a2, hlt, hlt2, hle, hr, hc, wrap64, Nat.mul_one]
          have hal : a < cur.length := by omega
          rw [set_av hal]
          refine ih (a + 1, j + 1, cur.set a y) _ ⟨by simp [i1], by simp only; omega, by simp only; omega, ?_, ?_⟩ (by simp only; omega) (by simp (config := { maxSteps := 4000000 }) (disch := first | (intros; contradiction) | omega) only [go_sem, k1, k2, a1, a2] <;> rfl)
          · simp only
            rw [htk, List.filter_append, ← i4, List.take_succ_eq_append_getElem (by simpa using hal), take_set_same]
            simp [hpy]
          · simp only
            rw [List.drop_set_of_lt (by omega)]
            exact hdr
      · have hlt : ¬ (j : Int) < (l.length : Int) := by omega
        have hjl : j = l.length := by omega
        subst hjl
        rw [List.take_length] at i4
        rw [← i4]
        have hA : (cur.take a).length = a := by simp; omega
        have c1 : 0 ≤ (a : Int) := by omega
        have c2 : (a : Int) ≤ (l.length : Int) := by omega
        have c3 : ¬ l.length - a = 0 := by omega
        have c4 : a + (l.length - a) ≤ (cur.map avI).length := by omega
        simp (config := { maxSteps := 4000000 }) (disch := first | (intros; contradiction) | omega) only [go_sem, k1, k2, a1, a2, hlt, c1, c2, c3, c4, Nat.mul_one]
        rw [give_cut _ _ (by omega)]
        have hch2 := chunk_ints (cur.take a)
        rw [hA] at hch2
        simp (config := { maxSteps := 4000000 }) (disch := first | (intros; contradiction) | omega) only [go_sem, k1, k2, a1, a2, hch2]
end Go.Proofs.Ytchedkjlhjfadaa
