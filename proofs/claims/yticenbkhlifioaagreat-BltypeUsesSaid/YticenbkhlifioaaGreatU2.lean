/- Law 22: BltypeUses answers true. Conditions: none. -/
import Derived.Test.YticenbkhlifioaaGreatU1
import Derived.Test.YticenbkhlifioaaGreatL2
set_option linter.unusedSimpArgs false
set_option linter.unusedVariables false
namespace Go.Proofs.YticenbkhlifioaaGreat
open Go Go.Ab
variable {ext : Sem'}
theorem usesM_some {m : Md1} {f a : Int} (h : 0 < (usesM m f a).length) : ∃ (k q : Nat) (c : Cd1) (i : In1), f = k ∧ a = q ∧ m.funcs[k]? = some c ∧ c.ins[q]? = some i ∧ formedP m = 0 ∧ usesM m f a = usesL i := by
  unfold usesM at h ⊢
  split at h
  · simp at h
  · rename_i h1
    rw [if_neg h1]
    split at h
    · simp at h
    · rename_i c hc
      split at h
      · simp at h
      · rename_i h2
        split at h
        · simp at h
        · rename_i i hi
          refine ⟨f.toNat, a.toNat, c, i, by omega, by omega, hc, hi, ?_, ?_⟩
          · exact Decidable.byContradiction fun h => h1 (.inl h)
          · rw [if_neg h2]
set_option maxHeartbeats 8000000 in
theorem usesL_e (hx : TM ext) (m : Md1) (f a mode cls : Int) (hnm : ∀ s, s ∈ m.structs → ∀ f, f ∈ s.fields → f.name.length ≤ 9223372036854775807) : G ext 3 [m.av, .d (.int .i64 f), .d (.int .i64 a), .d (.int .i64 mode), .d (.int .i64 cls)] [] = some (.ret (.d (.bool true)), []) := by
  obtain ⟨b, hb, hb2⟩ := l17_e hx.toTX m hnm
  have ha := alive22_e hx
  rw [G_body hx.clear rfl Tryz.func3 rfl Tryz.results3 hv_3 rfl]
  cases b with
  | false =>
    simp only [Md1.av, Md1.sr, Md1.fr] at hb ⊢
    simp (config := { maxSteps := 4000000 }) (disch := first | (intros; contradiction) | omega) only [go_sem, hb, ha]
  | true =>
    have hm := (hb2 rfl).1
    have h1 := uses_e hx m hm hnm f a
    have h2 := ruses_e hx.toTX m hm f a
    have f1 := fits_e hx.toTX mode cls
    have f2 := rfits_e hx.toTX mode cls
    have c1 := change_e hx.toTX cls
    have c2 := rchange_e hx.toTX cls
    have hul : ((usesM m f a).map useRow).length = (usesM m f a).length := List.length_map _
    have hlen : (usesM m f a).length ≤ 1000 := by
      by_cases h : 0 < (usesM m f a).length
      · obtain ⟨k, q, c, i, _, _, h3, h4, h5, h6⟩ := usesM_some h
        have hmc := List.mem_of_getElem? h3
        have hmi := List.mem_of_getElem? h4
        obtain ⟨g1, g2⟩ := formed_in h5 hmc hmi
        have e1 := (use_reads g1 g2).1
        have e2 := reads_len i
        have e3 := (hm.ins c hmc i hmi).1
        rw [h6]
        omega
      · omega
    have hbig := fun h => usesM_some (m := m) (f := f) (a := a) h
    simp only [Md1.av, Md1.sr, Md1.fr] at hb h1 h2 ⊢
    generalize hus : usesM m f a = us at h1 h2 hul hlen hbig
    simp (config := { maxSteps := 4000000 }) (disch := first | (intros; contradiction) | omega) only [go_sem, hb, h1, h2, not_true_eq_false]
    generalize hL : loopA _ _ _ = L
    apply range_upd hL (by simp (config := { maxSteps := 4000000 }) (disch := first | (intros; contradiction) | omega) only [go_sem] <;> rfl) us useRow (α := Unit) (fun _ _ _ => True) (fun j _ => [(13, .d (.int .i64 j))]) (fun _ _ => []) () (by simp (config := { maxSteps := 4000000 }) (disch := first | (intros; contradiction) | omega) only [go_sem] <;> rfl) trivial ?_ ?_
    · rintro u rest j _ _ hlt hr hget hj _ next ih
      clear hL
      simp only [useRow] at hr
      simp (config := { maxSteps := 4000000 }) (disch := first | (intros; contradiction) | omega) only [go_sem, hlt, hr, wrap64]
      exact ih () _ trivial (by simp (config := { maxSteps := 4000000 }) (disch := first | (intros; contradiction) | omega) only [go_sem] <;> rfl)
    · rintro j _ _ hlt hj next
      clear hL
      by_cases h0 : (0 : Int) < ((us.map useRow).length : Int)
      · obtain ⟨k, q, c, i, rfl, rfl, h3, h4, h5, h6⟩ := hbig (by omega)
        have hmc := List.mem_of_getElem? h3
        have hmi := List.mem_of_getElem? h4
        have hti := tInstr_e hx.toTX m hm h5 hmc hmi
        rw [← h6] at hti
        have hk := (List.getElem?_eq_some_iff.1 h3).1
        have hq := (List.getElem?_eq_some_iff.1 h4).1
        have hr : (m.funcs.map Cd1.row)[k]? = some c.row := by rw [List.getElem?_map, h3]; rfl
        have hr2 : (c.ins.map In1.row)[q]? = some i.row := by rw [List.getElem?_map, h4]; rfl
        simp only [Cd1.row] at hr
        simp only [In1.row] at hr2
        simp only [Cd1.av, In1.av] at hti
        simp (config := { maxSteps := 4000000 }) (disch := first | (intros; contradiction) | omega) only [go_sem, hlt, h0, hr, hr2, hti, f1, f2, c1, c2, ha]
      · simp (config := { maxSteps := 4000000 }) (disch := first | (intros; contradiction) | omega) only [go_sem, hlt, h0, f1, f2, c1, c2, ha]
end Go.Proofs.YticenbkhlifioaaGreat
