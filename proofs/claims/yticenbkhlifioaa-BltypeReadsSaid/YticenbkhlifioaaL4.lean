/- Law 22: BltypeReads answers true. Conditions: none. -/
import Derived.Test.YticenbkhlifioaaL3
set_option linter.unusedSimpArgs false
set_option linter.unusedVariables false
namespace Go.Proofs.Yticenbkhlifioaa
open Go Go.Ab
variable {ext : Sem'}
set_option maxHeartbeats 8000000 in
theorem readsL_e (hx : TM ext) (m : Md1) (f : Int) (hnm : ∀ s, s ∈ m.structs → ∀ f, f ∈ s.fields → f.name.length ≤ 9223372036854775807) : G ext 4 [m.av, .d (.int .i64 f)] [] = some (.ret (.d (.bool true)), []) := by
  have hcl : (m.funcs.map Cd1.row).length = m.funcs.length := List.length_map _
  obtain ⟨b, hb, hb2⟩ := l17_e hx.toTX m hnm
  have ha := alive22_e hx
  rw [G_body hx.clear rfl Try.func4 rfl Try.results4 hv_4 rfl]
  cases b with
  | false =>
    simp only [Md1.av, Md1.sr, Md1.fr] at hb ⊢
    simp (config := { maxSteps := 4000000 }) (disch := first | (intros; contradiction) | omega) only [go_sem, hb, ha]
  | true =>
    have hm := (hb2 rfl).1
    have hrf := rformed_e hx.toTX m hm
    by_cases h1 : formedP m = 0
    · rw [h1] at hrf
      have hus := fun (k q : Nat) => uses_e hx m hm hnm k q
      simp only [Md1.av, Md1.sr, Md1.fr] at hb hrf hus ⊢
      by_cases h2 : f < 0
      · simp (config := { maxSteps := 4000000 }) (disch := first | (intros; contradiction) | omega) only [go_sem, hb, ha, hrf, h2]
      · by_cases h3 : ((m.funcs.map Cd1.row).length : Int) ≤ f
        · simp (config := { maxSteps := 4000000 }) (disch := first | (intros; contradiction) | omega) only [go_sem, hb, ha, hrf, h2, h3]
        · have h0 : 0 ≤ f := by omega
          obtain ⟨k, rfl⟩ := Int.eq_ofNat_of_zero_le h0
          have hlt : k < m.funcs.length := by omega
          have hget := List.getElem?_eq_getElem hlt
          have hr := map_at (f := Cd1.row) hlt
          have hmem := List.getElem_mem hlt
          generalize m.funcs[k] = c at hr hmem hget
          have hil : (c.ins.map In1.row).length = c.ins.length := List.length_map _
          have hbi := (hm.vars c hmem).2.1
          simp only [Cd1.row] at hr
          simp (config := { maxSteps := 4000000 }) (disch := first | (intros; contradiction) | omega) only [go_sem, hb, ha, hrf, h2, h3]
          generalize hL : loopA _ _ _ = L
          apply range_upd hL (by simp (config := { maxSteps := 4000000 }) (disch := first | (intros; contradiction) | omega) only [go_sem] <;> rfl) c.ins In1.row (α := Unit) (fun _ _ _ => True) (fun q _ => [(5, .d (.int .i64 q)), (6, .any), (7, .any), (8, .any), (9, .any), (10, .any)]) (fun _ _ => []) () (by simp (config := { maxSteps := 4000000 }) (disch := first | (intros; contradiction) | omega) only [go_sem] <;> rfl) trivial ?_ ?_
          · rintro i rest2 q _ _ hlt2 hr2 hget2 hq _ next2 ih2
            clear hL
            have hmi := List.mem_of_getElem? hget2
            obtain ⟨f1, f2⟩ := formed_in h1 hmem hmi
            have hin := fun u (hu : u ∈ usesL i) => use_in f1 f2 hu
            have hurd := use_reads f1 f2
            have e3 := (hm.ins c hmem i hmi).1
            have e2 := reads_len i
            have hul : (usesL i).length ≤ 1000 := by have := hurd.1; omega
            have hu := hus k q
            rw [usesM_at h1 hget hget2] at hu
            have hrd := rreads_e hx.toTX i (by omega)
            have hull : ((usesL i).map useRow).length = (usesL i).length := List.length_map _
            have hrll : ((readsP i).map rowI).length = (readsP i).length := List.length_map _
            have hle : ¬ (((readsP i).map rowI).length : Int) < (((usesL i).map useRow).length : Int) := by have := hurd.1; omega
            simp only [In1.row, ints] at hr2
            simp only [In1.av, ints] at hrd
            simp (config := { maxSteps := 4000000 }) (disch := first | (intros; contradiction) | omega) only [go_sem, hlt2, hr, hr2, hu, hrd, hle]
            generalize hL : loopA _ _ _ = L
            apply range_upd hL (by simp (config := { maxSteps := 4000000 }) (disch := first | (intros; contradiction) | omega) only [go_sem] <;> rfl) (usesL i) useRow (α := Unit) (fun _ _ _ => True) (fun j _ => [(8, .d (.int .i64 j)), (9, .any), (10, .any)]) (fun _ _ => []) () (by simp (config := { maxSteps := 4000000 }) (disch := first | (intros; contradiction) | omega) only [go_sem] <;> rfl) trivial ?_ ?_
            · rintro u rest3 j _ _ hlt3 hr3 hget3 hj _ next3 ih3
              clear hL
              have hmu := List.mem_of_getElem? hget3
              have hiv := hin u hmu
              have hcr := clsAt_at hiv
              have h0 := (inV_iff.1 hiv).1
              obtain ⟨g1, g2, g3, g4⟩ := hurd.2 u hmu
              rw [g2] at hcr
              have g3' : ¬ u.2 < 1 := by omega
              have g4' : ¬ 3 < u.2 := by omega
              simp only [useRow] at hr3
              simp (config := { maxSteps := 4000000 }) (disch := first | (intros; contradiction) | omega) only [go_sem, hlt3]
              generalize hL : loopA _ _ _ = L
              apply range_upd hL (by simp (config := { maxSteps := 4000000 }) (disch := first | (intros; contradiction) | omega) only [go_sem] <;> rfl) (readsP i) rowI (α := Bool) (fun rest n b => b = true ∨ u.1 ∈ rest) (fun n b => [(9, .d (.bool b)), (10, .d (.int .i64 n))]) (fun _ _ => []) false (by simp (config := { maxSteps := 4000000 }) (disch := first | (intros; contradiction) | omega) only [go_sem] <;> rfl) (.inr g1) ?_ ?_
              · rintro x rest4 n b hb4 hlt4 hr4 hget4 hn _ next4 ih4
                clear hL
                simp only [rowI] at hr4
                cases b with
                | true =>
                  simp (config := { maxSteps := 4000000 }) (disch := first | (intros; contradiction) | omega) only [go_sem, hlt4, hr4, hr3, wrap64]
                  exact ih4 true _ (.inl rfl) (by simp (config := { maxSteps := 4000000 }) (disch := first | (intros; contradiction) | omega) only [go_sem] <;> rfl)
                | false =>
                  by_cases hx1 : x = u.1
                  · simp (config := { maxSteps := 4000000 }) (disch := first | (intros; contradiction) | omega) only [go_sem, hlt4, hr4, hr3, hx1, wrap64]
                    exact ih4 true _ (.inl rfl) (by simp (config := { maxSteps := 4000000 }) (disch := first | (intros; contradiction) | omega) only [go_sem] <;> rfl)
                  · simp (config := { maxSteps := 4000000 }) (disch := first | (intros; contradiction) | omega) only [go_sem, hlt4, hr4, hr3, hx1, wrap64]
                    exact ih4 false _ (.inr ((List.mem_cons.1 (hb4.resolve_left (by simp))).resolve_left (fun h => hx1 h.symm))) (by simp (config := { maxSteps := 4000000 }) (disch := first | (intros; contradiction) | omega) only [go_sem] <;> rfl)
              · rintro n b hb4 hlt4 hn next4
                clear hL
                have hb4 : b = true := hb4.resolve_right (by simp)
                subst hb4
                simp (config := { maxSteps := 4000000 }) (disch := first | (intros; contradiction) | omega) only [go_sem, hlt4, hr3, hr, hcr, h0, g3', g4', wrap64]
                exact ih3 () _ trivial (by simp (config := { maxSteps := 4000000 }) (disch := first | (intros; contradiction) | omega) only [go_sem] <;> rfl)
            · rintro j _ _ hlt3 hj next3
              clear hL
              simp (config := { maxSteps := 4000000 }) (disch := first | (intros; contradiction) | omega) only [go_sem, hlt3, wrap64]
              exact ih2 () _ trivial (by simp (config := { maxSteps := 4000000 }) (disch := first | (intros; contradiction) | omega) only [go_sem] <;> rfl)
          · rintro q _ _ hlt2 hq next2
            clear hL
            simp (config := { maxSteps := 4000000 }) (disch := first | (intros; contradiction) | omega) only [go_sem, hlt2, hr, ha]
    · simp only [Md1.av, Md1.sr, Md1.fr] at hb hrf ⊢
      simp (config := { maxSteps := 4000000 }) (disch := first | (intros; contradiction) | omega) only [go_sem, hb, ha, hrf, h1]
end Go.Proofs.Yticenbkhlifioaa
