/- Law 22: BltypeSafe answers true. Conditions: none. -/
import Derived.Test.YticenbkhlifioaaL2
import Derived.Test.YticenbkhlifioaaP22
set_option linter.unusedSimpArgs false
set_option linter.unusedVariables false
namespace Go.Proofs.Yticenbkhlifioaa
open Go Go.Ab
variable {ext : Sem'}
theorem badI_none {m : Md1} {c : Cd1} : ∀ {l : List In1} {k : Nat}, badI m c l k = none → ∀ i, i ∈ l → tinstrP m c i = true
  | [], _, _, i, hi => by cases hi
  | j :: l, k, h, i, hi => by
    simp only [badI] at h
    split at h
    · rename_i hj
      rcases List.mem_cons.1 hi with rfl | hi
      · exact hj
      · exact badI_none h i hi
    · cases h
theorem badC_none {m : Md1} : ∀ {l : List Cd1} {k : Nat}, badC m l k = none → ∀ c, c ∈ l → ∀ i, i ∈ c.ins → tinstrP m c i = true
  | [], _, _, c, hc => by cases hc
  | d :: l, k, h, c, hc => by
    simp only [badC] at h
    split at h
    · cases h
    · rename_i hj
      rcases List.mem_cons.1 hc with rfl | hc
      · exact badI_none hj
      · exact badC_none h c hc
theorem usesM_at {m : Md1} (h : formedP m = 0) {k q : Nat} {c : Cd1} {i : In1} (hk : m.funcs[k]? = some c) (hq : c.ins[q]? = some i) : usesM m k q = usesL i := by
  have h1 := (List.getElem?_eq_some_iff.1 hk).1
  have h2 := (List.getElem?_eq_some_iff.1 hq).1
  unfold usesM
  rw [if_neg (by omega), Int.toNat_natCast, hk]
  simp only
  rw [if_neg (by omega), Int.toNat_natCast, hq]
/-- What is known of an instruction of a formed program. -/
theorem formed_in {m : Md1} (h : formedP m = 0) {c : Cd1} (hc : c ∈ m.funcs) {i : In1} (hi : i ∈ c.ins) : instrP m c i = 0 ∧ modeOk (modesP c i) i.mode = true := by
  obtain ⟨hri, _, hforms⟩ := formedP_zero h
  obtain ⟨_, _, hcodes⟩ := right_codes hri
  exact ⟨(code_ins (hcodes c hc)).2.2.2 i hi, (formedC_zero (hforms c hc)).2.2 i hi⟩
theorem use_in {m : Md1} {c : Cd1} {i : In1} (hi : instrP m c i = 0) (hm : modeOk (modesP c i) i.mode = true) {u : Int × Int} (hu : u ∈ usesL i) : inV c u.1 = true := by
  have h1 := ((use_reads hi hm).2 u hu).1
  have h2 := (instr_uses hi).2
  refine List.all_eq_true.1 h2 _ ?_
  unfold usesP
  simp [h1]
set_option maxHeartbeats 8000000 in
theorem safe_e (hx : TM ext) (m : Md1) (hnm : ∀ s, s ∈ m.structs → ∀ f, f ∈ s.fields → f.name.length ≤ 9223372036854775807) : G ext 3 [m.av] [] = some (.ret (.d (.bool true)), []) := by
  have hcl : (m.funcs.map Cd1.row).length = m.funcs.length := List.length_map _
  obtain ⟨b, hb, hb2⟩ := l17_e hx.toTX m hnm
  have ha := alive22_e hx
  rw [G_body hx.clear rfl Try.func3 rfl Try.results3 hv_3 rfl]
  cases b with
  | false =>
    simp only [Md1.av, Md1.sr, Md1.fr] at hb ⊢
    simp (config := { maxSteps := 4000000 }) (disch := first | (intros; contradiction) | omega) only [go_sem, hb, ha]
  | true =>
    have hm := (hb2 rfl).1
    have hrf := rformed_e hx.toTX m hm
    have hck := check_e hx m hm hnm
    have hus := fun (k q : Nat) => uses_e hx m hm hnm k q
    by_cases h1 : formedP m = 0
    · unfold checkA at hck
      rw [if_pos h1] at hck
      rw [h1] at hrf
      cases hbad : badC m m.funcs 0 with
      | some x =>
        rw [hbad] at hck
        simp only [diagA] at hck
        simp only [Md1.av, Md1.sr, Md1.fr] at hb hrf hck ⊢
        simp (config := { maxSteps := 4000000 }) (disch := first | (intros; contradiction) | omega) only [go_sem, hb, ha, hrf, hck]
      | none =>
        rw [hbad] at hck
        have hty := badC_none hbad
        simp only [diagA] at hck
        have hf70 := hm.funcs
        simp only [Md1.av, Md1.sr, Md1.fr] at hb hrf hck hus ⊢
        simp (config := { maxSteps := 4000000 }) (disch := first | (intros; contradiction) | omega) only [go_sem, hb, ha, hrf, hck]
        generalize hL : loopA _ _ _ = L
        apply range_upd hL (by simp (config := { maxSteps := 4000000 }) (disch := first | (intros; contradiction) | omega) only [go_sem] <;> rfl) m.funcs Cd1.row (α := Unit) (fun _ _ _ => True) (fun k _ => [(3, .d (.int .i64 k))]) (fun _ _ => []) () (by simp (config := { maxSteps := 4000000 }) (disch := first | (intros; contradiction) | omega) only [go_sem] <;> rfl) trivial ?_ ?_
        · rintro c rest k _ _ hlt hr hget hk _ next ih
          clear hL
          have hmem := List.mem_of_getElem? hget
          have hil : (c.ins.map In1.row).length = c.ins.length := List.length_map _
          have hbi := (hm.vars c hmem).2.1
          simp only [Cd1.row] at hr
          simp (config := { maxSteps := 4000000 }) (disch := first | (intros; contradiction) | omega) only [go_sem, hlt, hr]
          generalize hL : loopA _ _ _ = L
          apply range_upd hL (by simp (config := { maxSteps := 4000000 }) (disch := first | (intros; contradiction) | omega) only [go_sem] <;> rfl) c.ins In1.row (α := Unit) (fun _ _ _ => True) (fun q _ => [(4, .d (.int .i64 q)), (5, .any), (6, .any), (7, .any)]) (fun _ _ => []) () (by simp (config := { maxSteps := 4000000 }) (disch := first | (intros; contradiction) | omega) only [go_sem] <;> rfl) trivial ?_ ?_
          · rintro i rest2 q _ _ hlt2 hr2 hget2 hq _ next2 ih2
            clear hL
            have hmi := List.mem_of_getElem? hget2
            obtain ⟨f1, f2⟩ := formed_in h1 hmem hmi
            have hsafe := use_safe f1 f2 (hty c hmem i hmi)
            have hin := fun u (hu : u ∈ usesL i) => use_in f1 f2 hu
            have hul : (usesL i).length ≤ 1000 := by
              have e1 := (use_reads f1 f2).1
              have e2 := reads_len i
              have e3 := (hm.ins c hmem i hmi).1
              omega
            have hu := hus k q
            rw [usesM_at h1 hget hget2] at hu
            have hull : ((usesL i).map useRow).length = (usesL i).length := List.length_map _
            simp (config := { maxSteps := 4000000 }) (disch := first | (intros; contradiction) | omega) only [go_sem, hlt2, hr, hu]
            generalize hL : loopA _ _ _ = L
            apply range_upd hL (by simp (config := { maxSteps := 4000000 }) (disch := first | (intros; contradiction) | omega) only [go_sem] <;> rfl) (usesL i) useRow (α := Unit) (fun _ _ _ => True) (fun j _ => [(6, .d (.int .i64 j)), (7, .any)]) (fun _ _ => []) () (by simp (config := { maxSteps := 4000000 }) (disch := first | (intros; contradiction) | omega) only [go_sem] <;> rfl) trivial ?_ ?_
            · rintro u rest3 j _ _ hlt3 hr3 hget3 hj _ next3 ih3
              clear hL
              have hmu := List.mem_of_getElem? hget3
              have hiv := hin u hmu
              have hcr := clsAt_at hiv
              have h0 := (inV_iff.1 hiv).1
              obtain ⟨s3, s2⟩ := hsafe u hmu
              simp only [useRow] at hr3
              by_cases k3 : u.2 = 3
              · have e1 := s3 k3
                simp (config := { maxSteps := 4000000 }) (disch := first | (intros; contradiction) | omega) only [go_sem, hlt3, hr3, hr, hcr, h0, k3, e1, wrap64]
                exact ih3 () _ trivial (by simp (config := { maxSteps := 4000000 }) (disch := first | (intros; contradiction) | omega) only [go_sem] <;> rfl)
              · by_cases k2 : u.2 = 2
                · by_cases e1 : clsAt c u.1 = 1
                  · simp (config := { maxSteps := 4000000 }) (disch := first | (intros; contradiction) | omega) only [go_sem, hlt3, hr3, hr, hcr, h0, k3, k2, e1, wrap64]
                    exact ih3 () _ trivial (by simp (config := { maxSteps := 4000000 }) (disch := first | (intros; contradiction) | omega) only [go_sem] <;> rfl)
                  · have e2 := (s2 k2).resolve_left e1
                    simp (config := { maxSteps := 4000000 }) (disch := first | (intros; contradiction) | omega) only [go_sem, hlt3, hr3, hr, hcr, h0, k3, k2, e1, e2, wrap64]
                    exact ih3 () _ trivial (by simp (config := { maxSteps := 4000000 }) (disch := first | (intros; contradiction) | omega) only [go_sem] <;> rfl)
                · simp (config := { maxSteps := 4000000 }) (disch := first | (intros; contradiction) | omega) only [go_sem, hlt3, hr3, hr, hcr, h0, k3, k2, wrap64]
                  exact ih3 () _ trivial (by simp (config := { maxSteps := 4000000 }) (disch := first | (intros; contradiction) | omega) only [go_sem] <;> rfl)
            · rintro j _ _ hlt3 hj next3
              clear hL
              simp (config := { maxSteps := 4000000 }) (disch := first | (intros; contradiction) | omega) only [go_sem, hlt3, wrap64]
              exact ih2 () _ trivial (by simp (config := { maxSteps := 4000000 }) (disch := first | (intros; contradiction) | omega) only [go_sem] <;> rfl)
          · rintro q _ _ hlt2 hq next2
            clear hL
            simp (config := { maxSteps := 4000000 }) (disch := first | (intros; contradiction) | omega) only [go_sem, hlt2, hr, wrap64]
            exact ih () _ trivial (by simp (config := { maxSteps := 4000000 }) (disch := first | (intros; contradiction) | omega) only [go_sem] <;> rfl)
        · rintro k _ _ hlt hk next
          clear hL
          simp (config := { maxSteps := 4000000 }) (disch := first | (intros; contradiction) | omega) only [go_sem, hlt, ha]
    · unfold checkA at hck
      simp only [Md1.av, Md1.sr, Md1.fr] at hb hrf ⊢
      simp (config := { maxSteps := 4000000 }) (disch := first | (intros; contradiction) | omega) only [go_sem, hb, ha, hrf, h1]
end Go.Proofs.Yticenbkhlifioaa
