/- bltype: the uses of an instruction of a program. Conditions: none. -/
import Derived.Test.YticenbkhlifioaaGreatM17
set_option linter.unusedSimpArgs false
set_option linter.unusedVariables false
namespace Go.Proofs.YticenbkhlifioaaGreat
open Go Go.Ab
variable {ext : Sem'}
theorem formed_modes {m : Md1} (h : formedP m = 0) {c : Cd1} (hc : c ∈ m.funcs) {i : In1} (hi : i ∈ c.ins) : i.mode.length = (modesP c i).length ∧ instrP m c i = 0 := by
  obtain ⟨hri, _, hforms⟩ := formedP_zero h
  obtain ⟨_, _, hcodes⟩ := right_codes hri
  exact ⟨modeOk_len ((formedC_zero (hforms c hc)).2.2 i hi), (code_ins (hcodes c hc)).2.2.2 i hi⟩
theorem tInstr_e (hx : TX ext) (m : Md1) (hm : LightM m) (h : formedP m = 0) {c : Cd1} (hc : c ∈ m.funcs) {i : In1} (hi : i ∈ c.ins) : G ext 8 [c.av, i.av] [] = some (.ret (.d (.sl ((usesL i).map useRow))), []) := by
  obtain ⟨h1, h2⟩ := formed_modes h hc hi
  obtain ⟨k1, k2, _⟩ := hm.ins c hc i hi
  by_cases h15 : i.op = 15
  · refine tInstr3_e hx c i h15 (by omega) ?_
    rw [h1]
    unfold modesP
    rw [if_neg (by omega), if_neg (by omega), if_pos h15]
    simp
  · by_cases h9 : i.op = 9 ∨ i.op = 18
    · exact tInstr2_e hx c i h9 (by omega)
    · refine tInstr1_e hx c i (by omega) (by omega) h15 (fun h10 => ?_)
      rw [h1]
      unfold modesP
      rw [if_pos (by omega)]
      simp
def usesM (m : Md1) (f a : Int) : List (Int × Int) :=
  if formedP m ≠ 0 ∨ f < 0 ∨ (m.funcs.length : Int) ≤ f then [] else
  match m.funcs[f.toNat]? with
  | none => []
  | some c => if a < 0 ∨ (c.ins.length : Int) ≤ a then [] else match c.ins[a.toNat]? with
    | none => []
    | some i => usesL i
set_option maxHeartbeats 1000000 in
theorem uses_e (hx : TM ext) (m : Md1) (hm : LightM m) (hnm : ∀ s, s ∈ m.structs → ∀ f, f ∈ s.fields → f.name.length ≤ 9223372036854775807) (f a : Int) : G ext 6 [m.av, .d (.int .i64 f), .d (.int .i64 a)] [] = some (.ret (.d (.sl ((usesM m f a).map useRow))), []) := by
  have hcl : (m.funcs.map Cd1.row).length = m.funcs.length := List.length_map _
  have hfo := bformed_e hx m hm hnm
  rw [G_body hx.clear rfl Tryz.func6 rfl Tryz.results6 hv_6 rfl]
  unfold usesM
  simp only [Md1.av, Md1.sr, Md1.fr] at hfo ⊢
  by_cases h1 : formedP m = 0
  · by_cases h2 : f < 0
    · rw [if_pos (by omega)]
      have h1 := eq_true h1
      simp (config := { maxSteps := 4000000 }) (disch := first | (intros; contradiction) | omega) only [go_sem, hfo, h1, h2, List.map_nil]
    · by_cases h3 : ((m.funcs.map Cd1.row).length : Int) ≤ f
      · rw [if_pos (by omega)]
        have h1 := eq_true h1
        simp (config := { maxSteps := 4000000 }) (disch := first | (intros; contradiction) | omega) only [go_sem, hfo, h1, h2, h3, List.map_nil]
      · rw [if_neg (by omega)]
        have hlt : f.toNat < m.funcs.length := by omega
        have hr := map_at (f := Cd1.row) hlt
        have hmem := List.getElem_mem hlt
        rw [List.getElem?_eq_getElem hlt]
        generalize m.funcs[f.toNat] = c at hr hmem ⊢
        simp only [Cd1.row] at hr
        have hil : (c.ins.map In1.row).length = c.ins.length := List.length_map _
        have h0 : 0 ≤ f := by omega
        by_cases h4 : a < 0
        · simp only
          rw [if_pos (by omega)]
          have h1 := eq_true h1
          simp (config := { maxSteps := 4000000 }) (disch := first | (intros; contradiction) | omega) only [go_sem, hfo, h1, h2, h3, h4, h0, hr, List.map_nil]
        · by_cases h5 : ((c.ins.map In1.row).length : Int) ≤ a
          · simp only
            rw [if_pos (by omega)]
            have h1 := eq_true h1
            simp (config := { maxSteps := 4000000 }) (disch := first | (intros; contradiction) | omega) only [go_sem, hfo, h1, h2, h3, h4, h5, h0, hr, List.map_nil]
          · simp only
            rw [if_neg (by omega)]
            have hlt2 : a.toNat < c.ins.length := by omega
            have hr2 := map_at (f := In1.row) hlt2
            have hi := tInstr_e hx.toTX m hm h1 hmem (List.getElem_mem hlt2)
            rw [List.getElem?_eq_getElem hlt2]
            generalize c.ins[a.toNat] = i at hr2 hi ⊢
            simp only [In1.row] at hr2
            simp only [Cd1.av, In1.av] at hi
            have h6 : 0 ≤ a := by omega
            have h1 := eq_true h1
            simp (config := { maxSteps := 4000000 }) (disch := first | (intros; contradiction) | omega) only [go_sem, hfo, h1, h2, h3, h4, h5, h0, h6, hr, hr2, hi]
  · rw [if_pos (by omega)]
    simp (config := { maxSteps := 4000000 }) (disch := first | (intros; contradiction) | omega) only [go_sem, hfo, h1, List.map_nil]
end Go.Proofs.YticenbkhlifioaaGreat
