/- A solver: New, Assume, Model, Steps. Conditions: none. -/
import Derived.Test.YtchedkjlhjfadaaS17
set_option linter.unusedSimpArgs false
set_option linter.unusedVariables false
namespace Go.Proofs.Ytchedkjlhjfadaa
open Go Go.Ab
variable {ext : Sem'}
/-- What is known besides: of find, and of Concat. -/
structure TXS (ext : Sem') : Prop extends TX ext where
  find0 : ∀ (f : Fm) (held : Option (List Int)) (s : Int) (lits : List Int), ext 57 [.ptr 0 0, .d (.sl (lits.map rowI))] [solO f false held s] = some (.ret (.tuple [.d (.sl []), .d (.bool false)]), [solO f false held s])
  find1 : ∀ (n : Nat) (fl : List (List Int)) (held : Option (List Int)) (s : Int) (lits : List Int), n ≤ 10 → Short ⟨n, fl⟩ → rightP ⟨n, fl⟩ = true → 0 ≤ s ∧ s ≤ 10000000000000 → lits.length ≤ 1000000 →
    ∃ m b s', ext 57 [.ptr 0 0, .d (.sl (lits.map rowI))] [solO ⟨n, fl⟩ true held s] = some (.ret (.tuple [.d (.sl (m.map rowB)), .d (.bool b)]), [solO ⟨n, fl⟩ true held s']) ∧ FindR n fl lits m b ∧ s ≤ s' ∧ s' ≤ s + 10000 ∧ (b = true → 0 < n → s < s')
  conc : ∀ a b : List Int, a.length ≤ 10000 → b.length ≤ 10000 → ext 58 [.d (.sl ([a, b].map rowC))] [] = some (.ret (.d (.sl ((a ++ b).map rowI))), [])
def heldL (o : Option (List Int)) : List Int := o.getD []
theorem snew_e (hx : TX ext) (f : Fm) (hs : Short f) : G ext 31 [f.av] [] = some (.ret (.ptr 0 0), [solO f (rightP f) none 0]) := by
  have hrt := right_e hx f hs
  simp only [Fm.av] at hrt
  rw [G_body hx.clear rfl Try.func31 rfl Try.results31 hv_31 rfl]
  simp only [Fm.av]
  unfold solO hAV
  simp (config := { maxSteps := 4000000 }) (disch := first | (intros; contradiction) | omega) only [go_sem, hrt, List.map_nil]
  done
theorem assume0_e (hx : TXS ext) (f : Fm) (held : Option (List Int)) (s : Int) (l : List Int) (h1 : (heldL held).length ≤ 10000) (h2 : l.length ≤ 10000) : G ext 33 [.ptr 0 0, .d (.sl (l.map rowI))] [solO f false held s] = some (.ret (.d (.bool false)), [solO f false held s]) := by
  have hc := G_ext (hx.conc (heldL held) l h1 h2)
  have hf := G_ext (hx.find0 f held s (heldL held ++ l))
  simp only [List.map_cons, List.map_nil, rowC, solO] at hc hf
  have hx := hx.toTX
  rw [G_body hx.clear rfl Try.func33 rfl Try.results33 hv_33 rfl]
  unfold solO
  cases held with
  | none =>
    simp only [hAV, heldL, Option.getD_none, List.map_nil, List.nil_append] at hc hf ⊢
    simp (config := { maxSteps := 4000000 }) (disch := first | (intros; contradiction) | omega) only [go_sem, hc, hf]
  | some held =>
    simp only [hAV, heldL, Option.getD_some] at hc hf ⊢
    simp (config := { maxSteps := 4000000 }) (disch := first | (intros; contradiction) | omega) only [go_sem, hc, hf]
theorem assume1_e (hx : TXS ext) (n : Nat) (fl : List (List Int)) (held : Option (List Int)) (s : Int) (l : List Int) (h1 : (heldL held).length ≤ 10000) (h2 : l.length ≤ 10000) (hn : n ≤ 10) (hs : Short ⟨n, fl⟩) (hr : rightP ⟨n, fl⟩ = true) (hs1 : 0 ≤ s ∧ s ≤ 10000000000000) :
    ∃ m b s', G ext 33 [.ptr 0 0, .d (.sl (l.map rowI))] [solO ⟨n, fl⟩ true held s] = some (.ret (.d (.bool b)), [solO ⟨n, fl⟩ true (if b = true then some (heldL held ++ l) else held) s']) ∧ FindR n fl (heldL held ++ l) m b ∧ s ≤ s' ∧ s' ≤ s + 10000 ∧ (b = true → 0 < n → s < s') := by
  have hc := G_ext (hx.conc (heldL held) l h1 h2)
  obtain ⟨m, b, s', hf, hR, hs2, hs3, hs4⟩ := hx.find1 n fl held s (heldL held ++ l) hn hs hr hs1 (by rw [List.length_append]; omega)
  have hf := G_ext hf
  refine ⟨m, b, s', ?_, hR, hs2, hs3, hs4⟩
  simp only [List.map_cons, List.map_nil, rowC, solO] at hc hf
  have hx := hx.toTX
  rw [G_body hx.clear rfl Try.func33 rfl Try.results33 hv_33 rfl]
  unfold solO
  cases held with
  | none =>
    simp only [hAV, heldL, Option.getD_none, List.map_nil, List.nil_append] at hc hf ⊢
    cases b with
    | true => simp (config := { maxSteps := 4000000 }) (disch := first | (intros; contradiction) | omega) only [go_sem, hc, hf, hAV]
    | false => simp (config := { maxSteps := 4000000 }) (disch := first | (intros; contradiction) | omega) only [go_sem, hc, hf, Bool.false_eq_true, hAV]
  | some held =>
    simp only [hAV, heldL, Option.getD_some] at hc hf ⊢
    cases b with
    | true => simp (config := { maxSteps := 4000000 }) (disch := first | (intros; contradiction) | omega) only [go_sem, hc, hf, hAV]
    | false => simp (config := { maxSteps := 4000000 }) (disch := first | (intros; contradiction) | omega) only [go_sem, hc, hf, Bool.false_eq_true, hAV]
theorem assumeN_e (hx : TX ext) (l : List Int) : G ext 33 [.d .nilp, .d (.sl (l.map rowI))] [] = some (.ret (.d (.bool false)), []) := by
  rw [G_body hx.clear rfl Try.func33 rfl Try.results33 hv_33 rfl]
  simp (config := { maxSteps := 4000000 }) (disch := first | (intros; contradiction) | omega) only [go_sem]
theorem model0_e (hx : TXS ext) (f : Fm) (held : Option (List Int)) (s : Int) : G ext 34 [.ptr 0 0] [solO f false held s] = some (.ret (.d (.sl [])), [solO f false held s]) := by
  have hf := G_ext (hx.find0 f held s (heldL held))
  simp only [solO] at hf
  have hx := hx.toTX
  rw [G_body hx.clear rfl Try.func34 rfl Try.results34 hv_34 rfl]
  unfold solO
  cases held with
  | none =>
    simp only [hAV, heldL, Option.getD_none, List.map_nil] at hf ⊢
    simp (config := { maxSteps := 4000000 }) (disch := first | (intros; contradiction) | omega) only [go_sem, hf]
  | some held =>
    simp only [hAV, heldL, Option.getD_some] at hf ⊢
    simp (config := { maxSteps := 4000000 }) (disch := first | (intros; contradiction) | omega) only [go_sem, hf]
theorem model1_e (hx : TXS ext) (n : Nat) (fl : List (List Int)) (held : Option (List Int)) (s : Int) (h1 : (heldL held).length ≤ 10000) (hn : n ≤ 10) (hs : Short ⟨n, fl⟩) (hr : rightP ⟨n, fl⟩ = true) (hs1 : 0 ≤ s ∧ s ≤ 10000000000000) :
    ∃ m b s', G ext 34 [.ptr 0 0] [solO ⟨n, fl⟩ true held s] = some (.ret (.d (.sl (m.map rowB))), [solO ⟨n, fl⟩ true held s']) ∧ FindR n fl (heldL held) m b ∧ s ≤ s' ∧ s' ≤ s + 10000 ∧ (b = true → 0 < n → s < s') := by
  obtain ⟨m, b, s', hf, hR, hs2, hs3, hs4⟩ := hx.find1 n fl held s (heldL held) hn hs hr hs1 (by omega)
  have hf := G_ext hf
  refine ⟨m, b, s', ?_, hR, hs2, hs3, hs4⟩
  simp only [solO] at hf
  have hx := hx.toTX
  rw [G_body hx.clear rfl Try.func34 rfl Try.results34 hv_34 rfl]
  unfold solO
  cases held with
  | none =>
    simp only [hAV, heldL, Option.getD_none, List.map_nil] at hf ⊢
    simp (config := { maxSteps := 4000000 }) (disch := first | (intros; contradiction) | omega) only [go_sem, hf]
  | some held =>
    simp only [hAV, heldL, Option.getD_some] at hf ⊢
    simp (config := { maxSteps := 4000000 }) (disch := first | (intros; contradiction) | omega) only [go_sem, hf]
theorem modelN_e (hx : TX ext) : G ext 34 [.d .nilp] [] = some (.ret (.d (.sl [])), []) := by
  rw [G_body hx.clear rfl Try.func34 rfl Try.results34 hv_34 rfl]
  simp (config := { maxSteps := 4000000 }) (disch := first | (intros; contradiction) | omega) only [go_sem]
theorem steps_e (hx : TX ext) (f : Fm) (r : Bool) (held : Option (List Int)) (s : Int) : G ext 36 [.ptr 0 0] [solO f r held s] = some (.ret (.d (.int .i64 s)), [solO f r held s]) := by
  rw [G_body hx.clear rfl Try.func36 rfl Try.results36 hv_36 rfl]
  unfold solO
  simp (config := { maxSteps := 4000000 }) (disch := first | (intros; contradiction) | omega) only [go_sem, hAV_refs, hAV_ren]
theorem stepsN_e (hx : TX ext) : G ext 36 [.d .nilp] [] = some (.ret (.d (.int .i64 0)), []) := by
  rw [G_body hx.clear rfl Try.func36 rfl Try.results36 hv_36 rfl]
  simp (config := { maxSteps := 4000000 }) (disch := first | (intros; contradiction) | omega) only [go_sem]
end Go.Proofs.Ytchedkjlhjfadaa
