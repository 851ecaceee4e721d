/- Run begins with an empty region; what a law reads. Conditions: none. -/
import Derived.Test.YtkflggjdlflndaaGreatZL
import Derived.Test.YtkflggjdlflndaaGreatAbX8
import Derived.Test.YtkflggjdlflndaaGreatMod
set_option linter.unusedSimpArgs false
set_option linter.unusedVariables false
namespace Go.Proofs.YtkflggjdlflndaaGreat
open Go Go.Ab
/-- Run as it is, behind all that is known of the library. -/
noncomputable def extT : Sem' := fun f as0 H => if f = 11 then dropR (G extZ) f as0 H else extB f as0 H
theorem extT_ok : Sound Tryz.prog extT := by
  intro f as0 H out H' h
  unfold extT at h
  split at h
  · exact dropR_ok rfl (G_ok extZ_ok) f as0 H out H' h
  · exact extB_ok f as0 H out H' h
theorem extZ_run : ∀ xs H, extZ 11 xs H = none := by
  intro xs H
  unfold extZ
  rw [if_neg (by decide)]
  unfold extB
  rw [if_neg (by decide), if_neg (by decide)]
theorem extT_t1 : T1 extT := by
  refine t1_of (fun f xs H h => ?_) (fun xs H => ?_) (fun xs H => ?_)
  · unfold extT
    rw [if_neg]
    · exact extB_t1.clear f xs H h
    · rintro rfl
      cases h
  · unfold extT
    rw [if_neg (by decide)]
    rfl
  · unfold extT
    rw [if_neg (by decide)]
    unfold extB
    rw [if_neg (by decide), if_pos rfl]
theorem outV_plain (k c st lf : Int) (o : List Int) : refs (outV k c o st lf) = [] ∧ hasRp (outV k c o st lf) = false := by
  unfold outV
  constructor <;> simp [refs, refsAL, hasRp, hasRpL]
theorem drop_plain {c : AV} {H : List AObj} (h : refs c = [] ∧ hasRp c = false) : dropK (some (.ret c, H)) = some (.ret c, []) := by
  unfold dropK
  exact if_pos h
theorem extT_t4 : T4 extT := by
  refine ⟨extT_t1.toTM, fun m inp fails fuel hl h1 h2 h3 h4 => ?_⟩
  unfold extT
  rw [if_pos rfl]
  unfold runO
  by_cases hr : rightP m = 0
  · rw [if_pos hr]
    have h := run_right extZ_t3 extZ_run hl hr inp fails [] h1 h2 h3 h4
    show dropK (G extZ 11 _ [.reg (rgA [])]) = _
    rw [h]
    exact drop_plain (outV_plain (runM fuel.toNat (mc0 m inp fails [])).oc.kind (runM fuel.toNat (mc0 m inp fails [])).oc.code (runM fuel.toNat (mc0 m inp fails [])).oc.steps (runM fuel.toNat (mc0 m inp fails [])).oc.left (runM fuel.toNat (mc0 m inp fails [])).oc.out)
  · rw [if_neg hr]
    have h := run_bad extZ_t3 extZ_run m hl inp fails fuel [] hr
    show dropK (G extZ 11 _ [.reg (rgA [])]) = _
    rw [h]
    exact drop_plain (outV_plain 0 0 0 0 [])
/-- What is read. -/
theorem u8_wf {xs : List Dt} (h : WfD (.int .u8) xs) : ∃ n : Int, xs = rowU n ∧ True := by
  simp only [WfD] at h
  obtain ⟨n, rfl, h⟩ := h
  exact ⟨n, rfl, trivial⟩
theorem bytes_arg {xs : List Dt} (h : WfD (.sl (.int .u8)) xs) : ∃ l : List Int, argOf (.sl (.int .u8)) xs = .d (.sl (l.map rowU)) := by
  obtain ⟨l, rfl, _⟩ := sl_of (f := rowU) (fun _ h => u8_wf h) h
  exact ⟨l, rfl⟩
theorem bools_arg {xs : List Dt} (h : WfD (.sl .bool) xs) : ∃ l : List Bool, argOf (.sl .bool) xs = .d (.sl (l.map rowT)) := by
  obtain ⟨l, rfl, _⟩ := sl_of (f := rowT) (Q := fun _ => True) (fun xs h => by obtain ⟨b, rfl⟩ := bool_wf h; exact ⟨b, rfl, trivial⟩) h
  exact ⟨l, rfl⟩
end Go.Proofs.YtkflggjdlflndaaGreat
