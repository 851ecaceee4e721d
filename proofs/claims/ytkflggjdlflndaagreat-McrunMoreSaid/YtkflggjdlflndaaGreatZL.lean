/- Law 7: with more fuel; failures of which none is told. Conditions: none. -/
import Derived.Test.YtkflggjdlflndaaGreatZK
import Derived.Test.YtkflggjdlflndaaGreatZL0
set_option linter.unusedSimpArgs false
set_option linter.unusedVariables false
namespace Go.Proofs.YtkflggjdlflndaaGreat
open Go Go.Ab
variable {ext : Sem'}
/-- What a run comes to. -/
structure Oc where
  kind : Int
  code : Int
  out : List Int
  steps : Int
  left : Int
def Oc.av (o : Oc) : AV := outV o.kind o.code o.out o.steps o.left
def Mc.oc (s : Mc) : Oc := ⟨s.kind, s.code, s.out, s.steps, leftN s.reg s.cells⟩
def runO (m : Md1) (inp : List Int) (fails : List Bool) (fuel : Int) : Oc := if rightP m = 0 then (runM fuel.toNat (mc0 m inp fails [])).oc else ⟨0, 0, [], 0, 0⟩
structure T4 (ext : Sem') : Prop extends TM ext where
  run : ∀ (m : Md1) (inp : List Int) (fails : List Bool) (fuel : Int), LightM m → inp.length ≤ 1000 → fails.length ≤ 1000 → 0 ≤ fuel → fuel ≤ 20000 → ext 11 [m.av, .d (.sl (inp.map rowU)), .d (.sl (fails.map rowT)), .d (.int .i64 fuel)] [] = some (.ret (runO m inp fails fuel).av, [])
theorem runO_isB (m : Md1) (inp : List Int) (fails : List Bool) (fuel : Int) : isB (runO m inp fails fuel).out := by
  unfold runO
  split
  · exact run_isB (fun x hx => by cases hx) _
  · intro x hx; cases hx
/-- The example's module. -/
def mdA : Md1 := ⟨[], [⟨[109, 97, 105, 110], 0, [⟨⟨false, []⟩, 0⟩, ⟨⟨false, []⟩, 0⟩], ⟨⟨false, []⟩, 0⟩, [], [⟨1, 0, 0, 0, 0, 65, [], [], [], 0, 0, (1, 18)⟩, ⟨6, 0, 0, 0, 0, 0, [], [], [], 0, 0, (1, 14)⟩, ⟨1, 1, 0, 0, 0, 7, [], [], [], 0, 0, (1, 30)⟩, ⟨18, 0, 1, 0, 0, 0, [], [], [], 0, 0, (1, 23)⟩]⟩]⟩
theorem mdA_av : mdA.av = modA := rfl
theorem mdA_light : LightM mdA := by
  refine ⟨by decide, by decide, fun s hs => (by cases hs), fun c hc => ?_, fun c hc i hi => ?_⟩
  · simp only [mdA, List.mem_cons, List.not_mem_nil, or_false] at hc
    subst hc
    decide
  · simp only [mdA, List.mem_cons, List.not_mem_nil, or_false] at hc
    subst hc
    simp only [List.mem_cons, List.not_mem_nil, or_false] at hi
    rcases hi with rfl | rfl | rfl | rfl <;> decide
theorem mdA_run : (runO mdA [] [] 10).av = outA7 := by
  have h : runO mdA [] [] 10 = ⟨1, 7, [65], 4, 0⟩ := by
    have hr : rightP mdA = 0 := by decide +kernel
    unfold runO
    rw [if_pos hr]
    rfl
  rw [h]
  rfl
theorem alive_e (hx : T4 ext) : G ext 9 [] [] = some (.ret (.d (.bool true)), []) := by
  refine alive7 hx.clear ?_
  have := G_ext (hx.run mdA [] [] 10 mdA_light (by decide) (by decide) (by decide) (by decide))
  rw [mdA_av, mdA_run] at this
  exact this
theorem light7_parts {inp : List Int} {fails : List Bool} {fuel : Int} (h : light7 inp fails fuel = true) : inp.length ≤ 200 ∧ fails.length ≤ 200 ∧ 0 ≤ fuel ∧ fuel ≤ 3000 := by
  unfold light7 at h
  simpa using h
theorem runO_ends (hx : T3 extZ) (m : Md1) (inp : List Int) (fails : List Bool) {fuel more : Int} (hl : LightM m) (h0 : 0 ≤ fuel) (h1 : 0 ≤ more) (h2 : fuel + more ≤ 20000) :
    ((runO m inp fails fuel).kind = 4 → (runO m inp fails fuel).steps = fuel) ∧ (runO m inp fails fuel).steps ≤ fuel ∧ ((runO m inp fails fuel).kind ≠ 4 → runO m inp fails (fuel + more) = runO m inp fails fuel) ∧ (runO m inp fails fuel).out <+: (runO m inp fails (fuel + more)).out := by
  unfold runO
  by_cases hr : rightP m = 0
  · simp only [if_pos hr]
    have g := go_all hx hl hr inp fails [] fuel.toNat (by omega)
    have hle : fuel.toNat ≤ (fuel + more).toNat := by omega
    refine ⟨fun h => ?_, ?_, fun h => ?_, run_out _ _ _ hle⟩
    · have := g.st2 h
      show (runM fuel.toNat (mc0 m inp fails [])).steps = fuel
      omega
    · have := g.st1
      show (runM fuel.toNat (mc0 m inp fails [])).steps ≤ fuel
      omega
    · rw [runM_stay h _ hle]
  · simp only [if_neg hr]
    refine ⟨fun h => ?_, h0, fun _ => trivial, List.prefix_rfl⟩
    cases h
theorem runO_tail (hx : T3 extZ) (m : Md1) (inp : List Int) (fails : List Bool) {fuel : Int} (hl : LightM m) (h0 : 0 ≤ fuel) (h2 : fuel ≤ 20000) (n : Nat) : runO m inp (fails ++ List.replicate n false) fuel = runO m inp fails fuel := by
  unfold runO
  by_cases hr : rightP m = 0
  · simp only [if_pos hr]
    have e : mc0 m inp (fails ++ List.replicate n false) [] = (mc0 m inp fails []).wf (fails ++ List.replicate n false) := rfl
    have key : ∀ j : Nat, j ≤ 20000 → runM j (mc0 m inp (fails ++ List.replicate n false) []) = (runM j (mc0 m inp fails [])).wf (fails ++ List.replicate n false) := by
      intro j
      induction j with
      | zero => intro _; rfl
      | succ j ih =>
        intro hj
        rw [runM_succ, runM_succ, ih (by omega)]
        have ek : ((runM j (mc0 m inp fails [])).wf (fails ++ List.replicate n false)).kind = (runM j (mc0 m inp fails [])).kind := rfl
        rw [ek]
        split
        · exact step_wf2 (fun a => by rw [(go_all hx hl hr inp fails [] j (by omega)).fails]; exact fail_tail fails n a)
        · rfl
    rw [key fuel.toNat (by omega)]
    rfl
  · simp only [if_neg hr]
end Go.Proofs.YtkflggjdlflndaaGreat
