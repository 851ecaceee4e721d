/- A run of a right module. Conditions: none. -/
import Derived.Test.YtkflggjdlflndaaGreatZH
set_option linter.unusedSimpArgs false
set_option linter.unusedVariables false
namespace Go.Proofs.YtkflggjdlflndaaGreat
open Go Go.Ab
variable {ext : Sem'}
def mainC (m : Md1) : Cd1 := (m.funcs[(mainIx m).toNat]?).getD ⟨[], 0, [], ⟨⟨false, []⟩, 0⟩, [], []⟩
/-- The machine that begins. -/
def mc0 (m : Md1) (inp : List Int) (fails : List Bool) (R : List Blk) : Mc := enterP (Mc.start m inp fails R) (mainC m) [] 0
theorem main_parts {m : Md1} (h : rightP m = 0) : 0 ≤ mainIx m ∧ m.funcs[(mainIx m).toNat]? = some (mainC m) ∧ mainC m ∈ m.funcs := by
  have hm := (right_parts h).main
  unfold mainP at hm
  unfold mainC mainIx
  cases hc : m.funcs[(funcIx m [109, 97, 105, 110]).toNat]? with
  | none => rw [hc] at hm; cases hm
  | some c =>
    rw [hc] at hm
    have := unl_zero (by decide) hm
    simp only [Bool.and_eq_true, decide_eq_true_eq] at this
    exact ⟨this.1, rfl, List.mem_of_getElem? hc⟩
theorem start_wf {m : Md1} (h : rightP m = 0) (inp : List Int) (fails : List Bool) (R : List Blk) : ∃ T V, Wf (mc0 m inp fails R) T V := by
  obtain ⟨h0, h1, h2⟩ := main_parts h
  have w0 : Wf { Mc.start m inp fails R with kind := 0 } (fun _ => none) (fun j => match R[j]? with
      | some (.vs l) => l.map (fun _ => (⟨false, []⟩ : Ty1))
      | _ => []) := by
    refine ⟨h, ⟨fun j l hj => ?_, fun k al fk fn nm hk hn => by cases hn⟩, Chain.nil, (fun k hk => by cases hk), (fun hk => by cases hk)⟩
    have hj' : R[j]? = some (.vs l) := hj
    rw [hj']
    refine ⟨by simp, fun i t v ht hv hp => ?_⟩
    rw [List.getElem?_map] at ht
    cases hx : l[i]? with
    | none => rw [hx] at ht; cases ht
    | some y => rw [hx] at ht; cases ht; cases hp
  obtain ⟨V', w⟩ := enter_wf w0 (g := mainC m) h2 (args := []) (Nat.zero_le _) (fun j v x hv => by simp at hv) (tv := 0) (fun u hu => by cases hu)
  exact ⟨_, V', w.right, w.heap, w.chain, w.cells, fun _ => by simp [mc0, enterP]⟩
/-- Behind each number of steps all is in order. -/
structure Gd (m : Md1) (fails : List Bool) (s : Mc) (j : Nat) : Prop where
  wf : ∃ T V, Wf s T V
  cnt : Cnt s (2 * j)
  m : s.m = m
  fails : s.fails = fails
  st0 : 0 ≤ s.steps
  st1 : s.steps ≤ j
  st2 : s.kind = 4 → s.steps = j
theorem go_all (hx : T3 ext) {m : Md1} (hl : LightM m) (h : rightP m = 0) (inp : List Int) (fails : List Bool) (R : List Blk) : ∀ j : Nat, j ≤ 20000 → Gd m fails (runM j (mc0 m inp fails R)) j := by
  intro j
  induction j with
  | zero =>
    intro _
    exact ⟨start_wf h inp fails R, ⟨Int.le_refl _, Int.le_refl _, Int.le_refl _, Int.le_refl _⟩, rfl, rfl, Int.le_refl _, Int.le_refl _, fun _ => rfl⟩
  | succ j ih =>
    intro hj
    obtain ⟨⟨T, V, w⟩, hc, hm, hf, s0, s1, s2⟩ := ih (by omega)
    rw [runM_succ]
    by_cases hk : (runM j (mc0 m inp fails R)).kind = 4
    · rw [if_pos hk]
      have hs := step_wf hx w (by rw [hm]; exact hl) hk hc (by omega)
      have e : IntKind.wrap .i64 ((runM j (mc0 m inp fails R)).steps + 1) = (runM j (mc0 m inp fails R)).steps + 1 := wrap64 (by omega) (by omega)
      have e2 := s2 hk
      exact ⟨hs.wf, hs.cnt.more (by omega), hs.m.trans hm, hs.fails.trans hf, by rw [hs.steps, e]; omega, by rw [hs.steps, e]; omega, fun _ => by rw [hs.steps, e]; omega⟩
    · rw [if_neg hk]
      exact ⟨⟨T, V, w⟩, hc.more (by omega), hm, hf, s0, by omega, fun h => absurd h hk⟩
theorem run_right (hx : T3 ext) (he : ∀ xs H, ext 11 xs H = none) {m : Md1} (hl : LightM m) (h : rightP m = 0) (inp : List Int) (fails : List Bool) (R : List Blk) (hi : inp.length ≤ 1000) (hf : fails.length ≤ 1000) {fuel : Int} (h0 : 0 ≤ fuel) (h1 : fuel ≤ 20000) :
    G ext 11 [m.av, .d (.sl (inp.map rowU)), .d (.sl (fails.map rowT)), .d (.int .i64 fuel)] [.reg (rgA R)] = some (.ret (outA (runM fuel.toNat (mc0 m inp fails R))), [.reg (rgA (runM fuel.toNat (mc0 m inp fails R)).reg)]) := by
  obtain ⟨k0, k1, k2⟩ := main_parts h
  refine run_m hx he m inp fails fuel R (mc0 m inp fails R) (new_m hx m hl inp fails R (mainC m) h hi hf k0 k1 (by have := (hl.vars _ k2).1; omega)) h0 (by omega) (fun j hj hk => ?_) ?_
  · have g := go_all hx hl h inp fails R j (by omega)
    obtain ⟨T, V, w⟩ := g.wf
    exact (step_wf hx w (by rw [g.m]; exact hl) hk g.cnt (by omega)).run
  · have g := go_all hx hl h inp fails R fuel.toNat (by omega)
    obtain ⟨T, V, w⟩ := g.wf
    exact outcome_m hx _ w.cells (by have := g.cnt.ce1; omega) (by have := g.cnt.ou1; omega)
end Go.Proofs.YtkflggjdlflndaaGreat
