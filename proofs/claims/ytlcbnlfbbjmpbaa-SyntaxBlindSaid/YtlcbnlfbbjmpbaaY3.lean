/- What stands in brackets. Conditions: none. -/
import Derived.Test.YtlcbnlfbbjmpbaaY2
set_option linter.unusedSimpArgs false
set_option linter.unusedVariables false
namespace Go.Proofs.Ytlcbnlfbbjmpbaa
open Go Go.Ab
variable {ext : Sem'}
/-- A run tells what the plain parser tells: something, or what is wrong (and then the objects are as Q says). -/
def RunP {α : Type} (R : PR α) (ok : α → List Tok → Out × List AObj) (Q : List AObj → Prop) (x : Option (Out × List AObj)) : Prop := match R with
  | .ok (a, l) => x = some (ok a l)
  | .error dg => ∃ h, x = some (.pan (dgV dg), h) ∧ Q h
/-- The parser's object alone. -/
def Qp (h : List AObj) : Prop := ∃ l k, h = [pO l k]
def RunF {α : Type} (ext : Sem') (f : Nat) (args : List AV) (d : Nat) (val : α → AV) (P : List Tok → PR α) : Prop := ∀ l, OkT l → RunP (P l) (fun a l' => (.ret (val a), [pO l' d])) Qp (G ext f args [pO l d])
theorem RunP.ok' {α : Type} {R : PR α} {ok : α → List Tok → Out × List AObj} {Q : List AObj → Prop} {x : Option (Out × List AObj)} (h : RunP R ok Q x) {a : α} {l : List Tok} (e : R = .ok (a, l)) : x = some (ok a l) := by rw [e] at h; exact h
theorem RunP.er' {α : Type} {R : PR α} {ok : α → List Tok → Out × List AObj} {Q : List AObj → Prop} {x : Option (Out × List AObj)} (h : RunP R ok Q x) {d : Dg} (e : R = .error d) : ∃ h, x = some (.pan (dgV d), h) ∧ Q h := by rw [e] at h; exact h
theorem at_l (hx : T0 ext) {l : List Tok} (hl : OkT l) (d : Nat) : G ext 33 [.ptr 0 0] [pO l d] = some (.ret (.agg [.d (.int .i64 (hdT l).pos.1), .d (.int .i64 (hdT l).pos.2)]), [pO l d]) := by
  obtain ⟨t, r, rfl⟩ := hl.ne
  exact pat_e hx t r d
theorem step_l (hx : T0 ext) {l : List Tok} (hl : OkT l) (d : Nat) (hk : (hdT l).kind ≠ 5) : G ext 55 [.ptr 0 0] [pO l d] = some (.ret (hdT l).av, [pO l.tail d]) := by
  obtain ⟨t, r, rfl⟩ := hl.ne
  exact pstep_e hx t r d hk
theorem is_l (hx : T0 ext) {l : List Tok} (hl : OkT l) (d : Nat) (s : Str) : G ext 38 [.ptr 0 0, .d (.sl [[.str s]])] [pO l d] = some (.ret (.d (.bool (isT l s))), [pO l d]) := by
  obtain ⟨t, r, rfl⟩ := hl.ne
  have h := pis_e hx t r d [s] (by simp)
  rw [anyT_one] at h
  exact h
theorem any_l (hx : T0 ext) {l : List Tok} (hl : OkT l) (d : Nat) (ss : List Str) (hs : ss.length ≤ 1000) : G ext 38 [.ptr 0 0, .d (.sl (ss.map fun x => [.str x]))] [pO l d] = some (.ret (.d (.bool (anyT l ss))), [pO l d]) := by
  obtain ⟨t, r, rfl⟩ := hl.ne
  exact pis_e hx t r d ss hs
theorem eat_l (hx : T0 ext) {l : List Tok} (hl : OkT l) (d : Nat) (s : Str) : RunP (eatT s l) (fun _ l' => (.ret (.tuple []), [pO l' d])) Qp (G ext 68 [.ptr 0 0, .d (.str s)] [pO l d]) := by
  obtain ⟨t, r, rfl⟩ := hl.ne
  rw [peat_e hx t r d s]
  unfold eatT
  cases h : isT (t :: r) s with
  | true => exact rfl
  | false => exact ⟨_, rfl, _, _, rfl⟩
theorem maybe_l (hx : T0 ext) {l : List Tok} (hl : OkT l) (d : Nat) (s : Str) : G ext 69 [.ptr 0 0, .d (.str s)] [pO l d] = some (.ret (.d (.bool (isT l s))), [pO (if isT l s then l.tail else l) d]) := by
  obtain ⟨t, r, rfl⟩ := hl.ne
  exact pmaybe_e hx t r d s
theorem name_l (hx : T0 ext) {l : List Tok} (hl : OkT l) (d : Nat) : RunP (nameT l) (fun t l' => (.ret t.av, [pO l' d])) Qp (G ext 67 [.ptr 0 0] [pO l d]) := by
  obtain ⟨t, r, rfl⟩ := hl.ne
  rw [pname_e hx t r d]
  unfold nameT
  by_cases h : t.kind = 1
  · rw [if_pos h, if_pos (show (hdT (t :: r)).kind = 1 from h)]; exact rfl
  · rw [if_neg h, if_neg (show ¬ (hdT (t :: r)).kind = 1 from h)]; exact ⟨_, rfl, _, _, rfl⟩
theorem built_l (hx : T0 ext) (k n : Int) (s o : Str) (ks : List Ex0) (p q : Int) (hl : ks.length ≤ 1000000) (hh : ∀ e, e ∈ ks → hgtE e ≤ 200) (l : List Tok) :
    RunP (builtT (.mk k n s o ks ⟨p, q⟩) l) (fun e l' => (.ret (hiA e), [])) (fun h => h = []) (G ext 56 [.agg [.d (.int .i64 k), .d (.int .i64 n), .d (.str s), .d (.str o), .full [], .d (.int .i64 p), .d (.int .i64 q)], .d (.sl (ks.map hiR))] []) := by
  rw [pbuilt_e hx k n s o ks p q hl hh]
  unfold builtT
  by_cases h : 200 < hgtE (.mk k n s o ks ⟨p, q⟩)
  · rw [if_pos h, if_pos h]; exact ⟨_, rfl, rfl⟩
  · rw [if_neg h, if_neg h]; exact rfl
/-- The objects of what reads the list in brackets. -/
def aH (l : List Tok) (d : Nat) (ks : List Ex0) : List AObj := [.cells [.ptr 1 0], pO l d, .cells [.grow 3 ks.length (ks.map hiR)], .grow ks.length 8]
def Qa (h : List AObj) : Prop := ∃ l k ks, h = aH l k ks
set_option maxHeartbeats 1000000 in
theorem args1_l (hx : T0 ext) {E : List Tok → PR Ex0} {d : Nat} (hG : GoodE E) (hE : RunF ext 31 [.ptr 0 0] d hiA E) {l : List Tok} (hl : OkT l) (hk : (hdT l).kind ≠ 5) :
    RunP (argsL E l.length [] l.tail) (fun ks l' => (.ret (.tuple []), aH l' d ks)) Qa (G ext 98 [.ptr 0 0, .ptr 2 0] (aH l d [])) := by
  have hst := step_l hx hl d hk
  unfold Tok.av at hst
  obtain ⟨hl1, hl2⟩ := hl.step hk
  unfold aH
  rw [G_body hx.clear rfl Try.func98 rfl Try.results98 hv_98 rfl]
  simp (maxSteps := 4000000) (disch := first | (intros; contradiction) | omega) only [go_sem, hst]
  generalize hL : loopA _ _ _ = L
  apply loop_upd hL (by simp (maxSteps := 4000000) (disch := first | (intros; contradiction) | omega) only [go_sem] <;> rfl) (α := List Ex0 × List Tok × Nat) (fun s => OkT s.2.1 ∧ s.2.1.length ≤ s.2.2 ∧ (∀ e, e ∈ s.1 → hgtE e ≤ 200) ∧ cntEs s.1 + s.2.1.length ≤ l.length ∧ argsL E s.2.2 s.1 s.2.1 = argsL E l.length [] l.tail)
    (fun s => s.2.1.length) (fun s => []) (fun s => [(1, pO s.2.1 d), (2, .cells [.grow 3 s.1.length (s.1.map hiR)]), (3, .grow s.1.length 8)]) ([], l.tail, l.length) (by simp (maxSteps := 4000000) (disch := first | (intros; contradiction) | omega) only [go_sem, List.map_nil, List.length_nil] <;> rfl) ⟨hl1, by simp only; omega, fun e he => (by cases he), by simp only [cntEs]; omega, rfl⟩ ?_
  clear hL
  rintro ⟨out, l1, n⟩ ⟨i1, i2, i3, i4, i5⟩ next ih
  simp only at i1 i2 i3 i4 i5 ih ⊢
  rw [← i5] at ih ⊢
  have hlf := hl.few
  have hco := cntEs_len out
  cases n with
  | zero => obtain ⟨t, r, rfl⟩ := i1.ne; simp at i2
  | succ n =>
    have hi := is_l hx i1 d [41]
    simp only [argsL] at ih ⊢
    by_cases h : isT l1 [41] = true
    · rw [if_pos h]
      rw [h] at hi
      have hs1 := step_l hx i1 d (isT_kind h)
      unfold Tok.av at hs1
      simp (maxSteps := 4000000) (disch := first | (intros; contradiction) | omega) only [go_sem, hi, hs1, RunP]
      done
    · rw [if_neg h] at ih ⊢
      have h' : isT l1 [41] = false := by simpa using h
      rw [h'] at hi
      have hroom : room ((out.map hiR).length + 1) 96 := by unfold room; simp; omega
      by_cases ho : out = []
      · subst ho
        simp only [List.isEmpty_nil, if_true, PR.andThen] at ih ⊢
        have hex := hE l1 i1
        cases he : E l1 with
        | error dg =>
          obtain ⟨g, q1, l9, k9, rfl⟩ := hex.er' he
          simp (maxSteps := 4000000) (disch := first | (intros; contradiction) | omega) only [go_sem, hi, q1, List.map_nil, List.length_nil]
          exact ⟨_, rfl, l9, k9, [], rfl⟩
        | ok r =>
          obtain ⟨e, l2⟩ := r
          have q1 := hex.ok' he
          obtain ⟨g1, g2, g3⟩ := hG l1 i1 e l2 he
          have hce : 1 ≤ cntE e := by rw [cntE_eq]; omega
          rw [he] at ih
          unfold hiA at q1
          have hroom1 : room 1 96 := by unfold room; omega
          simp (maxSteps := 4000000) (disch := first | (intros; contradiction) | omega) only [go_sem, hi, q1, List.map_nil, List.length_nil, hroom1]
          exact ih ([e], l2, n) _ ⟨g1, by simp only; omega, fun x hx => by cases List.mem_singleton.1 hx; exact g3, by simp only [cntEs]; omega, rfl⟩ (by simp only; omega) (by simp (maxSteps := 4000000) (disch := first | (intros; contradiction) | omega) only [go_sem, List.map_cons, List.map_nil, List.length_cons, List.length_nil, hiR] <;> rfl)
      · have hne : out.isEmpty = false := by cases out <;> simp at ho ⊢
        have hpos : (0 : Int) < ((out.map hiR).length : Int) := by
          cases out with
          | nil => exact absurd rfl ho
          | cons x xs => simp only [List.map_cons, List.length_cons]; omega
        rw [hne] at ih ⊢
        simp only [Bool.false_eq_true, if_false, PR.andThen] at ih ⊢
        have hea := eat_l hx i1 d [44]
        cases hea1 : eatT [44] l1 with
        | error dg =>
          obtain ⟨g, q1, l9, k9, rfl⟩ := hea.er' hea1
          simp (maxSteps := 4000000) (disch := first | (intros; contradiction) | omega) only [go_sem, hi, q1, hpos]
          exact ⟨_, rfl, l9, k9, out, rfl⟩
        | ok r =>
          obtain ⟨u, l2⟩ := r
          have q1 := hea.ok' hea1
          obtain ⟨j1, j2, _⟩ := eatT_ok i1 hea1
          rw [hea1] at ih
          simp only at ih ⊢
          have hex := hE l2 j1
          cases he : E l2 with
          | error dg =>
            obtain ⟨g, q2, l9, k9, rfl⟩ := hex.er' he
            simp (maxSteps := 4000000) (disch := first | (intros; contradiction) | omega) only [go_sem, hi, q1, q2, hpos]
            exact ⟨_, rfl, l9, k9, out, rfl⟩
          | ok r =>
            obtain ⟨e, l3⟩ := r
            have q2 := hex.ok' he
            obtain ⟨g1, g2, g3⟩ := hG l2 j1 e l3 he
            have hce : 1 ≤ cntE e := by rw [cntE_eq]; omega
            rw [he] at ih
            unfold hiA at q2
            simp (maxSteps := 4000000) (disch := first | (intros; contradiction) | omega) only [go_sem, hi, q1, q2, hpos, hroom]
            exact ih (out ++ [e], l3, n) _ ⟨g1, by simp only; omega, fun x hx => by
              rcases List.mem_append.1 hx with hx | hx
              · exact i3 x hx
              · cases List.mem_singleton.1 hx; exact g3, by rw [cntEs_append]; simp only [cntEs]; omega, rfl⟩ (by simp only; omega) (by simp (maxSteps := 4000000) (disch := first | (intros; contradiction) | omega) only [go_sem, List.map_append, List.map_cons, List.map_nil, List.length_append, List.length_cons, List.length_nil, hiR] <;> rfl)
end Go.Proofs.Ytlcbnlfbbjmpbaa
