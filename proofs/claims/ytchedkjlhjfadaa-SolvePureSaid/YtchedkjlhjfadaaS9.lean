/- The document's pure literals, and what it says of literals that force. Conditions: none. -/
import Derived.Test.YtchedkjlhjfadaaS7
import Derived.Test.YtchedkjlhjfadaaS8
set_option linter.unusedSimpArgs false
set_option linter.unusedVariables false
namespace Go.Proofs.Ytchedkjlhjfadaa
open Go Go.Ab
variable {ext : Sem'}
theorem pure0_e (hx : TX ext) (f : Fm) (hs : Short f) (hr : rightP f = false) : G ext 29 [f.av] [] = some (.ret (.d (.sl [])), []) := by
  have hrt := right_e hx f hs
  rw [hr] at hrt
  simp only [Fm.av] at hrt
  rw [G_body hx.clear rfl Try.func29 rfl Try.results29 hv_29 rfl]
  simp only [Fm.av]
  simp (config := { maxSteps := 4000000 }) (disch := first | (intros; contradiction) | omega) only [go_sem, hrt]
theorem rpure0_e (hx : TX ext) (f : Fm) (hs : Short f) (hr : rightP f = false) : G ext 30 [f.av] [] = some (.ret (.d (.sl [])), []) := by
  have hrt := rright_e hx f hs
  rw [hr] at hrt
  simp only [Fm.av] at hrt
  rw [G_body hx.clear rfl Try.func30 rfl Try.results30 hv_30 rfl]
  simp only [Fm.av]
  simp (config := { maxSteps := 4000000 }) (disch := first | (intros; contradiction) | omega) only [go_sem, hrt]
theorem fixed0_e (hx : TX ext) (f : Fm) (hs : Short f) (hr : rightP f = false) (lits : List Int) : G ext 27 [f.av, .d (.sl (lits.map rowI))] [] = some (.ret (.tuple [.d (.sl []), .d (.bool false)]), []) := by
  have hrt := right_e hx f hs
  rw [hr] at hrt
  simp only [Fm.av] at hrt
  rw [G_body hx.clear rfl Try.func27 rfl Try.results27 hv_27 rfl]
  simp only [Fm.av]
  simp (config := { maxSteps := 4000000 }) (disch := first | (intros; contradiction) | omega) only [go_sem, hrt]
theorem rfixed0_e (hx : TX ext) (f : Fm) (hs : Short f) (hr : rightP f = false) (lits : List Int) : G ext 28 [f.av, .d (.sl (lits.map rowI))] [] = some (.ret (.tuple [.d (.sl []), .d (.bool false)]), []) := by
  have hrt := rright_e hx f hs
  rw [hr] at hrt
  simp only [Fm.av] at hrt
  rw [G_body hx.clear rfl Try.func28 rfl Try.results28 hv_28 rfl]
  simp only [Fm.av]
  simp (config := { maxSteps := 4000000 }) (disch := first | (intros; contradiction) | omega) only [go_sem, hrt]
theorem rfixed1_e (hx : TX ext) (f : Fm) (hs : Short f) (hr : rightP f = true) (lits : List Int) (hl : lits.length ≤ 1000) (hr2 : rightP ⟨f.n, [lits]⟩ = false) : G ext 28 [f.av, .d (.sl (lits.map rowI))] [] = some (.ret (.tuple [.d (.sl []), .d (.bool false)]), []) := by
  have hrt := rright_e hx f hs
  rw [hr] at hrt
  have hrl := rright_e hx ⟨f.n, [lits]⟩ ⟨by simp, fun c hc => by simp at hc; subst hc; omega⟩
  rw [hr2] at hrl
  simp only [Fm.av, List.map_cons, List.map_nil, rowC] at hrt hrl
  rw [G_body hx.clear rfl Try.func28 rfl Try.results28 hv_28 rfl]
  simp only [Fm.av]
  simp (config := { maxSteps := 4000000 }) (disch := first | (intros; contradiction) | omega) only [go_sem, hrt, hrl]
set_option maxHeartbeats 2000000 in
theorem rpure_e (hx : TX ext) (f : Fm) (hs : Short f) (hr : rightP f = true) : G ext 30 [f.av] [] = some (.ret (.d (.sl ((pureL f.l f.n.toNat).map rowI))), []) := by
  obtain ⟨q1, q2, q3⟩ := right_inv hr
  have hrt := rright_e hx f hs
  rw [hr] at hrt
  have hll : (f.l.map rowC).length = f.l.length := List.length_map _
  have hsl := hs.l
  simp only [Fm.av] at hrt
  rw [G_body hx.clear rfl Try.func30 rfl Try.results30 hv_30 rfl]
  simp only [Fm.av]
  simp (config := { maxSteps := 4000000 }) (disch := first | (intros; contradiction) | omega) only [go_sem, hrt]
  generalize hL : loopA _ _ _ = L
  apply loop_upd hL (by simp (config := { maxSteps := 4000000 }) (disch := first | (intros; contradiction) | omega) only [go_sem] <;> rfl) (α := Nat × Nat) (fun p => p.1 ≤ f.n.toNat) (fun p => f.n.toNat - p.1) (fun p => [(3, .grow 2 p.2 ((pureL f.l p.1).map rowI)), (4, .d (.int .i64 ((p.1 : Int) + 1))), (5, .any), (6, .any), (7, .any)]) (fun p => [(2, .grow p.2 1)]) (0, 0) (by simp (config := { maxSteps := 4000000 }) (disch := first | (intros; contradiction) | omega) only [go_sem] <;> rfl) (by simp) ?_
  rintro ⟨v, e⟩ hv next2 ih2
  simp only at hv ih2 ⊢
  clear hL
  have hpl := pureL_len f.l v
  have hpl2 : ((pureL f.l v).map rowI).length ≤ v := by rw [List.length_map]; exact hpl
  by_cases hvn : v < f.n.toNat
  · have hle : (v : Int) + 1 ≤ f.n := by omega
    have hneg : IntKind.wrap .i64 (0 - ((v : Int) + 1)) = 0 - ((v : Int) + 1) := wrap64 (by omega) (by omega)
    have hw : IntKind.wrap .i64 ((v : Int) + 1 + 1) = ((v + 1 : Nat) : Int) + 1 := by rw [wrap64 (by omega) (by omega)]; omega
    have hroom : room (((pureL f.l v).map rowI).length + 1) 8 := room8 (by omega)
    have hsu : pureL f.l (v + 1) = pureL f.l v ++ pureV f.l ((v : Int) + 1) := rfl
    unfold pureV at hsu
    generalize hv1 : (v : Int) + 1 = v1 at hle hneg hw hsu ⊢
    obtain ⟨nv, hnv⟩ : ∃ nv, 0 - v1 = nv := ⟨_, rfl⟩
    have hneg : IntKind.wrap .i64 (0 - v1) = nv := by rw [hneg, hnv]
    simp only [hnv] at hsu
    have hi0 : ∀ x, inF (f.l.take 0) x = false := fun x => rfl
    simp (config := { maxSteps := 4000000 }) (disch := first | (intros; contradiction) | omega) only [go_sem, hle]
    generalize hL : loopA _ _ _ = L
    apply range_upd hL (by simp (config := { maxSteps := 4000000 }) (disch := first | (intros; contradiction) | omega) only [go_sem] <;> rfl) f.l rowC (α := Unit) (fun _ _ _ => True) (fun k _ => [(5, .d (.bool (inF (f.l.take k) v1))), (6, .d (.bool (inF (f.l.take k) nv))), (7, .d (.int .i64 k))]) (fun _ _ => []) () (by simp (config := { maxSteps := 4000000 }) (disch := first | (intros; contradiction) | omega) only [go_sem] <;> rfl) trivial ?_ ?_
    · rintro c rest k _ _ hlt hr2 hget hk _ next3 ih3
      clear hL
      have hcs := hs.c c (List.mem_of_getElem? hget)
      have p1 := has15_e hx c v1 (by omega)
      have p2 := has15_e hx c nv (by omega)
      have s1 := inF_snoc hget v1
      have s2 := inF_snoc hget nv
      simp only [rowC] at hr2
      have hk0 : (0 : Int) ≤ (k : Int) := by omega
      generalize b1 : inF (f.l.take k) v1 = u1 at s1
      generalize b2 : inF (f.l.take k) nv = u2 at s2
      cases u1 <;> cases u2 <;> simp only [Bool.false_or, Bool.true_or] at s1 s2
      all_goals
        simp (config := { maxSteps := 4000000 }) (disch := first | (intros; contradiction) | omega) only [go_sem, hlt, hr2, hk0, b1, b2, p1, p2, hneg, wrap64]
        exact ih3 () _ trivial (by simp (config := { maxSteps := 4000000 }) (disch := first | (intros; contradiction) | omega) only [go_sem, s1, s2] <;> rfl)
    · rintro k _ _ hlt hk next3
      clear hL
      have etk : f.l.take k = f.l := by rw [hk, List.take_length]
      rw [etk]
      cases b1 : inF f.l v1 <;> cases b2 : inF f.l nv <;> simp only [b1, b2, Bool.false_eq_true, if_true, if_false, and_self, and_true, true_and, and_false, false_and, List.append_nil] at hsu
      · simp (config := { maxSteps := 4000000 }) (disch := first | (intros; contradiction) | omega) only [go_sem, hlt, hneg, hw]
        exact ih2 (v + 1, e) _ (by simp only; omega) (by simp only; omega) (by simp only; rw [hsu]; simp (config := { maxSteps := 4000000 }) (disch := first | (intros; contradiction) | omega) only [go_sem] <;> rfl)
      · simp (config := { maxSteps := 4000000 }) (disch := first | (intros; contradiction) | omega) only [go_sem, hlt, hneg, hw, hroom]
        exact ih2 (v + 1, e + 1) _ (by simp only; omega) (by simp only; omega) (by simp only; rw [hsu]; simp (config := { maxSteps := 4000000 }) (disch := first | (intros; contradiction) | omega) only [go_sem, List.map_append, List.map_cons, List.map_nil, rowI] <;> rfl)
      · simp (config := { maxSteps := 4000000 }) (disch := first | (intros; contradiction) | omega) only [go_sem, hlt, hneg, hw, hroom]
        exact ih2 (v + 1, e + 1) _ (by simp only; omega) (by simp only; omega) (by simp only; rw [hsu]; simp (config := { maxSteps := 4000000 }) (disch := first | (intros; contradiction) | omega) only [go_sem, List.map_append, List.map_cons, List.map_nil, rowI] <;> rfl)
      · simp (config := { maxSteps := 4000000 }) (disch := first | (intros; contradiction) | omega) only [go_sem, hlt, hneg, hw]
        exact ih2 (v + 1, e) _ (by simp only; omega) (by simp only; omega) (by simp only; rw [hsu]; simp (config := { maxSteps := 4000000 }) (disch := first | (intros; contradiction) | omega) only [go_sem] <;> rfl)
  · have hle : ¬ (v : Int) + 1 ≤ f.n := by omega
    have hvv : v = f.n.toNat := by omega
    subst hvv
    simp (config := { maxSteps := 4000000 }) (disch := first | (intros; contradiction) | omega) only [go_sem, hle]
end Go.Proofs.Ytchedkjlhjfadaa
