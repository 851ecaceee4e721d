/- solve's Models and Solve: all models, one by one. Conditions: none. -/
import Derived.Test.YtchedkjlhjfadaaS7
set_option linter.unusedSimpArgs false
set_option linter.unusedVariables false
namespace Go.Proofs.Ytchedkjlhjfadaa
open Go Go.Ab
variable {ext : Sem'}
theorem mu_top {n : Nat} : ∀ {r : List (Int × Int)}, TrInv n r → mu n r ≤ cost n
  | [], _ => by unfold mu; simp [pend]
  | (x, how) :: r, h => by
    have hl := trInv_length h
    have h5 := h.2.2.2.2
    have := mu_top h5
    have := mu_put (n := n) (r := r) (by simp at hl; omega) x how
    omega
theorem cost10 {n : Nat} (hn : n ≤ 10) : cost n ≤ 2048 := by
  unfold cost
  have := Nat.pow_le_pow_right (n := 2) (by omega) (show n + 1 ≤ 11 by omega)
  omega
theorem allM_length : ∀ n, (allM n).length = 2 ^ n
  | 0 => rfl
  | n + 1 => by simp [allM, allM_length n, Nat.pow_succ]; omega
theorem ext_len {n : Nat} (hn : n ≤ 10) (fl : List (List Int)) (r : List (Int × Int)) : (Go.Proofs.Ytchedkjlhjfadaa.ext n fl r).length ≤ 1024 := by
  unfold Go.Proofs.Ytchedkjlhjfadaa.ext Mods
  refine Nat.le_trans (List.length_filter_le _ _) (Nat.le_trans (List.length_filter_le _ _) ?_)
  rw [allM_length]
  exact Nat.pow_le_pow_right (n := 2) (by omega) (show n ≤ 10 by omega)
/-- A model, as it is handed on. -/
def yM (m : List Bool) : List AV := [.d (.sl (m.map rowB))]
theorem gen0_e (hx : TX ext) (f : Fm) (hs : Short f) (hr : rightP f = false) (o : AObj) (ho : refsO o = []) (ho2 : ∀ g, renO g o = o) : G ext 81 [.yld 1, .ptr 0 0] [.cells [.d (.int .i64 f.n), .d (.sl (f.l.map rowC))], o] = some (.ret (.tuple []), [.cells [.d (.int .i64 f.n), .d (.sl (f.l.map rowC))], o]) := by
  have hrt := right_e hx f hs
  rw [hr] at hrt
  simp only [Fm.av] at hrt
  rw [G_body hx.clear rfl Try.func81 rfl Try.results81 hv_81 rfl]
  simp (config := { maxSteps := 4000000 }) (disch := first | (intros; contradiction) | omega) only [go_sem, hrt, ho, ho2]
set_option maxHeartbeats 2000000 in
/-- All models, gathered. -/
theorem gen_e (hx : TX ext) (n : Nat) (hn : n ≤ 10) (fl : List (List Int)) (hs : Short ⟨n, fl⟩) (hr : rightP ⟨n, fl⟩ = true) :
    G ext 81 [.yld 1, .ptr 0 0] [.cells [.d (.int .i64 n), .d (.sl (fl.map rowC))], .gen []] = some (.ret (.tuple []), [.cells [.d (.int .i64 n), .d (.sl (fl.map rowC))], .gen ((Go.Proofs.Ytchedkjlhjfadaa.ext n fl []).map yM)]) := by
  obtain ⟨hrl, _, _⟩ := rightL_of hr
  rw [Int.toNat_natCast] at hrl
  have hrt := right_e hx ⟨n, fl⟩ hs
  rw [hr] at hrt
  have hn' : n ≤ 100000 := by omega
  have hfl : fl.length ≤ 1000000 ∧ ∀ c, c ∈ fl → c.length ≤ 1000000 := ⟨by have := hs.l; simp only at this; omega, fun c hc => by have := hs.c c hc; omega⟩
  have hnew := new_e hx n hn' fl
  have hinit : TrOk [] [] := ⟨⟨rfl, fun _ => rfl⟩, rfl⟩
  have hv0 : valR [] = fun _ => 0 := rfl
  have a1 := fun l => av_refs l
  have a2 := fun l f => av_ren f l
  have hc10 := cost10 hn
  have hel := ext_len hn fl []
  simp only [srcO, Fm.av] at hnew hrt
  rw [← hv0] at hnew
  rw [G_body hx.clear rfl Try.func81 rfl Try.results81 hv_81 rfl]
  simp (config := { maxSteps := 4000000 }) (disch := first | (intros; contradiction) | omega) only [go_sem, hrt, hnew, a1, a2]
  generalize hL : loopA _ _ _ = L
  apply loop_upd hL (by simp (config := { maxSteps := 4000000 }) (disch := first | (intros; contradiction) | omega) only [go_sem, a1, a2] <;> rfl) (α := List (Int × Int) × Nat × List AV × Int × List (List Bool)) (fun s => TrInv n s.1 ∧ TrOk s.1 s.2.2.1 ∧ s.2.2.2.2 ++ (Go.Proofs.Ytchedkjlhjfadaa.ext n fl s.1 ++ rest n fl s.1) = Go.Proofs.Ytchedkjlhjfadaa.ext n fl [] ∧ 0 ≤ s.2.2.2.1 ∧ s.2.2.2.1 ≤ s.2.2.2.2.length * 3000) (fun s => (Go.Proofs.Ytchedkjlhjfadaa.ext n fl s.1 ++ rest n fl s.1).length)
    (fun s => [])
    (fun s => [(1, .gen (s.2.2.2.2.map yM)), (2, .cells [.d (.int .i64 n), .d (.sl (fl.map rowC)), .own 3 0 (n + 1) 1, .stk 4 s.2.1 s.1.length, .d (.int .i64 s.2.2.2.1)]), (3, .cells ((valsL n (valR s.1)).map avI)), (4, .stk s.2.1 2 s.2.2.1)]) ([], 0, [], 0, []) (by simp (config := { maxSteps := 4000000 }) (disch := first | (intros; contradiction) | omega) only [go_sem, a1, a2] <;> rfl) ⟨trivial, hinit, by simp [rest], by simp, by simp⟩ ?_
  rintro ⟨r, e, cs, st, acc⟩ ⟨i1, i2, i3, i4, i5⟩ next ih
  simp only at i1 i2 i3 i4 i5 ih ⊢
  clear hL
  have hal : acc.length ≤ 1024 := by have := congrArg List.length i3; simp only [List.length_append] at this; omega
  have hmu := mu_top i1
  have c1 := i2.dc.r1
  have c2 := i2.dc.r2
  obtain ⟨b, r', e2, cs2, s2, hnx, hNR, hto2, hsl, hsu, hpos⟩ := next_e n fl hx hn' hrl hfl r i1 e cs i2 st (by omega)
  have d1 := hto2.dc.r1
  have d2 := hto2.dc.r2
  simp only [trailO, srcO] at hnx
  cases b with
  | false =>
    unfold NextR at hNR
    simp only at hNR
    rw [hNR, List.append_nil] at i3
    rw [← i3]
    simp (config := { maxSteps := 4000000 }) (disch := first | (intros; contradiction) | omega) only [go_sem, hnx, a1, a2, c1, c2, d1, d2]
    done
  | true =>
    unfold NextR at hNR
    simp only at hNR
    obtain ⟨n1, n2, n3⟩ := hNR
    have hmo := model_e n fl hx hn' (valR r') (lits3_valR r') e2 r'.length cs2 hto2.dc s2
    simp only [srcO] at hmo
    obtain ⟨out, hba, hbr⟩ := back_e n fl hx hn' r' n1 e2 cs2 hto2 s2 (by omega)
    simp only [trailO, srcO] at hba
    generalize hm : modelL (valR r') n = m at n2 n3 hmo
    rw [n3] at i3 ih
    rcases back_spec fl n1 with ⟨g1, g2⟩ | ⟨r2, y, g1, g2, g3, g4, g5, g6, g7⟩
    · rw [g1] at hbr
      obtain ⟨e', cs', hdc, rfl⟩ := hbr
      have p1 := hdc.r1
      have p2 := hdc.r2
      simp only [trailO, srcO] at hba
      rw [g2] at i3
      rw [← i3]
      simp (config := { maxSteps := 4000000 }) (disch := first | (intros; contradiction) | omega) only [go_sem, hnx, hmo, hba, a1, a2, c1, c2, d1, d2, p1, p2, List.map_append, List.map_cons, List.map_nil, yM]
      done
    · rw [g1] at hbr
      obtain ⟨e', cs', hto, rfl⟩ := hbr
      have p1 := hto.dc.r1
      have p2 := hto.dc.r2
      simp only [trailO, srcO] at hba
      simp (config := { maxSteps := 4000000 }) (disch := first | (intros; contradiction) | omega) only [go_sem, hnx, hmo, hba, a1, a2, c1, c2, d1, d2, p1, p2, List.map_append, List.map_cons, List.map_nil, yM]
      refine ih ((y, 2) :: r2, e', cs', s2 + 1, acc ++ [m]) _ ⟨g5, hto, ?_, by simp only; omega, by simp only [List.length_append, List.length_cons, List.length_nil]; omega⟩ ?_ (by simp (config := { maxSteps := 4000000 }) (disch := first | (intros; contradiction) | omega) only [go_sem, a1, a2, p1, p2, List.map_append, List.map_cons, List.map_nil, yM] <;> rfl)
      · simp only
        rw [← i3, g6]
        simp [rest]
      · simp only
        rw [g6]
        simp [rest]
/-- Models, as far as the first one. -/
theorem log_e (hx : TX ext) (n : Nat) (hn : n ≤ 10) (fl : List (List Int)) (hs : Short ⟨n, fl⟩) (hr : rightP ⟨n, fl⟩ = true) :
    (Go.Proofs.Ytchedkjlhjfadaa.ext n fl [] = [] → G ext 81 [.yld 1, .ptr 0 0] [.cells [.d (.int .i64 n), .d (.sl (fl.map rowC))], .log 0 0 []] = some (.ret (.tuple []), [.cells [.d (.int .i64 n), .d (.sl (fl.map rowC))], .log 0 0 []])) ∧
    ∀ m t, Go.Proofs.Ytchedkjlhjfadaa.ext n fl [] = m :: t → G ext 81 [.yld 1, .ptr 0 0] [.cells [.d (.int .i64 n), .d (.sl (fl.map rowC))], .log 1 0 (yM m :: t.map yM)] = some (.ret (.tuple []), [.cells [.d (.int .i64 n), .d (.sl (fl.map rowC))], .log 1 1 (t.map yM)]) := by
  obtain ⟨hrl, _, _⟩ := rightL_of hr
  rw [Int.toNat_natCast] at hrl
  have hrt := right_e hx ⟨n, fl⟩ hs
  rw [hr] at hrt
  have hn' : n ≤ 100000 := by omega
  have hfl : fl.length ≤ 1000000 ∧ ∀ c, c ∈ fl → c.length ≤ 1000000 := ⟨by have := hs.l; simp only at this; omega, fun c hc => by have := hs.c c hc; omega⟩
  have hnew := new_e hx n hn' fl
  have hinit : TrOk [] [] := ⟨⟨rfl, fun _ => rfl⟩, rfl⟩
  have hv0 : valR [] = fun _ => 0 := rfl
  have a1 := fun l => av_refs l
  have a2 := fun l f => av_ren f l
  have hc10 := cost10 hn
  have hmu := mu_top (n := n) (r := []) trivial
  obtain ⟨b, r', e2, cs2, s2, hnx, hNR, hto2, hsl, hsu, hpos⟩ := next_e n fl hx hn' hrl hfl [] trivial 0 [] hinit 0 (by omega)
  have d1 := hto2.dc.r1
  have d2 := hto2.dc.r2
  simp only [srcO, trailO, Fm.av, List.length_nil] at hnew hrt hnx
  rw [← hv0] at hnew
  constructor
  · intro he
    cases b with
    | true =>
      obtain ⟨_, _, h⟩ := hNR
      rw [he] at h
      cases h
    | false =>
    rw [G_body hx.clear rfl Try.func81 rfl Try.results81 hv_81 rfl]
    simp (config := { maxSteps := 4000000 }) (disch := first | (intros; contradiction) | omega) only [go_sem, hrt, hnew, a1, a2]
    generalize hL : loopA _ _ _ = L
    apply loop_upd hL (by simp (config := { maxSteps := 4000000 }) (disch := first | (intros; contradiction) | omega) only [go_sem, a1, a2] <;> rfl) (α := Unit) (fun s => True) (fun s => 0) (fun s => []) (fun s => []) () (by simp (config := { maxSteps := 4000000 }) (disch := first | (intros; contradiction) | omega) only [go_sem, a1, a2] <;> rfl) trivial ?_
    rintro ⟨⟩ _ next ih
    clear hL ih
    simp (config := { maxSteps := 4000000 }) (disch := first | (intros; contradiction) | omega) only [go_sem, hnx, a1, a2, d1, d2]
    done
  · intro m t he
    cases b with
    | false =>
      have h : _ ++ _ = [] := hNR
      rw [he] at h
      cases h
    | true =>
    obtain ⟨n1, n2, n3⟩ := hNR
    have hmo := model_e n fl hx hn' (valR r') (lits3_valR r') e2 r'.length cs2 hto2.dc s2
    simp only [srcO] at hmo
    rw [he] at n3
    simp only [List.cons_append, List.cons.injEq] at n3
    obtain ⟨n3, _⟩ := n3
    rw [← n3] at hmo
    rw [G_body hx.clear rfl Try.func81 rfl Try.results81 hv_81 rfl]
    simp (config := { maxSteps := 4000000 }) (disch := first | (intros; contradiction) | omega) only [go_sem, hrt, hnew, a1, a2]
    generalize hL : loopA _ _ _ = L
    apply loop_upd hL (by simp (config := { maxSteps := 4000000 }) (disch := first | (intros; contradiction) | omega) only [go_sem, a1, a2] <;> rfl) (α := Unit) (fun s => True) (fun s => 0) (fun s => []) (fun s => []) () (by simp (config := { maxSteps := 4000000 }) (disch := first | (intros; contradiction) | omega) only [go_sem, a1, a2] <;> rfl) trivial ?_
    rintro ⟨⟩ _ next ih
    clear hL ih
    have h11 : ((1 : Nat) ≠ 1) = False := by simp
    simp (config := { maxSteps := 4000000 }) (disch := first | (intros; contradiction) | omega) only [go_sem, hnx, hmo, a1, a2, d1, d2, yM, eqDLL_refl, h11, not_false_eq_true, not_true_eq_false, decide_true, decide_false]
    done
theorem models_c (hx : TX ext) (f : Fm) : G ext 59 [f.av] [] = some (.ret (.fn 81 [] [.ptr 0 0]), [.cells [.d (.int .i64 f.n), .d (.sl (f.l.map rowC))]]) := by
  rw [G_body hx.clear rfl Try.func59 rfl Try.results59 hv_59 rfl]
  simp only [Fm.av]
  simp (config := { maxSteps := 4000000 }) (disch := first | (intros; contradiction) | omega) only [go_sem]
theorem solve_e (hx : TX ext) (n : Nat) (hn : n ≤ 10) (fl : List (List Int)) (hs : Short ⟨n, fl⟩) (hr : rightP ⟨n, fl⟩ = true) :
    G ext 37 [Fm.av ⟨n, fl⟩] [] = some (.ret (.tuple [.d (.sl (((Go.Proofs.Ytchedkjlhjfadaa.ext n fl []).headD []).map rowB)), .d (.bool (decide (Go.Proofs.Ytchedkjlhjfadaa.ext n fl [] ≠ [])))]), []) := by
  have hg := gen_e hx n hn fl hs hr
  obtain ⟨h0, h1⟩ := log_e hx n hn fl hs hr
  have hmc := models_c hx ⟨n, fl⟩
  simp only [Fm.av] at hmc
  cases he : Go.Proofs.Ytchedkjlhjfadaa.ext n fl [] with
  | nil =>
    have h0 := h0 he
    rw [he] at hg
    rw [G_body hx.clear rfl Try.func37 rfl Try.results37 hv_37 rfl]
    simp only [Fm.av]
    simp only [List.map_nil] at hg
    simp (config := { maxSteps := 4000000 }) (disch := first | (intros; contradiction) | omega) only [go_sem, hmc, hg, h0, rfFold, rfEnd, rfChk, rfChkK, rfGo]
    simp
  | cons m t =>
    have h1 := h1 m t he
    rw [he] at hg
    rw [G_body hx.clear rfl Try.func37 rfl Try.results37 hv_37 rfl]
    simp only [Fm.av]
    simp only [List.map_cons, yM] at hg h1
    simp (config := { maxSteps := 4000000 }) (disch := first | (intros; contradiction) | omega) only [go_sem, hmc, hg, h1, rfFold, rfEnd, rfChk, rfChkK, rfEx]
    simp
end Go.Proofs.Ytchedkjlhjfadaa
