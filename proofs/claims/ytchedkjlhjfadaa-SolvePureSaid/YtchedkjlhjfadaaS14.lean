/- (*Solver).find, which defers a call. Conditions: none. -/
import Derived.Test.YtchedkjlhjfadaaS13
import Derived.Test.YtchedkjlhjfadaaAbX5
set_option linter.unusedSimpArgs false
set_option linter.unusedVariables false
namespace Go.Proofs.Ytchedkjlhjfadaa
open Go Go.Ab
variable {ext : Sem'}
/-- What is held: nothing yet; a list. -/
def hAV : Option (List Int) → AV
  | none => .full []
  | some l => .d (.sl (l.map rowI))
theorem hAV_refs : ∀ o : Option (List Int), refs (hAV o) = []
  | none => rfl
  | some _ => rfl
theorem hAV_ren (g : Nat → Nat) : ∀ o : Option (List Int), ren g (hAV o) = hAV o
  | none => rfl
  | some _ => rfl
def solO (f : Fm) (right : Bool) (held : Option (List Int)) (steps : Int) : AObj := .cells [.d (.int .i64 f.n), .d (.sl (f.l.map rowC)), .d (.bool right), hAV held, .d (.int .i64 steps)]
noncomputable def findF (ext : Sem') : Sem' := defEv Try.prog (G ext) hd hv hf
theorem fnEv_G (hx : Clear ext) {f : Nat} {xs : List AV} {H : List AObj} (he : isExt f = false) : fnEv Try.prog (G ext) hd hv hf f xs H = G ext f xs H := by
  unfold G
  rw [callA_eq]
  unfold orE
  rw [hx f xs H he]
theorem flat77 : flatF Try.prog 77 = true := by kernel_rfl
theorem find_no (hx : TX ext) (f : Fm) (held : Option (List Int)) (steps : Int) (lits : List Int) : findF ext 57 [.ptr 0 0, .d (.sl (lits.map rowI))] [solO f false held steps] = some (.ret (.tuple [.d (.sl []), .d (.bool false)]), [solO f false held steps]) := by
  unfold findF
  rw [defEv_body Try.func57 rfl (congrArg Array.toList Try.results57) hv_57 (Nat.le_of_ble_eq_true rfl)]
  unfold solO
  rw [defC_pre rfl rfl]
  simp (config := { maxSteps := 4000000 }) (disch := first | (intros; contradiction) | omega) only [go_sem, hAV_refs, hAV_ren, defPre_go]
  rw [defC_pre rfl rfl]
  simp (config := { maxSteps := 4000000 }) (disch := first | (intros; contradiction) | omega) only [go_sem, hAV_refs, hAV_ren, defPre_go, defPre_ret]
theorem asm_how {n : Nat} : ∀ {l : List Int} {r q : List (Int × Int)}, asm n r l = some q → (∀ p, p ∈ r → p.2 = 0) → ∀ p, p ∈ q → p.2 = 0
  | [], r, q, h, hr => by
    have h : some r = some q := h
    cases h
    exact hr
  | x :: l, r, q, h, hr => by
    unfold asm at h
    split at h
    · cases h
    · split at h
      · exact asm_how h fun p hp => by
          rcases List.mem_cons.1 hp with rfl | hp
          · rfl
          · exact hr p hp
      · exact asm_how h hr
theorem how_rest {n : Nat} {ls : List (List Int)} : ∀ {r : List (Int × Int)}, (∀ p, p ∈ r → p.2 = 0) → rest n ls r = [] ∧ pend n r = 0
  | [], _ => ⟨rfl, rfl⟩
  | p :: r, h => by
    have h0 := h p (by simp)
    have ih := how_rest (ls := ls) (n := n) (r := r) fun q hq => h q (by simp [hq])
    simp only [rest, pend, h0]
    exact ⟨by simp [ih.1], by simp [ih.2]⟩
theorem mu_le {n : Nat} (hn : n ≤ 10) {r : List (Int × Int)} (h : ∀ p, p ∈ r → p.2 = 0) : mu n r ≤ 4096 := by
  unfold mu
  rw [(how_rest (ls := []) h).2]
  unfold cost
  have := Nat.pow_le_pow_right (n := 2) (by omega) (show n - r.length + 1 ≤ 11 by omega)
  omega
/-- What find says. -/
def FindR (n : Nat) (fl : List (List Int)) (lits : List Int) (m : List Bool) (b : Bool) : Prop :=
  (b = true ∧ ∃ q t, asm n [] lits = some q ∧ Go.Proofs.Ytchedkjlhjfadaa.ext n fl q = m :: t) ∨ (b = false ∧ m = [] ∧ ∀ q, asm n [] lits = some q → Go.Proofs.Ytchedkjlhjfadaa.ext n fl q = [])
theorem find1_e (hx : TX ext) (n : Nat) (fl : List (List Int)) (held : Option (List Int)) (lits : List Int) (val : Nat → Int) (e k : Nat) (cs : List AV) (hd1 : (List.map refs cs).flatten = []) (hd2 : ∀ g, List.map (ren g) cs = cs) (s1 s2 : Int) (h1 : 0 ≤ s1 ∧ s1 ≤ 100000000000000) (h2 : 0 ≤ s2 ∧ s2 ≤ 100000000000000) (tl : List AObj) (htl : tl = [] ∨ tl = [.grow 0 1]) :
    fnEv Try.prog (G ext) hd hv hf 77 [.ptr 1 0, .ptr 3 0] ([solO ⟨n, fl⟩ true held s1, .cells [.ptr 0 0], .grow 0 1, .cells [.ptr 4 0], .cells [.d (.int .i64 n), .d (.sl (fl.map rowC)), .own 5 0 (n + 1) 1, .stk 6 e k, .d (.int .i64 s2)], .cells ((valsL n val).map avI), .stk e 2 cs] ++ tl) =
      some (.ret (.tuple []), [solO ⟨n, fl⟩ true held (s1 + s2), .cells [.ptr 0 0], .grow 0 1, .cells [.ptr 4 0], .cells [.d (.int .i64 n), .d (.sl (fl.map rowC)), .own 5 0 (n + 1) 1, .stk 6 e k, .d (.int .i64 s2)], .cells ((valsL n val).map avI), .stk e 2 cs] ++ tl) := by
  rw [fnEv_G hx.clear rfl]
  have a1 := fun l => av_refs l
  have a2 := fun l f => av_ren f l
  have hw := wrap64 (x := s1 + s2) (by omega) (by omega)
  unfold solO
  rcases htl with rfl | rfl
  · rw [G_body hx.clear rfl Try.func77 rfl Try.results77 hv_77 rfl]
    simp (config := { maxSteps := 4000000 }) (disch := first | (intros; contradiction) | omega) only [go_sem, hAV_refs, hAV_ren, hw, a1, a2, hd1, hd2]
  · rw [G_body hx.clear rfl Try.func77 rfl Try.results77 hv_77 rfl]
    simp (config := { maxSteps := 4000000 }) (disch := first | (intros; contradiction) | omega) only [go_sem, hAV_refs, hAV_ren, hw, a1, a2, hd1, hd2]
set_option maxHeartbeats 2000000 in
theorem find_yes (hx : TX ext) (n : Nat) (hn : n ≤ 10) (fl : List (List Int)) (hs : Short ⟨n, fl⟩) (hr : rightP ⟨n, fl⟩ = true) (held : Option (List Int)) (s : Int) (h1 : 0 ≤ s ∧ s ≤ 10000000000000) (lits : List Int) (hl : lits.length ≤ 1000000) :
    ∃ m b s', findF ext 57 [.ptr 0 0, .d (.sl (lits.map rowI))] [solO ⟨n, fl⟩ true held s] = some (.ret (.tuple [.d (.sl (m.map rowB)), .d (.bool b)]), [solO ⟨n, fl⟩ true held s']) ∧ FindR n fl lits m b ∧ s ≤ s' ∧ s' ≤ s + 10000 ∧ (b = true → 0 < n → s < s') := by
  obtain ⟨hrl, _, _⟩ := rightL_of hr
  rw [Int.toNat_natCast] at hrl
  have hn' : n ≤ 100000 := by omega
  have hfl : fl.length ≤ 1000000 ∧ ∀ c, c ∈ fl → c.length ≤ 1000000 := ⟨by have := hs.l; simp only at this; omega, fun c hc => by have := hs.c c hc; omega⟩
  have hnew := new_e hx n hn' fl
  have hinit : TrOk [] [] := ⟨⟨rfl, fun _ => rfl⟩, rfl⟩
  have hv0 : valR [] = fun _ => 0 := rfl
  obtain ⟨q, e1, cs1, has, ht1, hto1, hle1, hq⟩ := assume_e n fl hx hn' [] trivial 0 [] hinit 0 (by omega) lits hl
  have a1 := fun l => av_refs l
  have a2 := fun l f => av_ren f l
  have c1 := hto1.dc.r1
  have c2 := hto1.dc.r2
  have hql := trInv_length ht1
  simp only [trailO, srcO, hv0, List.length_nil, Fm.av] at hnew has
  unfold findF
  rw [defEv_body Try.func57 rfl (congrArg Array.toList Try.results57) hv_57 (Nat.le_of_ble_eq_true rfl)]
  unfold solO
  rw [defC_pre rfl rfl]
  simp (config := { maxSteps := 4000000 }) (disch := first | (intros; contradiction) | omega) only [go_sem, hAV_refs, hAV_ren, defPre_go]
  rw [defC_pre rfl rfl]
  simp (config := { maxSteps := 4000000 }) (disch := first | (intros; contradiction) | omega) only [go_sem, hAV_refs, hAV_ren, defPre_go]
  rw [defC_pre rfl rfl]
  simp (config := { maxSteps := 4000000 }) (disch := first | (intros; contradiction) | omega) only [go_sem, hAV_refs, hAV_ren, defPre_go, hnew, a1, a2]
  rw [defC_def rfl rfl rfl]
  simp (config := { maxSteps := 4000000 }) (disch := first | (intros; contradiction) | omega) only [go_sem, hAV_refs, hAV_ren, a1, a2, defPost_run, List.dropLast_cons_cons, List.dropLast_singleton]
  have hd77 := fun (r : List (Int × Int)) (e : Nat) (cs : List AV) (hc : TrOk r cs) (s2 : Int) (h2 : 0 ≤ s2 ∧ s2 ≤ 100000000000000) => find1_e hx n fl held lits (valR r) e r.length cs hc.dc.r1 hc.dc.r2 s s2 (by omega) h2
  obtain ⟨s1, hs1⟩ : ∃ s1, 0 + ((q.length : Int) - ((0 : Nat) : Int)) = s1 := ⟨_, rfl⟩
  rw [hs1] at has
  simp only [solO, List.cons_append, List.nil_append] at hd77
  cases hasm : asm n [] lits with
  | none =>
    rw [hasm] at has
    simp only [Option.isSome_none] at has
    refine ⟨[], false, s + s1, ?_, .inr ⟨rfl, rfl, fun q hq => by rw [hasm] at hq; cases hq⟩, by omega, by omega, by simp⟩
    have hz := hd77 q e1 cs1 hto1 s1 (by omega) [.grow 0 1] (.inr rfl)
    simp (config := { maxSteps := 4000000 }) (disch := first | (intros; contradiction) | omega) only [go_sem, hAV_refs, hAV_ren, has, a1, a2, c1, c2, defX_ret]
    rw [defEnd_eq flat77 hz]
    simp (config := { maxSteps := 4000000 }) (disch := first | (intros; contradiction) | omega) only [go_sem, hAV_refs, hAV_ren, a1, a2, c1, c2, List.map_nil]
    done
  | some q' =>
    have := hq q' hasm
    subst this
    rw [hasm] at has
    simp only [Option.isSome_some] at has
    have hhow := asm_how hasm (by simp)
    have hmu := mu_le hn hhow
    obtain ⟨hr0, _⟩ := how_rest (n := n) (ls := fl) hhow
    obtain ⟨b, r', e2, cs2, s2, hnx, hNR, hto2, hsl, hsu, hpos⟩ := next_e n fl hx hn' hrl hfl q ht1 e1 cs1 hto1 s1 (by omega)
    have d1 := hto2.dc.r1
    have d2 := hto2.dc.r2
    simp only [trailO, srcO] at hnx
    cases b with
    | false =>
      refine ⟨[], false, s + s2, ?_, .inr ⟨rfl, rfl, fun q2 hq2 => ?_⟩, by omega, by omega, by simp⟩
      · have hz := hd77 r' e2 cs2 hto2 s2 (by omega) [.grow 0 1] (.inr rfl)
        simp (config := { maxSteps := 4000000 }) (disch := first | (intros; contradiction) | omega) only [go_sem, hAV_refs, hAV_ren, has, hnx, a1, a2, c1, c2, d1, d2, defX_ret]
        rw [defEnd_eq flat77 hz]
        simp (config := { maxSteps := 4000000 }) (disch := first | (intros; contradiction) | omega) only [go_sem, hAV_refs, hAV_ren, a1, a2, d1, d2, List.map_nil]
      · rw [hasm] at hq2
        cases hq2
        exact (List.append_eq_nil_iff.1 hNR).1
    | true =>
      have hmo := model_e n fl hx hn' (valR r') (lits3_valR r') e2 r'.length cs2 hto2.dc s2
      simp only [srcO] at hmo
      obtain ⟨_, _, hN⟩ := hNR
      rw [hr0, List.append_nil] at hN
      refine ⟨modelL (valR r') n, true, s + s2, ?_, .inl ⟨rfl, q, _, hasm, hN⟩, by omega, by omega, fun _ h0 => ?_⟩
      · have hz := hd77 r' e2 cs2 hto2 s2 (by omega) [] (.inl rfl)
        simp (config := { maxSteps := 4000000 }) (disch := first | (intros; contradiction) | omega) only [go_sem, hAV_refs, hAV_ren, has, hnx, hmo, a1, a2, c1, c2, d1, d2, defX_ret]
        rw [defEnd_eq flat77 hz]
        simp (config := { maxSteps := 4000000 }) (disch := first | (intros; contradiction) | omega) only [go_sem, hAV_refs, hAV_ren, a1, a2, d1, d2, List.map_nil]
        done
      · by_cases hqn : q.length < n
        · have := hpos rfl hqn
          omega
        · omega
end Go.Proofs.Ytchedkjlhjfadaa
