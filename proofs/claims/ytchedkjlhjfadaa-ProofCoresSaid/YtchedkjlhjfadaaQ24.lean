/- Law 16: the core of a proof alone has no model, and what is trimmed is a proof still. Conditions: none. -/
import Derived.Test.YtchedkjlhjfadaaQ23
import Derived.Test.YtchedkjlhjfadaaQ11
set_option linter.unusedSimpArgs false
set_option linter.unusedVariables false
namespace Go.Proofs.Ytchedkjlhjfadaa
open Go Go.Ab
variable {ext : Sem'}
/-- The clauses of a core. -/
def coreC (f : Fm) (c : List Int) : List (List Int) := c.map fun i => f.l.getD i.toNat []
theorem core_mem {f : Fm} {l : List Ps} {i : Int} : i ∈ coreP f l ↔ 0 ≤ i ∧ i < (f.l.length : Int) ∧ inU f l i = true := by
  unfold coreP pickU
  simp only [List.mem_map, List.mem_filter, List.mem_range]
  constructor
  · rintro ⟨k, ⟨h1, h2⟩, rfl⟩
    exact ⟨by omega, by omega, h2⟩
  · rintro ⟨h1, h2, h3⟩
    exact ⟨i.toNat, ⟨by omega, by rw [Int.toNat_of_nonneg h1]; exact h3⟩, by omega⟩
theorem allP_of {n : Nat} (hn : n ≤ 100000) {c : List Int} (h : RightC n c) : allP n c = true := by
  refine List.all_eq_true.2 fun x hx => ?_
  have := h x hx
  unfold litP
  rw [decide_eq_true this.1, decide_eq_true this.2.2, wrap64 (by omega) (by omega), decide_eq_true (by omega)]
  rfl
/-- The core alone has no model. -/
theorem core_unsat {n : Nat} (hn : n ≤ 10) {fl : List (List Int)} (hr : rightP ⟨n, fl⟩ = true) {l : List Ps} {out : List (List Int)} (hok : Ok fl l out) (hrl : RightL n (fl ++ out)) {e : Nat} (hf : First fl out e) (he : emptyP ⟨n, fl⟩ l = (e : Int)) : Go.Proofs.Ytchedkjlhjfadaa.ext n (coreC ⟨n, fl⟩ (coreP ⟨n, fl⟩ l)) [] = [] := by
  obtain ⟨h0, h1, _⟩ := right_inv hr
  have hne : emptyP ⟨n, fl⟩ l ≠ -1 := by omega
  have hclo := inU_clo (f := ⟨n, fl⟩) hok hne
  have hol := hok.len
  have hcl : ∀ x : Nat, x < fl.length + out.length → cl fl out (x : Int) ∈ fl ++ out := fun x hx => by
    unfold cl
    rw [Int.toNat_natCast, List.getD_eq_getElem?_getD, List.getElem?_eq_getElem (by rw [List.length_append]; exact hx)]
    exact List.getElem_mem _
  cases hex : Go.Proofs.Ytchedkjlhjfadaa.ext n (coreC ⟨n, fl⟩ (coreP ⟨n, fl⟩ l)) [] with
  | nil => rfl
  | cons m t =>
    exfalso
    have hm : m ∈ Go.Proofs.Ytchedkjlhjfadaa.ext n (coreC ⟨n, fl⟩ (coreP ⟨n, fl⟩ l)) [] := by rw [hex]; simp
    unfold Go.Proofs.Ytchedkjlhjfadaa.ext Mods at hm
    have hm1 := (List.mem_filter.1 hm).1
    have hm2 := (List.mem_filter.1 hm1).2
    have hml := allM_len (List.mem_filter.1 hm1).1
    have key : ∀ x : Nat, x < fl.length + out.length → inU ⟨n, fl⟩ l (x : Int) = true → (cl fl out (x : Int)).any (trueP m) = true := by
      intro x
      induction x using Nat.strongRecOn with
      | ind x ih =>
        intro hx hu
        by_cases hlow : x < fl.length
        · have hc : (x : Int) ∈ coreP ⟨n, fl⟩ l := core_mem.2 ⟨by omega, by simp only; omega, hu⟩
          have hin : cl fl out (x : Int) ∈ coreC ⟨n, fl⟩ (coreP ⟨n, fl⟩ l) := by
            unfold coreC
            refine List.mem_map.2 ⟨(x : Int), hc, ?_⟩
            unfold cl
            rw [getD_app1 (by omega)]
          obtain ⟨y, hy, hl⟩ := clause_some hm2 hin
          exact List.any_eq_true.2 ⟨y, hy, by rw [trueP_lit]; exact hl⟩
        · obtain ⟨j, hj⟩ : ∃ j : Nat, x = fl.length + j := ⟨x - fl.length, by omega⟩
          subst hj
          obtain ⟨⟨a1, a2, a3⟩, ⟨b1, b2, b3⟩⟩ := hclo j (by omega) hu
          simp only at a1 a2 a3 b1 b2 b3
          obtain ⟨_, _, _, _, o5⟩ := hok.at_ j (by omega)
          have ta := ih (at0 l j).a.toNat (by omega) (by omega) (by rw [Int.toNat_of_nonneg a1]; exact a3)
          have tb := ih (at0 l j).b.toNat (by omega) (by omega) (by rw [Int.toNat_of_nonneg b1]; exact b3)
          have ra := hrl _ (hcl (at0 l j).a.toNat (by omega))
          have rb := hrl _ (hcl (at0 l j).b.toNat (by omega))
          have rc := hrl _ (hcl (fl.length + j) hx)
          rw [Int.toNat_of_nonneg a1] at ta ra
          rw [Int.toNat_of_nonneg b1] at tb rb
          have hev := resolve_sound (n := (n : Int)) (by omega) (by omega) (by omega) (allP_of (by omega) ra) (allP_of (by omega) rb) o5 ta tb
          rw [evalP_one (by omega) (by omega) (by omega) (allP_of (by omega) rc)] at hev
          exact hev
    have hue : inU ⟨n, fl⟩ l (e : Int) = true := (inU_iff (f := ⟨n, fl⟩) hok hne).2 (by rw [he]; exact .base)
    have := key e hf.1 hue
    rw [hf.2.1] at this
    cases this
theorem cls_right {n : Nat} {fl : List (List Int)} (hr : RightL n fl) (l : List Ps) : RightL n (fl ++ (clsP fl [] l).1) := by
  have hP := clsP_all (fl := fl) (P := RightC n) hr (fun a b v c ka kb h => fun x hx => by
    rcases (resolve_mem h).2 x hx with h | h
    · exact ka x h
    · exact kb x h) (l := l) (o := []) (by simp)
  intro c hc
  rcases List.mem_append.1 hc with h | h
  · exact hr c h
  · exact hP c h
set_option maxHeartbeats 8000000 in
theorem coresL_e (hx : TXP ext) (f : Fm) : G ext 5 [f.av] [] = some (.ret (.d (.bool true)), []) := by
  have ha := alive16_e hx
  have hli := light16_e hx.toTX f []
  have hxt := hx.toTX
  simp only [List.map_nil] at hli
  cases h1 : light16 f [] with
  | false =>
    rw [h1] at hli
    simp only [Fm.av] at hli ⊢
    have hx := hxt
    rw [G_body hx.clear rfl Try.func5 rfl Try.results5 hv_5 rfl]
    simp (config := { maxSteps := 4000000 }) (disch := first | (intros; contradiction) | omega) only [go_sem, hli, ha]
  | true =>
    rw [h1] at hli
    obtain ⟨_, _, g3, g4⟩ := light16_inv h1
    by_cases h2 : (10 : Int) < f.n
    · simp only [Fm.av] at hli ⊢
      have hx := hxt
      rw [G_body hx.clear rfl Try.func5 rfl Try.results5 hv_5 rfl]
      simp (config := { maxSteps := 4000000 }) (disch := first | (intros; contradiction) | omega) only [go_sem, hli, ha, h2]
    · have hs := (light_short g3).1
      have ho := own_e hxt f
      have hrr := rright_e hxt f hs
      cases hr : rightP f with
      | false =>
        rw [hr] at hrr
        simp only [Fm.av] at hli ho hrr ⊢
        have hx := hxt
        rw [G_body hx.clear rfl Try.func5 rfl Try.results5 hv_5 rfl]
        simp (config := { maxSteps := 4000000 }) (disch := first | (intros; contradiction) | omega) only [go_sem, hli, ha, h2, ho, hrr]
        done
      | true =>
        rw [hr] at hrr
        obtain ⟨h0, h3, _⟩ := right_inv hr
        obtain ⟨n, hnn⟩ : ∃ n : Nat, f.n = (n : Int) := ⟨f.n.toNat, by omega⟩
        obtain ⟨fn, fl⟩ := f
        simp only at hnn h2 h0 h3
        subst hnn
        have hn : n ≤ 10 := by omega
        by_cases he : Go.Proofs.Ytchedkjlhjfadaa.ext n fl [] = []
        · obtain ⟨st, k1, k2, k3, out, c, k4, k5, k6⟩ := refute_e hx n hn fl hs hr he
          obtain ⟨q1, q2, q3, e, q4⟩ := refuted hn hr g3 k4 k5 k6
          have hem : emptyP ⟨n, fl⟩ st = (e : Int) := first_empty hr k4.cls q4
          have hne : emptyP ⟨n, fl⟩ st ≠ -1 := by omega
          have hft : Fits ⟨n, fl⟩ st := ⟨by omega, fun s hs => by have := k3 s hs; omega, fun l' o _ hcl c hc => by have := cls_short g3 l' c (by rw [hcl]; exact hc); omega⟩
          obtain ⟨t1, t2, t3, t4, o2, t5⟩ := trim_law hne
          have hft2 := trim_fits g3 hft
          have htr := trim_e hx ⟨n, fl⟩ hs st (by omega) (fun _ => hft)
          have hco := core_e hx ⟨n, fl⟩ hs st (by omega) (fun _ => hft)
          have htr2 := trim_e hx ⟨n, fl⟩ hs (trimP ⟨n, fl⟩ st) (by omega) (fun _ => hft2)
          have hco2 := core_e hx ⟨n, fl⟩ hs (trimP ⟨n, fl⟩ st) (by omega) (fun _ => hft2)
          have hfull := trim_full t1 t4
          rw [t3] at hco2
          obtain ⟨_, o3, e2, u1, u2, u3⟩ := empty_first t1
          have hcle := core_unsat hn hr q1 q2 q4 hem
          obtain ⟨hrl, _, _⟩ := rightL_of hr
          simp only [Int.toNat_natCast] at hrl
          have hrl2 := cls_right hrl (trimP ⟨n, fl⟩ st)
          simp only at u1
          rw [u1] at hrl2
          have hck := rcheck_e hxt ⟨n, fl⟩ hs hr (trimP ⟨n, fl⟩ st) (by omega) o3 (cls_ok.1 u1) (by simpa using hrl2) (by simp only [Int.toNat_natCast]; omega) (fun c hc => by have := cls_short g3 (trimP ⟨n, fl⟩ st) c (by show c ∈ fl ++ (clsP fl [] _).1; rw [u1]; exact hc); omega) (fun s hs => by
            obtain ⟨_, oo, kk, hcl, _⟩ := empty_first hne
            have htrL : trimP ⟨n, fl⟩ st = trimL fl.length st (inU ⟨n, fl⟩ st) st.length := trim_all (inU_clo (f := ⟨n, fl⟩) (cls_ok.1 hcl) hne)
            rw [htrL] at hs
            obtain ⟨q, hq, e⟩ := trimL_on hs
            rw [e]; exact k3 q hq) e2 u3
          have hba := back16_e hxt (trimP ⟨n, fl⟩ st) (by omega)
          have hlen2 : ((((trimP ⟨n, fl⟩ st).map rowS).length : Nat) : Int) ≤ ((st.map rowS).length : Int) := by rw [List.length_map, List.length_map]; omega
          have hlen3 : ((((trimP ⟨n, fl⟩ (trimP ⟨n, fl⟩ st)).map rowS).length : Nat) : Int) = (((trimP ⟨n, fl⟩ st).map rowS).length : Int) := by rw [List.length_map, List.length_map, hfull]
          have hcm := fun i => core_mem (f := ⟨n, fl⟩) (l := st) (i := i)
          have hcl1 : (coreP ⟨n, fl⟩ st).length ≤ 1000 := by unfold coreP; exact Nat.le_trans (pickU_len _ _) (by have := hs.l; simp only at this ⊢; omega)
          have hnu := numbers_e hxt (coreP ⟨n, fl⟩ st) (coreP ⟨n, fl⟩ st) (by omega)
          rw [decide_eq_true rfl] at hnu
          have hcmem : ∀ c, c ∈ coreC ⟨n, fl⟩ (coreP ⟨n, fl⟩ st) → c ∈ fl := fun c hc => by
            unfold coreC at hc
            obtain ⟨i, hi, rfl⟩ := List.mem_map.1 hc
            obtain ⟨i0, i1, _⟩ := core_mem.1 hi
            simp only at i1 ⊢
            rw [List.getD_eq_getElem?_getD, List.getElem?_eq_getElem (by omega)]
            exact List.getElem_mem _
          have hclen : (coreC ⟨n, fl⟩ (coreP ⟨n, fl⟩ st)).length ≤ 1000 := by unfold coreC; rw [List.length_map]; exact hcl1
          have hcs : Short ⟨n, coreC ⟨n, fl⟩ (coreP ⟨n, fl⟩ st)⟩ := ⟨hclen, fun c hc => hs.c c (hcmem c hc)⟩
          have hcr : rightP ⟨n, coreC ⟨n, fl⟩ (coreP ⟨n, fl⟩ st)⟩ = true := by
            unfold rightP
            simp only
            rw [decide_eq_false (by omega), decide_eq_false (by omega), decide_eq_false (by omega)]
            simp only [Bool.not_false, Bool.true_and]
            refine List.all_eq_true.2 fun c hc => ?_
            unfold rightP at hr
            simp only [Bool.and_eq_true, List.all_eq_true] at hr
            exact hr.2.2.2 c (hcmem c hc)
          have hmo := models_e hxt ⟨n, coreC ⟨n, fl⟩ (coreP ⟨n, fl⟩ st)⟩ hcs
          rw [firstP_ext (by omega) hcr, hcle] at hmo
          generalize hcc : coreP ⟨n, fl⟩ st = cc at *
          generalize trimP ⟨n, fl⟩ (trimP ⟨n, fl⟩ st) = t2 at *
          generalize trimP ⟨n, fl⟩ st = tt at *
          simp only [Fm.av, List.take_nil, List.map_nil] at hli ho hrr hmo k1 hck htr hco htr2 hco2 ⊢
          have hx := hxt
          rw [G_body hx.clear rfl Try.func5 rfl Try.results5 hv_5 rfl]
          simp (config := { maxSteps := 4000000 }) (disch := first | (intros; contradiction) | omega) only [go_sem, hli, ha, h2, ho, hrr, k1, htr, hco, List.length_nil]
          generalize hL : loopA _ _ _ = L
          apply range_upd hL (by simp (config := { maxSteps := 4000000 }) (disch := first | (intros; contradiction) | omega) only [go_sem] <;> rfl) cc rowI (α := Unit) (fun _ _ _ => True) (fun k _ => [(9, .d (.int .i64 k))]) (fun k _ => [(2, .cells [.d (.int .i64 n), .grow 3 k ((coreC ⟨n, fl⟩ (cc.take k)).map rowC)]), (3, .grow k 1)]) () (by simp (config := { maxSteps := 4000000 }) (disch := first | (intros; contradiction) | omega) only [go_sem] <;> rfl) trivial ?_ ?_
          · rintro i rest k _ _ hlt hrow hget hk _ next ih
            clear hL
            simp only [rowI] at hrow
            have hk0 : (0 : Int) ≤ (k : Int) := by omega
            obtain ⟨i0, i1, _⟩ := (hcm i).1 (List.mem_of_getElem? hget)
            simp only at i1
            have n1 : ¬ i < 0 := by omega
            have hfl : (fl.map rowC).length = fl.length := List.length_map _
            have n2 : ¬ ((fl.map rowC).length : Int) ≤ i := by omega
            have hgi : (fl.map rowC)[i.toNat]? = some [.sl ((fl.getD i.toNat []).map rowI)] := by
              rw [List.getElem?_map, List.getD_eq_getElem?_getD, List.getElem?_eq_getElem (by omega)]; rfl
            have htl : (coreC ⟨n, fl⟩ (cc.take k)).length = k := by unfold coreC; rw [List.length_map, List.length_take]; omega
            have hroom : room (((coreC ⟨n, fl⟩ (cc.take k)).map rowC).length + 1) 24 := by rw [List.length_map, htl]; unfold room; simp; omega
            have hnx : coreC ⟨n, fl⟩ (cc.take (k + 1)) = coreC ⟨n, fl⟩ (cc.take k) ++ [fl.getD i.toNat []] := by
              unfold coreC
              rw [List.take_add_one, hget]; simp
            simp (config := { maxSteps := 4000000 }) (disch := first | (intros; contradiction) | omega) only [go_sem, hlt, hrow, hk0, n1, n2, i0, hgi, hroom, wrap64]
            exact ih () _ trivial (by rw [hnx]; simp (config := { maxSteps := 4000000 }) (disch := first | (intros; contradiction) | omega) only [go_sem, List.map_append, List.map_cons, List.map_nil, rowC] <;> rfl)
          · rintro k _ _ hlt hk next
            clear hL
            rw [hk, List.take_length]
            rw [← hk]
            simp (config := { maxSteps := 4000000 }) (disch := first | (intros; contradiction) | omega) only [go_sem, hlt, hck, hba, hlen2, hlen3, hco2, hnu, htr2, hmo, ha, List.length_nil]
            done
        · have hre := refute1_e hx n hn fl hs hr he
          simp only [Fm.av] at hli ho hrr hre ⊢
          have hx := hxt
          rw [G_body hx.clear rfl Try.func5 rfl Try.results5 hv_5 rfl]
          simp (config := { maxSteps := 4000000 }) (disch := first | (intros; contradiction) | omega) only [go_sem, hli, ha, h2, ho, hrr, hre, List.length_nil, List.map_nil]
          done
end Go.Proofs.Ytchedkjlhjfadaa
