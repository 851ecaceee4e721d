/- Law 16: steps that are checked are of a formula that no model satisfies. Conditions: none. -/
import Derived.Test.YtchedkjlhjfadaaQ4
set_option linter.unusedSimpArgs false
set_option linter.unusedVariables false
namespace Go.Proofs.Ytchedkjlhjfadaa
open Go Go.Ab
variable {ext : Sem'}
theorem clsP_all {fl : List (List Int)} {P : List Int → Prop} (hf : ∀ c, c ∈ fl → P c) (hr : ∀ a b v c, P a → P b → resolveP a b v = some c → P c) : ∀ {l : List Ps} {o : List (List Int)}, (∀ c, c ∈ o → P c) → ∀ c, c ∈ (clsP fl o l).1 → P c
  | [], o, ho => ho
  | s :: l, o, ho => by
    simp only [clsP]
    split
    · exact ho
    · rename_i h
      split
      · rename_i c hc
        have hall : ∀ c, c ∈ fl ++ o → P c := fun c hc => by
          rcases List.mem_append.1 hc with h | h
          · exact hf c h
          · exact ho c h
        have hg : ∀ i : Nat, i < (fl ++ o).length → P ((fl ++ o).getD i []) := fun i hi => by
          rw [List.getD_eq_getElem?_getD, List.getElem?_eq_getElem hi]
          exact hall _ (List.getElem_mem _)
        refine clsP_all hf hr fun d hd => ?_
        rcases List.mem_append.1 hd with h2 | h2
        · exact ho d h2
        · rw [List.mem_singleton] at h2
          subst h2
          exact hr _ _ _ _ (hg _ (by omega)) (hg _ (by omega)) hc
      · exact ho
theorem nodup_sub : ∀ {l u : List Int}, l.Nodup → (∀ x, x ∈ l → x ∈ u) → l.length ≤ u.length
  | [], _, _, _ => Nat.zero_le _
  | x :: l, u, h, hs => by
    have h := List.nodup_cons.1 h
    have hx := hs x (by simp)
    have := nodup_sub (u := u.erase x) h.2 (fun y hy => (List.mem_erase_of_ne (fun e => by rw [e] at hy; exact h.1 hy)).2 (hs y (by simp [hy])))
    rw [List.length_erase_of_mem hx] at this
    have := List.length_pos_of_mem hx
    simp only [List.length_cons]
    omega
theorem norm_nodup (c : List Int) : (normL c).Nodup := by
  have h := dd_strict (sort_sorted c)
  refine List.Pairwise.imp (fun {a b} hab e => ?_) h
  subst e
  rw [ltI_irrefl] at hab
  cases hab
theorem resolve_mem {a b c : List Int} {v : Int} (h : resolveP a b v = some c) : c.Nodup ∧ ∀ x, x ∈ c → x ∈ a ∨ x ∈ b := by
  unfold resolveP at h
  split at h
  · cases h
  · split at h
    · cases h
      refine ⟨norm_nodup _, fun x hx => ?_⟩
      rw [mem_norm] at hx
      simp only [withoutP, List.mem_append, List.mem_filter] at hx
      exact hx.imp (·.1) (·.1)
    · cases h
theorem flat_len {l : List (List Int)} (h : ∀ c, c ∈ l → c.length ≤ 60) : l.flatten.length ≤ l.length * 60 := by
  induction l with
  | nil => simp
  | cons c l ih =>
    have h1 := h c (by simp)
    have h2 := ih (fun d hd => h d (by simp [hd]))
    simp only [List.flatten_cons, List.length_append, List.length_cons]
    omega
/-- The steps' clauses are short. -/
theorem cls_short {f : Fm} (hl : lightP f = true) (l : List Ps) : ∀ c, c ∈ f.l ++ (clsP f.l [] l).1 → c.length ≤ 4800 := by
  unfold lightP at hl
  simp only [Bool.and_eq_true, decide_eq_true_eq, List.all_eq_true] at hl
  have h60 := fun c hc => (clause_inv (hl.2 c hc)).1
  have hfl := flat_len h60
  have hP : ∀ c, c ∈ (clsP f.l [] l).1 → (∀ x, x ∈ c → x ∈ f.l.flatten) ∧ (c ∈ f.l ∨ c.Nodup) := by
    refine clsP_all (fun c hc => ⟨fun x hx => List.mem_flatten.2 ⟨c, hc, hx⟩, .inl hc⟩) (fun a b v c ha hb hr => ?_) (by simp)
    obtain ⟨h1, h2⟩ := resolve_mem hr
    exact ⟨fun x hx => (h2 x hx).elim (ha.1 x) (hb.1 x), .inr h1⟩
  intro c hc
  rcases List.mem_append.1 hc with h | h
  · have := h60 c h; omega
  · rcases hP c h with ⟨h1, h2 | h2⟩
    · have := h60 c h2; omega
    · have := nodup_sub h2 h1; omega
theorem light16_inv {f : Fm} {l : List Ps} (h : light16 f l = true) : l.length ≤ 40 ∧ (∀ s, s ∈ l → smallS s = true) ∧ lightP f = true ∧ f.l.length ≤ 40 := by
  unfold light16 at h
  simp only [Bool.and_eq_true, decide_eq_true_eq, List.all_eq_true] at h
  exact h
theorem fits_light {f : Fm} {l : List Ps} (h : light16 f l = true) : Fits f l := by
  obtain ⟨h1, h2, h3, h4⟩ := light16_inv h
  refine ⟨by omega, fun s hs => ?_, fun l' out _ ho c hc => ?_⟩
  · have := of_decide_eq_true (h2 s hs); omega
  · have := cls_short h3 l' c (by rw [ho]; exact hc)
    omega
theorem sound_P {f : Fm} {l : List Ps} {m : List Bool} (h : emptyP f l ≠ -1) (he : evalP f m = true) : False := by
  unfold evalP at he
  simp only [Bool.and_eq_true, decide_eq_true_eq, List.all_eq_true] at he
  obtain ⟨hr, hm, ha⟩ := he
  obtain ⟨h0, h1, h2⟩ := right_inv hr
  unfold emptyP at h
  split at h
  · rename_i hc
    have hP : ∀ c, c ∈ (clsP f.l [] l).1 → allP f.n c = true ∧ c.any (trueP m) = true := by
      have hbase : ∀ c, c ∈ f.l → allP f.n c = true ∧ c.any (trueP m) = true := fun c hc => ⟨List.all_eq_true.2 (h2 c hc), ha c hc⟩
      refine clsP_all hbase (fun a b v c ka kb hr => ?_) (by simp)
      have hall : allP f.n c = true := List.all_eq_true.2 fun x hx => by
        rcases (resolve_mem hr).2 x hx with h | h
        · exact List.all_eq_true.1 ka.1 x h
        · exact List.all_eq_true.1 kb.1 x h
      have := resolve_sound h0 h1 hm ka.1 kb.1 hr ka.2 kb.2
      rw [evalP_one h0 h1 hm hall] at this
      exact ⟨hall, this⟩
    have hany := idxN_any (p := List.isEmpty) (l := f.l ++ (clsP f.l [] l).1)
    have hlo := idxN_lo (p := List.isEmpty) (l := f.l ++ (clsP f.l [] l).1)
    rw [decide_eq_true (by omega)] at hany
    obtain ⟨c, hc, hce⟩ := List.any_eq_true.1 hany.symm
    have hce : c = [] := by simpa using hce
    subst hce
    rcases List.mem_append.1 hc with h | h
    · have := ha _ h; simp at this
    · have := (hP _ h).2; simp at this
  · exact h rfl
set_option maxHeartbeats 4000000 in
theorem soundL16_e (hx : TXP ext) (f : Fm) (l : List Ps) (m : List Bool) : G ext 4 [f.av, .d (.sl (l.map rowS)), .d (.sl (m.map rowB))] [] = some (.ret (.d (.bool true)), []) := by
  have ha := alive16_e hx
  have hli := light16_e hx.toTX f l
  have hml : (m.map rowB).length = m.length := List.length_map _
  have hxt := hx.toTX
  cases h1 : light16 f l with
  | false =>
    rw [h1] at hli
    simp only [Fm.av] at hli ⊢
    have hx := hxt
    rw [G_body hx.clear rfl Try.func4 rfl Try.results4 hv_4 rfl]
    simp (config := { maxSteps := 4000000 }) (disch := first | (intros; contradiction) | omega) only [go_sem, hli, ha]
  | true =>
    rw [h1] at hli
    by_cases h2 : (100 : Int) < ((m.map rowB).length : Int)
    · simp only [Fm.av] at hli ⊢
      have hx := hxt
      rw [G_body hx.clear rfl Try.func4 rfl Try.results4 hv_4 rfl]
      simp (config := { maxSteps := 4000000 }) (disch := first | (intros; contradiction) | omega) only [go_sem, hli, ha, h2]
    · by_cases h3 : ((m.map rowB).length : Int) = f.n
      · obtain ⟨g1, g2, g3, g4⟩ := light16_inv h1
        have hs := (light_short g3).1
        have ho := own_e hxt f
        have how := own16_e hxt l (by omega)
        have hch := check_e hx f hs l (fun _ => fits_light h1)
        have hev := eval_e hxt f hs m
        have hno : decide (emptyP f l ≠ -1) = true → evalP f m = true → False := fun a b => sound_P (of_decide_eq_true a) b
        generalize decide (emptyP f l ≠ -1) = b1 at hch hno
        generalize evalP f m = b2 at hev hno
        simp only [Fm.av] at hli ho hch hev ⊢
        have hx := hxt
        rw [G_body hx.clear rfl Try.func4 rfl Try.results4 hv_4 rfl]
        have h2' : ¬ (100 : Int) < f.n := by omega
        cases b1 with
        | false => simp (config := { maxSteps := 4000000 }) (disch := first | (intros; contradiction) | omega) only [go_sem, hli, ha, h2, h2', h3, ho, how, hch]
        | true =>
          cases b2 with
          | false => simp (config := { maxSteps := 4000000 }) (disch := first | (intros; contradiction) | omega) only [go_sem, hli, ha, h2, h2', h3, ho, how, hch, hev]
          | true => exact absurd rfl (hno rfl)
      · simp only [Fm.av] at hli ⊢
        have hx := hxt
        rw [G_body hx.clear rfl Try.func4 rfl Try.results4 hv_4 rfl]
        simp (config := { maxSteps := 4000000 }) (disch := first | (intros; contradiction) | omega) only [go_sem, hli, ha, h2, h3]
end Go.Proofs.Ytchedkjlhjfadaa
