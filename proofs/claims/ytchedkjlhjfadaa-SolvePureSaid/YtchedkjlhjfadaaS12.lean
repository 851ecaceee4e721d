/- What literals force is one: the program's way and the document's. Conditions: none. -/
import Derived.Test.YtchedkjlhjfadaaS11
set_option linter.unusedSimpArgs false
set_option linter.unusedVariables false
namespace Go.Proofs.Ytchedkjlhjfadaa
open Go Go.Ab
/-- A set of literals that is consistent, and forces nothing more. -/
structure Clo (fl : List (List Int)) (S : Int → Prop) : Prop where
  cons : ∀ x, S x → ¬ S (-x)
  sat : ∀ c, c ∈ fl → (∃ x, x ∈ c ∧ S x) ∨ ∃ x y, x ∈ c ∧ y ∈ c ∧ x ≠ y ∧ ¬ S (-x) ∧ ¬ S (-y)
theorem Clo.one {fl : List (List Int)} {S : Int → Prop} (h : Clo fl S) {c : List Int} {x : Int} (hc : c ∈ fl) (ho : ∀ y, y ∈ c → y = x ∨ S (-y)) : S x := by
  rcases h.sat c hc with ⟨z, hz, hs⟩ | ⟨y, z, hy, hz, hyz, ny, nz⟩
  · rcases ho z hz with rfl | h2
    · exact hs
    · exact absurd h2 (h.cons z hs)
  · have e1 := (ho y hy).resolve_right ny
    have e2 := (ho z hz).resolve_right nz
    exact absurd (e1.trans e2.symm) hyz
theorem Clo.none {fl : List (List Int)} {S : Int → Prop} (h : Clo fl S) {c : List Int} (hc : c ∈ fl) (ho : ∀ y, y ∈ c → S (-y)) : False := by
  rcases h.sat c hc with ⟨z, hz, hs⟩ | ⟨y, z, hy, hz, hyz, ny, nz⟩
  · exact h.cons z hs (ho z hz)
  · exact ny (ho y hy)
theorem lastZ_two {val : Nat → Int} (h3 : lits3 val) : ∀ (c : List Int) (x : Int), (x ≠ 0 → truthZ val x = 0) → lastZ val c x = (0, true) →
    (∃ y, y ∈ c ∧ truthZ val y = 1) ∨ ∃ y z, (y = x ∧ x ≠ 0 ∨ y ∈ c) ∧ z ∈ c ∧ y ≠ z ∧ truthZ val y = 0 ∧ truthZ val z = 0
  | [], x, _, h => by
    unfold lastZ at h
    simp only [Prod.mk.injEq, decide_eq_true_eq] at h
    exact absurd h.1 h.2
  | y :: c, x, hx, h => by
    unfold lastZ at h
    split at h
    · rename_i t
      exact .inl ⟨y, by simp, t⟩
    · split at h
      · rename_i t
        split at h
        · rename_i hxy
          exact .inr ⟨x, y, .inl ⟨rfl, hxy.1⟩, by simp, hxy.2, hx hxy.1, t⟩
        · rcases lastZ_two h3 c y (fun _ => t) h with ⟨z, hz, e⟩ | ⟨u, z, hu, hz, huz, e1, e2⟩
          · exact .inl ⟨z, by simp [hz], e⟩
          · refine .inr ⟨u, z, .inr ?_, by simp [hz], huz, e1, e2⟩
            rcases hu with hu | hu
            · simp [hu.1]
            · simp [hu]
      · rcases lastZ_two h3 c x hx h with ⟨z, hz, e⟩ | ⟨u, z, hu, hz, huz, e1, e2⟩
        · exact .inl ⟨z, by simp [hz], e⟩
        · refine .inr ⟨u, z, ?_, by simp [hz], huz, e1, e2⟩
          rcases hu with hu | hu
          · exact .inl hu
          · exact .inr (by simp [hu])
theorem truthZ_neg {val : Nat → Int} {x : Int} (h : x ≠ 0) : truthZ val (-x) = - truthZ val x := by
  rw [truthZ_val, truthZ_val, Int.natAbs_neg]
  by_cases hx : x < 0
  · rw [if_neg (by omega), if_pos hx]; omega
  · rw [if_pos (by omega), if_neg hx]
theorem truth_one : ∀ {r : List (Int × Int)} {x : Int}, x ≠ 0 → truthZ (valR r) x = 1 → ∃ p, p ∈ r ∧ p.1 = x
  | [], x, h0, h => by
    rw [truthZ_val] at h
    simp [valR] at h
  | p :: r, x, h0, h => by
    rw [truthZ_val] at h
    by_cases e : x.natAbs = p.1.natAbs
    · simp only [valR, upd, e, if_true] at h
      refine ⟨p, by simp, ?_⟩
      by_cases hx : x < 0 <;> by_cases hp : p.1 < 0 <;> simp [hx, hp] at h <;> omega
    · simp only [valR, upd, e, if_false] at h
      rw [← truthZ_val (val := valR r)] at h
      obtain ⟨q, hq, he⟩ := truth_one h0 h
      exact ⟨q, by simp [hq], he⟩
theorem truth_of {n : Nat} {r : List (Int × Int)} (ht : TrInv n r) {p : Int × Int} (hp : p ∈ r) : p.1 ≠ 0 ∧ truthZ (valR r) p.1 = 1 := by
  have h0 : p.1 ≠ 0 := by
    induction r with
    | nil => cases hp
    | cons q r ih =>
      rcases List.mem_cons.1 hp with rfl | h
      · exact ht.1
      · exact ih ht.2.2.2.2 h
  refine ⟨h0, ?_⟩
  rw [truthZ_val, valR_mem ht p hp]
  split <;> rfl
theorem truth_out {S : Int → Prop} {r : List (Int × Int)} (hS : ∀ p, p ∈ r → S p.1) {y : Int} (h0 : y ≠ 0) (h : truthZ (valR r) y = -1) : S (-y) := by
  obtain ⟨p, hp, e⟩ := truth_one (r := r) (x := -y) (by omega) (by rw [truthZ_neg h0, h]; rfl)
  rw [← e]
  exact hS p hp
/-! ### the program stays inside -/
theorem asm_in {n : Nat} {fl : List (List Int)} {S : Int → Prop} (hS : Clo fl S) : ∀ {lits : List Int} {r : List (Int × Int)}, (∀ x, x ∈ lits → S x ∧ x ≠ 0 ∧ -(n : Int) ≤ x ∧ x ≤ n) → (∀ p, p ∈ r → S p.1) → ∃ q, asm n r lits = some q ∧ ∀ p, p ∈ q → S p.1
  | [], r, _, hr => ⟨r, rfl, hr⟩
  | x :: l, r, hl, hr => by
    obtain ⟨sx, h0, h1, h2⟩ := hl x (by simp)
    have hl' : ∀ y, y ∈ l → S y ∧ y ≠ 0 ∧ -(n : Int) ≤ y ∧ y ≤ n := fun y hy => hl y (by simp [hy])
    have hn : ¬ (x = 0 ∨ (n : Int) < x ∨ x < 0 - (n : Int) ∨ truthZ (valR r) x < 0) := by
      rintro (h | h | h | h)
      · exact h0 h
      · omega
      · omega
      · have := truthZ_range (lits3_valR r) x
        exact hS.cons x sx (truth_out hr h0 (by omega))
    rw [asm, if_neg hn]
    split
    · exact asm_in hS hl' fun p hp => by
        rcases List.mem_cons.1 hp with rfl | hp
        · exact sx
        · exact hr p hp
    · exact asm_in hS hl' hr
theorem UP.in {n : Nat} {fl : List (List Int)} (hf : RightL n fl) {S : Int → Prop} (hS : Clo fl S) {q r : List (Int × Int)} (h : UP fl q r) (hq : ∀ p, p ∈ q → S p.1) : ∀ p, p ∈ r → S p.1 := by
  induction h with
  | refl r => exact hq
  | @step r r' c x hc hl h0 _ ih =>
    have hcc := fun y hy => (hf c hc y hy).1
    refine ih fun p hp => ?_
    rcases List.mem_cons.1 hp with rfl | hp
    · rcases lastZ_spec (lits3_valR r) c 0 hcc (fun h => absurd rfl h) with ⟨h1, _⟩ | ⟨z, h1, h2, h3, h4, h5⟩ | ⟨h1, _, _⟩
      · rw [h1] at hl; simp at hl; exact absurd hl.symm h0
      · rw [h1] at hl
        simp only [Prod.mk.injEq, and_true] at hl
        subst hl
        refine hS.one hc fun y hy => ?_
        rcases h5 y hy with e | e
        · exact .inl e
        · exact .inr (truth_out hq (hcc y hy) e)
      · rw [h1] at hl; simp at hl
    · exact hq p hp
theorem conflict_out {n : Nat} {fl : List (List Int)} (hf : RightL n fl) {S : Int → Prop} (hS : Clo fl S) {r : List (Int × Int)} (hr : ∀ p, p ∈ r → S p.1) {c : List Int} {x : Int} (hc : c ∈ fl) (hl : lastZ (valR r) c 0 = (x, false)) : False := by
  have hcc := fun y hy => (hf c hc y hy).1
  rcases lastZ_spec (lits3_valR r) c 0 hcc (fun h => absurd rfl h) with ⟨h1, _⟩ | ⟨z, h1, _⟩ | ⟨h1, _, h5⟩
  · rw [h1] at hl; simp at hl
  · rw [h1] at hl; simp at hl
  · exact hS.none hc fun y hy => truth_out hr (hcc y hy) (h5 y hy)
/-! ### the document stays inside -/
theorem DCh.in {f : Fm} (hr : rightP f = true) {lits : List Int} (hla : allP f.n lits = true) {S : Int → Prop} (hS : Clo f.l S) (hl : ∀ x, x ∈ lits → S x) {d : List Int} (h : DCh f lits d) : ∀ x, x ∈ d → S x := by
  induction h with
  | start => exact hl
  | @step d c x h hc hm hn ih =>
    intro y hy
    rcases List.mem_append.1 hy with hy | hy
    · exact ih y hy
    · simp only [List.mem_singleton] at hy
      subst hy
      obtain ⟨_, _, _, c0, h1, _, _, h4⟩ := unit_new hr (h.all hr hla).1 hc hm hn
      exact hS.one h1 fun z hz => (h4 z hz).imp id fun hz => ih _ hz
theorem doc_ok {f : Fm} (hr : rightP f = true) {lits : List Int} (hla : allP f.n lits = true) {S : Int → Prop} (hS : Clo f.l S) (hl : ∀ x, x ∈ lits → S x) {d : List Int} (h : DCh f lits d)
    (hb : clashP d = true ∨ clashP d = false ∧ ∃ c, c ∈ (gAll f d).l ∧ normR c = []) : False := by
  obtain ⟨h0, h1, _⟩ := right_inv hr
  have hda := (h.all hr hla).1
  have hd := h.in hr hla hS hl
  have hcl : clashP d = false := (clash_iff h0 h1 hda).2 fun x y hx hy e => hS.cons y (hd y hy) (by rw [← e]; exact hd x hx)
  rcases hb with hb | ⟨_, c, hc, hn⟩
  · rw [hb] at hcl; cases hcl
  · obtain ⟨c0, hc0, _, rfl⟩ := (gAll_mem d hr hda ((clash_iff h0 h1 hda).1 hcl) c).1 hc
    refine hS.none hc0 fun y hy => ?_
    by_cases hyd : -y ∈ d
    · exact hd _ hyd
    · have : y ∈ normR (c0.filter fun y => decide (-y ∉ d)) := mem_normR.2 (List.mem_filter.2 ⟨hy, decide_eq_true hyd⟩)
      rw [hn] at this
      cases this
/-! ### both are closed -/
theorem doc_clo {f : Fm} (hr : rightP f = true) {d : List Int} (hda : allP f.n d = true) (hcl : clashP d = false) (hall : ∀ c, c ∈ (gAll f d).l → 2 ≤ (normR c).length) : Clo f.l (· ∈ d) := by
  obtain ⟨h0, h1, _⟩ := right_inv hr
  have hc2 := (clash_iff h0 h1 hda).1 hcl
  refine ⟨fun x hx hn => hc2 (-x) x hn hx rfl, fun c0 hc0 => ?_⟩
  by_cases hx : ∃ x, x ∈ c0 ∧ x ∈ d
  · exact .inl hx
  · have hc := hall _ ((gAll_mem d hr hda hc2 _).2 ⟨c0, hc0, fun x hx1 hx2 => hx ⟨x, hx2, hx1⟩, rfl⟩)
    have hst := normR_strict (c0.filter fun y => decide (-y ∉ d))
    have hmem : ∀ z, z ∈ normR (c0.filter fun y => decide (-y ∉ d)) → z ∈ c0 ∧ -z ∉ d := fun z hz => by
      have := List.mem_filter.1 (mem_normR.1 hz)
      exact ⟨this.1, of_decide_eq_true this.2⟩
    revert hc hst hmem
    generalize normR (c0.filter fun y => decide (-y ∉ d)) = l
    intro hc hst hmem
    match l, hc, hst, hmem with
    | x :: y :: r, _, hst, hmem =>
      obtain ⟨a1, a2⟩ := hmem x (by simp)
      obtain ⟨b1, b2⟩ := hmem y (by simp)
      refine .inr ⟨x, y, a1, b1, fun e => ?_, a2, b2⟩
      subst e
      have := (List.pairwise_cons.1 hst).1 x (by simp)
      rw [ltI_irrefl] at this
      cases this
theorem prog_clo {n : Nat} {fl : List (List Int)} (hf : RightL n fl) {r : List (Int × Int)} (hsat : ∀ c, c ∈ fl → lastZ (valR r) c 0 = (0, true)) : Clo fl fun x => x ≠ 0 ∧ truthZ (valR r) x = 1 := by
  refine ⟨fun x hx hn => ?_, fun c hc => ?_⟩
  · have := truthZ_neg (val := valR r) hx.1
    have := hx.2
    have := hn.2
    omega
  · have hcc := fun y hy => (hf c hc y hy).1
    rcases lastZ_two (lits3_valR r) c 0 (fun h => absurd rfl h) (hsat c hc) with ⟨y, hy, e⟩ | ⟨y, z, hy, hz, hyz, e1, e2⟩
    · exact .inl ⟨y, hy, hcc y hy, e⟩
    · have hy : y ∈ c := hy.resolve_left fun h => h.2 rfl
      refine .inr ⟨y, z, hy, hz, hyz, fun h => ?_, fun h => ?_⟩
      · have := truthZ_neg (val := valR r) (hcc y hy)
        have := h.2
        omega
      · have := truthZ_neg (val := valR r) (hcc z hz)
        have := h.2
        omega
/-! ### trails -/
theorem asm_tr {n : Nat} : ∀ {lits : List Int} {r q : List (Int × Int)}, asm n r lits = some q → TrInv n r → TrInv n q ∧ (∀ p, p ∈ r → p ∈ q) ∧ ∀ x, x ∈ lits → truthZ (valR q) x = 1
  | [], r, q, h, ht => by
    have h : some r = some q := h
    cases h
    exact ⟨ht, fun _ h => h, by simp⟩
  | x :: l, r, q, h, ht => by
    unfold asm at h
    split at h
    · cases h
    · rename_i hn
      have h3 := truthZ_range (lits3_valR r) x
      have hx0 : x ≠ 0 := fun e => hn (.inl e)
      have hx1 : ¬ (n : Int) < x := fun e => hn (.inr (.inl e))
      have hx2 : ¬ x < 0 - (n : Int) := fun e => hn (.inr (.inr (.inl e)))
      have hx3 : ¬ truthZ (valR r) x < 0 := fun e => hn (.inr (.inr (.inr e)))
      split at h
      · rename_i hz
        obtain ⟨a, b, c⟩ := asm_tr h (trInv_room ht hx0 (by omega) (by omega) hz 0).1
        refine ⟨a, fun p hp => b p (by simp [hp]), fun y hy => ?_⟩
        rcases List.mem_cons.1 hy with rfl | hy
        · exact (truth_of a (b (y, 0) (by simp))).2
        · exact c y hy
      · rename_i hz
        obtain ⟨a, b, c⟩ := asm_tr h ht
        refine ⟨a, b, fun y hy => ?_⟩
        rcases List.mem_cons.1 hy with rfl | hy
        · obtain ⟨p, hp, e⟩ := truth_one hx0 (show truthZ (valR r) y = 1 by omega)
          rw [← e]
          exact (truth_of a (b p hp)).2
        · exact c y hy
theorem UP.tr {n : Nat} {fl : List (List Int)} (hf : RightL n fl) {q r : List (Int × Int)} (h : UP fl q r) : TrInv n q → TrInv n r ∧ ∀ p, p ∈ q → p ∈ r := by
  induction h with
  | refl r => exact fun h => ⟨h, fun _ h => h⟩
  | @step r r' c x hc hl h0 _ ih =>
    intro ht
    obtain ⟨a, b, _⟩ := forced_lit hf hc hl h0
    obtain ⟨_, e1, e2⟩ := hf c hc x a
    obtain ⟨t1, t2⟩ := ih (trInv_room ht h0 e1 e2 b 0).1
    exact ⟨t1, fun p hp => t2 p (by simp [hp])⟩
theorem val_zero {n : Nat} : ∀ {r : List (Int × Int)}, TrInv n r → valR r 0 = 0
  | [], _ => rfl
  | p :: r, h => by
    have := h.1
    simp only [valR, upd]
    rw [if_neg (by omega)]
    exact val_zero h.2.2.2.2
theorem mem_outN {n : Nat} {r : List (Int × Int)} (ht : TrInv n r) {z : Int} : z ∈ outN n (valR r) ↔ z ≠ 0 ∧ truthZ (valR r) z = 1 ∧ z.natAbs ≤ n := by
  unfold outN outP
  simp only [List.mem_map, List.mem_filter, List.mem_range, decide_eq_true_eq]
  constructor
  · rintro ⟨v, ⟨h1, h2⟩, rfl⟩
    have hv0 : v ≠ 0 := fun e => h2 (by rw [e]; exact val_zero ht)
    have h3 := lits3_valR r v
    have : valR r v = 1 ∨ valR r v = -1 := by omega
    rw [truthZ_val]
    rcases this with e | e <;> rw [e]
    · have e1 : ((v : Int) * 1).natAbs = v := by omega
      rw [e1, if_neg (by omega)]
      exact ⟨by omega, e, by omega⟩
    · have e1 : ((v : Int) * -1).natAbs = v := by omega
      rw [e1, if_pos (by omega), e]
      exact ⟨by omega, rfl, by omega⟩
  · rintro ⟨h0, h1, h2⟩
    rw [truthZ_val] at h1
    refine ⟨z.natAbs, ⟨by omega, ?_⟩, ?_⟩
    · split at h1 <;> omega
    · split at h1
      · have : valR r z.natAbs = -1 := by omega
        rw [this]; omega
      · rw [h1]; omega
theorem keyI_abs {x : Int} (h1 : -1000000 ≤ x) (h2 : x ≤ 1000000) : keyI x = x.natAbs := by
  unfold keyI
  rw [wrap64 (by omega) (by omega)]
  split <;> omega
theorem outN_strict {n : Nat} (hn : n ≤ 100000) {r : List (Int × Int)} (ht : TrInv n r) : (outN n (valR r)).Pairwise fun a b => ltI a b = true := by
  unfold outN outP
  rw [List.pairwise_map]
  refine List.Pairwise.imp_of_mem (R := fun a b => a < b) ?_ (List.Pairwise.filter _ List.pairwise_lt_range)
  intro u v hu hv huv
  have hu := List.mem_filter.1 hu
  have hv := List.mem_filter.1 hv
  have hu1 := List.mem_range.1 hu.1
  have hv1 := List.mem_range.1 hv.1
  have hu2 : valR r u ≠ 0 := of_decide_eq_true hu.2
  have hv2 : valR r v ≠ 0 := of_decide_eq_true hv.2
  have hu3 := lits3_valR r u
  have hv3 := lits3_valR r v
  have hu4 : valR r u = 1 ∨ valR r u = -1 := by omega
  have hv4 : valR r v = 1 ∨ valR r v = -1 := by omega
  unfold ltI
  rw [Bool.or_eq_true]
  refine .inl (decide_eq_true ?_)
  rcases hu4 with hu4 | hu4 <;> rcases hv4 with hv4 | hv4 <;> rw [hu4, hv4, keyI_abs (by omega) (by omega), keyI_abs (by omega) (by omega)] <;> omega
/-- The program and the document say the same of literals that force. -/
theorem fix_same {f : Fm} (hr : rightP f = true) {lits : List Int} (hla : allP f.n lits = true) {l l' : List Int} {b b' : Bool} (h : FixR f.n.toNat f.l lits l b) (h' : DocR f lits l' b') : l = l' ∧ b = b' := by
  obtain ⟨h0, h1, _⟩ := right_inv hr
  obtain ⟨hf, _, hn⟩ := rightL_of hr
  have hla' : ∀ x, x ∈ lits → x ≠ 0 ∧ -((f.n.toNat : Nat) : Int) ≤ x ∧ x ≤ ((f.n.toNat : Nat) : Int) := fun x hx => by
    have := lit_range h0 h1 (List.all_eq_true.1 hla x hx)
    omega
  rcases h with ⟨rfl, rfl, h⟩ | ⟨rfl, q, r, hq, hup, hsat, rfl⟩
  · rcases h' with ⟨_, d, hd, hcl, hall, _⟩ | ⟨rfl, rfl, _⟩
    · exfalso
      obtain ⟨hda, hls⟩ := hd.all hr hla
      have hS := doc_clo hr hda hcl hall
      obtain ⟨q, hq, hqS⟩ := asm_in (n := f.n.toNat) hS (lits := lits) (r := []) (fun x hx => ⟨hls x hx, hla' x hx⟩) (by simp)
      rcases h with h | ⟨q2, r, h, hup, c, x, hc, hl⟩
      · rw [h] at hq; cases hq
      · rw [h] at hq
        cases hq
        exact conflict_out hf hS (hup.in hf hS hqS) hc hl
    · exact ⟨rfl, rfl⟩
  · have hS := prog_clo hf hsat
    obtain ⟨tq, _, hql⟩ := asm_tr hq trivial
    obtain ⟨tr, hqr⟩ := hup.tr hf tq
    have hlS : ∀ x, x ∈ lits → x ≠ 0 ∧ truthZ (valR r) x = 1 := fun x hx => by
      have hx0 := (hla' x hx).1
      obtain ⟨p, hp, e⟩ := truth_one hx0 (hql x hx)
      rw [← e]
      exact truth_of tr (hqr p hp)
    rcases h' with ⟨rfl, d, hd, hcl, hall, rfl⟩ | ⟨rfl, rfl, d, hd, hb⟩
    · refine ⟨?_, rfl⟩
      obtain ⟨hda, hls⟩ := hd.all hr hla
      have hdS := hd.in hr hla hS hlS
      have hS2 := doc_clo hr hda hcl hall
      obtain ⟨q2, hq2, hqS⟩ := asm_in (n := f.n.toNat) hS2 (lits := lits) (r := []) (fun x hx => ⟨hls x hx, hla' x hx⟩) (by simp)
      rw [hq] at hq2
      cases hq2
      have hrS := hup.in hf hS2 hqS
      refine strict_ext (outN_strict hn tr) (normR_strict d) fun z => ?_
      rw [mem_outN tr, mem_normR]
      constructor
      · rintro ⟨a, b, _⟩
        obtain ⟨p, hp, e⟩ := truth_one a b
        rw [← e]
        exact hrS p hp
      · intro hz
        have := lit_range h0 h1 (List.all_eq_true.1 hda z hz)
        exact ⟨(hdS z hz).1, (hdS z hz).2, by omega⟩
    · exact (doc_ok hr hla hS hlS hd hb).elim
end Go.Proofs.Ytchedkjlhjfadaa
