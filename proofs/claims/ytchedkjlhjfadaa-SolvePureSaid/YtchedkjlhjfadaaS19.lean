/- The document's first model of a formula with literals is the solver's. Conditions: none. -/
import Derived.Test.YtchedkjlhjfadaaS18
set_option linter.unusedSimpArgs false
set_option linter.unusedVariables false
namespace Go.Proofs.Ytchedkjlhjfadaa
open Go Go.Ab
theorem trueP_lit (m : List Bool) (x : Int) : trueP m x = litT m x := by
  unfold trueP litT
  have e : (absI x - 1).toNat = x.natAbs - 1 := by unfold absI; split <;> omega
  rw [e]
  generalize (m[x.natAbs - 1]?).getD false = b
  cases b <;> cases decide (0 < x) <;> rfl
theorem asm_sat {n : Nat} {m : List Bool} : ∀ {l : List Int} {r : List (Int × Int)}, (∀ x, x ∈ l → x ≠ 0 ∧ -(n : Int) ≤ x ∧ x ≤ n) → (satR m r && l.all (litT m)) = match asm n r l with | some q => satR m q | none => false
  | [], r, _ => by
    show (satR m r && true) = satR m r
    rw [Bool.and_true]
  | x :: l, r, h => by
    obtain ⟨h0, h1, h2⟩ := h x (by simp)
    have h' : ∀ y, y ∈ l → y ≠ 0 ∧ -(n : Int) ≤ y ∧ y ≤ n := fun y hy => h y (by simp [hy])
    have h3 := truthZ_range (lits3_valR r) x
    rw [List.all_cons]
    by_cases hb : x = 0 ∨ (n : Int) < x ∨ x < 0 - (n : Int) ∨ truthZ (valR r) x < 0
    · have e : asm n r (x :: l) = none := by unfold asm; rw [if_pos hb]
      rw [e]
      have hneg : truthZ (valR r) x = -1 := by
        rcases hb with hb | hb | hb | hb <;> omega
      cases hs : satR m r with
      | false => rfl
      | true =>
        rw [satR_false hs x h0 hneg]
        rfl
    · by_cases hz : truthZ (valR r) x = 0
      · have e : asm n r (x :: l) = asm n ((x, 0) :: r) l := by
          show (if _ then _ else _) = _
          rw [if_neg hb, if_pos hz]
        rw [e, ← asm_sat h']
        simp only [satR, List.all_cons]
        cases litT m x <;> simp
      · have e : asm n r (x :: l) = asm n r l := by
          show (if _ then _ else _) = _
          rw [if_neg hb, if_neg hz]
        have hone : truthZ (valR r) x = 1 := by
          have : ¬ truthZ (valR r) x < 0 := fun e => hb (.inr (.inr (.inr e)))
          omega
        rw [e, ← asm_sat h']
        cases hs : satR m r with
        | false => rfl
        | true => rw [satR_true hs x h0 hone]; rfl
theorem allM_len : ∀ {n : Nat} {m : List Bool}, m ∈ allM n → m.length = n
  | 0, m, h => by
    simp only [allM, List.mem_singleton] at h
    subst h; rfl
  | n + 1, m, h => by
    simp only [allM, List.mem_append, List.mem_map] at h
    rcases h with ⟨x, hx, rfl⟩ | ⟨x, hx, rfl⟩ <;> simp [allM_len hx]
theorem bits_cons (n x : Nat) : bitsL (n + 1) x = decide (x / 2 ^ n % 2 = 1) :: bitsL n (x % 2 ^ n) := by
  unfold bitsL
  rw [List.range_succ_eq_map, List.map_cons, List.map_map]
  congr 1
  apply List.map_congr_left
  intro i hi
  have hi := List.mem_range.1 hi
  simp only [Function.comp]
  have e : n + 1 - 1 - (i + 1) = n - 1 - i := by omega
  rw [e]
  congr 2
  have hd : 2 ^ n = 2 ^ (n - 1 - i) * 2 ^ (i + 1) := by rw [← Nat.pow_add]; congr 1; omega
  have h2 : 2 ^ (i + 1) = 2 * 2 ^ i := by rw [Nat.pow_succ]; omega
  rw [hd, Nat.mod_mul_right_div_self, h2, Nat.mod_mul_right_mod]
theorem allM_bits : ∀ n : Nat, allM n = (List.range (2 ^ n)).map (bitsL n)
  | 0 => rfl
  | n + 1 => by
    have hp : 2 ^ (n + 1) = 2 ^ n + 2 ^ n := by rw [Nat.pow_succ]; omega
    have h0 : 0 < 2 ^ n := Nat.pow_pos (by omega)
    simp only [allM]
    rw [hp, List.range_add, List.map_append, allM_bits n, List.map_map, List.map_map, List.map_map]
    congr 1
    · apply List.map_congr_left
      intro x hx
      have hx := List.mem_range.1 hx
      simp only [Function.comp]
      rw [bits_cons, Nat.div_eq_of_lt hx, Nat.mod_eq_of_lt hx]
      rfl
    · apply List.map_congr_left
      intro x hx
      have hx := List.mem_range.1 hx
      simp only [Function.comp]
      rw [bits_cons, Nat.add_div_left _ h0, Nat.div_eq_of_lt hx, Nat.add_mod_left, Nat.mod_eq_of_lt hx]
      rfl
theorem withP_right {n : Nat} {fl : List (List Int)} {lits : List Int} (hr : rightP ⟨n, fl⟩ = true) (hl : fl.length + lits.length ≤ 200000) : rightP (withP ⟨n, fl⟩ lits) = allP n lits := by
  unfold rightP withP at *
  simp only [Bool.and_eq_true, Bool.not_eq_true', decide_eq_false_iff_not] at hr
  obtain ⟨h1, h2, h3, h4⟩ := hr
  simp only [List.all_append, h4, Bool.true_and, List.length_append, List.length_map]
  rw [decide_eq_false h1, decide_eq_false h2, decide_eq_false (by omega)]
  simp only [Bool.not_false, Bool.true_and, List.all_map]
  unfold allP
  congr 1
  funext x
  simp [Function.comp]
theorem first_find {n : Nat} (hn : n ≤ 10) {fl : List (List Int)} {lits : List Int} (hr : rightP ⟨n, fl⟩ = true) (hl : fl.length + lits.length ≤ 200000) {m : List Bool} {b : Bool} (h : FindR n fl lits m b) : firstP (withP ⟨n, fl⟩ lits) = if b = true then [m] else [] := by
  obtain ⟨h0, h1, h2⟩ := right_inv hr
  simp only at h0 h1 h2
  have hwr := withP_right hr hl
  unfold firstP
  rw [hwr]
  cases ha : allP n lits with
  | false =>
    rw [if_neg (by simp)]
    obtain ⟨x, hx, hx2⟩ := neg_of_not h0 h1 ha
    have hasm : asm n [] lits = none := asm_bad ⟨x, hx, by omega⟩
    rcases h with ⟨_, q, t, hq, _⟩ | ⟨rfl, _⟩
    · rw [hasm] at hq; cases hq
    · rfl
  | true =>
    have hn2 : (withP ⟨n, fl⟩ lits).n = (n : Int) := rfl
    rw [hn2, if_pos ⟨rfl, by omega⟩, Int.toNat_natCast]
    have hlr : ∀ x, x ∈ lits → x ≠ 0 ∧ -(n : Int) ≤ x ∧ x ≤ n := fun x hx => by
      have := lit_range h0 h1 (List.all_eq_true.1 ha x hx)
      omega
    have hF : modsF (withP ⟨n, fl⟩ lits) n (2 ^ n) = match asm n [] lits with | some q => Go.Proofs.Ytchedkjlhjfadaa.ext n fl q | none => [] := by
      unfold modsF
      rw [← allM_bits]
      have hev : ∀ m, m ∈ allM n → evalP (withP ⟨n, fl⟩ lits) m = (fT m fl && lits.all (litT m)) := by
        intro m hm
        have hml := allM_len hm
        unfold evalP
        rw [hwr, ha, hn2, decide_eq_true (by omega)]
        simp only [Bool.true_and, withP, List.all_append, List.all_map]
        congr 1
        · unfold fT clauseT
          congr 1
          funext c
          congr 1
          funext x
          exact trueP_lit m x
        · congr 1
          funext x
          simp [Function.comp, trueP_lit]
      rw [List.filter_congr hev]
      have hs := fun m => asm_sat (m := m) (r := []) hlr
      cases hasm : asm n [] lits with
      | none =>
        simp only
        refine List.filter_eq_nil_iff.2 fun m _ hm => ?_
        have := hs m
        rw [hasm] at this
        simp only [satR, List.all_nil, Bool.true_and] at this
        rw [this] at hm
        simp at hm
      | some q =>
        simp only
        unfold Go.Proofs.Ytchedkjlhjfadaa.ext Mods
        rw [List.filter_filter]
        refine List.filter_congr fun m _ => ?_
        have := hs m
        rw [hasm] at this
        simp only [satR, List.all_nil, Bool.true_and] at this
        rw [this, Bool.and_comm]
        rfl
    rw [hF]
    rcases h with ⟨rfl, q, t, hq, ht⟩ | ⟨rfl, _, hq⟩
    · rw [hq]
      simp only
      rw [ht]
      rfl
    · cases hasm : asm n [] lits with
      | none => rfl
      | some q => simp only; rw [hq q hasm]; rfl
end Go.Proofs.Ytchedkjlhjfadaa
