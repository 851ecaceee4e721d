/- solve: truth, last, put walked. Conditions: a search object in memory ('Srch'). -/
import Derived.Test.YtbeidiaejcbgoaaUtil
import Derived.Test.YtbeidiaejcbgoaaSat
namespace Go.Proofs.Ytbeidiaejcbgoaa
open Go.RowKit

def flat (tr : List (Int × Int)) : List Value := tr.flatMap fun p => [.int .i64 p.1, .int .i64 p.2]

/-- A search object: its struct in block b, its values in vb, its trail in a block of its own from B on. -/
structure Srch (w : World) (B b vb : Nat) (tv : Value) (n : Nat) (Lv : Value) (val : Nat → Int) (tr : List (Int × Int)) (st : Int) : Prop where
  ne : b ≠ vb
  hb : b < B
  hvb : vb < B
  hB : B ≤ w.heap.size
  obj : w.heap[b]? = some (.cells #[.int .i64 n, Lv, .slice (some ⟨vb, 0, none⟩) (n+1) (n+1), tv, .int .i64 st] 66 (0, 0))
  vals : ∃ arr, w.heap[vb]? = some (.cells arr 3 (0, 0)) ∧ ∀ i, i ≤ n → arr[i]? = some (.int .i64 (val i))
  trail : w.ownsRow B 79 2 tv tr.length (flat tr)
  small : n ≤ 100000
  three : lits3 val

/-- the blocks of a search. -/
def sblk (b vb : Nat) (tv : Value) (k : Nat) : Prop := k = b ∨ k = vb ∨ tv.ownBlock = some k

section
variable {w : World} {B b vb : Nat} {tv : Value} {n : Nat} {Lv : Value} {val : Nat → Int} {tr : List (Int × Int)} {st : Int}
theorem Srch.c0 (h : Srch w B b vb tv n Lv val tr st) : w.cell? ⟨b, 0, none⟩ = some (.int .i64 n) := by rw [cell_of_heap h.obj]; rfl
theorem Srch.c1 (h : Srch w B b vb tv n Lv val tr st) : w.cell? ⟨b, 1, none⟩ = some Lv := by rw [cell_of_heap h.obj]; rfl
theorem Srch.c2 (h : Srch w B b vb tv n Lv val tr st) : w.cell? ⟨b, 2, none⟩ = some (.slice (some ⟨vb, 0, none⟩) (n+1) (n+1)) := by rw [cell_of_heap h.obj]; rfl
theorem Srch.c3 (h : Srch w B b vb tv n Lv val tr st) : w.cell? ⟨b, 3, none⟩ = some tv := by rw [cell_of_heap h.obj]; rfl
theorem Srch.c4 (h : Srch w B b vb tv n Lv val tr st) : w.cell? ⟨b, 4, none⟩ = some (.int .i64 st) := by rw [cell_of_heap h.obj]; rfl
theorem Srch.f (h : Srch w B b vb tv n Lv val tr st) (o : Nat) : w.frozen? ⟨b, o, none⟩ = false := frozen_of_heap h.obj o
theorem Srch.cv (h : Srch w B b vb tv n Lv val tr st) : ∀ i, i ≤ n → w.cell? ⟨vb, i, none⟩ = some (.int .i64 (val i)) := by
  obtain ⟨arr, ha, hc⟩ := h.vals
  intro i hi
  rw [cell_of_heap ha]; exact hc i hi
theorem Srch.fv (h : Srch w B b vb tv n Lv val tr st) (o : Nat) : w.frozen? ⟨vb, o, none⟩ = false := by
  obtain ⟨arr, ha, hc⟩ := h.vals
  exact frozen_of_heap ha o

theorem Srch.chg {S : Nat → Prop} {w' : World} (h : Srch w B b vb tv n Lv val tr st) (hc : Chg S w w') (hs : ∀ k, sblk b vb tv k → ¬ S k) : Srch w' B b vb tv n Lv val tr st := by
  obtain ⟨arr, ha, hv⟩ := h.vals
  refine ⟨h.ne, h.hb, h.hvb, Nat.le_trans h.hB hc.size, hc.heap (hs b (.inl rfl)) h.obj, ⟨arr, hc.heap (hs vb (.inr (.inl rfl))) ha, hv⟩, ?_, h.small, h.three⟩
  obtain ⟨h1, h2⟩ := h.trail
  refine ⟨h1, ?_⟩
  rcases h2 with h2 | ⟨g, cap, cur, rfl, hg, hh, r⟩
  · exact .inl h2
  · exact .inr ⟨g, cap, cur, rfl, hg, hc.heap (hs g (.inr (.inr rfl))) hh, r⟩
end

set_option maxHeartbeats 400000 in
theorem truth_pos (b vb n : Nat) (i : Nat) (t : Int) (w : World)
    (hv : w.cell? ⟨b, 2, none⟩ = some (.slice (some ⟨vb, 0, none⟩) (n+1) (n+1)))
    (hi : i ≤ n) (_hm : n ≤ 100000)
    (hc : w.cell? ⟨vb, i, none⟩ = some (.int .i64 t)) :
    Calls Try.prog 51 #[.pointer (some ⟨b, 0, none⟩), .int .i64 i] w fun e w' => e = .returned (.int .i64 t) ∧ w = w' := by
  go_enter Try.func51, Try.ntmps51
  go_wp2
  go_ret
  exact ⟨rfl, rfl⟩

set_option maxHeartbeats 400000 in
theorem truth_neg (b vb n : Nat) (i : Nat) (t : Int) (w : World)
    (hv : w.cell? ⟨b, 2, none⟩ = some (.slice (some ⟨vb, 0, none⟩) (n+1) (n+1)))
    (hi : i ≤ n) (hm : n ≤ 100000) (hi0 : 0 < i) (ht : -1 ≤ t) (ht1 : t ≤ 1)
    (hc : w.cell? ⟨vb, i, none⟩ = some (.int .i64 t)) :
    Calls Try.prog 51 #[.pointer (some ⟨b, 0, none⟩), .int .i64 (-(i : Int))] w fun e w' => e = .returned (.int .i64 (-t)) ∧ w = w' := by
  go_enter Try.func51, Try.ntmps51
  go_wp2
  go_ret
  exact ⟨rfl, rfl⟩

theorem truth_any (b vb n : Nat) (val : Nat → Int) (x : Int) (w : World)
    (hv : w.cell? ⟨b, 2, none⟩ = some (.slice (some ⟨vb, 0, none⟩) (n+1) (n+1)))
    (hm : n ≤ 100000) (hval : lits3 val)
    (hc : ∀ i, i ≤ n → w.cell? ⟨vb, i, none⟩ = some (.int .i64 (val i)))
    (h1 : -(n:Int) ≤ x) (h2 : x ≤ n) :
    Calls Try.prog 51 #[.pointer (some ⟨b, 0, none⟩), .int .i64 x] w fun e w' => e = .returned (.int .i64 (truthZ val x)) ∧ w = w' := by
  unfold truthZ
  by_cases hx : x < 0
  · rw [if_pos hx]
    obtain ⟨i, rfl⟩ : ∃ i : Nat, x = -(i : Int) := ⟨(-x).toNat, by omega⟩
    rw [show (- -(i:Int)).toNat = i by omega]
    exact truth_neg b vb n i _ w hv (by omega) hm (by omega) (hval _).1 (hval _).2 (hc _ (by omega))
  · rw [if_neg hx]
    obtain ⟨i, rfl⟩ : ∃ i : Nat, x = (i : Int) := ⟨x.toNat, by omega⟩
    rw [show ((i:Int)).toNat = i by omega]
    exact truth_pos b vb n i _ w hv (by omega) hm (hc _ (by omega))

theorem lastZ_drop (val : Nat → Int) (c : List Int) (x : Int) (k : Nat) (hk : k < c.length) :
    lastZ val (c.drop k) x = if truthZ val (c[k]?.getD 0) = 1 then (0, true) else if truthZ val (c[k]?.getD 0) = 0 then (if x ≠ 0 ∧ x ≠ (c[k]?.getD 0) then (0, true) else lastZ val (c.drop (k+1)) (c[k]?.getD 0)) else lastZ val (c.drop (k+1)) x := by
  rw [List.drop_eq_getElem_cons hk]; simp [lastZ, hk]

set_option maxHeartbeats 1000000 in
theorem last_some (b vb n : Nat) (val : Nat → Int) (c : List Int) (cb co cc : Nat) (w : World)
    (hv : w.cell? ⟨b, 2, none⟩ = some (.slice (some ⟨vb, 0, none⟩) (n+1) (n+1)))
    (hm : n ≤ 100000) (hval : lits3 val)
    (hc : ∀ i, i ≤ n → w.cell? ⟨vb, i, none⟩ = some (.int .i64 (val i)))
    (hlen : c.length ≤ 9223372036854775807)
    (hcl : ∀ i, i < c.length → w.cell? ⟨cb, co + i, none⟩ = some (.int .i64 (c[i]?.getD 0)))
    (hl : ∀ i, i < c.length → -(n:Int) ≤ c[i]?.getD 0 ∧ c[i]?.getD 0 ≤ n) :
    Calls Try.prog 52 #[.pointer (some ⟨b, 0, none⟩), .slice (some ⟨cb, co, none⟩) c.length cc] w fun e w' => e = .returned (.tuple #[.int .i64 (lastZ val c 0).1, .bool (lastZ val c 0).2]) ∧ w = w' := by
  have HC := Lib.hid hc
  have HCL := Lib.hid hcl
  have HL := Lib.hid hl
  clear hc hcl hl
  generalize hres : lastZ val c 0 = res
  have HRES := Lib.hid hres
  clear hres
  go_enter Try.func52, Try.ntmps52
  go_wp2
  go_loop [4, 5, 7, 10] (fun x _is _y i => ∃ (k : Nat) (x0 : Int), k ≤ c.length ∧ i = .int .i64 k ∧ x = .int .i64 x0 ∧ Hid (lastZ val (c.drop k) x0 = res)) (fun _ _ _ i => c.length - (intOf i).toNat)
  case atStart => exact ⟨0, 0, Nat.zero_le _, rfl, rfl, HRES.out⟩
  case round =>
    obtain ⟨k, x0, hk, rfl, rfl, HR⟩ := hrel
    by_cases hlt : k < c.length
    · have hcell := HCL.out k hlt
      obtain ⟨hl1, hl2⟩ := HL.out k hlt
      have hD := lastZ_drop val c x0 k hlt
      rw [HR.out] at hD
      generalize c[k]?.getD 0 = y at hcell hl1 hl2 hD
      have hta := truth_any b vb n val y w hv hm hval HC.out hl1 hl2
      generalize truthZ val y = t at hta hD
      have HD := Lib.hid hD
      clear hD
      have HTA := Lib.hid hta
      clear hta
      go_wp2_with (go_at_call 51; refine HTA.out.mono ?_; rintro e w' ⟨rfl, rfl⟩)
      · have h1 : (t == 1) = true := by assumption
        go_ret2
        have := HD.out
        rw [if_pos (by simpa using h1)] at this
        subst this
        exact ⟨rfl, rfl⟩
      · have h1 : (t == 1) = false := by assumption
        have h2 : (t == 0) = true := by assumption
        have h3 : x0 = 0 := by assumption
        go_round
        case rel =>
          have := HD.out
          rw [if_neg (by simpa using h1), if_pos (by simpa using h2), if_neg (by omega)] at this
          exact ⟨k + 1, y, by omega, by go_num, rfl, this.symm⟩
        case measure => simp [intOf]; omega
      · have h1 : (t == 1) = false := by assumption
        have h2 : (t == 0) = true := by assumption
        have h3 : (x0 != 0) = true ∧ (x0 != y) = true := by assumption
        go_ret2
        have := HD.out
        rw [if_neg (by simpa using h1), if_pos (by simpa using h2), if_pos (by simpa using h3)] at this
        subst this
        exact ⟨rfl, rfl⟩
      · have h1 : (t == 1) = false := by assumption
        have h2 : (t == 0) = true := by assumption
        have h3 : (x0 != 0) = false ∨ (x0 != y) = false := by assumption
        go_round
        case rel =>
          have := HD.out
          rw [if_neg (by simpa using h1), if_pos (by simpa using h2), if_neg (by simp at h3; intro h; rcases h3 with h3 | h3; exact h.1 h3; exact h.2 h3)] at this
          exact ⟨k + 1, y, by omega, by go_num, rfl, this.symm⟩
        case measure => simp [intOf]; omega
      · have h1 : (t == 1) = false := by assumption
        have h2 : (t == 0) = false := by assumption
        go_round
        case rel =>
          have := HD.out
          rw [if_neg (by simpa using h1), if_neg (by simpa using h2)] at this
          exact ⟨k + 1, x0, by omega, by go_num, rfl, this.symm⟩
        case measure => simp [intOf]; omega
    · have hk' : k = c.length := by omega
      subst hk'
      have hD := HR.out
      rw [List.drop_length] at hD
      simp only [lastZ] at hD
      subst hD
      clear HR HRES
      go_wp2
      go_ret2
      exact ⟨by simp [bne, BEq.beq], rfl⟩

theorem last_nil (s : Value) (a : Option Addr) (cc : Nat) (w : World) :
    Calls Try.prog 52 #[s, .slice a 0 cc] w fun e w' => e = .returned (.tuple #[.int .i64 0, .bool false]) ∧ w = w' := by
  go_enter Try.func52, Try.ntmps52
  go_wp2
  refine wp_loop_rounds 1 ?_
  rw [rounds_succ]
  go_wp2
  go_ret2
  exact ⟨rfl, rfl⟩

theorem last_any {w : World} {B b vb : Nat} {tv : Value} {n : Nat} {Lv : Value} {val : Nat → Int} {tr : List (Int × Int)} {st : Int} (h : Srch w B b vb tv n Lv val tr st)
    {D : Nat → Prop} (v : Value) (c : List Int) (hc : Ints D w v c) (hl : ∀ x ∈ c, -(n:Int) ≤ x ∧ x ≤ n) :
    Calls Try.prog 52 #[.pointer (some ⟨b, 0, none⟩), v] w fun e w' => e = .returned (.tuple #[.int .i64 (lastZ val c 0).1, .bool (lastZ val c 0).2]) ∧ w = w' := by
  obtain ⟨a, cap, rfl, hcap, hmx, hcs⟩ := hc.open
  rcases hcs with h0 | ⟨cb, co, rfl, hlt, hcs⟩
  · subst h0
    exact last_nil _ _ _ _
  · refine last_some b vb n val c cb co cap w h.c2 h.small h.three h.cv hmx hcs ?_
    intro i hi
    have : c[i]?.getD 0 = c[i] := by simp [hi]
    rw [this]
    exact hl _ (List.getElem_mem hi)
end Go.Proofs.Ytbeidiaejcbgoaa
