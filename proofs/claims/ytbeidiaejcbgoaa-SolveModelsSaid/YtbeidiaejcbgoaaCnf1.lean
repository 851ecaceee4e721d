/- cnf: which formulas are right, walked. Conditions: a formula in memory. -/
import Derived.Test.YtbeidiaejcbgoaaUtil
namespace Go.Proofs.Ytbeidiaejcbgoaa
open Go.RowKit

def litB (n x : Int) : Bool := decide (x ≠ 0 ∧ x ≤ n ∧ -n ≤ x)
def findZ {α : Type} (p : α → Bool) : List α → Int
  | [] => -1
  | y :: l => if p y then 0 else if findZ p l < 0 then -1 else findZ p l + 1
theorem findZ_lo {α : Type} (p : α → Bool) (l : List α) : -1 ≤ findZ p l := by
  induction l with
  | nil => simp [findZ]
  | cons y l ih => unfold findZ; split <;> (try split) <;> omega
theorem findZ_any {α : Type} (p : α → Bool) (l : List α) : decide (0 ≤ findZ p l) = l.any p := by
  induction l with
  | nil => simp [findZ]
  | cons y l ih =>
    have := findZ_lo p l
    unfold findZ
    cases hp : p y
    · simp only [Bool.false_eq_true, if_false, List.any_cons, hp, Bool.false_or, ← ih]
      split
      · simp; omega
      · simp; omega
    · simp [hp]

/-- What is found from place k on. -/
def findFrom {α : Type} (p : α → Bool) (l : List α) (k : Nat) : Int := if findZ p (l.drop k) < 0 then -1 else findZ p (l.drop k) + k
theorem findFrom_zero {α : Type} (p : α → Bool) (l : List α) : findFrom p l 0 = findZ p l := by
  have := findZ_lo p l
  unfold findFrom; simp; omega
theorem findFrom_end {α : Type} (p : α → Bool) (l : List α) : findFrom p l l.length = -1 := by
  unfold findFrom; rw [List.drop_length]; rfl
theorem findFrom_yes {α : Type} {p : α → Bool} {l : List α} {k : Nat} (h : k < l.length) (d : α) (hp : p (l[k]?.getD d) = true) : findFrom p l k = k := by
  have e : l[k]?.getD d = l[k] := by simp [h]
  rw [e] at hp
  unfold findFrom; rw [List.drop_eq_getElem_cons h]; simp [findZ, hp]
theorem findFrom_no {α : Type} {p : α → Bool} {l : List α} {k : Nat} (h : k < l.length) (d : α) (hp : p (l[k]?.getD d) = false) : findFrom p l k = findFrom p l (k + 1) := by
  have e : l[k]?.getD d = l[k] := by simp [h]
  rw [e] at hp
  have h2 := findZ_lo p (l.drop (k+1))
  unfold findFrom; rw [List.drop_eq_getElem_cons h]
  simp only [findZ, hp, Bool.false_eq_true, if_false]
  split <;> split <;> (try split) <;> omega

set_option maxHeartbeats 400000 in
theorem literal_any (n x : Int) (w : World) (h0 : 0 ≤ n) (h1 : n ≤ 100000) :
    Calls Try.prog 60 #[.int .i64 n, .int .i64 x] w fun e w' => e = .returned (.bool (litB n x)) ∧ w = w' := by
  unfold litB
  by_cases a : x = 0
  · subst a
    go_enter Try.func60, Try.ntmps60
    go_wp2
    go_ret
    exact ⟨by simp, rfl⟩
  · have a' : (x != 0) = true := by simpa using a
    by_cases b : x ≤ n
    · have b' : decide (x ≤ n) = true := by simpa using b
      by_cases c : -n ≤ x
      · have HG : Hid (decide (x ≠ 0 ∧ x ≤ n ∧ -n ≤ x) = true) := by show _ = _; simp [a, b, c]
        have c' : decide (-n ≤ x) = true := by simpa using c
        clear a
        go_enter Try.func60, Try.ntmps60
        go_wp2
        go_ret
        exact ⟨by first | rfl | exact ret_bool (by rw [HG.out]), rfl⟩
      · have HG : Hid (decide (x ≠ 0 ∧ x ≤ n ∧ -n ≤ x) = false) := by show _ = _; simp [c]
        have c' : decide (-n ≤ x) = false := by simpa using c
        clear a
        go_enter Try.func60, Try.ntmps60
        go_wp2
        go_ret
        exact ⟨by first | rfl | exact ret_bool (by rw [HG.out]), rfl⟩
    · have HG : Hid (decide (x ≠ 0 ∧ x ≤ n ∧ -n ≤ x) = false) := by show _ = _; simp [b]
      have b' : decide (x ≤ n) = false := by simpa using b
      clear a
      go_enter Try.func60, Try.ntmps60
      go_wp2
      go_ret
      exact ⟨by first | rfl | exact ret_bool (by rw [HG.out]), rfl⟩

theorem all1_any (n x : Int) (nb : Nat) (w : World) (h0 : 0 ≤ n) (h1 : n ≤ 100000) (hc : w.cell? ⟨nb, 0, none⟩ = some (.int .i64 n)) :
    Calls Try.prog 59 #[.int .i64 x, .pointer (some ⟨nb, 0, none⟩)] w fun e w' => e = .returned (.bool (!litB n x)) ∧ w = w' := by
  go_enter Try.func59, Try.ntmps59
  go_wp2_with (go_at_call 60; refine (literal_any n x _ h0 h1).mono ?_; rintro e w' ⟨rfl, rfl⟩)
  go_ret
  exact ⟨rfl, rfl⟩

set_option maxHeartbeats 1000000 in
theorem idxInts_some (n : Int) (nb : Nat) (l : List Int) (lb lo lc : Nat) (w : World) (h0 : 0 ≤ n) (h1 : n ≤ 100000) (hc : w.cell? ⟨nb, 0, none⟩ = some (.int .i64 n))
    (hlen : l.length ≤ 9223372036854775807) (hl : ∀ i, i < l.length → w.cell? ⟨lb, lo + i, none⟩ = some (.int .i64 (l[i]?.getD 0))) :
    Calls Try.prog 62 #[.slice (some ⟨lb, lo, none⟩) l.length lc, .func (.func 59) #[] #[.pointer (some ⟨nb, 0, none⟩)]] w
      fun e w' => e = .returned (.int .i64 (findZ (fun x => !litB n x) l)) ∧ w = w' := by
  have HL := Lib.hid hl
  clear hl
  generalize hres : findZ (fun x => !litB n x) l = res
  have HRES := Lib.hid hres
  clear hres
  go_enter Try.func62, Try.ntmps62
  go_wp2
  go_loop [8] (fun i => ∃ (k : Nat), k ≤ l.length ∧ i = .int .i64 k ∧ Hid (findFrom (fun x => !litB n x) l k = res)) (fun i => l.length - (intOf i).toNat)
  case atStart => exact ⟨0, Nat.zero_le _, rfl, (findFrom_zero _ _).trans HRES.out⟩
  case round =>
    obtain ⟨k, hk, rfl, HR⟩ := hrel
    by_cases hlt : k < l.length
    · have hcell := HL.out k hlt
      have hyes := findFrom_yes (p := fun x => !litB n x) hlt 0
      have hno := findFrom_no (p := fun x => !litB n x) hlt 0
      rw [HR.out] at hyes hno
      generalize l[k]?.getD 0 = y at hcell hyes hno
      have HA := Lib.hid (all1_any n y nb w h0 h1 hc)
      cases hq : litB n y
      · rw [hq] at HA
        have HD := Lib.hid (hyes (by simp [hq]))
        clear hyes hno hq
        go_wp2_with (go_at_call 59; refine HA.out.mono ?_; rintro e w' ⟨rfl, rfl⟩)
        go_ret
        exact ⟨ret_int HD.out.symm, rfl⟩
      · rw [hq] at HA
        have HD := Lib.hid (hno (by simp [hq]))
        clear hyes hno hq
        go_wp2_with (go_at_call 59; refine HA.out.mono ?_; rintro e w' ⟨rfl, rfl⟩)
        go_round
        case rel => exact ⟨k + 1, by omega, by go_num, HD.out.symm⟩
        case measure => simp [intOf]; omega
    · have hk' : k = l.length := by omega
      subst hk'
      have hD := HR.out
      rw [findFrom_end] at hD
      subst hD
      clear HR HRES
      go_wp2
      go_ret
      exact ⟨rfl, rfl⟩

theorem idxInts_nil (f : Value) (a : Option Addr) (lc : Nat) (w : World) :
    Calls Try.prog 62 #[.slice a 0 lc, f] w fun e w' => e = .returned (.int .i64 (-1)) ∧ w = w' := by
  go_enter Try.func62, Try.ntmps62
  go_wp2
  refine wp_loop_rounds 1 ?_
  rw [rounds_succ]
  go_wp2
  go_ret
  exact ⟨rfl, rfl⟩

theorem idxInts_any (n : Int) (nb : Nat) (l : List Int) (v : Value) (D : Nat → Prop) (w : World) (h0 : 0 ≤ n) (h1 : n ≤ 100000) (hc : w.cell? ⟨nb, 0, none⟩ = some (.int .i64 n)) (hl : Ints D w v l) :
    Calls Try.prog 62 #[v, .func (.func 59) #[] #[.pointer (some ⟨nb, 0, none⟩)]] w
      fun e w' => e = .returned (.int .i64 (findZ (fun x => !litB n x) l)) ∧ w = w' := by
  obtain ⟨a, cap, rfl, hcap, hmx, hcs⟩ := hl.open
  rcases hcs with h | ⟨cb, co, rfl, hlt, hcs⟩
  · subst h
    exact idxInts_nil _ _ _ _
  · exact idxInts_some n nb l cb co cap w h0 h1 hc hmx hcs

theorem contInts_any (n : Int) (nb : Nat) (l : List Int) (v : Value) (D : Nat → Prop) (w : World) (h0 : 0 ≤ n) (h1 : n ≤ 100000) (hc : w.cell? ⟨nb, 0, none⟩ = some (.int .i64 n)) (hl : Ints D w v l) :
    Calls Try.prog 58 #[v, .func (.func 59) #[] #[.pointer (some ⟨nb, 0, none⟩)]] w
      fun e w' => e = .returned (.bool (l.any fun x => !litB n x)) ∧ w = w' := by
  rw [← findZ_any]
  have HI := Lib.hid (idxInts_any n nb l v D w h0 h1 hc hl)
  generalize findZ (fun x => !litB n x) l = z at HI ⊢
  clear hl hc
  go_enter Try.func58, Try.ntmps58
  go_wp2_with (go_at_call 62; refine HI.out.mono ?_; rintro e w' ⟨rfl, rfl⟩)
  go_ret
  exact ⟨rfl, rfl⟩

def allB (n : Int) (c : List Int) : Bool := !(c.any fun x => !litB n x)

theorem all_any (n : Int) (l : List Int) (v : Value) (D : Nat → Prop) (w : World) (h0 : 0 ≤ n) (h1 : n ≤ 100000) (hl : Ints D w v l) :
    Calls Try.prog 48 #[.int .i64 n, v] w fun e w' => e = .returned (.bool (allB n l)) ∧ Chg (fun _ => False) w w' := by
  have hmf : ∀ (fn : Fn) (first cap : Array Value) (w : World), (Instr.makeFunc fn first cap).run Try.prog w = .ok (.func fn first cap) w := fun _ _ _ _ => rfl
  have HI := Lib.hid (contInts_any n w.heap.size l v D (w.alloc (.cells #[.int .i64 n] 3)) h0 h1 (by rw [cell_of_heap (World.alloc_heap_new w _)]; rfl) (hl.chg ((Chg.refl (fun _ => False) _).alloc _) (fun _ _ x => x)))
  unfold allB
  generalize (l.any fun x => !litB n x) = q at HI ⊢
  clear hl
  go_enter Try.func48, Try.ntmps48
  go_wp2_with (go_at_call 58; refine HI.out.mono ?_; rintro e w' ⟨rfl, rfl⟩)
  go_ret
  exact ⟨rfl, (Chg.refl _ _).alloc _⟩
end Go.Proofs.Ytbeidiaejcbgoaa
