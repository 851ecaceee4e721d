/- token: bytes, and what letters and digits are. Conditions: none. -/
import Derived.Test.YtknonjnbeajooaaHints
namespace Go.Proofs.Ytknonjnbeajooaa
open Go Go.Ab
variable {ext : Sem'}
/-- The first place of a byte. -/
def idxB (c : UInt8) : List UInt8 → Option Nat
  | [] => none
  | a :: l => if a = c then some 0 else (idxB c l).map (· + 1)
def idxI (l : List UInt8) (c : UInt8) : Int := match idxB c l with
  | some i => i
  | none => -1
/-- What is known of the library. -/
structure TX (ext : Sem') : Prop where
  clear : Clear ext
  index : ∀ (s : List UInt8) (c : UInt8), s.length ≤ 1048576 → ext 45 [.d (.str s), .d (.int .u8 c.toNat)] [] = some (.ret (.d (.int .i64 (idxI s c))), [])
theorem wrap64 {x : Int} (h1 : -9223372036854775808 ≤ x) (h2 : x ≤ 9223372036854775807) : IntKind.wrap .i64 x = x := by
  simp only [IntKind.wrap, IntKind.bits, IntKind.signed]
  simp
  omega
theorem wrapu8 {x : Int} (h1 : 0 ≤ x) (h2 : x ≤ 255) : IntKind.wrap .u8 x = x := by
  simp only [IntKind.wrap, IntKind.bits, IntKind.signed]
  simp
  omega
theorem byte_all {p : UInt8 → Bool} (h : (List.range 256).all (fun n => p (UInt8.ofNat n)) = true) (c : UInt8) : p c = true := by
  have := List.all_eq_true.1 h c.toNat (List.mem_range.2 c.toNat_lt)
  simpa using this
def isLetter (c : UInt8) : Bool := (65 ≤ c && c ≤ 90) || (97 ≤ c && c ≤ 122) || c == 95
def isDigit (c : UInt8) : Bool := 48 ≤ c && c ≤ 57
theorem or32 (c : UInt8) : orI .u8 (c.toNat : Int) 32 = ((c ||| 32).toNat : Int) := by
  have := byte_all (p := fun c => decide (orI .u8 (c.toNat : Int) 32 = ((c ||| 32).toNat : Int))) (by decide +kernel) c
  exact of_decide_eq_true this

theorem letter_e (hx : TX ext) (c : UInt8) : G ext 29 [.d (.int .u8 c.toNat)] [] = some (.ret (.d (.bool (isLetter c))), []) := by
  rw [G_body hx.clear rfl Try.func29 rfl Try.results29 hv_29 rfl]
  have hs := byte_all (p := fun c => isLetter c == ((decide (97 ≤ ((c ||| 32).toNat : Int)) && decide (((c ||| 32).toNat : Int) ≤ 122)) || decide ((c.toNat : Int) = 95))) (by decide +kernel) c
  simp only [beq_iff_eq] at hs
  rw [hs]
  by_cases h1 : 97 ≤ ((c ||| 32).toNat : Int) <;> by_cases h2 : ((c ||| 32).toNat : Int) ≤ 122 <;> first | omega | (simp (config := { maxSteps := 4000000 }) (disch := first | (intros; contradiction) | omega) only [go_sem, or32, h1, h2, Bool.true_or, Bool.false_or])
theorem rletter_e (hx : TX ext) (c : UInt8) : G ext 32 [.d (.int .u8 c.toNat)] [] = some (.ret (.d (.bool (isLetter c))), []) := by
  rw [G_body hx.clear rfl Try.func32 rfl Try.results32 hv_32 rfl]
  have hs := byte_all (p := fun c => isLetter c == ((decide (65 ≤ (c.toNat : Int)) && decide ((c.toNat : Int) ≤ 90)) || (decide (97 ≤ (c.toNat : Int)) && decide ((c.toNat : Int) ≤ 122)) || decide ((c.toNat : Int) = 95))) (by decide +kernel) c
  simp only [beq_iff_eq] at hs
  rw [hs]
  by_cases h1 : 65 ≤ (c.toNat : Int) <;> by_cases h2 : (c.toNat : Int) ≤ 90 <;> by_cases h3 : 97 ≤ (c.toNat : Int) <;> by_cases h4 : (c.toNat : Int) ≤ 122 <;> first | omega | (simp (config := { maxSteps := 4000000 }) (disch := first | (intros; contradiction) | omega) only [go_sem, h1, h2, h3, h4, Bool.true_or, Bool.false_or])
theorem digit_e (hx : TX ext) (c : UInt8) : G ext 39 [.d (.int .u8 c.toNat)] [] = some (.ret (.d (.bool (isDigit c))), []) := by
  rw [G_body hx.clear rfl Try.func39 rfl Try.results39 hv_39 rfl]
  have hs := byte_all (p := fun c => isDigit c == (decide (48 ≤ (c.toNat : Int)) && decide ((c.toNat : Int) ≤ 57))) (by decide +kernel) c
  simp only [beq_iff_eq] at hs
  rw [hs]
  by_cases h1 : 48 ≤ (c.toNat : Int) <;> simp (config := { maxSteps := 4000000 }) (disch := first | (intros; contradiction) | omega) only [go_sem, h1]
theorem rdigit_e (hx : TX ext) (c : UInt8) : G ext 33 [.d (.int .u8 c.toNat)] [] = some (.ret (.d (.bool (isDigit c))), []) := by
  rw [G_body hx.clear rfl Try.func33 rfl Try.results33 hv_33 rfl]
  have hs := byte_all (p := fun c => isDigit c == (decide (48 ≤ (c.toNat : Int)) && decide ((c.toNat : Int) ≤ 57))) (by decide +kernel) c
  simp only [beq_iff_eq] at hs
  rw [hs]
  by_cases h1 : 48 ≤ (c.toNat : Int) <;> simp (config := { maxSteps := 4000000 }) (disch := first | (intros; contradiction) | omega) only [go_sem, h1]
def isInner (c : UInt8) : Bool := isLetter c || isDigit c
theorem inner_e (hx : TX ext) (c : UInt8) : G ext 31 [.d (.int .u8 c.toNat)] [] = some (.ret (.d (.bool (isInner c))), []) := by
  rw [G_body hx.clear rfl Try.func31 rfl Try.results31 hv_31 rfl]
  cases h1 : isLetter c <;> simp (config := { maxSteps := 4000000 }) (disch := first | (intros; contradiction) | omega) only [go_sem, letter_e hx, digit_e hx, h1, isInner, Bool.true_or, Bool.false_or]
theorem notnl_e (hx : TX ext) (c : UInt8) : G ext 37 [.d (.int .u8 c.toNat)] [] = some (.ret (.d (.bool (decide (c ≠ 10)))), []) := by
  rw [G_body hx.clear rfl Try.func37 rfl Try.results37 hv_37 rfl]
  have hs := byte_all (p := fun c => decide (c ≠ 10) == !decide ((c.toNat : Int) = 10)) (by decide +kernel) c
  simp only [beq_iff_eq] at hs
  rw [hs]
  simp (config := { maxSteps := 4000000 }) (disch := first | (intros; contradiction) | omega) only [go_sem]
end Go.Proofs.Ytknonjnbeajooaa
