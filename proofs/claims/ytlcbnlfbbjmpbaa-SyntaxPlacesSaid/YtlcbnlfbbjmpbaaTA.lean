/- token: bytes, and what letters and digits are; token: spans of bytes, and passing over them; token: blanks, comments, words; token: words, numbers, signs; token: signs, and what comes next; token: what a text hands on, one by one; token: all tokens of a text; the document's token: blanks, places; the document's token: words, one token; the document's token: one number, one sign; the document's token: all tokens. Conditions: none. -/
import Derived.Test.YtlcbnlfbbjmpbaaHints
import Derived.Test.YtlcbnlfbbjmpbaaAbX4
namespace Go.Proofs.Ytlcbnlfbbjmpbaa
open Go Go.Ab
variable {ext : Sem'}
/-- The first place of a byte. -/
def idxB (c : UInt8) : List UInt8 → Option Nat
  | [] => none
  | a :: l => if a = c then some 0 else (idxB c l).map (· + 1)
def idxI (l : List UInt8) (c : UInt8) : Int := match idxB c l with
  | some i => i
  | none => -1
/-- What is known of the library. -/
structure TX (ext : Sem') : Prop where
  clear : Clear ext
  index : ∀ (s : List UInt8) (c : UInt8), s.length ≤ 1048576 → ext 78 [.d (.str s), .d (.int .u8 c.toNat)] [] = some (.ret (.d (.int .i64 (idxI s c))), [])
theorem wrap64 {x : Int} (h1 : -9223372036854775808 ≤ x) (h2 : x ≤ 9223372036854775807) : IntKind.wrap .i64 x = x := by
  simp only [IntKind.wrap, IntKind.bits, IntKind.signed]
  simp
  omega
theorem wrapu8 {x : Int} (h1 : 0 ≤ x) (h2 : x ≤ 255) : IntKind.wrap .u8 x = x := by
  simp only [IntKind.wrap, IntKind.bits, IntKind.signed]
  simp
  omega
theorem byte_all {p : UInt8 → Bool} (h : (List.range 256).all (fun n => p (UInt8.ofNat n)) = true) (c : UInt8) : p c = true := by
  have := List.all_eq_true.1 h c.toNat (List.mem_range.2 c.toNat_lt)
  simpa using this
def isLetter (c : UInt8) : Bool := (65 ≤ c && c ≤ 90) || (97 ≤ c && c ≤ 122) || c == 95
def isDigit (c : UInt8) : Bool := 48 ≤ c && c ≤ 57
theorem or32 (c : UInt8) : orI .u8 (c.toNat : Int) 32 = ((c ||| 32).toNat : Int) := by
  have := byte_all (p := fun c => decide (orI .u8 (c.toNat : Int) 32 = ((c ||| 32).toNat : Int))) (by decide +kernel) c
  exact of_decide_eq_true this

theorem letter_e (hx : TX ext) (c : UInt8) : G ext 61 [.d (.int .u8 c.toNat)] [] = some (.ret (.d (.bool (isLetter c))), []) := by
  rw [G_body hx.clear rfl Try.func61 rfl Try.results61 hv_61 rfl]
  have hs := byte_all (p := fun c => isLetter c == ((decide (97 ≤ ((c ||| 32).toNat : Int)) && decide (((c ||| 32).toNat : Int) ≤ 122)) || decide ((c.toNat : Int) = 95))) (by decide +kernel) c
  simp only [beq_iff_eq] at hs
  rw [hs]
  by_cases h1 : 97 ≤ ((c ||| 32).toNat : Int) <;> by_cases h2 : ((c ||| 32).toNat : Int) ≤ 122 <;> first | omega | (simp (maxSteps := 4000000) (disch := first | (intros; contradiction) | omega) only [go_sem, or32, h1, h2, Bool.true_or, Bool.false_or])
theorem rletter_e (hx : TX ext) (c : UInt8) : G ext 47 [.d (.int .u8 c.toNat)] [] = some (.ret (.d (.bool (isLetter c))), []) := by
  rw [G_body hx.clear rfl Try.func47 rfl Try.results47 hv_47 rfl]
  have hs := byte_all (p := fun c => isLetter c == ((decide (65 ≤ (c.toNat : Int)) && decide ((c.toNat : Int) ≤ 90)) || (decide (97 ≤ (c.toNat : Int)) && decide ((c.toNat : Int) ≤ 122)) || decide ((c.toNat : Int) = 95))) (by decide +kernel) c
  simp only [beq_iff_eq] at hs
  rw [hs]
  by_cases h1 : 65 ≤ (c.toNat : Int) <;> by_cases h2 : (c.toNat : Int) ≤ 90 <;> by_cases h3 : 97 ≤ (c.toNat : Int) <;> by_cases h4 : (c.toNat : Int) ≤ 122 <;> first | omega | (simp (maxSteps := 4000000) (disch := first | (intros; contradiction) | omega) only [go_sem, h1, h2, h3, h4, Bool.true_or, Bool.false_or])
theorem digit_e (hx : TX ext) (c : UInt8) : G ext 63 [.d (.int .u8 c.toNat)] [] = some (.ret (.d (.bool (isDigit c))), []) := by
  rw [G_body hx.clear rfl Try.func63 rfl Try.results63 hv_63 rfl]
  have hs := byte_all (p := fun c => isDigit c == (decide (48 ≤ (c.toNat : Int)) && decide ((c.toNat : Int) ≤ 57))) (by decide +kernel) c
  simp only [beq_iff_eq] at hs
  rw [hs]
  by_cases h1 : 48 ≤ (c.toNat : Int) <;> simp (maxSteps := 4000000) (disch := first | (intros; contradiction) | omega) only [go_sem, h1]
theorem rdigit_e (hx : TX ext) (c : UInt8) : G ext 48 [.d (.int .u8 c.toNat)] [] = some (.ret (.d (.bool (isDigit c))), []) := by
  rw [G_body hx.clear rfl Try.func48 rfl Try.results48 hv_48 rfl]
  have hs := byte_all (p := fun c => isDigit c == (decide (48 ≤ (c.toNat : Int)) && decide ((c.toNat : Int) ≤ 57))) (by decide +kernel) c
  simp only [beq_iff_eq] at hs
  rw [hs]
  by_cases h1 : 48 ≤ (c.toNat : Int) <;> simp (maxSteps := 4000000) (disch := first | (intros; contradiction) | omega) only [go_sem, h1]
def isInner (c : UInt8) : Bool := isLetter c || isDigit c
theorem inner_e (hx : TX ext) (c : UInt8) : G ext 80 [.d (.int .u8 c.toNat)] [] = some (.ret (.d (.bool (isInner c))), []) := by
  rw [G_body hx.clear rfl Try.func80 rfl Try.results80 hv_80 rfl]
  cases h1 : isLetter c <;> simp (maxSteps := 4000000) (disch := first | (intros; contradiction) | omega) only [go_sem, letter_e hx, digit_e hx, h1, isInner, Bool.true_or, Bool.false_or]
theorem notnl_e (hx : TX ext) (c : UInt8) : G ext 60 [.d (.int .u8 c.toNat)] [] = some (.ret (.d (.bool (decide (c ≠ 10)))), []) := by
  rw [G_body hx.clear rfl Try.func60 rfl Try.results60 hv_60 rfl]
  have hs := byte_all (p := fun c => decide (c ≠ 10) == !decide ((c.toNat : Int) = 10)) (by decide +kernel) c
  simp only [beq_iff_eq] at hs
  rw [hs]
  simp (maxSteps := 4000000) (disch := first | (intros; contradiction) | omega) only [go_sem]
end Go.Proofs.Ytlcbnlfbbjmpbaa
namespace Go.Proofs.Ytlcbnlfbbjmpbaa
open Go Go.Ab
variable {ext : Sem'}
def spanL (p : UInt8 → Bool) : List UInt8 → Nat
  | [] => 0
  | a :: l => if p a then spanL p l + 1 else 0
theorem spanL_le (p : UInt8 → Bool) : ∀ l : List UInt8, spanL p l ≤ l.length
  | [] => Nat.le_refl _
  | a :: l => by have := spanL_le p l; simp only [spanL, List.length_cons]; split <;> omega
theorem spanL_drop {p : UInt8 → Bool} {l : List UInt8} {i : Nat} (h : i < l.length) : spanL p (l.drop i) = if p l[i] then spanL p (l.drop (i + 1)) + 1 else 0 := by
  rw [List.drop_eq_getElem_cons h]; rfl
theorem span_e (hx : TX ext) (p : UInt8 → Bool) (f : Nat) (hp : ∀ c : UInt8, G ext f [.d (.int .u8 c.toNat)] [] = some (.ret (.d (.bool (p c))), [])) (s : List UInt8) (hs : s.length ≤ 1048576) :
    G ext 59 [.d (.str s), .fn f [] []] [] = some (.ret (.d (.int .i64 (spanL p s))), []) := by
  rw [G_body hx.clear rfl Try.func59 rfl Try.results59 hv_59 rfl]
  simp (maxSteps := 4000000) (disch := first | (intros; contradiction) | omega) only [go_sem]
  generalize hL : loopA _ _ _ = L
  apply loop_post hL (fun i : Nat => i ≤ s.length ∧ i + spanL p (s.drop i) = spanL p s) (fun i => s.length - i)
    (fun i => ⟨[(0, .d (.str s)), (1, .fn f [] []), (4, .d (.int .i64 0)), (5, .any), (7, .d (.int .i64 s.length)), (8, .d (.int .i64 i))], [], []⟩)
    0 (by simp (maxSteps := 4000000) (disch := first | (intros; contradiction) | omega) only [go_sem] <;> rfl) ⟨Nat.zero_le _, by simp⟩
  intro i hi next ih
  by_cases h : i < s.length
  · have hc : s[i]? = some s[i] := List.getElem?_eq_getElem h
    have h' : (i : Int) < s.length := by omega
    have hd := spanL_drop (p := p) h
    cases hpc : p s[i] with
    | true =>
      rw [hpc] at hd
      simp (maxSteps := 4000000) (disch := first | (intros; contradiction) | omega) only [go_sem, hc, h', hp, hpc, wrap64]
      refine ih (i + 1) _ (by simp at hd; omega) (by omega) (by simp (maxSteps := 4000000) (disch := first | (intros; contradiction) | omega) only [go_sem] <;> rfl)
    | false =>
      rw [hpc] at hd
      simp (maxSteps := 4000000) (disch := first | (intros; contradiction) | omega) only [go_sem, hc, h', hp, hpc]
      simp at hd
      simp; omega
  · have h' : ¬ (i : Int) < s.length := by omega
    have he : i = s.length := by omega
    simp (maxSteps := 4000000) (disch := first | (intros; contradiction) | omega) only [go_sem, h']
    subst he
    simp [spanL] at hi
    simp; omega

/-- The place behind bytes. -/
def adv1 (p : Int × Int) (c : UInt8) : Int × Int := if c = 10 then (p.1 + 1, 1) else (p.1, p.2 + 1)
def adv (p : Int × Int) (l : List UInt8) : Int × Int := l.foldl adv1 p
theorem adv_append (p : Int × Int) (a b : List UInt8) : adv p (a ++ b) = adv (adv p a) b := List.foldl_append
theorem adv_flat : ∀ (l : List UInt8) (p : Int × Int), (10 : UInt8) ∉ l → adv p l = (p.1, p.2 + l.length)
  | [], p, _ => by simp [adv]
  | c :: l, p, h => by
    simp at h
    have h1 := adv_flat l (p.1, p.2 + 1) h.2
    show adv (adv1 p c) l = _
    unfold adv1
    rw [if_neg (fun e => h.1 e.symm), h1]
    simp
    omega
theorem adv_nl (p : Int × Int) (l : List UInt8) : adv p (10 :: l) = adv (p.1 + 1, 1) l := rfl
theorem adv_le (p : Int × Int) (l : List UInt8) (hp : 1 ≤ p.1 ∧ 1 ≤ p.2) : p.1 ≤ (adv p l).1 ∧ (adv p l).1 ≤ p.1 + l.length ∧ 1 ≤ (adv p l).2 ∧ (adv p l).2 ≤ p.2 + l.length := by
  induction l generalizing p with
  | nil => simp [adv]; omega
  | cons c l ih =>
    have h := ih (adv1 p c) (by unfold adv1; split <;> simp <;> omega)
    have e : adv p (c :: l) = adv (adv1 p c) l := rfl
    rw [e]
    unfold adv1 at h ⊢
    simp only [List.length_cons]
    split at h
    · rename_i hc; rw [if_pos hc]; simp only at h; omega
    · rename_i hc; rw [if_neg hc]; simp only at h; omega
theorem idxB_none {c : UInt8} : ∀ {l : List UInt8}, idxB c l = none → c ∉ l
  | [], _ => by simp
  | a :: l, h => by
    simp only [idxB] at h
    split at h
    · cases h
    · rename_i hne
      have := idxB_none (l := l) (by simpa using h)
      simp only [List.mem_cons, not_or]
      exact ⟨fun e => hne e.symm, this⟩
theorem idxB_some {c : UInt8} : ∀ {l : List UInt8} {i : Nat}, idxB c l = some i → ∃ a b, l = a ++ c :: b ∧ a.length = i ∧ c ∉ a
  | [], _, h => by cases h
  | a :: l, i, h => by
    simp only [idxB] at h
    split at h
    · rename_i he; cases h; subst he; exact ⟨[], l, rfl, rfl, by simp⟩
    · rename_i hne
      cases hx : idxB c l with
      | none => rw [hx] at h; cases h
      | some j =>
        rw [hx] at h
        cases h
        obtain ⟨u, v, rfl, h2, h3⟩ := idxB_some hx
        exact ⟨a :: u, v, rfl, by simp [h2], by simp only [List.mem_cons, not_or]; exact ⟨fun e => hne e.symm, h3⟩⟩
theorem nlInt : ((10 : UInt8).toNat : Int) = 10 := rfl
theorem idx_e (hx : TX ext) (s : List UInt8) (c : UInt8) (k : Int) (hk : k = c.toNat) (hs : s.length ≤ 1048576) : G ext 78 [.d (.str s), .d (.int .u8 k)] [] = some (.ret (.d (.int .i64 (idxI s c))), []) := by
  subst hk; exact G_ext (hx.index s c hs)
theorem pass_e (hx : TX ext) (s : List UInt8) (p : Int × Int) (n : Nat) (hn : n ≤ s.length) (hs : s.length ≤ 1048576) (hp : 1 ≤ p.1 ∧ p.1 ≤ 4000000 ∧ 1 ≤ p.2 ∧ p.2 ≤ 4000000) :
    G ext 57 [.ptr 0 0, .d (.int .i64 n)] [.cells [.d (.str s), .d (.int .i64 p.1), .d (.int .i64 p.2)]] = some (.ret (.d (.str (s.take n))), [.cells [.d (.str (s.drop n)), .d (.int .i64 (adv p (s.take n)).1), .d (.int .i64 (adv p (s.take n)).2)]]) := by
  rw [G_body hx.clear rfl Try.func57 rfl Try.results57 hv_57 rfl]
  have hn' : (n : Int) ≤ s.length := by omega
  simp (maxSteps := 4000000) (disch := first | (intros; contradiction) | omega) only [go_sem, hn']
  generalize hL : loopA _ _ _ = L
  apply loop_post hL (fun x : List UInt8 × (Int × Int) => adv x.2 x.1 = adv p (s.take n) ∧ x.1.length ≤ n ∧ 1 ≤ x.2.1 ∧ x.2.1 + x.1.length ≤ p.1 + n ∧ 1 ≤ x.2.2 ∧ x.2.2 ≤ p.2) (fun x => x.1.length)
    (fun x => ⟨[(0, .ptr 0 0), (1, .d (.int .i64 n)), (4, .d (.str [])), (5, .d (.str x.1)), (6, .any)], [], [.cells [.d (.str s), .d (.int .i64 x.2.1), .d (.int .i64 x.2.2)]]⟩)
    (s.take n, p) (by simp (maxSteps := 4000000) (disch := first | (intros; contradiction) | omega) only [go_sem]) ⟨rfl, by simp; omega, hp.1, by simp; omega, hp.2.2.1, Int.le_refl _⟩
  rintro ⟨t, q⟩ ⟨h1, h2, h3, h4, h5, h6⟩ next ih
  simp only at h1 h2 h3 h4 h5 h6 ih ⊢
  have hidx := idx_e hx t 10 10 rfl (by omega)
  cases hb : idxB 10 t with
  | none =>
    have hi : idxI t 10 = -1 := by unfold idxI; rw [hb]
    rw [hi] at hidx
    have hf := adv_flat t q (idxB_none hb)
    rw [h1] at hf
    simp (maxSteps := 4000000) (disch := first | (intros; contradiction) | omega) only [go_sem, hidx, hn', wrap64]
    rw [hf]
  | some i =>
    have hi : idxI t 10 = i := by unfold idxI; rw [hb]
    rw [hi] at hidx
    obtain ⟨a, b, rfl, rfl, hna⟩ := idxB_some hb
    rw [adv_append, adv_flat a q hna, adv_nl] at h1
    have hlt : ¬ (a.length : Int) < 0 := by omega
    have hle : (a.length : Int) + 1 ≤ ((a.length + (b.length + 1) : Nat) : Int) := by omega
    have h0 : 0 ≤ (a.length : Int) + 1 := by omega
    have ht : ((a.length : Int) + 1).toNat = a.length + 1 := by omega
    have hd : (a ++ 10 :: b).drop (a.length + 1) = b := by simp
    simp only [List.length_append, List.length_cons] at h2 h4
    simp (maxSteps := 4000000) (disch := first | (intros; contradiction) | omega) only [go_sem, hidx, hlt, hle, h0, ht, hd, wrap64]
    exact ih (b, (q.1 + 1, 1)) _ ⟨h1, by simp only; omega, by simp only; omega, by simp only; omega, by simp, by simp only; omega⟩ (by simp; omega) (by simp (maxSteps := 4000000) (disch := first | (intros; contradiction) | omega) only [go_sem])
end Go.Proofs.Ytlcbnlfbbjmpbaa
namespace Go.Proofs.Ytlcbnlfbbjmpbaa
open Go Go.Ab
variable {ext : Sem'}
def isBlank (c : UInt8) : Bool := c == 32 || c == 9 || c == 10
/-- How many bytes are blanks and comments; 'true': within a comment. -/
def skipN : Bool → List UInt8 → Nat
  | _, [] => 0
  | false, c :: t => if isBlank c then 1 + skipN false t else if c = 47 ∧ t.head? = some 47 then 1 + skipN true t else 0
  | true, c :: t => if c = 10 then 1 + skipN false t else 1 + skipN true t
theorem skipN_le (m : Bool) (l : List UInt8) : skipN m l ≤ l.length := by
  induction l generalizing m with
  | nil => cases m <;> simp [skipN]
  | cons c t ih =>
    have h1 := ih true
    have h2 := ih false
    cases m
    · simp only [skipN, List.length_cons]; split
      · omega
      · split <;> omega
    · simp only [skipN, List.length_cons]; split <;> omega
theorem skipN_true (l : List UInt8) : skipN true l = spanL (fun c => decide (c ≠ 10)) l + skipN false (l.drop (spanL (fun c => decide (c ≠ 10)) l)) := by
  induction l with
  | nil => rfl
  | cons c t ih =>
    by_cases h : c = 10
    · subst h
      have : spanL (fun c => decide (c ≠ 10)) (10 :: t) = 0 := by simp [spanL]
      rw [this]
      simp [skipN, isBlank]
    · have : spanL (fun c => decide (c ≠ 10)) (c :: t) = spanL (fun c => decide (c ≠ 10)) t + 1 := by simp [spanL, h]
      rw [this]
      simp only [skipN, h, if_false, List.drop_succ_cons]
      rw [ih]
      omega
theorem skipN_comment (t : List UInt8) : skipN false (47 :: 47 :: t) = spanL (fun c => decide (c ≠ 10)) (47 :: 47 :: t) + skipN false ((47 :: 47 :: t).drop (spanL (fun c => decide (c ≠ 10)) (47 :: 47 :: t))) := by
  rw [← skipN_true]
  simp [skipN, isBlank]
def slash2 (l : List UInt8) : Bool := decide (l.take 2 = [47, 47])
theorem stringslite_e (hx : TX ext) (s : List UInt8) : G ext 79 [.d (.str s), .d (.str [47, 47])] [] = some (.ret (.d (.bool (slash2 s))), []) := by
  rw [G_body hx.clear rfl Try.func79 rfl Try.results79 hv_79 rfl]
  by_cases h : (2 : Int) ≤ s.length
  · simp (maxSteps := 4000000) (disch := first | (intros; contradiction) | omega) only [go_sem, h, slash2]
  · have hf : slash2 s = false := by
      unfold slash2
      simp only [decide_eq_false_iff_not]
      intro e
      have := congrArg List.length e
      simp at this
      omega
    simp (maxSteps := 4000000) (disch := first | (intros; contradiction) | omega) only [go_sem, h, hf]
theorem hasPrefix_e (hx : TX ext) (s : List UInt8) : G ext 58 [.d (.str s), .d (.str [47, 47])] [] = some (.ret (.d (.bool (slash2 s))), []) := by
  rw [G_body hx.clear rfl Try.func58 rfl Try.results58 hv_58 rfl]
  simp (maxSteps := 4000000) (disch := first | (intros; contradiction) | omega) only [go_sem, stringslite_e hx]
theorem skip_e (hx : TX ext) (s : List UInt8) (p : Int × Int) (hs : s.length ≤ 1048576) (hp : 1 ≤ p.1 ∧ p.1 + s.length ≤ 4000000 ∧ 1 ≤ p.2 ∧ p.2 + s.length ≤ 4000000) :
    G ext 35 [.ptr 0 0] [.cells [.d (.str s), .d (.int .i64 p.1), .d (.int .i64 p.2)]] = some (.ret (.tuple []), [.cells [.d (.str (s.drop (skipN false s))), .d (.int .i64 (adv p (s.take (skipN false s))).1), .d (.int .i64 (adv p (s.take (skipN false s))).2)]]) := by
  rw [G_body hx.clear rfl Try.func35 rfl Try.results35 hv_35 rfl]
  simp (maxSteps := 4000000) (disch := first | (intros; contradiction) | omega) only [go_sem]
  generalize hL : loopA _ _ _ = L
  apply loop_post hL (fun x : List UInt8 × (Int × Int) => ∃ done, s = done ++ x.1 ∧ x.2 = adv p done ∧ skipN false s = done.length + skipN false x.1) (fun x => x.1.length)
    (fun x => ⟨[(0, .ptr 0 0)], [], [.cells [.d (.str x.1), .d (.int .i64 x.2.1), .d (.int .i64 x.2.2)]]⟩)
    (s, p) (by simp (maxSteps := 4000000) (disch := first | (intros; contradiction) | omega) only [go_sem]) ⟨[], rfl, rfl, by simp⟩
  rintro ⟨u, q⟩ ⟨done, h1, h2, h3⟩ next ih
  simp only at h1 h2 h3 ih ⊢
  have hlen : s.length = done.length + u.length := by rw [h1]; simp
  have hadv := adv_le p done ⟨hp.1, hp.2.2.1⟩
  rw [← h2] at hadv
  have fin : skipN false u = 0 → u = s.drop (skipN false s) ∧ q = adv p (s.take (skipN false s)) := by
    intro h0
    rw [h3, h0, h1, h2]
    simp
  have go : ∀ n : Nat, n ≤ u.length → skipN false u = n + skipN false (u.drop n) → ∃ done', s = done' ++ u.drop n ∧ adv q (u.take n) = adv p done' ∧ skipN false s = done'.length + skipN false (u.drop n) := by
    intro n hn hk
    refine ⟨done ++ u.take n, by rw [h1]; simp, by rw [adv_append, h2], by rw [h3, hk]; simp; omega⟩
  cases u with
  | nil =>
    obtain ⟨f1, f2⟩ := fin rfl
    simp (maxSteps := 4000000) (disch := first | (intros; contradiction) | omega) only [go_sem]
    rw [← f1, ← f2]
  | cons c t =>
    cases hb : isBlank c with
    | true =>
      have hp1 := pass_e hx (c :: t) q 1 (by simp) (by omega) (by omega)
      simp only [Int.natCast_one] at hp1
      have hg := go 1 (by simp) (by simp [skipN, hb])
      have hcase : (c.toNat : Int) = 32 ∨ (c.toNat : Int) = 9 ∨ (c.toNat : Int) = 10 := by
        simp only [isBlank, Bool.or_eq_true, beq_iff_eq] at hb
        rcases hb with (rfl | rfl) | rfl <;> simp
      rcases hcase with h | h | h
      · simp (maxSteps := 4000000) (disch := first | (intros; contradiction) | omega) only [go_sem, h, hp1]
        exact ih (t, adv q [c]) _ hg (by simp) (by simp (maxSteps := 4000000) (disch := first | (intros; contradiction) | omega) only [go_sem])
      · simp (maxSteps := 4000000) (disch := first | (intros; contradiction) | omega) only [go_sem, h, hp1]
        exact ih (t, adv q [c]) _ hg (by simp) (by simp (maxSteps := 4000000) (disch := first | (intros; contradiction) | omega) only [go_sem])
      · simp (maxSteps := 4000000) (disch := first | (intros; contradiction) | omega) only [go_sem, h, hp1]
        exact ih (t, adv q [c]) _ hg (by simp) (by simp (maxSteps := 4000000) (disch := first | (intros; contradiction) | omega) only [go_sem])
    | false =>
      have hn : ¬ (c.toNat : Int) = 32 ∧ ¬ (c.toNat : Int) = 9 ∧ ¬ (c.toNat : Int) = 10 := by
        have := byte_all (p := fun c => isBlank c || (decide (¬ (c.toNat : Int) = 32) && decide (¬ (c.toNat : Int) = 9) && decide (¬ (c.toNat : Int) = 10))) (by decide +kernel) c
        rw [hb] at this
        simpa [and_assoc] using this
      obtain ⟨n1, n2, n3⟩ := hn
      cases hs2 : slash2 (c :: t) with
      | true =>
        have hct : ∃ t', c :: t = 47 :: 47 :: t' := by
          unfold slash2 at hs2
          simp only [decide_eq_true_eq] at hs2
          cases t with
          | nil => simp at hs2
          | cons d t' => simp at hs2; exact ⟨t', by rw [hs2.1, hs2.2]⟩
        obtain ⟨t', hct⟩ := hct
        have hsp := span_e hx (fun c => decide (c ≠ 10)) _ (notnl_e hx) (c :: t) (by omega)
        have hle := spanL_le (fun c => decide (c ≠ 10)) (c :: t)
        have hp1 := pass_e hx (c :: t) q (spanL (fun c => decide (c ≠ 10)) (c :: t)) hle (by omega) (by omega)
        have hsk := skipN_comment t'
        rw [← hct] at hsk
        have hg := go _ hle hsk
        have hpos : 0 < spanL (fun c => decide (c ≠ 10)) (c :: t) := by rw [hct]; simp [spanL]
        simp (maxSteps := 4000000) (disch := first | (intros; contradiction) | omega) only [go_sem, n1, n2, n3, hasPrefix_e hx, hs2, hsp, hp1]
        exact ih (List.drop (spanL (fun c => decide (c ≠ 10)) (c :: t)) (c :: t), adv q (List.take (spanL (fun c => decide (c ≠ 10)) (c :: t)) (c :: t))) _ hg (by simp only [List.length_drop]; simp only [List.length_cons] at hle ⊢; omega) (by simp (maxSteps := 4000000) (disch := first | (intros; contradiction) | omega) only [go_sem])
      | false =>
        have h0 : skipN false (c :: t) = 0 := by
          simp only [skipN, hb, Bool.false_eq_true, if_false]
          rw [if_neg]
          rintro ⟨rfl, h4⟩
          cases t with
          | nil => cases h4
          | cons d t' =>
            simp at h4
            subst h4
            simp [slash2] at hs2
        obtain ⟨f1, f2⟩ := fin h0
        simp (maxSteps := 4000000) (disch := first | (intros; contradiction) | omega) only [go_sem, n1, n2, n3, hasPrefix_e hx, hs2]
        rw [← f1, ← f2]
def words : List (List UInt8) := [[105, 110, 116], [115, 116, 114, 117, 99, 116], [105, 102], [101, 108, 115, 101], [119, 104, 105, 108, 101], [98, 114, 101, 97, 107], [99, 111, 110, 116, 105, 110, 117, 101], [114, 101, 116, 117, 114, 110], [102, 114, 101, 101], [112, 117, 116], [110, 101, 119], [110, 117, 108, 108], [103, 101, 116]]
set_option maxRecDepth 10000 in
theorem word_e (hx : TX ext) (s : List UInt8) : G ext 81 [.d (.str s)] [] = some (.ret (.d (.bool (decide (s ∈ words)))), []) := by
  by_cases h : s ∈ words
  · simp only [h, decide_true]
    simp only [words, List.mem_cons, List.not_mem_nil, or_false] at h
    rcases h with rfl | rfl | rfl | rfl | rfl | rfl | rfl | rfl | rfl | rfl | rfl | rfl | rfl <;> exact G_run hx.clear 2 2 (by kernel_rfl)
  · rw [G_body hx.clear rfl Try.func81 rfl Try.results81 hv_81 rfl]
    simp only [h, decide_false]
    simp only [words, List.mem_cons, List.not_mem_nil, or_false, not_or] at h
    obtain ⟨h1, h2, h3, h4, h5, h6, h7, h8, h9, h10, h11, h12, h13⟩ := h
    simp (maxSteps := 4000000) (disch := first | (intros; contradiction) | omega) only [go_sem, h1, h2, h3, h4, h5, h6, h7, h8, h9, h10, h11, h12, h13]
end Go.Proofs.Ytlcbnlfbbjmpbaa
namespace Go.Proofs.Ytlcbnlfbbjmpbaa
open Go Go.Ab
variable {ext : Sem'}
/-- What begins there: a fault, or a token of some bytes. -/
inductive LexR where
  | bad (f : Int)
  | tok (kind : Int) (len : Nat) (num : Int)
def tokA (k : Int) (t : List UInt8) (v : Int) (p : Int × Int) : AV := .agg [.d (.int .i64 k), .d (.str t), .d (.int .i64 v), .d (.int .i64 p.1), .d (.int .i64 p.2)]
def lexOut (s : List UInt8) (p : Int × Int) : LexR → Out × List AObj
  | .bad f => (.ret (.tuple [tokA 0 [] 0 (0, 0), .d (.int .i64 f)]), [.cells [.d (.str s), .d (.int .i64 p.1), .d (.int .i64 p.2)]])
  | .tok k n v => (.ret (.tuple [tokA k (s.take n) v p, .d (.int .i64 0)]), [.cells [.d (.str (s.drop n)), .d (.int .i64 (adv p (s.take n)).1), .d (.int .i64 (adv p (s.take n)).2)]])
def wordR (l : List UInt8) : LexR :=
  if 40 < spanL isInner l then .bad 2 else .tok (if l.take (spanL isInner l) ∈ words then 2 else 1) (spanL isInner l) 0
theorem tword_e (hx : TX ext) (s : List UInt8) (p : Int × Int) (hs : s.length ≤ 1048576) (hp : 1 ≤ p.1 ∧ p.1 + s.length ≤ 4000000 ∧ 1 ≤ p.2 ∧ p.2 + s.length ≤ 4000000) :
    G ext 62 [.ptr 0 0] [.cells [.d (.str s), .d (.int .i64 p.1), .d (.int .i64 p.2)]] = some (lexOut s p (wordR s)) := by
  rw [G_body hx.clear rfl Try.func62 rfl Try.results62 hv_62 rfl]
  have hsp := span_e hx isInner _ (inner_e hx) s hs
  have hp1 := pass_e hx s p (spanL isInner s) (spanL_le _ _) hs (by omega)
  have hw := word_e hx (s.take (spanL isInner s))
  by_cases h : (40 : Int) < spanL isInner s
  · have h' : 40 < spanL isInner s := by omega
    simp only [wordR, if_pos h', lexOut, tokA]
    simp (maxSteps := 4000000) (disch := first | (intros; contradiction) | omega) only [go_sem, hsp, h]
  · have h' : ¬ 40 < spanL isInner s := by omega
    simp only [wordR, if_neg h', lexOut, tokA]
    by_cases hm : s.take (spanL isInner s) ∈ words
    · simp only [if_pos hm]
      simp (maxSteps := 4000000) (disch := first | (intros; contradiction) | omega) only [go_sem, hsp, h, hp1, hw, hm]
    · simp only [if_neg hm]
      simp (maxSteps := 4000000) (disch := first | (intros; contradiction) | omega) only [go_sem, hsp, h, hp1, hw, hm]
/-- The value of digits. -/
def natVal (l : List UInt8) : Nat := l.foldl (fun v c => v * 10 + (c.toNat - 48)) 0
theorem natVal_take {l : List UInt8} {k : Nat} (h : k < l.length) : natVal (l.take (k + 1)) = natVal (l.take k) * 10 + (l[k].toNat - 48) := by
  rw [List.take_add_one, List.getElem?_eq_getElem h]; unfold natVal; rw [List.foldl_append]; rfl
theorem natVal_mono (l : List UInt8) {k n : Nat} (h : k ≤ n) : natVal (l.take k) ≤ natVal (l.take n) := by
  induction n with
  | zero => rw [Nat.le_zero.1 h]; exact Nat.le_refl _
  | succ n ih =>
    by_cases e : k = n + 1
    · rw [e]; exact Nat.le_refl _
    · refine Nat.le_trans (ih (by omega)) ?_
      by_cases hl : n < l.length
      · rw [natVal_take hl]; omega
      · rw [List.take_of_length_le (by omega), List.take_of_length_le (by omega)]; exact Nat.le_refl _
theorem spanL_at {p : UInt8 → Bool} {l : List UInt8} {k : Nat} (h : k < spanL p l) : p (l[k]'(Nat.lt_of_lt_of_le h (spanL_le p l))) = true := by
  induction l generalizing k with
  | nil => simp [spanL] at h
  | cons a l ih =>
    cases hp : p a with
    | false => simp [spanL, hp] at h
    | true =>
      cases k with
      | zero => exact hp
      | succ k => exact ih (k := k) (by simp only [spanL, hp, if_true] at h; omega)
def letterAt (l : List UInt8) (n : Nat) : Bool := match l[n]? with
  | some c => isLetter c
  | none => false
def oddNum (l : List UInt8) (n : Nat) : Bool := (decide (l[0]? = some 48) && decide (1 < n)) || letterAt l n
def numberR (l : List UInt8) : LexR :=
  if oddNum l (spanL isDigit l) then .bad 3
  else if 2147483647 < natVal (l.take (spanL isDigit l)) then .bad 2 else .tok 3 (spanL isDigit l) (natVal (l.take (spanL isDigit l)))
set_option maxHeartbeats 1000000 in
theorem tnumber_e (hx : TX ext) (c : UInt8) (t : List UInt8) (p : Int × Int) (hs : (c :: t).length ≤ 1048576) (hp : 1 ≤ p.1 ∧ p.1 + ((c :: t).length : Int) ≤ 4000000 ∧ 1 ≤ p.2 ∧ p.2 + ((c :: t).length : Int) ≤ 4000000) :
    G ext 64 [.ptr 0 0] [.cells [.d (.str (c :: t)), .d (.int .i64 p.1), .d (.int .i64 p.2)]] = some (lexOut (c :: t) p (numberR (c :: t))) := by
  rw [G_body hx.clear rfl Try.func64 rfl Try.results64 hv_64 rfl]
  have hsp := span_e hx isDigit _ (digit_e hx) (c :: t) hs
  have hle := spanL_le isDigit (c :: t)
  have hp1 := pass_e hx (c :: t) p (spanL isDigit (c :: t)) hle hs (by omega)
  have hdg : ∀ k d, k < spanL isDigit (c :: t) → (c :: t)[k]? = some d → isDigit d = true := by
    intro k d hk hd
    have h := spanL_at hk
    have hl : k < (c :: t).length := by omega
    rw [List.getElem?_eq_getElem hl] at hd
    cases hd
    exact h
  unfold numberR
  generalize hn : spanL isDigit (c :: t) = n at hsp hp1 hle hdg ⊢
  have hodd : oddNum (c :: t) n = ((decide ((c.toNat : Int) = 48) && decide ((1 : Int) < (n : Int))) || letterAt (c :: t) n) := by
    unfold oddNum
    have e1 := byte_all (p := fun c => decide (c = 48) == decide ((c.toNat : Int) = 48)) (by decide +kernel) c
    simp only [beq_iff_eq] at e1
    have e2 : decide (1 < n) = decide ((1 : Int) < (n : Int)) := decide_eq_decide.2 (by omega)
    rw [← e1, ← e2]
    simp
  by_cases ho : (c.toNat : Int) = 48 ∧ (1 : Int) < (n : Int)
  · have hb : oddNum (c :: t) n = true := by rw [hodd]; simp [ho.1, ho.2]
    rw [if_pos hb]
    obtain ⟨o1, o2⟩ := ho
    simp only [lexOut, tokA]
    simp (maxSteps := 4000000) (disch := first | (intros; contradiction) | omega) only [go_sem, hsp, o1, o2]
  cases hl : letterAt (c :: t) n with
  | true =>
    have hb : oddNum (c :: t) n = true := by rw [hodd, hl, Bool.or_true]
    rw [if_pos hb]
    obtain ⟨d, hd, hld⟩ : ∃ d, (c :: t)[n]? = some d ∧ isLetter d = true := by
      unfold letterAt at hl
      split at hl
      · exact ⟨_, by assumption, hl⟩
      · cases hl
    have hlt : (n : Int) < ((t.length + 1 : Nat) : Int) := by have := (List.getElem?_eq_some_iff.1 hd).1; simp at this; omega
    simp only [lexOut, tokA]
    by_cases o1 : (c.toNat : Int) = 48
    · have o2 : ¬ (1 : Int) < (n : Int) := fun h => ho ⟨o1, h⟩
      simp (maxSteps := 4000000) (disch := first | (intros; contradiction) | omega) only [go_sem, hsp, o1, o2, hlt, hd, letter_e hx, hld]
    · simp (maxSteps := 4000000) (disch := first | (intros; contradiction) | omega) only [go_sem, hsp, o1, hlt, hd, letter_e hx, hld]
  | false =>
    have hb : oddNum (c :: t) n = false := by
      rw [hodd, hl, Bool.or_false]
      simp only [Bool.and_eq_false_iff, decide_eq_false_iff_not]
      by_cases o1 : (c.toNat : Int) = 48
      · exact .inr (fun h => ho ⟨o1, h⟩)
      · exact .inl o1
    rw [if_neg (by simp [hb])]
    have hcase : (∃ d, (c :: t)[n]? = some d ∧ isLetter d = false ∧ (n : Int) < ((t.length + 1 : Nat) : Int)) ∨ ¬ (n : Int) < ((t.length + 1 : Nat) : Int) := by
      by_cases h : n < (c :: t).length
      · refine .inl ⟨_, List.getElem?_eq_getElem h, ?_, by simp at h; omega⟩
        unfold letterAt at hl
        rw [List.getElem?_eq_getElem h] at hl
        exact hl
      · exact .inr (by simp at h; omega)
    have o2 : (c.toNat : Int) = 48 → ¬ (1 : Int) < (n : Int) := fun o1 h => ho ⟨o1, h⟩
    clear hodd hb ho
    rcases hcase with ⟨d, hd, hld, hlt⟩ | hlt <;> by_cases o1 : (c.toNat : Int) = 48
    all_goals first
      | (have o3 := o2 o1
         simp (maxSteps := 4000000) (disch := first | (intros; contradiction) | omega) only [go_sem, hsp, o1, o3, hlt, hd, letter_e hx, hld])
      | (simp (maxSteps := 4000000) (disch := first | (intros; contradiction) | omega) only [go_sem, hsp, o1, hlt, hd, letter_e hx, hld])
      | (have o3 := o2 o1
         simp (maxSteps := 4000000) (disch := first | (intros; contradiction) | omega) only [go_sem, hsp, o1, o3, hlt])
      | (simp (maxSteps := 4000000) (disch := first | (intros; contradiction) | omega) only [go_sem, hsp, o1, hlt])
    all_goals
      clear hsp o1 o2 hlt
      generalize hL : loopA _ _ _ = L
      generalize hs' : c :: t = s at hp1 hle hdg hs hp ⊢
      apply loop_post hL (fun k : Nat => k ≤ n ∧ natVal (s.take k) ≤ 2147483647) (fun k => n - k)
        (fun k => ⟨[(0, .ptr 0 0), (2, .ptr 1 0), (3, .d (.int .i64 0)), (4, .d (.int .i64 n)), (5, .d (.int .i64 (natVal (s.take k)))), (6, .any), (41, .d (.int .i64 n)), (42, .d (.int .i64 k))], [], [.cells [.d (.str s), .d (.int .i64 p.1), .d (.int .i64 p.2)], .cells [.d (.int .i64 0), .d (.str []), .d (.int .i64 0), .d (.int .i64 0), .d (.int .i64 0)]]⟩)
        0 (by subst hs'; simp (maxSteps := 4000000) (disch := first | (intros; contradiction) | omega) only [go_sem] <;> rfl) ⟨Nat.zero_le _, by simp [natVal]⟩
      intro k hk next ih
      by_cases hlt : k < n
      · have hc : s[k]? = some s[k] := List.getElem?_eq_getElem (by omega)
        have hkn : (k : Int) < n := by omega
        have hdk := hdg k _ hlt hc
        have hb : 48 ≤ s[k].toNat ∧ s[k].toNat ≤ 57 := by
          have := byte_all (p := fun c => !isDigit c || (decide (48 ≤ c.toNat) && decide (c.toNat ≤ 57))) (by decide +kernel) s[k]
          rw [hdk] at this
          simpa using this
        have hnv := natVal_take (l := s) (k := k) (by omega)
        have hcast : ((natVal (s.take k) : Nat) : Int) * 10 + ((s[k].toNat : Int) - 48) = ((natVal (s.take (k + 1)) : Nat) : Int) := by rw [hnv]; omega
        by_cases hbig : (2147483647 : Int) < ((natVal (s.take (k + 1)) : Nat) : Int)
        · have hm := natVal_mono s (k := k + 1) (n := n) (by omega)
          rw [if_pos (by omega)]
          simp only [lexOut, tokA]
          simp (maxSteps := 4000000) (disch := first | (intros; contradiction) | omega) only [go_sem, hc, hkn, wrapu8, wrap64, hcast, hbig]
        · simp (maxSteps := 4000000) (disch := first | (intros; contradiction) | omega) only [go_sem, hc, hkn, wrapu8, wrap64, hcast, hbig]
          exact ih (k + 1) _ ⟨by omega, by omega⟩ (by omega) (by simp (maxSteps := 4000000) (disch := first | (intros; contradiction) | omega) only [go_sem] <;> rfl)
      · have hkn : ¬ (k : Int) < n := by omega
        have hke : k = n := by omega
        subst hke
        rw [if_neg (by omega)]
        simp only [lexOut, tokA]
        simp (maxSteps := 4000000) (disch := first | (intros; contradiction) | omega) only [go_sem, hkn, hp1]
end Go.Proofs.Ytlcbnlfbbjmpbaa
namespace Go.Proofs.Ytlcbnlfbbjmpbaa
open Go Go.Ab
variable {ext : Sem'}
def strs (l : List (List UInt8)) : Dt := .sl (l.map fun x => [.str x])
theorem strs_at (l : List (List UInt8)) (i : Nat) (h : i < l.length) : (l.map fun x => [Dt.str x])[i]? = some [.str l[i]] := by
  rw [List.getElem?_map, List.getElem?_eq_getElem h]; rfl
def findI (v : List UInt8) : List (List UInt8) → Option Nat
  | [] => none
  | a :: l => if v = a then some 0 else (findI v l).map (· + 1)
def findN (v : List UInt8) (l : List (List UInt8)) : Int := match findI v l with
  | some i => i
  | none => -1
theorem findI_mem {v : List UInt8} : ∀ {l : List (List UInt8)}, (findI v l).isSome = decide (v ∈ l)
  | [] => rfl
  | a :: l => by
    simp only [findI]
    split
    · rename_i h; simp [h]
    · rename_i h
      have := findI_mem (v := v) (l := l)
      simp [h, this]
theorem index_e (hx : TX ext) (l : List (List UInt8)) (v : List UInt8) (hl : l.length ≤ 1000) : G ext 82 [.d (strs l), .d (.str v)] [] = some (.ret (.d (.int .i64 (findN v l))), []) := by
  rw [G_body hx.clear rfl Try.func82 rfl Try.results82 hv_82 rfl]
  unfold strs
  simp (maxSteps := 4000000) (disch := first | (intros; contradiction) | omega) only [go_sem, List.length_map]
  generalize hL : loopA _ _ _ = L
  apply loop_post hL (fun k : Nat => k ≤ l.length ∧ findI v l = (findI v (l.drop k)).map (· + k)) (fun k => l.length - k)
    (fun k => ⟨[(0, .d (.sl (l.map fun x => [.str x]))), (1, .d (.str v)), (4, .d (.int .i64 0)), (5, .any), (7, .d (.int .i64 l.length)), (8, .d (.int .i64 k))], [], []⟩)
    0 (by simp (maxSteps := 4000000) (disch := first | (intros; contradiction) | omega) only [go_sem] <;> rfl) ⟨Nat.zero_le _, by simp⟩
  intro k hk next ih
  by_cases h : k < l.length
  · have hc := strs_at l k h
    have h' : (k : Int) < l.length := by omega
    rw [List.drop_eq_getElem_cons h] at hk
    simp only [findI] at hk
    by_cases he : v = l[k]
    · rw [if_pos he] at hk
      have hr : findN v l = k := by unfold findN; rw [hk.2]; simp
      rw [hr]
      simp (maxSteps := 4000000) (disch := first | (intros; contradiction) | omega) only [go_sem, hc, h', he]
    · rw [if_neg he] at hk
      simp (maxSteps := 4000000) (disch := first | (intros; contradiction) | omega) only [go_sem, hc, h', he, wrap64]
      exact ih (k + 1) _ ⟨by omega, by rw [hk.2, Option.map_map]; congr 1; funext x; simp; omega⟩ (by omega) (by simp (maxSteps := 4000000) (disch := first | (intros; contradiction) | omega) only [go_sem] <;> rfl)
  · have h' : ¬ (k : Int) < l.length := by omega
    have hke : k = l.length := by omega
    subst hke
    have hr : findN v l = -1 := by unfold findN; rw [hk.2]; simp [findI]
    rw [hr]
    simp (maxSteps := 4000000) (disch := first | (intros; contradiction) | omega) only [go_sem, h']
theorem contains_e (hx : TX ext) (l : List (List UInt8)) (v : List UInt8) (hl : l.length ≤ 1000) : G ext 66 [.d (strs l), .d (.str v)] [] = some (.ret (.d (.bool (decide (v ∈ l)))), []) := by
  rw [G_body hx.clear rfl Try.func66 rfl Try.results66 hv_66 rfl]
  rw [← findI_mem]
  have h := index_e hx l v hl
  unfold strs at h ⊢
  cases hf : findI v l with
  | none =>
    have : findN v l = -1 := by unfold findN; rw [hf]
    rw [this] at h
    simp (maxSteps := 4000000) (disch := first | (intros; contradiction) | omega) only [go_sem, h, Option.isSome_none]
  | some i =>
    have : findN v l = i := by unfold findN; rw [hf]
    rw [this] at h
    have h0 : (0 : Int) ≤ i := by omega
    simp (maxSteps := 4000000) (disch := first | (intros; contradiction) | omega) only [go_sem, h, h0, Option.isSome_some]
def signs2 : List (List UInt8) := [[45, 62], [60, 61], [62, 61], [61, 61], [33, 61]]
def signs1 : List UInt8 := [43, 45, 42, 47, 37, 60, 62, 33, 61, 40, 41, 123, 125, 44, 59]
def oneSign : List UInt8 → Bool
  | [] => false
  | c :: _ => decide (c ∈ signs1)
def signR (l : List UInt8) : LexR :=
  if 1 < l.length ∧ l.take 2 ∈ signs2 then .tok 4 2 0 else if oneSign l = true then .tok 4 1 0 else .bad 3
theorem idxI_mem {c : UInt8} {l : List UInt8} : (0 ≤ idxI l c) = (c ∈ l) := by
  unfold idxI
  apply propext
  cases h : idxB c l with
  | none => have := idxB_none h; simp [this]
  | some i => obtain ⟨a, b, rfl, _⟩ := idxB_some h; simp
theorem tsign_e (hx : TX ext) (c : UInt8) (t : List UInt8) (p : Int × Int) (hs : (c :: t).length ≤ 1048576) (hp : 1 ≤ p.1 ∧ p.1 + ((c :: t).length : Int) ≤ 4000000 ∧ 1 ≤ p.2 ∧ p.2 + ((c :: t).length : Int) ≤ 4000000) :
    G ext 65 [.ptr 0 0] [.cells [.d (.str (c :: t)), .d (.int .i64 p.1), .d (.int .i64 p.2)]] = some (lexOut (c :: t) p (signR (c :: t))) := by
  rw [G_body hx.clear rfl Try.func65 rfl Try.results65 hv_65 rfl]
  have hix := G_ext (hx.index signs1 c (by simp [signs1]))
  unfold signs1 at hix
  unfold signR
  have hco := contains_e hx signs2 (c :: t.take 1) (by simp [signs2])
  simp only [signs2, strs, List.map_cons, List.map_nil] at hco
  have hp1 := pass_e hx (c :: t) p 1 (by simp) hs (by omega)
  simp only [Int.natCast_one] at hp1
  by_cases hm : 1 < (c :: t).length ∧ (c :: t).take 2 ∈ signs2
  · rw [if_pos hm]
    have h1 : (1 : Int) < ((t.length + 1 : Nat) : Int) := by have := hm.1; simp at this; omega
    have h2 : (2 : Int) ≤ ((t.length + 1 : Nat) : Int) := by omega
    have hmd : c :: t.take 1 ∈ signs2 := hm.2
    unfold signs2 at hmd
    have hp2 := pass_e hx (c :: t) p 2 (by simp; omega) hs (by omega)
    simp only [Int.cast_ofNat_Int] at hp2
    simp only [hmd, decide_true] at hco
    simp only [lexOut, tokA]
    simp (maxSteps := 4000000) (disch := first | (intros; contradiction) | omega) only [go_sem, h1, h2, hco, hp2]
  · rw [if_neg hm]
    by_cases h1 : (1 : Int) < ((t.length + 1 : Nat) : Int)
    all_goals
      cases hone : oneSign (c :: t) with
      | true =>
        rw [if_pos rfl]
        have hin : (0 ≤ idxI [43, 45, 42, 47, 37, 60, 62, 33, 61, 40, 41, 123, 125, 44, 59] c) := by rw [idxI_mem]; simpa [oneSign, signs1] using hone
        simp only [lexOut, tokA]
        first
          | (have h2 : (2 : Int) ≤ ((t.length + 1 : Nat) : Int) := by omega
             have hmd : ¬ (c :: t.take 1 ∈ [[45, 62], [60, 61], [62, 61], [61, 61], [33, 61]]) := fun h => hm ⟨by simp; omega, h⟩
             simp only [hmd, decide_false] at hco
             simp (maxSteps := 4000000) (disch := first | (intros; contradiction) | omega) only [go_sem, h1, h2, hco, hix, hin, hp1])
          | (simp (maxSteps := 4000000) (disch := first | (intros; contradiction) | omega) only [go_sem, h1, hix, hin, hp1])
      | false =>
        rw [if_neg (by simp)]
        have hin : ¬ (0 ≤ idxI [43, 45, 42, 47, 37, 60, 62, 33, 61, 40, 41, 123, 125, 44, 59] c) := by rw [idxI_mem]; simpa [oneSign, signs1] using hone
        simp only [lexOut, tokA]
        first
          | (have h2 : (2 : Int) ≤ ((t.length + 1 : Nat) : Int) := by omega
             have hmd : ¬ (c :: t.take 1 ∈ [[45, 62], [60, 61], [62, 61], [61, 61], [33, 61]]) := fun h => hm ⟨by simp; omega, h⟩
             simp only [hmd, decide_false] at hco
             simp (maxSteps := 4000000) (disch := first | (intros; contradiction) | omega) only [go_sem, h1, h2, hco, hix, hin])
          | (simp (maxSteps := 4000000) (disch := first | (intros; contradiction) | omega) only [go_sem, h1, hix, hin])
def lexR : List UInt8 → LexR
  | [] => .tok 5 0 0
  | c :: t => if isLetter c then wordR (c :: t) else if isDigit c then numberR (c :: t) else signR (c :: t)
theorem tnext_e (hx : TX ext) (s : List UInt8) (p : Int × Int) (hs : s.length ≤ 1048576) (hp : 1 ≤ p.1 ∧ p.1 + (s.length : Int) ≤ 4000000 ∧ 1 ≤ p.2 ∧ p.2 + (s.length : Int) ≤ 4000000) :
    G ext 36 [.ptr 0 0] [.cells [.d (.str s), .d (.int .i64 p.1), .d (.int .i64 p.2)]] = some (lexOut s p (lexR s)) := by
  rw [G_body hx.clear rfl Try.func36 rfl Try.results36 hv_36 rfl]
  cases s with
  | nil =>
    simp only [lexR, lexOut, tokA, adv, List.take_nil, List.drop_nil, List.foldl_nil]
    simp (maxSteps := 4000000) (disch := first | (intros; contradiction) | omega) only [go_sem]
  | cons c t =>
    simp only [lexR]
    cases h1 : isLetter c with
    | true =>
      have hw := tword_e hx (c :: t) p hs hp
      rw [if_pos rfl]
      cases hR : wordR (c :: t) <;> (rw [hR] at hw; simp only [lexOut, tokA] at hw ⊢; simp (maxSteps := 4000000) (disch := first | (intros; contradiction) | omega) only [go_sem, letter_e hx, h1, hw])
    | false =>
      rw [if_neg (by simp)]
      cases h2 : isDigit c with
      | true =>
        have hw := tnumber_e hx c t p hs hp
        rw [if_pos rfl]
        cases hR : numberR (c :: t) <;> (rw [hR] at hw; simp only [lexOut, tokA] at hw ⊢; simp (maxSteps := 4000000) (disch := first | (intros; contradiction) | omega) only [go_sem, letter_e hx, digit_e hx, h1, h2, hw])
      | false =>
        have hw := tsign_e hx c t p hs hp
        rw [if_neg (by simp)]
        cases hR : signR (c :: t) <;> (rw [hR] at hw; simp only [lexOut, tokA] at hw ⊢; simp (maxSteps := 4000000) (disch := first | (intros; contradiction) | omega) only [go_sem, letter_e hx, digit_e hx, h1, h2, hw])
end Go.Proofs.Ytlcbnlfbbjmpbaa
namespace Go.Proofs.Ytlcbnlfbbjmpbaa
open Go Go.Ab
variable {ext : Sem'}
/-- A token, by its bytes. -/
structure Tok where
  kind : Int
  text : List UInt8
  num : Int
  pos : Int × Int
/-- What is wrong. -/
structure Dg where
  stage : Int
  what : Int
  pos : Int × Int
def Tok.zero : Tok := ⟨0, [], 0, (0, 0)⟩
def Dg.zero : Dg := ⟨0, 0, (0, 0)⟩
def Tok.row (t : Tok) : List Dt := [.int .i64 t.kind, .str t.text, .int .i64 t.num, .int .i64 t.pos.1, .int .i64 t.pos.2]
def Tok.av (t : Tok) : AV := .agg [.d (.int .i64 t.kind), .d (.str t.text), .d (.int .i64 t.num), .d (.int .i64 t.pos.1), .d (.int .i64 t.pos.2)]
def Dg.av (d : Dg) : AV := .agg [.d (.int .i64 d.stage), .d (.int .i64 d.what), .d (.int .i64 d.pos.1), .d (.int .i64 d.pos.2)]

/-- What the iterator gives, from there on. -/
def eachF : Nat → List UInt8 → Int × Int → List (Tok × Dg)
  | 0, _, _ => []
  | g + 1, l, p =>
    let l' := l.drop (skipN false l)
    let p' := adv p (l.take (skipN false l))
    match lexR l' with
    | .bad f => [(Tok.zero, ⟨1, f, p'⟩)]
    | .tok k n v => (⟨k, l'.take n, v, p'⟩, Dg.zero) :: if k = 5 then [] else eachF g (l'.drop n) (adv p' (l'.take n))
def eachL (l : List UInt8) : List (Tok × Dg) := if 1048576 < l.length then [(Tok.zero, ⟨1, 2, (1, 1)⟩)] else eachF (l.length + 1) l (1, 1)
def eachI (l : List (Tok × Dg)) : List (List AV) := l.map fun x => [x.1.av, x.2.av]
theorem eachI_plain (l : List (Tok × Dg)) : plainI (eachI l) := by
  intro x hx
  obtain ⟨y, _, rfl⟩ := List.mem_map.1 hx
  rfl

theorem spanL_pos {p : UInt8 → Bool} {c : UInt8} {t : List UInt8} (h : p c = true) : 1 ≤ spanL p (c :: t) := by simp [spanL, h]
theorem lexR_tok {l : List UInt8} {k v : Int} {n : Nat} (h : lexR l = .tok k n v) : n ≤ l.length ∧ ((k = 5 ∧ l = [] ∧ n = 0) ∨ (k ≠ 5 ∧ 1 ≤ n)) := by
  cases l with
  | nil =>
    simp only [lexR] at h
    cases h
    exact ⟨by simp, .inl ⟨rfl, rfl, rfl⟩⟩
  | cons c t =>
    simp only [lexR] at h
    split at h
    · rename_i hc
      unfold wordR at h
      split at h
      · cases h
      · cases h
        refine ⟨spanL_le _ _, .inr ⟨?_, spanL_pos (by simp [isInner, hc])⟩⟩
        split <;> decide
    · split at h
      · rename_i hc
        unfold numberR at h
        split at h
        · cases h
        · split at h
          · cases h
          · cases h
            exact ⟨spanL_le _ _, .inr ⟨by decide, spanL_pos hc⟩⟩
      · unfold signR at h
        split at h
        · rename_i h2
          cases h
          exact ⟨by omega, .inr ⟨by decide, by decide⟩⟩
        · split at h
          · cases h
            exact ⟨by simp, .inr ⟨by decide, by decide⟩⟩
          · cases h
theorem lexR_bad {l : List UInt8} {f : Int} (h : lexR l = .bad f) : f = 2 ∨ f = 3 := by
  cases l with
  | nil => simp only [lexR] at h; cases h
  | cons c t =>
    simp only [lexR] at h
    split at h
    · unfold wordR at h
      split at h
      · cases h; exact .inl rfl
      · cases h
    · split at h
      · unfold numberR at h
        split at h
        · cases h; exact .inr rfl
        · split at h
          · cases h; exact .inl rfl
          · cases h
      · unfold signR at h
        split at h
        · cases h
        · split at h
          · cases h
          · cases h; exact .inr rfl

theorem each1_e (hx : TX ext) (s : List UInt8) (o o' : AObj) (hl : Listens o) (ho : fed (eachI (eachL s)) o = some o') :
    G ext 34 [.yld 1, .ptr 0 0] [.cells [.d (.str s)], o] = some (.ret (.tuple []), [.cells [.d (.str s)], o']) := by
  rw [G_body hx.clear rfl Try.func34 rfl Try.results34 hv_34 rfl]
  by_cases h : (1048576 : Int) < s.length
  · have h' : 1048576 < s.length := by omega
    simp only [eachL, h', if_true, eachI, List.map_cons, List.map_nil, Tok.av, Tok.zero, Dg.av] at ho
    rcases fed_cons ho with ⟨o1, h1, h2⟩ | h1
    · cases h2
      simp (maxSteps := 4000000) (disch := first | (intros; contradiction) | omega) only [go_sem, h, (feed1_listens h1).2.refs, yieldK_feed h1]
    · simp (maxSteps := 4000000) (disch := first | (intros; contradiction) | omega) only [go_sem, h, (feed1_listens h1).2.refs, yieldK_feed h1]
  · simp only [eachL, show ¬ 1048576 < s.length by omega, if_false] at ho
    simp (maxSteps := 4000000) (disch := first | (intros; contradiction) | omega) only [go_sem, h]
    generalize hL : loopA _ _ _ = L
    apply loop_post hL (fun x : Nat × List UInt8 × (Int × Int) × AObj => x.2.1.length < x.1 ∧ 1 ≤ x.2.2.1.1 ∧ x.2.2.1.1 + x.2.1.length ≤ 1048577 ∧ 1 ≤ x.2.2.1.2 ∧ x.2.2.1.2 + x.2.1.length ≤ 1048577 ∧ Listens x.2.2.2 ∧ fed (eachI (eachF x.1 x.2.1 x.2.2.1)) x.2.2.2 = some o') (fun x => x.2.1.length)
      (fun x => ⟨[(0, .yld 1), (1, .ptr 0 0), (3, .ptr 2 0), (4, .any), (5, .any), (6, .any)], [], [.cells [.d (.str s)], x.2.2.2, .cells [.d (.str x.2.1), .d (.int .i64 x.2.2.1.1), .d (.int .i64 x.2.2.1.2)]]⟩)
      (s.length + 1, s, (1, 1), o) (by simp (maxSteps := 4000000) (disch := first | (intros; contradiction) | omega) only [go_sem, hl.refs]) ⟨by simp, by simp, by simp; omega, by simp, by simp; omega, hl, ho⟩
    clear ho hl
    rintro ⟨g, l, p, o⟩ ⟨h1, h2, h3, h4, h5, hl, ho⟩ next ih
    simp only at h1 h2 h3 h4 h5 hl ho ih ⊢
    obtain ⟨g, rfl⟩ : ∃ k, g = k + 1 := ⟨g - 1, by omega⟩
    simp only [eachF] at ho
    have hsk := skip_e hx l p (by omega) ⟨h2, by omega, h4, by omega⟩
    have hle := skipN_le false l
    have hadv := adv_le p (l.take (skipN false l)) ⟨h2, h4⟩
    rw [List.length_take, Nat.min_eq_left hle] at hadv
    generalize hl' : l.drop (skipN false l) = l' at *
    generalize hp' : adv p (l.take (skipN false l)) = p' at *
    have hlen : l'.length + skipN false l = l.length := by rw [← hl', List.length_drop]; omega
    have hn := tnext_e hx l' p' (by omega) ⟨by omega, by omega, by omega, by omega⟩
    cases hR : lexR l' with
    | bad f =>
      rw [hR] at hn ho
      simp only [lexOut, tokA] at hn
      simp only [eachI, List.map_cons, List.map_nil, Tok.av, Tok.zero, Dg.av] at ho
      have hf : ¬ f = 0 := by have := lexR_bad hR; omega
      rcases fed_cons ho with ⟨o1, k1, k2⟩ | k1
      · cases k2
        simp (maxSteps := 4000000) (disch := first | (intros; contradiction) | omega) only [go_sem, hsk, hn, hf, (feed1_listens k1).2.refs, yieldK_feed k1]
      · simp (maxSteps := 4000000) (disch := first | (intros; contradiction) | omega) only [go_sem, hsk, hn, hf, (feed1_listens k1).2.refs, yieldK_feed k1]
    | tok k n v =>
      rw [hR] at hn ho
      simp only [lexOut, tokA] at hn
      simp only [eachI, List.map_cons, Tok.av, Dg.zero, Dg.av] at ho
      obtain ⟨hk1, hk2⟩ := lexR_tok hR
      rcases fed_cons ho with ⟨o1, k1, k2⟩ | k1
      · by_cases hk : k = 5
        · subst hk
          rw [if_pos rfl] at k2
          cases k2
          simp (maxSteps := 4000000) (disch := first | (intros; contradiction) | omega) only [go_sem, hsk, hn, (feed1_listens k1).2.refs, yieldK_feed k1]
        · rw [if_neg hk] at k2
          have hadv2 := adv_le p' (l'.take n) ⟨by omega, by omega⟩
          rw [List.length_take, Nat.min_eq_left hk1] at hadv2
          have hl1 := (feed1_listens k1).2
          simp (maxSteps := 4000000) (disch := first | (intros; contradiction) | omega) only [go_sem, hsk, hn, hk, yieldK_feed k1]
          exact ih (g, l'.drop n, adv p' (l'.take n), o1) _ ⟨by simp; omega, by simp only; omega, by simp; omega, by simp only; omega, by simp; omega, hl1, k2⟩ (by simp; omega) (by simp (maxSteps := 4000000) (disch := first | (intros; contradiction) | omega) only [go_sem, hl1.refs])
      · simp (maxSteps := 4000000) (disch := first | (intros; contradiction) | omega) only [go_sem, hsk, hn, (feed1_listens k1).2.refs, yieldK_feed k1]
theorem each_e (hx : TX ext) (s : List UInt8) : G ext 14 [.d (.str s)] [] = some (.ret (.fn 34 [] [.ptr 0 0]), [.cells [.d (.str s)]]) := by
  rw [G_body hx.clear rfl Try.func14 rfl Try.results14 hv_14 rfl]
  simp (maxSteps := 4000000) (disch := first | (intros; contradiction) | omega) only [go_sem]
def tokSl (l : List Tok) : Dt := .sl (l.map Tok.row)
end Go.Proofs.Ytlcbnlfbbjmpbaa
namespace Go.Proofs.Ytlcbnlfbbjmpbaa
open Go Go.Ab
variable {ext : Sem'}
theorem eachF_shape (l : List UInt8) (p : Int × Int) : ∀ g : Nat, (∀ x, x ∈ eachF g l p → x.2 = Dg.zero) ∨ ∃ gs d, eachF g l p = gs ++ [(Tok.zero, d)] ∧ d.what ≠ 0 ∧ ∀ x, x ∈ gs → x.2 = Dg.zero := by
  intro g
  induction g generalizing l p with
  | zero => exact .inl (by simp [eachF])
  | succ g ih =>
    simp only [eachF]
    cases hR : lexR (l.drop (skipN false l)) with
    | bad f =>
      refine .inr ⟨[], _, rfl, ?_, by simp⟩
      rcases lexR_bad hR with rfl | rfl <;> simp
    | tok k n v =>
      simp only
      by_cases hk : k = 5
      · rw [if_pos hk]
        exact .inl (by simp)
      · rw [if_neg hk]
        rcases ih ((l.drop (skipN false l)).drop n) (adv (adv p (l.take (skipN false l))) ((l.drop (skipN false l)).take n)) with h | ⟨gs, d, h1, h2, h3⟩
        · exact .inl (by simpa using h)
        · rw [h1]
          exact .inr ⟨_ :: gs, d, rfl, h2, by simpa using h3⟩
theorem eachF_len (l : List UInt8) (p : Int × Int) : ∀ g : Nat, (eachF g l p).length ≤ g := by
  intro g
  induction g generalizing l p with
  | zero => simp [eachF]
  | succ g ih =>
    simp only [eachF]
    split
    · simp
    · simp only [List.length_cons]
      split
      · simp
      · exact Nat.succ_le_succ (ih _ _)
theorem eachL_shape (l : List UInt8) : (∀ x, x ∈ eachL l → x.2 = Dg.zero) ∨ ∃ gs d, eachL l = gs ++ [(Tok.zero, d)] ∧ d.what ≠ 0 ∧ ∀ x, x ∈ gs → x.2 = Dg.zero := by
  unfold eachL
  split
  · exact .inr ⟨[], _, rfl, by simp, by simp⟩
  · exact eachF_shape _ _ _
theorem eachL_len (l : List UInt8) : (eachL l).length ≤ 1048577 := by
  unfold eachL
  split
  · simp
  · exact Nat.le_trans (eachF_len _ _ _) (by omega)
def firstBad (l : List (Tok × Dg)) : Option Dg := (l.find? fun x => decide (x.2.what ≠ 0)).map (·.2)
/-- All tokens, or what is wrong. -/
def scanR (l : List (Tok × Dg)) : List Tok × Dg := match firstBad l with
  | some d => ([], d)
  | none => (l.map (·.1), Dg.zero)
theorem scanR_good {l : List (Tok × Dg)} (h : ∀ x, x ∈ l → x.2 = Dg.zero) : scanR l = (l.map (·.1), Dg.zero) := by
  have : firstBad l = none := by
    unfold firstBad
    rw [List.find?_eq_none.2 (fun x hx => by rw [h x hx]; simp [Dg.zero])]
    rfl
  unfold scanR
  rw [this]
theorem scanR_bad {gs : List (Tok × Dg)} {d : Dg} (h : ∀ x, x ∈ gs → x.2 = Dg.zero) (hd : d.what ≠ 0) : scanR (gs ++ [(Tok.zero, d)]) = ([], d) := by
  have : firstBad (gs ++ [(Tok.zero, d)]) = some d := by
    unfold firstBad
    rw [List.find?_append, List.find?_eq_none.2 (fun x hx => by rw [h x hx]; simp [Dg.zero])]
    simp [hd]
  unfold scanR
  rw [this]
def rowsT (l : List Tok) : List (List Dt) := l.map Tok.row
theorem eachI_get {l : List (Tok × Dg)} {i : Nat} {x : List AV} (h : (eachI l)[i]? = some x) : ∃ t d, l[i]? = some (t, d) ∧ x = [t.av, d.av] := by
  unfold eachI at h
  rw [List.getElem?_map] at h
  cases hl : l[i]? with
  | none => rw [hl] at h; cases h
  | some y => rw [hl] at h; cases h; exact ⟨y.1, y.2, rfl, rfl⟩
theorem eachI_len (l : List (Tok × Dg)) : (eachI l).length = l.length := by unfold eachI; simp
theorem room_tok {n : Nat} (h : n ≤ 1048577) : room n 48 := by unfold room; simp; omega
theorem scan_e (hx : TX ext) (s : List UInt8) : G ext 6 [.d (.str s)] [] = some (.ret (.tuple [.d (.sl (rowsT (scanR (eachL s)).1)), (scanR (eachL s)).2.av]), []) := by
  obtain ⟨h1, h2, h3⟩ := gen3 (Hs := [.cells [.d (.str s)]]) (eachI_plain (eachL s)) (fun o o' hl ho => each1_e hx s o o' hl ho)
  simp only [List.cons_append, List.nil_append] at h1 h2 h3
  have hlen := eachL_len s
  rw [G_body hx.clear rfl Try.func6 rfl Try.results6 hv_6 rfl]
  simp (maxSteps := 4000000) (disch := first | (intros; contradiction) | omega) only [go_sem, each_e hx, h1]
  generalize hR : rfFold _ _ _ _ _ _ = R
  have hsucc : ∀ (i : Nat) (t : Tok) (d : Dg), (eachL s)[i]? = some (t, d) → rowsT (((eachL s).map (·.1)).take (i + 1)) = rowsT (((eachL s).map (·.1)).take i) ++ [[.int .i64 t.kind, .str t.text, .int .i64 t.num, .int .i64 t.pos.1, .int .i64 t.pos.2]] ∧ room ((rowsT (((eachL s).map (·.1)).take i)).length + 1) 48 := by
    intro i t d hl
    have hi := (List.getElem?_eq_some_iff.1 hl).1
    refine ⟨?_, room_tok (by unfold rowsT; simp; omega)⟩
    rw [List.take_add_one, List.getElem?_map, hl]
    unfold rowsT
    rw [List.map_append]
    rfl
  rcases eachL_shape s with hg | ⟨gs, d, he, hd, hg⟩
  · rw [scanR_good hg]
    have := rfFold_all hR (fun i => [.cells [.grow 2 i (rowsT (((eachL s).map (·.1)).take i))], .cells [.d (.int .i64 0), .d (.int .i64 0), .d (.int .i64 0), .d (.int .i64 0)], .grow i 5, .no]) rfl (fun i x next hx => by
      obtain ⟨t, d, hl, rfl⟩ := eachI_get hx
      have hd := hg _ (List.mem_of_getElem? hl)
      simp only at hd
      subst hd
      obtain ⟨hs1, hs2⟩ := hsucc i t _ hl
      simp only [Tok.av, Dg.av, Dg.zero]
      simp (maxSteps := 4000000) (disch := first | (intros; contradiction) | omega) only [go_sem, hs2, hs1])
    rw [this]
    clear this hR
    rw [eachI_len, List.take_of_length_le (by simp)]
    simp only [Dg.av, Dg.zero]
    simp (maxSteps := 4000000) (disch := first | (intros; contradiction) | omega) only [go_sem, h2]
  · rw [he, scanR_bad hg hd]
    have hj : gs.length < (eachI (eachL s)).length := by rw [eachI_len, he]; simp
    have h3 := h3 _ hj
    rw [he] at h3
    have := rfFold_first hR (fun i => [.cells [.grow 2 i (rowsT (((eachL s).map (·.1)).take i))], .cells [.d (.int .i64 0), .d (.int .i64 0), .d (.int .i64 0), .d (.int .i64 0)], .grow i 5, .no]) rfl gs.length hj
      (.left .ret gs.length [.cells [.full []], .cells [.d (.int .i64 d.stage), .d (.int .i64 d.what), .d (.int .i64 d.pos.1), .d (.int .i64 d.pos.2)], .grow gs.length 5, .no]) (fun i x next hi hx => by
      obtain ⟨t, d', hl, rfl⟩ := eachI_get hx
      have hd := hg (t, d') (by rw [he, List.getElem?_append_left hi] at hl; exact List.mem_of_getElem? hl)
      simp only at hd
      subst hd
      obtain ⟨hs1, hs2⟩ := hsucc i t _ hl
      simp only [Tok.av, Dg.av, Dg.zero]
      simp (maxSteps := 4000000) (disch := first | (intros; contradiction) | omega) only [go_sem, hs2, hs1]) (fun x next hx => by
      obtain ⟨t, d', hl, rfl⟩ := eachI_get hx
      rw [he, List.getElem?_append_right (Nat.le_refl _)] at hl
      simp at hl
      obtain ⟨rfl, rfl⟩ := hl
      simp only [Tok.av, Dg.av, Tok.zero]
      simp (maxSteps := 4000000) (disch := first | (intros; contradiction) | omega) only [go_sem, hd])
    rw [this]
    clear this hR
    simp only [Dg.av]
    simp (maxSteps := 4000000) (disch := first | (intros; contradiction) | omega) only [go_sem, h3]
    rfl
end Go.Proofs.Ytlcbnlfbbjmpbaa
namespace Go.Proofs.Ytlcbnlfbbjmpbaa
open Go Go.Ab
variable {ext : Sem'}
theorem byteEq (c k : UInt8) (n : Int) (h : n = k.toNat) : ((c.toNat : Int) = n) = (c = k) := by
  subst h
  apply propext
  constructor
  · intro h; exact UInt8.toNat_inj.1 (by omega)
  · rintro rfl; rfl
theorem byteY {c : UInt8} {n : Int} (k : UInt8) (e : c = k) (h : n = k.toNat) : (c.toNat : Int) = n := by subst e; exact h.symm
theorem byteN {c : UInt8} {n : Int} (k : UInt8) (e : ¬ c = k) (h : n = k.toNat) : ¬ (c.toNat : Int) = n := by rw [byteEq c k n h]; exact e
theorem dropC {s : List UInt8} {i : Nat} (h : i < s.length) : s[i]? = some s[i] ∧ s.drop i = s[i] :: s.drop (i + 1) ∧ (i : Int) < s.length :=
  ⟨List.getElem?_eq_getElem h, List.drop_eq_getElem_cons h, by omega⟩
set_option maxHeartbeats 2000000 in
theorem rskip_e (hx : TX ext) (s : List UInt8) (i : Nat) (hs : s.length ≤ 1048576) (hi : i ≤ s.length) : G ext 26 [.d (.str s), .d (.int .i64 i)] [] = some (.ret (.d (.int .i64 (i + skipN false (s.drop i) : Nat))), []) := by
  rw [G_body hx.clear rfl Try.func26 rfl Try.results26 hv_26 rfl]
  simp (maxSteps := 4000000) (disch := first | (intros; contradiction) | omega) only [go_sem]
  generalize hN : i + skipN false (s.drop i) = N
  generalize hL : loopA _ _ _ = L
  apply loop_post hL (fun i : Nat => i ≤ s.length ∧ i + skipN false (s.drop i) = N) (fun i => s.length - i)
    (fun i => ⟨[(0, .d (.str s)), (1, .d (.int .i64 i)), (4, .d (.int .i64 0))], [], []⟩)
    i (by simp (maxSteps := 4000000) (disch := first | (intros; contradiction) | omega) only [go_sem]) ⟨hi, hN⟩
  clear hN hL hi
  clear i
  rintro i ⟨hi, hN⟩ next ih
  by_cases h : i < s.length
  · obtain ⟨hc, hd, hlt⟩ := dropC h
    have hsk := hN
    rw [hd] at hsk
    simp only [skipN] at hsk
    have hnx : i + 1 + skipN false (s.drop (i + 1)) = i + (1 + skipN false (s.drop (i + 1))) := by omega
    by_cases b1 : s[i] = 32
    · have c1 := byteY 32 b1 (n := 32) rfl
      simp [isBlank, b1] at hsk
      simp (maxSteps := 4000000) (disch := first | (intros; contradiction) | omega) only [go_sem, hc, hlt, c1, wrap64]
      exact ih (i + 1) _ ⟨by omega, by omega⟩ (by omega) (by simp (maxSteps := 4000000) (disch := first | (intros; contradiction) | omega) only [go_sem] <;> rfl)
    have c1 := byteN 32 b1 (n := 32) rfl
    by_cases b2 : s[i] = 9
    · have c2 := byteY 9 b2 (n := 9) rfl
      simp [isBlank, b2] at hsk
      simp (maxSteps := 4000000) (disch := first | (intros; contradiction) | omega) only [go_sem, hc, hlt, c2, wrap64]
      exact ih (i + 1) _ ⟨by omega, by omega⟩ (by omega) (by simp (maxSteps := 4000000) (disch := first | (intros; contradiction) | omega) only [go_sem] <;> rfl)
    have c2 := byteN 9 b2 (n := 9) rfl
    by_cases b3 : s[i] = 10
    · have c3 := byteY 10 b3 (n := 10) rfl
      simp [isBlank, b3] at hsk
      simp (maxSteps := 4000000) (disch := first | (intros; contradiction) | omega) only [go_sem, hc, hlt, c3, wrap64]
      exact ih (i + 1) _ ⟨by omega, by omega⟩ (by omega) (by simp (maxSteps := 4000000) (disch := first | (intros; contradiction) | omega) only [go_sem] <;> rfl)
    have c3 := byteN 10 b3 (n := 10) rfl
    have hcs : isBlank s[i] = false := by simp [isBlank, b1, b2, b3]
    rw [hcs, if_neg (by simp)] at hsk
    by_cases hcm : s[i] = 47 ∧ (s.drop (i + 1)).head? = some 47
    · rw [if_pos hcm] at hsk
      obtain ⟨b4, h5⟩ := hcm
      have h2 : i + 1 < s.length := by
        apply Nat.lt_of_not_le
        intro hle
        rw [List.drop_of_length_le hle] at h5
        cases h5
      obtain ⟨hc2, hd2, _⟩ := dropC h2
      rw [hd2, List.head?_cons] at h5
      simp only [Option.some.injEq] at h5
      have hlt2 : (i : Int) + 1 < s.length := by omega
      have ht : ((i : Int) + 1).toNat = i + 1 := by omega
      have c4 := byteY 47 b4 (n := 47) rfl
      have c5 := byteY 47 h5 (n := 47) rfl
      have h1 : (0 : Int) ≤ (i : Int) + 1 := by omega
      simp (maxSteps := 4000000) (disch := first | (intros; contradiction) | omega) only [go_sem, hc, hlt, hc2, hlt2, h1, ht, c4, c5, wrap64]
      generalize hL : loopA _ _ _ = L
      apply loop_post hL (fun j : Nat => i < j ∧ j ≤ s.length ∧ j + skipN true (s.drop j) = N ∨ j = i) (fun j => s.length - j)
        (fun j => ⟨[(0, .d (.str s)), (1, .d (.int .i64 j)), (4, .d (.int .i64 0))], [], []⟩)
        i (by simp (maxSteps := 4000000) (disch := first | (intros; contradiction) | omega) only [go_sem]) (.inr rfl)
      intro j hj next2 ih2
      by_cases h3 : j < s.length
      · obtain ⟨hc3, hd3, hlt3⟩ := dropC h3
        by_cases b6 : s[j] = 10
        · have c6 := byteY 10 b6 (n := 10) rfl
          rcases hj with ⟨hj1, hj2, hj3⟩ | rfl
          · rw [hd3] at hj3
            simp only [skipN, b6, if_true] at hj3
            simp (maxSteps := 4000000) (disch := first | (intros; contradiction) | omega) only [go_sem, hc3, hlt3, c6]
            exact ih j _ ⟨by omega, by rw [hd3]; simp only [skipN, isBlank, b6]; simpa using hj3⟩ (by omega) (by simp (maxSteps := 4000000) (disch := first | (intros; contradiction) | omega) only [go_sem] <;> rfl)
          · exact absurd b6 b3
        · have c6 := byteN 10 b6 (n := 10) rfl
          simp (maxSteps := 4000000) (disch := first | (intros; contradiction) | omega) only [go_sem, hc3, hlt3, c6, wrap64]
          refine ih2 (j + 1) _ (.inl ⟨?_, by omega, ?_⟩) (by omega) (by simp (maxSteps := 4000000) (disch := first | (intros; contradiction) | omega) only [go_sem] <;> rfl)
          · rcases hj with ⟨hj1, _, _⟩ | rfl <;> omega
          · rcases hj with ⟨hj1, hj2, hj3⟩ | rfl
            · rw [hd3] at hj3
              simp only [skipN, b6, if_false] at hj3
              omega
            · omega
      · have hlt3 : ¬ (j : Int) < s.length := by omega
        simp (maxSteps := 4000000) (disch := first | (intros; contradiction) | omega) only [go_sem, hlt3]
        rcases hj with ⟨hj1, hj2, hj3⟩ | rfl
        · refine ih j _ ⟨hj2, ?_⟩ (by omega) (by simp (maxSteps := 4000000) (disch := first | (intros; contradiction) | omega) only [go_sem] <;> rfl)
          have he : j = s.length := by omega
          rw [he, List.drop_length] at hj3 ⊢
          simpa [skipN] using hj3
        · omega
    · rw [if_neg hcm] at hsk
      have hres : i = N := by omega
      rw [← hres]
      by_cases b4 : s[i] = 47
      · have c4 := byteY 47 b4 (n := 47) rfl
        by_cases h2 : i + 1 < s.length
        · obtain ⟨hc2, hd2, _⟩ := dropC h2
          have hlt2 : (i : Int) + 1 < s.length := by omega
          have ht : ((i : Int) + 1).toNat = i + 1 := by omega
          have h1 : (0 : Int) ≤ (i : Int) + 1 := by omega
          have c5 := byteN 47 (c := s[i + 1]) (n := 47) (fun e => hcm ⟨b4, by rw [hd2, e]; rfl⟩) rfl
          simp (maxSteps := 4000000) (disch := first | (intros; contradiction) | omega) only [go_sem, hc, hlt, hc2, hlt2, h1, ht, c4, c5, wrap64]
        · have hlt2 : ¬ (i : Int) + 1 < s.length := by omega
          simp (maxSteps := 4000000) (disch := first | (intros; contradiction) | omega) only [go_sem, hc, hlt, hlt2, c4, wrap64]
      · have c4 := byteN 47 b4 (n := 47) rfl
        by_cases h2 : i + 1 < s.length
        · have hlt2 : (i : Int) + 1 < s.length := by omega
          simp (maxSteps := 4000000) (disch := first | (intros; contradiction) | omega) only [go_sem, hc, hlt, c1, c2, c3, hlt2, c4, wrap64]
        · have hlt2 : ¬ (i : Int) + 1 < s.length := by omega
          simp (maxSteps := 4000000) (disch := first | (intros; contradiction) | omega) only [go_sem, hc, hlt, c1, c2, c3, hlt2, wrap64]
  · have hlt : ¬ (i : Int) < s.length := by omega
    have he : s.drop i = [] := List.drop_of_length_le (by omega)
    rw [he] at hN
    simp only [skipN, Nat.add_zero] at hN
    subst hN
    simp (maxSteps := 4000000) (disch := first | (intros; contradiction) | omega) only [go_sem, hlt]
theorem rplace_e (hx : TX ext) (s : List UInt8) (n : Nat) (hs : s.length ≤ 1048576) (hi : n ≤ s.length) : G ext 27 [.d (.str s), .d (.int .i64 n)] [] = some (.ret (.agg [.d (.int .i64 (adv (1, 1) (s.take n)).1), .d (.int .i64 (adv (1, 1) (s.take n)).2)]), []) := by
  rw [G_body hx.clear rfl Try.func27 rfl Try.results27 hv_27 rfl]
  simp (maxSteps := 4000000) (disch := first | (intros; contradiction) | omega) only [go_sem]
  generalize hL : loopA _ _ _ = L
  apply loop_post hL (fun i : Nat => i ≤ n) (fun i => n - i)
    (fun i => ⟨[(0, .d (.str s)), (1, .d (.int .i64 n)), (4, .ptr 0 0), (5, .ptr 1 0), (6, .d (.int .i64 i))], [], [.cells [.d (.int .i64 0), .d (.int .i64 0)], .cells [.d (.int .i64 (adv (1, 1) (s.take i)).1), .d (.int .i64 (adv (1, 1) (s.take i)).2)]]⟩)
    0 (by simp only [List.take_zero, adv, List.foldl_nil]; simp (maxSteps := 4000000) (disch := first | (intros; contradiction) | omega) only [go_sem]) (Nat.zero_le _)
  intro i hin next ih
  by_cases h : i < n
  · obtain ⟨hc, _, _⟩ := dropC (show i < s.length by omega)
    have hlt' : (i : Int) < n := by omega
    have hle := adv_le (1, 1) (s.take i) ⟨by simp, by simp⟩
    simp only [List.length_take, Nat.min_eq_left (show i ≤ s.length by omega)] at hle
    have hst : adv (1, 1) (s.take (i + 1)) = adv1 (adv (1, 1) (s.take i)) s[i] := by
      rw [List.take_add_one, hc, adv_append]; rfl
    by_cases b3 : s[i] = 10
    · have c3 := byteY 10 b3 (n := 10) rfl
      simp only [adv1, b3, if_true] at hst
      simp (maxSteps := 4000000) (disch := first | (intros; contradiction) | omega) only [go_sem, hc, hlt', c3, wrap64]
      exact ih (i + 1) _ (by omega) (by omega) (by simp only [hst]; simp (maxSteps := 4000000) (disch := first | (intros; contradiction) | omega) only [go_sem] <;> rfl)
    · have c3 := byteN 10 b3 (n := 10) rfl
      simp only [adv1, b3, if_false] at hst
      simp (maxSteps := 4000000) (disch := first | (intros; contradiction) | omega) only [go_sem, hc, hlt', c3, wrap64]
      exact ih (i + 1) _ (by omega) (by omega) (by simp only [hst]; simp (maxSteps := 4000000) (disch := first | (intros; contradiction) | omega) only [go_sem] <;> rfl)
  · have hlt : ¬ (i : Int) < n := by omega
    have he : i = n := by omega
    subst he
    simp (maxSteps := 4000000) (disch := first | (intros; contradiction) | omega) only [go_sem, hlt]
end Go.Proofs.Ytlcbnlfbbjmpbaa
namespace Go.Proofs.Ytlcbnlfbbjmpbaa
open Go Go.Ab
variable {ext : Sem'}
theorem rwords_e (hx : TX ext) : G ext 75 [] [] = some (.ret (.d (.sl (words.map fun x => [.str x]))), []) := by
  rw [G_body hx.clear rfl Try.func75 rfl Try.results75 hv_75 rfl]
  simp (maxSteps := 4000000) (disch := first | (intros; contradiction) | omega) only [go_sem]
  rfl
def signsL : List (List UInt8) := signs2 ++ signs1.map fun c => [c]
theorem rsigns_e (hx : TX ext) : G ext 50 [] [] = some (.ret (.d (.sl (signsL.map fun x => [.str x]))), []) := by
  rw [G_body hx.clear rfl Try.func50 rfl Try.results50 hv_50 rfl]
  simp (maxSteps := 4000000) (disch := first | (intros; contradiction) | omega) only [go_sem]
  rfl
theorem rword_e (hx : TX ext) (s : List UInt8) : G ext 49 [.d (.str s)] [] = some (.ret (.d (.bool (decide (s ∈ words)))), []) := by
  rw [G_body hx.clear rfl Try.func49 rfl Try.results49 hv_49 rfl]
  simp (maxSteps := 4000000) (disch := first | (intros; contradiction) | omega) only [go_sem, rwords_e hx]
  have hlen : words.length ≤ 13 := by decide
  generalize words = l at *
  generalize hL : loopA _ _ _ = L
  apply loop_post hL (fun k : Nat => k ≤ l.length ∧ (s ∈ l ↔ s ∈ l.drop k)) (fun k => l.length - k)
    (fun k => ⟨[(0, .d (.str s)), (2, .d (.bool false)), (3, .d (.sl (l.map fun x => [.str x]))), (4, .d (.int .i64 k))], [], []⟩)
    0 (by simp (maxSteps := 4000000) (disch := first | (intros; contradiction) | omega) only [go_sem] <;> rfl) ⟨Nat.zero_le _, by simp⟩
  intro k hk next ih
  by_cases h : k < l.length
  · have hc := strs_at l k h
    have h' : (k : Int) < l.length := by omega
    rw [List.drop_eq_getElem_cons h, List.mem_cons] at hk
    by_cases he : l[k] = s
    · have hr : s ∈ l := hk.2.2 (.inl he.symm)
      simp only [hr, decide_true]
      simp (maxSteps := 4000000) (disch := first | (intros; contradiction) | omega) only [go_sem, List.length_map, hc, h', he]
    · simp (maxSteps := 4000000) (disch := first | (intros; contradiction) | omega) only [go_sem, List.length_map, hc, h', he, wrap64]
      exact ih (k + 1) _ ⟨by omega, by rw [hk.2]; exact ⟨fun h => h.elim (fun e => absurd e.symm he) id, .inr⟩⟩ (by omega) (by simp (maxSteps := 4000000) (disch := first | (intros; contradiction) | omega) only [go_sem] <;> rfl)
  · have h' : ¬ (k : Int) < l.length := by omega
    have hke : k = l.length := by omega
    subst hke
    rw [List.drop_length] at hk
    have hr : ¬ s ∈ l := fun h => by have := hk.2.1 h; simp at this
    simp only [hr, decide_false]
    simp (maxSteps := 4000000) (disch := first | (intros; contradiction) | omega) only [go_sem, List.length_map, h']
set_option maxHeartbeats 4000000 in
theorem rone1_e (hx : TX ext) (s : List UInt8) (i : Nat) (hs : s.length ≤ 1048576) (c : UInt8) (hc : s[i]? = some c) (h1 : isLetter c = true) : G ext 28 [.d (.str s), .d (.int .i64 i)] [] = 
    some (.ret (.tuple [tokA (if (s.drop i).take (spanL isInner (s.drop i)) ∈ words then 2 else 1) ((s.drop i).take (spanL isInner (s.drop i))) 0 (0, 0), .d (.int .i64 (if 40 < spanL isInner (s.drop i) then 2 else 0))]), []) := by
  rw [G_body hx.clear rfl Try.func28 rfl Try.results28 hv_28 rfl]
  have hi : i < s.length := (List.getElem?_eq_some_iff.1 hc).1
  simp (maxSteps := 4000000) (disch := first | (intros; contradiction) | omega) only [go_sem, hc, h1, rletter_e hx]
  generalize hL : loopA _ _ _ = L
  generalize hn : spanL isInner (s.drop i) = n
  apply loop_post hL (fun k : Nat => i ≤ k ∧ k ≤ s.length ∧ k + spanL isInner (s.drop k) = i + n) (fun k => s.length - k)
    (fun k => ⟨[(0, .d (.str s)), (1, .d (.int .i64 i)), (4, .ptr 0 0), (5, .d (.int .i64 0)), (6, .d (.int .i64 k)), (7, .tuple []), (8, .tuple []), (9, .tuple []), (10, .tuple []), (11, .tuple [])], [], [.cells [.d (.int .i64 0), .d (.str []), .d (.int .i64 0), .d (.int .i64 0), .d (.int .i64 0)]]⟩)
    i (by simp (maxSteps := 4000000) (disch := first | (intros; contradiction) | omega) only [go_sem] <;> rfl) ⟨by omega, by omega, by omega⟩
  clear hL
  rintro k ⟨k1, k2, k3⟩ next ih
  have hcase : (∃ h : k < s.length, s[k]? = some s[k] ∧ (k : Int) < s.length ∧ (isLetter s[k] = true ∨ isLetter s[k] = false ∧ isDigit s[k] = true) ∧ k + 1 + spanL isInner (s.drop (k + 1)) = i + n) ∨ k - i = n ∧ ((∃ h : k < s.length, s[k]? = some s[k] ∧ (k : Int) < s.length ∧ isLetter s[k] = false ∧ isDigit s[k] = false) ∨ ¬ (k : Int) < s.length) := by
    by_cases h : k < s.length
    · obtain ⟨hck, hd, hlt⟩ := dropC h
      have hsp := spanL_drop (p := isInner) h
      have hin : isInner s[k] = (isLetter s[k] || isDigit s[k]) := rfl
      cases ha : isLetter s[k] <;> cases hb : isDigit s[k] <;> rw [hin, ha, hb] at hsp <;> simp at hsp
      · exact .inr ⟨by omega, .inl ⟨h, hck, hlt, ha, hb⟩⟩
      · exact .inl ⟨h, hck, hlt, .inr ⟨ha, hb⟩, by omega⟩
      · exact .inl ⟨h, hck, hlt, .inl ha, by omega⟩
      · exact .inl ⟨h, hck, hlt, .inl ha, by omega⟩
    · rw [List.drop_of_length_le (by omega)] at k3
      simp only [spanL] at k3
      exact .inr ⟨by omega, .inr (by omega)⟩
  have q1 : (i : Int) ≤ k := by omega
  have q2 : (k : Int) ≤ s.length := by omega
  rcases hcase with ⟨h, hck, hlt, ha | ⟨ha, hb⟩, hk⟩ | ⟨hk, hcase⟩
  · simp (maxSteps := 4000000) (disch := first | (intros; contradiction) | omega) only [go_sem, hck, hlt, rletter_e hx, ha, wrap64]
    exact ih (k + 1) _ ⟨by omega, by omega, hk⟩ (by omega) (by simp (maxSteps := 4000000) (disch := first | (intros; contradiction) | omega) only [go_sem] <;> rfl)
  · simp (maxSteps := 4000000) (disch := first | (intros; contradiction) | omega) only [go_sem, hck, hlt, rletter_e hx, ha, rdigit_e hx, hb, wrap64]
    exact ih (k + 1) _ ⟨by omega, by omega, hk⟩ (by omega) (by simp (maxSteps := 4000000) (disch := first | (intros; contradiction) | omega) only [go_sem] <;> rfl)
  · clear k3 ih
    have q3 : (k : Int) - i = n := by omega
    simp only [tokA]
    by_cases hw : (s.drop i).take n ∈ words <;> by_cases hg : 40 < n
    all_goals
      simp only [hw, hg, if_true, if_false]
    · have hg' : (40 : Int) < n := by omega
      rcases hcase with ⟨h, hck, hlt, ha, hb⟩ | hlt
      · simp (maxSteps := 4000000) (disch := first | (intros; contradiction) | omega) only [go_sem, hck, hlt, rletter_e hx, ha, rdigit_e hx, hb, q1, q2, hk, q3, hg', rword_e hx, hw, wrap64]
      · simp (maxSteps := 4000000) (disch := first | (intros; contradiction) | omega) only [go_sem, hlt, q1, q2, hk, q3, hg', rword_e hx, hw, wrap64]
    · have hg' : ¬ (40 : Int) < n := by omega
      rcases hcase with ⟨h, hck, hlt, ha, hb⟩ | hlt
      · simp (maxSteps := 4000000) (disch := first | (intros; contradiction) | omega) only [go_sem, hck, hlt, rletter_e hx, ha, rdigit_e hx, hb, q1, q2, hk, q3, hg', rword_e hx, hw, wrap64]
      · simp (maxSteps := 4000000) (disch := first | (intros; contradiction) | omega) only [go_sem, hlt, q1, q2, hk, q3, hg', rword_e hx, hw, wrap64]
    · have hg' : (40 : Int) < n := by omega
      rcases hcase with ⟨h, hck, hlt, ha, hb⟩ | hlt
      · simp (maxSteps := 4000000) (disch := first | (intros; contradiction) | omega) only [go_sem, hck, hlt, rletter_e hx, ha, rdigit_e hx, hb, q1, q2, hk, q3, hg', rword_e hx, hw, wrap64]
      · simp (maxSteps := 4000000) (disch := first | (intros; contradiction) | omega) only [go_sem, hlt, q1, q2, hk, q3, hg', rword_e hx, hw, wrap64]
    · have hg' : ¬ (40 : Int) < n := by omega
      rcases hcase with ⟨h, hck, hlt, ha, hb⟩ | hlt
      · simp (maxSteps := 4000000) (disch := first | (intros; contradiction) | omega) only [go_sem, hck, hlt, rletter_e hx, ha, rdigit_e hx, hb, q1, q2, hk, q3, hg', rword_e hx, hw, wrap64]
      · simp (maxSteps := 4000000) (disch := first | (intros; contradiction) | omega) only [go_sem, hlt, q1, q2, hk, q3, hg', rword_e hx, hw, wrap64]
end Go.Proofs.Ytlcbnlfbbjmpbaa
namespace Go.Proofs.Ytlcbnlfbbjmpbaa
open Go Go.Ab
variable {ext : Sem'}
def capV (l : List UInt8) : Int := if (1099511627776 : Int) < (natVal l : Nat) then 1099511627776 else (natVal l : Nat)
theorem capV_step {l : List UInt8} {m : Nat} {c : UInt8} (h : l[m]? = some c) (hd : isDigit c = true) :
    ((1099511627776 : Int) < capV (l.take m) * 10 + ((c.toNat : Int) - 48) ∧ capV (l.take (m + 1)) = 1099511627776 ∨ ¬ (1099511627776 : Int) < capV (l.take m) * 10 + ((c.toNat : Int) - 48) ∧ capV (l.take (m + 1)) = capV (l.take m) * 10 + ((c.toNat : Int) - 48)) ∧ 48 ≤ (c.toNat : Int) ∧ (c.toNat : Int) ≤ 57 ∧ 0 ≤ capV (l.take m) ∧ capV (l.take m) ≤ 1099511627776 := by
  have hb : 48 ≤ c.toNat ∧ c.toNat ≤ 57 := by
    have := byte_all (p := fun c => !isDigit c || (decide (48 ≤ c.toNat) && decide (c.toNat ≤ 57))) (by decide +kernel) c
    rw [hd] at this
    simpa using this
  obtain ⟨hm, rfl⟩ := List.getElem?_eq_some_iff.1 h
  have := natVal_take hm
  unfold capV
  rw [this]
  refine ⟨?_, by omega, by omega, by split <;> omega, by split <;> omega⟩
  split <;> split <;> omega
set_option maxHeartbeats 4000000 in
theorem rone2_e (hx : TX ext) (s : List UInt8) (i : Nat) (hs : s.length ≤ 1048576) (c : UInt8) (hc : s[i]? = some c) (h1 : isLetter c = false) (h2 : isDigit c = true) : G ext 28 [.d (.str s), .d (.int .i64 i)] [] = 
    some (.ret (.tuple [tokA 3 ((s.drop i).take (spanL isDigit (s.drop i))) (capV ((s.drop i).take (spanL isDigit (s.drop i)))) (0, 0), .d (.int .i64 (if oddNum (s.drop i) (spanL isDigit (s.drop i)) then 3 else if 2147483647 < capV ((s.drop i).take (spanL isDigit (s.drop i))) then 2 else 0))]), []) := by
  rw [G_body hx.clear rfl Try.func28 rfl Try.results28 hv_28 rfl]
  have hi : i < s.length := (List.getElem?_eq_some_iff.1 hc).1
  simp (maxSteps := 4000000) (disch := first | (intros; contradiction) | omega) only [go_sem, hc, h1, h2, rletter_e hx, rdigit_e hx]
  generalize hL : loopA _ _ _ = L
  generalize hn : spanL isDigit (s.drop i) = n
  apply loop_post hL (fun m : Nat => i + m ≤ s.length ∧ m + spanL isDigit ((s.drop i).drop m) = n) (fun m => s.length - m)
    (fun m => ⟨[(0, .d (.str s)), (1, .d (.int .i64 i)), (4, .ptr 0 0), (5, .d (.int .i64 0)), (6, .d (.int .i64 (i + m : Nat))), (7, .tuple []), (8, .d (.int .i64 (capV ((s.drop i).take m)))), (9, .tuple []), (10, .tuple []), (11, .tuple [])], [], [.cells [.d (.int .i64 0), .d (.str []), .d (.int .i64 0), .d (.int .i64 0), .d (.int .i64 0)]]⟩)
    0 (by simp (maxSteps := 4000000) (disch := first | (intros; contradiction) | omega) only [go_sem] <;> rfl) ⟨by omega, by simpa using hn⟩
  clear hL
  rintro m ⟨k2, k3⟩ next ih
  have hat : (s.drop i)[m]? = s[i + m]? := by rw [List.getElem?_drop]
  have hcase : (∃ d, s[i + m]? = some d ∧ ((i + m : Nat) : Int) < s.length ∧ isDigit d = true ∧ i + (m + 1) ≤ s.length ∧ m + 1 + spanL isDigit ((s.drop i).drop (m + 1)) = n) ∨ m = n ∧ ((∃ d, s[i + m]? = some d ∧ ((i + m : Nat) : Int) < s.length ∧ isDigit d = false ∧ letterAt (s.drop i) n = isLetter d) ∨ ¬ ((i + m : Nat) : Int) < s.length ∧ letterAt (s.drop i) n = false) := by
    by_cases h : i + m < s.length
    · have hc2 : s[i + m]? = some s[i + m] := List.getElem?_eq_getElem h
      have hsp := spanL_drop (p := isDigit) (l := s.drop i) (i := m) (by simp; omega)
      simp only [List.getElem_drop] at hsp
      cases hb : isDigit s[i + m] <;> rw [hb] at hsp <;> simp at hsp
      · refine .inr ⟨by simp at k3; omega, .inl ⟨_, hc2, by omega, hb, ?_⟩⟩
        have hmn : m = n := by simp at k3; omega
        unfold letterAt
        rw [← hmn, hat, hc2]
      · refine .inl ⟨_, hc2, by omega, hb, by omega, ?_⟩
        simp at k3 ⊢
        omega
    · have he : (s.drop i).drop m = [] := List.drop_of_length_le (by simp; omega)
      rw [he] at k3
      simp only [spanL, Nat.add_zero] at k3
      refine .inr ⟨k3, .inr ⟨by omega, ?_⟩⟩
      unfold letterAt
      rw [← k3, hat, List.getElem?_eq_none (by omega)]
  rcases hcase with ⟨d, hd, hlt, hdg, hle, hk⟩ | ⟨hk, hcase⟩
  · obtain ⟨hst, hd1, hd2, hd3, hd4⟩ := capV_step (hat.trans hd) hdg
    rcases hst with ⟨hs1, hs2⟩ | ⟨hs1, hs2⟩
    · simp (maxSteps := 4000000) (disch := first | (intros; contradiction) | omega) only [go_sem, hd, hlt, rdigit_e hx, hdg, wrapu8, wrap64, hs1]
      exact ih (m + 1) _ ⟨by omega, hk⟩ (by omega) (by simp (maxSteps := 4000000) (disch := first | (intros; contradiction) | omega) only [go_sem, hs2] <;> rfl)
    · simp (maxSteps := 4000000) (disch := first | (intros; contradiction) | omega) only [go_sem, hd, hlt, rdigit_e hx, hdg, wrapu8, wrap64, hs1]
      exact ih (m + 1) _ ⟨by omega, hk⟩ (by omega) (by simp (maxSteps := 4000000) (disch := first | (intros; contradiction) | omega) only [go_sem, hs2] <;> rfl)
  · clear k3 ih
    subst hk
    have q1 : (i : Int) ≤ ((i + m : Nat) : Int) := by omega
    have q2 : ((i + m : Nat) : Int) ≤ s.length := by omega
    have q3 : ((i + m : Nat) : Int) - i = m := by omega
    have q4 : i + m - i = m := by omega
    have hl0 : (s.drop i)[0]? = some c := by rw [List.getElem?_drop]; simpa using hc
    have hodd : oddNum (s.drop i) m = ((decide (c = 48) && decide (1 < m)) || letterAt (s.drop i) m) := by
      unfold oddNum
      rw [hl0]
      simp
    generalize hv : capV ((s.drop i).take m) = v
    simp only [tokA, hodd]
    have hw : -9223372036854775808 ≤ v ∧ v ≤ 9223372036854775807 := by rw [← hv]; unfold capV; split <;> omega
    have hl : ∀ b : Bool, (decide (c = 48) && decide (1 < m)) = false → ((decide (c = 48) && decide (1 < m)) || b) = b := by intro b e; rw [e]; rfl
    by_cases b1 : c = 48 ∧ 1 < m
    · have c1 := byteY 48 b1.1 (n := 48) rfl
      have c2 : (1 : Int) < m := by omega
      have hT : ((decide (c = 48) && decide (1 < m)) || letterAt (s.drop i) m) = true := by simp [b1.1, b1.2]
      rw [hT, if_pos rfl]
      rcases hcase with ⟨d, hd, hlt, hdg, hla⟩ | ⟨hlt, hla⟩
      · simp (maxSteps := 4000000) (disch := first | (intros; contradiction) | omega) only [go_sem, hc, c1, hd, hlt, rdigit_e hx, hdg, q1, q2, q3, q4, c2, wrap64]
      · simp (maxSteps := 4000000) (disch := first | (intros; contradiction) | omega) only [go_sem, hc, c1, hlt, q1, q2, q3, q4, c2, wrap64]
    · rw [hl _ (by simp only [Bool.and_eq_false_iff, decide_eq_false_iff_not]; exact Decidable.not_and_iff_or_not.1 b1)]
      have hb : (¬ (c.toNat : Int) = 48) ∨ (c.toNat : Int) = 48 ∧ ¬ (1 : Int) < m := by
        by_cases e : c = 48
        · exact .inr ⟨byteY 48 e rfl, fun h => b1 ⟨e, by omega⟩⟩
        · exact .inl (byteN 48 e rfl)
      rcases hcase with ⟨d, hd, hlt, hdg, hla⟩ | ⟨hlt, hla⟩
      · rw [hla]
        cases hld : isLetter d with
        | true =>
          rw [if_pos rfl]
          rcases hb with c1 | ⟨c1, c2⟩
          · simp (maxSteps := 4000000) (disch := first | (intros; contradiction) | omega) only [go_sem, hc, c1, hd, hlt, rdigit_e hx, hdg, q1, q2, q4, rletter_e hx, hld]
          · simp (maxSteps := 4000000) (disch := first | (intros; contradiction) | omega) only [go_sem, hc, c1, c2, hd, hlt, rdigit_e hx, hdg, q1, q2, q3, q4, rletter_e hx, hld, wrap64]
        | false =>
          rw [if_neg (by simp)]
          by_cases hbig : 2147483647 < v
          · rw [if_pos hbig]
            rcases hb with c1 | ⟨c1, c2⟩
            · simp (maxSteps := 4000000) (disch := first | (intros; contradiction) | omega) only [go_sem, hc, c1, hd, hlt, rdigit_e hx, hdg, q1, q2, q4, rletter_e hx, hld, hbig]
            · simp (maxSteps := 4000000) (disch := first | (intros; contradiction) | omega) only [go_sem, hc, c1, c2, hd, hlt, rdigit_e hx, hdg, q1, q2, q3, q4, rletter_e hx, hld, hbig, wrap64]
          · rw [if_neg hbig]
            rcases hb with c1 | ⟨c1, c2⟩
            · simp (maxSteps := 4000000) (disch := first | (intros; contradiction) | omega) only [go_sem, hc, c1, hd, hlt, rdigit_e hx, hdg, q1, q2, q4, rletter_e hx, hld, hbig]
            · simp (maxSteps := 4000000) (disch := first | (intros; contradiction) | omega) only [go_sem, hc, c1, c2, hd, hlt, rdigit_e hx, hdg, q1, q2, q3, q4, rletter_e hx, hld, hbig, wrap64]
      · rw [hla, if_neg (by simp)]
        by_cases hbig : 2147483647 < v
        · rw [if_pos hbig]
          rcases hb with c1 | ⟨c1, c2⟩
          · simp (maxSteps := 4000000) (disch := first | (intros; contradiction) | omega) only [go_sem, hc, c1, hlt, q1, q2, q4, hbig]
          · simp (maxSteps := 4000000) (disch := first | (intros; contradiction) | omega) only [go_sem, hc, c1, c2, hlt, q1, q2, q3, q4, hbig, wrap64]
        · rw [if_neg hbig]
          rcases hb with c1 | ⟨c1, c2⟩
          · simp (maxSteps := 4000000) (disch := first | (intros; contradiction) | omega) only [go_sem, hc, c1, hlt, q1, q2, q4, hbig]
          · simp (maxSteps := 4000000) (disch := first | (intros; contradiction) | omega) only [go_sem, hc, c1, c2, hlt, q1, q2, q3, q4, hbig, wrap64]
/-- The first of texts with which one begins. -/
def fs (l : List UInt8) : List (List UInt8) → Option (List UInt8)
  | [] => none
  | x :: xs => if x.length ≤ l.length ∧ l.take x.length = x then some x else fs l xs
theorem fs_append (l : List UInt8) (A B : List (List UInt8)) : fs l (A ++ B) = (fs l A).or (fs l B) := by
  induction A with
  | nil => rfl
  | cons x A ih =>
    simp only [List.cons_append, fs]
    split
    · rfl
    · exact ih
theorem fs_two (l : List UInt8) (A : List (List UInt8)) (h : ∀ x, x ∈ A → x.length = 2) : fs l A = if 1 < l.length ∧ l.take 2 ∈ A then some (l.take 2) else none := by
  induction A with
  | nil => simp [fs]
  | cons x A ih =>
    have hx := h x (by simp)
    simp only [fs, hx, ih (fun y hy => h y (by simp [hy]))]
    by_cases h1 : 2 ≤ l.length ∧ l.take 2 = x
    · rw [if_pos h1, if_pos ⟨by omega, by simp [h1.2]⟩, h1.2]
    · rw [if_neg h1]
      by_cases h2 : 1 < l.length ∧ l.take 2 ∈ A
      · rw [if_pos h2, if_pos ⟨h2.1, by simp [h2.2]⟩]
      · rw [if_neg h2, if_neg]
        rintro ⟨h3, h4⟩
        rcases List.mem_cons.1 h4 with e | e
        · exact h1 ⟨by omega, e⟩
        · exact h2 ⟨h3, e⟩
theorem fs_one (c : UInt8) (t : List UInt8) (A : List UInt8) : fs (c :: t) (A.map fun c => [c]) = if c ∈ A then some [c] else none := by
  induction A with
  | nil => simp [fs]
  | cons x A ih =>
    simp only [List.map_cons, fs, ih, List.length_cons, List.length_nil, List.take_succ_cons, List.take_zero, List.cons.injEq, and_true, List.mem_cons]
    by_cases h1 : c = x
    · simp [h1]
    · by_cases h2 : c ∈ A <;> simp [h1, h2]
theorem fs_sign (c : UInt8) (t : List UInt8) : match fs (c :: t) signsL with
    | some x => signR (c :: t) = .tok 4 x.length 0 ∧ x = (c :: t).take x.length
    | none => signR (c :: t) = .bad 3 := by
  unfold signsL
  rw [fs_append, fs_two _ signs2 (by decide), fs_one]
  unfold signR
  by_cases h1 : 1 < (c :: t).length ∧ (c :: t).take 2 ∈ signs2
  · rw [if_pos h1]
    simp only [Option.some_or]
    rw [if_pos h1]
    have hl : ((c :: t).take 2).length = 2 := by rw [List.length_take]; omega
    rw [hl]
    exact ⟨rfl, rfl⟩
  · rw [if_neg h1, if_neg h1, Option.none_or]
    by_cases h2 : c ∈ signs1
    · rw [if_pos h2, if_pos (by simp [oneSign, h2])]
      simp
    · rw [if_neg h2, if_neg (by simp [oneSign, h2])]
set_option maxHeartbeats 4000000 in
theorem rone3_e (hx : TX ext) (s : List UInt8) (i : Nat) (hs : s.length ≤ 1048576) (c : UInt8) (hc : s[i]? = some c) (h1 : isLetter c = false) (h2 : isDigit c = false) : G ext 28 [.d (.str s), .d (.int .i64 i)] [] = some (match fs (s.drop i) signsL with
      | some x => (.ret (.tuple [tokA 4 x 0 (0, 0), .d (.int .i64 0)]), [])
      | none => (.ret (.tuple [tokA 0 [] 0 (0, 0), .d (.int .i64 3)]), [])) := by
  rw [G_body hx.clear rfl Try.func28 rfl Try.results28 hv_28 rfl]
  have hi : i < s.length := (List.getElem?_eq_some_iff.1 hc).1
  simp (maxSteps := 4000000) (disch := first | (intros; contradiction) | omega) only [go_sem, hc, h1, h2, rletter_e hx, rdigit_e hx, rsigns_e hx]
  generalize hL : loopA _ _ _ = L
  have hlen : signsL.length ≤ 20 := by decide
  have hlen2 : ∀ x, x ∈ signsL → x.length ≤ 2 := by decide
  generalize signsL = A at *
  apply loop_post hL (fun j : Nat => j ≤ A.length ∧ fs (s.drop i) A = fs (s.drop i) (A.drop j)) (fun j => A.length - j)
    (fun j => ⟨[(0, .d (.str s)), (1, .d (.int .i64 i)), (4, .ptr 0 0), (5, .d (.int .i64 0)), (6, .d (.int .i64 i)), (7, .tuple []), (8, .tuple []), (9, .tuple []), (10, .d (.sl (A.map fun x => [.str x]))), (11, .d (.int .i64 j))], [], [.cells [.d (.int .i64 0), .d (.str []), .d (.int .i64 0), .d (.int .i64 0), .d (.int .i64 0)]]⟩)
    0 (by simp (maxSteps := 4000000) (disch := first | (intros; contradiction) | omega) only [go_sem] <;> rfl) ⟨Nat.zero_le _, by simp⟩
  clear hL
  rintro j ⟨hj, hf⟩ next ih
  have q0 : (s.length : Int) - i = (s.length - i : Nat) := by omega
  by_cases h : j < A.length
  · have hcj := strs_at A j h
    have h' : (j : Int) < A.length := by omega
    have hl2 := hlen2 A[j] (List.getElem_mem h)
    rw [List.drop_eq_getElem_cons h] at hf
    simp only [fs, List.length_drop] at hf
    generalize A[j] = x at *
    by_cases e1 : x.length ≤ s.length - i
    · have e1' : (x.length : Int) ≤ ((s.length - i : Nat) : Int) := by omega
      have q1 : (i : Int) ≤ (i : Int) + x.length := by omega
      have q2 : (i : Int) + x.length ≤ s.length := by omega
      have q3 : 0 ≤ (i : Int) + x.length := by omega
      have q4 : ((i : Int) + x.length).toNat = i + x.length := by omega
      have q5 : i + x.length - i = x.length := by omega
      by_cases e2 : (s.drop i).take x.length = x
      · rw [if_pos ⟨e1, e2⟩] at hf
        rw [hf]
        simp only [tokA]
        simp (maxSteps := 4000000) (disch := first | (intros; contradiction) | omega) only [go_sem, List.length_map, hcj, h', q0, e1', q1, q2, q4, q5, e2, wrap64]
        trace_state
        done
      · rw [if_neg (fun h => e2 h.2)] at hf
        simp (maxSteps := 4000000) (disch := first | (intros; contradiction) | omega) only [go_sem, List.length_map, hcj, h', q0, e1', q1, q2, q4, q5, e2, wrap64]
        exact ih (j + 1) _ ⟨by omega, hf⟩ (by omega) (by simp (maxSteps := 4000000) (disch := first | (intros; contradiction) | omega) only [go_sem] <;> rfl)
    · have e1' : ¬ (x.length : Int) ≤ ((s.length - i : Nat) : Int) := by omega
      rw [if_neg (fun h => e1 h.1)] at hf
      simp (maxSteps := 4000000) (disch := first | (intros; contradiction) | omega) only [go_sem, List.length_map, hcj, h', q0, e1', wrap64]
      exact ih (j + 1) _ ⟨by omega, hf⟩ (by omega) (by simp (maxSteps := 4000000) (disch := first | (intros; contradiction) | omega) only [go_sem] <;> rfl)
  · have h' : ¬ (j : Int) < A.length := by omega
    have he : A.drop j = [] := List.drop_of_length_le (by omega)
    rw [he] at hf
    simp only [fs] at hf
    rw [hf]
    simp only [tokA]
    simp (maxSteps := 4000000) (disch := first | (intros; contradiction) | omega) only [go_sem, List.length_map, h']
end Go.Proofs.Ytlcbnlfbbjmpbaa
namespace Go.Proofs.Ytlcbnlfbbjmpbaa
open Go Go.Ab
variable {ext : Sem'}
/-- One token of the document, of what follows. -/
theorem rone_e (hx : TX ext) (s : List UInt8) (i : Nat) (hs : s.length ≤ 1048576) (hi : i < s.length) : ∃ k t v f, G ext 28 [.d (.str s), .d (.int .i64 i)] [] = some (.ret (.tuple [tokA k t v (0, 0), .d (.int .i64 f)]), []) ∧ match lexR (s.drop i) with
    | .bad f' => f = f'
    | .tok k' n v' => f = 0 ∧ k = k' ∧ v = v' ∧ t = (s.drop i).take n := by
  obtain ⟨hc, hd, _⟩ := dropC hi
  cases h1 : isLetter s[i] with
  | true =>
    have h := rone1_e hx s i hs _ hc h1
    refine ⟨_, _, _, _, h, ?_⟩
    have hl : lexR (s.drop i) = wordR (s.drop i) := by rw [hd]; simp only [lexR, h1, if_true]
    rw [hl]
    unfold wordR
    by_cases h40 : 40 < spanL isInner (s.drop i)
    · simp [h40]
    · simp [h40]
  | false =>
    cases h2 : isDigit s[i] with
    | true =>
      have h := rone2_e hx s i hs _ hc h1 h2
      refine ⟨_, _, _, _, h, ?_⟩
      have hl : lexR (s.drop i) = numberR (s.drop i) := by rw [hd]; simp [lexR, h1, h2]
      rw [hl]
      unfold numberR
      generalize spanL isDigit (s.drop i) = n
      have hcap : (2147483647 < capV ((s.drop i).take n) ↔ 2147483647 < natVal ((s.drop i).take n)) ∧ (¬ 2147483647 < natVal ((s.drop i).take n) → capV ((s.drop i).take n) = (natVal ((s.drop i).take n) : Nat)) := by
        unfold capV
        split <;> omega
      by_cases ho : oddNum (s.drop i) n = true
      · simp [ho]
      · by_cases hb : 2147483647 < natVal ((s.drop i).take n)
        · simp [ho, hb, hcap.1.2 hb]
        · simp [ho, hb, hcap.2 hb]; omega
    | false =>
      have h := rone3_e hx s i hs _ hc h1 h2
      have hl : lexR (s.drop i) = signR (s.drop i) := by rw [hd]; simp [lexR, h1, h2]
      rw [hl]
      have hf := fs_sign s[i] (s.drop (i + 1))
      rw [← hd] at hf
      cases hfs : fs (s.drop i) signsL with
      | none =>
        rw [hfs] at h hf
        simp only at hf
        exact ⟨_, _, _, _, h, by rw [hf]⟩
      | some x =>
        rw [hfs] at h hf
        simp only at hf
        exact ⟨_, _, _, _, h, by rw [hf.1]; exact ⟨rfl, rfl, rfl, hf.2⟩⟩
/-- What the iterator gives from there on, behind blanks. -/
def eachG (g : Nat) (l : List UInt8) (p : Int × Int) : List (Tok × Dg) :=
  match lexR l with
  | .bad f => [(Tok.zero, ⟨1, f, p⟩)]
  | .tok k n v => (⟨k, l.take n, v, p⟩, Dg.zero) :: if k = 5 then [] else eachF g (l.drop n) (adv p (l.take n))
theorem eachF_succ (g : Nat) (l : List UInt8) (p : Int × Int) : eachF (g + 1) l p = eachG g (l.drop (skipN false l)) (adv p (l.take (skipN false l))) := rfl
theorem adv_rel (p : Int × Int) (l : List UInt8) : 1 ≤ (adv (1, 1) l).1 ∧ 1 ≤ (adv (1, 1) l).2 ∧ adv p l = if 1 < (adv (1, 1) l).1 then (p.1 + (adv (1, 1) l).1 - 1, (adv (1, 1) l).2) else (p.1, p.2 + (adv (1, 1) l).2 - 1) := by
  have key : ∀ (l : List UInt8) (q : Int × Int), 1 ≤ q.1 → 1 ≤ q.2 → 1 ≤ (adv q l).1 ∧ 1 ≤ (adv q l).2 ∧ ∀ p0 : Int × Int, adv (if 1 < q.1 then (p0.1 + q.1 - 1, q.2) else (p0.1, p0.2 + q.2 - 1)) l = if 1 < (adv q l).1 then (p0.1 + (adv q l).1 - 1, (adv q l).2) else (p0.1, p0.2 + (adv q l).2 - 1) := by
    intro l
    induction l with
    | nil => intro q h1 h2; exact ⟨h1, h2, fun _ => rfl⟩
    | cons c l ih =>
      intro q h1 h2
      have e : ∀ q, adv q (c :: l) = adv (adv1 q c) l := fun _ => rfl
      simp only [e]
      have h := ih (adv1 q c) (by unfold adv1; split <;> simp <;> omega) (by unfold adv1; split <;> simp <;> omega)
      refine ⟨h.1, h.2.1, fun p0 => ?_⟩
      rw [← h.2.2 p0]
      congr 1
      unfold adv1
      by_cases hc : c = 10
      · simp only [hc, if_true]
        split
        · rw [if_pos (by omega)]; simp; omega
        · rw [if_pos (by omega)]; simp; omega
      · simp only [hc, if_false]
        split
        · rfl
        · simp; omega
  have h := key l (1, 1) (by simp) (by simp)
  refine ⟨h.1, h.2.1, ?_⟩
  have := h.2.2 p
  simp only [Int.lt_irrefl, if_false] at this
  rw [← this]
  congr 1
  obtain ⟨a, b⟩ := p
  simp
def refR (l : List (Tok × Dg)) : List Tok × Dg := ((l.filter fun x => decide (x.2.what = 0)).map (·.1), (firstBad l).getD Dg.zero)
theorem refR_good (ts : List Tok) : refR (ts.map fun t => (t, Dg.zero)) = (ts, Dg.zero) := by
  have h : ∀ x, x ∈ ts.map (fun t => (t, Dg.zero)) → x.2 = Dg.zero := by
    intro x hx; obtain ⟨t, _, rfl⟩ := List.mem_map.1 hx; rfl
  unfold refR firstBad
  rw [List.filter_eq_self.2 (fun x hx => by rw [h x hx]; rfl), List.find?_eq_none.2 (fun x hx => by rw [h x hx]; simp [Dg.zero])]
  simp [Function.comp_def]
theorem refR_bad (ts : List Tok) {t : Tok} {d : Dg} (hd : d.what ≠ 0) : refR (ts.map (fun t => (t, Dg.zero)) ++ [(t, d)]) = (ts, d) := by
  have h : ∀ x, x ∈ ts.map (fun t => (t, Dg.zero)) → x.2 = Dg.zero := by
    intro x hx; obtain ⟨t, _, rfl⟩ := List.mem_map.1 hx; rfl
  unfold refR firstBad
  rw [List.filter_append, List.filter_eq_self.2 (fun x hx => by rw [h x hx]; rfl), List.find?_append, List.find?_eq_none.2 (fun x hx => by rw [h x hx]; simp [Dg.zero])]
  simp [Function.comp_def, hd]
theorem rowsT_snoc (ts : List Tok) (t : Tok) : rowsT (ts ++ [t]) = rowsT ts ++ [[.int .i64 t.kind, .str t.text, .int .i64 t.num, .int .i64 t.pos.1, .int .i64 t.pos.2]] := by unfold rowsT; rw [List.map_append]; rfl
set_option maxHeartbeats 4000000 in
theorem rscan_e (hx : TX ext) (s : List UInt8) (hs : s.length ≤ 3000) : G ext 11 [.d (.str s)] [] = some (.ret (.tuple [.d (.sl (rowsT (refR (eachL s)).1)), (refR (eachL s)).2.av]), []) := by
  rw [G_body hx.clear rfl Try.func11 rfl Try.results11 hv_11 rfl]
  have hlt : ¬ (1048576 : Int) < s.length := by omega
  have h1 := rskip_e hx s 0 (by omega) (by omega)
  have hsk0 := skipN_le false s
  have h2 := rplace_e hx s (0 + skipN false (s.drop 0)) (by omega) (by simpa using hsk0)
  simp only [List.drop_zero, Nat.zero_add, Int.natCast_zero] at h1 h2
  simp (maxSteps := 4000000) (disch := first | (intros; contradiction) | omega) only [go_sem, hlt, h1, h2]
  have hadv0 := adv_le (1, 1) (s.take (skipN false s)) ⟨by simp, by simp⟩
  rw [List.length_take, Nat.min_eq_left hsk0] at hadv0
  generalize hL : loopA _ _ _ = L
  apply loop_post hL (fun x : Nat × List Tok × Nat × (Int × Int) => x.1 ≤ s.length ∧ x.2.1.length ≤ x.1 ∧ eachL s = x.2.1.map (fun t => (t, Dg.zero)) ++ eachG x.2.2.1 (s.drop x.1) x.2.2.2 ∧ s.length ≤ x.1 + x.2.2.1 ∧ 1 ≤ x.2.2.2.1 ∧ x.2.2.2.1 ≤ 1 + x.1 ∧ 1 ≤ x.2.2.2.2 ∧ x.2.2.2.2 ≤ 1 + x.1) (fun x => s.length - x.1)
    (fun x => ⟨[(0, .d (.str s)), (2, .grow 0 0 []), (3, .ptr 1 0), (4, .grow 2 x.2.1.length (rowsT x.2.1)), (5, .d (.int .i64 x.1)), (6, .ptr 3 0), (7, .any), (8, .any), (9, .any), (10, .any)], [], [.grow 0 5, .cells [.d (.int .i64 0), .d (.int .i64 0), .d (.int .i64 0), .d (.int .i64 0)], .grow x.2.1.length 5, .cells [.d (.int .i64 x.2.2.2.1), .d (.int .i64 x.2.2.2.2)]]⟩)
    (skipN false s, [], s.length, adv (1, 1) (s.take (skipN false s))) (by simp (maxSteps := 4000000) (disch := first | (intros; contradiction) | omega) only [go_sem] <;> rfl) ⟨hsk0, by simp, by unfold eachL; rw [if_neg (by omega), eachF_succ]; rfl, by simp, by simp only at hadv0 ⊢; omega, by simp only at hadv0 ⊢; omega, by simp only at hadv0 ⊢; omega, by simp only at hadv0 ⊢; omega⟩
  clear hL h1 h2 hadv0
  rintro ⟨i, ts, g, p⟩ ⟨i1, i2, i3, i4, i5, i6, i7, i8⟩ next ih
  simp only at i1 i2 i3 i4 i5 i6 i7 i8 ih ⊢
  have hroom : room ((rowsT ts).length + 1) 48 := room_tok (by unfold rowsT; simp; omega)
  by_cases h : i < s.length
  · obtain ⟨k, t, v, f, hone, hm⟩ := rone_e hx s i (by omega) h
    have hlt2 : (i : Int) < s.length := by omega
    unfold eachG at i3
    simp only [tokA] at hone
    cases hR : lexR (s.drop i) with
    | bad f' =>
      rw [hR] at hm i3
      simp only at hm i3
      subst hm
      have hf : ¬ f = 0 := by have := lexR_bad hR; omega
      rw [i3, refR_bad ts (by simpa using hf)]
      simp only [Dg.av]
      simp (maxSteps := 4000000) (disch := first | (intros; contradiction) | omega) only [go_sem, hlt2, hone, hf]
    | tok k' n v' =>
      rw [hR] at hm i3
      simp only at hm i3
      obtain ⟨rfl, rfl, rfl, rfl⟩ := hm
      obtain ⟨hn1, hn2⟩ := lexR_tok hR
      have hne : s.drop i ≠ [] := by intro e; have := congrArg List.length e; simp at this; omega
      obtain ⟨hk5, hn0⟩ : k ≠ 5 ∧ 1 ≤ n := by rcases hn2 with ⟨_, e, _⟩ | h; exact absurd e hne; exact h
      rw [if_neg hk5] at i3
      rw [List.length_drop] at hn1
      have hsk := rskip_e hx s (i + n) (by omega) (by omega)
      have hskl := skipN_le false (s.drop (i + n))
      rw [List.length_drop] at hskl
      have hlen : ((s.drop i).take n).length = n := by rw [List.length_take, List.length_drop]; omega
      generalize hj : i + n + skipN false (s.drop (i + n)) = j at hsk
      have hji : j - i = n + skipN false (s.drop (i + n)) := by omega
      have hpl := rplace_e hx ((s.drop i).take (j - i)) (j - i) (by rw [List.length_take, List.length_drop]; omega) (by rw [List.length_take, List.length_drop]; omega)
      rw [List.take_take, Nat.min_self] at hpl
      have hrel := adv_rel p ((s.drop i).take (j - i))
      have hbd := adv_le (1, 1) ((s.drop i).take (j - i)) ⟨by simp, by simp⟩
      rw [List.length_take, List.length_drop, Nat.min_eq_left (by omega)] at hbd
      have hnx : eachL s = (ts ++ [(⟨k, (s.drop i).take n, v, p⟩ : Tok)]).map (fun t => (t, Dg.zero)) ++ eachG (g - 1) (s.drop j) (adv p ((s.drop i).take (j - i))) := by
        obtain ⟨g, rfl⟩ : ∃ g', g = g' + 1 := ⟨g - 1, by omega⟩
        have hdd : (s.drop i).drop n = s.drop (i + n) := List.drop_drop
        have hdj : (s.drop (i + n)).drop (skipN false (s.drop (i + n))) = s.drop j := by rw [List.drop_drop, hj]
        rw [i3, eachF_succ, hji, List.take_add, adv_append, hdd, hdj]
        simp only [List.map_append, List.map_cons, List.map_nil, List.append_assoc, List.cons_append, List.nil_append, Nat.add_sub_cancel]
      have q1 : (i : Int) + n = ((i + n : Nat) : Int) := by omega
      have q2 : (i : Int) ≤ (j : Int) := by omega
      have q3 : (j : Int) ≤ s.length := by omega
      have q4 : (j : Int) - i = ((j - i : Nat) : Int) := by omega
      by_cases hL1 : 1 < (adv (1, 1) ((s.drop i).take (j - i))).1
      · rw [if_pos hL1] at hrel
        obtain ⟨r1, r2, r3⟩ := hrel
        rw [r3] at hnx
        generalize hq : adv (1, 1) ((s.drop i).take (j - i)) = q at *
        simp (maxSteps := 4000000) (disch := first | (intros; contradiction) | omega) only [go_sem, hlt2, hone, hroom, hlen, q1, hsk, q2, q3, q4, hpl, hL1, wrap64]
        exact ih (j, ts ++ [(⟨k, (s.drop i).take n, v, p⟩ : Tok)], g - 1, (p.1 + q.1 - 1, q.2)) _ ⟨by omega, by simp; omega, hnx, by simp only; omega, by simp only; omega, by simp only; omega, by simp only; omega, by simp only; omega⟩ (by omega) (by simp only [rowsT_snoc]; simp (maxSteps := 4000000) (disch := first | (intros; contradiction) | omega) only [go_sem] <;> rfl)
      · rw [if_neg hL1] at hrel
        obtain ⟨r1, r2, r3⟩ := hrel
        rw [r3] at hnx
        generalize hq : adv (1, 1) ((s.drop i).take (j - i)) = q at *
        simp (maxSteps := 4000000) (disch := first | (intros; contradiction) | omega) only [go_sem, hlt2, hone, hroom, hlen, q1, hsk, q2, q3, q4, hpl, hL1, wrap64]
        exact ih (j, ts ++ [(⟨k, (s.drop i).take n, v, p⟩ : Tok)], g - 1, (p.1, p.2 + q.2 - 1)) _ ⟨by omega, by simp; omega, hnx, by simp only; omega, by simp only; omega, by simp only; omega, by simp only; omega, by simp only; omega⟩ (by omega) (by simp only [rowsT_snoc]; simp (maxSteps := 4000000) (disch := first | (intros; contradiction) | omega) only [go_sem] <;> rfl)
  · have hlt2 : ¬ (i : Int) < s.length := by omega
    have he : s.drop i = [] := List.drop_of_length_le (by omega)
    rw [he] at i3
    simp only [eachG, lexR, List.take_nil, if_true] at i3
    have i3' : eachL s = (ts ++ [(⟨5, [], 0, p⟩ : Tok)]).map (fun t => (t, Dg.zero)) := by rw [i3]; simp
    rw [i3', refR_good]
    simp only [Dg.av, Dg.zero]
    simp only [rowsT_snoc]
    simp (maxSteps := 4000000) (disch := first | (intros; contradiction) | omega) only [go_sem, hlt2, hroom]
end Go.Proofs.Ytlcbnlfbbjmpbaa
