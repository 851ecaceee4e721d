/- Types and expressions as text: the program's, and the document's. Conditions: none. -/
import Derived.Test.YtdpkdeimliohmaaDoorPB
import Derived.Lib.ItoaNum
import Derived.Lib.Repeat
set_option linter.unusedSimpArgs false
set_option linter.unusedVariables false
namespace Go.Proofs.YtdpkdeimliohmaaDoor
open Go Go.Ab
variable {ext : Sem'}
/-- A text joined. -/
def joinL (sep : List UInt8) : List (List UInt8) → List UInt8
  | [] => []
  | [x] => x
  | x :: y :: l => x ++ sep ++ joinL sep (y :: l)
theorem joinL_snoc (sep x : List UInt8) : ∀ xs : List (List UInt8), joinL sep (xs ++ [x]) = if xs = [] then x else joinL sep xs ++ sep ++ x
  | [] => rfl
  | [y] => by simp [joinL]
  | y :: z :: l => by
    have := joinL_snoc sep x (z :: l)
    simp only [List.cons_append, joinL] at this ⊢
    rw [this]
    simp
/-- What is known of the library. -/
structure T3 (ext : Sem') : Prop extends T0 ext where
  join : ∀ (xs : List Str) (sep : Str), xs.length ≤ 1048576 → (joinL sep xs).length ≤ 140737488355328 → ext 29 [.d (.sl (xs.map fun x => [.str x])), .d (.str sep)] [] = some (.ret (.d (.str (joinL sep xs))), [])
  rep : ∀ (s : Str) (n : Nat), s.length * n ≤ 1000000 → s ≠ [] → ext 52 [.d (.str s), .d (.int .i64 n)] [] = some (.ret (.d (.str (Lib.repeatL s n))), [])
  fmt : ∀ (n : Int), -9223372036854775808 ≤ n → n ≤ 9223372036854775807 → ext 25 [.d (.int .i64 n), .d (.int .i64 10)] [] = some (.ret (.d (.str (Lib.itoa n))), [])
  bw : ∀ (l s : Str), s.length + l.length ≤ 140737488355328 → ext 46 [.bp 0, .d (.str l)] [.bld 96 s] = some (.ret (.tuple [.d (.int .i64 l.length), .any]), [.bld 96 (s ++ l)])
  bs : ∀ (s : Str), s.length ≤ 140737488355328 → ext 47 [.bp 0] [.bld 96 s] = some (.ret (.d (.str s)), [.no])
theorem join_e (hx : T3 ext) (xs : List Str) (sep : Str) (h1 : xs.length ≤ 1048576) (h2 : (joinL sep xs).length ≤ 140737488355328) : G ext 29 [.d (.sl (xs.map fun x => [.str x])), .d (.str sep)] [] = some (.ret (.d (.str (joinL sep xs))), []) := callA_ext (hx.join xs sep h1 h2)
theorem rep_e (hx : T3 ext) (s : Str) (n : Nat) (h : s.length * n ≤ 1000000) (h0 : s ≠ []) : G ext 52 [.d (.str s), .d (.int .i64 n)] [] = some (.ret (.d (.str (Lib.repeatL s n))), []) := callA_ext (hx.rep s n h h0)
theorem fmt_e (hx : T3 ext) (n : Int) (h1 : -9223372036854775808 ≤ n) (h2 : n ≤ 9223372036854775807) : G ext 25 [.d (.int .i64 n), .d (.int .i64 10)] [] = some (.ret (.d (.str (Lib.itoa n))), []) := callA_ext (hx.fmt n h1 h2)
theorem bw_e (hx : T3 ext) (l s : Str) (h : s.length + l.length ≤ 140737488355328) : G ext 46 [.bp 0, .d (.str l)] [.bld 96 s] = some (.ret (.tuple [.d (.int .i64 l.length), .any]), [.bld 96 (s ++ l)]) := callA_ext (hx.bw l s h)
theorem bs_e (hx : T3 ext) (s : Str) (h : s.length ≤ 140737488355328) : G ext 47 [.bp 0] [.bld 96 s] = some (.ret (.d (.str s)), [.no]) := callA_ext (hx.bs s h)
theorem dec_len : ∀ n : Nat, (Lib.decDigits n).length ≤ n + 1 := fun n => by
  induction n using Nat.strongRecOn with
  | ind n ih =>
    rw [Lib.decDigits]
    split
    · simp
    · have := ih (n / 10) (by omega)
      simp only [List.length_append, List.length_singleton]
      omega
theorem if_le {α : Type} {a b : Nat} (h : a ≤ b) {x y : α} : (if a ≤ b then x else y) = x := if_pos h
/-- A type. -/
def typT (t : Tp) : Str := if t.ptr then t.to ++ [32, 42] else [105, 110, 116]
theorem stype_e (hx : T3 ext) (t : Tp) (ht : okT t.to) : G ext 8 [t.av] [] = some (.ret (.d (.str (typT t))), []) := by
  replace ht := ht.1
  unfold Tp.av typT
  cases t.ptr with
  | true =>
    rw [G_body hx.clear rfl Tryd.func8 rfl Tryd.results8 hv_8 rfl]
    simp (maxSteps := 4000000) (disch := first | (intros; contradiction) | omega) only [go_sem, if_le]
    done
  | false =>
    rw [G_body hx.clear rfl Tryd.func8 rfl Tryd.results8 hv_8 rfl]
    simp (maxSteps := 4000000) (disch := first | (intros; contradiction) | omega) only [go_sem]
    done
theorem rtype_e (hx : T3 ext) (t : Tp) (ht : okT t.to) : G ext 9 [t.av] [] = some (.ret (.d (.str (typT t))), []) := by
  replace ht := ht.1
  unfold Tp.av typT
  cases t.ptr with
  | true =>
    rw [G_body hx.clear rfl Tryd.func9 rfl Tryd.results9 hv_9 rfl]
    simp (maxSteps := 4000000) (disch := first | (intros; contradiction) | omega) only [go_sem, if_le]
    done
  | false =>
    rw [G_body hx.clear rfl Tryd.func9 rfl Tryd.results9 hv_9 rfl]
    simp (maxSteps := 4000000) (disch := first | (intros; contradiction) | omega) only [go_sem]
    done
set_option maxHeartbeats 1000000 in
/-- The document's digits. -/
theorem dig_e (hx : T3 ext) : ∀ (n : Nat), n ≤ 18446744073709551615 → G ext 51 [.d (.int .u64 n)] [] = some (.ret (.d (.str (Lib.decDigits n))), []) := by
  intro n
  induction n using Nat.strongRecOn with
  | ind n ih =>
    intro hn
    have hw8 : ∀ k : Nat, k < 10 → IntKind.wrap .u8 (IntKind.wrap .u64 (48 + (k : Int))) = ((UInt8.ofNat (48 + k)).toNat : Int) := fun k hk => by
      rw [UInt8.toNat_ofNat']
      show IntKind.wrap .u8 ((48 + (k : Int)) % 18446744073709551616) = _
      show ((48 + (k : Int)) % 18446744073709551616) % 256 = _
      omega
    by_cases h : n < 10
    · have h' : (n : Int) < 10 := by omega
      have hq := hw8 n h
      have hd : Lib.decDigits n = [UInt8.ofNat (48 + n)] := by rw [Lib.decDigits, dif_pos h]
      rw [hd]
      rw [G_body hx.clear rfl Tryd.func51 rfl Tryd.results51 hv_51 rfl]
      simp (maxSteps := 4000000) (disch := first | (intros; contradiction) | omega) only [go_sem, h', hq]
      done
    · have h' : ¬ (n : Int) < 10 := by omega
      have hq := hw8 (n % 10) (by omega)
      have hd : Lib.decDigits n = Lib.decDigits (n / 10) ++ [UInt8.ofNat (48 + n % 10)] := by rw [Lib.decDigits, dif_neg h]
      have ih2 := ih (n / 10) (by omega) (by omega)
      have hl := dec_len (n / 10)
      have hdiv : IntKind.wrap .u64 (((n : Int)).tdiv 10) = ((n / 10 : Nat) : Int) := by
        have : ((n : Int)).tdiv 10 = ((n / 10 : Nat) : Int) := by rw [Int.tdiv_eq_ediv_of_nonneg (by omega)]; omega
        rw [this]
        show ((n / 10 : Nat) : Int) % 18446744073709551616 = _
        omega
      have hmod : ((n : Int)).tmod 10 = ((n % 10 : Nat) : Int) := by rw [Int.tmod_eq_emod_of_nonneg (by omega)]; omega
      rw [hd]
      rw [G_body hx.clear rfl Tryd.func51 rfl Tryd.results51 hv_51 rfl]
      simp (maxSteps := 4000000) (disch := first | (intros; contradiction) | omega) only [go_sem, h', hdiv, hmod, ih2, hq, if_le]
      done
/-- The document's numeral. -/
theorem rdec_e (hx : T3 ext) (n : Int) (h : okN n) : G ext 30 [.d (.int .i64 n)] [] = some (.ret (.d (.str (Lib.itoa n))), []) := by
  obtain ⟨h1, h2⟩ := h
  obtain ⟨k, rfl⟩ : ∃ k : Nat, n = (k : Int) := ⟨n.toNat, by omega⟩
  have hd := dig_e hx k (by omega)
  have hn : ¬ ((k : Int) < 0) := by omega
  have hw : IntKind.wrap .u64 (k : Int) = (k : Int) := by
    rw [IntKind.wrap_u64]; omega
  have hi : Lib.itoa (k : Int) = Lib.decDigits k := by unfold Lib.itoa; rw [if_neg hn, Int.toNat_natCast]
  rw [hi]
  rw [G_body hx.clear rfl Tryd.func30 rfl Tryd.results30 hv_30 rfl]
  simp (maxSteps := 4000000) (disch := first | (intros; contradiction) | omega) only [go_sem, hn, hw, hd]
  done
/-- How much a sign does. -/
def bindsP (op : Str) : Nat := if op = [42] ∨ op = [47] ∨ op = [37] then 3 else if op = [43] ∨ op = [45] then 2 else 1
theorem rbinds_e (hx : T3 ext) (op : Str) : G ext 32 [.d (.str op)] [] = some (.ret (.d (.int .i64 (bindsP op))), []) := by
  unfold bindsP
  by_cases h1 : op = [42]
  · have h1' := eq_true h1
    rw [if_pos (.inl h1)]
    rw [G_body hx.clear rfl Tryd.func32 rfl Tryd.results32 hv_32 rfl]
    simp (maxSteps := 4000000) (disch := first | (intros; contradiction) | omega) only [go_sem, h1']
    done
  by_cases h2 : op = [47]
  · have h2' := eq_true h2
    rw [if_pos (.inr (.inl h2))]
    rw [G_body hx.clear rfl Tryd.func32 rfl Tryd.results32 hv_32 rfl]
    simp (maxSteps := 4000000) (disch := first | (intros; contradiction) | omega) only [go_sem, h1, h2']
    done
  by_cases h3 : op = [37]
  · have h3' := eq_true h3
    rw [if_pos (.inr (.inr h3))]
    rw [G_body hx.clear rfl Tryd.func32 rfl Tryd.results32 hv_32 rfl]
    simp (maxSteps := 4000000) (disch := first | (intros; contradiction) | omega) only [go_sem, h1, h2, h3']
    done
  rw [if_neg (by simp [h1, h2, h3])]
  by_cases h4 : op = [43]
  · have h4' := eq_true h4
    rw [if_pos (.inl h4)]
    rw [G_body hx.clear rfl Tryd.func32 rfl Tryd.results32 hv_32 rfl]
    simp (maxSteps := 4000000) (disch := first | (intros; contradiction) | omega) only [go_sem, h1, h2, h3, h4']
    done
  by_cases h5 : op = [45]
  · have h5' := eq_true h5
    rw [if_pos (.inr h5)]
    rw [G_body hx.clear rfl Tryd.func32 rfl Tryd.results32 hv_32 rfl]
    simp (maxSteps := 4000000) (disch := first | (intros; contradiction) | omega) only [go_sem, h1, h2, h3, h4, h5']
    done
  rw [if_neg (by simp [h4, h5])]
  rw [G_body hx.clear rfl Tryd.func32 rfl Tryd.results32 hv_32 rfl]
  simp (maxSteps := 4000000) (disch := first | (intros; contradiction) | omega) only [go_sem, h1, h2, h3, h4, h5]
  done
theorem sbinds_e (hx : T3 ext) (e : Ex0) : G ext 49 [e.agg] [] = some (.ret (.d (.int .i64 (if e.kind = 4 then (bindsP e.op : Int) else 5))), []) := by
  unfold Ex0.agg bindsP
  by_cases h0 : e.kind = 4
  · have h0' := eq_true h0
    rw [if_pos h0]
    by_cases h1 : e.op = [42]
    · have h1' := eq_true h1
      rw [if_pos (.inl h1)]
      rw [G_body hx.clear rfl Tryd.func49 rfl Tryd.results49 hv_49 rfl]
      simp (maxSteps := 4000000) (disch := first | (intros; contradiction) | omega) only [go_sem, h0', h1']
      done
    by_cases h2 : e.op = [47]
    · have h2' := eq_true h2
      rw [if_pos (.inr (.inl h2))]
      rw [G_body hx.clear rfl Tryd.func49 rfl Tryd.results49 hv_49 rfl]
      simp (maxSteps := 4000000) (disch := first | (intros; contradiction) | omega) only [go_sem, h0', h1, h2']
      done
    by_cases h3 : e.op = [37]
    · have h3' := eq_true h3
      rw [if_pos (.inr (.inr h3))]
      rw [G_body hx.clear rfl Tryd.func49 rfl Tryd.results49 hv_49 rfl]
      simp (maxSteps := 4000000) (disch := first | (intros; contradiction) | omega) only [go_sem, h0', h1, h2, h3']
      done
    rw [if_neg (by simp [h1, h2, h3])]
    by_cases h4 : e.op = [43]
    · have h4' := eq_true h4
      rw [if_pos (.inl h4)]
      rw [G_body hx.clear rfl Tryd.func49 rfl Tryd.results49 hv_49 rfl]
      simp (maxSteps := 4000000) (disch := first | (intros; contradiction) | omega) only [go_sem, h0', h1, h2, h3, h4']
      done
    by_cases h5 : e.op = [45]
    · have h5' := eq_true h5
      rw [if_pos (.inr h5)]
      rw [G_body hx.clear rfl Tryd.func49 rfl Tryd.results49 hv_49 rfl]
      simp (maxSteps := 4000000) (disch := first | (intros; contradiction) | omega) only [go_sem, h0', h1, h2, h3, h4, h5']
      done
    rw [if_neg (by simp [h4, h5])]
    rw [G_body hx.clear rfl Tryd.func49 rfl Tryd.results49 hv_49 rfl]
    simp (maxSteps := 4000000) (disch := first | (intros; contradiction) | omega) only [go_sem, h0', h1, h2, h3, h4, h5]
    done
  · rw [if_neg h0]
    rw [G_body hx.clear rfl Tryd.func49 rfl Tryd.results49 hv_49 rfl]
    simp (maxSteps := 4000000) (disch := first | (intros; contradiction) | omega) only [go_sem, h0]
    done
end Go.Proofs.YtdpkdeimliohmaaDoor
