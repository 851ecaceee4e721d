/- The program's lines: one line, a block, a statement. Conditions: none. -/
import Derived.Test.YtdpkdeimliohmaaDoorK4
import Derived.Test.YtdpkdeimliohmaaDoorK5
set_option linter.unusedSimpArgs false
set_option linter.unusedVariables false
namespace Go.Proofs.YtdpkdeimliohmaaDoor
open Go Go.Ab
variable {ext : Sem'}
/-- What comes of lines that are handed on, one by one, until nobody asks for more. -/
def feedW : List Str → Bool × AObj → Option (Bool × AObj)
  | [], s => some s
  | x :: xs, (ov, o) => if ov = true then some (true, o) else match feed1 [.d (.str x)] o with
    | some (b, o') => feedW xs (!b, o')
    | none => none
theorem feedW_over : ∀ (xs : List Str) (o : AObj), feedW xs (true, o) = some (true, o)
  | [], _ => rfl
  | x :: xs, o => by simp [feedW]
theorem feedW_append : ∀ (xs ys : List Str) (s : Bool × AObj), feedW (xs ++ ys) s = (feedW xs s).bind (feedW ys)
  | [], ys, s => rfl
  | x :: xs, ys, (ov, o) => by
    simp only [List.cons_append, feedW]
    by_cases h : ov = true
    · rw [if_pos h, if_pos h]
      simp only [Option.bind_some]
      rw [feedW_over]
    · rw [if_neg h, if_neg h]
      cases feed1 [.d (.str x)] o with
      | none => rfl
      | some p => obtain ⟨b, o'⟩ := p; exact feedW_append xs ys (!b, o')
/-- Lines that are handed on. -/
def lineV (ls : List Str) : List (List AV) := ls.map fun x => [.d (.str x)]
theorem lineV_plain (ls : List Str) : plainI (lineV ls) := by
  intro x hx
  obtain ⟨y, _, rfl⟩ := List.mem_map.1 hx
  rfl
theorem feedW_fed : ∀ {ls : List Str} {o o' : AObj}, fed (lineV ls) o = some o' → ∃ ov, feedW ls (false, o) = some (ov, o')
  | [], o, o', h => by
    simp only [lineV, List.map_nil, fed, Option.some.injEq] at h
    subst h
    exact ⟨false, rfl⟩
  | x :: ls, o, o', h => by
    have h' : fed ([.d (.str x)] :: lineV ls) o = some o' := h
    rcases fed_cons h' with ⟨o1, k1, k2⟩ | k1
    · obtain ⟨ov, k3⟩ := feedW_fed k2
      exact ⟨ov, by simp only [feedW, Bool.false_eq_true, if_false, k1, Bool.not_true]; exact k3⟩
    · refine ⟨true, ?_⟩
      simp only [feedW, Bool.false_eq_true, if_false, k1, Bool.not_false]
      exact feedW_over _ _
theorem feedW_listens : ∀ {ls : List Str} {s : Bool × AObj} {ov : Bool} {o' : AObj}, Listens s.2 → feedW ls s = some (ov, o') → Listens o'
  | [], s, ov, o', hl, h => by simp only [feedW, Option.some.injEq] at h; subst h; exact hl
  | x :: ls, (v, o), ov, o', hl, h => by
    simp only [feedW] at h
    split at h
    · cases h; exact hl
    · cases hf : feed1 [.d (.str x)] o with
      | none => rw [hf] at h; cases h
      | some p =>
        obtain ⟨b, o1⟩ := p
        rw [hf] at h
        exact feedW_listens (s := (!b, o1)) (feed1_listens hf).2 h
def wO (ov : Bool) (n : Int) : AObj := .cells [.yld 1, .d (.int .i64 n), .d (.bool ov)]
theorem join_flat : ∀ l : List Str, joinL [] l = l.flatten
  | [] => rfl
  | [x] => by simp [joinL]
  | x :: y :: l => by
    have := join_flat (y :: l)
    simp only [joinL, List.flatten_cons, List.append_nil] at this ⊢
    rw [this]
set_option maxHeartbeats 1000000 in
theorem line_e (hx : T3 ext) (n : Nat) (hn : n ≤ 4000) (ov : Bool) (o : AObj) (hl : Listens o) (ps : List Str) (hps : ps.length ≤ 100) (hpl : ps.flatten.length ≤ 1000000000) (ov2 : Bool) (o2 : AObj) (h : feedW [padP n ++ ps.flatten] (ov, o) = some (ov2, o2)) :
    G ext 34 [.ptr 0 0, .d (.sl (strR ps))] [wO ov n, o] = some (.ret (.tuple []), [wO ov2 n, o2]) := by
  have hr := rep_e hx [32, 32] n (by simp; omega) (by simp)
  rw [rep_pad] at hr
  have hj := join_e hx ps [] (by omega) (by rw [join_flat]; omega)
  rw [join_flat] at hj
  have hj' : G ext 29 [.d (.sl (strR ps)), .d (.str [])] [] = some (.ret (.d (.str ps.flatten)), []) := hj
  have hp := padP_len n
  unfold wO
  cases ov with
  | true =>
    rw [feedW_over] at h
    cases h
    rw [G_body hx.clear rfl Tryd.func34 rfl Tryd.results34 hv_34 rfl]
    simp (maxSteps := 4000000) (disch := first | (intros; contradiction) | omega) only [go_sem, hl.refs]
    done
  | false =>
    simp only [feedW, Bool.false_eq_true, if_false] at h
    cases hf : feed1 [.d (.str (padP n ++ ps.flatten))] o with
    | none => rw [hf] at h; cases h
    | some p =>
      obtain ⟨b, o1⟩ := p
      rw [hf] at h
      cases h
      have hl1 := (feed1_listens hf).2
      generalize ps.flatten = t at *
      rw [G_body hx.clear rfl Tryd.func34 rfl Tryd.results34 hv_34 rfl]
      simp (maxSteps := 4000000) (disch := first | (intros; contradiction) | omega) only [go_sem, hr, hj', if_le, yieldK_feed hf, hl1.refs]
      done
end Go.Proofs.YtdpkdeimliohmaaDoor
