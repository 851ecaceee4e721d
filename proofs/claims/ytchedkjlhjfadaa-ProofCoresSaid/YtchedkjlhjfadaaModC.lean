/- Clauses, models and formulas as a row reads them. Conditions: none. -/
import Derived.Test.YtchedkjlhjfadaaCA
import Derived.Test.YtchedkjlhjfadaaAbX4
namespace Go.Proofs.Ytchedkjlhjfadaa
open Go Go.Ab
theorem rows_of {α : Type} {f : α → List Dt} {Q : α → Prop} {T : DT} (hT : ∀ xs, WfD T xs → ∃ x, xs = f x ∧ Q x) : ∀ {rows : List (List Dt)}, (∀ row, row ∈ rows → WfD T row) → ∃ l : List α, rows = l.map f ∧ ∀ x, x ∈ l → Q x
  | [], _ => ⟨[], rfl, fun x h => by cases h⟩
  | row :: rows, h => by
    obtain ⟨x, rfl, hx⟩ := hT row (h row (by simp))
    obtain ⟨l, rfl, hl⟩ := rows_of hT (rows := rows) (fun r hr => h r (by simp [hr]))
    exact ⟨x :: l, rfl, fun y hy => by rcases List.mem_cons.1 hy with h1 | h1; (subst h1; exact hx); exact hl y h1⟩
theorem sl_of {α : Type} {f : α → List Dt} {Q : α → Prop} {T : DT} (hT : ∀ xs, WfD T xs → ∃ x, xs = f x ∧ Q x) {xs : List Dt} (h : WfD (.sl T) xs) : ∃ l : List α, xs = [.sl (l.map f)] ∧ l.length ≤ maxLen ∧ ∀ x, x ∈ l → Q x := by
  simp only [WfD] at h
  obtain ⟨rows, rfl, hl, h⟩ := h
  obtain ⟨l, rfl, hQ⟩ := rows_of hT h
  exact ⟨l, rfl, by simpa using hl, hQ⟩
/-- A number of 64 bits. -/
def I64 (n : Int) : Prop := -9223372036854775808 ≤ n ∧ n ≤ 9223372036854775807
theorem lit_i64 {n : Int} (h : (Lit.int .i64 n).wf = true) : I64 n := by
  unfold I64
  simpa [Lit.wf, IntKind.signed, IntKind.bits, IntKind.min, IntKind.max, Bool.and_eq_true, decide_eq_true_eq] using h
theorem int_wf {xs : List Dt} (h : WfD (.int .i64) xs) : ∃ n, xs = rowI n ∧ I64 n := by
  simp only [WfD] at h
  obtain ⟨n, rfl, h⟩ := h
  exact ⟨n, rfl, lit_i64 h⟩
theorem st1 {T : DT} {Ts : List DT} {xs : List Dt} (h : WfD (.st (T :: Ts)) xs) : ∃ a b, xs = a ++ b ∧ WfD T a ∧ WfD (.st Ts) b := by
  simp only [WfD, WfL] at h
  exact h
theorem st0 {xs : List Dt} (h : WfD (.st []) xs) : xs = [] := by simpa only [WfD, WfL] using h
theorem int_arg {xs : List Dt} (h : WfD (.int .i64) xs) : ∃ n, argOf (.int .i64) xs = .d (.int .i64 n) ∧ I64 n := by
  obtain ⟨n, rfl, k⟩ := int_wf h
  exact ⟨n, rfl, k⟩
theorem clause_arg {xs : List Dt} (h : WfD (.sl (.int .i64)) xs) : ∃ l : List Int, argOf (.sl (.int .i64)) xs = .d (.sl (l.map rowI)) := by
  obtain ⟨l, rfl, _, _⟩ := sl_of (f := rowI) (fun _ h => int_wf h) h
  exact ⟨l, rfl⟩
theorem model_arg {xs : List Dt} (h : WfD (.sl .bool) xs) : ∃ l : List Bool, argOf (.sl .bool) xs = .d (.sl (l.map rowB)) := by
  obtain ⟨l, rfl, _, _⟩ := sl_of (f := rowB) (Q := fun _ => True) (fun _ h => by simp only [WfD] at h; obtain ⟨b, rfl⟩ := h; exact ⟨b, rfl, trivial⟩) h
  exact ⟨l, rfl⟩
theorem clauses_arg {xs : List Dt} (h : WfD (.sl (.sl (.int .i64))) xs) : ∃ l : List (List Int), argOf (.sl (.sl (.int .i64))) xs = .d (.sl (l.map rowC)) := by
  obtain ⟨l, rfl, _, _⟩ := sl_of (f := rowC) (Q := fun _ => True) (fun xs h => by
    obtain ⟨c, rfl, _, _⟩ := sl_of (f := rowI) (fun _ h => int_wf h) h
    exact ⟨c, rfl, trivial⟩) h
  exact ⟨l, rfl⟩
theorem fm_arg {xs : List Dt} (h : WfD (.st [.int .i64, .sl (.sl (.int .i64))]) xs) : ∃ f : Fm, argOf (.st [.int .i64, .sl (.sl (.int .i64))]) xs = f.av := by
  obtain ⟨_, _, rfl, h1, h⟩ := st1 h
  obtain ⟨_, _, rfl, h2, h⟩ := st1 h
  obtain rfl := st0 h
  obtain ⟨n, rfl, _⟩ := int_wf h1
  obtain ⟨l, rfl, _, _⟩ := sl_of (f := rowC) (Q := fun _ => True) (fun xs h => by
    obtain ⟨c, rfl, _, _⟩ := sl_of (f := rowI) (fun _ h => int_wf h) h
    exact ⟨c, rfl, trivial⟩) h2
  exact ⟨⟨n, l⟩, rfl⟩
end Go.Proofs.Ytchedkjlhjfadaa
