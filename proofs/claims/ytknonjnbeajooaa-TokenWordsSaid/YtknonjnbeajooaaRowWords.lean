/- TokenWords answers true for every text and all tokens, and leaves its arguments as they read. Conditions: none. -/
import Derived.Test.YtknonjnbeajooaaRows
import Derived.Test.YtknonjnbeajooaaT14
namespace Go.Proofs.Ytknonjnbeajooaa
open Go Go.Ab Go.ChangeShapes Go.WideShapes Go.ChangeAt Go.RowKit
theorem own : ownKnob Try.prog.godebug = none := by kernel_rfl
theorem laidOut : laidOutB Try.prog = true := by kernel_rfl
def tokT : DT := .sl (.st [.int .i64, .str, .int .i64, .st [.int .i64, .int .i64]])
def wordsT : List DT := [.str, tokT, tokT]
theorem tok_rows {xs : List Dt} (h : WfD tokT xs) : ∃ l : List Tok, xs = [.sl (rowsT l)] ∧ l.length ≤ 9223372036854775807 := by
  unfold tokT at h
  simp only [WfD] at h
  obtain ⟨rows, rfl, hl, hr⟩ := h
  have key : ∀ rows : List (List Dt), (∀ row, row ∈ rows → WfL [.int .i64, .str, .int .i64, .st [.int .i64, .int .i64]] row) → ∃ l : List Tok, rows = rowsT l := by
    intro rows
    induction rows with
    | nil => intro _; exact ⟨[], rfl⟩
    | cons row rows ih =>
      intro h
      obtain ⟨l, hl⟩ := ih (fun r hr => h r (by simp [hr]))
      have h1 := h row (by simp)
      simp only [WfL, WfD] at h1
      obtain ⟨_, _, rfl, ⟨k, rfl, _⟩, _, _, rfl, ⟨s, rfl, _⟩, _, _, rfl, ⟨n, rfl, _⟩, _, _, rfl, ⟨_, _, rfl, ⟨a, rfl, _⟩, _, _, rfl, ⟨b, rfl, _⟩, rfl⟩, rfl⟩ := h1
      exact ⟨⟨k, s, n, (a, b)⟩ :: l, by rw [hl]; rfl⟩
  obtain ⟨l, rfl⟩ := key rows hr
  exact ⟨l, rfl, by rw [rowsT_len] at hl; exact hl⟩
theorem words_reads {l : List AV} (h : Reads wordsT l) : G ext2 6 l [] = some (.ret (.d (.bool true)), []) := by
  obtain ⟨xs, l1, h1, rfl, ys, l2, h2, rfl, zs, l3, h3, rfl, rfl⟩ := h
  obtain ⟨l, rfl, hl⟩ := tok_rows h2
  obtain ⟨m, rfl, _⟩ := tok_rows h3
  simp only [WfD] at h1
  obtain ⟨s, rfl, hs⟩ := h1
  exact law6_e ext2_txj s l m hs hl
theorem tokenWords_lifted (os : Os) (started : os.Started) (H : Type) (enc : TypeId × Value → H) :
    ReturnsInHanded {} Try.checked os 6 .any (Rows.tokenWordsSpec.pre6 enc Try.prog Try.f6 Rows.tokenWordsRow.domain false) (Rows.tokenWordsSpec.post enc Try.prog Try.f6 false true false false) := by
  refine returnsInHanded_of_change (C := Try.checked) own started (by kernel_rfl) Try.func6
    (ChangeSpec.witness6 (enc := enc) (C := Try.checked) false ⟨#[], #[.string ⟨#[]⟩, .slice none 0 0, .slice none 0 0], []⟩ 8 (by kernel_rfl) (by kernel_rfl) (by kernel_rfl) (by kernel_rfl)) ?_
  intro W base args ds gs before hval hW _ _
  refine law_contract laidOut (G_ok ext2_ok) (Ts := wordsT) (by rw [Try.params6]; kernel_rfl) rfl ?_ (by kernel_rfl) Try.underlying4 (by rw [Try.params6]; decide +kernel) (fun l hl => words_reads hl) W base args ds gs before hval hW
  intro ds hl
  match ds, hl with
  | [d1, d2, d3], _ => exact ⟨rfl, rfl, rfl⟩
theorem tokenWords_holds : Rows.TokenWordsSaid :=
  OpenClaim.holds_of_wide 6 Try.f6 rfl rfl rfl rfl rfl rfl rfl ⟨rfl, rfl, rfl, rfl, rfl⟩ rfl rfl rfl rfl rfl (by kernel_rfl) Try.func6 (by kernel_rfl)
    (of_decide_eq_true (by kernel_rfl)) (by unfold Func.isWrapper; first | (rw [if_pos (by decide +kernel)]; kernel_rfl) | (rw [if_neg (by decide +kernel)]; exact ⟨rfl, rfl⟩))
    (fun os started H enc _ => tokenWords_lifted os started H enc)
end Go.Proofs.Ytknonjnbeajooaa
