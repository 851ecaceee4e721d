/- Blocks: statements one by one. Conditions: none. -/
import Derived.Test.YtlcbnlfbbjmpbaaY6
set_option linter.unusedSimpArgs false
set_option linter.unusedVariables false
namespace Go.Proofs.Ytlcbnlfbbjmpbaa
open Go Go.Ab
variable {ext : Sem'}
/-- A parser that goes on. -/
def GoodN {α : Type} (P : List Tok → PR α) : Prop := ∀ (l : List Tok), OkT l → ∀ (a : α) (l' : List Tok), P l = .ok (a, l') → OkT l' ∧ l'.length < l.length
theorem stmtsL_ok {S : List Tok → PR St0} (hS : GoodN S) : ∀ (n : Nat) (out : List St0) (l : List Tok), OkT l → ∀ (ss : List St0) (l' : List Tok), stmtsL S n out l = .ok (ss, l') → OkT l' ∧ ss.length + l'.length < out.length + l.length := by
  intro n
  induction n with
  | zero => intro out l _ ss l' h; cases h
  | succ n ih =>
    intro out l hl ss l' h
    simp only [stmtsL] at h
    split at h
    · rename_i hi
      cases h
      obtain ⟨h1, h2⟩ := hl.step (isT_kind hi)
      exact ⟨h1, by omega⟩
    · obtain ⟨s, l1, h1, h2⟩ := PR.thenOk h
      obtain ⟨a1, a2⟩ := hS l hl s l1 h1
      obtain ⟨b1, b2⟩ := ih _ l1 a1 ss l' h2
      simp only [List.length_append, List.length_cons, List.length_nil] at b2
      exact ⟨b1, by omega⟩
def GoodNO {α : Type} (P : Option (List Tok → PR α)) : Prop := ∀ S, P = some S → GoodN S
theorem blockK_ok {S : Option (List Tok → PR St0)} (hS : GoodNO S) {l : List Tok} (hl : OkT l) {ss : List St0} {l' : List Tok} (h : blockK S l = .ok (ss, l')) : OkT l' ∧ ss.length + l'.length + 1 < l.length := by
  unfold blockK at h
  split at h
  · rename_i hi
    obtain ⟨h1, h2⟩ := hl.step (isT_kind hi)
    cases S with
    | none => cases h
    | some S =>
      obtain ⟨a1, a2⟩ := stmtsL_ok (hS S rfl) _ _ _ h1 ss l' h
      simp only [List.length_nil] at a2
      exact ⟨a1, by omega⟩
  · cases h
/-- Statements on a stack. -/
def sO (e : Nat) (ss : List St0) : AObj := .stk e 9 ((ss.map St0.row).flatten.map .d)
def sZ (e : Nat) (ss : List St0) : AObj := .stk e 9 ((ss.map St0.row).flatten.map .d ++ [.d (.int .i64 0), .d (.bool false), .d (.str []), .d (.str []), .d (.sl []), .d (.sl []), .d (.sl []), .d (.int .i64 0), .d (.int .i64 0)])
theorem refs_d (xs : List Dt) : ((xs.map AV.d).map refs).flatten = [] := by
  induction xs with
  | nil => rfl
  | cons x xs ih => simp only [List.map_cons, List.flatten_cons, refs, ih, List.append_nil]
theorem ren_d (f : Nat → Nat) (xs : List Dt) : (xs.map AV.d).map (ren f) = xs.map AV.d := by
  induction xs with
  | nil => rfl
  | cons x xs ih => simp only [List.map_cons, ren, ih]
theorem sO_refs (e : Nat) (ss : List St0) : refsO (sO e ss) = [] := refs_d _
theorem sO_ren (f : Nat → Nat) (e : Nat) (ss : List St0) : renO f (sO e ss) = sO e ss := by
  show AObj.stk e 9 (((ss.map St0.row).flatten.map AV.d).map (ren f)) = _
  rw [ren_d]
  rfl
theorem sO_is (e : Nat) (ss : List St0) : isObj (sO e ss) = true := rfl
theorem sO_nil : AObj.stk 0 9 [] = sO 0 [] := rfl
attribute [go_sem] sO_refs sO_ren sO_is
theorem st_len (s : St0) : s.row.length = 9 := by rw [St0.row_eq]; rfl
theorem sts_len (ss : List St0) : (ss.map St0.row).flatten.length = ss.length * 9 := by
  induction ss with
  | nil => rfl
  | cons s ss ih => rw [List.map_cons, List.flatten_cons, List.length_append, ih, st_len, List.length_cons]; omega
theorem app_sO {r e b : Nat} {ss : List St0} (hroom : room (ss.length + 1) b) : stkApp r e ss.length 9 b [[.int .i64 0, .bool false, .str [], .str [], .sl [], .sl [], .sl [], .int .i64 0, .int .i64 0]] (sO e ss) = some (.val (.stk r (e + 1) (ss.length + 1)) [(r, sZ (e + 1) ss)]) := by
  unfold sO stkApp
  have hl : ((ss.map St0.row).flatten.map AV.d).length = ss.length * 9 := by rw [List.length_map, sts_len]
  simp only
  rw [if_pos ⟨trivial, trivial, by intro row hr; cases List.mem_singleton.1 hr; rfl, by rw [hl]; exact Nat.le_refl _, hroom⟩]
  rw [List.take_of_length_le (by rw [hl]; exact Nat.le_refl _)]
  rfl
theorem sto_sZ {r e : Nat} {ss : List St0} (s : St0) : storeS 9 r e (ss.length * 9) (sZ e ss) (some [.d (.int .i64 s.kind), .d (.bool s.t.ptr), .d (.str s.t.to), .d (.str s.name), .d (.sl (s.e.map Ex0.row)), .d (.sl (s.body.map St0.row)), .d (.sl (s.els.map St0.row)), .d (.int .i64 s.pos.line), .d (.int .i64 s.pos.col)]) = some (.val (.tuple []) [(r, sO e (ss ++ [s]))]) := by
  have hl : ((ss.map St0.row).flatten.map AV.d).length = ss.length * 9 := by rw [List.length_map, sts_len]
  unfold sZ storeS
  simp only
  rw [if_pos ⟨trivial, rfl, by rw [List.length_append, hl]; simp⟩]
  unfold splice sO
  rw [List.take_append_of_le_length (by rw [hl]; exact Nat.le_refl _), List.take_of_length_le (by rw [hl]; exact Nat.le_refl _), List.drop_of_length_le (by rw [List.length_append, hl]; exact Nat.le_refl _), List.append_nil]
  rw [List.map_append, List.flatten_append, List.map_append, List.map_cons, List.map_nil, St0.row_eq]
  rfl
theorem chunk_rows2 {s : Nat} : ∀ (rows : List (List Dt)), (∀ row, row ∈ rows → row.length = s) → chunk s rows.length rows.flatten = rows
  | [], _ => rfl
  | row :: rows, h => by
    have h1 := h row (by simp)
    simp only [List.length_cons, chunk, List.flatten_cons]
    rw [List.take_append_of_le_length (by omega), List.take_of_length_le (by omega), List.drop_append_of_le_length (by omega), List.drop_of_length_le (by omega), List.nil_append, chunk_rows2 rows fun r hr => h r (by simp [hr])]
theorem dataAs_d : ∀ xs : List Dt, dataAs (xs.map .d) = some xs
  | [] => rfl
  | x :: xs => by simp only [List.map_cons, dataAs, dataA, dataAs_d xs]
theorem frz_sO (e : Nat) (ss : List St0) : stkD e ss.length (sO e ss) = some (ss.map St0.row) := by
  have hl : ((ss.map St0.row).flatten.map AV.d).length = ss.length * 9 := by rw [List.length_map, sts_len]
  unfold sO stkD
  simp only
  rw [if_pos ⟨trivial, by rw [hl]; exact Nat.le_refl _⟩, List.take_of_length_le (by rw [hl]; exact Nat.le_refl _)]
  simp only [chunkO]
  rw [dataAs_d]
  simp only [chunkK]
  have := chunk_rows2 (s := 9) (ss.map St0.row) (fun row hr => by obtain ⟨s, _, rfl⟩ := List.mem_map.1 hr; exact st_len s)
  rw [List.length_map] at this
  rw [this]
/-- The objects of what reads the statements of a block. -/
def bH (l : List Tok) (d : Nat) (ss : List St0) : List AObj := [.cells [.ptr 1 0], pO l d, .cells [.stk 3 ss.length ss.length], sO ss.length ss]
def Qb (h : List AObj) : Prop := ∃ l k ss, h = bH l k ss
def Qbl (h : List AObj) : Prop := ∃ l k, ∃ ss : List St0, h = [pO l k, .cells [.ptr 0 0], .cells [.stk 3 ss.length ss.length], sO ss.length ss]
set_option maxHeartbeats 2000000 in
set_option maxRecDepth 4000 in
theorem block1_l (hx : T0 ext) {S : List Tok → PR St0} {d : Nat} (hG : GoodN S) (hS : RunF ext 85 [.ptr 0 0] d St0.agg S) {l : List Tok} (hl : OkT l) (hk : (hdT l).kind ≠ 5) :
    RunP (stmtsL S l.length [] l.tail) (fun ss l' => (.ret (.tuple []), bH l' d ss)) Qb (G ext 84 [.ptr 0 0, .ptr 2 0] (bH l d [])) := by
  have hst := step_l hx hl d hk
  unfold Tok.av at hst
  obtain ⟨hl1, hl2⟩ := hl.step hk
  unfold bH
  rw [G_body hx.clear rfl Try.func84 rfl Try.results84 hv_84 rfl]
  simp (maxSteps := 4000000) (disch := first | (intros; contradiction) | omega) only [go_sem, hst]
  generalize hL : loopA _ _ _ = L
  apply loop_upd hL (by simp (maxSteps := 4000000) (disch := first | (intros; contradiction) | omega) only [go_sem] <;> rfl) (α := List St0 × List Tok × Nat) (fun s => OkT s.2.1 ∧ s.2.1.length ≤ s.2.2 ∧ s.1.length + s.2.1.length ≤ l.length ∧ stmtsL S s.2.2 s.1 s.2.1 = stmtsL S l.length [] l.tail)
    (fun s => s.2.1.length) (fun s => []) (fun s => [(1, pO s.2.1 d), (2, .cells [.stk 3 s.1.length s.1.length]), (3, sO s.1.length s.1)]) ([], l.tail, l.length) (by simp (maxSteps := 4000000) (disch := first | (intros; contradiction) | omega) only [go_sem, List.map_nil, List.length_nil] <;> rfl) ⟨hl1, by simp only; omega, by simp only [List.length_nil]; omega, rfl⟩ ?_
  clear hL
  rintro ⟨out, l1, n⟩ ⟨i1, i2, i4, i5⟩ next ih
  simp only at i1 i2 i4 i5 ih ⊢
  rw [← i5] at ih ⊢
  have hlf := hl.few
  cases n with
  | zero => obtain ⟨t, r, rfl⟩ := i1.ne; simp at i2
  | succ n =>
    have hi := is_l hx i1 d [125]
    simp only [stmtsL] at ih ⊢
    cases h : isT l1 [125] with
    | true =>
      rw [if_pos rfl]
      rw [h] at hi
      have hs1 := step_l hx i1 d (isT_kind h)
      unfold Tok.av at hs1
      simp (maxSteps := 4000000) (disch := first | (intros; contradiction) | omega) only [go_sem, hi, hs1, RunP]
      done
    | false =>
      rw [h, if_neg (by simp)] at ih
      rw [if_neg (by simp)]
      rw [h] at hi
      have hex := hS l1 i1
      cases he : S l1 with
      | error dg =>
        obtain ⟨g, q1, l9, k9, rfl⟩ := hex.er' he
        simp only [PR.andThen]
        refine ⟨_, ?_, l9, k9, out, rfl⟩
        unfold bH
        simp (maxSteps := 4000000) (disch := first | (intros; contradiction) | omega) only [go_sem, hi, q1]
        done
      | ok r =>
        obtain ⟨s, l2⟩ := r
        have q1 := hex.ok' he
        obtain ⟨g1, g2⟩ := hG l1 i1 s l2 he
        rw [he] at ih
        simp only [PR.andThen] at ih ⊢
        unfold St0.agg at q1
        have hroom : room (out.length + 1) 136 := by unfold room; simp; omega
        have ha := app_sO (r := 3) (e := out.length) (b := 136) hroom
        have hlt : (out.length : Int) < ((out.length + 1 : Nat) : Int) := by omega
        have hst2 := sto_sZ (r := 3) (e := out.length + 1) (ss := out) s
        simp (maxSteps := 4000000) (disch := first | (intros; contradiction) | omega) only [go_sem, ne_eq, hi, q1, ha, hlt, hst2]
        exact ih (out ++ [s], l2, n) _ ⟨g1, by simp only; omega, by simp only [List.length_append, List.length_cons, List.length_nil]; omega, rfl⟩ (by simp only; omega) (by simp (maxSteps := 4000000) (disch := first | (intros; contradiction) | omega) only [go_sem, List.length_append, List.length_cons, List.length_nil] <;> rfl)
end Go.Proofs.Ytlcbnlfbbjmpbaa
