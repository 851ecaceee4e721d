/- Tokens as a program: the parser gives what the plain one gives. Conditions: none. -/
import Derived.Test.YtlcbnlfbbjmpbaaY11
import Derived.Test.YtlcbnlfbbjmpbaaAbX7
set_option linter.unusedSimpArgs false
set_option linter.unusedVariables false
namespace Go.Proofs.Ytlcbnlfbbjmpbaa
open Go Go.Ab
variable {ext : Sem'}
/-! ### what is wrong bears a fault -/
def Bad {α : Type} (x : PR α) : Prop := ∀ d, x = .error d → d.stage = 2 ∧ d.what ≠ 0
theorem Bad.ok {α : Type} (r : α × List Tok) : Bad (.ok r : PR α) := fun d h => by cases h
theorem Bad.odd {α : Type} (l : List Tok) : Bad (.error (oddD l) : PR α) := fun d h => by cases h; exact ⟨rfl, by simp [oddD]⟩
theorem Bad.deep {α : Type} (l : List Tok) : Bad (.error (deepD l) : PR α) := fun d h => by cases h; exact ⟨rfl, by simp [deepD]⟩
theorem Bad.andThen {α β : Type} {x : PR α} {k : α → List Tok → PR β} (h : Bad x) (hk : ∀ a l, Bad (k a l)) : Bad (PR.andThen x k) := by
  intro d hd
  unfold PR.andThen at hd
  split at hd
  · exact hk _ _ d hd
  · rename_i d' ; cases hd; exact h d rfl
theorem Bad.eat (s : Str) (l : List Tok) : Bad (eatT s l) := by unfold eatT; split; exact .ok _; exact .odd _
theorem Bad.name (l : List Tok) : Bad (nameT l) := by unfold nameT; split; exact .ok _; exact .odd _
theorem Bad.built (e : Ex0) (l : List Tok) : Bad (builtT e l) := by
  unfold builtT; split
  · intro d h; cases h; exact ⟨rfl, by simp⟩
  · exact .ok _
def BadE {α : Type} (E : List Tok → PR α) : Prop := ∀ l, Bad (E l)
def BadO {α : Type} (E : Option (List Tok → PR α)) : Prop := ∀ f, E = some f → BadE f
theorem Bad.argsL {E : List Tok → PR Ex0} (hE : BadE E) : ∀ n out l, Bad (argsL E n out l)
  | 0, _, _ => .odd _
  | n + 1, out, l => by
    simp only [Go.Proofs.Ytlcbnlfbbjmpbaa.argsL]
    split
    · exact .ok _
    · refine .andThen ?_ fun _ l => .andThen (hE l) fun e l => Bad.argsL hE n _ l
      split; exact .ok _; exact .eat _ _
theorem Bad.argsT {E : Option (List Tok → PR Ex0)} (hE : BadO E) (l : List Tok) : Bad (argsT E l) := by
  cases E with
  | none => exact .deep _
  | some E => exact Bad.argsL (hE E rfl) _ _ _
theorem Bad.innerT {E : Option (List Tok → PR Ex0)} (hE : BadO E) (l : List Tok) : Bad (innerT E l) := by
  cases E with
  | none => exact .deep _
  | some E => exact .andThen (hE E rfl _) fun e l => .andThen (.eat _ _) fun _ _ => .ok _
theorem Bad.primT {E : Option (List Tok → PR Ex0)} (hE : BadO E) (l : List Tok) : Bad (primT E l) := by
  unfold Go.Proofs.Ytlcbnlfbbjmpbaa.primT
  split
  · exact .built _ _
  split
  · split
    · exact .andThen (Bad.argsT hE _) fun _ _ => .built _ _
    · exact .built _ _
  split
  · exact .built _ _
  split
  · exact .andThen (.name _) fun _ _ => .built _ _
  split
  · exact .andThen (.eat _ _) fun _ _ => .andThen (.eat _ _) fun _ _ => .built _ _
  split
  · exact Bad.innerT hE _
  · exact .odd _
theorem Bad.arrowL : ∀ n e l, Bad (arrowL n e l)
  | 0, _, _ => .ok _
  | n + 1, e, l => by
    simp only [Go.Proofs.Ytlcbnlfbbjmpbaa.arrowL]
    split
    · exact .andThen (.name _) fun _ _ => .andThen (.built _ _) fun _ _ => Bad.arrowL n _ _
    · exact .ok _
theorem Bad.unaryK {U E : Option (List Tok → PR Ex0)} (hU : BadO U) (hE : BadO E) : BadE (unaryK U E) := by
  intro l
  unfold Go.Proofs.Ytlcbnlfbbjmpbaa.unaryK
  split
  · cases U with
    | none => exact .deep _
    | some U => exact .andThen (hU U rfl _) fun _ _ => .built _ _
  · exact .andThen (Bad.primT hE _) fun _ _ => Bad.arrowL _ _ _
theorem Bad.chainL {P : List Tok → PR Ex0} (hP : BadE P) (ops : List Str) : ∀ n e l, Bad (chainL P ops n e l)
  | 0, _, _ => .ok _
  | n + 1, e, l => by
    simp only [Go.Proofs.Ytlcbnlfbbjmpbaa.chainL]
    split
    · exact .andThen (hP _) fun _ _ => .andThen (.built _ _) fun _ _ => Bad.chainL hP ops n _ _
    · exact .ok _
theorem Bad.leftT {P : List Tok → PR Ex0} (hP : BadE P) (ops : List Str) : BadE (leftT P ops) := fun l => .andThen (hP l) fun _ _ => Bad.chainL hP ops _ _ _
theorem Bad.exprK {U : List Tok → PR Ex0} (hU : BadE U) : BadE (exprK U) := by
  intro l
  have hS : BadE (sumK U) := Bad.leftT (Bad.leftT hU opsM) opsA
  refine .andThen (hS l) fun e l => ?_
  split
  · exact .andThen (hS _) fun _ _ => .built _ _
  · exact .ok _
theorem Bad.unaryT : ∀ m, BadE (unaryT m)
  | 0 => Bad.unaryK (fun E h => by cases h) (fun E h => by cases h)
  | m + 1 => Bad.unaryK (fun E h => by cases h; exact Bad.unaryT m) (fun E h => by cases h; exact Bad.exprK (Bad.unaryT m))
theorem Bad.exprT (m : Nat) : BadE (exprT m) := Bad.exprK (Bad.unaryT m)
theorem Bad.lowE : ∀ m, BadO (lowE m)
  | 0 => fun E h => by cases h
  | m + 1 => fun E h => by cases h; exact Bad.exprT m
theorem Bad.typeT : BadE typeT := by
  intro l
  unfold Go.Proofs.Ytlcbnlfbbjmpbaa.typeT
  split
  · exact .ok _
  · exact .andThen (.name _) fun _ _ => .andThen (.eat _ _) fun _ _ => .ok _
theorem Bad.branchT {E : List Tok → PR Ex0} {B : List Tok → PR (List St0)} (hE : BadE E) (hB : BadE B) (k : Int) (p : Po) : BadE (branchT E B k p) := by
  intro l
  refine .andThen (.eat _ _) fun _ l => .andThen (hE _) fun _ l => .andThen (.eat _ _) fun _ l => .andThen (hB _) fun _ l => ?_
  split
  · exact .andThen (hB _) fun _ _ => .ok _
  · exact .ok _
theorem Bad.targetL : ∀ n k nm e last l, Bad (targetL n k nm e last l)
  | 0, _, _, _, _, _ => .ok _
  | n + 1, k, nm, e, last, l => by
    simp only [Go.Proofs.Ytlcbnlfbbjmpbaa.targetL]
    split
    · refine .andThen (.name _) fun _ _ => .andThen ?_ fun _ _ => Bad.targetL n _ _ _ _ _
      split; exact .built _ _; exact .ok _
    · exact .ok _
theorem Bad.targetT {E : List Tok → PR Ex0} (hE : BadE E) (f : Tok) (p : Po) : BadE (targetT E f p) := fun l => .andThen (Bad.targetL _ _ _ _ _ _) fun _ _ => .andThen (.eat _ _) fun _ _ => .andThen (hE _) fun _ _ => .ok _
theorem Bad.plainT {E : List Tok → PR Ex0} {A : List Tok → PR (List Ex0)} (hE : BadE E) (hA : BadE A) : BadE (plainT E A) := by
  intro l
  unfold Go.Proofs.Ytlcbnlfbbjmpbaa.plainT
  split
  · exact .ok _
  split
  · exact .ok _
  split
  · exact .andThen (hE _) fun _ _ => .ok _
  split
  · exact .andThen (.eat _ _) fun _ _ => .andThen (.name _) fun _ _ => .andThen (.eat _ _) fun _ _ => .ok _
  split
  · exact .andThen (.eat _ _) fun _ _ => .andThen (hE _) fun _ _ => .andThen (.eat _ _) fun _ _ => .ok _
  split
  · exact .andThen (Bad.typeT _) fun _ _ => .andThen (.name _) fun _ _ => .andThen (.eat _ _) fun _ _ => .andThen (hE _) fun _ _ => .ok _
  split
  · split
    · exact .andThen (hA _) fun _ _ => .andThen (.built _ _) fun _ _ => .ok _
    · exact Bad.targetT hE _ _ _
  · exact .odd _
theorem Bad.stmtK {E : List Tok → PR Ex0} {A : List Tok → PR (List Ex0)} {B : List Tok → PR (List St0)} (hE : BadE E) (hA : BadE A) (hB : BadE B) : BadE (stmtK E A B) := by
  intro l
  unfold Go.Proofs.Ytlcbnlfbbjmpbaa.stmtK
  split
  · exact Bad.branchT hE hB _ _ _
  split
  · exact Bad.branchT hE hB _ _ _
  · exact .andThen (Bad.plainT hE hA _) fun _ _ => .andThen (.eat _ _) fun _ _ => .ok _
theorem Bad.stmtsL {S : List Tok → PR St0} (hS : BadE S) : ∀ n out l, Bad (stmtsL S n out l)
  | 0, _, _ => .odd _
  | n + 1, out, l => by
    simp only [Go.Proofs.Ytlcbnlfbbjmpbaa.stmtsL]
    split
    · exact .ok _
    · exact .andThen (hS _) fun _ _ => Bad.stmtsL hS n _ _
theorem Bad.blockK {S : Option (List Tok → PR St0)} (hS : BadO S) : BadE (blockK S) := by
  intro l
  unfold Go.Proofs.Ytlcbnlfbbjmpbaa.blockK
  split
  · cases S with
    | none => exact .deep _
    | some S => exact Bad.stmtsL (hS S rfl) _ _ _
  · exact .odd _
theorem Bad.blockT : ∀ m, BadE (blockT m)
  | 0 => Bad.blockK fun S h => by cases h
  | m + 1 => Bad.blockK fun S h => by cases h; exact Bad.stmtK (Bad.exprT m) (Bad.argsT (Bad.lowE m)) (Bad.blockT m)
theorem Bad.fieldT : BadE fieldT := fun l => .andThen (Bad.typeT _) fun _ _ => .andThen (.name _) fun _ _ => .ok _
theorem Bad.fieldsL : ∀ n out l, Bad (fieldsL n out l)
  | 0, _, _ => .odd _
  | n + 1, out, l => by
    simp only [Go.Proofs.Ytlcbnlfbbjmpbaa.fieldsL]
    split
    · exact .ok _
    · exact .andThen (Bad.fieldT _) fun _ _ => .andThen (.eat _ _) fun _ _ => Bad.fieldsL n _ _
theorem Bad.paramsL : ∀ n out l, Bad (paramsL n out l)
  | 0, _, _ => .odd _
  | n + 1, out, l => by
    simp only [Go.Proofs.Ytlcbnlfbbjmpbaa.paramsL]
    split
    · exact .ok _
    · refine .andThen ?_ fun _ l => .andThen (Bad.fieldT l) fun e l => Bad.paramsL n _ l
      split; exact .ok _; exact .eat _ _
theorem Bad.structT : BadE structT := fun l => .andThen (.name _) fun _ _ => .andThen (.eat _ _) fun _ _ => .andThen (Bad.fieldsL _ _ _) fun _ _ => .andThen (.eat _ _) fun _ _ => .ok _
theorem Bad.funcT : BadE funcT := fun l => .andThen (Bad.typeT _) fun _ _ => .andThen (.name _) fun _ _ => .andThen (.eat _ _) fun _ _ => .andThen (Bad.paramsL _ _ _) fun _ _ => .andThen (Bad.blockT _ _) fun _ _ => .ok _
theorem Bad.partsL : ∀ n p l, Bad (partsL n p l)
  | 0, _, _ => .ok _
  | n + 1, p, l => by
    simp only [Go.Proofs.Ytlcbnlfbbjmpbaa.partsL]
    split
    · exact .ok _
    split
    · exact .andThen (Bad.structT _) fun _ _ => Bad.partsL n _ _
    · exact .andThen (Bad.funcT _) fun _ _ => Bad.partsL n _ _
/-! ### the walk -/
def gO (p : Pr0) : List AObj := [.cells [.grow 2 p.structs.length (p.structs.map Sr0.row), .grow 3 p.funcs.length (p.funcs.map Fn0.row)], .grow p.structs.length 4, .grow p.funcs.length 7]
def gH (l : List Tok) (d : Nat) (p : Pr0) : List AObj := pO l d :: gO p
def Qg (h : List AObj) : Prop := ∃ l k p, h = gH l k p
set_option maxHeartbeats 4000000 in
theorem parts_l (hx : T0 ext) {l : List Tok} (hl : OkT l) : RunP (partsL l.length ⟨[], []⟩ l) (fun p l' => (.ret (.tuple []), gH l' 0 p)) Qg (G ext 37 [.ptr 0 0, .ptr 1 0] (gH l 0 ⟨[], []⟩)) := by
  unfold gH gO
  rw [G_body hx.clear rfl Try.func37 rfl Try.results37 hv_37 rfl]
  simp (maxSteps := 4000000) (disch := first | (intros; contradiction) | omega) only [go_sem]
  generalize hL : loopA _ _ _ = L
  apply loop_upd hL (by simp (maxSteps := 4000000) (disch := first | (intros; contradiction) | omega) only [go_sem] <;> rfl) (α := Pr0 × List Tok × Nat) (fun s => OkT s.2.1 ∧ s.2.1.length ≤ s.2.2 ∧ s.1.structs.length + s.1.funcs.length + s.2.1.length ≤ l.length ∧ partsL s.2.2 s.1 s.2.1 = partsL l.length ⟨[], []⟩ l)
    (fun s => s.2.1.length) (fun s => []) (fun s => [(0, pO s.2.1 0), (1, .cells [.grow 2 s.1.structs.length (s.1.structs.map Sr0.row), .grow 3 s.1.funcs.length (s.1.funcs.map Fn0.row)]), (2, .grow s.1.structs.length 4), (3, .grow s.1.funcs.length 7)]) (⟨[], []⟩, l, l.length) (by simp (maxSteps := 4000000) (disch := first | (intros; contradiction) | omega) only [go_sem, List.map_nil, List.length_nil] <;> rfl) ⟨hl, Nat.le_refl _, by simp only [List.length_nil]; omega, rfl⟩ ?_
  clear hL
  rintro ⟨p, l1, n⟩ ⟨i1, i2, i4, i5⟩ next ih
  simp only at i1 i2 i4 i5 ih ⊢
  rw [← i5] at ih ⊢
  have hlf := hl.few
  have hr0 := row0 i1
  cases n with
  | zero => obtain ⟨t, r, rfl⟩ := i1.ne; simp at i2
  | succ n =>
    simp only [partsL] at ih ⊢
    by_cases h5 : (hdT l1).kind = 5
    · have h5' := eq_true h5
      rw [if_pos h5]
      simp only [RunP]
      simp (maxSteps := 4000000) (disch := first | (intros; contradiction) | omega) only [go_sem, hr0, h5']
      done
    · rw [if_neg h5] at ih ⊢
      have hi := is_l hx i1 0 [115, 116, 114, 117, 99, 116]
      have hroom1 : room ((p.structs.map Sr0.row).length + 1) 56 := by unfold room; simp; omega
      have hroom2 : room ((p.funcs.map Fn0.row).length + 1) 104 := by unfold room; simp; omega
      cases hs : isT l1 [115, 116, 114, 117, 99, 116] with
      | true =>
        rw [hs, if_pos rfl] at ih
        rw [if_pos rfl]
        rw [hs] at hi
        have h1 := struct_l hx 0 i1 h5
        cases v1 : structT l1 with
        | error dg =>
          obtain ⟨g, q1, l9, k9, rfl⟩ := h1.er' v1
          refine ⟨_, ?_, l9, k9, p, rfl⟩
          unfold gH gO
          simp (maxSteps := 4000000) (disch := first | (intros; contradiction) | omega) only [go_sem, hr0, h5, hi, q1]
          done
        | ok r =>
          obtain ⟨s, l2⟩ := r
          have q1 := h1.ok' v1
          unfold Sr0.av at q1
          obtain ⟨a1, a2⟩ := structT_ok i1 h5 v1
          rw [v1] at ih
          simp only [PR.andThen] at ih ⊢
          simp (maxSteps := 4000000) (disch := first | (intros; contradiction) | omega) only [go_sem, hr0, h5, hi, q1, hroom1]
          exact ih (⟨p.structs ++ [s], p.funcs⟩, l2, n) _ ⟨a1, by simp only; omega, by simp only [List.length_append, List.length_cons, List.length_nil]; omega, rfl⟩ (by simp only; omega) (by simp (maxSteps := 4000000) (disch := first | (intros; contradiction) | omega) only [go_sem, List.map_append, List.map_cons, List.map_nil, List.length_append, List.length_cons, List.length_nil, Sr0.row] <;> rfl)
      | false =>
        rw [hs, if_neg (by simp)] at ih
        rw [if_neg (by simp)]
        rw [hs] at hi
        have h1 := func_l hx i1
        cases v1 : funcT l1 with
        | error dg =>
          obtain ⟨g, q1, l9, k9, rfl⟩ := h1.er' v1
          refine ⟨_, ?_, l9, k9, p, rfl⟩
          unfold gH gO
          simp (maxSteps := 4000000) (disch := first | (intros; contradiction) | omega) only [go_sem, hr0, h5, hi, q1]
          done
        | ok r =>
          obtain ⟨s, l2⟩ := r
          have q1 := h1.ok' v1
          unfold Fn0.av at q1
          obtain ⟨a1, a2⟩ := funcT_ok l1 i1 s l2 v1
          rw [v1] at ih
          simp only [PR.andThen] at ih ⊢
          simp (maxSteps := 4000000) (disch := first | (intros; contradiction) | omega) only [go_sem, hr0, h5, hi, q1, hroom2]
          exact ih (⟨p.structs, p.funcs ++ [s]⟩, l2, n) _ ⟨a1, by simp only; omega, by simp only [List.length_append, List.length_cons, List.length_nil]; omega, rfl⟩ (by simp only; omega) (by simp (maxSteps := 4000000) (disch := first | (intros; contradiction) | omega) only [go_sem, List.map_append, List.map_cons, List.map_nil, List.length_append, List.length_cons, List.length_nil, Fn0.row] <;> rfl)
theorem isend_e (hx : T0 ext) (t : Tok) : G ext 52 [t.av] [] = some (.ret (.d (.bool (decide (t.kind = 5)))), []) := by
  unfold Tok.av
  rw [G_body hx.clear rfl Try.func52 rfl Try.results52 hv_52 rfl]
  by_cases h : t.kind = 5
  · have h' := eq_true h
    simp (maxSteps := 4000000) (disch := first | (intros; contradiction) | omega) only [go_sem, h']
    done
  · simp (maxSteps := 4000000) (disch := first | (intros; contradiction) | omega) only [go_sem, h]
    done
theorem idxEnd_e (hx : T0 ext) {l : List Tok} (hl : OkT l) : G ext 51 [.d (.sl (l.map Tok.row)), .fn 52 [] []] [] = some (.ret (.d (.int .i64 ((l.length : Int) - 1))), []) := by
  have hll : (l.map Tok.row).length = l.length := List.length_map _
  have hlf := hl.few
  obtain ⟨a, t, e1, e2, e3⟩ := hl.end_
  rw [G_body hx.clear rfl Try.func51 rfl Try.results51 hv_51 rfl]
  simp (maxSteps := 4000000) (disch := first | (intros; contradiction) | omega) only [go_sem]
  generalize hL : loopA _ _ _ = L
  apply loop_upd hL (by simp (maxSteps := 4000000) (disch := first | (intros; contradiction) | omega) only [go_sem] <;> rfl) (α := Nat) (fun i => i < l.length) (fun i => l.length - i) (fun i => [(5, .any), (8, .d (.int .i64 i))]) (fun _ => []) 0 (by simp (maxSteps := 4000000) (disch := first | (intros; contradiction) | omega) only [go_sem] <;> rfl) (by rw [e1]; simp) ?_
  clear hL
  intro i hi next ih
  have hlt : (i : Int) < ((l.map Tok.row).length : Int) := by omega
  have hi0 : (0 : Int) ≤ (i : Int) := by omega
  obtain ⟨x, hxg⟩ : ∃ x, l[i]? = some x := ⟨l[i], List.getElem?_eq_getElem hi⟩
  have hr : (l.map Tok.row)[i]? = some (Tok.row x) := by rw [List.getElem?_map, hxg]; rfl
  simp only [Tok.row] at hr
  have hc := isend_e hx x
  unfold Tok.av at hc
  have hal : a.length + 1 = l.length := by rw [e1]; simp
  by_cases h5 : x.kind = 5
  · have h5' := decide_eq_true h5
    rw [h5'] at hc
    have hii : (i : Int) = (l.length : Int) - 1 := by
      have : ¬ i < a.length := by
        intro h
        rw [e1, List.getElem?_append_left h] at hxg
        exact e3 x (List.mem_of_getElem? hxg) h5
      omega
    simp (maxSteps := 4000000) (disch := first | (intros; contradiction) | omega) only [go_sem, hlt, hi0, hr, hc]
    rw [hii]
  · have h5' : decide (x.kind = 5) = false := by simpa using h5
    rw [h5'] at hc
    have hw : IntKind.i64.wrap ((i : Int) + 1) = ((i + 1 : Nat) : Int) := by rw [wrap64 (by omega) (by omega)]; omega
    have hi2 : i + 1 < l.length := by
      have : i ≠ a.length := by
        intro h
        rw [e1, h, List.getElem?_append_right (Nat.le_refl _)] at hxg
        simp at hxg
        subst hxg
        exact h5 e2
      omega
    simp (maxSteps := 4000000) (disch := first | (intros; contradiction) | omega) only [go_sem, hlt, hi0, hr, hc, hw]
    exact ih (i + 1) _ hi2 (by omega) (by simp (maxSteps := 4000000) (disch := first | (intros; contradiction) | omega) only [go_sem] <;> rfl)
end Go.Proofs.Ytlcbnlfbbjmpbaa
