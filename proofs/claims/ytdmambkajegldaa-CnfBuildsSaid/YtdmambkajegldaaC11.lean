/- cnf's builder, and the law's own. Conditions: none. -/
import Derived.Test.YtdmambkajegldaaC9
set_option linter.unusedSimpArgs false
set_option linter.unusedVariables false
namespace Go.Proofs.Ytdmambkajegldaa
open Go Go.Ab
variable {ext : Sem'}
theorem new_e (hx : TX ext) : G ext 12 [] [] = some (.ret (.ptr 0 0), bldO 0 0 []) := by
  rw [G_body hx.clear rfl Try.func12 rfl Try.results12 hv_12 rfl]
  simp only [bldO, List.map_nil]
  simp (config := { maxSteps := 4000000 }) (disch := first | (intros; contradiction) | omega) only [go_sem]
theorem var_e (hx : TX ext) (n : Int) (e : Nat) (out : List (List Int)) : G ext 13 [.ptr 0 0] (bldO n e out) = some (.ret (.d (.int .i64 (IntKind.wrap .i64 (n + 1)))), bldO (IntKind.wrap .i64 (n + 1)) e out) := by
  rw [G_body hx.clear rfl Try.func13 rfl Try.results13 hv_13 rfl]
  simp only [bldO]
  simp (config := { maxSteps := 4000000 }) (disch := first | (intros; contradiction) | omega) only [go_sem]
theorem var0_e (hx : TX ext) : G ext 13 [.d .nilp] [] = some (.ret (.d (.int .i64 0)), []) := by
  rw [G_body hx.clear rfl Try.func13 rfl Try.results13 hv_13 rfl]
  simp (config := { maxSteps := 4000000 }) (disch := first | (intros; contradiction) | omega) only [go_sem]
def negs (c : List Int) : List Int := c.map fun x => IntKind.wrap .i64 (0 - x)
set_option maxHeartbeats 2000000 in
theorem imply_e (hx : TX ext) (n : Int) (e : Nat) (out : List (List Int)) (a b : List Int) (ho : out.length ≤ 1000) (ha : a.length ≤ 100) (hb : b.length ≤ 100) : G ext 16 [.ptr 0 0, .d (.sl (a.map rowI)), .d (.sl (b.map rowI))] (bldO n e out) = some (.ret (.tuple []), bldC n e out (negs a ++ b)) := by
  have hal : (a.map rowI).length = a.length := List.length_map _
  have hbl : (b.map rowI).length = b.length := List.length_map _
  have hcl := G_ext (hx.bclause n e out (negs a ++ b) ho (by simp [negs]; omega))
  have hfit : fits 1 (b.map rowI) := by intro row h; obtain ⟨x, _, rfl⟩ := List.mem_map.1 h; rfl
  rw [G_body hx.clear rfl Try.func16 rfl Try.results16 hv_16 rfl]
  rw [List.map_append] at hcl
  have key : ∀ (o1 o2 : AObj), bldC n e out (negs a ++ b) = [o1, o2] → (∀ f, renO f o1 = renO f o1) → True := fun _ _ _ _ => trivial
  have hO : bldO n e out = [.cells [.d (.int .i64 n), .grow 1 e (out.map rowC)], .grow e 1] := rfl
  have hC : bldC n e out (negs a ++ b) = [.cells [.d (.int .i64 n), .grow 1 (if allP n (negs a ++ b) then e + 1 else e) ((if allP n (negs a ++ b) then out ++ [negs a ++ b] else out).map rowC)], .grow (if allP n (negs a ++ b) then e + 1 else e) 1] := by
    unfold bldC bldO
    split <;> rfl
  rw [hC] at hcl ⊢
  rw [hO] at hcl ⊢
  generalize (if allP n (negs a ++ b) then e + 1 else e) = e2 at hcl ⊢
  generalize (if allP n (negs a ++ b) then out ++ [negs a ++ b] else out) = out2 at hcl ⊢
  simp (config := { maxSteps := 4000000 }) (disch := first | (intros; contradiction) | omega) only [go_sem]
  generalize hL : loopA _ _ _ = L
  apply range_upd hL (by simp (config := { maxSteps := 4000000 }) (disch := first | (intros; contradiction) | omega) only [go_sem] <;> rfl) a rowI (α := List Int) (fun rest k d => d ++ negs rest = negs a ∧ d.length = k) (fun k d => [(7, .grow 2 d.length (d.map rowI)), (9, .any), (14, .d (.int .i64 k))]) (fun k d => [(2, .grow d.length 1)]) [] (by simp (config := { maxSteps := 4000000 }) (disch := first | (intros; contradiction) | omega) only [go_sem] <;> rfl) ⟨rfl, rfl⟩ ?_ ?_
  · rintro x rest k d ⟨i1, i2⟩ hlt hr hget hk _ next ih
    clear hL
    have hroom : room ((d.map rowI).length + 1) 8 := by have := room_n8 (n := d.length + 1) (by omega); simpa only [List.length_map] using this
    simp only [rowI] at hr
    simp (config := { maxSteps := 4000000 }) (disch := first | (intros; contradiction) | omega) only [go_sem, hlt, hr, hroom]
    rw [wrap64 (x := (k : Int) + 1) (by omega) (by omega)]
    exact ih (d ++ [IntKind.wrap .i64 (0 - x)]) _ ⟨by rw [← i1]; simp [negs], by simp; omega⟩ (by simp (config := { maxSteps := 4000000 }) (disch := first | (intros; contradiction) | omega) only [go_sem, List.map_append, List.length_append, List.length_cons, List.length_nil, List.map_cons, List.map_nil, rowI] <;> rfl)
  · rintro k d ⟨i1, i2⟩ hlt hk next
    clear hL
    have i1 : d ++ [] = negs a := i1
    rw [List.append_nil] at i1
    subst i1
    have hroom : room (((negs a).map rowI).length + (b.map rowI).length) 8 := by have := room_n8 (n := (negs a).length + b.length) (by omega); simpa only [List.length_map] using this
    simp (config := { maxSteps := 4000000 }) (disch := first | (intros; contradiction) | omega) only [go_sem, hlt, hroom, hfit, hcl]
theorem imply0_e (hx : TX ext) (a b : List Int) (ha : a.length ≤ 100) (hb : b.length ≤ 100) : G ext 16 [.d .nilp, .d (.sl (a.map rowI)), .d (.sl (b.map rowI))] [] = some (.ret (.tuple []), []) := by
  have hal : (a.map rowI).length = a.length := List.length_map _
  have hbl : (b.map rowI).length = b.length := List.length_map _
  have hcl := G_ext (hx.bclause0 (negs a ++ b) (by simp [negs]; omega))
  have hfit : fits 1 (b.map rowI) := by intro row h; obtain ⟨x, _, rfl⟩ := List.mem_map.1 h; rfl
  rw [G_body hx.clear rfl Try.func16 rfl Try.results16 hv_16 rfl]
  rw [List.map_append] at hcl
  simp (config := { maxSteps := 4000000 }) (disch := first | (intros; contradiction) | omega) only [go_sem]
  generalize hL : loopA _ _ _ = L
  apply range_upd hL (by simp (config := { maxSteps := 4000000 }) (disch := first | (intros; contradiction) | omega) only [go_sem] <;> rfl) a rowI (α := List Int) (fun rest k d => d ++ negs rest = negs a ∧ d.length = k) (fun k d => [(7, .grow 0 d.length (d.map rowI)), (9, .any), (14, .d (.int .i64 k))]) (fun k d => [(0, .grow d.length 1)]) [] (by simp (config := { maxSteps := 4000000 }) (disch := first | (intros; contradiction) | omega) only [go_sem] <;> rfl) ⟨rfl, rfl⟩ ?_ ?_
  · rintro x rest k d ⟨i1, i2⟩ hlt hr hget hk _ next ih
    clear hL
    have hroom : room ((d.map rowI).length + 1) 8 := by have := room_n8 (n := d.length + 1) (by omega); simpa only [List.length_map] using this
    simp only [rowI] at hr
    simp (config := { maxSteps := 4000000 }) (disch := first | (intros; contradiction) | omega) only [go_sem, hlt, hr, hroom]
    rw [wrap64 (x := (k : Int) + 1) (by omega) (by omega)]
    exact ih (d ++ [IntKind.wrap .i64 (0 - x)]) _ ⟨by rw [← i1]; simp [negs], by simp; omega⟩ (by simp (config := { maxSteps := 4000000 }) (disch := first | (intros; contradiction) | omega) only [go_sem, List.map_append, List.length_append, List.length_cons, List.length_nil, List.map_cons, List.map_nil, rowI] <;> rfl)
  · rintro k d ⟨i1, i2⟩ hlt hk next
    clear hL
    have i1 : d ++ [] = negs a := i1
    rw [List.append_nil] at i1
    subst i1
    have hroom : room (((negs a).map rowI).length + (b.map rowI).length) 8 := by have := room_n8 (n := (negs a).length + b.length) (by omega); simpa only [List.length_map] using this
    simp (config := { maxSteps := 4000000 }) (disch := first | (intros; contradiction) | omega) only [go_sem, hlt, hroom, hfit, hcl]
def bldA (n : Int) (e : Nat) (out : List (List Int)) (c : List Int) : Nat × List (List Int) := (if allP n c then e + 1 else e, if allP n c then out ++ [c] else out)
theorem bldC_eq (n : Int) (e : Nat) (out : List (List Int)) (c : List Int) : bldC n e out c = bldO n (bldA n e out c).1 (bldA n e out c).2 := by
  unfold bldC bldA
  split <;> rfl
set_option maxHeartbeats 1000000 in
theorem bsame_e (hx : TX ext) (n : Int) (e : Nat) (out : List (List Int)) (a c : Int) (ho : out.length ≤ 900) (ha : -1000000 ≤ a ∧ a ≤ 1000000) (hc : -1000000 ≤ c ∧ c ≤ 1000000) : G ext 17 [.ptr 0 0, .d (.int .i64 a), .d (.int .i64 c)] (bldO n e out) = some (.ret (.tuple []), bldC n (bldA n e out [0 - a, c]).1 (bldA n e out [0 - a, c]).2 [a, 0 - c]) := by
  have h1 := G_ext (hx.bclause n e out [0 - a, c] (by omega) (by simp))
  have hl : (bldA n e out [0 - a, c]).2.length ≤ 1000 := by unfold bldA; split <;> simp <;> omega
  have h2 := G_ext (hx.bclause n (bldA n e out [0 - a, c]).1 (bldA n e out [0 - a, c]).2 [a, 0 - c] hl (by simp))
  rw [bldC_eq] at h1
  generalize (bldA n e out [0 - a, c]).1 = e1 at h1 h2 ⊢
  generalize (bldA n e out [0 - a, c]).2 = out1 at h1 h2 hl ⊢
  rw [bldC_eq] at h2 ⊢
  generalize (bldA n e1 out1 [a, 0 - c]).1 = e2 at h2 ⊢
  generalize (bldA n e1 out1 [a, 0 - c]).2 = out2 at h2 ⊢
  rw [G_body hx.clear rfl Try.func17 rfl Try.results17 hv_17 rfl]
  simp only [bldO, List.map_cons, List.map_nil, rowI] at h1 h2 ⊢
  simp (config := { maxSteps := 4000000 }) (disch := first | (intros; contradiction) | omega) only [go_sem, h1, h2, wrap64]
theorem bsame0_e (hx : TX ext) (a c : Int) (ha : -1000000 ≤ a ∧ a ≤ 1000000) (hc : -1000000 ≤ c ∧ c ≤ 1000000) : G ext 17 [.d .nilp, .d (.int .i64 a), .d (.int .i64 c)] [] = some (.ret (.tuple []), []) := by
  have h1 := G_ext (hx.bclause0 [0 - a, c] (by simp))
  have h2 := G_ext (hx.bclause0 [a, 0 - c] (by simp))
  rw [G_body hx.clear rfl Try.func17 rfl Try.results17 hv_17 rfl]
  simp only [List.map_cons, List.map_nil, rowI] at h1 h2
  simp (config := { maxSteps := 4000000 }) (disch := first | (intros; contradiction) | omega) only [go_sem, h1, h2, wrap64]
/-- A clause put to a formula, if all its literals are some. -/
def putP (f : Fm) (c : List Int) : Fm := if rightP ⟨f.n, [c]⟩ then ⟨f.n, f.l ++ [c]⟩ else f
set_option maxHeartbeats 1000000 in
theorem put_e (hx : TX ext) (f : Fm) (c : List Int) (hl : f.l.length ≤ 1000) (hc : c.length ≤ 1000) : G ext 15 [f.av, .d (.sl (c.map rowI))] [] = some (.ret (putP f c).av, []) := by
  have hll : (f.l.map rowC).length = f.l.length := List.length_map _
  have hr := rright_e hx ⟨f.n, [c]⟩ ⟨by simp, fun d hd => by simp at hd; subst hd; omega⟩
  have hroom1 : room (f.l.map rowC).length 24 := by have := room_c (n := f.l.length) (by omega); simpa only [List.length_map] using this
  have hroom2 : room ((f.l.map rowC).length + 1) 24 := by have := room_c (n := f.l.length + 1) (by omega); simpa only [List.length_map] using this
  have hfit : fits 1 (f.l.map rowC) := by intro row h; obtain ⟨x, _, rfl⟩ := List.mem_map.1 h; rfl
  rw [G_body hx.clear rfl Try.func15 rfl Try.results15 hv_15 rfl]
  unfold putP
  simp only [Fm.av, List.map_cons, List.map_nil, rowC] at hr ⊢
  cases h : rightP ⟨f.n, [c]⟩ with
  | false =>
    rw [h] at hr
    simp only [Bool.false_eq_true, if_false]
    simp (config := { maxSteps := 4000000 }) (disch := first | (intros; contradiction) | omega) only [go_sem, hr]
  | true =>
    rw [h] at hr
    simp only [if_true]
    simp (config := { maxSteps := 4000000 }) (disch := first | (intros; contradiction) | omega) only [go_sem, hr, hroom1, hroom2, hfit, List.map_append, List.map_cons, List.map_nil, rowC]
end Go.Proofs.Ytdmambkajegldaa
