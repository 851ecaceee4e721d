/- The program's lines of a statement. Conditions: none. -/
import Derived.Test.YtdpkdeimliohmaaDoorK7
set_option linter.unusedSimpArgs false
set_option linter.unusedVariables false
namespace Go.Proofs.YtdpkdeimliohmaaDoor
open Go Go.Ab
variable {ext : Sem'}
def BlkW (ext : Sem') (n : Nat) (l : List St0) : Prop := ∀ (ov : Bool) (o : AObj) (ov2 : Bool) (o2 : AObj), Listens o → feedW (linL (n + 1) l) (ov, o) = some (ov2, o2) → G ext 36 [.ptr 0 0, .d (.sl (l.map St0.row))] [wO ov n, o] = some (.ret (.tuple []), [wO ov2 n, o2])
def StmW (ext : Sem') (n : Nat) (s : St0) : Prop := ∀ (ov : Bool) (o : AObj) (ov2 : Bool) (o2 : AObj), Listens o → feedW (linS n s) (ov, o) = some (ov2, o2) → G ext 22 [.ptr 0 0, s.agg] [wO ov n, o] = some (.ret (.tuple []), [wO ov2 n, o2])
theorem feed_bind {a b : List Str} {s : Bool × AObj} {r : Bool × AObj} (hl : Listens s.2) (h : feedW (a ++ b) s = some r) : ∃ ov o, feedW a s = some (ov, o) ∧ Listens o ∧ feedW b (ov, o) = some r := by
  rw [feedW_append] at h
  cases ha : feedW a s with
  | none => rw [ha] at h; cases h
  | some p =>
    obtain ⟨ov, o⟩ := p
    rw [ha] at h
    exact ⟨ov, o, rfl, feedW_listens hl ha, h⟩
set_option maxHeartbeats 1000000 in
theorem sblock_e (hx : T3 ext) (n : Nat) (l : List St0) (hb : n + 1 + sizL l ≤ 4000) (hS : ∀ s, s ∈ l → StmW ext (n + 1) s) : BlkW ext n l := by
  intro ov o ov2 o2 hl h
  have hll : (l.map St0.row).length = l.length := List.length_map _
  have hkl := sizL_len l
  have hw1 : IntKind.wrap .i64 ((n : Int) + 1) = ((n + 1 : Nat) : Int) := by rw [wrap64 (by omega) (by omega)]; omega
  have hw2 : IntKind.wrap .i64 (((n + 1 : Nat) : Int) - 1) = (n : Int) := by rw [wrap64 (by omega) (by omega)]; omega
  unfold wO
  rw [G_body hx.clear rfl Tryd.func36 rfl Tryd.results36 hv_36 rfl]
  simp (maxSteps := 4000000) (disch := first | (intros; contradiction) | omega) only [go_sem, hl.refs, hw1]
  generalize hL : loopA _ _ _ = L
  apply range_upd hL (by simp (maxSteps := 4000000) (disch := first | (intros; contradiction) | omega) only [go_sem, hl.refs] <;> rfl) l St0.row (α := Bool × AObj) (fun rest k a => Listens a.2 ∧ feedW (linL (n + 1) rest) a = some (ov2, o2)) (fun k a => [(15, .d (.int .i64 k))]) (fun k a => [(0, .cells [.yld 1, .d (.int .i64 ((n + 1 : Nat) : Int)), .d (.bool a.1)]), (1, a.2)]) (ov, o) (by simp (maxSteps := 4000000) (disch := first | (intros; contradiction) | omega) only [go_sem, hl.refs] <;> rfl) ⟨hl, h⟩ ?_ ?_
  · rintro x rest k' ⟨v, p⟩ hi hlt hr hxx hk _ next ih2
    clear hL
    obtain ⟨hi1, hi2⟩ := hi
    simp only at hi1 hi2 ih2 ⊢
    have hmem := List.mem_of_getElem? hxx
    simp only [linL] at hi2
    obtain ⟨v1, p1, q1, q2, q3⟩ := feed_bind hi1 hi2
    have c1 := hS x hmem v p v1 p1 hi1 q1
    rw [St0.row_eq] at hr
    unfold St0.agg wO at c1
    have hk0 : (0 : Int) ≤ (k' : Int) := by omega
    have hwk : IntKind.wrap .i64 ((k' : Int) + 1) = ((k' + 1 : Nat) : Int) := by rw [wrap64 (by omega) (by omega)]; omega
    simp (maxSteps := 4000000) (disch := first | (intros; contradiction) | omega) only [go_sem, hlt, hr, hk0, hi1.refs, hi1.obj, hi1.ren, q2.refs, q2.ren, c1, hwk]
    exact ih2 (v1, p1) _ ⟨q2, q3⟩ (by simp (maxSteps := 4000000) (disch := first | (intros; contradiction) | omega) only [go_sem, q2.refs] <;> rfl)
  · rintro k' ⟨v, p⟩ hi hlt hk next
    clear hL
    obtain ⟨hi1, hi2⟩ := hi
    simp only [linL, feedW, Option.some.injEq, Prod.mk.injEq] at hi1 hi2 ⊢
    obtain ⟨rfl, rfl⟩ := hi2
    simp (maxSteps := 4000000) (disch := first | (intros; contradiction) | omega) only [go_sem, hlt, hi1.refs, hw2]
    done
theorem exp_roomS {s : St0} (h : sizS s ≤ 4000) (ho : okS s) (hx : T3 ext) : ∀ x, x ∈ s.e → ShE ext 12 x ∧ (showE x).length ≤ 30000000 := fun x hm => by
  have h1 := sizS_eq s
  have h2 := cntEs_mem hm
  rw [okS_eq] at ho
  have h3 := okEs_mem ho.2.2.1 hm
  exact ⟨sexpr_e hx (cntE x) x (Nat.le_refl _) (by omega) h3, by have := showE_len (cntE x) x (Nat.le_refl _) h3; omega⟩
set_option maxHeartbeats 4000000 in
theorem sstmt1_e (hx : T3 ext) (n : Nat) (s : St0) (hb : n + sizS s ≤ 4000) (ho : okS s) (hB1 : BlkW ext n s.body) (hB2 : BlkW ext n s.els) : StmW ext n s := by
  intro ov o ov2 o2 hl h
  have hE := exp_roomS (by omega) ho hx
  have hse := sizS_eq s
  have he0 := e_len ho 0
  have he1 := e_len ho 1
  rw [okS_eq] at ho
  obtain ⟨⟨h1, h2⟩, ⟨h3, h4, h5, h6, h7⟩, h8, h9, h10, h11⟩ := ho
  have hlen2 : s.e.length ≤ 2 := by
    by_cases q : s.kind = 3
    · have := h4 q; omega
    · by_cases q2 : s.kind = 6 ∨ s.kind = 7 ∨ s.kind = 9
      · have := h5 q2; omega
      · have := h3 (by omega); omega
  have hll : (s.els.map St0.row).length = s.els.length := List.length_map _
  have hel : (s.e.map Ex0.row).length = s.e.length := List.length_map _
  have hty := stype_e hx s.t h1
  have htl := typ_len h1
  replace h2 := h2.1
  unfold Tp.av at hty
  rw [linS_eq] at h
  unfold wO St0.agg
  rw [G_body hx.clear rfl Tryd.func22 rfl Tryd.results22 hv_22 rfl]
  simp (maxSteps := 4000000) (disch := first | (intros; contradiction) | omega) only [go_sem, hl.refs]
  generalize hL : loopA _ _ _ = L
  apply range_upd hL (by simp (maxSteps := 4000000) (disch := first | (intros; contradiction) | omega) only [go_sem, hl.refs] <;> rfl) s.e Ex0.row (α := List Ex0) (fun rest k a => a ++ rest = s.e ∧ a.length = k) (fun k a => [(16, .d (.int .i64 k))]) (fun k a => [(3, .cells [.d (.str ((a.map showE).getD 0 [])), .d (.str ((a.map showE).getD 1 []))])]) [] (by simp (maxSteps := 4000000) (disch := first | (intros; contradiction) | omega) only [go_sem, hl.refs] <;> rfl) ⟨rfl, rfl⟩ ?_ ?_
  · intro x rest k' a hi hlt hr hxx hk _ next ih2
    clear hL
    obtain ⟨hi1, hi2⟩ := hi
    have hmem := List.mem_of_getElem? hxx
    obtain ⟨c1, c2⟩ := hE x hmem
    rw [Ex0.row_eq] at hr
    unfold ShE Ex0.agg at c1
    have hlen : a.length + 1 + rest.length = s.e.length := by rw [← hi1]; simp; omega
    have a0 : andI .i64 0 1 = 0 := by decide
    have a1 : andI .i64 1 1 = 1 := by decide
    have hw0 : IntKind.wrap .i64 (0 + 1) = ((0 + 1 : Nat) : Int) := by decide
    have hw1 : IntKind.wrap .i64 (1 + 1) = ((1 + 1 : Nat) : Int) := by decide
    match a, hi1, hi2, hlen, ih2 with
    | [], hi1, hi2, hlen, ih2 =>
      simp only [List.length_nil] at hi2
      subst hi2
      have hlt1 : (0 : Int) < ((s.e.map Ex0.row).length : Int) := by omega
      simp (maxSteps := 4000000) (disch := first | (intros; contradiction) | omega) only [go_sem, hlt1, hr, c1, a0, hw0, hl.refs, hl.obj, hl.ren]
      exact ih2 ([] ++ [x]) _ ⟨by rw [← hi1]; simp, rfl⟩ (by simp (maxSteps := 4000000) (disch := first | (intros; contradiction) | omega) only [go_sem, hl.refs] <;> rfl)
    | [y], hi1, hi2, hlen, ih2 =>
      simp only [List.length_cons, List.length_nil] at hi2
      subst hi2
      have hlt1 : (1 : Int) < ((s.e.map Ex0.row).length : Int) := by omega
      simp only [Nat.zero_add] at hr
      simp (maxSteps := 4000000) (disch := first | (intros; contradiction) | omega) only [go_sem, hlt1, hr, c1, a1, hw1, hl.refs, hl.obj, hl.ren]
      exact ih2 ([y] ++ [x]) _ ⟨by rw [← hi1]; simp, rfl⟩ (by simp (maxSteps := 4000000) (disch := first | (intros; contradiction) | omega) only [go_sem, hl.refs] <;> rfl)
    | y :: z :: a, hi1, hi2, hlen, ih2 => exfalso; simp only [List.length_cons] at hlen; omega
  · intro k' a hi hlt hk next
    clear hL
    obtain ⟨hi1, hi2⟩ := hi
    rw [List.append_nil] at hi1
    subst hi1
    by_cases k1 : s.kind = 1
    · have q := eq_true k1
      have hx1 : linK n s.kind s.t s.name (s.e.map showE) (linL (n + 1) s.body) (linL (n + 1) s.els) (decide (0 < s.els.length)) = [padP n ++ ([typT s.t, [32], s.name, [32, 61, 32], (s.e.map showE).getD 0 [], [59]] : List Str).flatten] := by
        rw [k1]; unfold linK; simp
      rw [hx1] at h
      have hline := line_e hx n (by omega) ov o hl [typT s.t, [32], s.name, [32, 61, 32], (s.e.map showE).getD 0 [], [59]] (by simp) (by simp only [List.flatten_cons, List.flatten_nil, List.length_append, List.length_cons, List.length_nil]; omega) ov2 o2 h
      have hl2 := feedW_listens hl h
      simp only [strR, List.map_cons, List.map_nil] at hline
      unfold wO at hline
      clear h hx1
      generalize (s.e.map showE).getD 0 [] = x0 at *
      generalize (s.e.map showE).getD 1 [] = x1 at *
      simp (maxSteps := 4000000) (disch := first | (intros; contradiction) | omega) only [go_sem, hlt, q, hty, hline, hl.refs, hl.obj, hl.ren, hl2.refs, hl2.ren]
      done
    by_cases k2 : s.kind = 2
    · have q := eq_true k2
      have hx1 : linK n s.kind s.t s.name (s.e.map showE) (linL (n + 1) s.body) (linL (n + 1) s.els) (decide (0 < s.els.length)) = [padP n ++ ([s.name, [32, 61, 32], (s.e.map showE).getD 0 [], [59]] : List Str).flatten] := by
        rw [k2]; unfold linK; simp
      rw [hx1] at h
      have hline := line_e hx n (by omega) ov o hl [s.name, [32, 61, 32], (s.e.map showE).getD 0 [], [59]] (by simp) (by simp only [List.flatten_cons, List.flatten_nil, List.length_append, List.length_cons, List.length_nil]; omega) ov2 o2 h
      have hl2 := feedW_listens hl h
      simp only [strR, List.map_cons, List.map_nil] at hline
      unfold wO at hline
      clear h hx1
      generalize (s.e.map showE).getD 0 [] = x0 at *
      generalize (s.e.map showE).getD 1 [] = x1 at *
      simp (maxSteps := 4000000) (disch := first | (intros; contradiction) | omega) only [go_sem, hlt, q, k1, hline, hl.refs, hl.obj, hl.ren, hl2.refs, hl2.ren]
      done
    by_cases k3 : s.kind = 3
    · have q := eq_true k3
      have hx1 : linK n s.kind s.t s.name (s.e.map showE) (linL (n + 1) s.body) (linL (n + 1) s.els) (decide (0 < s.els.length)) = [padP n ++ ([(s.e.map showE).getD 0 [], [45, 62], s.name, [32, 61, 32], (s.e.map showE).getD 1 [], [59]] : List Str).flatten] := by
        rw [k3]; unfold linK; simp
      rw [hx1] at h
      have hline := line_e hx n (by omega) ov o hl [(s.e.map showE).getD 0 [], [45, 62], s.name, [32, 61, 32], (s.e.map showE).getD 1 [], [59]] (by simp) (by simp only [List.flatten_cons, List.flatten_nil, List.length_append, List.length_cons, List.length_nil]; omega) ov2 o2 h
      have hl2 := feedW_listens hl h
      simp only [strR, List.map_cons, List.map_nil] at hline
      unfold wO at hline
      clear h hx1
      generalize (s.e.map showE).getD 0 [] = x0 at *
      generalize (s.e.map showE).getD 1 [] = x1 at *
      simp (maxSteps := 4000000) (disch := first | (intros; contradiction) | omega) only [go_sem, hlt, q, k1, k2, hline, hl.refs, hl.obj, hl.ren, hl2.refs, hl2.ren]
      done
    by_cases k4 : s.kind = 4
    · have q := eq_true k4
      by_cases hel4 : 0 < s.els.length
      · have hel' : ((0 : Int) < ((s.els.map St0.row).length : Int)) = True := eq_true (by rw [hll]; omega)
        have hx1 : linK n s.kind s.t s.name (s.e.map showE) (linL (n + 1) s.body) (linL (n + 1) s.els) (decide (0 < s.els.length)) = [padP n ++ ([[105, 102, 32, 40], (s.e.map showE).getD 0 [], [41, 32, 123]] : List Str).flatten] ++ (linL (n + 1) s.body ++ ([padP n ++ ([[125, 32, 101, 108, 115, 101, 32, 123]] : List Str).flatten] ++ (linL (n + 1) s.els ++ [padP n ++ ([[125]] : List Str).flatten]))) := by
          rw [k4]; unfold linK; simp [hel4]
        rw [hx1] at h
        obtain ⟨v1, p1, q1, l1, h⟩ := feed_bind hl h
        obtain ⟨v2, p2, q2, l2, h⟩ := feed_bind l1 h
        obtain ⟨v3, p3, q3, l3, h⟩ := feed_bind l2 h
        obtain ⟨v4, p4, q4, l4, h⟩ := feed_bind l3 h
        have g1 := line_e hx n (by omega) ov o hl [[105, 102, 32, 40], (s.e.map showE).getD 0 [], [41, 32, 123]] (by simp) (by simp only [List.flatten_cons, List.flatten_nil, List.length_append, List.length_cons, List.length_nil]; omega) v1 p1 q1
        have g2 := hB1 v1 p1 v2 p2 l1 q2
        have g3 := line_e hx n (by omega) v2 p2 l2 [[125, 32, 101, 108, 115, 101, 32, 123]] (by decide) (by decide) v3 p3 q3
        have g4 := hB2 v3 p3 v4 p4 l3 q4
        have g5 := line_e hx n (by omega) v4 p4 l4 [[125]] (by decide) (by decide) ov2 o2 h
        have l5 := feedW_listens l4 h
        simp only [strR, List.map_cons, List.map_nil] at g1 g3 g5
        unfold wO at g1 g2 g3 g4 g5
        clear h hx1 q1 q2 q3 q4
        generalize (s.e.map showE).getD 0 [] = x0 at *
        generalize (s.e.map showE).getD 1 [] = x1 at *
        simp (maxSteps := 4000000) (disch := first | (intros; contradiction) | omega) only [go_sem, hlt, q, k1, k2, k3, hel', g1, g2, g3, g4, g5, hl.refs, hl.obj, hl.ren, l1.refs, l1.obj, l1.ren, l2.refs, l2.obj, l2.ren, l3.refs, l3.obj, l3.ren, l4.refs, l4.obj, l4.ren, l5.refs, l5.ren]
        done
      · have hel' : ¬ ((0 : Int) < ((s.els.map St0.row).length : Int)) := by rw [hll]; omega
        have hx1 : linK n s.kind s.t s.name (s.e.map showE) (linL (n + 1) s.body) (linL (n + 1) s.els) (decide (0 < s.els.length)) = [padP n ++ ([[105, 102, 32, 40], (s.e.map showE).getD 0 [], [41, 32, 123]] : List Str).flatten] ++ (linL (n + 1) s.body ++ [padP n ++ ([[125]] : List Str).flatten]) := by
          rw [k4]; unfold linK; simp [hel4]
        rw [hx1] at h
        obtain ⟨v1, p1, q1, l1, h⟩ := feed_bind hl h
        obtain ⟨v2, p2, q2, l2, h⟩ := feed_bind l1 h
        have g1 := line_e hx n (by omega) ov o hl [[105, 102, 32, 40], (s.e.map showE).getD 0 [], [41, 32, 123]] (by simp) (by simp only [List.flatten_cons, List.flatten_nil, List.length_append, List.length_cons, List.length_nil]; omega) v1 p1 q1
        have g2 := hB1 v1 p1 v2 p2 l1 q2
        have g5 := line_e hx n (by omega) v2 p2 l2 [[125]] (by decide) (by decide) ov2 o2 h
        have l5 := feedW_listens l2 h
        simp only [strR, List.map_cons, List.map_nil] at g1 g5
        unfold wO at g1 g2 g5
        clear h hx1 q1 q2
        generalize (s.e.map showE).getD 0 [] = x0 at *
        generalize (s.e.map showE).getD 1 [] = x1 at *
        simp (maxSteps := 4000000) (disch := first | (intros; contradiction) | omega) only [go_sem, hlt, q, k1, k2, k3, hel', g1, g2, g5, hl.refs, hl.obj, hl.ren, l1.refs, l1.obj, l1.ren, l2.refs, l2.obj, l2.ren, l5.refs, l5.ren]
        done
    by_cases k5 : s.kind = 5
    · have q := eq_true k5
      have hx1 : linK n s.kind s.t s.name (s.e.map showE) (linL (n + 1) s.body) (linL (n + 1) s.els) (decide (0 < s.els.length)) = [padP n ++ ([[119, 104, 105, 108, 101, 32, 40], (s.e.map showE).getD 0 [], [41, 32, 123]] : List Str).flatten] ++ (linL (n + 1) s.body ++ [padP n ++ ([[125]] : List Str).flatten]) := by
        rw [k5]; unfold linK; simp
      rw [hx1] at h
      obtain ⟨v1, p1, q1, l1, h⟩ := feed_bind hl h
      obtain ⟨v2, p2, q2, l2, h⟩ := feed_bind l1 h
      have g1 := line_e hx n (by omega) ov o hl [[119, 104, 105, 108, 101, 32, 40], (s.e.map showE).getD 0 [], [41, 32, 123]] (by simp) (by simp only [List.flatten_cons, List.flatten_nil, List.length_append, List.length_cons, List.length_nil]; omega) v1 p1 q1
      have g2 := hB1 v1 p1 v2 p2 l1 q2
      have g5 := line_e hx n (by omega) v2 p2 l2 [[125]] (by decide) (by decide) ov2 o2 h
      have l5 := feedW_listens l2 h
      simp only [strR, List.map_cons, List.map_nil] at g1 g5
      unfold wO at g1 g2 g5
      clear h hx1 q1 q2
      generalize (s.e.map showE).getD 0 [] = x0 at *
      generalize (s.e.map showE).getD 1 [] = x1 at *
      simp (maxSteps := 4000000) (disch := first | (intros; contradiction) | omega) only [go_sem, hlt, q, k1, k2, k3, k4, g1, g2, g5, hl.refs, hl.obj, hl.ren, l1.refs, l1.obj, l1.ren, l2.refs, l2.obj, l2.ren, l5.refs, l5.ren]
      done
    by_cases k6 : s.kind = 6
    · have q := eq_true k6
      have hx1 : linK n s.kind s.t s.name (s.e.map showE) (linL (n + 1) s.body) (linL (n + 1) s.els) (decide (0 < s.els.length)) = [padP n ++ ([[98, 114, 101, 97, 107, 59]] : List Str).flatten] := by
        rw [k6]; unfold linK; simp
      rw [hx1] at h
      have hline := line_e hx n (by omega) ov o hl [[98, 114, 101, 97, 107, 59]] (by simp) (by simp only [List.flatten_cons, List.flatten_nil, List.length_append, List.length_cons, List.length_nil]; omega) ov2 o2 h
      have hl2 := feedW_listens hl h
      simp only [strR, List.map_cons, List.map_nil] at hline
      unfold wO at hline
      clear h hx1
      generalize (s.e.map showE).getD 0 [] = x0 at *
      generalize (s.e.map showE).getD 1 [] = x1 at *
      simp (maxSteps := 4000000) (disch := first | (intros; contradiction) | omega) only [go_sem, hlt, q, k1, k2, k3, k4, k5, hline, hl.refs, hl.obj, hl.ren, hl2.refs, hl2.ren]
      done
    by_cases k7 : s.kind = 7
    · have q := eq_true k7
      have hx1 : linK n s.kind s.t s.name (s.e.map showE) (linL (n + 1) s.body) (linL (n + 1) s.els) (decide (0 < s.els.length)) = [padP n ++ ([[99, 111, 110, 116, 105, 110, 117, 101, 59]] : List Str).flatten] := by
        rw [k7]; unfold linK; simp
      rw [hx1] at h
      have hline := line_e hx n (by omega) ov o hl [[99, 111, 110, 116, 105, 110, 117, 101, 59]] (by simp) (by simp only [List.flatten_cons, List.flatten_nil, List.length_append, List.length_cons, List.length_nil]; omega) ov2 o2 h
      have hl2 := feedW_listens hl h
      simp only [strR, List.map_cons, List.map_nil] at hline
      unfold wO at hline
      clear h hx1
      generalize (s.e.map showE).getD 0 [] = x0 at *
      generalize (s.e.map showE).getD 1 [] = x1 at *
      simp (maxSteps := 4000000) (disch := first | (intros; contradiction) | omega) only [go_sem, hlt, q, k1, k2, k3, k4, k5, k6, hline, hl.refs, hl.obj, hl.ren, hl2.refs, hl2.ren]
      done
    by_cases k8 : s.kind = 8
    · have q := eq_true k8
      have hx1 : linK n s.kind s.t s.name (s.e.map showE) (linL (n + 1) s.body) (linL (n + 1) s.els) (decide (0 < s.els.length)) = [padP n ++ ([[114, 101, 116, 117, 114, 110, 32], (s.e.map showE).getD 0 [], [59]] : List Str).flatten] := by
        rw [k8]; unfold linK; simp
      rw [hx1] at h
      have hline := line_e hx n (by omega) ov o hl [[114, 101, 116, 117, 114, 110, 32], (s.e.map showE).getD 0 [], [59]] (by simp) (by simp only [List.flatten_cons, List.flatten_nil, List.length_append, List.length_cons, List.length_nil]; omega) ov2 o2 h
      have hl2 := feedW_listens hl h
      simp only [strR, List.map_cons, List.map_nil] at hline
      unfold wO at hline
      clear h hx1
      generalize (s.e.map showE).getD 0 [] = x0 at *
      generalize (s.e.map showE).getD 1 [] = x1 at *
      simp (maxSteps := 4000000) (disch := first | (intros; contradiction) | omega) only [go_sem, hlt, q, k1, k2, k3, k4, k5, k6, k7, hline, hl.refs, hl.obj, hl.ren, hl2.refs, hl2.ren]
      done
    by_cases k9 : s.kind = 9
    · have q := eq_true k9
      have hx1 : linK n s.kind s.t s.name (s.e.map showE) (linL (n + 1) s.body) (linL (n + 1) s.els) (decide (0 < s.els.length)) = [padP n ++ ([[102, 114, 101, 101, 40], s.name, [41, 59]] : List Str).flatten] := by
        rw [k9]; unfold linK; simp
      rw [hx1] at h
      have hline := line_e hx n (by omega) ov o hl [[102, 114, 101, 101, 40], s.name, [41, 59]] (by simp) (by simp only [List.flatten_cons, List.flatten_nil, List.length_append, List.length_cons, List.length_nil]; omega) ov2 o2 h
      have hl2 := feedW_listens hl h
      simp only [strR, List.map_cons, List.map_nil] at hline
      unfold wO at hline
      clear h hx1
      generalize (s.e.map showE).getD 0 [] = x0 at *
      generalize (s.e.map showE).getD 1 [] = x1 at *
      simp (maxSteps := 4000000) (disch := first | (intros; contradiction) | omega) only [go_sem, hlt, q, k1, k2, k3, k4, k5, k6, k7, k8, hline, hl.refs, hl.obj, hl.ren, hl2.refs, hl2.ren]
      done
    by_cases k10 : s.kind = 10
    · have q := eq_true k10
      have hx1 : linK n s.kind s.t s.name (s.e.map showE) (linL (n + 1) s.body) (linL (n + 1) s.els) (decide (0 < s.els.length)) = [padP n ++ ([[112, 117, 116, 40], (s.e.map showE).getD 0 [], [41, 59]] : List Str).flatten] := by
        rw [k10]; unfold linK; simp
      rw [hx1] at h
      have hline := line_e hx n (by omega) ov o hl [[112, 117, 116, 40], (s.e.map showE).getD 0 [], [41, 59]] (by simp) (by simp only [List.flatten_cons, List.flatten_nil, List.length_append, List.length_cons, List.length_nil]; omega) ov2 o2 h
      have hl2 := feedW_listens hl h
      simp only [strR, List.map_cons, List.map_nil] at hline
      unfold wO at hline
      clear h hx1
      generalize (s.e.map showE).getD 0 [] = x0 at *
      generalize (s.e.map showE).getD 1 [] = x1 at *
      simp (maxSteps := 4000000) (disch := first | (intros; contradiction) | omega) only [go_sem, hlt, q, k1, k2, k3, k4, k5, k6, k7, k8, k9, hline, hl.refs, hl.obj, hl.ren, hl2.refs, hl2.ren]
      done
    have k11 : s.kind = 11 := by omega
    have hx1 : linK n s.kind s.t s.name (s.e.map showE) (linL (n + 1) s.body) (linL (n + 1) s.els) (decide (0 < s.els.length)) = [padP n ++ ([(s.e.map showE).getD 0 [], [59]] : List Str).flatten] := by
      rw [k11]; unfold linK; simp
    rw [hx1] at h
    have hline := line_e hx n (by omega) ov o hl [(s.e.map showE).getD 0 [], [59]] (by simp) (by simp only [List.flatten_cons, List.flatten_nil, List.length_append, List.length_cons, List.length_nil]; omega) ov2 o2 h
    have hl2 := feedW_listens hl h
    simp only [strR, List.map_cons, List.map_nil] at hline
    unfold wO at hline
    clear h hx1
    generalize (s.e.map showE).getD 0 [] = x0 at *
    generalize (s.e.map showE).getD 1 [] = x1 at *
    simp (maxSteps := 4000000) (disch := first | (intros; contradiction) | omega) only [go_sem, hlt, k1, k2, k3, k4, k5, k6, k7, k8, k9, k10, hline, hl.refs, hl.obj, hl.ren, hl2.refs, hl2.ren]
    done
theorem sstmts_e (hx : T3 ext) : ∀ (m : Nat), (∀ (n : Nat) (s : St0), sizS s ≤ m → n + sizS s ≤ 4000 → okS s → StmW ext n s) ∧ (∀ (n : Nat) (l : List St0), sizL l ≤ m → n + 1 + sizL l ≤ 4000 → okSs l → BlkW ext n l) := by
  intro m
  induction m with
  | zero =>
    refine ⟨fun n s h => by have := sizS_eq s; omega, fun n l h hb ho => sblock_e hx n l hb fun s hs => ?_⟩
    have := sizL_mem hs
    have := sizS_eq s
    omega
  | succ m ih =>
    have hS : ∀ (n : Nat) (s : St0), sizS s ≤ m + 1 → n + sizS s ≤ 4000 → okS s → StmW ext n s := fun n s h hb ho => by
      have hse := sizS_eq s
      have ho' := ho
      rw [okS_eq] at ho'
      exact sstmt1_e hx n s hb ho (ih.2 n _ (by omega) (by omega) ho'.2.2.2.2.1) (ih.2 n _ (by omega) (by omega) ho'.2.2.2.2.2)
    refine ⟨hS, fun n l h hb ho => sblock_e hx n l hb fun s hs => ?_⟩
    have := sizL_mem hs
    exact hS (n + 1) s (by omega) (by omega) (okSs_mem ho hs)
end Go.Proofs.YtdpkdeimliohmaaDoor
