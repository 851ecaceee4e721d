/- The program's lines and text of a program. Conditions: none. -/
import Derived.Test.YtdpkdeimliohmaaDoorK9
set_option linter.unusedSimpArgs false
set_option linter.unusedVariables false
namespace Go.Proofs.YtdpkdeimliohmaaDoor
open Go Go.Ab
variable {ext : Sem'}
theorem sStmt_e (hx : T3 ext) (n : Nat) (s : St0) (hb : n + sizS s ≤ 4000) (ho : okS s) : G ext 10 [s.agg, .d (.int .i64 n)] [] = some (.ret (.d (.str (txtL (linS n s)))), []) := by
  have hj := joinedS_e hx n s hb ho
  unfold St0.agg
  generalize txtL (linS n s) = t at *
  rw [G_body hx.clear rfl Tryd.func10 rfl Tryd.results10 hv_10 rfl]
  simp (maxSteps := 4000000) (disch := first | (intros; contradiction) | omega) only [go_sem, hj]
  done
/-- A field's text, as a parameter's. -/
def parT (f : Fl0) : Str := typT f.t ++ [32] ++ f.name
theorem parT_len {f : Fl0} (h : okF f) : (parT f).length ≤ 6004 := by
  have := typ_len h.2
  have := h.1
  replace this := this.1
  unfold parT
  simp only [List.length_append, List.length_cons, List.length_nil]; omega
theorem pars_len : ∀ (l : List Fl0), (∀ f, f ∈ l → okF f) → ((l.map parT).map List.length).sum + 2 * l.length ≤ 6006 * l.length
  | [], _ => by simp
  | f :: l, h => by
    have h1 := parT_len (h f (by simp))
    have h2 := pars_len l (fun q hq => h q (by simp [hq]))
    simp only [List.map_cons, List.sum_cons, List.length_cons]
    omega
theorem joinp_len (l : List Fl0) (h : ∀ f, f ∈ l → okF f) : (joinL [44, 32] (l.map parT)).length ≤ 6006 * l.length := joinL_len (by
  have := pars_len l h
  simp only [List.length_map, List.length_cons, List.length_nil]; omega)
set_option maxHeartbeats 1000000 in
theorem fields_e (hx : T3 ext) (l : List Fl0) (hl : l.length ≤ 4000) (ho : ∀ f, f ∈ l → okF f) : G ext 35 [.d (.sl (l.map Fl0.row)), .d (.str [44, 32])] [] = some (.ret (.d (.str (joinL [44, 32] (l.map parT)))), []) := by
  have hll : (l.map Fl0.row).length = l.length := List.length_map _
  have hjl := joinp_len l ho
  have hjn : G ext 29 [.d (.sl (strR (l.map parT))), .d (.str [44, 32])] [] = some (.ret (.d (.str (joinL [44, 32] (l.map parT)))), []) := join_e hx (l.map parT) [44, 32] (by rw [List.length_map]; omega) (by omega)
  rw [G_body hx.clear rfl Tryd.func35 rfl Tryd.results35 hv_35 rfl]
  simp (maxSteps := 4000000) (disch := first | (intros; contradiction) | omega) only [go_sem]
  generalize hL : loopA _ _ _ = L
  apply range_upd hL (by simp (maxSteps := 4000000) (disch := first | (intros; contradiction) | omega) only [go_sem] <;> rfl) l Fl0.row (α := List Fl0) (fun rest k a => a ++ rest = l ∧ a.length = k) (fun k a => [(5, .grow 0 k (strR (a.map parT))), (10, .d (.int .i64 k))]) (fun k _ => [(0, .grow k 1)]) [] (by simp (maxSteps := 4000000) (disch := first | (intros; contradiction) | omega) only [go_sem] <;> rfl) ⟨rfl, rfl⟩ ?_ ?_
  · intro x rest k' a hi hlt hr hxx hk _ next ih2
    clear hL
    obtain ⟨hi1, hi2⟩ := hi
    have hmem := List.mem_of_getElem? hxx
    obtain ⟨c1, c2⟩ := ho x hmem
    have hty := stype_e hx x.t c2
    have htl := typ_len c2
    replace c1 := c1.1
    unfold Tp.av at hty
    rw [Fl0.row] at hr
    have hk0 : (0 : Int) ≤ (k' : Int) := by omega
    have hwk : IntKind.wrap .i64 ((k' : Int) + 1) = ((k' + 1 : Nat) : Int) := by rw [wrap64 (by omega) (by omega)]; omega
    have hmm : strR ((a ++ [x]).map parT) = strR (a.map parT) ++ [[.str (typT x.t ++ [32] ++ x.name)]] := by rw [List.map_append, List.map_cons, List.map_nil, strR_snoc]; rfl
    have hrl : (strR (a.map parT)).length = a.length := by rw [strR_len, List.length_map]
    have hroom : ∀ b : Nat, b ≤ 1000 → room (a.length + 1) b := fun b hb => room_few (by omega) hb
    simp (maxSteps := 4000000) (disch := first | (intros; contradiction) | omega) only [go_sem, hlt, hr, hk0, hty, hwk, hrl, hroom, if_le]
    exact ih2 (a ++ [x]) _ ⟨by rw [← hi1]; simp, by simp [hi2]⟩ (by simp (maxSteps := 4000000) (disch := first | (intros; contradiction) | omega) only [go_sem, hmm] <;> rfl)
  · intro k' a hi hlt hk next
    clear hL
    obtain ⟨hi1, hi2⟩ := hi
    rw [List.append_nil] at hi1
    subst hi1
    simp (maxSteps := 4000000) (disch := first | (intros; contradiction) | omega) only [go_sem, hlt, hjn]
    done
def linSr (s : Sr0) : List Str := [[115, 116, 114, 117, 99, 116, 32] ++ s.name ++ [32, 123]] ++ s.fields.map (fun f => [32, 32] ++ typT f.t ++ [32] ++ f.name ++ [59]) ++ [[125, 59]]
def linFn (f : Fn0) : List Str := [typT f.ret ++ [32] ++ f.name ++ [40] ++ joinL [44, 32] (f.params.map parT) ++ [41, 32, 123]] ++ linL 1 f.body ++ [[125]]
def linP (p : Pr0) : List Str := (p.structs.map linSr).flatten ++ (p.funcs.map linFn).flatten
theorem feed_cons {a : List Str} {b : List Str} {s : Bool × AObj} {r : Bool × AObj} (hl : Listens s.2) (h : feedW (a ++ b) s = some r) : ∃ ov o, feedW a s = some (ov, o) ∧ Listens o ∧ feedW b (ov, o) = some r := feed_bind hl h
def prO (p : Pr0) : AObj := .cells [.d (.sl (p.structs.map Sr0.row)), .d (.sl (p.funcs.map Fn0.row))]
theorem szFn_le : ∀ {l : List Fn0} {f : Fn0}, f ∈ l → 1 + f.params.length + sizL f.body ≤ szFn l
  | x :: l, f, h => by
    have e : szFn (x :: l) = 1 + x.params.length + sizL x.body + szFn l := by simp [szFn]
    rw [e]
    rcases List.mem_cons.1 h with rfl | h
    · omega
    · have := szFn_le h; omega
theorem szFn_mem {p : Pr0} (hp : OkP p) {f : Fn0} (h : f ∈ p.funcs) : 1 + f.params.length + sizL f.body ≤ 3001 := by
  have h1 := hp.total
  have h2 := szFn_le h
  unfold szP at h1
  omega
set_option maxHeartbeats 4000000 in
theorem slinG_e (hx : T3 ext) (p : Pr0) (hp : OkP p) (o o' : AObj) (hl : Listens o) (h : fed (lineV (linP p)) o = some o') : G ext 33 [.yld 1, .ptr 0 0] [prO p, o] = some (.ret (.tuple []), [prO p, o']) := by
  obtain ⟨ov2, hf⟩ := feedW_fed h
  clear h
  have hsl : (p.structs.map Sr0.row).length = p.structs.length := List.length_map _
  have hfl : (p.funcs.map Fn0.row).length = p.funcs.length := List.length_map _
  have hns := hp.structs
  have hnf := hp.funcs
  have w01 : IntKind.wrap .i64 1 = 1 := by decide
  have w10 : IntKind.wrap .i64 0 = 0 := by decide
  unfold linP at hf
  unfold prO
  rw [G_body hx.clear rfl Tryd.func33 rfl Tryd.results33 hv_33 rfl]
  simp (maxSteps := 4000000) (disch := first | (intros; contradiction) | omega) only [go_sem, hl.refs]
  generalize hL : loopA _ _ _ = L
  apply range_upd hL (by simp (maxSteps := 4000000) (disch := first | (intros; contradiction) | omega) only [go_sem, hl.refs] <;> rfl) p.structs Sr0.row (α := Bool × AObj) (fun rest k a => Listens a.2 ∧ feedW ((rest.map linSr).flatten ++ (p.funcs.map linFn).flatten) a = some (ov2, o')) (fun k a => [(16, .d (.int .i64 k))]) (fun k a => [(2, .cells [.yld 1, .d (.int .i64 0), .d (.bool a.1)]), (1, a.2)]) (false, o) (by simp (maxSteps := 4000000) (disch := first | (intros; contradiction) | omega) only [go_sem, hl.refs] <;> rfl) ⟨hl, hf⟩ ?_ ?_
  · rintro x rest k' ⟨v, q⟩ hi hlt hr hxx hk _ next ih2
    clear hL hf
    obtain ⟨hi1, hi2⟩ := hi
    simp only at hi1 hi2 ih2 ⊢
    have hmem := List.mem_of_getElem? hxx
    obtain ⟨n1, n2⟩ := hp.snm x hmem
    have hnm := n1
    replace hnm := hnm.1
    have hxf := hp.fields x hmem
    have hxl : (x.fields.map Fl0.row).length = x.fields.length := List.length_map _
    rw [List.map_cons, List.flatten_cons, List.append_assoc] at hi2
    unfold linSr at hi2
    rw [List.append_assoc, List.append_assoc] at hi2
    obtain ⟨v1, q1, g1, l1, hi2⟩ := feed_bind hi1 hi2
    have e1 : ([115, 116, 114, 117, 99, 116, 32] ++ x.name ++ [32, 123] : Str) = padP 0 ++ ([[115, 116, 114, 117, 99, 116, 32], x.name, [32, 123]] : List Str).flatten := by simp [padP]
    rw [e1] at g1
    have c1 := line_e hx 0 (by decide) v q hi1 _ (by simp) (by simp only [List.flatten_cons, List.flatten_nil, List.length_append, List.length_cons, List.length_nil]; omega) v1 q1 g1
    unfold wO at c1
    simp only [strR, List.map_cons, List.map_nil, Int.natCast_zero] at c1
    rw [Sr0.row] at hr
    have hk0 : (0 : Int) ≤ (k' : Int) := by omega
    have hwk : IntKind.wrap .i64 ((k' : Int) + 1) = ((k' + 1 : Nat) : Int) := by rw [wrap64 (by omega) (by omega)]; omega
    simp (maxSteps := 4000000) (disch := first | (intros; contradiction) | omega) only [go_sem, hlt, hr, hk0, hi1.refs, hi1.obj, hi1.ren, l1.refs, l1.ren, c1, w01]
    generalize hL : loopA _ _ _ = L
    apply range_upd hL (by simp (maxSteps := 4000000) (disch := first | (intros; contradiction) | omega) only [go_sem, l1.refs] <;> rfl) x.fields Fl0.row (α := Bool × AObj) (fun rs k a => Listens a.2 ∧ feedW (rs.map (fun f => [32, 32] ++ typT f.t ++ [32] ++ f.name ++ [59]) ++ ([[125, 59]] ++ ((rest.map linSr).flatten ++ (p.funcs.map linFn).flatten))) a = some (ov2, o')) (fun k a => [(35, .d (.int .i64 k))]) (fun k a => [(2, .cells [.yld 1, .d (.int .i64 1), .d (.bool a.1)]), (1, a.2)]) (v1, q1) (by simp (maxSteps := 4000000) (disch := first | (intros; contradiction) | omega) only [go_sem, l1.refs] <;> rfl) ⟨l1, hi2⟩ ?_ ?_
    · rintro y rs j ⟨u, r⟩ hj hltj hrj hyy hkj _ nextj ih3
      clear hL
      obtain ⟨hj1, hj2⟩ := hj
      simp only at hj1 hj2 ih3 ⊢
      have hymem := List.mem_of_getElem? hyy
      obtain ⟨y1, y2⟩ := n2 y hymem
      have hty := stype_e hx y.t y2
      have htl := typ_len y2
      replace y1 := y1.1
      unfold Tp.av at hty
      rw [List.map_cons, List.cons_append] at hj2
      obtain ⟨u1, r1, g2, l2, hj2⟩ := feed_bind (a := [[32, 32] ++ typT y.t ++ [32] ++ y.name ++ [59]]) hj1 hj2
      have e2 : ([32, 32] ++ typT y.t ++ [32] ++ y.name ++ [59] : Str) = padP 1 ++ ([typT y.t, [32], y.name, [59]] : List Str).flatten := by simp [padP, List.replicate]
      rw [e2] at g2
      have c2 := line_e hx 1 (by decide) u r hj1 _ (by simp) (by simp only [List.flatten_cons, List.flatten_nil, List.length_append, List.length_cons, List.length_nil]; omega) u1 r1 g2
      unfold wO at c2
      simp only [strR, List.map_cons, List.map_nil, Int.natCast_one] at c2
      rw [Fl0.row] at hrj
      have hj0 : (0 : Int) ≤ (j : Int) := by omega
      have hwj : IntKind.wrap .i64 ((j : Int) + 1) = ((j + 1 : Nat) : Int) := by rw [wrap64 (by omega) (by omega)]; omega
      clear ih2 g2 hi2
      simp (maxSteps := 4000000) (disch := first | (intros; contradiction) | omega) only [go_sem, hltj, hrj, hj0, hty, hj1.refs, hj1.obj, hj1.ren, l2.refs, l2.ren, c2, hwj]
      exact ih3 (u1, r1) _ ⟨l2, hj2⟩ (by simp (maxSteps := 4000000) (disch := first | (intros; contradiction) | omega) only [go_sem, l2.refs] <;> rfl)
    · rintro j ⟨u, r⟩ hj hltj hkj nextj
      clear hL
      obtain ⟨hj1, hj2⟩ := hj
      simp only [List.map_nil, List.nil_append] at hj1 hj2 ⊢
      obtain ⟨u1, r1, g2, l2, hj2⟩ := feed_bind (a := [[125, 59]]) hj1 hj2
      have e2 : ([125, 59] : Str) = padP 0 ++ ([[125, 59]] : List Str).flatten := by simp [padP]
      rw [e2] at g2
      have c2 := line_e hx 0 (by decide) u r hj1 _ (by simp) (by decide) u1 r1 g2
      unfold wO at c2
      simp only [strR, List.map_cons, List.map_nil, Int.natCast_zero] at c2
      clear g2 hi2
      simp (maxSteps := 4000000) (disch := first | (intros; contradiction) | omega) only [go_sem, hltj, w10, hj1.refs, hj1.obj, hj1.ren, l2.refs, l2.ren, c2, hwk]
      exact ih2 (u1, r1) _ ⟨l2, hj2⟩ (by simp (maxSteps := 4000000) (disch := first | (intros; contradiction) | omega) only [go_sem, l2.refs] <;> rfl)
  · rintro k' ⟨v, q⟩ hi hlt hk next
    clear hL hf
    obtain ⟨hi1, hi2⟩ := hi
    simp only [List.map_nil, List.flatten_nil, List.nil_append] at hi1 hi2 ⊢
    simp (maxSteps := 4000000) (disch := first | (intros; contradiction) | omega) only [go_sem, hlt, hi1.refs]
    generalize hL : loopA _ _ _ = L
    apply range_upd hL (by simp (maxSteps := 4000000) (disch := first | (intros; contradiction) | omega) only [go_sem, hi1.refs] <;> rfl) p.funcs Fn0.row (α := Bool × AObj) (fun rest k a => Listens a.2 ∧ feedW (rest.map linFn).flatten a = some (ov2, o')) (fun k a => [(62, .d (.int .i64 k))]) (fun k a => [(2, .cells [.yld 1, .d (.int .i64 0), .d (.bool a.1)]), (1, a.2)]) (v, q) (by simp (maxSteps := 4000000) (disch := first | (intros; contradiction) | omega) only [go_sem, hi1.refs] <;> rfl) ⟨hi1, hi2⟩ ?_ ?_
    · rintro x rest j ⟨u, r⟩ hj hltj hrj hxx hkj _ nextj ih3
      clear hL
      obtain ⟨hj1, hj2⟩ := hj
      simp only at hj1 hj2 ih3 ⊢
      have hmem := List.mem_of_getElem? hxx
      obtain ⟨n1, n2, n3⟩ := hp.fnm x hmem
      have hsz := szFn_mem hp hmem
      have hnm := n1
      replace hnm := hnm.1
      have hty := stype_e hx x.ret n2
      have htl := typ_len n2
      unfold Tp.av at hty
      have hfi := fields_e hx x.params (by omega) n3
      have hjl := joinp_len x.params n3
      have hbk := (sstmts_e hx (sizL x.body)).2 0 x.body (Nat.le_refl _) (by omega) (hp.ok x hmem)
      rw [List.map_cons, List.flatten_cons] at hj2
      unfold linFn at hj2
      rw [List.append_assoc, List.append_assoc] at hj2
      obtain ⟨u1, r1, g1, l1, hj3⟩ := feed_bind hj1 hj2
      obtain ⟨u2, r2, g2, l2, hj4⟩ := feed_bind l1 hj3
      obtain ⟨u3, r3, g3, l3, hj5⟩ := feed_bind l2 hj4
      have hj6 : feedW (rest.map linFn).flatten (u3, r3) = some (ov2, o') := hj5
      clear hj2 hj3 hj4 hj5
      have e1 : (typT x.ret ++ [32] ++ x.name ++ [40] ++ joinL [44, 32] (x.params.map parT) ++ [41, 32, 123] : Str) = padP 0 ++ ([typT x.ret, [32], x.name, [40], joinL [44, 32] (x.params.map parT), [41, 32, 123]] : List Str).flatten := by simp [padP]
      rw [e1] at g1
      have c1 := line_e hx 0 (by decide) u r hj1 _ (by simp) (by simp only [List.flatten_cons, List.flatten_nil, List.length_append, List.length_cons, List.length_nil]; omega) u1 r1 g1
      have c2 := hbk u1 r1 u2 r2 l1 g2
      have e3 : ([125] : Str) = padP 0 ++ ([[125]] : List Str).flatten := by simp [padP]
      rw [e3] at g3
      have c3 := line_e hx 0 (by decide) u2 r2 l2 _ (by simp) (by decide) u3 r3 g3
      unfold wO at c1 c2 c3
      simp only [strR, List.map_cons, List.map_nil, Int.natCast_zero] at c1 c2 c3
      rw [Fn0.row] at hrj
      have hj0 : (0 : Int) ≤ (j : Int) := by omega
      have hwj : IntKind.wrap .i64 ((j : Int) + 1) = ((j + 1 : Nat) : Int) := by rw [wrap64 (by omega) (by omega)]; omega
      clear g1 g2 g3 hbk hi2
      generalize joinL [44, 32] (x.params.map parT) = jt at *
      simp (maxSteps := 4000000) (disch := first | (intros; contradiction) | omega) only [go_sem, hltj, hrj, hj0, hty, hfi, hj1.refs, hj1.obj, hj1.ren, l1.refs, l1.obj, l1.ren, l2.refs, l2.obj, l2.ren, l3.refs, l3.ren, c1, c2, c3, hwj]
      exact ih3 (u3, r3) _ ⟨l3, hj6⟩ (by simp (maxSteps := 4000000) (disch := first | (intros; contradiction) | omega) only [go_sem, l3.refs] <;> rfl)
    · rintro j ⟨u, r⟩ hj hltj hkj nextj
      clear hL
      obtain ⟨hj1, hj2⟩ := hj
      simp only [List.map_nil, List.flatten_nil, feedW, Option.some.injEq, Prod.mk.injEq] at hj1 hj2 ⊢
      obtain ⟨rfl, rfl⟩ := hj2
      simp (maxSteps := 4000000) (disch := first | (intros; contradiction) | omega) only [go_sem, hltj, hj1.refs]
      done
theorem linSr_len {s : Sr0} (h1 : okT s.name) (h2 : ∀ f, f ∈ s.fields → okF f) : lenL (linSr s) ≤ 44000 * (1 + s.fields.length) := by
  have key : ∀ l : List Fl0, (∀ f, f ∈ l → okF f) → lenL (l.map (fun f => [32, 32] ++ typT f.t ++ [32] ++ f.name ++ [59])) ≤ 40000 * l.length := by
    intro l
    induction l with
    | nil => intro _; simp [lenL, txtL]
    | cons f l ih =>
      intro h
      have a1 := h f (by simp)
      have a2 := ih (fun q hq => h q (by simp [hq]))
      have a3 := typ_len a1.2
      have a4 := a1.1
      replace a4 := a4.1
      rw [List.map_cons, lenL_cons, List.length_cons]
      simp only [List.length_append, List.length_cons, List.length_nil]
      omega
  have := key s.fields h2
  replace h1 := h1.1
  unfold linSr
  simp only [lenL_append, lenL_one, List.length_append, List.length_cons, List.length_nil]
  omega
theorem linFn_len {f : Fn0} (h1 : okT f.name) (h2 : okT f.ret.to) (h3 : ∀ q, q ∈ f.params → okF q) (h4 : okSs f.body) (h5 : sizL f.body ≤ 3001) : lenL (linFn f) ≤ 44000 * (1 + f.params.length + sizL f.body) := by
  have a1 := typ_len h2
  have a2 := joinp_len f.params h3
  have a3 := linL_len 4000 44000 rfl 1 f.body (by omega) h4
  replace h1 := h1.1
  unfold linFn
  simp only [lenL_append, lenL_one, List.length_append, List.length_cons, List.length_nil]
  omega
theorem linP_len {p : Pr0} (hp : OkP p) : (txtL (linP p)).length ≤ 44000 * szP p := by
  show lenL (linP p) ≤ _
  unfold linP szP
  rw [lenL_append, Nat.mul_add]
  have k1 : ∀ l : List Sr0, (∀ s, s ∈ l → okT s.name ∧ ∀ f, f ∈ s.fields → okF f) → lenL (l.map linSr).flatten ≤ 44000 * szSr l := by
    intro l
    induction l with
    | nil => intro _; simp [lenL, txtL]
    | cons s l ih =>
      intro h
      have b1 := h s (by simp)
      have b2 := ih (fun q hq => h q (by simp [hq]))
      have b3 := linSr_len b1.1 b1.2
      rw [List.map_cons, List.flatten_cons, lenL_append]
      have : szSr (s :: l) = 1 + s.fields.length + szSr l := by simp [szSr]
      rw [this, Nat.mul_add]
      omega
  have k2 : ∀ l : List Fn0, (∀ f, f ∈ l → okT f.name ∧ okT f.ret.to ∧ ∀ q, q ∈ f.params → okF q) → (∀ f, f ∈ l → okSs f.body) → (∀ f, f ∈ l → sizL f.body ≤ 3001) → lenL (l.map linFn).flatten ≤ 44000 * szFn l := by
    intro l
    induction l with
    | nil => intro _ _ _; simp [lenL, txtL]
    | cons s l ih =>
      intro h h' h''
      have b1 := h s (by simp)
      have b2 := ih (fun q hq => h q (by simp [hq])) (fun q hq => h' q (by simp [hq])) (fun q hq => h'' q (by simp [hq]))
      have b3 := linFn_len b1.1 b1.2.1 b1.2.2 (h' s (by simp)) (h'' s (by simp))
      rw [List.map_cons, List.flatten_cons, lenL_append]
      have : szFn (s :: l) = 1 + s.params.length + sizL s.body + szFn l := by simp [szFn]
      rw [this, Nat.mul_add]
      omega
  have := k1 p.structs hp.snm
  have := k2 p.funcs hp.fnm hp.ok (fun f hf => by have := szFn_mem hp hf; omega)
  omega
end Go.Proofs.YtdpkdeimliohmaaDoor
