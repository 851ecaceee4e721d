/- The program's text of a program, and the document's. Conditions: none. -/
import Derived.Test.YtdpkdeimliohmaaDoorK10
import Derived.Test.YtdpkdeimliohmaaDoorK6
set_option linter.unusedSimpArgs false
set_option linter.unusedVariables false
namespace Go.Proofs.YtdpkdeimliohmaaDoor
open Go Go.Ab
variable {ext : Sem'}
set_option maxHeartbeats 1000000 in
theorem joinedP_e (hx : T3 ext) (p : Pr0) (hp : OkP p) : G ext 20 [.fn 33 [] [.ptr 0 0]] [.cells [.d (.sl (p.structs.map Sr0.row)), .d (.sl (p.funcs.map Fn0.row))]] = some (.ret (.d (.str (txtL (linP p)))), [.cells [.d (.sl (p.structs.map Sr0.row)), .d (.sl (p.funcs.map Fn0.row))]]) := by
  obtain ⟨hg, hlo⟩ := fed_both (slinG_e hx p hp)
  have hroom : (txtL (linP p)).length ≤ 200000000 := by have := linP_len hp; have := hp.total; omega
  unfold prO at hg hlo
  generalize linP p = ls at *
  rw [G_body hx.clear rfl Tryd.func20 rfl Tryd.results20 hv_20 rfl]
  simp (maxSteps := 4000000) (disch := first | (intros; contradiction) | omega) only [go_sem, hg]
  generalize hR : rfFold _ _ _ _ _ _ = R
  have hfold : R = .done [.no, .bld 96 (txtL ls)] := by
    have hlen : (lineV ls).length = ls.length := by simp [lineV]
    have hfin : ls.take (lineV ls).length = ls := by rw [hlen]; exact List.take_length
    refine rfFold_ind hR (fun k => [.no, .bld 96 (txtL (ls.take k))]) (fun _ => .done [.no, .bld 96 (txtL ls)]) rfl ?_ (by simp only [hfin])
    clear hR
    intro i x next hxi hnx
    have hil : i < ls.length := by have := (List.getElem?_eq_some_iff.1 hxi).1; rw [hlen] at this; exact this
    have hxe : x = [.d (.str ls[i])] := by
      unfold lineV at hxi
      rw [List.getElem?_map, List.getElem?_eq_getElem hil] at hxi
      simpa using hxi.symm
    subst hxe
    have htk : ls.take (i + 1) = ls.take i ++ [ls[i]] := by rw [List.take_add_one, List.getElem?_eq_getElem hil]; rfl
    have ht2 := txtL_take (ls.take i) ls[i]
    rw [← htk] at ht2
    have hpre : (txtL (ls.take (i + 1))).length ≤ (txtL ls).length := by
      have := @txtL_pre (ls.take (i + 1)) (ls.drop (i + 1))
      rwa [List.take_append_drop] at this
    rw [ht2, List.length_append, List.length_append] at hpre
    have w1 := bw_e hx ls[i] (txtL (ls.take i)) (by omega)
    have w2 := bw_e hx [10] (txtL (ls.take i) ++ ls[i]) (by simp only [List.length_append, List.length_cons, List.length_nil] at *; omega)
    simp only [ht2] at hnx
    generalize txtL (ls.take i) = t0 at *
    generalize ls[i] = l0 at *
    simp (maxSteps := 4000000) (disch := first | (intros; contradiction) | omega) only [go_sem, w1, w2, hnx]
    try exact hnx
  rw [hfold]
  clear hR hfold
  have hbs := bs_e hx (txtL ls) (by omega)
  generalize txtL ls = t at *
  simp (maxSteps := 4000000) (disch := first | (intros; contradiction) | omega) only [go_sem, hlo, List.isEmpty_nil, hbs]
  done
theorem sLines_e (hx : T3 ext) (p : Pr0) : G ext 16 [p.av] [] = some (.ret (.fn 33 [] [.ptr 0 0]), [prO p]) := by
  unfold Pr0.av prO
  rw [G_body hx.clear rfl Tryd.func16 rfl Tryd.results16 hv_16 rfl]
  simp (maxSteps := 4000000) (disch := first | (intros; contradiction) | omega) only [go_sem]
  done
theorem sProg_e (hx : T3 ext) (p : Pr0) (hp : OkP p) : G ext 17 [p.av] [] = some (.ret (.d (.str (txtL (linP p)))), []) := by
  have hj := joinedP_e hx p hp
  have hli := sLines_e hx p
  unfold Pr0.av prO at *
  generalize txtL (linP p) = t at *
  rw [G_body hx.clear rfl Tryd.func17 rfl Tryd.results17 hv_17 rfl]
  simp (maxSteps := 4000000) (disch := first | (intros; contradiction) | omega) only [go_sem, hli, hj]
  done
def fldT (f : Fl0) : Str := [32, 32] ++ typT f.t ++ [32] ++ f.name ++ [59]
def hdrT (s : Sr0) : Str := [115, 116, 114, 117, 99, 116, 32] ++ s.name ++ [32, 123]
theorem linSr_eq (s : Sr0) : linSr s = [hdrT s] ++ s.fields.map fldT ++ [[125, 59]] := rfl
def sigT (f : Fn0) : Str := typT f.ret ++ [32] ++ f.name ++ [40] ++ joinL [44, 32] (f.params.map parT) ++ [41, 32, 123]
theorem linFn_eq (f : Fn0) : linFn f = [sigT f] ++ linL 1 f.body ++ [[125]] := rfl
set_option maxHeartbeats 4000000 in
theorem dProg_e (hx : T3 ext) (p : Pr0) (hp : OkP p) : G ext 15 [p.av] [] = some (.ret (.d (.str (txtL (linP p)))), []) := by
  have hsl : (p.structs.map Sr0.row).length = p.structs.length := List.length_map _
  have hfl : (p.funcs.map Fn0.row).length = p.funcs.length := List.length_map _
  have hns := hp.structs
  have hnf := hp.funcs
  have hroom : (txtL (linP p)).length ≤ 200000000 := by have := linP_len hp; have := hp.total; omega
  unfold Pr0.av
  have hpre : ∀ a b : List Str, a ++ b = linP p → (txtL a).length ≤ 200000000 := fun a b hab => by
    have := @txtL_pre a b
    rw [hab] at this
    omega
  generalize hP : linP p = LP at *
  rw [G_body hx.clear rfl Tryd.func15 rfl Tryd.results15 hv_15 rfl]
  simp (maxSteps := 4000000) (disch := first | (intros; contradiction) | omega) only [go_sem]
  generalize hL : loopA _ _ _ = L
  apply range_upd hL (by simp (maxSteps := 4000000) (disch := first | (intros; contradiction) | omega) only [go_sem] <;> rfl) p.structs Sr0.row (α := List Sr0) (fun rest k a => a ++ rest = p.structs ∧ a.length = k) (fun k a => [(3, .d (.str (txtL (a.map linSr).flatten))), (4, .d (.int .i64 k))]) (fun _ _ => []) [] (by simp (maxSteps := 4000000) (disch := first | (intros; contradiction) | omega) only [go_sem] <;> rfl) ⟨rfl, rfl⟩ ?_ ?_
  · intro x rest k' a hi hlt hr hxx hk _ next ih2
    clear hL
    obtain ⟨hi1, hi2⟩ := hi
    have hmem := List.mem_of_getElem? hxx
    obtain ⟨n1, n2⟩ := hp.snm x hmem
    have hnm := n1
    replace hnm := hnm.1
    have hxf := hp.fields x hmem
    have hxl : (x.fields.map Fl0.row).length = x.fields.length := List.length_map _
    have hlp : (a.map linSr).flatten ++ (linSr x ++ ((rest.map linSr).flatten ++ (p.funcs.map linFn).flatten)) = LP := by
      rw [← hP]; unfold linP; rw [← hi1]; simp
    have hax : ((a ++ [x]).map linSr).flatten = (a.map linSr).flatten ++ linSr x := by simp
    generalize (a.map linSr).flatten = pre at *
    generalize (rest.map linSr).flatten ++ (p.funcs.map linFn).flatten = post at *
    rw [linSr_eq] at hlp hax
    have h0 : txtL (pre ++ [hdrT x]) = txtL pre ++ [115, 116, 114, 117, 99, 116, 32] ++ x.name ++ [32, 123, 10] := by rw [txtL_take]; unfold hdrT; simp
    have l1 := hpre (pre ++ [hdrT x]) (x.fields.map fldT ++ ([[125, 59]] ++ post)) (by rw [← hlp]; simp only [List.append_assoc])
    have l1' := l1
    rw [h0] at l1
    rw [Sr0.row] at hr
    have hk0 : (0 : Int) ≤ (k' : Int) := by omega
    have hwk : IntKind.wrap .i64 ((k' : Int) + 1) = ((k' + 1 : Nat) : Int) := by rw [wrap64 (by omega) (by omega)]; omega
    simp only [List.length_append, List.length_cons, List.length_nil] at l1
    simp (maxSteps := 4000000) (disch := first | (intros; contradiction) | omega) only [go_sem, hlt, hr, hk0, if_le]
    generalize hL : loopA _ _ _ = L
    apply range_upd hL (by simp (maxSteps := 4000000) (disch := first | (intros; contradiction) | omega) only [go_sem] <;> rfl) x.fields Fl0.row (α := List Fl0) (fun rs k b => b ++ rs = x.fields ∧ b.length = k) (fun k b => [(3, .d (.str (txtL (pre ++ [hdrT x] ++ b.map fldT)))), (5, .d (.int .i64 k))]) (fun _ _ => []) [] (by simp (maxSteps := 4000000) (disch := first | (intros; contradiction) | omega) only [go_sem, h0] <;> rfl) ⟨rfl, rfl⟩ ?_ ?_
    · intro y rs j b hj hltj hrj hyy hkj _ nextj ih3
      clear hL
      obtain ⟨hj1, hj2⟩ := hj
      have hymem := List.mem_of_getElem? hyy
      obtain ⟨y1, y2⟩ := n2 y hymem
      have hty := rtype_e hx y.t y2
      have htl := typ_len y2
      replace y1 := y1.1
      unfold Tp.av at hty
      have hbm : (b ++ [y]).map fldT = b.map fldT ++ [fldT y] := by simp
      have l2 := hpre (pre ++ [hdrT x] ++ b.map fldT ++ [fldT y]) (rs.map fldT ++ ([[125, 59]] ++ post)) (by rw [← hlp, ← hj1]; simp)
      have t2 := txtL_take (pre ++ [hdrT x] ++ b.map fldT) (fldT y)
      have t3 : txtL (pre ++ [hdrT x] ++ b.map fldT ++ [fldT y]) = txtL (pre ++ [hdrT x] ++ b.map fldT) ++ [32, 32] ++ typT y.t ++ [32] ++ y.name ++ [59, 10] := by rw [t2]; unfold fldT; simp
      rw [t3] at l2
      have hg : pre ++ [hdrT x] ++ (b ++ [y]).map fldT = pre ++ [hdrT x] ++ b.map fldT ++ [fldT y] := by rw [hbm]; simp only [List.append_assoc]
      rw [Fl0.row] at hrj
      have hj0 : (0 : Int) ≤ (j : Int) := by omega
      have hwj : IntKind.wrap .i64 ((j : Int) + 1) = ((j + 1 : Nat) : Int) := by rw [wrap64 (by omega) (by omega)]; omega
      simp only [List.length_append, List.length_cons, List.length_nil] at l2
      have he : txtL (pre ++ [hdrT x] ++ (b ++ [y]).map fldT) = txtL (pre ++ [hdrT x] ++ b.map fldT) ++ [32, 32] ++ typT y.t ++ [32] ++ y.name ++ [59, 10] := by rw [hg, t3]
      have ih4 := ih3 (b ++ [y])
      simp only [he] at ih4
      clear ih2 ih3 t2 t3 hg he hbm
      generalize txtL (pre ++ [hdrT x] ++ b.map fldT) = tb at *
      simp (maxSteps := 4000000) (disch := first | (intros; contradiction) | omega) only [go_sem, hlt, hr, hk0, hltj, hrj, hj0, hty, hwj, if_le]
      exact ih4 _ ⟨by rw [← hj1]; simp, by simp [hj2]⟩ (by simp (maxSteps := 4000000) (disch := first | (intros; contradiction) | omega) only [go_sem] <;> rfl)
    · intro j b hj hltj hkj nextj
      clear hL
      obtain ⟨hj1, hj2⟩ := hj
      rw [List.append_nil] at hj1
      subst hj1
      have hf : txtL (pre ++ ([hdrT x] ++ x.fields.map fldT ++ [[125, 59]])) = txtL (pre ++ [hdrT x] ++ x.fields.map fldT) ++ [125, 59, 10] := by
        rw [show pre ++ ([hdrT x] ++ x.fields.map fldT ++ [[125, 59]]) = (pre ++ [hdrT x] ++ x.fields.map fldT) ++ [[125, 59]] by simp, txtL_take]; simp
      have l3 := hpre (pre ++ ([hdrT x] ++ x.fields.map fldT ++ [[125, 59]])) post (by rw [← hlp]; simp)
      rw [hf] at l3
      simp only [List.length_append, List.length_cons, List.length_nil] at l3
      have he := congrArg txtL hax
      rw [hf] at he
      have ih4 := ih2 (a ++ [x])
      simp only [he] at ih4
      clear ih2 hf he
      generalize txtL (pre ++ [hdrT x] ++ x.fields.map fldT) = tb at *
      simp (maxSteps := 4000000) (disch := first | (intros; contradiction) | omega) only [go_sem, hlt, hr, hk0, hltj, hwk, if_le]
      exact ih4 _ ⟨by rw [← hi1]; simp, by simp [hi2]⟩ (by simp (maxSteps := 4000000) (disch := first | (intros; contradiction) | omega) only [go_sem] <;> rfl)
  · intro k' a hi hlt hk next
    clear hL
    obtain ⟨hi1, hi2⟩ := hi
    rw [List.append_nil] at hi1
    subst hi1
    simp (maxSteps := 4000000) (disch := first | (intros; contradiction) | omega) only [go_sem, hlt]
    generalize hL : loopA _ _ _ = L
    have hS0 : (p.structs.map linSr).flatten = (p.structs.map linSr).flatten ++ (([] : List Fn0).map linFn).flatten := by simp
    apply range_upd hL (by simp (maxSteps := 4000000) (disch := first | (intros; contradiction) | omega) only [go_sem] <;> rfl) p.funcs Fn0.row (α := List Fn0) (fun rest k a => a ++ rest = p.funcs ∧ a.length = k) (fun k a => [(3, .d (.str (txtL ((p.structs.map linSr).flatten ++ (a.map linFn).flatten)))), (7, .d (.int .i64 k))]) (fun _ _ => []) [] (by simp (maxSteps := 4000000) (disch := first | (intros; contradiction) | omega) only [go_sem, ← hS0] <;> rfl) ⟨rfl, rfl⟩ ?_ ?_
    · intro x rest k' a hi hlt hr hxx hk _ next ih2
      clear hL hS0
      obtain ⟨hi1, hi2⟩ := hi
      have hmem := List.mem_of_getElem? hxx
      obtain ⟨n1, n2, n3⟩ := hp.fnm x hmem
      have hsz := szFn_mem hp hmem
      have hnm := n1
      replace hnm := hnm.1
      have hty := rtype_e hx x.ret n2
      have htl := typ_len n2
      unfold Tp.av at hty
      have hxl : (x.params.map Fl0.row).length = x.params.length := List.length_map _
      have hbk := (dstmts_e hx (sizL x.body)).2 1 x.body (Nat.le_refl _) (by omega) (hp.ok x hmem)
      simp only [Int.natCast_one] at hbk
      have hlp : (p.structs.map linSr).flatten ++ (a.map linFn).flatten ++ (linFn x ++ (rest.map linFn).flatten) = LP := by
        rw [← hP]; unfold linP; rw [← hi1]; simp
      have hax : (p.structs.map linSr).flatten ++ ((a ++ [x]).map linFn).flatten = (p.structs.map linSr).flatten ++ (a.map linFn).flatten ++ linFn x := by simp
      have ih3 := ih2 (a ++ [x])
      simp only [hax] at ih3
      clear ih2 hax
      generalize (p.structs.map linSr).flatten ++ (a.map linFn).flatten = pre at *
      generalize (rest.map linFn).flatten = post at *
      rw [linFn_eq] at hlp ih3
      have l1 := hpre (pre ++ [sigT x]) (linL 1 x.body ++ ([[125]] ++ post)) (by rw [← hlp]; simp only [List.append_assoc])
      rw [txtL_take] at l1
      have l3 := hpre (pre ++ ([sigT x] ++ linL 1 x.body ++ [[125]])) post (by rw [← hlp]; simp only [List.append_assoc])
      have hf : txtL (pre ++ ([sigT x] ++ linL 1 x.body ++ [[125]])) = txtL pre ++ sigT x ++ [10] ++ txtL (linL 1 x.body) ++ [125, 10] := by
        rw [txtL_append, txtL_append, txtL_append, txtL_one, txtL_one]; simp
      rw [hf] at l3
      have hsg : txtL pre ++ sigT x = txtL pre ++ typT x.ret ++ [32] ++ x.name ++ [40] ++ joinL [44, 32] (x.params.map parT) ++ [41, 32, 123] := by unfold sigT; simp
      have hf2 : txtL (pre ++ ([sigT x] ++ linL 1 x.body ++ [[125]])) = txtL pre ++ typT x.ret ++ [32] ++ x.name ++ [40] ++ joinL [44, 32] (x.params.map parT) ++ [41, 32, 123, 10] ++ txtL (linL 1 x.body) ++ [125, 10] := by
        rw [hf, hsg]; simp
      simp only [hf2] at ih3
      rw [hsg] at l1 l3
      clear hf hf2 hsg
      rw [Fn0.row] at hr
      have hk0 : (0 : Int) ≤ (k' : Int) := by omega
      have hwk : IntKind.wrap .i64 ((k' : Int) + 1) = ((k' + 1 : Nat) : Int) := by rw [wrap64 (by omega) (by omega)]; omega
      simp only [List.length_append, List.length_cons, List.length_nil] at l1 l3
      generalize txtL (linL 1 x.body) = bt at *
      have hj00 : joinL [44, 32] (([] : List Fl0).map parT) = [] := rfl
      have hbase : (txtL pre ++ typT x.ret ++ [32] ++ x.name ++ [40]).length ≤ 200000000 := by simp only [List.length_append, List.length_cons, List.length_nil]; omega
      simp (maxSteps := 4000000) (disch := first | (intros; contradiction) | omega) only [go_sem, hlt, hr, hk0, hty, if_le]
      generalize txtL pre ++ typT x.ret ++ [32] ++ x.name ++ [40] = base at *
      generalize hL : loopA _ _ _ = L
      apply range_upd hL (by simp (maxSteps := 4000000) (disch := first | (intros; contradiction) | omega) only [go_sem] <;> rfl) x.params Fl0.row (α := List Fl0) (fun rs k b => b ++ rs = x.params ∧ b.length = k) (fun k b => [(3, .d (.str (base ++ joinL [44, 32] (b.map parT)))), (9, .d (.int .i64 k))]) (fun _ _ => []) [] (by simp (maxSteps := 4000000) (disch := first | (intros; contradiction) | omega) only [go_sem, joinL, List.append_nil] <;> rfl) ⟨rfl, rfl⟩ ?_ ?_
      · intro y rs j b hj hltj hrj hyy hkj _ nextj ih4
        clear hL
        obtain ⟨hj1, hj2⟩ := hj
        have hymem := List.mem_of_getElem? hyy
        obtain ⟨y1, y2⟩ := n3 y hymem
        have htyy := rtype_e hx y.t y2
        have htly := typ_len y2
        replace y1 := y1.1
        unfold Tp.av at htyy
        have hbo : ∀ q, q ∈ b → okF q := fun q hq => n3 q (by rw [← hj1]; simp [hq])
        have hbl : b.length ≤ x.params.length := by rw [← hj1]; simp
        have hjb := joinp_len b hbo
        rw [Fl0.row] at hrj
        have hj0 : (0 : Int) ≤ (j : Int) := by omega
        have hwj : IntKind.wrap .i64 ((j : Int) + 1) = ((j + 1 : Nat) : Int) := by rw [wrap64 (by omega) (by omega)]; omega
        have hsn := joinL_snoc [44, 32] (parT y) (b.map parT)
        have hbm : (b ++ [y]).map parT = b.map parT ++ [parT y] := by simp
        have ih5 := ih4 (b ++ [y])
        by_cases hjp : (0 : Int) < (j : Int)
        · have hjp' := eq_true hjp
          have hne : b.map parT ≠ [] := by
            intro h
            have : b = [] := by simpa using h
            subst this
            simp at hj2
            omega
          rw [if_neg hne] at hsn
          have he : base ++ joinL [44, 32] ((b ++ [y]).map parT) = base ++ joinL [44, 32] (b.map parT) ++ [44, 32] ++ typT y.t ++ [32] ++ y.name := by rw [hbm, hsn]; unfold parT; simp
          simp only [he] at ih5
          clear ih4 ih3 hsn hbm he
          have hT : (base ++ joinL [44, 32] (b.map parT)).length ≤ 300000000 := by simp only [List.length_append]; omega
          generalize base ++ joinL [44, 32] (b.map parT) = T at *
          simp (maxSteps := 4000000) (disch := first | (intros; contradiction) | omega) only [go_sem, hltj, hrj, hj0, hjp', htyy, hwj, if_le]
          exact ih5 _ ⟨by rw [← hj1]; simp, by simp [hj2]⟩ (by simp (maxSteps := 4000000) (disch := first | (intros; contradiction) | omega) only [go_sem] <;> rfl)
        · have hne : b = [] := List.length_eq_zero_iff.1 (by omega)
          subst hne
          rw [List.map_nil, if_pos rfl, List.nil_append] at hsn
          have he : base ++ joinL [44, 32] (([] ++ [y] : List Fl0).map parT) = base ++ typT y.t ++ [32] ++ y.name := by rw [List.nil_append, List.map_cons, List.map_nil]; unfold parT; simp [joinL]
          simp only [he] at ih5
          have hj000 : base ++ joinL [44, 32] (([] : List Fl0).map parT) = base := by simp [joinL]
          rw [hj000]
          clear ih4 ih3 hsn hbm he
          simp (maxSteps := 4000000) (disch := first | (intros; contradiction) | omega) only [go_sem, hltj, hrj, hj0, hjp, htyy, hwj, if_le]
          exact ih5 _ ⟨by rw [← hj1]; simp, by simp; omega⟩ (by simp (maxSteps := 4000000) (disch := first | (intros; contradiction) | omega) only [go_sem] <;> rfl)
      · intro j b hj hltj hkj nextj
        clear hL
        obtain ⟨hj1, hj2⟩ := hj
        rw [List.append_nil] at hj1
        subst hj1
        have hjb := joinp_len x.params n3
        have hT : (base ++ joinL [44, 32] (x.params.map parT)).length ≤ 300000000 := by simp only [List.length_append]; omega
        generalize base ++ joinL [44, 32] (x.params.map parT) = T at *
        simp (maxSteps := 4000000) (disch := first | (intros; contradiction) | omega) only [go_sem, hltj, hbk, hwk, if_le]
        exact ih3 _ ⟨by rw [← hi1]; simp, by simp [hi2]⟩ (by simp (maxSteps := 4000000) (disch := first | (intros; contradiction) | omega) only [go_sem] <;> rfl)
    · intro k' a hi hlt hk next
      clear hL hS0
      obtain ⟨hi1, hi2⟩ := hi
      rw [List.append_nil] at hi1
      subst hi1
      have hfin : (p.structs.map linSr).flatten ++ (p.funcs.map linFn).flatten = LP := hP
      rw [← hfin]
      simp (maxSteps := 4000000) (disch := first | (intros; contradiction) | omega) only [go_sem, hlt]
      done
end Go.Proofs.YtdpkdeimliohmaaDoor
