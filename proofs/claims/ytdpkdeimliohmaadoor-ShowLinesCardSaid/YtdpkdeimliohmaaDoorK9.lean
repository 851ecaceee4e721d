/- The program's text of a statement, and of a program. Conditions: none. -/
import Derived.Test.YtdpkdeimliohmaaDoorK8
set_option linter.unusedSimpArgs false
set_option linter.unusedVariables false
namespace Go.Proofs.YtdpkdeimliohmaaDoor
open Go Go.Ab
variable {ext : Sem'}
theorem txtL_take (ls : List Str) (x : Str) : txtL (ls ++ [x]) = txtL ls ++ x ++ [10] := by rw [txtL_append, txtL_one, List.append_assoc]
theorem txtL_pre {a b : List Str} : (txtL a).length ≤ (txtL (a ++ b)).length := by rw [txtL_append, List.length_append]; omega
/-- What a text's function gives of what is handed on. -/
theorem fed_both {ls : List Str} {P : AObj → AObj → Prop} (h : ∀ o o', Listens o → fed (lineV ls) o = some o' → P o o') : P (.gen []) (.gen (lineV ls)) ∧ P (.log 0 0 (lineV ls)) (.log 0 ls.length []) := by
  refine ⟨h _ _ trivial (by rw [fed_gen]; rfl), h _ _ trivial ?_⟩
  rw [fed_all (lineV ls) 0 (lineV_plain ls)]
  simp [lineV]
theorem sgen_e (hx : T3 ext) (n : Nat) (s : St0) (hb : n + sizS s ≤ 4000) (ho : okS s) (o o' : AObj) (hl : Listens o) (h : fed (lineV (linS n s)) o = some o') : G ext 21 [.yld 2, .ptr 0 0, .ptr 1 0] [.cells [.d (.int .i64 n)], .cells [.d (.int .i64 s.kind), .d (.bool s.t.ptr), .d (.str s.t.to), .d (.str s.name), .d (.sl (s.e.map Ex0.row)), .d (.sl (s.body.map St0.row)), .d (.sl (s.els.map St0.row)), .d (.int .i64 s.pos.line), .d (.int .i64 s.pos.col)], o] = some (.ret (.tuple []), [.cells [.d (.int .i64 n)], .cells [.d (.int .i64 s.kind), .d (.bool s.t.ptr), .d (.str s.t.to), .d (.str s.name), .d (.sl (s.e.map Ex0.row)), .d (.sl (s.body.map St0.row)), .d (.sl (s.els.map St0.row)), .d (.int .i64 s.pos.line), .d (.int .i64 s.pos.col)], o']) := by
  obtain ⟨ov, hf⟩ := feedW_fed h
  have hs := (sstmts_e hx (sizS s)).1 n s (Nat.le_refl _) hb ho false o ov o' hl hf
  have hl2 := feedW_listens hl hf
  unfold wO St0.agg at hs
  clear h hf
  rw [G_body hx.clear rfl Tryd.func21 rfl Tryd.results21 hv_21 rfl]
  simp (maxSteps := 4000000) (disch := first | (intros; contradiction) | omega) only [go_sem, hl.refs, hl.obj, hl.ren, hl2.refs, hl2.obj, hl2.ren, hs]
  done
set_option maxHeartbeats 1000000 in
theorem joinedS_e (hx : T3 ext) (n : Nat) (s : St0) (hb : n + sizS s ≤ 4000) (ho : okS s) : G ext 20 [.fn 21 [] [.ptr 0 0, .ptr 1 0]] [.cells [.d (.int .i64 n)], .cells [.d (.int .i64 s.kind), .d (.bool s.t.ptr), .d (.str s.t.to), .d (.str s.name), .d (.sl (s.e.map Ex0.row)), .d (.sl (s.body.map St0.row)), .d (.sl (s.els.map St0.row)), .d (.int .i64 s.pos.line), .d (.int .i64 s.pos.col)]] = some (.ret (.d (.str (txtL (linS n s)))), [.cells [.d (.int .i64 n)], .cells [.d (.int .i64 s.kind), .d (.bool s.t.ptr), .d (.str s.t.to), .d (.str s.name), .d (.sl (s.e.map Ex0.row)), .d (.sl (s.body.map St0.row)), .d (.sl (s.els.map St0.row)), .d (.int .i64 s.pos.line), .d (.int .i64 s.pos.col)]]) := by
  obtain ⟨hg, hlo⟩ := fed_both (sgen_e hx n s hb ho)
  have hroom := linS_len 4000 44000 rfl n s hb ho
  have : 44000 * sizS s ≤ 44000 * 4000 := Nat.mul_le_mul_left _ (by omega)
  unfold lenL at hroom
  generalize linS n s = ls at *
  rw [G_body hx.clear rfl Tryd.func20 rfl Tryd.results20 hv_20 rfl]
  simp (maxSteps := 4000000) (disch := first | (intros; contradiction) | omega) only [go_sem, hg]
  generalize hR : rfFold _ _ _ _ _ _ = R
  have hfold : R = .done [.no, .no, .bld 96 (txtL ls)] := by
    have hlen : (lineV ls).length = ls.length := by simp [lineV]
    have hfin : ls.take (lineV ls).length = ls := by rw [hlen]; exact List.take_length
    refine rfFold_ind hR (fun k => [.no, .no, .bld 96 (txtL (ls.take k))]) (fun _ => .done [.no, .no, .bld 96 (txtL ls)]) rfl ?_ (by simp only [hfin])
    clear hR
    intro i x next hxi hnx
    have hil : i < ls.length := by have := (List.getElem?_eq_some_iff.1 hxi).1; rw [hlen] at this; exact this
    have hxe : x = [.d (.str ls[i])] := by
      unfold lineV at hxi
      rw [List.getElem?_map, List.getElem?_eq_getElem hil] at hxi
      simpa using hxi.symm
    subst hxe
    have htk : ls.take (i + 1) = ls.take i ++ [ls[i]] := by rw [List.take_add_one, List.getElem?_eq_getElem hil]; rfl
    have ht2 := txtL_take (ls.take i) ls[i]
    rw [← htk] at ht2
    have hpre : (txtL (ls.take (i + 1))).length ≤ (txtL ls).length := by
      have := @txtL_pre (ls.take (i + 1)) (ls.drop (i + 1))
      rwa [List.take_append_drop] at this
    rw [ht2, List.length_append, List.length_append] at hpre
    have w1 := bw_e hx ls[i] (txtL (ls.take i)) (by omega)
    have w2 := bw_e hx [10] (txtL (ls.take i) ++ ls[i]) (by simp only [List.length_append, List.length_cons, List.length_nil] at *; omega)
    simp only [ht2] at hnx
    generalize txtL (ls.take i) = t0 at *
    generalize ls[i] = l0 at *
    simp (maxSteps := 4000000) (disch := first | (intros; contradiction) | omega) only [go_sem, w1, w2, hnx]
    try exact hnx
  rw [hfold]
  clear hR hfold
  have hbs := bs_e hx (txtL ls) (by omega)
  generalize txtL ls = t at *
  simp (maxSteps := 4000000) (disch := first | (intros; contradiction) | omega) only [go_sem, hlo, List.isEmpty_nil, hbs]
  done
end Go.Proofs.YtdpkdeimliohmaaDoor
