/- The machine: memory that is made. Conditions: none. -/
import Derived.Test.YtkflggjdlflndaaGreatZ7
set_option linter.unusedSimpArgs false
set_option linter.unusedVariables false
namespace Go.Proofs.YtkflggjdlflndaaGreat
open Go Go.Ab
variable {ext : Sem'}
theorem G_bodyN {f : Nat} {F : Func} {c : Code} {xs : List AV} {H : List AObj} {rs : List ResultVar} {V : List Nat} (he : ext f xs H = none) (h : Tryz.prog.funcs[f]? = some F) (hb : F.body = some c) (hr : F.results = ⟨rs⟩) (hV : hv f = V) (hl : Nat.ble xs.length F.ntmps = true) :
    G ext f xs H = finish Tryz.prog rs H.length (evC Tryz.prog (G ext) (hd f) (hf f) 0 c (.go (Go.Ab.start xs V H))) :=
  callA_body he h hb hr hV (Nat.le_of_ble_eq_true hl)
theorem ptrV_cells (p : Option Nat) : cellsA (ptrV p) = some [ptrV p] := by cases p <;> rfl
attribute [go_sem] ptrV_cells
theorem zeros_flat (n : Nat) : (List.replicate n [AV.d (.int .i64 0), AV.d .nilp]).flatten = valsA (List.replicate n (0, none)) := by
  induction n with
  | zero => rfl
  | succ n ih => rw [List.replicate_succ, List.replicate_succ, List.flatten_cons, vals_cons, ih]; rfl
theorem src_aO (e : Nat) (l : List Vl) : cpyCells l.length 2 (stkOf e (aO e l)) = some (l.length, valsA l) := by
  have := vals_len l
  unfold aO
  simp only [stkOf, if_true, cpyCells]
  rw [if_pos (by omega), List.take_of_length_le (by omega)]
theorem cpy_zeros (r n : Nat) (l : List Vl) (h : l.length ≤ n) : cpyW r 0 n 2 (some (valsA (List.replicate n (0, none)))) (some (l.length, valsA l)) = some (.val (.d (.int .i64 l.length)) [(r, .cells (valsA (l ++ List.replicate (n - l.length) (0, none))))]) := by
  have h1 := vals_len l
  have h2 := vals_len (List.replicate n ((0, none) : Vl))
  rw [List.length_replicate] at h2
  simp only [cpyW]
  rw [if_pos (by omega)]
  have e : splice (valsA (List.replicate n (0, none))) 0 (valsA l) = valsA (l ++ List.replicate (n - l.length) (0, none)) := by
    unfold splice
    rw [Nat.zero_add, h1, Nat.mul_comm, vals_drop, List.drop_replicate]
    simp [valsA]
  rw [e]
set_option maxHeartbeats 4000000 in
theorem enter_base0 (hx : T1 ext) (he : ∀ xs H, ext 26 xs H = none) (s : Mc) (f tv : Int) (c : Cd1) (h0 : 0 ≤ f) (hf : s.m.funcs[f.toNat]? = some c) (hn : c.vars.length ≤ 1000) :
    G ext 26 [.ptr 1 0, .d (.int .i64 f), .d (.sl []), .d (.int .i64 tv)] s.H = some (.ret (.tuple []), [.reg (rgA s.reg), .cells [.d s.m.sr, .d s.m.fr, .d (.sl (s.inp.map rowU)), .d (.sl (s.fails.map rowT)), .ptr 4 0, .stk 2 s.es s.cells.length, .d (.int .i64 s.asked), .d (.int .i64 s.kind), .d (.int .i64 s.code), .grow 3 s.eg (s.out.map rowU), .d (.int .i64 s.steps), .d (.int .i64 0)], .stk s.es 1 (s.cells.map cellA), .grow s.eg 1, .cells [.dp c.row, .d (.int .i64 0), .arr 5 0 c.vars.length 2, ptrV s.top, .d (.int .i64 tv)], .cells (valsA (List.replicate c.vars.length (0, none)))]) := by
  have kr := cell_refs s.cells
  have kn := fun f => cell_ren f s.cells
  have hfl : (s.m.funcs.map Cd1.row).length = s.m.funcs.length := List.length_map _
  have hlt : f < ((s.m.funcs.map Cd1.row).length : Nat) := by have := (List.getElem?_eq_some_iff.1 hf).1; omega
  have hr : (s.m.funcs.map Cd1.row)[f.toNat]? = some c.row := by rw [List.getElem?_map, hf]; rfl
  have hvl : (c.vars.map Vr1.row).length = c.vars.length := List.length_map _
  have hroom : room c.vars.length 16 := by unfold room; simp; omega
  have hle : ((c.vars.length : Nat) : Int) ≤ ((c.vars.length : Nat) : Int) := Int.le_refl _
  have z1 := vals_refs (List.replicate c.vars.length (0, none))
  have z2 := fun f => vals_ren f (List.replicate c.vars.length (0, none))
  have hz := zeros_flat c.vars.length
  simp only [Cd1.row] at hr
  rw [G_bodyN (he _ _) Tryz.func26 rfl Tryz.results26 hv_26 rfl]
  simp only [Mc.H, Mc.obj, Md1.sr, Md1.fr, Cd1.row, List.cons_append, List.nil_append]
  generalize s.cells.map cellA = cs at kr kn ⊢
  simp (maxSteps := 4000000) (disch := first | (intros; contradiction) | omega) only [go_sem, kr, kn, hlt, hr, h0, hvl, hroom, hle, hz, z1, z2, Nat.zero_le]
  done
set_option maxHeartbeats 4000000 in
theorem enter_base1 (hx : T1 ext) (he : ∀ xs H, ext 26 xs H = none) (s : Mc) (f tv : Int) (c : Cd1) (args : List Vl) (e : Nat) (hfew : args.length ≤ c.vars.length) (h0 : 0 ≤ f) (hf : s.m.funcs[f.toNat]? = some c) (hn : c.vars.length ≤ 1000) :
    G ext 26 [.ptr 1 0, .d (.int .i64 f), .stk 4 e args.length, .d (.int .i64 tv)] (s.H ++ [aO e args]) = some (.ret (.tuple []), [.reg (rgA s.reg), .cells [.d s.m.sr, .d s.m.fr, .d (.sl (s.inp.map rowU)), .d (.sl (s.fails.map rowT)), .ptr 5 0, .stk 2 s.es s.cells.length, .d (.int .i64 s.asked), .d (.int .i64 s.kind), .d (.int .i64 s.code), .grow 3 s.eg (s.out.map rowU), .d (.int .i64 s.steps), .d (.int .i64 0)], .stk s.es 1 (s.cells.map cellA), .grow s.eg 1, aO e args, .cells [.dp c.row, .d (.int .i64 0), .arr 6 0 c.vars.length 2, ptrV s.top, .d (.int .i64 tv)], .cells (valsA (args ++ List.replicate (c.vars.length - args.length) (0, none)))]) := by
  have kr := cell_refs s.cells
  have kn := fun f => cell_ren f s.cells
  have hfl : (s.m.funcs.map Cd1.row).length = s.m.funcs.length := List.length_map _
  have hlt : f < ((s.m.funcs.map Cd1.row).length : Nat) := by have := (List.getElem?_eq_some_iff.1 hf).1; omega
  have hr : (s.m.funcs.map Cd1.row)[f.toNat]? = some c.row := by rw [List.getElem?_map, hf]; rfl
  have hvl : (c.vars.map Vr1.row).length = c.vars.length := List.length_map _
  have hroom : room c.vars.length 16 := by unfold room; simp; omega
  have hle : ((c.vars.length : Nat) : Int) ≤ ((c.vars.length : Nat) : Int) := Int.le_refl _
  have z1 := vals_refs (List.replicate c.vars.length (0, none))
  have z2 := fun f => vals_ren f (List.replicate c.vars.length (0, none))
  have hz := zeros_flat c.vars.length
  have z3 := vals_refs (args ++ List.replicate (c.vars.length - args.length) (0, none))
  have z4 := fun f => vals_ren f (args ++ List.replicate (c.vars.length - args.length) (0, none))
  have k1 := src_aO e args
  have k2 := cpy_zeros 5 c.vars.length args hfew
  simp only [Cd1.row] at hr
  rw [G_bodyN (he _ _) Tryz.func26 rfl Tryz.results26 hv_26 rfl]
  simp only [Mc.H, Mc.obj, Md1.sr, Md1.fr, Cd1.row, List.cons_append, List.nil_append]
  generalize s.cells.map cellA = cs at kr kn ⊢
  simp (maxSteps := 4000000) (disch := first | (intros; contradiction) | omega) only [go_sem, kr, kn, hlt, hr, h0, hvl, hroom, hle, hz, z1, z2, z3, z4, k1, k2, Nat.zero_le]
  done
theorem app_cell (e : Nat) (cs : List AV) (n : Nat) (h : cs.length = n) (hn : n ≤ 100000) (r : Nat) : stkAppV 2 e n 1 8 1 1 [.ptr r 0] (.stk e 1 cs) = some (.val (.stk 2 (e + 1) (n + 1)) [(2, .stk (e + 1) 1 (cs ++ [.ptr r 0]))]) := by
  have hroom : room (n + 1) 8 := by unfold room; simp; omega
  simp only [stkAppV]
  rw [if_pos (by refine ⟨trivial, trivial, trivial, by decide, rfl, by omega, hroom⟩), List.take_of_length_le (by omega)]
set_option maxHeartbeats 4000000 in
theorem fresh_base (hx : T1 ext) (he : ∀ xs H, ext 53 xs H = none) (s : Mc) (f : Int) (h0 : 0 ≤ f) (hf : f < s.m.structs.length) (hn : nFields s.m f ≤ 1000) (hc : s.cells.length ≤ 100000) (ha : 0 ≤ s.asked) :
    G ext 53 [.ptr 1 0, .d (.int .i64 f)] s.H = (if failsAt s then some (.ret (.agg [.d (.int .i64 0), .d .nilp]), ({ s with asked := IntKind.wrap .i64 (s.asked + 1) } : Mc).H)
      else some (.ret (.agg [.d (.int .i64 0), .ptr 4 0]), [.reg (rgA s.reg), .cells [.d s.m.sr, .d s.m.fr, .d (.sl (s.inp.map rowU)), .d (.sl (s.fails.map rowT)), ptrV s.top, .stk 2 (s.es + 1) (s.cells.length + 1), .d (.int .i64 (IntKind.wrap .i64 (s.asked + 1))), .d (.int .i64 s.kind), .d (.int .i64 s.code), .grow 3 s.eg (s.out.map rowU), .d (.int .i64 s.steps), .d (.int .i64 0)], .stk (s.es + 1) 1 (s.cells.map cellA ++ [.ptr 4 0]), .grow s.eg 1, .cells [.d (.bool true), .arr 5 0 (nFields s.m f) 2], .cells (valsA (List.replicate (nFields s.m f) (0, none)))])) := by
  have kr := cell_refs s.cells
  have kn := fun f => cell_ren f s.cells
  have hsl : (s.m.structs.map Sc1.row).length = s.m.structs.length := List.length_map _
  have hlt : f < ((s.m.structs.map Sc1.row).length : Nat) := by omega
  have hfll : (s.fails.map rowT).length = s.fails.length := List.length_map _
  have hat : f.toNat < s.m.structs.length := by omega
  have hr : (s.m.structs.map Sc1.row)[f.toNat]? = some s.m.structs[f.toNat].row := by rw [List.getElem?_map, List.getElem?_eq_getElem hat]; rfl
  have hnf : nFields s.m f = s.m.structs[f.toNat].fields.length := by unfold nFields; rw [List.getElem?_eq_getElem hat]; rfl
  rw [hnf] at hn ⊢
  generalize s.m.structs[f.toNat] = sc at hr hn ⊢
  have hfl : (sc.fields.map Fd1.row).length = sc.fields.length := List.length_map _
  have hroom : room sc.fields.length 16 := by unfold room; simp; omega
  have hle : ((sc.fields.length : Nat) : Int) ≤ ((sc.fields.length : Nat) : Int) := Int.le_refl _
  have z1 := vals_refs (List.replicate sc.fields.length (0, none))
  have z2 := fun f => vals_ren f (List.replicate sc.fields.length (0, none))
  have hz := zeros_flat sc.fields.length
  have hcs : (s.cells.map cellA).length = s.cells.length := List.length_map _
  simp only [Sc1.row] at hr
  rw [G_bodyN (he _ _) Tryz.func53 rfl Tryz.results53 hv_53 rfl]
  simp only [Mc.H, Mc.obj, Md1.sr, Md1.fr]
  generalize s.cells.map cellA = cs at kr kn hcs ⊢
  have happ := app_cell s.es cs s.cells.length hcs hc 6
  have k1 : ((cs ++ [AV.ptr 6 0]).map refs).flatten = [6] := by rw [List.map_append, List.flatten_append, kr]; rfl
  have k2 : ∀ f, (cs ++ [AV.ptr 6 0]).map (ren f) = cs ++ [AV.ptr (f 6) 0] := fun f => by rw [List.map_append, kn]; rfl
  unfold failsAt
  by_cases q1 : s.asked < (s.fails.length : Int)
  · have q1' := q1
    rw [if_pos q1]
    have hb : (s.fails.map rowT)[s.asked.toNat]? = some [.bool (s.fails[s.asked.toNat]?.getD false)] := by
      rw [List.getElem?_map, List.getElem?_eq_getElem (show s.asked.toNat < s.fails.length by omega)]; rfl
    generalize s.fails[s.asked.toNat]?.getD false = b at hb ⊢
    cases b with
    | true =>
      simp only [if_true]
      simp (maxSteps := 4000000) (disch := first | (intros; contradiction) | omega) only [go_sem, kr, kn, hfll, q1', ha, hb]
      done
    | false =>
      simp only [Bool.false_eq_true, if_false]
      simp (maxSteps := 4000000) (disch := first | (intros; contradiction) | omega) only [go_sem, kr, kn, hfll, q1', ha, hb, hlt, hr, h0, hfl, hroom, hle, hz, z1, z2, Nat.zero_le, happ, k1, k2]
      done
  · rw [if_neg q1]
    simp only [Bool.false_eq_true, if_false]
    simp (maxSteps := 4000000) (disch := first | (intros; contradiction) | omega) only [go_sem, kr, kn, hfll, q1, ha, hlt, hr, h0, hfl, hroom, hle, hz, z1, z2, Nat.zero_le, happ, k1, k2]
    done
end Go.Proofs.YtkflggjdlflndaaGreat
