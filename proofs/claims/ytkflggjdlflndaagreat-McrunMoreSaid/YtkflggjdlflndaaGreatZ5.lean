/- The machine: frames. Conditions: none. -/
import Derived.Test.YtkflggjdlflndaaGreatZ4
import Derived.Test.YtkflggjdlflndaaGreatLp
set_option linter.unusedSimpArgs false
set_option linter.unusedVariables false
namespace Go.Proofs.YtkflggjdlflndaaGreat
open Go Go.Ab
variable {ext : Sem'}
/-- A frame more. -/
def enterP (s : Mc) (c : Cd1) (args : List Vl) (tv : Int) : Mc :=
  { s with top := some s.reg.length, reg := s.reg ++ [.fr c 0 (s.reg.length + 1) c.vars.length s.top tv, .vs (args ++ List.replicate (c.vars.length - args.length) (0, none))] }
theorem vals_refs (l : List Vl) : ((valsA l).map refs).flatten = [] := by
  induction l with
  | nil => rfl
  | cons v l ih => rw [vals_cons, List.map_append, List.flatten_append, ih]; simp [vlA, refs, ptrV_refs]
theorem vals_ren (f : Nat → Nat) (l : List Vl) : (valsA l).map (ren f) = valsA l := by
  induction l with
  | nil => rfl
  | cons v l ih => rw [vals_cons, List.map_append, ih]; simp [vlA, ren, ptrV_ren]
/-- Arguments that are gathered. -/
def aO (e : Nat) (l : List Vl) : AObj := .stk e 2 (valsA l)
theorem aO_refs (e : Nat) (l : List Vl) : refsO (aO e l) = [] := vals_refs l
theorem aO_ren (f : Nat → Nat) (e : Nat) (l : List Vl) : renO f (aO e l) = aO e l := by
  show AObj.stk e 2 ((valsA l).map (ren f)) = _
  rw [vals_ren]; rfl
theorem aO_is (e : Nat) (l : List Vl) : isObj (aO e l) = true := rfl
attribute [go_sem] aO_refs aO_ren aO_is
structure T3 (ext : Sem') : Prop extends T2 ext where
  enter0 : ∀ (s : Mc) (f tv : Int) (c : Cd1), 0 ≤ f → s.m.funcs[f.toNat]? = some c → c.vars.length ≤ 1000 → ext 26 [.ptr 1 0, .d (.int .i64 f), .d (.sl []), .d (.int .i64 tv)] s.H = some (.ret (.tuple []), (enterP s c [] tv).H)
  enter1 : ∀ (s : Mc) (f tv : Int) (c : Cd1) (args : List Vl) (e : Nat), 0 ≤ f → s.m.funcs[f.toNat]? = some c → c.vars.length ≤ 1000 → args.length ≤ c.vars.length → ext 26 [.ptr 1 0, .d (.int .i64 f), .stk 4 e args.length, .d (.int .i64 tv)] (s.H ++ [aO e args]) = some (.ret (.tuple []), (enterP s c args tv).H ++ [aO e args])
/-- The frame on top goes, with a value. -/
def leaveP (s : Mc) (v : Vl) : Mc :=
  match s.top with
  | none => s
  | some k => match s.reg[k]? with
    | some (.fr _ _ _ _ none _) => { s with top := none, kind := 1, code := v.1 }
    | some (.fr _ _ _ _ (some u) tv) => (match s.reg[u]? with
      | some (.fr _ _ vk _ _ _) => (match s.reg[vk]? with
        | some (.vs l) => { s with top := some u }.put vk l tv v
        | _ => s)
      | _ => s)
    | _ => s
inductive LeaveOk (s : Mc) : Prop
  | last (k : Nat) (c : Cd1) (pc : Int) (vk vn : Nat) (tv : Int) (ht : s.top = some k) (hk : s.reg[k]? = some (.fr c pc vk vn none tv))
  | more (k : Nat) (c : Cd1) (pc : Int) (vk vn : Nat) (tv : Int) (u : Nat) (c2 : Cd1) (pc2 : Int) (vk2 : Nat) (up2 : Option Nat) (tv2 : Int) (l2 : List Vl) (ht : s.top = some k) (hk : s.reg[k]? = some (.fr c pc vk vn (some u) tv))
      (hu : s.reg[u]? = some (.fr c2 pc2 vk2 l2.length up2 tv2)) (hl : s.reg[vk2]? = some (.vs l2)) (h0 : 0 ≤ tv) (h1 : tv < (l2.length : Nat))
set_option maxHeartbeats 4000000 in
theorem leave_m (hx : T3 ext) (s : Mc) (v : Vl) (h : LeaveOk s) : G ext 31 [.ptr 1 0, .agg [.d (.int .i64 v.1), ptrV v.2]] s.H = some (.ret (.tuple []), (leaveP s v).H) := by
  have kr := cell_refs s.cells
  have kn := fun f => cell_ren f s.cells
  cases h with
  | last k c pc vk vn tv ht hk =>
    have g1 := get_rg hk
    simp only [Blk.av, Cd1.row, ptrV_none] at g1
    simp only [leaveP, ht, hk, Mc.H, Mc.obj, Md1.sr, Md1.fr, ptrV_none, ptrV_some]
    rw [G_body hx.clear rfl Tryz.func31 rfl Tryz.results31 hv_31 rfl]
    generalize s.cells.map cellA = cs at kr kn ⊢
    simp (maxSteps := 4000000) (disch := first | (intros; contradiction) | omega) only [go_sem, kr, kn, g1]
    done
  | more k c pc vk vn tv u c2 pc2 vk2 up2 tv2 l2 ht hk hu hl h0 h1 =>
    have g1 := get_rg hk
    have g2 := get_rg hu
    have hp : Pl s.reg vk2 l2 tv (nthV l2 tv) := ⟨hl, h0, h1, by unfold nthV; rw [List.getElem?_eq_getElem (by omega)]; rfl⟩
    have g4 := hp.set v
    simp only [Blk.av, Cd1.row, ptrV_some] at g1 g2
    simp only [leaveP, ht, hk, hu, hl, Mc.put, Mc.H, Mc.obj, Md1.sr, Md1.fr, ptrV_some]
    rw [G_body hx.clear rfl Tryz.func31 rfl Tryz.results31 hv_31 rfl]
    generalize s.cells.map cellA = cs at kr kn ⊢
    simp (maxSteps := 4000000) (disch := first | (intros; contradiction) | omega) only [go_sem, kr, kn, g1, g2, g4, h0, h1]
    done
structure CallOk (s : Mc) (i : In1) (vk : Nat) (l : List Vl) (c : Cd1) : Prop where
  at_ : s.reg[vk]? = some (.vs l)
  f0 : 0 ≤ i.f
  fn : s.m.funcs[i.f.toNat]? = some c
  vars : c.vars.length ≤ 1000
  few : i.args.length ≤ c.vars.length
  args : ∀ a, a ∈ i.args → 0 ≤ a ∧ a < (l.length : Nat)
theorem vals_snoc (l : List Vl) (v : Vl) : valsA l ++ [.d (.int .i64 v.1), ptrV v.2] = valsA (l ++ [v]) := by simp [valsA, vlA]
theorem app_aO {r e k : Nat} {l : List Vl} (n : Int) (hl : l.length ≤ 1000) : stkAppV r e l.length 2 16 1 2 [.d (.int .i64 n), .rp k 0] (aO e l) = some (.val (.stk r (e + 1) (l.length + 1)) [(r, aO (e + 1) (l ++ [(n, some k)]))]) := by
  have hroom : room (l.length + 1) 16 := by unfold room; simp; omega
  have hln := vals_len l
  unfold aO
  unfold stkAppV
  simp only
  rw [if_pos (by refine ⟨trivial, trivial, trivial, by decide, rfl, by omega, hroom⟩), List.take_of_length_le (by omega), ← vals_snoc]
  rfl
theorem app_aOd {r e : Nat} {l : List Vl} (n : Int) (hl : l.length ≤ 1000) : stkApp r e l.length 2 16 [[.int .i64 n, .nilp]] (aO e l) = some (.val (.stk r (e + 1) (l.length + 1)) [(r, aO (e + 1) (l ++ [(n, none)]))]) := by
  have hroom : room (l.length + 1) 16 := by unfold room; simp; omega
  have hln := vals_len l
  have hft : fits 2 ([[.int .i64 n, .nilp]] : List (List Dt)) := by intro row h; simp at h; rw [h]; rfl
  unfold aO
  unfold stkApp
  simp only [List.length_cons, List.length_nil]
  rw [if_pos (by refine ⟨trivial, trivial, hft, by omega, hroom⟩), List.take_of_length_le (by omega), ← vals_snoc]
  rfl
set_option maxHeartbeats 4000000 in
theorem call_m (hx : T3 ext) (s : Mc) (i : In1) (vk : Nat) (l : List Vl) (c : Cd1) (h : CallOk s i vk l c) : G ext 30 [.ptr 1 0, i.av, .rs vk 0 l.length 2] s.H = some (.ret (.tuple []), (enterP s c (i.args.map (nthV l)) i.d).H) := by
  have kr := cell_refs s.cells
  have kn := fun f => cell_ren f s.cells
  have krE := cell_refs (enterP s c (i.args.map (nthV l)) i.d).cells
  have knE := fun f => cell_ren f (enterP s c (i.args.map (nthV l)) i.d).cells
  have hent := G_ext (hx.enter1 s i.f i.d c (i.args.map (nthV l)) i.args.length h.f0 h.fn h.vars (by rw [List.length_map]; exact h.few))
  have hal : (i.args.map rowI).length = i.args.length := List.length_map _
  have hvr := vals_refs (i.args.map (nthV l))
  have hvn := fun f => vals_ren f (i.args.map (nthV l))
  have hat := get_rg h.at_
  simp only [Blk.av] at hat
  have hargs := h.args
  have hml := h.vars
  have hfew := h.few
  rw [List.length_map] at hent
  obtain ⟨op, d, a, b, f, n, sign, args, mode, dest, els, pos⟩ := i
  simp only at hargs hfew hent hal krE knE hvr hvn ⊢
  generalize enterP s c (args.map (nthV l)) d = s2 at krE knE hent ⊢
  simp only [In1.av, ints]
  rw [G_body hx.clear rfl Tryz.func30 rfl Tryz.results30 hv_30 rfl]
  simp only [Mc.H, Mc.obj, Md1.sr, Md1.fr, List.cons_append, List.nil_append] at hent ⊢
  generalize s.cells.map cellA = cs at kr kn hent ⊢
  generalize s2.cells.map cellA = cs2 at krE knE hent ⊢
  simp (maxSteps := 4000000) (disch := first | (intros; contradiction) | omega) only [go_sem, kr, kn]
  generalize hL : loopA _ _ _ = L
  apply range_upd hL (by simp (maxSteps := 4000000) (disch := first | (intros; contradiction) | omega) only [go_sem, kr] <;> rfl) args rowI (α := List Vl) (fun rest k acc => acc.length = k ∧ acc ++ rest.map (nthV l) = args.map (nthV l)) (fun k acc => [(6, .stk 5 acc.length acc.length), (12, .d (.int .i64 k))]) (fun _ acc => [(5, aO acc.length acc)]) [] (by simp (maxSteps := 4000000) (disch := first | (intros; contradiction) | omega) only [go_sem] <;> rfl) ⟨rfl, rfl⟩ ?_ ?_
  · rintro x rest k acc ⟨i1, i2⟩ hlt hr hget hk _ next ih
    clear hL
    obtain ⟨x0, x1⟩ := hargs x (List.mem_of_getElem? hget)
    have hp : Pl s.reg vk l x (nthV l x) := ⟨h.at_, x0, x1, by unfold nthV; rw [List.getElem?_eq_getElem (by omega)]; rfl⟩
    have g5 := hp.two
    have g6 := hp.le
    have hlen : acc.length ≤ 1000 := by omega
    simp only [rowI] at hr
    have e2 : acc ++ nthV l x :: rest.map (nthV l) = args.map (nthV l) := i2
    generalize nthV l x = v at g5 e2
    obtain ⟨vn, vp⟩ := v
    cases vp with
    | none =>
      have happ := app_aOd (r := 5) (e := acc.length) (l := acc) vn hlen
      simp only [ptrV_none] at g5
      simp (maxSteps := 4000000) (disch := first | (intros; contradiction) | omega) only [go_sem, kr, kn, hlt, hr, hat, x0, x1, g5, g6, happ, wrap64]
      refine ih (acc ++ [(vn, none)]) _ ⟨by simp [i1], by rw [← e2]; simp⟩ ?_
      rw [List.length_append]
      simp (maxSteps := 4000000) (disch := first | (intros; contradiction) | omega) only [go_sem, kr, kn] <;> rfl
    | some q =>
      have happ := app_aO (r := 5) (e := acc.length) (l := acc) (k := q) vn hlen
      simp only [ptrV_some] at g5
      simp (maxSteps := 4000000) (disch := first | (intros; contradiction) | omega) only [go_sem, kr, kn, hlt, hr, hat, x0, x1, g5, g6, happ, wrap64]
      refine ih (acc ++ [(vn, some q)]) _ ⟨by simp [i1], by rw [← e2]; simp⟩ ?_
      rw [List.length_append]
      simp (maxSteps := 4000000) (disch := first | (intros; contradiction) | omega) only [go_sem, kr, kn] <;> rfl
  · rintro k acc ⟨i1, i2⟩ hlt hk next
    clear hL
    rw [List.map_nil, List.append_nil] at i2
    subst i2
    have e3 : (args.map (nthV l)).length = args.length := List.length_map _
    simp (maxSteps := 4000000) (disch := first | (intros; contradiction) | omega) only [go_sem, kr, kn, krE, knE, hlt, e3, hent]
    done
end Go.Proofs.YtkflggjdlflndaaGreat
