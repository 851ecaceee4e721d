/- The machine: a step. Conditions: none. -/
import Derived.Test.YtkflggjdlflndaaGreatZ5
set_option linter.unusedSimpArgs false
set_option linter.unusedVariables false
namespace Go.Proofs.YtkflggjdlflndaaGreat
open Go Go.Ab
variable {ext : Sem'}
/-- A number more, of steps; the next line. -/
def Mc.at (s : Mc) (k : Nat) (c : Cd1) (pc : Int) (vk vn : Nat) (up : Option Nat) (tv : Int) : Mc := { s with steps := IntKind.wrap .i64 (s.steps + 1), reg := s.reg.set k (.fr c pc vk vn up tv) }
/-- The frame on top. -/
structure Fr (s : Mc) (k : Nat) (c : Cd1) (pc : Int) (vk : Nat) (l : List Vl) (up : Option Nat) (tv : Int) (i : In1) : Prop where
  going : s.kind = 4
  top : s.top = some k
  fr : s.reg[k]? = some (.fr c pc vk l.length up tv)
  vs : s.reg[vk]? = some (.vs l)
  pc0 : 0 ≤ pc
  ins : c.ins[pc.toNat]? = some i
theorem set_frame {R : List Blk} {k : Nat} {c : Cd1} {pc : Int} {vk vn : Nat} {up : Option Nat} {tv : Int} (h : R[k]? = some (.fr c pc vk vn up tv)) (q : Int) : regSet (rgA R) k 1 [.d (.int .i64 q)] = some (rgA (R.set k (.fr c q vk vn up tv))) :=
  set_rg (b' := .fr c q vk vn up tv) h (by simp [Blk.av]) rfl
theorem ins_rows {c : Cd1} {pc : Int} {i : In1} (h : c.ins[pc.toNat]? = some i) : (c.ins.map In1.row)[pc.toNat]? = some i.row := by rw [List.getElem?_map, h]; rfl
theorem ins_lt {c : Cd1} {pc : Int} {i : In1} (h0 : 0 ≤ pc) (h : c.ins[pc.toNat]? = some i) : pc < ((c.ins.map In1.row).length : Nat) := by
  have := (List.getElem?_eq_some_iff.1 h).1
  rw [List.length_map]; omega
theorem step_off (hx : T3 ext) (s : Mc) (h : ¬ s.kind = 4) : G ext 16 [.ptr 1 0] s.H = some (.ret (.d (.bool false)), s.H) := by
  have kr := cell_refs s.cells
  have kn := fun f => cell_ren f s.cells
  rw [G_body hx.clear rfl Tryz.func16 rfl Tryz.results16 hv_16 rfl]
  simp only [Mc.H, Mc.obj, Md1.sr, Md1.fr]
  generalize s.cells.map cellA = cs at kr kn ⊢
  simp (maxSteps := 4000000) (disch := first | (intros; contradiction) | omega) only [go_sem, kr, kn, h]
  done
set_option maxHeartbeats 8000000 in
theorem step_jump (hx : T3 ext) (s : Mc) {k : Nat} {c : Cd1} {pc : Int} {vk : Nat} {l : List Vl} {up : Option Nat} {tv : Int} {i : In1} (h : Fr s k c pc vk l up tv i) (ho : i.op = 16) :
    G ext 16 [.ptr 1 0] s.H = some (.ret (.d (.bool true)), (s.at k c i.to vk l.length up tv).H) := by
  have kr := cell_refs s.cells
  have kn := fun f => cell_ren f s.cells
  obtain ⟨g, ht, hf, hv, h0, hi⟩ := h
  have hr := ins_rows hi
  have hlt := ins_lt h0 hi
  have g1 := get_rg hf
  have s1 := set_frame hf (IntKind.wrap .i64 (pc + 1))
  have hf2 := set_at hf (.fr c (IntKind.wrap .i64 (pc + 1)) vk l.length up tv)
  have g2 := get_rg hf2
  have s2 := set_frame hf2 i.to
  have e2 : (s.reg.set k (.fr c (IntKind.wrap .i64 (pc + 1)) vk l.length up tv)).set k (.fr c i.to vk l.length up tv) = s.reg.set k (.fr c i.to vk l.length up tv) := by rw [List.set_set]
  rw [e2] at s2
  obtain ⟨op, d, a, b, f, n, sign, args, mode, dest, els, pos⟩ := i
  simp only at ho
  subst ho
  simp only [Blk.av, Cd1.row] at g1 g2
  simp only [In1.row, ints] at hr
  rw [G_body hx.clear rfl Tryz.func16 rfl Tryz.results16 hv_16 rfl]
  simp only [Mc.at, Mc.H, Mc.obj, Md1.sr, Md1.fr, ht, ptrV_some]
  generalize s.cells.map cellA = cs at kr kn ⊢
  simp (maxSteps := 4000000) (disch := first | (intros; contradiction) | omega) only [go_sem, kr, kn, g, g1, g2, s1, s2, hr, hlt, h0]
  done
set_option maxHeartbeats 8000000 in
theorem step_branch (hx : T3 ext) (s : Mc) {k : Nat} {c : Cd1} {pc : Int} {vk : Nat} {l : List Vl} {up : Option Nat} {tv : Int} {i : In1} (h : Fr s k c pc vk l up tv i) (ho : i.op = 17) (ha : 0 ≤ i.a ∧ i.a < (l.length : Nat)) (hkv : k ≠ vk) :
    G ext 16 [.ptr 1 0] s.H = some (.ret (.d (.bool true)), (s.at k c (if (nthV l i.a).1 ≠ 0 then i.to else i.els) vk l.length up tv).H) := by
  have kr := cell_refs s.cells
  have kn := fun f => cell_ren f s.cells
  obtain ⟨g, ht, hf, hv, h0, hi⟩ := h
  have hr := ins_rows hi
  have hlt := ins_lt h0 hi
  have g1 := get_rg hf
  have s1 := set_frame hf (IntKind.wrap .i64 (pc + 1))
  have hf2 := set_at hf (.fr c (IntKind.wrap .i64 (pc + 1)) vk l.length up tv)
  have g2 := get_rg hf2
  have s2 := set_frame hf2 i.els
  rw [List.set_set] at s2
  have hf3 := set_at hf (.fr c i.els vk l.length up tv)
  have g3 := get_rg hf3
  have s3 := set_frame hf3 i.to
  rw [List.set_set] at s3
  have hv2 : (s.reg.set k (.fr c i.els vk l.length up tv))[vk]? = some (.vs l) := by rw [List.getElem?_set_ne hkv]; exact hv
  have hp : Pl (s.reg.set k (.fr c i.els vk l.length up tv)) vk l i.a (nthV l i.a) := ⟨hv2, ha.1, ha.2, by unfold nthV; rw [List.getElem?_eq_getElem (by omega)]; rfl⟩
  have g4 := hp.get
  have g5 := hp.one
  obtain ⟨a0, a1⟩ := ha
  obtain ⟨op, d, a, b, f, n, sign, args, mode, dest, els, pos⟩ := i
  simp only at ho a0 a1 g5 s2 s3 g3 g4 ⊢
  subst ho
  simp only [Blk.av, Cd1.row] at g1 g2 g3
  simp only [In1.row, ints] at hr
  rw [G_body hx.clear rfl Tryz.func16 rfl Tryz.results16 hv_16 rfl]
  simp only [Mc.at, Mc.H, Mc.obj, Md1.sr, Md1.fr, ht, ptrV_some]
  generalize s.cells.map cellA = cs at kr kn ⊢
  by_cases hz : (nthV l a).1 = 0
  · rw [if_neg (by simp [hz])]
    have hz := eq_true hz
    simp (maxSteps := 4000000) (disch := first | (intros; contradiction) | omega) only [go_sem, kr, kn, g, g1, g2, g3, g4, g5, s1, s2, hr, hlt, h0, a0, a1, hz]
    done
  · rw [if_pos hz]
    simp (maxSteps := 4000000) (disch := first | (intros; contradiction) | omega) only [go_sem, kr, kn, g, g1, g2, g3, g4, g5, s1, s2, s3, hr, hlt, h0, a0, a1, hz]
    done
/-- The state in which an instruction is done. -/
def Mc.next (s : Mc) (k : Nat) (c : Cd1) (pc : Int) (vk vn : Nat) (up : Option Nat) (tv : Int) : Mc := s.at k c (IntKind.wrap .i64 (pc + 1)) vk vn up tv
set_option maxHeartbeats 8000000 in
theorem step_call (hx : T3 ext) (s : Mc) {k : Nat} {c : Cd1} {pc : Int} {vk : Nat} {l : List Vl} {up : Option Nat} {tv : Int} {i : In1} (h : Fr s k c pc vk l up tv i) (ho : i.op = 15) (s2 : Mc)
    (hc : G ext 30 [.ptr 1 0, i.av, .rs vk 0 l.length 2] (s.next k c pc vk l.length up tv).H = some (.ret (.tuple []), s2.H)) :
    G ext 16 [.ptr 1 0] s.H = some (.ret (.d (.bool true)), s2.H) := by
  have kr := cell_refs s.cells
  have kn := fun f => cell_ren f s.cells
  obtain ⟨g, ht, hf, hv, h0, hi⟩ := h
  have hr := ins_rows hi
  have hlt := ins_lt h0 hi
  have g1 := get_rg hf
  have s1 := set_frame hf (IntKind.wrap .i64 (pc + 1))
  have hf2 := set_at hf (.fr c (IntKind.wrap .i64 (pc + 1)) vk l.length up tv)
  have g2 := get_rg hf2
  have kr2 := cell_refs s2.cells
  have kn2 := fun f => cell_ren f s2.cells
  obtain ⟨op, d, a, b, f, n, sign, args, mode, dest, els, pos⟩ := i
  simp only at ho
  subst ho
  simp only [Blk.av, Cd1.row] at g1 g2
  simp only [In1.row, ints] at hr
  rw [G_body hx.clear rfl Tryz.func16 rfl Tryz.results16 hv_16 rfl]
  simp only [In1.av, ints, Mc.next, Mc.at, Mc.H, Mc.obj, Md1.sr, Md1.fr, ht, g, ptrV_some] at hc ⊢
  generalize s.cells.map cellA = cs at kr kn hc ⊢
  generalize s2.cells.map cellA = cs2 at kr2 kn2 hc ⊢
  simp (maxSteps := 4000000) (disch := first | (intros; contradiction) | omega) only [go_sem, kr, kn, kr2, kn2, g, g1, g2, s1, hr, hlt, h0, hc]
  done
set_option maxHeartbeats 8000000 in
theorem step_ret (hx : T3 ext) (s : Mc) {k : Nat} {c : Cd1} {pc : Int} {vk : Nat} {l : List Vl} {up : Option Nat} {tv : Int} {i : In1} (h : Fr s k c pc vk l up tv i) (ho : i.op = 18) (ha : 0 ≤ i.a ∧ i.a < (l.length : Nat)) (hkv : k ≠ vk) (s2 : Mc)
    (hc : G ext 31 [.ptr 1 0, .agg [.d (.int .i64 (nthV l i.a).1), ptrV (nthV l i.a).2]] (s.next k c pc vk l.length up tv).H = some (.ret (.tuple []), s2.H)) :
    G ext 16 [.ptr 1 0] s.H = some (.ret (.d (.bool true)), s2.H) := by
  have kr := cell_refs s.cells
  have kn := fun f => cell_ren f s.cells
  obtain ⟨g, ht, hf, hv, h0, hi⟩ := h
  have hr := ins_rows hi
  have hlt := ins_lt h0 hi
  have g1 := get_rg hf
  have s1 := set_frame hf (IntKind.wrap .i64 (pc + 1))
  have hf2 := set_at hf (.fr c (IntKind.wrap .i64 (pc + 1)) vk l.length up tv)
  have g2 := get_rg hf2
  have kr2 := cell_refs s2.cells
  have kn2 := fun f => cell_ren f s2.cells
  have hv2 : (s.reg.set k (.fr c (IntKind.wrap .i64 (pc + 1)) vk l.length up tv))[vk]? = some (.vs l) := by rw [List.getElem?_set_ne hkv]; exact hv
  have hp : Pl (s.reg.set k (.fr c (IntKind.wrap .i64 (pc + 1)) vk l.length up tv)) vk l i.a (nthV l i.a) := ⟨hv2, ha.1, ha.2, by unfold nthV; rw [List.getElem?_eq_getElem (by omega)]; rfl⟩
  have g4 := hp.get
  have g5 := hp.two
  have g6 := hp.le
  obtain ⟨a0, a1⟩ := ha
  obtain ⟨op, d, a, b, f, n, sign, args, mode, dest, els, pos⟩ := i
  simp only at ho a0 a1 g4 g5 g6 hc
  subst ho
  simp only [Blk.av, Cd1.row] at g1 g2
  simp only [In1.row, ints] at hr
  rw [G_body hx.clear rfl Tryz.func16 rfl Tryz.results16 hv_16 rfl]
  simp only [Mc.next, Mc.at, Mc.H, Mc.obj, Md1.sr, Md1.fr, ht, g, ptrV_some] at hc ⊢
  generalize s.cells.map cellA = cs at kr kn hc ⊢
  generalize s2.cells.map cellA = cs2 at kr2 kn2 hc ⊢
  clear hp
  generalize nthV l a = v at g5 hc
  obtain ⟨vn, vp⟩ := v
  cases vp with
  | none =>
    simp only [ptrV_none] at g5 hc
    simp (maxSteps := 4000000) (disch := first | (intros; contradiction) | omega) only [go_sem, kr, kn, kr2, kn2, g, g1, g2, g4, g5, g6, s1, hr, hlt, h0, a0, a1, hc]
    done
  | some q =>
    simp only [ptrV_some] at g5 hc
    simp (maxSteps := 4000000) (disch := first | (intros; contradiction) | omega) only [go_sem, kr, kn, kr2, kn2, g, g1, g2, g4, g5, g6, s1, hr, hlt, h0, a0, a1, hc]
    done
set_option maxHeartbeats 8000000 in
theorem step_else (hx : T3 ext) (s : Mc) {k : Nat} {c : Cd1} {pc : Int} {vk : Nat} {l : List Vl} {up : Option Nat} {tv : Int} {i : In1} (h : Fr s k c pc vk l up tv i) (h15 : ¬ i.op = 15) (h16 : ¬ i.op = 16) (h17 : ¬ i.op = 17) (h18 : ¬ i.op = 18) (b1 b2 : Bool) (s2 s3 : Mc)
    (hn : G ext 28 [.ptr 1 0, i.av, .rs vk 0 l.length 2] (s.next k c pc vk l.length up tv).H = some (.ret (.d (.bool b1)), s2.H))
    (hk2 : s2.reg[k]? = some (.fr c (IntKind.wrap .i64 (pc + 1)) vk l.length up tv))
    (hh : G ext 29 [.ptr 1 0, i.av, .rs vk 0 l.length 2] s2.H = some (.ret (.d (.bool b2)), s3.H)) :
    G ext 16 [.ptr 1 0] s.H = some (.ret (.d (.bool true)), (if b1 then (if b2 then s3 else { s3 with kind := 2 }) else { s2 with kind := 2 } : Mc).H) := by
  have kr := cell_refs s.cells
  have kn := fun f => cell_ren f s.cells
  obtain ⟨g, ht, hf, hv, h0, hi⟩ := h
  have hr := ins_rows hi
  have hlt := ins_lt h0 hi
  have g1 := get_rg hf
  have s1 := set_frame hf (IntKind.wrap .i64 (pc + 1))
  have hf2 := set_at hf (.fr c (IntKind.wrap .i64 (pc + 1)) vk l.length up tv)
  have g2 := get_rg hf2
  have kr2 := cell_refs s2.cells
  have kn2 := fun f => cell_ren f s2.cells
  have kr3 := cell_refs s3.cells
  have kn3 := fun f => cell_ren f s3.cells
  have g3 := get_rg hk2
  obtain ⟨op, d, a, b, f, n, sign, args, mode, dest, els, pos⟩ := i
  simp only at h15 h16 h17 h18
  simp only [Blk.av, Cd1.row] at g1 g2 g3
  simp only [In1.row, ints] at hr
  rw [G_body hx.clear rfl Tryz.func16 rfl Tryz.results16 hv_16 rfl]
  cases b1 with
  | false =>
    simp only [Bool.false_eq_true, if_false]
    simp only [In1.av, ints, Mc.next, Mc.at, Mc.H, Mc.obj, Md1.sr, Md1.fr, ht, g, ptrV_some] at hn ⊢
    generalize s.cells.map cellA = cs at kr kn hn ⊢
    generalize s2.cells.map cellA = cs2 at kr2 kn2 hn ⊢
    simp (maxSteps := 4000000) (disch := first | (intros; contradiction) | omega) only [go_sem, kr, kn, kr2, kn2, g, g1, g2, s1, hr, hlt, h0, h15, h16, h17, h18, hn]
    done
  | true =>
    simp only [if_true]
    cases b2 with
    | false =>
      simp only [Bool.false_eq_true, if_false]
      simp only [In1.av, ints, Mc.next, Mc.at, Mc.H, Mc.obj, Md1.sr, Md1.fr, ht, g, ptrV_some] at hn hh ⊢
      generalize s.cells.map cellA = cs at kr kn hn ⊢
      generalize s2.cells.map cellA = cs2 at kr2 kn2 hn hh ⊢
      generalize s3.cells.map cellA = cs3 at kr3 kn3 hh ⊢
      simp (maxSteps := 4000000) (disch := first | (intros; contradiction) | omega) only [go_sem, kr, kn, kr2, kn2, kr3, kn3, g, g1, g2, g3, s1, hr, hlt, h0, h15, h16, h17, h18, hn, hh]
      done
    | true =>
      simp only [if_true]
      simp only [In1.av, ints, Mc.next, Mc.at, Mc.H, Mc.obj, Md1.sr, Md1.fr, ht, g, ptrV_some] at hn hh ⊢
      generalize s.cells.map cellA = cs at kr kn hn ⊢
      generalize s2.cells.map cellA = cs2 at kr2 kn2 hn hh ⊢
      generalize s3.cells.map cellA = cs3 at kr3 kn3 hh ⊢
      simp (maxSteps := 4000000) (disch := first | (intros; contradiction) | omega) only [go_sem, kr, kn, kr2, kn2, kr3, kn3, g, g1, g2, g3, s1, hr, hlt, h0, h15, h16, h17, h18, hn, hh]
      done
set_option maxHeartbeats 4000000 in
theorem heap_skip (hx : T3 ext) (s : Mc) (i : In1) (vk n : Nat) (h : ¬ i.op = 2 ∧ ¬ i.op = 3 ∧ ¬ i.op = 9 ∧ ¬ i.op = 12 ∧ ¬ i.op = 13 ∧ ¬ i.op = 7 ∧ ¬ i.op = 10 ∧ ¬ i.op = 8 ∧ ¬ i.op = 11) : G ext 29 [.ptr 1 0, i.av, .rs vk 0 n 2] s.H = some (.ret (.d (.bool true)), s.H) := by
  have kr := cell_refs s.cells
  have kn := fun f => cell_ren f s.cells
  obtain ⟨op, d, a, b, f, n, sign, args, mode, dest, els, pos⟩ := i
  obtain ⟨c2, c3, c9, c12, c13, c7, c10, c8, c11⟩ := h
  simp only at c2 c3 c9 c12 c13 c7 c10 c8 c11
  simp only [In1.av, ints]
  rw [G_body hx.clear rfl Tryz.func29 rfl Tryz.results29 hv_29 rfl]
  simp only [Mc.H, Mc.obj, Md1.sr, Md1.fr]
  generalize s.cells.map cellA = cs at kr kn ⊢
  simp (maxSteps := 4000000) (disch := first | (intros; contradiction) | omega) only [go_sem, kr, kn, c2, c3, c9, c12, c13, c7, c10, c8, c11]
  done
end Go.Proofs.YtkflggjdlflndaaGreat
