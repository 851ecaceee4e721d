/- The machine goes right: each step is as it should be. Conditions: none. -/
import Derived.Test.YtkflggjdlflndaaGreatZG
set_option linter.unusedSimpArgs false
set_option linter.unusedVariables false
namespace Go.Proofs.YtkflggjdlflndaaGreat
open Go Go.Ab
variable {ext : Sem'}
theorem stepM_at {s : Mc} {T : Nat → Option (List UInt8)} {V : Nat → List Ty1} {k : Nat} {c : Cd1} {pc : Int} {vk : Nat} {l : List Vl} {up : Option Nat} {tv : Int} {i : In1} (x : Cx s T V k c pc vk l up tv i) : stepM s =
    (if i.op = 16 then s.at k c i.to vk l.length up tv
          else if i.op = 17 then s.at k c (if (nthV l i.a).1 ≠ 0 then i.to else i.els) vk l.length up tv
          else if i.op = 15 then (match s.m.funcs[i.f.toNat]? with
            | some c2 => enterP (s.next k c pc vk l.length up tv) c2 (i.args.map (nthV l)) i.d
            | none => s)
          else if i.op = 18 then leaveP (s.next k c pc vk l.length up tv) (nthV l i.a)
          else if (numbersP (s.next k c pc vk l.length up tv) i vk l).1 then
            (if (heapM (numbersP (s.next k c pc vk l.length up tv) i vk l).2 i vk l).1 then (heapM (numbersP (s.next k c pc vk l.length up tv) i vk l).2 i vk l).2
             else { (heapM (numbersP (s.next k c pc vk l.length up tv) i vk l).2 i vk l).2 with kind := 2 })
          else { (numbersP (s.next k c pc vk l.length up tv) i vk l).2 with kind := 2 }) := by
  unfold stepM
  rw [x.f.top]
  simp only
  rw [x.f.fr]
  simp only
  rw [x.f.vs]
  simp only
  rw [x.f.ins]
  rfl
structure Stp (ext : Sem') (s : Mc) (n : Int) : Prop where
  run : G ext 16 [.ptr 1 0] s.H = some (.ret (.d (.bool true)), (stepM s).H)
  wf : ∃ T' V', Wf (stepM s) T' V'
  cnt : Cnt (stepM s) (n + 2)
  m : (stepM s).m = s.m
  fails : (stepM s).fails = s.fails
  steps : (stepM s).steps = IntKind.wrap .i64 (s.steps + 1)
theorem cnt_at {s : Mc} {n : Int} (h : Cnt s n) (k : Nat) (c : Cd1) (pc : Int) (vk vn : Nat) (up : Option Nat) (tv : Int) : Cnt (s.at k c pc vk vn up tv) n := ⟨h.as0, h.as1, h.ce1, h.ou1⟩
theorem line_in {c : Cd1} {n : Int} (h : lineIn c n = true) : 0 ≤ n ∧ n < (c.ins.length : Nat) := by unfold lineIn at h; simpa using h
theorem wf_kind {s : Mc} {T : Nat → Option (List UInt8)} {V : Nat → List Ty1} (w : Wf s T V) : Wf { s with kind := 2 } T V := ⟨w.right, w.heap, w.chain, w.cells, fun h => by cases h⟩
theorem leaveP_keep (s : Mc) (v : Vl) : (leaveP s v).m = s.m ∧ (leaveP s v).fails = s.fails ∧ (leaveP s v).steps = s.steps ∧ (leaveP s v).asked = s.asked ∧ (leaveP s v).cells = s.cells ∧ (leaveP s v).out = s.out := by
  unfold leaveP
  split
  · exact ⟨rfl, rfl, rfl, rfl, rfl, rfl⟩
  · split
    · exact ⟨rfl, rfl, rfl, rfl, rfl, rfl⟩
    · split
      · split
        · exact ⟨rfl, rfl, rfl, rfl, rfl, rfl⟩
        · exact ⟨rfl, rfl, rfl, rfl, rfl, rfl⟩
      · exact ⟨rfl, rfl, rfl, rfl, rfl, rfl⟩
    · exact ⟨rfl, rfl, rfl, rfl, rfl, rfl⟩
/-- The frame on top goes. -/
theorem leave_ok {s : Mc} {T : Nat → Option (List UInt8)} {V : Nat → List Ty1} (w : Wf s T V) {k : Nat} {c : Cd1} {pc : Int} {vk : Nat} {l : List Vl} {up : Option Nat} {tv : Int} {i : In1} (x : Cx s T V k c pc vk l up tv i) {v : Vl} (hv : vOk s.reg T c.ret.t v) :
    LeaveOk (s.next k c pc vk l.length up tv) ∧ Wf (leaveP (s.next k c pc vk l.length up tv) v) T V := by
  have hm := mv_fr x.f.fr (IntKind.wrap .i64 (pc + 1))
  have hk1 : (s.next k c pc vk l.length up tv).reg[k]? = some (.fr c (IntKind.wrap .i64 (pc + 1)) vk l.length up tv) := set_at x.f.fr _
  have ht1 : (s.next k c pc vk l.length up tv).top = some k := x.f.top
  have hh : Heap s.m (s.next k c pc vk l.length up tv).reg T V := w.heap.fr x.f.fr _
  have hce : ∀ j, j ∈ s.cells → isCe (s.next k c pc vk l.length up tv).reg[j]? := fun j hj => hm.isCe (w.cells j hj)
  have hch : Chain s.m (s.next k c pc vk l.length up tv).reg V up := x.ch.mv hm (fun u hu => (x.ok.below u hu).1) (fun _ _ _ => rfl)
  cases up with
  | none =>
    refine ⟨.last k c _ vk l.length tv ht1 hk1, ?_⟩
    unfold leaveP
    rw [ht1]
    simp only
    rw [hk1]
    exact ⟨w.right, hh, Chain.nil, hce, fun h => by cases h⟩
  | some u =>
    obtain ⟨hlt, c2, pc2, vk2, vn2, up2, tv2, hu, hin, hret⟩ := x.ok.below u rfl
    have hu1 := hm.fr u _ _ _ _ _ _ hlt hu
    cases hch with
    | cons hf ht =>
      rename_i c3 pc3 vk3 vn3 up3 tv3
      have e := hf.fr
      have e2 : (s.next k c pc vk l.length (some u) tv).reg[u]? = some (.fr c2 pc2 vk2 vn2 up2 tv2) := hu1
      rw [e] at e2
      cases e2
      obtain ⟨l2, hl2, hn2⟩ := hf.vs
      subst hn2
      have hln : l2.length = c2.vars.length := by
        have := (hh.vs vk2 l2 hl2).1
        rw [hf.vars, List.length_map] at this
        exact this
      have hin' := inV_iff.1 hin
      refine ⟨.more k c _ vk l.length tv u c2 pc2 vk2 up2 tv2 l2 ht1 hk1 e hl2 hin'.1 (by omega), ?_⟩
      unfold leaveP
      rw [ht1]
      simp only
      rw [hk1]
      simp only
      rw [e]
      simp only
      rw [hl2]
      have w2 : Wf { s.next k c pc vk l.length (some u) tv with top := some u } T V := ⟨w.right, hh, .cons hf ht, hce, fun _ => by simp⟩
      refine wf_put w2 hl2 (t := varT c2 tv) (by rw [hf.vars]; exact tys_at hin) ?_
      rw [hret]
      exact hv.mv hm (fun _ _ => rfl)
set_option maxHeartbeats 4000000 in
theorem step_wf (hx : T3 ext) {s : Mc} {T : Nat → Option (List UInt8)} {V : Nat → List Ty1} (w : Wf s T V) (hl : LightM s.m) (hk : s.kind = 4) {n : Int} (hc : Cnt s n) (hn : n ≤ 100000) : Stp ext s n := by
  obtain ⟨k, c, pc, vk, l, up, tv, i, x⟩ := cx_of w hk
  have e := stepM_at x
  have hi := ins_parts x.ins
  have hv : Vk s V c vk l := ⟨x.f.vs, x.ok.vars, x.len⟩
  have hpc : IntKind.wrap .i64 (pc + 1) = pc + 1 := by
    have h1 := x.ok.pc1
    have h2 := (hl.vars c x.ok.code).2.1
    have h3 := x.ok.pc0
    exact wrap64 (by omega) (by omega)
  have hv1 : Vk (s.next k c pc vk l.length up tv) V c vk l := ⟨set_ne x.f.vs (Ne.symm x.kv), x.ok.vars, x.len⟩
  have hlow := hi.lo
  have hhi := hi.hi
  by_cases c16 : i.op = 16
  · rw [if_pos c16] at e
    obtain ⟨q0, q1⟩ := line_in (hi.jump c16)
    exact ⟨by rw [e]; exact step_jump hx s x.f c16, ⟨T, V, by rw [e]; exact wf_at w x q0 q1⟩, by rw [e]; exact (cnt_at hc _ _ _ _ _ _ _).more (by omega), by rw [e]; rfl, by rw [e]; rfl, by rw [e]; rfl⟩
  rw [if_neg c16] at e
  by_cases c17 : i.op = 17
  · rw [if_pos c17] at e
    obtain ⟨j1, j2⟩ := hi.branch c17
    obtain ⟨p0, p1⟩ := line_in j1
    obtain ⟨q0, q1⟩ := line_in j2
    have ha := inV_iff.1 (hi.vars.a (by rw [c17]; rfl))
    have hlen := x.len
    exact ⟨by rw [e]; exact step_branch hx s x.f c17 ⟨ha.1, by omega⟩ x.kv, ⟨T, V, by rw [e]; exact wf_at w x (by split <;> assumption) (by split <;> assumption)⟩, by rw [e]; exact (cnt_at hc _ _ _ _ _ _ _).more (by omega), by rw [e]; rfl, by rw [e]; rfl, by rw [e]; rfl⟩
  rw [if_neg c17] at e
  by_cases c15 : i.op = 15
  · rw [if_pos c15] at e
    have w1 : Wf (s.next k c pc vk l.length up tv) T V := wf_at w x (by rw [hpc]; have := x.ok.pc0; omega) (by rw [hpc]; exact next_in x.f.pc0 x.f.ins x.last (by omega))
    obtain ⟨g, f0, hg, hfew, hat, hret⟩ := call_parts (hi.call c15)
    rw [hg] at e
    simp only at e
    have hgm := List.mem_of_getElem? hg
    have hargs := hi.args c15
    have hlen := x.len
    have hd := hi.vars.d (by rw [c15]; rfl)
    have hok : CallOk (s.next k c pc vk l.length up tv) i vk l g := ⟨hv1.at_, f0, hg, by have := (hl.vars g hgm).1; omega, hfew, fun a ha => by have := inV_iff.1 (hargs a ha); exact ⟨this.1, by omega⟩⟩
    obtain ⟨V', w2⟩ := enter_wf w1 hgm (args := i.args.map (nthV l)) (by rw [List.length_map]; exact hfew) (fun j v y h1 h2 => by
      rw [List.getElem?_map] at h1
      cases ha : i.args[j]? with
      | none => rw [ha] at h1; cases h1
      | some a =>
        rw [ha] at h1
        cases h1
        rw [← args_types hat j a y ha h2]
        exact hv1.val w1 (hargs a (List.mem_of_getElem? ha))) (tv := i.d) (fun u hu => by
      have : u = k := by
        have h2 : (s.next k c pc vk l.length up tv).top = some k := x.f.top
        rw [h2] at hu
        exact (Option.some.inj hu).symm
      subst this
      exact ⟨c, _, vk, l.length, up, tv, set_at x.f.fr _, hd, hret⟩)
    exact ⟨by rw [e]; exact step_call hx s x.f c15 _ (call_m hx _ i vk l g hok), ⟨T, V', by rw [e]; exact w2⟩, by rw [e]; exact ⟨hc.as0, by show s.asked ≤ _; have := hc.as1; omega, by show (s.cells.length : Int) ≤ _; have := hc.ce1; omega, by show (s.out.length : Int) ≤ _; have := hc.ou1; omega⟩, by rw [e]; rfl, by rw [e]; rfl, by rw [e]; rfl⟩
  rw [if_neg c15] at e
  by_cases c18 : i.op = 18
  · rw [if_pos c18] at e
    have ha := hi.vars.a (by rw [c18]; rfl)
    have hr := hi.ret c18
    obtain ⟨k1, k2⟩ := leave_ok w x (v := nthV l i.a) (by rw [← hr]; exact hv.val w ha)
    obtain ⟨m1, m2, m3, m4, m5, m6⟩ := leaveP_keep (s.next k c pc vk l.length up tv) (nthV l i.a)
    have ha' := inV_iff.1 ha
    have hlen := x.len
    exact ⟨by rw [e]; exact step_ret hx s x.f c18 ⟨ha'.1, by omega⟩ x.kv _ (leave_m hx _ _ k1), ⟨T, V, by rw [e]; exact k2⟩, by
      rw [e]
      refine ⟨by rw [m4]; exact hc.as0, by rw [m4]; show s.asked ≤ _; have := hc.as1; omega, by rw [m5]; show (s.cells.length : Int) ≤ _; have := hc.ce1; omega, by rw [m6]; show (s.out.length : Int) ≤ _; have := hc.ou1; omega⟩, by rw [e, m1]; rfl, by rw [e, m2]; rfl, by rw [e, m3]; rfl⟩
  rw [if_neg c18] at e
  have ho : i.op ≤ 14 := by omega
  have w1 : Wf (s.next k c pc vk l.length up tv) T V := wf_at w x (by rw [hpc]; have := x.ok.pc0; omega) (by rw [hpc]; exact next_in x.f.pc0 x.f.ins x.last (by omega))
  have hc1 : Cnt (s.next k c pc vk l.length up tv) n := cnt_at hc _ _ _ _ _ _ _
  have hi1 : InsOk (s.next k c pc vk l.length up tv).m c i := hi
  have hnum := numbers_m hx.toT1 (s.next k c pc vk l.length up tv) i vk l (hv1.num hi.vars) (by have := hc1.ou1; omega)
  have w2 := num_wf w1 hv1 hi1 ho
  obtain ⟨c2, m2, f2, t2⟩ := cnt_num hc1 i vk l
  have hk2 : (numbersP (s.next k c pc vk l.length up tv) i vk l).2.reg[k]? = some (.fr c (IntKind.wrap .i64 (pc + 1)) vk l.length up tv) := by
    have h0 : (s.next k c pc vk l.length up tv).reg[k]? = some (.fr c (IntKind.wrap .i64 (pc + 1)) vk l.length up tv) := set_at x.f.fr _
    have hgr : (getP (s.next k c pc vk l.length up tv)).2.reg = (s.next k c pc vk l.length up tv).reg := by unfold getP; split <;> rfl
    unfold numbersP
    split
    · exact set_ne h0 x.kv
    split
    · exact set_ne h0 x.kv
    split
    · show ((getP (s.next k c pc vk l.length up tv)).2.reg.set vk _)[k]? = _
      rw [hgr]; exact set_ne h0 x.kv
    split
    · exact h0
    split
    · exact set_ne h0 x.kv
    · exact h0
  have hhp : ∃ b2 s3, G ext 29 [.ptr 1 0, i.av, .rs vk 0 l.length 2] (numbersP (s.next k c pc vk l.length up tv) i vk l).2.H = some (.ret (.d (.bool b2)), s3.H) ∧ b2 = (heapM (numbersP (s.next k c pc vk l.length up tv) i vk l).2 i vk l).1 ∧ s3 = (heapM (numbersP (s.next k c pc vk l.length up tv) i vk l).2 i vk l).2 ∧ ∃ T' V', Wf s3 T' V' := by
    by_cases hnb : i.op = 1 ∨ i.op = 4 ∨ i.op = 5 ∨ i.op = 6 ∨ i.op = 14
    · have hs := heap_skip hx (numbersP (s.next k c pc vk l.length up tv) i vk l).2 i vk l.length (by omega)
      have hz : heapM (numbersP (s.next k c pc vk l.length up tv) i vk l).2 i vk l = (true, (numbersP (s.next k c pc vk l.length up tv) i vk l).2) := by
        unfold heapM
        rw [if_neg (by omega), if_neg (by omega), if_neg (by omega), if_neg (by omega), if_neg (by omega), if_neg (by omega)]
      exact ⟨true, _, hs, by rw [hz], by rw [hz], T, V, w2⟩
    · have hz : numbersP (s.next k c pc vk l.length up tv) i vk l = (true, s.next k c pc vk l.length up tv) := by
        unfold numbersP
        rw [if_neg (by omega), if_neg (by omega), if_neg (by omega), if_neg (by omega), if_neg (by omega)]
      rw [hz]
      simp only
      obtain ⟨k1, T', V', k2⟩ := heap_wf w1 (show LightM s.m from hl) hv1 hi1 ho (by have := hc1.ce1; omega) hc1.as0 (by have := hc1.as1; omega)
      exact ⟨_, _, heap_m hx.toT2 _ i vk l k1, rfl, rfl, T', V', k2⟩
  obtain ⟨b2, s3, h1, h2, h3, T', V', h4⟩ := hhp
  have hst := step_else hx s x.f c15 c16 c17 c18 _ b2 _ s3 hnum hk2 h1
  obtain ⟨c3, m3, f3, t3⟩ := cnt_heap c2 (by omega) i vk l
  rw [← h2, ← h3] at e
  rw [← h3] at c3 m3 f3 t3
  have hc3 : Cnt s3 (n + 2) := c3.more (by omega)
  have hc2 : Cnt (numbersP (s.next k c pc vk l.length up tv) i vk l).2 (n + 2) := c2.more (by omega)
  generalize numbersP (s.next k c pc vk l.length up tv) i vk l = q at *
  obtain ⟨b1, s2⟩ := q
  simp only at e hst hc2 m2 f2 t2 m3 f3 t3 w2
  cases b1 with
  | false =>
    simp only [Bool.false_eq_true, if_false] at e hst
    exact ⟨by rw [e]; exact hst, ⟨T, V, by rw [e]; exact wf_kind w2⟩, by rw [e]; exact ⟨hc2.as0, hc2.as1, hc2.ce1, hc2.ou1⟩, by rw [e]; exact m2, by rw [e]; exact f2, by rw [e]; exact t2⟩
  | true =>
    cases b2 with
    | false =>
      simp only [Bool.false_eq_true, if_false, if_true] at e hst
      exact ⟨by rw [e]; exact hst, ⟨T', V', by rw [e]; exact wf_kind h4⟩, by rw [e]; exact ⟨hc3.as0, hc3.as1, hc3.ce1, hc3.ou1⟩, by rw [e]; exact m3.trans m2, by rw [e]; exact f3.trans f2, by rw [e]; exact t3.trans t2⟩
    | true =>
      simp only [if_true] at e hst
      exact ⟨by rw [e]; exact hst, ⟨T', V', by rw [e]; exact h4⟩, by rw [e]; exact hc3, by rw [e]; exact m3.trans m2, by rw [e]; exact f3.trans f2, by rw [e]; exact t3.trans t2⟩
end Go.Proofs.YtkflggjdlflndaaGreat
