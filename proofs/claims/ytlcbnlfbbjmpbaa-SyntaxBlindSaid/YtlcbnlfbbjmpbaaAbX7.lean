/- The abstract evaluator: functions whose deferred closure recovers. Conditions: the functions that are called are right. -/
import Derived.Test.YtlcbnlfbbjmpbaaAbX5
import Derived.RecoverIn
import Derived.WideLaws
set_option linter.unusedVariables false
set_option linter.unusedSimpArgs false
namespace Go.Ab
open Go

/-! ### the closure: 'if e := recover(); e != nil { .. }' -/
def opRec (o : Oper) : Option Nat :=
  match o.op, o.dst, o.guard with
  | .call c, some d, none => match c.callee with
    | .builtin .recover => if c.args.toList.isEmpty then some d else none
    | _ => none
  | _, _, _ => none
def opAsg (o : Oper) : Option (Nat × Nat) :=
  match o.op, o.dst, o.guard with
  | .assign (.tmp s), some d, none => some (d, s)
  | .move (.tmp s), some d, none => some (d, s)
  | _, _, _ => none
def opNeq (o : Oper) : Option (Nat × Nat) :=
  match o.op, o.dst, o.guard with
  | .binOp .neq _ (.tmp s) (.const .nilIface) _, some d, none => some (d, s)
  | _, _, _ => none
theorem opRec_inv {o : Oper} {d : Nat} (h : opRec o = some d) : ∃ c, o.op = .call c ∧ c.callee = .builtin .recover ∧ c.args = #[] ∧ o.dst = some d ∧ o.guard = none := by
  unfold opRec at h
  split at h
  · rename_i c d' h1 h2 h3
    split at h
    · rename_i hc
      split at h
      · rename_i ha
        cases h
        exact ⟨c, h1, hc, by rw [← Array.toList_inj]; simpa using ha, h2, h3⟩
      · cases h
    · cases h
  · cases h
theorem opAsg_inv {o : Oper} {d s : Nat} (h : opAsg o = some (d, s)) : (o.op = .assign (.tmp s) ∨ o.op = .move (.tmp s)) ∧ o.dst = some d ∧ o.guard = none := by
  unfold opAsg at h
  split at h
  · rename_i h1 h2 h3; cases h; exact ⟨.inl h1, h2, h3⟩
  · rename_i h1 h2 h3; cases h; exact ⟨.inr h1, h2, h3⟩
  · cases h
theorem opNeq_inv {o : Oper} {d s : Nat} (h : opNeq o = some (d, s)) : ∃ t t', o.op = .binOp .neq t (.tmp s) (.const .nilIface) t' ∧ o.dst = some d ∧ o.guard = none := by
  unfold opNeq at h
  split at h
  · rename_i h1 h2 h3; cases h; exact ⟨_, _, h1, h2, h3⟩
  · cases h
theorem run_rec {P : Program} {o : Oper} {d : Nat} (h : opRec o = some d) (ρ : Operand → Value) (w : World) : (execOp ρ o).run P w = .ok .recover w := by
  obtain ⟨c, h1, h2, h3, _⟩ := opRec_inv h
  unfold execOp
  rw [h1]
  simp [resolve, h2, h3]
  rfl
theorem run_asg {P : Program} {o : Oper} {d s : Nat} (h : opAsg o = some (d, s)) (ρ : Operand → Value) (w : World) : (execOp ρ o).run P w = .ok (.value (ρ (.tmp s))) w := by
  obtain ⟨h1, _⟩ := opAsg_inv h
  unfold execOp
  rcases h1 with h1 | h1
  · rw [h1]; rfl
  · rw [h1]; rfl
def isI (P : Program) (t : TypeId) : Bool :=
  match P.underlying t with
  | some (.interface ms) => decide (ms = P.methodsAt t)
  | _ => false
theorem isI_inv {P : Program} {t : TypeId} (h : isI P t = true) : P.underlying t = some (.interface (P.methodsAt t)) := by
  unfold isI at h
  split at h
  · rename_i ms hm
    rw [hm, of_decide_eq_true h]
  · cases h
def opNeqT (o : Oper) : TypeId := match o.op with | .binOp _ t _ _ _ => t | _ => 0
theorem run_neq {P : Program} {o : Oper} {d s : Nat} (h : opNeq o = some (d, s)) (hi : isI P (opNeqT o) = true) (ρ : Operand → Value) (w : World) (hc : ρ (.const .nilIface) = .nilIface) :
    (ρ (.tmp s) = .nilIface → (execOp ρ o).run P w = .ok (.value (.bool false)) w) ∧ ∀ t v, ρ (.tmp s) = .iface t v → (execOp ρ o).run P w = .ok (.value (.bool true)) w := by
  obtain ⟨t, t', h1, _⟩ := opNeq_inv h
  unfold opNeqT at hi
  rw [h1] at hi
  have hI := isI_inv hi
  unfold execOp
  rw [h1]
  constructor
  · intro hs
    simp only [hs, hc]
    have hb := run_neq_nil_nil (P := P) (w := w) t hI
    clear hI hi
    simp [go_sem]
    rw [hb]
    rfl
  · intro ty v hs
    simp only [hs, hc]
    have hb := run_neq_held_nil (P := P) (w := w) t ty v hI
    clear hI hi
    simp [go_sem]
    rw [hb]
    rfl
/-- The closure's parts. -/
structure Rc where
  d0 : Nat
  d1 : Nat
  d3 : Nat
  d4 : Nat
  o1 : Oper
  o2 : Oper
  o3 : Oper
  o4 : Oper
  i1 : Nat
  i2 : Nat
  x : Code
def recK (P : Program) (i1 i2 : Nat) (t : Nat) (x : Code) : List Oper → List Oper → Option Rc
  | [o1, o2], [o3, o4] => match opRec o1, opAsg o2, opAsg o3, opNeq o4 with
    | some d0, some (d1, s1), some (d3, s3), some (d4, s4) => if s1 = d0 ∧ s3 = d1 ∧ s4 = d3 ∧ t = d4 ∧ isI P (opNeqT o4) = true ∧ flatC x = true then some ⟨d0, d1, d3, d4, o1, o2, o3, o4, i1, i2, x⟩ else none
    | _, _, _, _ => none
  | _, _ => none
def recC (P : Program) : Code → Option Rc
  | .seq (.region i1 a false) (.seq (.region i2 b false) (.cond (.tmp t) x .skip)) => recK P i1 i2 t x a.toList b.toList
  | _ => none
/-- The closure as it is. -/
structure IsRc (P : Program) (c : Code) (r : Rc) : Prop where
  code : c = .seq (.region r.i1 #[r.o1, r.o2] false) (.seq (.region r.i2 #[r.o3, r.o4] false) (.cond (.tmp r.d4) r.x .skip))
  h1 : opRec r.o1 = some r.d0
  h2 : opAsg r.o2 = some (r.d1, r.d0)
  h3 : opAsg r.o3 = some (r.d3, r.d1)
  h4 : opNeq r.o4 = some (r.d4, r.d3)
  hi : isI P (opNeqT r.o4) = true
  flat : flatC r.x = true
theorem recC_inv {P : Program} {c : Code} {r : Rc} (h : recC P c = some r) : IsRc P c r := by
  unfold recC at h
  split at h
  · rename_i i1 a i2 b t x
    unfold recK at h
    split at h
    · rename_i o1 o2 o3 o4 ha hb
      split at h
      · rename_i d0 d1 s1 d3 s3 d4 s4 e1 e2 e3 e4
        split at h
        · rename_i hc
          obtain ⟨rfl, rfl, rfl, rfl, hi, hf⟩ := hc
          cases h
          refine ⟨?_, e1, e2, e3, e4, hi, hf⟩
          rw [show a = #[o1, o2] by rw [← Array.toList_inj]; exact ha, show b = #[o3, o4] by rw [← Array.toList_inj]; exact hb]
        · cases h
      · cases h
    · cases h
  · cases h
section
variable {P : Program}
theorem wpOpsS_val {n : Nat} {ops : Array Oper} {Q : Exit → Act → List Frame → World → Prop} {i : Nat} {rest : List Nat} {o : Oper} {a : Act} {cs : List Frame} {w : World} {v : Value} (ho : ops[i]? = some o) (hg : o.guard = none) (hr : (execOp a.eval o).run P w = .ok (.value v) w) (h : wpOpsSIn Fence.wide n P ops Q rest (a.put o.dst v) cs w) : wpOpsSIn Fence.wide n P ops Q (i :: rest) a cs w := by
  have hw : Region.wanted o (yielded ops a.tmps) = true := by unfold Region.wanted; rw [hg]
  unfold wpOpsSIn
  rw [ho]
  simp only [hw, if_true, hr]
  exact ⟨fun _ _ => trivial, h⟩
theorem wpOpsS_rec {n : Nat} {ops : Array Oper} {Q : Exit → Act → List Frame → World → Prop} {i : Nat} {rest : List Nat} {o : Oper} {a : Act} {cs : List Frame} {w : World} (ho : ops[i]? = some o) (hg : o.guard = none) (hr : (execOp a.eval o).run P w = .ok .recover w) (h : match recoverD cs with | some (v, cs') => wpOpsSIn Fence.wide n P ops Q rest (a.put o.dst v) cs' w | none => wpOpsSIn Fence.wide n P ops Q rest (a.put o.dst .nilIface) cs w) : wpOpsSIn Fence.wide n P ops Q (i :: rest) a cs w := by
  have hw : Region.wanted o (yielded ops a.tmps) = true := by unfold Region.wanted; rw [hg]
  unfold wpOpsSIn
  rw [ho]
  simp only [hw, if_true, hr]
  exact ⟨fun _ _ => trivial, h⟩
theorem wpOpsS_end {n : Nat} {ops : Array Oper} {Q Q' : Exit → Act → List Frame → World → Prop} {y : Code} {a : Act} {cs : List Frame} {w : World} (h : y.wpSIn Fence.wide n P Q a cs w) : wpOpsSIn Fence.wide n P ops (Exit.thenS (y.wpSIn Fence.wide n P Q) Q') [] a cs w := h
set_option maxHeartbeats 2000000 in
/-- The closure's four first operations: what is recovered lies in its variable, and whether it is something. -/
theorem rc_pre {n : Nat} {c : Code} {r : Rc} (hr : IsRc P c r) {Q : Exit → Act → List Frame → World → Prop} {a : Act} {cs cs' : List Frame} {w : World} {x : Value} {b : Bool} (h0 : r.d0 < a.tmps.size) (h1 : r.d1 < a.tmps.size) (h3 : r.d3 < a.tmps.size) (h4 : r.d4 < a.tmps.size)
    (hrec : (recoverD cs = some (x, cs')) ∨ (recoverD cs = none ∧ cs' = cs ∧ x = .nilIface)) (hb : (x = .nilIface ∧ b = false) ∨ (∃ t v, x = .iface t v) ∧ b = true)
    (h : (if b = true then r.x else .skip).wpSIn Fence.wide n P Q { a with tmps := (((a.tmps.setIfInBounds r.d0 x).setIfInBounds r.d1 x).setIfInBounds r.d3 x).setIfInBounds r.d4 (.bool b) } cs' w) : c.wpSIn Fence.wide n P Q a cs w := by
  obtain ⟨_, q1, q2, q3, q4, q5⟩ := opRec_inv hr.h1
  obtain ⟨_, p2, p3⟩ := opAsg_inv hr.h2
  obtain ⟨_, m2, m3⟩ := opAsg_inv hr.h3
  obtain ⟨_, _, _, k2, k3⟩ := opNeq_inv hr.h4
  have get : ∀ (t : Array Value) (d : Nat) (v : Value), d < t.size → (t.setIfInBounds d v).getD d undef = v := fun t d v hd => by
    simp [hd]
  rw [hr.code]
  refine wpSIn_seq (wpSIn_region ?_)
  rw [show List.range (#[r.o1, r.o2] : Array Oper).size = [0, 1] from rfl]
  refine wpOpsS_rec (o := r.o1) rfl q5 (run_rec hr.h1 _ _) ?_
  have key : wpOpsSIn Fence.wide n P #[r.o1, r.o2] (Exit.thenS ((Code.seq (.region r.i2 #[r.o3, r.o4] false) (.cond (.tmp r.d4) r.x .skip)).wpSIn Fence.wide n P Q) Q) [1] (a.put r.o1.dst x) cs' w := by
    rw [q4]
    refine wpOpsS_val (o := r.o2) rfl p3 (run_asg hr.h2 _ _) ?_
    rw [p2]
    show (_ : Code).wpSIn Fence.wide n P Q _ cs' w
    refine wpSIn_seq (wpSIn_region ?_)
    rw [show List.range (#[r.o3, r.o4] : Array Oper).size = [0, 1] from rfl]
    refine wpOpsS_val (o := r.o3) rfl m3 (run_asg hr.h3 _ _) ?_
    rw [m2]
    have e1 : (a.tmps.setIfInBounds r.d0 x).getD r.d0 undef = x := get _ _ _ h0
    have e2 : ((a.tmps.setIfInBounds r.d0 x).setIfInBounds r.d1 x).getD r.d1 undef = x := get _ _ _ (by simpa using h1)
    have e3 : (((a.tmps.setIfInBounds r.d0 x).setIfInBounds r.d1 x).setIfInBounds r.d3 x).getD r.d3 undef = x := get _ _ _ (by simpa using h3)
    simp only [Act.put, Act.eval, e1, e2]
    have hn : ∀ act : Act, act.tmps.getD r.d3 undef = x → (execOp act.eval r.o4).run P w = .ok (.value (.bool b)) w := by
      intro act he
      have hn := run_neq (P := P) hr.h4 hr.hi act.eval w rfl
      rcases hb with ⟨hx, hbb⟩ | ⟨⟨t, v, hx⟩, hbb⟩
      · rw [hbb]; exact hn.1 (he.trans hx)
      · rw [hbb]; exact hn.2 t v (he.trans hx)
    refine wpOpsS_val (o := r.o4) (v := .bool b) rfl k3 (hn ⟨((a.tmps.setIfInBounds r.d0 x).setIfInBounds r.d1 x).setIfInBounds r.d3 x, a.defers⟩ e3) ?_
    rw [k2]
    have e4 : ((((a.tmps.setIfInBounds r.d0 x).setIfInBounds r.d1 x).setIfInBounds r.d3 x).setIfInBounds r.d4 (.bool b)).getD r.d4 undef = .bool b := get _ _ _ (by simpa using h4)
    simp only [Act.put]
    refine wpOpsS_end ?_
    exact wpSIn_cond (t := b) e4 h
  rcases hrec with hrec | ⟨hrec, rfl, rfl⟩
  · rw [hrec]; exact key
  · rw [hrec]; exact key
end
section
variable {P : Program} {Γ : Sem'} {hd : Nat → Nat → Option (List Ht)} {hv : Nat → List Nat} {hf : Nat → Nat → List Nat}
def rcDst (r : Rc) (nt : Nat) : Bool := decide (r.d0 < nt) && (decide (r.d1 < nt) && (decide (r.d3 < nt) && decide (r.d4 < nt)))
/-- A function that is a closure that recovers, without results. -/
def recF (P : Program) (f : Nat) : Option Rc :=
  match P.funcs[f]? with
  | some F => match F.body with
    | some c => match recC P c with
      | some r => if rcDst r F.ntmps = true ∧ F.results.toList = [] then some r else none
      | none => none
    | none => none
  | none => none
theorem recF_inv {f : Nat} {r : Rc} (h : recF P f = some r) : ∃ F c, P.funcs[f]? = some F ∧ F.body = some c ∧ IsRc P c r ∧ (r.d0 < F.ntmps ∧ r.d1 < F.ntmps ∧ r.d3 < F.ntmps ∧ r.d4 < F.ntmps) ∧ F.results.toList = [] := by
  unfold recF at h
  split at h
  · rename_i F hF
    split at h
    · rename_i c hb
      split at h
      · rename_i r' hr
        split at h
        · rename_i hc
          cases h
          refine ⟨F, c, hF, hb, recC_inv hr, ?_, hc.2⟩
          have := hc.1
          unfold rcDst at this
          simpa only [Bool.and_eq_true, decide_eq_true_eq] using this
        · cases h
      · cases h
    · cases h
  · cases h
theorem results_none {F : Func} (h : F.results.toList = []) : ∃ v, ∀ (tmps : Array Value) (w : World), (results F tmps).run P w = .ok v w := by
  have h0 : F.results = #[] := by rw [← Array.toList_inj]; exact h
  refine ⟨.tuple #[], fun tmps w => ?_⟩
  unfold results
  rw [h0]
  simp
/-- Nothing to recover: nothing is done. -/
theorem rc_nil_ok {f : Nat} {r : Rc} (h : recF P f = some r) {vs : List Value} {w : World} (hl : ∀ F, P.funcs[f]? = some F → vs.length ≤ F.ntmps) : CallsDIn Fence.wide 0 P f ⟨vs⟩ .returning w fun e u' w' => u' = .returning ∧ (∃ v, e = .returned v) ∧ w' = w := by
  obtain ⟨F, c, hF, hb, hr, ⟨d0, d1, d3, d4⟩, hres⟩ := recF_inv h
  have hlen := hl F hF
  refine callsDIn_of_wpSIn hF hb trivial fun c₀ cs hu => ?_
  have hsz : ((⟨vs⟩ : Array Value) ++ Array.replicate (F.ntmps - (⟨vs⟩ : Array Value).size) undef).size = F.ntmps := by simp; omega
  have hrd : recoverD (c₀ :: cs) = none := by simp [recoverD, hu]
  refine rc_pre (x := .nilIface) (b := false) (cs' := c₀ :: cs) hr (by rw [hsz]; exact d0) (by rw [hsz]; exact d1) (by rw [hsz]; exact d3) (by rw [hsz]; exact d4) (.inr ⟨hrd, rfl, rfl⟩) (.inl ⟨rfl, rfl⟩) ?_
  rw [if_neg (by simp)]
  refine wpSIn_of_wpIn rfl (wpIn_skip ?_)
  obtain ⟨v, hv⟩ := results_none (P := P) hres
  exact ⟨rfl, .returning, by rw [← hu], v, hv _ _, rfl, ⟨v, rfl⟩, rfl⟩
/-- The closure, with what is recovered. -/
noncomputable def rcRun (P : Program) (Γ : Sem') (hd : Nat → Nat → Option (List Ht)) (hv : Nat → List Nat) (hf : Nat → Nat → List Nat) (f : Nat) (r : Rc) (as : List AV) (H : List AObj) (x : AV) : RC :=
  evC P Γ (hd f) (hf f) 0 r.x (.go (((((start as (hv f) H).put r.d0 x).put r.d1 x).put r.d3 x).put r.d4 (.d (.bool true))))
theorem rc_pan_ok (hΓ : Sound P Γ) (hok : progOk P hd = true) {f : Nat} {r : Rc} (h : recF P f = some r) {as : List AV} {H H' : List AObj} {t : TypeId} {av v0 : AV} (hl : ∀ F, P.funcs[f]? = some F → as.length ≤ F.ntmps) (hfin : finish P [] H.length (rcRun P Γ hd hv hf f r as H (.iface t av)) = some (.ret v0, H')) {w : World} {Im : Imm} {g : List Gh} {vs : List Value} {val : Value} (hH : HR P w Im g H) (hr0 : RepAs w Im g vs as) (hval : RepA w Im g val (.iface t av)) :
    CallsDIn Fence.wide 0 P f ⟨vs⟩ (.panicking [{ v := val, recovered := false }]) w fun e u' w' => u' = .panicking [{ v := val, recovered := true }] ∧ (∃ v, e = .returned v) ∧ ∃ Im' g', HR P w' Im' g' H' ∧ Ext w Im g w' Im' g' := by
  obtain ⟨F, c, hF, hb, hr, ⟨d0, d1, d3, d4⟩, hres⟩ := recF_inv h
  simp only [progOk, Bool.and_eq_true, List.all_eq_true] at hok
  obtain ⟨hm, hall⟩ := hok
  have hfs : f < P.funcs.size := (Array.getElem?_eq_some_iff.1 hF).1
  have hcode := hall f (List.mem_range.2 hfs)
  rw [hF] at hcode
  simp only [hb, Bool.and_eq_true] at hcode
  have hcx : codeOk F.ntmps (hd f) r.x = true := by
    have h1 := hcode.1
    rw [hr.code] at h1
    simp only [codeOk, Bool.and_eq_true] at h1
    exact h1.2.2.1
  have hsh : ∃ ty v, val = .iface ty v := by
    cases hval with
    | iface => exact ⟨_, _, rfl⟩
  have hs0 := start_ok (vs := hv f) hr0 hH (hl F hF)
  have hsz := hs0.size
  have hlen := hr0.1
  generalize hst : start as (hv f) H = st0 at hs0
  generalize hac : ((⟨vs⟩ : Array Value) ++ Array.replicate (F.ntmps - (⟨vs⟩ : Array Value).size) undef) = t0 at hs0 hsz
  have hstH : st0.H = H := by rw [← hst]; rfl
  have f1 := frame_put hs0.fr (d := r.d0) (by rw [hsz]; exact d0) hval
  have f2 := frame_put f1 (d := r.d1) (by simpa using (by rw [hsz]; exact d1 : r.d1 < t0.size)) hval
  have f3 := frame_put f2 (d := r.d3) (by simpa using (by rw [hsz]; exact d3 : r.d3 < t0.size)) hval
  have f4 := frame_put f3 (d := r.d4) (v := .bool true) (c := .d (.bool true)) (by simpa using (by rw [hsz]; exact d4 : r.d4 < t0.size)) (.d (.bool _))
  have hputH : ∀ (s : St) (d : Nat) (v : AV), (s.put d v).H = s.H := fun s d v => by unfold St.put putK; split <;> rfl
  unfold rcRun at hfin
  rw [hst] at hfin
  refine callsDIn_of_wpSIn hF hb trivial fun c₀ cs hu => ?_
  have hrd : recoverD (c₀ :: cs) = some (val, { c₀ with mode := .panicking [{ v := val, recovered := true }] } :: cs) := by simp [recoverD, hu]
  rw [hac]
  refine rc_pre (x := val) (b := true) hr (by show _ < t0.size; rw [hsz]; exact d0) (by show _ < t0.size; rw [hsz]; exact d1) (by show _ < t0.size; rw [hsz]; exact d3) (by show _ < t0.size; rw [hsz]; exact d4) (.inl hrd) (.inr ⟨hsh, rfl⟩) ?_
  rw [if_pos rfl]
  refine wpSIn_of_wpIn rfl ?_
  have hs4 : SRel P w Im g ((((st0.put r.d0 (.iface t av)).put r.d1 (.iface t av)).put r.d3 (.iface t av)).put r.d4 (.d (.bool true))) { tmps := (((t0.setIfInBounds r.d0 val).setIfInBounds r.d1 val).setIfInBounds r.d3 val).setIfInBounds r.d4 (.bool true), defers := [] } F.ntmps :=
    ⟨by simpa using hsz, f4, by rw [hputH, hputH, hputH, hputH, hstH]; exact hH⟩
  have hge := evC_ge (P := P) (Γ := Γ) (hd := hd f) (fg := hf f) r.x 0 ((((st0.put r.d0 (.iface t av)).put r.d1 (.iface t av)).put r.d3 (.iface t av)).put r.d4 (.d (.bool true)))
  rw [hputH, hputH, hputH, hputH, hstH] at hge
  obtain ⟨rv, hrv⟩ := results_none (P := P) hres
  refine flat_ok (fg := hf f) hΓ hm r.x 0 _ _ w Im g _ hr.flat hcx hs4 ?_
  have hret : ∀ (st : St), H.length ≤ st.H.length → leave (keepL st.vs) .ret H.length st.H (oneO (resL P st [])) = some (.ret v0, H') → ∀ a' w' Im' g', SRel P w' Im' g' st a' F.ntmps → a'.defers = [] → Ext w Im g w' Im' g' →
      a'.defers = [] ∧ ∃ u', ({ c₀ with mode := FrameMode.panicking [{ v := val, recovered := true }] } :: cs : List Frame) = { c₀ with mode := u' } :: cs ∧ ∃ v, (results F a'.tmps).run P w' = .ok v w' ∧ (u' = .panicking [{ v := val, recovered := true }] ∧ (∃ x, Ending.returned v = .returned x) ∧ ∃ Im'' g'', HR P w' Im'' g'' H' ∧ Ext w Im g w' Im'' g'') := by
    intro st hge hlv a' w' Im' g' hs hdf he
    rw [← hres] at hlv
    cases ho : oneO (resL P st F.results.toList) with
    | none => rw [ho] at hlv; simp [leave] at hlv
    | some ov =>
      rw [ho] at hlv
      obtain ⟨v, h1, h2⟩ := results_ok hs.fr hs.hr ho
      obtain ⟨_, c', Im'', g'', k1, k2, k3, k4⟩ := leave_post hH he hs.hr h2 hge hlv
      exact ⟨hdf, _, rfl, v, h1, rfl, ⟨v, rfl⟩, Im'', g'', k2, k3⟩
  generalize hR : evC P Γ (hd f) (hf f) 0 r.x (.go ((((st0.put r.d0 (.iface t av)).put r.d1 (.iface t av)).put r.d3 (.iface t av)).put r.d4 (.d (.bool true)))) = R at hfin hge
  cases R with
  | go st => exact fun a' w' Im' g' h1 h2 h3 => hret st hge hfin a' w' Im' g' h1 h2 h3
  | ex e st =>
    cases e with
    | ret => exact fun a' w' Im' g' h1 h2 h3 => hret st hge hfin a' w' Im' g' h1 h2 h3
    | pan v =>
      simp only [finish] at hfin
      simp only [leave, leaveP] at hfin
      exfalso
      revert hfin
      generalize prepQ v false = z
      cases giveQ st.H z false with
      | none => intro h; cases h
      | some c1 =>
        simp only [leave1]
        generalize setOs st.H (noes (arrs2 z)) = H1
        cases (refsOk H.length (refs c1) && refsOk H.length (refsH (H1.take H.length))) with
        | true => intro h; simp only [leave2] at h; cases h
        | false =>
          simp only [leave2]
          generalize reach H1 (2 * H1.length + 8) (refs c1 ++ refsH (H1.take H.length)) (List.range H.length) = ρ
          cases (closed H1 ρ [c1] && decide (ρ.take H.length = List.range H.length)) with
          | true => intro h; simp only [leave3] at h; cases h
          | false => intro h; simp only [leave3] at h; cases h
    | exit id => simp only [finish] at hfin; cases hfin
  | stuck => simp only [finish] at hfin; cases hfin
theorem rc_enter (hok : progOk P hd = true) {f : Nat} {r : Rc} (h : recF P f = some r) : ∀ args w, (callFunc f args).run P w = .ok (.enter f args) w := by
  obtain ⟨F, c, hF, hb, _⟩ := recF_inv h
  simp only [progOk, Bool.and_eq_true, List.all_eq_true] at hok
  obtain ⟨hm, hall⟩ := hok
  have hfs : f < P.funcs.size := (Array.getElem?_eq_some_iff.1 hF).1
  have hcode := hall f (List.mem_range.2 hfs)
  rw [hF] at hcode
  simp only [hb, Bool.and_eq_true, Bool.not_eq_true'] at hcode
  have hname' : ¬ F.name = "runtime.NumGoroutine" := by simpa using hcode.2
  exact fun args w => by simp [callFunc, hF, hb, hname']
end
section
variable (P : Program) (Γ : Sem') (hd : Nat → Nat → Option (List Ht)) (hv : Nat → List Nat) (hf : Nat → Nat → List Nat)
def capsFit (f : Nat) (n : Nat) : Bool :=
  match P.funcs[f]? with
  | some F => decide (n ≤ F.ntmps)
  | none => false
/-- The frame's end: what the closure does, then the results. -/
noncomputable def recPan (rs : List ResultVar) (k : Nat) (st : St) : Option (Out × List AObj) → Option (Out × List AObj)
  | some (.ret _, H') => finish P rs k (.ex .ret ⟨st.vs, [], H'⟩)
  | _ => none
noncomputable def recEndR (rs : List ResultVar) (k : Nat) (st : St) (f : Nat) (caps : List AV) : Option Rc → Option AV → Option (Out × List AObj)
  | some r, some (.iface t av) => recPan P rs k st (finish P [] st.H.length (rcRun P Γ hd hv hf f r caps st.H (.iface t av)))
  | some _, none => finish P rs k (.ex .ret ⟨st.vs, [], st.H⟩)
  | _, _ => none
noncomputable def recEnd (rs : List ResultVar) (k : Nat) (st : St) (x : Option AV) : AV → Option (Out × List AObj)
  | .fn f [] caps => if capsFit P f caps.length = true then recEndR P Γ hd hv hf rs k st f caps (recF P f) x else none
  | _ => none
noncomputable def recX (rs : List ResultVar) (k : Nat) (cl : AV) : RC → Option (Out × List AObj)
  | .go st => recEnd P Γ hd hv hf rs k st none cl
  | .ex .ret st => recEnd P Γ hd hv hf rs k st none cl
  | .ex (.pan v) st => recEnd P Γ hd hv hf rs k st (some v) cl
  | _ => none
noncomputable def recPost (f : Nat) (rs : List ResultVar) (k : Nat) (b : Code) (t : Nat) : RS → Option (Out × List AObj)
  | .run st => recX P Γ hd hv hf rs k (st.get t) (evC P Γ (hd f) (hf f) 0 b (.go st))
  | _ => none
noncomputable def recSeq (f : Nat) (rs : List ResultVar) (k : Nat) (a b : Code) (next : St → Option (Out × List AObj)) (st : St) : Option (Array Oper × Nat) → Option (Out × List AObj)
  | some (ops, t) => recPost P Γ hd hv hf f rs k b t (evOps P Γ ops ops.toList.dropLast st.H.length (.run (st.ready (countC ops.toList))))
  | none => if flatC a = true then defPre P rs k next (evC P Γ (hd f) (hf f) 0 a (.go st)) else none
noncomputable def recCd (f : Nat) (rs : List ResultVar) (k : Nat) : Code → St → Option (Out × List AObj)
  | .seq a b, st => recSeq P Γ hd hv hf f rs k a b (recCd f rs k b) st (lastD a)
  | _, _ => none
noncomputable def recEv : Sem' := fun f as H =>
  match P.funcs[f]? with
  | some F => match F.body with
    | some c => if as.length ≤ F.ntmps then recCd P Γ hd hv hf f F.results.toList H.length c (start as (hv f) H) else none
    | none => none
  | none => none
end
section
variable {P : Program} {Γ : Sem'} {hd : Nat → Nat → Option (List Ht)} {hv : Nat → List Nat} {hf : Nat → Nat → List Nat}
theorem capsFit_inv {f n : Nat} (h : capsFit P f n = true) : ∀ F, P.funcs[f]? = some F → n ≤ F.ntmps := by
  intro F hF
  unfold capsFit at h
  rw [hF] at h
  exact of_decide_eq_true h
theorem rc_len {f : Nat} {r : Rc} {caps : List AV} {H : List AObj} {x v0 : AV} {H2 : List AObj} (h : finish P [] H.length (rcRun P Γ hd hv hf f r caps H x) = some (.ret v0, H2)) : H.length ≤ H2.length := by
  have hputH : ∀ (s : St) (d : Nat) (v : AV), (s.put d v).H = s.H := fun s d v => by unfold St.put putK; split <;> rfl
  unfold rcRun at h
  have hge := evC_ge (P := P) (Γ := Γ) (hd := hd f) (fg := hf f) r.x 0 (((((start caps (hv f) H).put r.d0 x).put r.d1 x).put r.d3 x).put r.d4 (.d (.bool true)))
  rw [hputH, hputH, hputH, hputH] at hge
  have hst : (start caps (hv f) H).H = H := rfl
  rw [hst] at hge
  generalize evC P Γ (hd f) (hf f) 0 r.x (.go (((((start caps (hv f) H).put r.d0 x).put r.d1 x).put r.d3 x).put r.d4 (.d (.bool true)))) = R at h hge
  cases R with
  | go st => simp only [finish] at h; exact leave_len h hge
  | ex e st =>
    cases e with
    | ret => exact finish_len h hge
    | pan v => simp only [finish] at h; exact leave_len h hge
    | exit id => simp only [finish] at h; cases h
  | stuck => simp only [finish] at h; cases h
theorem leaves_recN (hok : progOk P hd = true) {F : Func} {w0 : World} {Im0 : Imm} {g0 : List Gh} {H0 H' : List AObj} {out : Out} {w : World} {Im : Imm} {g : List Gh} {st : St} {tmps : Array Value} {n0 : Nat} {ds : List Deferred} {f f' : Nat} {vc : List Value} {caps : List AV} (h0 : HR P w0 Im0 g0 H0) (e : Ext w0 Im0 g0 w Im g) (hfr : FrameRep w Im g st tmps) (hH : HR P w Im g st.H) (hk : H0.length ≤ st.H.length)
    (hn : w0.heap.size ≤ n0) (hm : Marks n0 w Im g [{ target := .fn (.func f) ⟨vc⟩, args := #[] }] ds) (hcl : RepA w Im g (.func (.func f) #[] ⟨vc⟩) (.fn f' [] caps)) {r : Rc} (hr : recF P f' = some r) (hc : capsFit P f' caps.length = true) (h : finish P F.results.toList H0.length (.ex .ret ⟨st.vs, [], st.H⟩) = some (out, H')) : LeavesInM Fence.wide 0 P F tmps (CallPost P w0 Im0 g0 out H') ds .returning w := by
  refine leaves_marks2 (I := fun w => Ext w0 Im0 g0 w Im g ∧ FrameRep w Im g st tmps ∧ HR P w Im g st.H ∧ RepA w Im g (.func (.func f) #[] ⟨vc⟩) (.fn f' [] caps)) (by simp)
    (fun u r ⟨q1, q2, q3, q4⟩ hr => ⟨ext_put q1 ⟨Nat.le_trans hn hr.1, hr.2⟩, fun k => rep_put hr.2.2.2 (q2 k), hr_put q3 hr.2.2.1 hr.2.2.2, rep_put hr.2.2.2 q4⟩) (fun w ⟨q1, q2, q3, q4⟩ => ?_) hm ⟨e, hfr, hH, hcl⟩
  cases q4 with
  | fn _ vf cf _ _ hl hl' hr1 hr' =>
    have k2 := rc_nil_ok (P := P) hr (vs := vc) (w := w) (fun F hF => by have := capsFit_inv hc F hF; omega)
    refine ⟨by simp, .inr ⟨fun h => absurd h (by simp [Fence.wide]), _, _, _, _, rfl, rc_enter hok hr _ w, fun _ _ => trivial, ?_⟩⟩
    rw [show (#[] ++ (⟨vc⟩ : Array Value)) = ⟨vc⟩ by simp]
    refine k2.mono ?_
    rintro e2 u' w2 ⟨rfl, ⟨x, rfl⟩, rfl⟩
    exact leaves_nil (st := ⟨st.vs, [], st.H⟩) h0 q1 (fun k => by
      have := q2 k
      simp only [St.get] at this ⊢
      cases hl : look k st.vs with
      | some v => rw [hl] at this; exact this
      | none => simp only [getK, look, Option.getD_none]; exact .any _) q3 hk h
theorem leaves_recP (hΓ : Sound P Γ) (hok : progOk P hd = true) {F : Func} {w0 : World} {Im0 : Imm} {g0 : List Gh} {H0 H' : List AObj} {out : Out} {w : World} {Im : Imm} {g : List Gh} {st : St} {tmps : Array Value} {n0 : Nat} {ds : List Deferred} {f f' : Nat} {vc : List Value} {caps : List AV} (h0 : HR P w0 Im0 g0 H0) (e : Ext w0 Im0 g0 w Im g) (hfr : FrameRep w Im g st tmps) (hH : HR P w Im g st.H) (hk : H0.length ≤ st.H.length)
    (hn : w0.heap.size ≤ n0) (hm : Marks n0 w Im g [{ target := .fn (.func f) ⟨vc⟩, args := #[] }] ds) (hcl : RepA w Im g (.func (.func f) #[] ⟨vc⟩) (.fn f' [] caps)) {r : Rc} (hr : recF P f' = some r) (hc : capsFit P f' caps.length = true) {val : Value} {t : TypeId} {av v0 : AV} {H2 : List AObj} (hval : RepA w Im g val (.iface t av)) (hfin : finish P [] st.H.length (rcRun P Γ hd hv hf f' r caps st.H (.iface t av)) = some (.ret v0, H2)) (h : finish P F.results.toList H0.length (.ex .ret ⟨st.vs, [], H2⟩) = some (out, H')) : LeavesInM Fence.wide 0 P F tmps (CallPost P w0 Im0 g0 out H') ds (.panicking [{ v := val, recovered := false }]) w := by
  have hlen := rc_len hfin
  refine leaves_marks2 (I := fun w => Ext w0 Im0 g0 w Im g ∧ FrameRep w Im g st tmps ∧ HR P w Im g st.H ∧ RepA w Im g (.func (.func f) #[] ⟨vc⟩) (.fn f' [] caps) ∧ RepA w Im g val (.iface t av)) (by simp)
    (fun u r ⟨q1, q2, q3, q4, q5⟩ hr => ⟨ext_put q1 ⟨Nat.le_trans hn hr.1, hr.2⟩, fun k => rep_put hr.2.2.2 (q2 k), hr_put q3 hr.2.2.1 hr.2.2.2, rep_put hr.2.2.2 q4, rep_put hr.2.2.2 q5⟩) (fun w ⟨q1, q2, q3, q4, q5⟩ => ?_) hm ⟨e, hfr, hH, hcl, hval⟩
  cases q4 with
  | fn _ vf cf _ _ hl hl' hr1 hr' =>
    have k2 := rc_pan_ok hΓ hok hr (fun F hF => capsFit_inv hc F hF) hfin q3 ⟨hl', hr'⟩ q5
    refine ⟨by simp, .inr ⟨fun h => absurd h (by simp [Fence.wide]), _, _, _, _, rfl, rc_enter hok hr _ w, fun _ _ => trivial, ?_⟩⟩
    rw [show (#[] ++ (⟨vc⟩ : Array Value)) = ⟨vc⟩ by simp]
    refine k2.mono ?_
    rintro e2 u' w2 ⟨rfl, ⟨x, rfl⟩, Im2, g2, j1, j2⟩
    show LeavesInM Fence.wide 0 P F tmps (CallPost P w0 Im0 g0 out H') [] .returning w2
    exact leaves_nil (st := ⟨st.vs, [], H2⟩) h0 (q1.trans j2) (fun k => by
      have := (q2 k).ext j2
      simp only [St.get] at this ⊢
      cases hl : look k st.vs with
      | some v => rw [hl] at this; exact this
      | none => simp only [getK, look, Option.getD_none]; exact .any _) j1 (Nat.le_trans hk hlen) h
theorem recEnd_inv {rs : List ResultVar} {k : Nat} {st : St} {x : Option AV} {cl : AV} {res : Out × List AObj} (h : recEnd P Γ hd hv hf rs k st x cl = some res) :
    ∃ f caps r, cl = .fn f [] caps ∧ capsFit P f caps.length = true ∧ recF P f = some r ∧ ((x = none ∧ finish P rs k (.ex .ret ⟨st.vs, [], st.H⟩) = some res) ∨ ∃ t av v0 H2, x = some (.iface t av) ∧ finish P [] st.H.length (rcRun P Γ hd hv hf f r caps st.H (.iface t av)) = some (.ret v0, H2) ∧ finish P rs k (.ex .ret ⟨st.vs, [], H2⟩) = some res) := by
  unfold recEnd at h
  split at h
  · rename_i f caps
    split at h
    · rename_i hc
      unfold recEndR at h
      split at h
      · rename_i r t av hr
        unfold recPan at h
        split at h
        · rename_i v0 H2 he
          exact ⟨f, caps, r, rfl, hc, hr, .inr ⟨t, av, v0, H2, rfl, he, h⟩⟩
        · cases h
      · rename_i r hr
        exact ⟨f, caps, r, rfl, hc, hr, .inl ⟨rfl, h⟩⟩
      · cases h
    · cases h
  · cases h
theorem recEnd_len {rs : List ResultVar} {k : Nat} {st : St} {x : Option AV} {cl : AV} {out : Out} {H' : List AObj} (h : recEnd P Γ hd hv hf rs k st x cl = some (out, H')) (hk : k ≤ st.H.length) : k ≤ H'.length := by
  obtain ⟨_, _, _, _, _, _, hcs⟩ := recEnd_inv h
  rcases hcs with ⟨_, h⟩ | ⟨_, _, _, _, _, h1, h2⟩
  · exact finish_len h hk
  · exact finish_len h2 (Nat.le_trans hk (rc_len h1))
theorem recCd_len (hΓ : Sound P Γ) (hok : progOk P hd = true) {f : Nat} {rs : List ResultVar} {k : Nat} {out : Out} {H' : List AObj} : ∀ (c : Code) (st : St), recCd P Γ hd hv hf f rs k c st = some (out, H') → k ≤ st.H.length → k ≤ H'.length := by
  intro c
  induction c with
  | seq a b _ ihb =>
    intro st h hk
    simp only [recCd] at h
    unfold recSeq at h
    split at h
    · rename_i ops t hl
      have hge := evOps_ge (P := P) (Γ := Γ) (n := st.H.length) (ops := ops) ops.toList.dropLast st.H.length (.run (st.ready (countC ops.toList))) (ready_ge st _)
      unfold recPost at h
      split at h
      · rename_i st1 he
        rw [he] at hge
        have hge2 := evC_ge (P := P) (Γ := Γ) (hd := hd f) (fg := hf f) b 0 st1
        unfold recX at h
        split at h
        · rename_i st2 he2
          rw [he2] at hge2
          exact recEnd_len h (Nat.le_trans hk (Nat.le_trans hge hge2))
        · rename_i st2 he2
          rw [he2] at hge2
          exact recEnd_len h (Nat.le_trans hk (Nat.le_trans hge hge2))
        · rename_i v st2 he2
          rw [he2] at hge2
          exact recEnd_len h (Nat.le_trans hk (Nat.le_trans hge hge2))
        · cases h
      · cases h
    · split at h
      · have hge := evC_ge (P := P) (Γ := Γ) (hd := hd f) (fg := hf f) a 0 st
        unfold defPre at h
        split at h
        · rename_i st1 he
          rw [he] at hge
          exact ihb st1 h (Nat.le_trans hk hge)
        · rename_i st1 he
          rw [he] at hge
          exact finish_len h (Nat.le_trans hk hge)
        · cases h
      · cases h
  | _ => intro st h; simp only [recCd] at h; cases h
theorem recCd_ok (hΓ : Sound P Γ) (hok : progOk P hd = true) (hm : P.follows .mixedOrders = true) {f : Nat} {F : Func} {w0 : World} {Im0 : Imm} {g0 : List Gh} {H0 H' : List AObj} {out : Out} (h0 : HR P w0 Im0 g0 H0) : ∀ (c : Code) (st : St) (a : Act) (w : World) (Im : Imm) (g : List Gh),
    codeOk F.ntmps (hd f) c = true → SRel P w Im g st a F.ntmps → a.defers = [] → Ext w0 Im0 g0 w Im g → H0.length ≤ st.H.length → recCd P Γ hd hv hf f F.results.toList H0.length c st = some (out, H') →
    c.wpIn (fen none) 0 P (bodyPostM Fence.wide 0 P F (CallPost P w0 Im0 g0 out H')) a w := by
  intro c
  induction c with
  | seq x y _ ihy =>
    intro st a w Im g hc hs hdf he hk h
    simp only [codeOk, Bool.and_eq_true] at hc
    simp only [recCd] at h
    unfold recSeq at h
    split at h
    · rename_i ops t hl
      obtain ⟨id, o, cc, rfl, hlast, hop, hcal, hargs, hguard, hdst⟩ := lastD_inv hl
      have hne : ops.toList ≠ [] := by intro e; rw [e] at hlast; cases hlast
      have hsplit : ops.toList = ops.toList.dropLast ++ [o] := by
        have := List.dropLast_concat_getLast hne
        rw [List.getLast?_eq_some_getLast hne] at hlast
        cases hlast
        exact this.symm
      have hsize : ops.size = ops.toList.dropLast.length + 1 := by
        have := congrArg List.length hsplit
        rw [List.length_append, Array.length_toList] at this
        exact this
      have hat : ops[ops.toList.dropLast.length]? = some o := by
        rw [← Array.getElem?_toList]
        conv => lhs; rw [hsplit]
        rw [List.getElem?_append_right (by simp)]
        simp
      have hdstR : ∀ (i : Nat) (o : Oper) (d : Nat), ops[i]? = some o → o.dst = some d → d < F.ntmps := by
        intro i o d ho hds
        simp only [codeOk, Bool.and_eq_true] at hc
        have := List.all_eq_true.1 hc.1.1 o (by rw [Array.mem_toList_iff]; exact Array.mem_of_getElem? ho)
        rw [hds] at this
        simpa using this
      unfold recPost at h
      split at h
      · rename_i st1 hev
        have hge := evOps_ge (P := P) (Γ := Γ) (n := st.H.length) (ops := ops) ops.toList.dropLast st.H.length (.run (st.ready (countC ops.toList))) (ready_ge st _)
        rw [hev] at hge
        have hix := evOps_pre (P := P) (Γ := Γ) (ops := ops) (n0 := st.H.length) ops.toList.dropLast 0 (.run (st.ready (countC ops.toList))) [o] (by rw [List.drop_zero]; exact hsplit)
        have hp0 : posOf ops 0 = 0 := by simp [posOf, countC]
        rw [hp0, Nat.add_zero, ← List.range_eq_range', hev] at hix
        refine wpIn_seq (wpIn_region ?_)
        rw [hsize, List.range_succ]
        refine wpOpsIn_app _ _ _ _ ?_
        obtain ⟨h1, h2, h3⟩ := ready_ok hs (countC ops.toList)
        refine ix_wp (ro := none) hΓ hdstR _ _ a w Im _ _ hix.symm (by simp) List.nodup_range h1 (fun i o _ ho hcr => h3 _ (posOf_lt ho hcr)) _ (fun st' a' w' Im' g' k1 k2 k3 k4 => ?_) (fun c st' v a' w' Im' g' k1 _ _ _ _ => by cases k1)
        cases k1
        show wpOpsIn _ 0 P ops _ [ops.toList.dropLast.length] a' w'
        unfold wpOpsIn
        rw [hat]
        have hw : Region.wanted o (yielded ops a'.tmps) = true := by unfold Region.wanted; rw [hguard]
        simp only [hw, if_true]
        have hrt := k2.fr t
        have hx : ∃ f' vc cl, a'.tmps.getD t undef = .func (.func f') #[] ⟨vc⟩ ∧ cl = st1.get t ∧ RepA w' Im' g' (.func (.func f') #[] ⟨vc⟩) cl := by
          generalize hcl : st1.get t = cl at h hrt
          have hcf : ∃ f' caps, cl = .fn f' [] caps := by
            unfold recX at h
            split at h
            · obtain ⟨f', caps, _, e, _⟩ := recEnd_inv h; exact ⟨f', caps, e⟩
            · obtain ⟨f', caps, _, e, _⟩ := recEnd_inv h; exact ⟨f', caps, e⟩
            · obtain ⟨f', caps, _, e, _⟩ := recEnd_inv h; exact ⟨f', caps, e⟩
            · cases h
          obtain ⟨f', caps, rfl⟩ := hcf
          generalize a'.tmps.getD t undef = v at hrt
          cases hrt with
          | fn _ vf cf vc cc hl1 hl2 hr hr' =>
            have : vf = [] := List.length_eq_zero_iff.1 (by simpa using hl1)
            subst this
            exact ⟨f', vc, _, rfl, rfl, .fn _ _ _ _ _ hl1 hl2 hr hr'⟩
        obtain ⟨f', vc, cl, hv', hcl, hrcl⟩ := hx
        rw [← hcl] at h
        refine ⟨fun _ _ => trivial, ?_⟩
        have hrun : (o.semAt (fen none).round a'.eval).run P w' = .ok (.defer { target := .fn (.func f') ⟨vc⟩, args := #[] }) w' := by
          show (execOp a'.eval o).run P w' = _
          unfold execOp
          rw [hop]
          simp only [resolve, hcal, hargs]
          have : a'.eval (.tmp t) = .func (.func f') #[] ⟨vc⟩ := hv'
          rw [this]
          simp [Deferred.ofValue]
        rw [hrun, Oper.uponIn_defer, hdst]
        show (Code.wpIn _ _ _ y _ _ _)
        have hs1 : SRel P w' Im' g' st1 { a' with defers := { target := .fn (.func f') ⟨vc⟩, args := #[] } :: a'.defers } F.ntmps := ⟨k2.size, k2.fr, k2.hr⟩
        have hdd : a'.defers = [] := k3.trans hdf
        have he1 : Ext w0 Im0 g0 w' Im' g' := he.trans (h2.trans k4)
        have hge2 := evC_ge (P := P) (Γ := Γ) (hd := hd f) (fg := hf f) y 0 st1
        refine evC_ok (fg := hf f) hΓ hm y none w'.heap.size [{ target := .fn (.func f') ⟨vc⟩, args := #[] }] 0 st1 _ w' Im' g' _ hc.2 (by simp) hs1 (by rw [hdd]; exact Marks.refl _ _ _ _ _) (Nat.le_refl _) ?_
        have hfinN : ∀ st2, st1.H.length ≤ st2.H.length → recEnd P Γ hd hv hf F.results.toList H0.length st2 none cl = some (out, H') → ∀ a2 w2 Im2 g2, SRel P w2 Im2 g2 st2 a2 F.ntmps → Marks w'.heap.size w2 Im2 g2 [{ target := .fn (.func f') ⟨vc⟩, args := #[] }] a2.defers → Ext w' Im' g' w2 Im2 g2 → LeavesInM Fence.wide 0 P F a2.tmps (CallPost P w0 Im0 g0 out H') a2.defers .returning w2 := by
          intro st2 hg2 hde a2 w2 Im2 g2 j1 j2 j3
          obtain ⟨f2, caps2, r, e2, hcp, hrf, hcs⟩ := recEnd_inv hde
          rw [e2] at hrcl
          rcases hcs with ⟨_, hfi⟩ | ⟨_, _, _, _, e3, _⟩
          · exact leaves_recN hok h0 (he1.trans j3) j1.fr j1.hr (Nat.le_trans hk (Nat.le_trans hge hg2)) he1.size j2 (hrcl.ext j3) hrf hcp hfi
          · cases e3
        have hfinP : ∀ st2 c2, st1.H.length ≤ st2.H.length → recEnd P Γ hd hv hf F.results.toList H0.length st2 (some c2) cl = some (out, H') → ∀ val a2 w2 Im2 g2, RepA w2 Im2 g2 val c2 → SRel P w2 Im2 g2 st2 a2 F.ntmps → Marks w'.heap.size w2 Im2 g2 [{ target := .fn (.func f') ⟨vc⟩, args := #[] }] a2.defers → Ext w' Im' g' w2 Im2 g2 → LeavesInM Fence.wide 0 P F a2.tmps (CallPost P w0 Im0 g0 out H') a2.defers (.panicking [{ v := val, recovered := false }]) w2 := by
          intro st2 c2 hg2 hde val a2 w2 Im2 g2 j0 j1 j2 j3
          obtain ⟨f2, caps2, r, e2, hcp, hrf, hcs⟩ := recEnd_inv hde
          rw [e2] at hrcl
          rcases hcs with ⟨e3, _⟩ | ⟨_, _, _, _, e3, hfi, hfi2⟩
          · cases e3
          · cases e3
            exact leaves_recP hΓ hok h0 (he1.trans j3) j1.fr j1.hr (Nat.le_trans hk (Nat.le_trans hge hg2)) he1.size j2 (hrcl.ext j3) hrf hcp j0 hfi hfi2
        unfold recX at h
        split at h
        · rename_i st2 hev2
          rw [hev2] at hge2 ⊢
          exact fun a2 w2 Im2 g2 j1 j2 j3 => hfinN st2 hge2 h a2 w2 Im2 g2 j1 j2 j3
        · rename_i st2 hev2
          rw [hev2] at hge2 ⊢
          exact fun a2 w2 Im2 g2 j1 j2 j3 => hfinN st2 hge2 h a2 w2 Im2 g2 j1 j2 j3
        · rename_i v st2 hev2
          rw [hev2] at hge2 ⊢
          exact fun val a2 w2 Im2 g2 j0 j1 j2 j3 => hfinP st2 v hge2 h val a2 w2 Im2 g2 j0 j1 j2 j3
        · cases h
      · cases h
    · split at h
      · rename_i hfl
        have hge := evC_ge (P := P) (Γ := Γ) (hd := hd f) (fg := hf f) x 0 st
        refine wpIn_seq (flat_ok (fg := hf f) hΓ hm x 0 st a w Im g _ hfl hc.1 hs ?_)
        unfold defPre at h
        split at h
        · rename_i st1 hev
          rw [hev] at hge ⊢
          intro a1 w1 Im1 g1 j1 j2 j3
          exact ihy st1 a1 w1 Im1 g1 hc.2 j1 (j2.trans hdf) (he.trans j3) (Nat.le_trans hk hge) h
        · rename_i st1 hev
          rw [hev] at hge ⊢
          intro a1 w1 Im1 g1 j1 j2 j3
          show LeavesInM Fence.wide 0 P F a1.tmps (CallPost P w0 Im0 g0 out H') a1.defers .returning w1
          rw [j2, hdf]
          exact leaves_nil h0 (he.trans j3) j1.fr j1.hr (Nat.le_trans hk hge) h
        · cases h
      · cases h
  | _ => intro st a w Im g _ _ _ _ _ h; simp only [recCd] at h; cases h
theorem recEv_ok (hΓ : Sound P Γ) (hok : progOk P hd = true) (hv : Nat → List Nat) (hf : Nat → Nat → List Nat) : Sound P (recEv P Γ hd hv hf) := by
  intro f as H out H' hres
  have hok' := hok
  simp only [progOk, Bool.and_eq_true, List.all_eq_true] at hok'
  obtain ⟨hm, hall⟩ := hok'
  unfold recEv at hres
  split at hres
  · rename_i F hF
    split at hres
    · rename_i c hb
      split at hres
      · rename_i hl
        have hfs : f < P.funcs.size := (Array.getElem?_eq_some_iff.1 hF).1
        have hcode := hall f (List.mem_range.2 hfs)
        rw [hF] at hcode
        simp only [hb, Bool.and_eq_true, Bool.not_eq_true'] at hcode
        obtain ⟨hc, hname⟩ := hcode
        have hname' : ¬ F.name = "runtime.NumGoroutine" := by simpa using hname
        refine ⟨fun args w => by simp [callFunc, hF, hb, hname'], recCd_len hΓ hok c _ hres (Nat.le_refl _), fun w Im g vs hH hr => ?_⟩
        refine callsIn_wide.1 (callsIn_of_wp_marks (F := Fence.wide) (n := 0) hF hb trivial ?_)
        exact recCd_ok hΓ hok hm hH c (start as (hv f) H) _ w Im g hc (start_ok hr hH hl) rfl (Ext.refl _ _ _) (Nat.le_refl _) hres
      · cases hres
    · cases hres
  · cases hres
theorem recEv_body {f : Nat} {F : Func} {c : Code} {as : List AV} {H : List AObj} {rs : List ResultVar} {V : List Nat} (h : P.funcs[f]? = some F) (hb : F.body = some c) (hr : F.results.toList = rs) (hV : hv f = V) (hl : as.length ≤ F.ntmps) :
    recEv P Γ hd hv hf f as H = recCd P Γ hd hv hf f rs H.length c (start as V H) := by
  unfold recEv
  rw [h]
  simp only
  rw [hb]
  simp only
  rw [if_pos hl, hr, hV]
theorem recCd_pre {f : Nat} {rs : List ResultVar} {k : Nat} {a b : Code} {st : St} (h1 : lastD a = none) (h2 : flatC a = true) : recCd P Γ hd hv hf f rs k (.seq a b) st = defPre P rs k (recCd P Γ hd hv hf f rs k b) (evC P Γ (hd f) (hf f) 0 a (.go st)) := by
  simp only [recCd]
  rw [h1]
  simp only [recSeq]
  rw [if_pos h2]
theorem recCd_def {f : Nat} {rs : List ResultVar} {k : Nat} {a b : Code} {st : St} {ops : Array Oper} {t n : Nat} {l : List Oper} (h1 : lastD a = some (ops, t)) (h2 : ops.toList.dropLast = l) (h3 : countC ops.toList = n) : recCd P Γ hd hv hf f rs k (.seq a b) st = recPost P Γ hd hv hf f rs k b t (evOps P Γ ops l st.H.length (.run (st.ready n))) := by
  simp only [recCd]
  rw [h1, ← h2, ← h3]
  rfl
theorem recPost_run {f : Nat} {rs : List ResultVar} {k : Nat} {b : Code} {t : Nat} {st : St} : recPost P Γ hd hv hf f rs k b t (.run st) = recX P Γ hd hv hf rs k (st.get t) (evC P Γ (hd f) (hf f) 0 b (.go st)) := rfl
theorem recX_ret {rs : List ResultVar} {k : Nat} {cl : AV} {st : St} : recX P Γ hd hv hf rs k cl (.ex .ret st) = recEnd P Γ hd hv hf rs k st none cl := rfl
theorem recX_go {rs : List ResultVar} {k : Nat} {cl : AV} {st : St} : recX P Γ hd hv hf rs k cl (.go st) = recEnd P Γ hd hv hf rs k st none cl := rfl
theorem recX_pan {rs : List ResultVar} {k : Nat} {cl v : AV} {st : St} : recX P Γ hd hv hf rs k cl (.ex (.pan v) st) = recEnd P Γ hd hv hf rs k st (some v) cl := rfl
theorem recF_of {f : Nat} {F : Func} {i1 i2 d0 d1 d3 t : Nat} {o1 o2 o3 o4 : Oper} {x : Code} (h : P.funcs[f]? = some F) (hb : F.body = some (.seq (.region i1 #[o1, o2] false) (.seq (.region i2 #[o3, o4] false) (.cond (.tmp t) x .skip)))) (k1 : opRec o1 = some d0) (k2 : opAsg o2 = some (d1, d0)) (k3 : opAsg o3 = some (d3, d1)) (k4 : opNeq o4 = some (t, d3)) (k5 : isI P (opNeqT o4) = true) (k6 : flatC x = true)
    (k7 : (decide (d0 < F.ntmps) && (decide (d1 < F.ntmps) && (decide (d3 < F.ntmps) && decide (t < F.ntmps)))) = true) (k8 : F.results.toList = []) : recF P f = some ⟨d0, d1, d3, t, o1, o2, o3, o4, i1, i2, x⟩ := by
  unfold recF
  rw [h]
  simp only
  rw [hb]
  simp only [recC, recK, k1, k2, k3, k4, k5, k6, and_self, if_true]
  rw [if_pos ⟨k7, k8⟩]
theorem recEnd_none {rs : List ResultVar} {k : Nat} {st : St} {f : Nat} {caps : List AV} {r : Rc} (hc : capsFit P f caps.length = true) (hr : recF P f = some r) : recEnd P Γ hd hv hf rs k st none (.fn f [] caps) = finish P rs k (.ex .ret ⟨st.vs, [], st.H⟩) := by
  simp only [recEnd]
  rw [if_pos hc, hr]
  rfl
theorem recEnd_some {rs : List ResultVar} {k : Nat} {st : St} {f : Nat} {caps : List AV} {r : Rc} {t : TypeId} {av v0 : AV} {H2 : List AObj} (hc : capsFit P f caps.length = true) (hr : recF P f = some r) (h : finish P [] st.H.length (rcRun P Γ hd hv hf f r caps st.H (.iface t av)) = some (.ret v0, H2)) : recEnd P Γ hd hv hf rs k st (some (.iface t av)) (.fn f [] caps) = finish P rs k (.ex .ret ⟨st.vs, [], H2⟩) := by
  simp only [recEnd]
  rw [if_pos hc, hr]
  simp only [recEndR, h, recPan]
end
end Go.Ab
