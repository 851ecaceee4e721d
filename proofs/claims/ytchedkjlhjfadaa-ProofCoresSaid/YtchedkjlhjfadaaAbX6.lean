/- The abstract evaluator: functions that grow a slice from nothing by a call (slices.Grow of nil). Conditions: the functions that are called are right; what is known of the growing one. -/
import Derived.Test.YtchedkjlhjfadaaAbX5a
namespace Go.Ab
open Go
section
variable {P : Program} {Γ : Sem'}
/-- A call that hands out an empty slice of one's own. -/
theorem rawCall_ok {w : World} {Im : Imm} {g : List Gh} {H : List AObj} (hH : HR P w Im g H) {f c p : Nat} {vs : List Value} (hc : ∀ Im, HR P w Im [] [] → Calls P f ⟨vs⟩ w (CallPost P w Im [] (.ret (.grow 0 0 [])) [.grow 0 1])) :
    Calls P f ⟨vs⟩ w fun e w' => ∃ v Im' g', e = .returned v ∧ LeftO P w Im g H c p [(H.length, .grow 0 1)] (.grow H.length 0 []) v w' Im' g' := by
  have hcl : closed H [] [] = true := by simp [closed, subsetB]
  obtain ⟨hHs, _⟩ := hr_sub hH hcl
  refine (hc Im hHs).mono ?_
  rintro e w' ⟨Im', g', hH', he', hout⟩
  obtain ⟨gn, n1, n2, n3, n4⟩ := hr_back hH hcl hH' he' (by simp)
  obtain ⟨u, hu, hru⟩ := hout
  have hn := n4 _ u hru
  simp only [ren, back, List.length_nil, Nat.not_lt_zero, if_false, Nat.sub_zero, Nat.add_zero] at hn
  refine ⟨u, Im', gn, hu, hn, ?_, n2, fun q _ hq => n3 q hq⟩
  simpa [backWs, back, renO] using n1
/-- The call's operation: of which function, with which number, and where the answer goes. -/
def growOp (o : Oper) : Option (Nat × Operand × Nat) :=
  match o.op with
  | .call c => match c.callee with
    | .value (.func f) => match c.args.toList with
      | [.const (.slice none 0 0), x] => match o.dst with
        | some d => if o.guard.isNone then some (f, x, d) else none
        | none => none
      | _ => none
    | _ => none
  | _ => none
def cut3 (ops : Array Oper) : List Oper → Option (Oper × (Nat × Operand × Nat) × Oper)
  | [o0, o1, o2] => match growOp o1 with
    | some q => if countC ops.toList = 0 then some (o0, q, o2) else none
    | none => none
  | _ => none
def cutD : Code → Option (Array Oper × Oper × (Nat × Operand × Nat) × Oper)
  | .region _ ops false => (cut3 ops ops.toList).map fun q => (ops, q)
  | _ => none
section
variable (P : Program) (Γ : Sem') (grows : Nat → Bool)
def cutN (st : St) (d : Nat) : AV → RS
  | .d (.int .i64 n) => if 0 ≤ n ∧ n ≤ 1000000 then .run ((st.setH [(st.H.length, .grow 0 1)]).put d (.grow st.H.length 0 [])) else .stuck
  | _ => .stuck
def cutK (q : Nat × Operand × Nat) : RS → RS
  | .run st => if grows q.1 = true then cutN st q.2.2 (evArg st q.2.1) else .stuck
  | _ => .stuck
def cutE (ops : Array Oper) (n0 : Nat) (o2 : Oper) : RS → RS
  | .run st => stepRS P Γ ops n0 o2 (.run st)
  | _ => .stuck
def noPan : RS → RS
  | .run st => .run st
  | _ => .stuck
noncomputable def cutR (st : St) (ops : Array Oper) (o0 : Oper) (q : Nat × Operand × Nat) (o2 : Oper) : RS :=
  noPan (cutE P Γ ops st.H.length o2 (cutK grows q (noPan (stepRS P Γ ops st.H.length o0 (.run (st.ready 0))))))
end
/-- What is known of a function that grows a slice. -/
def Grows (P : Program) (grows : Nat → Bool) : Prop := ∀ f, grows f = true → (∀ args w, (callFunc f args).run P w = .ok (.enter f args) w) ∧
  ∀ (n : Int) (w : World) (Im : Imm), 0 ≤ n → n ≤ 1000000 → HR P w Im [] [] → Calls P f #[.slice none 0 0, .int .i64 n] w (CallPost P w Im [] (.ret (.grow 0 0 [])) [.grow 0 1])
theorem growOp_inv {o : Oper} {f d : Nat} {x : Operand} (h : growOp o = some (f, x, d)) : ∃ c, o.op = .call c ∧ c.callee = .value (.func f) ∧ c.args.toList = [.const (.slice none 0 0), x] ∧ o.dst = some d ∧ o.guard = none := by
  unfold growOp at h
  split at h
  · rename_i c hc
    split at h
    · rename_i f' hf
      split at h
      · rename_i x' ha
        split at h
        · rename_i d' hd
          split at h
          · rename_i hg
            cases h
            exact ⟨c, hc, hf, ha, hd, by simpa using hg⟩
          · cases h
        · cases h
      · cases h
    · cases h
  · cases h
theorem cutD_inv {a : Code} {ops : Array Oper} {o0 o2 : Oper} {q : Nat × Operand × Nat} (h : cutD a = some (ops, o0, q, o2)) : ∃ id o1, a = .region id ops false ∧ ops.toList = [o0, o1, o2] ∧ growOp o1 = some q ∧ countC ops.toList = 0 := by
  unfold cutD at h
  split at h
  · rename_i id ops'
    simp only [Option.map_eq_some_iff] at h
    obtain ⟨p, h1, h2⟩ := h
    simp only [Prod.mk.injEq] at h2
    obtain ⟨rfl, rfl⟩ := h2
    unfold cut3 at h1
    split at h1
    · rename_i x0 x1 x2 hl
      split at h1
      · rename_i q' hq
        split at h1
        · rename_i hc
          cases h1
          exact ⟨id, x1, rfl, hl, hq, hc⟩
        · cases h1
      · cases h1
    · cases h1
  · cases h
section
variable {P : Program} {Γ : Sem'} {grows : Nat → Bool}
theorem cut_wp (hΓ : Sound P Γ) (hgr : Grows P grows) {c : Code} {ops : Array Oper} {o0 o2 : Oper} {q : Nat × Operand × Nat} {nt : Nat} (hcut : cutD c = some (ops, o0, q, o2)) (hdst : ∀ (i : Nat) (o : Oper) (d : Nat), ops[i]? = some o → o.dst = some d → d < nt)
    {st st' : St} {a : Act} {w : World} {Im : Imm} {g : List Gh} (hs : SRel P w Im g st a nt) (hR : cutR P Γ grows st ops o0 q o2 = .run st') {Q : Exit → Act → World → Prop}
    (hn : ∀ a' w' Im' g', SRel P w' Im' g' st' a' nt → a'.defers = a.defers → Ext w Im g w' Im' g' → Q .normal a' w') : c.wpIn (fen none) 0 P Q a w := by
  obtain ⟨id, o1, rfl, hl, hq, hc0⟩ := cutD_inv hcut
  obtain ⟨f, x, d⟩ := q
  obtain ⟨cc, hop, hcal, hargs, hd1, hg1⟩ := growOp_inv hq
  have hsz : ops.size = 3 := by rw [← Array.length_toList, hl]; rfl
  have h0 : ops[0]? = some o0 := by rw [← Array.getElem?_toList, hl]; rfl
  have h1 : ops[1]? = some o1 := by rw [← Array.getElem?_toList, hl]; rfl
  have h2 : ops[2]? = some o2 := by rw [← Array.getElem?_toList, hl]; rfl
  have hpos : ∀ i, posOf ops i = 0 := by
    intro i
    have e := List.take_append_drop i ops.toList
    have := congrArg countC e
    rw [countC_append, hc0] at this
    unfold posOf
    omega
  have hcr : ∀ (i : Nat) (o : Oper), ops[i]? = some o → creates o = 1 → False := by
    intro i o ho h
    have := posOf_succ ho
    rw [hpos, hpos, h] at this
    omega
  unfold cutR noPan at hR
  split at hR
  · rename_i st3 he3
    cases hR
    unfold cutE at he3
    split at he3
    · rename_i st2 he2
      unfold cutK at he2
      split at he2
      · rename_i st1 he1
        split at he2
        · rename_i hgf
          unfold cutN at he2
          split at he2
          · rename_i n hxn
            split at he2
            · rename_i hnn
              cases he2
              split at he1
              · rename_i st1' he0
                cases he1
                simp only at hgf hxn
                refine wpIn_region ?_
                rw [hsz, show List.range 3 = [0] ++ [1, 2] from rfl]
                refine wpOpsIn_app _ _ _ _ ?_
                obtain ⟨r1, r2, r3⟩ := ready_ok hs 0
                refine ix_wp (ro := none) (n0 := st.H.length) hΓ hdst [0] (st.ready 0) a w Im _ (.run st1) (by simp only [runIx, h0, hpos, Nat.add_zero]; exact he0) (by simp) (by simp) r1 (fun i o _ ho hc => (hcr i o ho hc).elim) _ (fun st' a1 w1 Im1 g1 k1 k2 k3 k4 => ?_) (fun c st' v a' w' Im' g' k1 _ _ _ _ => by cases k1)
                cases k1
                show wpOpsIn _ 0 P ops _ [1, 2] a1 w1
                unfold wpOpsIn
                rw [h1]
                have hw : Region.wanted o1 (yielded ops a1.tmps) = true := by unfold Region.wanted; rw [hg1]
                simp only [hw, if_true]
                refine ⟨fun _ _ => trivial, ?_⟩
                have hx := evArg_ok k2.fr x
                rw [hxn] at hx
                have hxv : a1.eval x = .int .i64 n := int_inv hx
                obtain ⟨e1, e2⟩ := hgr f hgf
                have hrun : (o1.semAt (fen none).round a1.eval).run P w1 = .ok (.enter f #[.slice none 0 0, .int .i64 n]) w1 := by
                  show (execOp a1.eval o1).run P w1 = _
                  have harr : cc.args = #[.const (.slice none 0 0), x] := by rw [← Array.toList_inj]; exact hargs
                  have hev : a1.eval (.func f) = .func (.func f) #[] #[] := rfl
                  have hnil : a1.eval (.const (.slice none 0 0)) = .slice none 0 0 := rfl
                  have := e1 #[.slice none 0 0, .int .i64 n] w1
                  simpa [execOp, hop, resolve, hcal, Deferred.ofValue, invoke, harr, hev, hnil, hxv] using this
                rw [hrun, Oper.uponIn_enter]
                refine ⟨fun h => absurd h (by simp [fen, Fence.wide]), callsIn_wide.2 ?_⟩
                refine (rawCall_ok (c := 0) (p := 0) k2.hr (f := f) (vs := [.slice none 0 0, .int .i64 n]) fun Im0 h => e2 n w1 Im0 hnn.1 hnn.2 h).mono ?_
                rintro e w2 ⟨v, Im2, g2, rfl, hL⟩
                rw [hd1]
                have hdn : d < nt := hdst 1 o1 d h1 hd1
                have hs2 : SRel P w2 Im2 g2 ((st1.setH [(st1.H.length, .grow 0 1)]).put d (.grow st1.H.length 0 [])) (a1.put (some d) v) nt := by
                  refine ⟨by simp [Act.put, k2.size], ?_, ?_⟩
                  · exact frame_put (st := st1.setH [(st1.H.length, .grow 0 1)]) (k2.fr.ext hL.ext) (by rw [k2.size]; exact hdn) hL.rep
                  · simp only [St.put]
                    cases has d (st1.setH [(st1.H.length, .grow 0 1)]).vs <;> exact hL.hr
                refine ix_wp (ro := none) (n0 := st.H.length) hΓ hdst [2] _ _ w2 Im2 _ _ (show runIx P Γ ops st.H.length [2] _ = .run st' by simp only [runIx, h2, hpos, Nat.add_zero]; exact he3) (by simp) (by simp) hs2 (fun i o _ ho hc => (hcr i o ho hc).elim) _ (fun st' a3 w3 Im3 g3 j1 j2 j3 j4 => ?_) (fun c st' v a' w' Im' g' k1 _ _ _ _ => by cases k1)
                cases j1
                exact hn a3 w3 Im3 g3 j2 (j3.trans k3) (r2.trans (k4.trans (hL.ext.trans j4)))
              · cases he1
            · cases he2
          · cases he2
        · cases he2
      · cases he2
    · cases he3
  · cases hR
end
section
variable (P : Program) (Γ : Sem') (grows : Nat → Bool) (hd : Nat → Nat → Option (List Ht)) (hv : Nat → List Nat) (hf : Nat → Nat → List Nat)
def cutFin (rs : List ResultVar) (k : Nat) : RC → Option (Out × List AObj)
  | .go st => finish P rs k (.ex .ret st)
  | .ex .ret st => finish P rs k (.ex .ret st)
  | _ => none
def cutRun (next : St → Option (Out × List AObj)) : RS → Option (Out × List AObj)
  | .run st => next st
  | _ => none
def cutGo (rs : List ResultVar) (k : Nat) (next : St → Option (Out × List AObj)) : RC → Option (Out × List AObj)
  | .go st => next st
  | .ex .ret st => finish P rs k (.ex .ret st)
  | _ => none
noncomputable def cutSeq (f : Nat) (rs : List ResultVar) (k : Nat) (a : Code) (next : St → Option (Out × List AObj)) (st : St) : Option (Array Oper × Oper × (Nat × Operand × Nat) × Oper) → Option (Out × List AObj)
  | some (ops, o0, q, o2) => cutRun next (cutR P Γ grows st ops o0 q o2)
  | none => cutGo P rs k next (evC P Γ (hd f) (hf f) 0 a (.go st))
noncomputable def cutC (f : Nat) (rs : List ResultVar) (k : Nat) : Code → St → Option (Out × List AObj)
  | .seq a b, st => cutSeq P Γ grows hd hf f rs k a (cutC f rs k b) st (cutD a)
  | c, st => cutFin P rs k (evC P Γ (hd f) (hf f) 0 c (.go st))
noncomputable def cutEv : Sem' := fun f as H =>
  match P.funcs[f]? with
  | some F => match F.body with
    | some c => if as.length ≤ F.ntmps then cutC P Γ grows hd hf f F.results.toList H.length c (start as (hv f) H) else none
    | none => none
  | none => none
end
section
variable {P : Program} {Γ : Sem'} {grows : Nat → Bool} {hd : Nat → Nat → Option (List Ht)} {hv : Nat → List Nat} {hf : Nat → Nat → List Nat}
theorem cutR_ge {st st' : St} {ops : Array Oper} {o0 o2 : Oper} {q : Nat × Operand × Nat} (h : cutR P Γ grows st ops o0 q o2 = .run st') : st.H.length ≤ st'.H.length := by
  unfold cutR noPan at h
  split at h
  · rename_i st3 he3
    cases h
    unfold cutE at he3
    split at he3
    · rename_i st2 he2
      unfold cutK at he2
      split at he2
      · rename_i st1 he1
        split at he2
        · unfold cutN at he2
          split at he2
          · split at he2
            · cases he2
              split at he1
              · rename_i st1' he0
                cases he1
                have g1 := stepRS_ge (P := P) (Γ := Γ) (n := st.H.length) (ops := ops) (p := st.H.length) (o := o0) (r := .run (st.ready 0)) (ready_ge st 0)
                rw [he0] at g1
                have g2 : st1.H.length ≤ ((st1.setH [(st1.H.length, .grow 0 1)]).put q.2.2 (.grow st1.H.length 0 [])).H.length := by
                  simp only [St.put]
                  cases has q.2.2 (st1.setH [(st1.H.length, .grow 0 1)]).vs <;> exact len_setOs _ _
                have g3 := stepRS_ge (P := P) (Γ := Γ) (n := st.H.length) (ops := ops) (p := st.H.length) (o := o2) (r := .run ((st1.setH [(st1.H.length, .grow 0 1)]).put q.2.2 (.grow st1.H.length 0 []))) (Nat.le_trans g1 g2)
                rw [he3] at g3
                exact g3
              · cases he1
            · cases he2
          · cases he2
        · cases he2
      · cases he2
    · cases he3
  · cases h
theorem cutFin_inv {rs : List ResultVar} {k : Nat} {r : RC} {x : Out × List AObj} (h : cutFin P rs k r = some x) : ∃ st, (r = .go st ∨ r = .ex .ret st) ∧ finish P rs k (.ex .ret st) = some x := by
  unfold cutFin at h
  split at h
  · exact ⟨_, .inl rfl, h⟩
  · exact ⟨_, .inr rfl, h⟩
  · cases h
theorem cutC_other {f : Nat} {rs : List ResultVar} {k : Nat} {c : Code} (hc : ∀ a b, c ≠ .seq a b) (st : St) : cutC P Γ grows hd hf f rs k c st = cutFin P rs k (evC P Γ (hd f) (hf f) 0 c (.go st)) := by
  cases c with
  | seq a b => exact absurd rfl (hc a b)
  | _ => rfl
theorem cutC_len {f : Nat} {rs : List ResultVar} {k : Nat} {out : Out} {H' : List AObj} : ∀ (c : Code) (st : St), cutC P Γ grows hd hf f rs k c st = some (out, H') → k ≤ st.H.length → k ≤ H'.length := by
  intro c
  have other : ∀ (c : Code), (∀ a b, c ≠ .seq a b) → ∀ (st : St), cutC P Γ grows hd hf f rs k c st = some (out, H') → k ≤ st.H.length → k ≤ H'.length := by
    intro c hc st h hk
    rw [cutC_other hc] at h
    obtain ⟨st1, hr, h1⟩ := cutFin_inv h
    have hge := evC_ge (P := P) (Γ := Γ) (hd := hd f) (fg := hf f) c 0 st
    rcases hr with hr | hr <;> (rw [hr] at hge; exact finish_len h1 (Nat.le_trans hk hge))
  induction c with
  | seq a b _ ihb =>
    intro st h hk
    simp only [cutC] at h
    unfold cutSeq at h
    split at h
    · rename_i ops o0 q o2 hl
      unfold cutRun at h
      split at h
      · rename_i st1 he
        exact ihb st1 h (Nat.le_trans hk (cutR_ge he))
      · cases h
    · have hge := evC_ge (P := P) (Γ := Γ) (hd := hd f) (fg := hf f) a 0 st
      unfold cutGo at h
      split at h
      · rename_i st1 he
        rw [he] at hge
        exact ihb st1 h (Nat.le_trans hk hge)
      · rename_i st1 he
        rw [he] at hge
        exact finish_len h (Nat.le_trans hk hge)
      · cases h
  | _ => exact other _ (by intro a b h; cases h)
theorem cutC_ok (hΓ : Sound P Γ) (hgr : Grows P grows) (hm : P.follows .mixedOrders = true) {f : Nat} {F : Func} {w0 : World} {Im0 : Imm} {g0 : List Gh} {H0 H' : List AObj} {out : Out} (h0 : HR P w0 Im0 g0 H0) : ∀ (c : Code) (st : St) (a : Act) (w : World) (Im : Imm) (g : List Gh),
    codeOk F.ntmps (hd f) c = true → SRel P w Im g st a F.ntmps → Marks w0.heap.size w Im g [] a.defers → Ext w0 Im0 g0 w Im g → H0.length ≤ st.H.length → cutC P Γ grows hd hf f F.results.toList H0.length c st = some (out, H') →
    c.wpIn (fen none) 0 P (bodyPostM Fence.wide 0 P F (CallPost P w0 Im0 g0 out H')) a w := by
  have hleave : ∀ (st : St) (a' : Act) (w' : World) (Im' : Imm) (g' : List Gh), finish P F.results.toList H0.length (.ex .ret st) = some (out, H') → H0.length ≤ st.H.length → SRel P w' Im' g' st a' F.ntmps → Marks w0.heap.size w' Im' g' [] a'.defers → Ext w0 Im0 g0 w' Im' g' →
      LeavesInM Fence.wide 0 P F a'.tmps (CallPost P w0 Im0 g0 out H') a'.defers .returning w' := by
    intro st a' w' Im' g' hfin hk hs hmk he
    refine leaves_marks2 (I := fun w => Ext w0 Im0 g0 w Im' g' ∧ FrameRep w Im' g' st a'.tmps ∧ HR P w Im' g' st.H) (by simp)
      (fun u r ⟨q1, q2, q3⟩ hr => ⟨ext_put q1 hr, fun k => rep_put hr.2.2.2 (q2 k), hr_put q3 hr.2.2.1 hr.2.2.2⟩) (fun w ⟨q1, q2, q3⟩ => leaves_nil h0 q1 q2 q3 hk hfin) hmk ⟨he, hs.fr, hs.hr⟩
  have other : ∀ (c : Code), (∀ a b, c ≠ .seq a b) → ∀ (st : St) (a : Act) (w : World) (Im : Imm) (g : List Gh), codeOk F.ntmps (hd f) c = true → SRel P w Im g st a F.ntmps → Marks w0.heap.size w Im g [] a.defers → Ext w0 Im0 g0 w Im g → H0.length ≤ st.H.length → cutC P Γ grows hd hf f F.results.toList H0.length c st = some (out, H') →
      c.wpIn (fen none) 0 P (bodyPostM Fence.wide 0 P F (CallPost P w0 Im0 g0 out H')) a w := by
    intro c hcs st a w Im g hc hs hmk he hk h
    rw [cutC_other hcs] at h
    obtain ⟨st1, hr, h1⟩ := cutFin_inv h
    have hge := evC_ge (P := P) (Γ := Γ) (hd := hd f) (fg := hf f) c 0 st
    refine evC_ok (fg := hf f) hΓ hm c none w0.heap.size [] 0 st a w Im g _ hc (by simp) hs hmk he.size ?_
    rcases hr with hr | hr
    · rw [hr] at hge ⊢
      exact fun a' w' Im' g' k1 k2 k3 => hleave st1 a' w' Im' g' h1 (Nat.le_trans hk hge) k1 k2 (he.trans k3)
    · rw [hr] at hge ⊢
      exact fun a' w' Im' g' k1 k2 k3 => hleave st1 a' w' Im' g' h1 (Nat.le_trans hk hge) k1 k2 (he.trans k3)
  intro c
  induction c with
  | seq x y _ ihy =>
    intro st a w Im g hc hs hmk he hk h
    simp only [codeOk, Bool.and_eq_true] at hc
    simp only [cutC] at h
    unfold cutSeq at h
    split at h
    · rename_i ops o0 q o2 hl
      unfold cutRun at h
      split at h
      · rename_i st1 hev
        have hdstR : ∀ (i : Nat) (o : Oper) (d : Nat), ops[i]? = some o → o.dst = some d → d < F.ntmps := by
          obtain ⟨id, o1, rfl, _⟩ := cutD_inv hl
          intro i o d ho hds
          simp only [codeOk, Bool.and_eq_true] at hc
          have := List.all_eq_true.1 hc.1.1 o (by rw [Array.mem_toList_iff]; exact Array.mem_of_getElem? ho)
          rw [hds] at this
          simpa using this
        refine wpIn_seq (cut_wp hΓ hgr hl hdstR hs hev fun a' w' Im' g' k1 k2 k3 => ?_)
        exact ihy st1 a' w' Im' g' hc.2 k1 (k2 ▸ hmk.ext k3) (he.trans k3) (Nat.le_trans hk (cutR_ge hev)) h
      · cases h
    · have hge := evC_ge (P := P) (Γ := Γ) (hd := hd f) (fg := hf f) x 0 st
      unfold cutGo at h
      refine wpIn_seq (evC_ok (fg := hf f) hΓ hm x none w0.heap.size [] 0 st a w Im g _ hc.1 (by simp) hs hmk he.size ?_)
      split at h
      · rename_i st1 hev
        rw [hev] at hge ⊢
        exact fun a' w' Im' g' k1 k2 k3 => ihy st1 a' w' Im' g' hc.2 k1 k2 (he.trans k3) (Nat.le_trans hk hge) h
      · rename_i st1 hev
        rw [hev] at hge ⊢
        exact fun a' w' Im' g' k1 k2 k3 => hleave st1 a' w' Im' g' h (Nat.le_trans hk hge) k1 k2 (he.trans k3)
      · cases h
  | _ => exact other _ (by intro a b h; cases h)
theorem cutEv_ok (hΓ : Sound P Γ) (hgr : Grows P grows) (hok : progOk P hd = true) (hv : Nat → List Nat) (hf : Nat → Nat → List Nat) : Sound P (cutEv P Γ grows hd hv hf) := by
  intro f as H out H' hres
  have hok' := hok
  simp only [progOk, Bool.and_eq_true, List.all_eq_true] at hok'
  obtain ⟨hm, hall⟩ := hok'
  unfold cutEv at hres
  split at hres
  · rename_i F hF
    split at hres
    · rename_i c hb
      split at hres
      · rename_i hl
        have hfs : f < P.funcs.size := (Array.getElem?_eq_some_iff.1 hF).1
        have hcode := hall f (List.mem_range.2 hfs)
        rw [hF] at hcode
        simp only [hb, Bool.and_eq_true, Bool.not_eq_true'] at hcode
        obtain ⟨hc, hname⟩ := hcode
        have hname' : ¬ F.name = "runtime.NumGoroutine" := by simpa using hname
        refine ⟨fun args w => by simp [callFunc, hF, hb, hname'], cutC_len c _ hres (Nat.le_refl _), fun w Im g vs hH hr => ?_⟩
        refine callsIn_wide.1 (callsIn_of_wp_marks (F := Fence.wide) (n := 0) hF hb trivial ?_)
        exact cutC_ok hΓ hgr hm hH c (start as (hv f) H) _ w Im g hc (start_ok hr hH hl) (Marks.refl _ _ _ _ _) (Ext.refl _ _ _) (Nat.le_refl _) hres
      · cases hres
    · cases hres
  · cases hres
theorem cutEv_body {f : Nat} {F : Func} {c : Code} {as : List AV} {H : List AObj} {rs : List ResultVar} {V : List Nat} (h : P.funcs[f]? = some F) (hb : F.body = some c) (hr : F.results.toList = rs) (hV : hv f = V) (hl : as.length ≤ F.ntmps) :
    cutEv P Γ grows hd hv hf f as H = cutC P Γ grows hd hf f rs H.length c (start as V H) := by
  unfold cutEv
  rw [h]
  simp only
  rw [hb]
  simp only
  rw [if_pos hl, hr, hV]
theorem cutC_go {f : Nat} {rs : List ResultVar} {k : Nat} {a b : Code} {st : St} (h : cutD a = none) : cutC P Γ grows hd hf f rs k (.seq a b) st = cutGo P rs k (cutC P Γ grows hd hf f rs k b) (evC P Γ (hd f) (hf f) 0 a (.go st)) := by
  simp only [cutC]
  rw [h]
  rfl
theorem cutC_cut {f : Nat} {rs : List ResultVar} {k : Nat} {a b : Code} {st : St} {ops : Array Oper} {o0 o2 : Oper} {q : Nat × Operand × Nat} (h : cutD a = some (ops, o0, q, o2)) : cutC P Γ grows hd hf f rs k (.seq a b) st = cutRun (cutC P Γ grows hd hf f rs k b) (cutR P Γ grows st ops o0 q o2) := by
  simp only [cutC]
  rw [h]
  rfl
end
end
end Go.Ab
