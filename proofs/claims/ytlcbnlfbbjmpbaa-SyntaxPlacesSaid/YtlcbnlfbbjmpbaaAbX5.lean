/- The abstract evaluator: functions that defer one call that does not recover. Conditions: the functions that are called are right. -/
import Derived.Test.YtlcbnlfbbjmpbaaAbX5a
import Derived.DefersIn
namespace Go.Ab
open Go

section
variable {F : Fence} {n : Nat} {P : Program} {o : Oper} {a : Act}
end

/-! ### code without loops -/
def flatC : Code → Bool
  | .skip => true
  | .region _ _ _ => true
  | .ret => true
  | .seq a b => flatC a && flatC b
  | .cond _ a b => flatC a && flatC b
  | _ => false
def EndsD (P : Program) (w : World) (Im : Imm) (g : List Gh) (nt : Nat) (Q : Exit → Act → World → Prop) (ds : List Deferred) : RC → Prop
  | .go st' => ∀ a' w' Im' g', SRel P w' Im' g' st' a' nt → a'.defers = ds → Ext w Im g w' Im' g' → Q .normal a' w'
  | .ex .ret st' => ∀ a' w' Im' g', SRel P w' Im' g' st' a' nt → a'.defers = ds → Ext w Im g w' Im' g' → Q .ret a' w'
  | _ => False
section
variable {P : Program} {Γ : Sem'} {hd : Nat → Option (List Ht)}
theorem EndsD.later {w w' : World} {Im Im' : Imm} {g g' : List Gh} {nt : Nat} {Q : Exit → Act → World → Prop} {ds : List Deferred} {R : RC} (h : EndsD P w Im g nt Q ds R) (e : Ext w Im g w' Im' g') : EndsD P w' Im' g' nt Q ds R := by
  cases R with
  | go st => exact fun b u J k h1 h2 h3 => h b u J k h1 h2 (e.trans h3)
  | ex x st =>
    cases x with
    | ret => exact fun b u J k h1 h2 h3 => h b u J k h1 h2 (e.trans h3)
    | _ => exact h.elim
  | stuck => exact h
theorem flat_ok (hΓ : Sound P Γ) (hm : P.follows .mixedOrders = true) {nt : Nat} {fg : Nat → List Nat} : ∀ (c : Code) (cur : Nat) (st : St) (a : Act) (w : World) (Im : Imm) (g : List Gh) (Q : Exit → Act → World → Prop),
    flatC c = true → codeOk nt hd c = true → SRel P w Im g st a nt → EndsD P w Im g nt Q a.defers (evC P Γ hd fg cur c (.go st)) → c.wpIn (fen none) 0 P Q a w := by
  intro c
  induction c with
  | skip => intro cur st a w Im g Q _ _ hs h; exact wpIn_skip (h a w Im g hs rfl (Ext.refl _ _ _))
  | region id ops draw =>
    intro cur st a w Im g Q _ hc hs h
    simp only [codeOk, Bool.and_eq_true] at hc
    obtain ⟨hc1, hc2⟩ := hc
    have hdst : ∀ (i : Nat) (o : Oper) (d : Nat), ops[i]? = some o → o.dst = some d → d < nt := by
      intro i o d ho hds
      have := List.all_eq_true.1 hc1 o (by rw [Array.mem_toList_iff]; exact Array.mem_of_getElem? ho)
      rw [hds] at this
      simpa using this
    have hev : evC P Γ hd fg cur (.region id ops draw) (.go st) = regK (adR (adH (hd id)) (regA P Γ hd id ops st draw)) := rfl
    rw [hev] at h
    cases hR : regA P Γ hd id ops st draw with
    | run st' =>
      rw [hR] at h
      refine region_wp hΓ hm hdst hc2 hs hR (by simp) (fun st'' a' w' Im' g' he h1 h2 h3 => ?_) (fun c st'' v a' w' Im' g' he _ _ _ _ => by cases he)
      cases he
      obtain ⟨Im'', g'', k1, k2⟩ := adS_ok (adH (hd id)) _ Im' g' h1
      exact h a' w' Im'' g'' k1 h2 (h3.trans k2)
    | pan v st' => rw [hR] at h; exact h.elim
    | stuck => rw [hR] at h; exact h.elim
  | ret => intro cur st a w Im g Q _ _ hs h; exact wpIn_ret (h a w Im g hs.clear rfl (Ext.refl _ _ _))
  | seq x y ihx ihy =>
    intro cur st a w Im g Q hf hc hs h
    simp only [flatC, Bool.and_eq_true] at hf
    simp only [codeOk, Bool.and_eq_true] at hc
    have hev : evC P Γ hd fg cur (.seq x y) (.go st) = evC P Γ hd fg cur y (evC P Γ hd fg cur x (.go st)) := rfl
    rw [hev] at h
    refine wpIn_seq (ihx cur st a w Im g _ hf.1 hc.1 hs ?_)
    cases hx : evC P Γ hd fg cur x (.go st) with
    | go st1 =>
      rw [hx] at h
      intro a' w' Im' g' h1 h2 h3
      exact ihy cur st1 a' w' Im' g' Q hf.2 hc.2 h1 (h2 ▸ h.later h3)
    | ex e st1 =>
      rw [hx, evC_ex'] at h
      cases e with
      | ret => exact h
      | _ => exact h.elim
    | stuck => rw [hx, evC_stuck'] at h; exact h.elim
  | cond c x y ihx ihy =>
    intro cur st a w Im g Q hf hc hs h
    simp only [flatC, Bool.and_eq_true] at hf
    simp only [codeOk, Bool.and_eq_true] at hc
    have hev : evC P Γ hd fg cur (.cond c x y) (.go st) = condK (evC P Γ hd fg cur x) (evC P Γ hd fg cur y) st (evArg st c) := rfl
    rw [hev] at h
    have hrp := evArg_ok hs.fr c
    unfold condK at h
    split at h
    · rename_i hb
      rw [hb] at hrp
      exact wpIn_cond (bool_inv hrp) (ihx cur st a w Im g Q hf.1 hc.1 hs h)
    · rename_i hb
      rw [hb] at hrp
      exact wpIn_cond (bool_inv hrp) (ihy cur st a w Im g Q hf.2 hc.2 hs h)
    · exact h.elim
  | _ => intro cur st a w Im g Q hf; cases hf

theorem evOps_pre {ops : Array Oper} {n0 : Nat} : ∀ (l : List Oper) (k : Nat) (r : RS) (s : List Oper), ops.toList.drop k = l ++ s → evOps P Γ ops l (n0 + posOf ops k) r = runIx P Γ ops n0 (List.range' k l.length) r := by
  intro l
  induction l with
  | nil => intro k r s _; rfl
  | cons o l ih =>
    intro k r s h
    have hk : k < ops.toList.length := by
      apply Nat.lt_of_not_le
      intro hle
      rw [List.drop_of_length_le hle] at h
      cases h
    have hget : ops[k]? = some o := by
      rw [List.drop_eq_getElem_cons hk] at h
      simp only [List.cons_append, List.cons.injEq] at h
      rw [← Array.getElem?_toList, List.getElem?_eq_getElem hk, h.1]
    have hdrop : ops.toList.drop (k + 1) = l ++ s := by
      rw [List.drop_eq_getElem_cons hk] at h
      simp only [List.cons_append, List.cons.injEq] at h
      exact h.2
    simp only [evOps, List.length_cons, List.range'_succ, runIx, hget]
    rw [← ih (k + 1) _ s hdrop, posOf_succ hget, Nat.add_assoc]
end

/-! ### one deferred call -/
def deferT (o : Oper) : Option Nat :=
  match o.op with
  | .defer c => match c.callee with
    | .value (.tmp t) => if c.args.toList.isEmpty && o.guard.isNone && o.dst.isNone then some t else none
    | _ => none
  | _ => none
def lastK (ops : Array Oper) : Option Oper → Option (Array Oper × Nat)
  | some o => (deferT o).map fun t => (ops, t)
  | none => none
def lastD : Code → Option (Array Oper × Nat)
  | .region _ ops false => lastK ops ops.toList.getLast?
  | _ => none
def flatF (P : Program) (f : Nat) : Bool :=
  match P.funcs[f]? with
  | some F => match F.body with
    | some c => flatC c
    | none => false
  | none => false
section
variable (P : Program) (Γ : Sem') (hd : Nat → Nat → Option (List Ht)) (hv : Nat → List Nat) (hf : Nat → Nat → List Nat)
def defH (rs : List ResultVar) (k : Nat) (st : St) : Option (Out × List AObj) → Option (Out × List AObj)
  | some (.ret _, H') => finish P rs k (.ex .ret ⟨st.vs, [], H'⟩)
  | _ => none
noncomputable def defEnd (rs : List ResultVar) (k : Nat) (st : St) : AV → Option (Out × List AObj)
  | .fn f [] caps => if flatF P f = true then defH P rs k st (fnEv P Γ hd hv hf f caps st.H) else none
  | _ => none
noncomputable def defX (rs : List ResultVar) (k : Nat) (cl : AV) : RC → Option (Out × List AObj)
  | .go st => defEnd P Γ hd hv hf rs k st cl
  | .ex .ret st => defEnd P Γ hd hv hf rs k st cl
  | _ => none
noncomputable def defPost (f : Nat) (rs : List ResultVar) (k : Nat) (b : Code) (t : Nat) : RS → Option (Out × List AObj)
  | .run st => defX P Γ hd hv hf rs k (st.get t) (evC P Γ (hd f) (hf f) 0 b (.go st))
  | _ => none
noncomputable def defPre (rs : List ResultVar) (k : Nat) (next : St → Option (Out × List AObj)) : RC → Option (Out × List AObj)
  | .go st => next st
  | .ex .ret st => finish P rs k (.ex .ret st)
  | _ => none
noncomputable def defSeq (f : Nat) (rs : List ResultVar) (k : Nat) (a b : Code) (next : St → Option (Out × List AObj)) (st : St) : Option (Array Oper × Nat) → Option (Out × List AObj)
  | some (ops, t) => defPost P Γ hd hv hf f rs k b t (evOps P Γ ops ops.toList.dropLast st.H.length (.run (st.ready (countC ops.toList))))
  | none => if flatC a = true then defPre P rs k next (evC P Γ (hd f) (hf f) 0 a (.go st)) else none
noncomputable def defC (f : Nat) (rs : List ResultVar) (k : Nat) : Code → St → Option (Out × List AObj)
  | .seq a b, st => defSeq P Γ hd hv hf f rs k a b (defC f rs k b) st (lastD a)
  | _, _ => none
noncomputable def defEv : Sem' := fun f as H =>
  match P.funcs[f]? with
  | some F => match F.body with
    | some c => if as.length ≤ F.ntmps then defC P Γ hd hv hf f F.results.toList H.length c (start as (hv f) H) else none
    | none => none
  | none => none
end
section
variable {P : Program} {Γ : Sem'} {hd : Nat → Nat → Option (List Ht)} {hv : Nat → List Nat} {hf : Nat → Nat → List Nat}

/-- A flat function, as a deferred call. -/
theorem dcall_ok (hΓ : Sound P Γ) (hok : progOk P hd = true) {f : Nat} (hfl : flatF P f = true) {as : List AV} {H H' : List AObj} {v0 : AV} (h : fnEv P Γ hd hv hf f as H = some (.ret v0, H')) {w : World} {Im : Imm} {g : List Gh} {vs : List Value} {u : FrameMode} (hH : HR P w Im g H) (hr : RepAs w Im g vs as) :
    (∀ args w, (callFunc f args).run P w = .ok (.enter f args) w) ∧ CallsDIn Fence.wide 0 P f ⟨vs⟩ u w fun e u' w' => u' = u ∧ (∃ v, e = .returned v) ∧ ∃ Im' g', HR P w' Im' g' H' ∧ Ext w Im g w' Im' g' := by
  simp only [progOk, Bool.and_eq_true, List.all_eq_true] at hok
  obtain ⟨hm, hall⟩ := hok
  unfold flatF at hfl
  unfold fnEv fnK at h
  split at h
  · rename_i F hF
    rw [hF] at hfl
    simp only at hfl
    unfold bodyEv at h
    split at h
    · rename_i c hb
      rw [hb] at hfl
      simp only at hfl
      split at h
      · rename_i hl
        have hfs : f < P.funcs.size := (Array.getElem?_eq_some_iff.1 hF).1
        have hcode := hall f (List.mem_range.2 hfs)
        rw [hF] at hcode
        simp only [hb, Bool.and_eq_true, Bool.not_eq_true'] at hcode
        obtain ⟨hc, hname⟩ := hcode
        have hname' : ¬ F.name = "runtime.NumGoroutine" := by simpa using hname
        refine ⟨fun args w => by simp [callFunc, hF, hb, hname'], ?_⟩
        have hge := evC_ge (P := P) (Γ := Γ) (hd := hd f) (fg := hf f) c 0 (start as (hv f) H)
        refine (callsDIn_of_wp (F := Fence.wide) (n := 0) (R := fun e w' => (∃ v, e = .returned v) ∧ ∃ Im' g', HR P w' Im' g' H' ∧ Ext w Im g w' Im' g') hF hb trivial ?_).mono fun e u' w' h => ⟨h.1, h.2⟩
        refine flat_ok (fg := hf f) hΓ hm c 0 (start as (hv f) H) _ w Im g _ hfl hc (start_ok hr hH hl) ?_
        have hret : ∀ (st : St), H.length ≤ st.H.length → leave (keepL st.vs) .ret H.length st.H (oneO (resL P st F.results.toList)) = some (.ret v0, H') → ∀ a' w' Im' g', SRel P w' Im' g' st a' F.ntmps → a'.defers = [] → Ext w Im g w' Im' g' →
            a'.defers = [] ∧ ∃ v, (results F a'.tmps).run P w' = .ok v w' ∧ (∃ x, Ending.returned v = .returned x) ∧ ∃ Im'' g'', HR P w' Im'' g'' H' ∧ Ext w Im g w' Im'' g'' := by
          intro st hge hlv a' w' Im' g' hs hdf he
          cases ho : oneO (resL P st F.results.toList) with
          | none => rw [ho] at hlv; simp [leave] at hlv
          | some ov =>
            rw [ho] at hlv
            obtain ⟨v, h1, h2⟩ := results_ok hs.fr hs.hr ho
            obtain ⟨_, c', Im'', g'', k1, k2, k3, k4⟩ := leave_post hH he hs.hr h2 hge hlv
            exact ⟨hdf, v, h1, ⟨v, rfl⟩, Im'', g'', k2, k3⟩
        generalize hR : evC P Γ (hd f) (hf f) 0 c (.go (start as (hv f) H)) = R at h hge
        cases R with
        | go st => exact fun a' w' Im' g' h1 h2 h3 => hret st hge h a' w' Im' g' h1 h2 h3
        | ex e st =>
          cases e with
          | ret => exact fun a' w' Im' g' h1 h2 h3 => hret st hge h a' w' Im' g' h1 h2 h3
          | pan v =>
            simp only [finish] at h
            simp only [leave, leaveP] at h
            exfalso
            revert h
            generalize prepQ v false = z
            cases giveQ st.H z false with
            | none => intro h; cases h
            | some c1 =>
              simp only [leave1]
              generalize setOs st.H (noes (arrs2 z)) = H1
              cases (refsOk H.length (refs c1) && refsOk H.length (refsH (H1.take H.length))) with
              | true => intro h; simp only [leave2] at h; cases h
              | false =>
                simp only [leave2]
                generalize reach H1 (2 * H1.length + 8) (refs c1 ++ refsH (H1.take H.length)) (List.range H.length) = ρ
                cases (closed H1 ρ [c1] && decide (ρ.take H.length = List.range H.length)) with
                | true => intro h; simp only [leave3] at h; cases h
                | false => intro h; simp only [leave3] at h; cases h
          | exit id => simp only [finish] at h; cases h
        | stuck => simp only [finish] at h; cases h
      · cases h
    · cases h
  · cases h

theorem defEnd_inv (hΓ : Sound P Γ) (hok : progOk P hd = true) {rs : List ResultVar} {k : Nat} {st : St} {cl : AV} {r : Out × List AObj} (h : defEnd P Γ hd hv hf rs k st cl = some r) :
    ∃ f caps v H2, cl = .fn f [] caps ∧ flatF P f = true ∧ fnEv P Γ hd hv hf f caps st.H = some (.ret v, H2) ∧ st.H.length ≤ H2.length ∧ finish P rs k (.ex .ret ⟨st.vs, [], H2⟩) = some r := by
  unfold defEnd at h
  split at h
  · rename_i f caps
    split at h
    · rename_i hfl
      unfold defH at h
      split at h
      · rename_i v H2 he
        exact ⟨f, caps, v, H2, rfl, hfl, he, (fnEv_ok hΓ hok hv hf f caps st.H _ _ he).2.1, h⟩
      · cases h
    · cases h
  · cases h
theorem lastD_inv {a : Code} {ops : Array Oper} {t : Nat} (h : lastD a = some (ops, t)) : ∃ id o c, a = .region id ops false ∧ ops.toList.getLast? = some o ∧ o.op = .defer c ∧ c.callee = .value (.tmp t) ∧ c.args = #[] ∧ o.guard = none ∧ o.dst = none := by
  unfold lastD at h
  split at h
  · rename_i id ops'
    unfold lastK at h
    split at h
    · rename_i o ho
      simp only [Option.map_eq_some_iff, Prod.mk.injEq] at h
      obtain ⟨t', h1, rfl, rfl⟩ := h
      unfold deferT at h1
      split at h1
      · rename_i c hc
        split at h1
        · rename_i t2 ht
          split at h1
          · rename_i hcond
            cases h1
            simp only [Bool.and_eq_true, List.isEmpty_iff, Option.isNone_iff_eq_none] at hcond
            refine ⟨id, o, c, rfl, ho, hc, ht, ?_, hcond.1.2, hcond.2⟩
            rw [← Array.toList_inj]; exact hcond.1.1
          · cases h1
        · cases h1
      · cases h1
    · cases h
  · cases h
theorem defC_len (hΓ : Sound P Γ) (hok : progOk P hd = true) {f : Nat} {rs : List ResultVar} {k : Nat} {out : Out} {H' : List AObj} : ∀ (c : Code) (st : St), defC P Γ hd hv hf f rs k c st = some (out, H') → k ≤ st.H.length → k ≤ H'.length := by
  intro c
  induction c with
  | seq a b _ ihb =>
    intro st h hk
    simp only [defC] at h
    unfold defSeq at h
    split at h
    · rename_i ops t hl
      have hge := evOps_ge (P := P) (Γ := Γ) (n := st.H.length) (ops := ops) ops.toList.dropLast st.H.length (.run (st.ready (countC ops.toList))) (ready_ge st _)
      unfold defPost at h
      split at h
      · rename_i st1 he
        rw [he] at hge
        have hge2 := evC_ge (P := P) (Γ := Γ) (hd := hd f) (fg := hf f) b 0 st1
        unfold defX at h
        split at h
        · rename_i st2 he2
          rw [he2] at hge2
          obtain ⟨_, _, _, H2, _, _, _, h2, h3⟩ := defEnd_inv hΓ hok h
          exact finish_len h3 (Nat.le_trans hk (Nat.le_trans hge (Nat.le_trans hge2 h2)))
        · rename_i st2 he2
          rw [he2] at hge2
          obtain ⟨_, _, _, H2, _, _, _, h2, h3⟩ := defEnd_inv hΓ hok h
          exact finish_len h3 (Nat.le_trans hk (Nat.le_trans hge (Nat.le_trans hge2 h2)))
        · cases h
      · cases h
    · split at h
      · have hge := evC_ge (P := P) (Γ := Γ) (hd := hd f) (fg := hf f) a 0 st
        unfold defPre at h
        split at h
        · rename_i st1 he
          rw [he] at hge
          exact ihb st1 h (Nat.le_trans hk hge)
        · rename_i st1 he
          rw [he] at hge
          exact finish_len h (Nat.le_trans hk hge)
        · cases h
      · cases h
  | _ => intro st h; simp only [defC] at h; cases h
/-- A frame that returns, and has one call deferred. -/
theorem leaves_one (hΓ : Sound P Γ) (hok : progOk P hd = true) {F : Func} {w0 : World} {Im0 : Imm} {g0 : List Gh} {H0 H' : List AObj} {out : Out} {w : World} {Im : Imm} {g : List Gh} {st : St} {tmps : Array Value} {n0 : Nat} {ds : List Deferred} {f : Nat} {vc : List Value} {cl : AV} (h0 : HR P w0 Im0 g0 H0) (e : Ext w0 Im0 g0 w Im g) (hfr : FrameRep w Im g st tmps) (hH : HR P w Im g st.H) (hk : H0.length ≤ st.H.length)
    (hn : w0.heap.size ≤ n0) (hm : Marks n0 w Im g [{ target := .fn (.func f) ⟨vc⟩, args := #[] }] ds) (hcl : RepA w Im g (.func (.func f) #[] ⟨vc⟩) cl) (h : defEnd P Γ hd hv hf F.results.toList H0.length st cl = some (out, H')) : LeavesInM Fence.wide 0 P F tmps (CallPost P w0 Im0 g0 out H') ds .returning w := by
  obtain ⟨f', caps, v, H2, rfl, hfl, hev, hlen, hfin⟩ := defEnd_inv hΓ hok h
  refine leaves_marks2 (I := fun w => Ext w0 Im0 g0 w Im g ∧ FrameRep w Im g st tmps ∧ HR P w Im g st.H ∧ RepA w Im g (.func (.func f) #[] ⟨vc⟩) (.fn f' [] caps)) (by simp)
    (fun u r ⟨q1, q2, q3, q4⟩ hr => ⟨ext_put q1 ⟨Nat.le_trans hn hr.1, hr.2⟩, fun k => rep_put hr.2.2.2 (q2 k), hr_put q3 hr.2.2.1 hr.2.2.2, rep_put hr.2.2.2 q4⟩) (fun w ⟨q1, q2, q3, q4⟩ => ?_) hm ⟨e, hfr, hH, hcl⟩
  cases q4 with
  | fn _ vf cf _ _ hl hl' hr hr' =>
    obtain ⟨k1, k2⟩ := dcall_ok (u := .returning) hΓ hok hfl hev q3 ⟨hl', hr'⟩
    refine ⟨by simp, .inr ⟨fun h => absurd h (by simp [Fence.wide]), _, _, _, _, rfl, k1 _ w, fun _ _ => trivial, ?_⟩⟩
    rw [show (#[] ++ (⟨vc⟩ : Array Value)) = ⟨vc⟩ by simp]
    refine k2.mono ?_
    rintro e2 u' w2 ⟨rfl, ⟨x, rfl⟩, Im2, g2, j1, j2⟩
    exact leaves_nil (st := ⟨st.vs, [], H2⟩) h0 (q1.trans j2) (fun k => by
      have := (q2 k).ext j2
      simp only [St.get] at this ⊢
      cases hl : look k st.vs with
      | some v => rw [hl] at this; exact this
      | none => simp only [getK, look, Option.getD_none]; exact .any _) j1 (Nat.le_trans hk hlen) hfin
theorem defC_ok (hΓ : Sound P Γ) (hok : progOk P hd = true) (hm : P.follows .mixedOrders = true) {f : Nat} {F : Func} {w0 : World} {Im0 : Imm} {g0 : List Gh} {H0 H' : List AObj} {out : Out} (h0 : HR P w0 Im0 g0 H0) : ∀ (c : Code) (st : St) (a : Act) (w : World) (Im : Imm) (g : List Gh),
    codeOk F.ntmps (hd f) c = true → SRel P w Im g st a F.ntmps → a.defers = [] → Ext w0 Im0 g0 w Im g → H0.length ≤ st.H.length → defC P Γ hd hv hf f F.results.toList H0.length c st = some (out, H') →
    c.wpIn (fen none) 0 P (bodyPostM Fence.wide 0 P F (CallPost P w0 Im0 g0 out H')) a w := by
  intro c
  induction c with
  | seq x y _ ihy =>
    intro st a w Im g hc hs hdf he hk h
    simp only [codeOk, Bool.and_eq_true] at hc
    simp only [defC] at h
    unfold defSeq at h
    split at h
    · rename_i ops t hl
      obtain ⟨id, o, cc, rfl, hlast, hop, hcal, hargs, hguard, hdst⟩ := lastD_inv hl
      have hne : ops.toList ≠ [] := by intro e; rw [e] at hlast; cases hlast
      have hsplit : ops.toList = ops.toList.dropLast ++ [o] := by
        have := List.dropLast_concat_getLast hne
        rw [List.getLast?_eq_some_getLast hne] at hlast
        cases hlast
        exact this.symm
      have hsize : ops.size = ops.toList.dropLast.length + 1 := by
        have := congrArg List.length hsplit
        rw [List.length_append, Array.length_toList] at this
        exact this
      have hat : ops[ops.toList.dropLast.length]? = some o := by
        rw [← Array.getElem?_toList]
        conv => lhs; rw [hsplit]
        rw [List.getElem?_append_right (by simp)]
        simp
      have hdstR : ∀ (i : Nat) (o : Oper) (d : Nat), ops[i]? = some o → o.dst = some d → d < F.ntmps := by
        intro i o d ho hds
        simp only [codeOk, Bool.and_eq_true] at hc
        have := List.all_eq_true.1 hc.1.1 o (by rw [Array.mem_toList_iff]; exact Array.mem_of_getElem? ho)
        rw [hds] at this
        simpa using this
      unfold defPost at h
      split at h
      · rename_i st1 hev
        have hge := evOps_ge (P := P) (Γ := Γ) (n := st.H.length) (ops := ops) ops.toList.dropLast st.H.length (.run (st.ready (countC ops.toList))) (ready_ge st _)
        rw [hev] at hge
        have hix := evOps_pre (P := P) (Γ := Γ) (ops := ops) (n0 := st.H.length) ops.toList.dropLast 0 (.run (st.ready (countC ops.toList))) [o] (by rw [List.drop_zero]; exact hsplit)
        have hp0 : posOf ops 0 = 0 := by simp [posOf, countC]
        rw [hp0, Nat.add_zero, ← List.range_eq_range', hev] at hix
        refine wpIn_seq (wpIn_region ?_)
        rw [hsize, List.range_succ]
        refine wpOpsIn_app _ _ _ _ ?_
        obtain ⟨h1, h2, h3⟩ := ready_ok hs (countC ops.toList)
        refine ix_wp (ro := none) hΓ hdstR _ _ a w Im _ _ hix.symm (by simp) List.nodup_range h1 (fun i o _ ho hcr => h3 _ (posOf_lt ho hcr)) _ (fun st' a' w' Im' g' k1 k2 k3 k4 => ?_) (fun c st' v a' w' Im' g' k1 _ _ _ _ => by cases k1)
        cases k1
        show wpOpsIn _ 0 P ops _ [ops.toList.dropLast.length] a' w'
        unfold wpOpsIn
        rw [hat]
        have hw : Region.wanted o (yielded ops a'.tmps) = true := by unfold Region.wanted; rw [hguard]
        simp only [hw, if_true]
        have hrt := k2.fr t
        have hx : ∃ f' vc cl, a'.tmps.getD t undef = .func (.func f') #[] ⟨vc⟩ ∧ cl = st1.get t ∧ RepA w' Im' g' (.func (.func f') #[] ⟨vc⟩) cl := by
          generalize hcl : st1.get t = cl at h hrt
          have hcf : ∃ f' caps, cl = .fn f' [] caps := by
            unfold defX at h
            split at h
            · obtain ⟨f', caps, _, _, e, _⟩ := defEnd_inv hΓ hok h; exact ⟨f', caps, e⟩
            · obtain ⟨f', caps, _, _, e, _⟩ := defEnd_inv hΓ hok h; exact ⟨f', caps, e⟩
            · cases h
          obtain ⟨f', caps, rfl⟩ := hcf
          generalize a'.tmps.getD t undef = v at hrt
          cases hrt with
          | fn _ vf cf vc cc hl1 hl2 hr hr' =>
            have : vf = [] := List.length_eq_zero_iff.1 (by simpa using hl1)
            subst this
            exact ⟨f', vc, _, rfl, rfl, .fn _ _ _ _ _ hl1 hl2 hr hr'⟩
        obtain ⟨f', vc, cl, hv', hcl, hrcl⟩ := hx
        rw [← hcl] at h
        refine ⟨fun _ _ => trivial, ?_⟩
        have hrun : (o.semAt (fen none).round a'.eval).run P w' = .ok (.defer { target := .fn (.func f') ⟨vc⟩, args := #[] }) w' := by
          show (execOp a'.eval o).run P w' = _
          unfold execOp
          rw [hop]
          simp only [resolve, hcal, hargs]
          have : a'.eval (.tmp t) = .func (.func f') #[] ⟨vc⟩ := hv'
          rw [this]
          simp [Deferred.ofValue]
        rw [hrun, Oper.uponIn_defer, hdst]
        show (Code.wpIn _ _ _ y _ _ _)
        have hs1 : SRel P w' Im' g' st1 { a' with defers := { target := .fn (.func f') ⟨vc⟩, args := #[] } :: a'.defers } F.ntmps := ⟨k2.size, k2.fr, k2.hr⟩
        have hdd : a'.defers = [] := k3.trans hdf
        have he1 : Ext w0 Im0 g0 w' Im' g' := he.trans (h2.trans k4)
        have hge2 := evC_ge (P := P) (Γ := Γ) (hd := hd f) (fg := hf f) y 0 st1
        refine evC_ok (fg := hf f) hΓ hm y none w'.heap.size [{ target := .fn (.func f') ⟨vc⟩, args := #[] }] 0 st1 _ w' Im' g' _ hc.2 (by simp) hs1 (by rw [hdd]; exact Marks.refl _ _ _ _ _) (Nat.le_refl _) ?_
        have hfin : ∀ st2, st1.H.length ≤ st2.H.length → defEnd P Γ hd hv hf F.results.toList H0.length st2 cl = some (out, H') → ∀ a2 w2 Im2 g2, SRel P w2 Im2 g2 st2 a2 F.ntmps → Marks w'.heap.size w2 Im2 g2 [{ target := .fn (.func f') ⟨vc⟩, args := #[] }] a2.defers → Ext w' Im' g' w2 Im2 g2 → LeavesInM Fence.wide 0 P F a2.tmps (CallPost P w0 Im0 g0 out H') a2.defers .returning w2 := by
          intro st2 hg2 hde a2 w2 Im2 g2 j1 j2 j3
          exact leaves_one hΓ hok h0 (he1.trans j3) j1.fr j1.hr (Nat.le_trans hk (Nat.le_trans hge hg2)) he1.size j2 (hrcl.ext j3) hde
        unfold defX at h
        split at h
        · rename_i st2 hev2
          rw [hev2] at hge2 ⊢
          exact fun a2 w2 Im2 g2 j1 j2 j3 => hfin st2 hge2 h a2 w2 Im2 g2 j1 j2 j3
        · rename_i st2 hev2
          rw [hev2] at hge2 ⊢
          exact fun a2 w2 Im2 g2 j1 j2 j3 => hfin st2 hge2 h a2 w2 Im2 g2 j1 j2 j3
        · cases h
      · cases h
    · split at h
      · rename_i hfl
        have hge := evC_ge (P := P) (Γ := Γ) (hd := hd f) (fg := hf f) x 0 st
        refine wpIn_seq (flat_ok (fg := hf f) hΓ hm x 0 st a w Im g _ hfl hc.1 hs ?_)
        unfold defPre at h
        split at h
        · rename_i st1 hev
          rw [hev] at hge ⊢
          intro a1 w1 Im1 g1 j1 j2 j3
          exact ihy st1 a1 w1 Im1 g1 hc.2 j1 (j2.trans hdf) (he.trans j3) (Nat.le_trans hk hge) h
        · rename_i st1 hev
          rw [hev] at hge ⊢
          intro a1 w1 Im1 g1 j1 j2 j3
          show LeavesInM Fence.wide 0 P F a1.tmps (CallPost P w0 Im0 g0 out H') a1.defers .returning w1
          rw [j2, hdf]
          exact leaves_nil h0 (he.trans j3) j1.fr j1.hr (Nat.le_trans hk hge) h
        · cases h
      · cases h
  | _ => intro st a w Im g _ _ _ _ _ h; simp only [defC] at h; cases h
theorem defEv_ok (hΓ : Sound P Γ) (hok : progOk P hd = true) (hv : Nat → List Nat) (hf : Nat → Nat → List Nat) : Sound P (defEv P Γ hd hv hf) := by
  intro f as H out H' hres
  have hok' := hok
  simp only [progOk, Bool.and_eq_true, List.all_eq_true] at hok'
  obtain ⟨hm, hall⟩ := hok'
  unfold defEv at hres
  split at hres
  · rename_i F hF
    split at hres
    · rename_i c hb
      split at hres
      · rename_i hl
        have hfs : f < P.funcs.size := (Array.getElem?_eq_some_iff.1 hF).1
        have hcode := hall f (List.mem_range.2 hfs)
        rw [hF] at hcode
        simp only [hb, Bool.and_eq_true, Bool.not_eq_true'] at hcode
        obtain ⟨hc, hname⟩ := hcode
        have hname' : ¬ F.name = "runtime.NumGoroutine" := by simpa using hname
        refine ⟨fun args w => by simp [callFunc, hF, hb, hname'], defC_len hΓ hok c _ hres (Nat.le_refl _), fun w Im g vs hH hr => ?_⟩
        refine callsIn_wide.1 (callsIn_of_wp_marks (F := Fence.wide) (n := 0) hF hb trivial ?_)
        exact defC_ok hΓ hok hm hH c (start as (hv f) H) _ w Im g hc (start_ok hr hH hl) rfl (Ext.refl _ _ _) (Nat.le_refl _) hres
      · cases hres
    · cases hres
  · cases hres
theorem defEv_body {f : Nat} {F : Func} {c : Code} {as : List AV} {H : List AObj} {rs : List ResultVar} {V : List Nat} (h : P.funcs[f]? = some F) (hb : F.body = some c) (hr : F.results.toList = rs) (hV : hv f = V) (hl : as.length ≤ F.ntmps) :
    defEv P Γ hd hv hf f as H = defC P Γ hd hv hf f rs H.length c (start as V H) := by
  unfold defEv
  rw [h]
  simp only
  rw [hb]
  simp only
  rw [if_pos hl, hr, hV]
theorem defC_pre {f : Nat} {rs : List ResultVar} {k : Nat} {a b : Code} {st : St} (h1 : lastD a = none) (h2 : flatC a = true) : defC P Γ hd hv hf f rs k (.seq a b) st = defPre P rs k (defC P Γ hd hv hf f rs k b) (evC P Γ (hd f) (hf f) 0 a (.go st)) := by
  simp only [defC]
  rw [h1]
  simp only [defSeq]
  rw [if_pos h2]
theorem defC_def {f : Nat} {rs : List ResultVar} {k : Nat} {a b : Code} {st : St} {ops : Array Oper} {t n : Nat} {l : List Oper} (h1 : lastD a = some (ops, t)) (h2 : ops.toList.dropLast = l) (h3 : countC ops.toList = n) : defC P Γ hd hv hf f rs k (.seq a b) st = defPost P Γ hd hv hf f rs k b t (evOps P Γ ops l st.H.length (.run (st.ready n))) := by
  simp only [defC]
  rw [h1, ← h2, ← h3]
  rfl
theorem defPost_run {f : Nat} {rs : List ResultVar} {k : Nat} {b : Code} {t : Nat} {st : St} : defPost P Γ hd hv hf f rs k b t (.run st) = defX P Γ hd hv hf rs k (st.get t) (evC P Γ (hd f) (hf f) 0 b (.go st)) := rfl
theorem defX_ret {rs : List ResultVar} {k : Nat} {cl : AV} {st : St} : defX P Γ hd hv hf rs k cl (.ex .ret st) = defEnd P Γ hd hv hf rs k st cl := rfl
theorem defX_go {rs : List ResultVar} {k : Nat} {cl : AV} {st : St} : defX P Γ hd hv hf rs k cl (.go st) = defEnd P Γ hd hv hf rs k st cl := rfl
theorem defEnd_eq {rs : List ResultVar} {k : Nat} {vs ts : List (Nat × AV)} {H : List AObj} {f : Nat} {caps : List AV} {v : AV} {H2 : List AObj} (hfl : flatF P f = true) (h : fnEv P Γ hd hv hf f caps H = some (.ret v, H2)) : defEnd P Γ hd hv hf rs k ⟨vs, ts, H⟩ (.fn f [] caps) = finish P rs k (.ex .ret ⟨vs, [], H2⟩) := by
  simp only [defEnd]
  rw [if_pos hfl, h]
  rfl
theorem defPre_go {rs : List ResultVar} {k : Nat} {next : St → Option (Out × List AObj)} {st : St} : defPre P rs k next (.go st) = next st := rfl
theorem defPre_ret {rs : List ResultVar} {k : Nat} {next : St → Option (Out × List AObj)} {st : St} : defPre P rs k next (.ex .ret st) = finish P rs k (.ex .ret st) := rfl
end
end Go.Ab
