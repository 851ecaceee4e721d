/- Moves: Check. Conditions: none. -/
import Derived.Test.YticliodhjfednaaGreatG5
set_option linter.unusedSimpArgs false
set_option linter.unusedVariables false
namespace Go.Proofs.YticliodhjfednaaGreat
open Go Go.Ab
variable {ext:Sem'}
structure TG (ext:Sem'):Prop extends TF ext where
 tm:TM ext
 chk:∀ xs H,ext 16 xs H = none
open Classical in
noncomputable def badK (c:Cd1):List In1→Nat→Option Nat
 | [],_=>none
 | i :: l,k=>if okI c k i then badK c l (k + 1) else some k
noncomputable def badF:List Cd1→Nat→Option (Nat × Nat)
 | [],_=>none
 | c :: l,f=>match badK c c.ins 0 with
  | some k=>some (f,k)
  | none=>badF l (f + 1)
def diag23:Option (Nat × Nat)→AV
 | some (f,k)=>.agg [.d (.int .i64 23),.d (.int .i64 11),.d (.int .i64 ((f:Int) + 1)),.d (.int .i64 ((k:Int) + 1))]
 | none=>.agg [.d (.int .i64 0),.d (.int .i64 0),.d (.int .i64 0),.d (.int .i64 0)]
noncomputable def mcheckA (m:Md1):AV:=if formedP m = 0∧badC m m.funcs 0 = none then diag23 (badF m.funcs 0) else checkA m
set_option maxHeartbeats 4000000 in
theorem mcheck_e (hx:TG ext) (m:Md1) (hm:LightM m) (hnm:∀ s,s ∈ m.structs→∀ f,f ∈ s.fields→f.name.length ≤ 9223372036854775807) :
  ∃ H',G ext 16 [m.av] [.reg []] = some (.ret (mcheckA m),H'):=by
 have hcl:(m.funcs.map Cd1.row).length = m.funcs.length:=List.length_map _
 have hf70:=hm.funcs
 have hch:=check_e hx.tm m hm hnm
 suffices hs:∃ r,G ext 16 [m.av] [.reg []] = r∧∃ H',r = some (.ret (mcheckA m),H') by
  obtain ⟨r,h1,H',h2⟩:=hs
  exact ⟨H',h1.trans h2⟩
 refine ⟨_,rfl,?_⟩
 rw [G_bodyF (hx.chk _ _) Tryz.func16 rfl Tryz.results16 hv_16 rfl]
 simp only [Md1.av,Md1.sr,Md1.fr] at hch ⊢
 unfold mcheckA
 by_cases h1:formedP m = 0∧badC m m.funcs 0 = none
 ·rw [if_pos h1]
  have hd:checkA m = .agg [.d (.int .i64 0),.d (.int .i64 0),.d (.int .i64 0),.d (.int .i64 0)]:=by unfold checkA; rw [if_pos h1.1,h1.2]; rfl
  rw [hd] at hch
  simp (maxSteps:=4000000) (disch:=first | (intros; contradiction) | omega) only [go_sem,hch]
  generalize hL:loopA _ _ _ = L
  apply range_upd hL (by simp (maxSteps:=4000000) (disch:=first | (intros; contradiction) | omega) only [go_sem] <;> rfl) m.funcs Cd1.row (α:=List Rw) (fun rest f _=>badF m.funcs 0 = badF rest f) (fun f _=>[(16,.d (.int .i64 f))]) (fun _ R=>[(0,.reg (rgB R))]) [] (by simp (maxSteps:=4000000) (disch:=first | (intros; contradiction) | omega) only [go_sem] <;> rfl) rfl ?_ ?_
  ·rintro c rest f R q1 hlt hr hget hf _ next ih
   clear hL
   have hcm:c ∈ m.funcs:=List.mem_of_getElem? hget
   have hcd:=cd_ok hx.toTX hm h1.1 hcm
   obtain ⟨R',E,P,V,rel,rv,fix,hof⟩:=of1_e hx.toTF c hcd R
   simp only [Cd1.av,tbH,tbC] at hof
   simp only [Cd1.row] at hr
   simp only [badF] at q1
   have hil:(c.ins.map In1.row).length = c.ins.length:=List.length_map _
   have hn:=hcd.nl
   simp (maxSteps:=4000000) (disch:=first | (intros; contradiction) | omega) only [go_sem,hlt,hr,hof]
   generalize hL:loopA _ _ _ = L
   apply range_upd hL (by simp (maxSteps:=4000000) (disch:=first | (intros; contradiction) | omega) only [go_sem] <;> rfl) c.ins In1.row (α:=Unit) (fun rest q _=>badK c c.ins 0 = badK c rest q) (fun q _=>[(31,.d (.int .i64 q))]) (fun _ _=>[]) () (by simp (maxSteps:=4000000) (disch:=first | (intros; contradiction) | omega) only [go_sem] <;> rfl) rfl ?_ ?_
   ·rintro i rest2 q _ p1 hlt2 hr2 hget2 hq _ next2 ih2
    clear hL ih
    have hga:=hm.ins c hcm i (List.mem_of_getElem? hget2)
    have hmr:=mright_e hx.toTF hcd rel q hget2 (by omega)
    simp only [tbH,tbC] at hmr
    simp only [badK] at p1
    obtain ⟨t1,t2⟩:=tab_says hcd.cd0 rv fix q
    have hqV:q < V.length:=by rw [rel.lV]; exact hq
    have hlt3:(q:Int) < (c.ins.length:Int):=by omega
    have hq0:0 ≤ (q:Int):=by omega
    cases hz:V[q]? with
    | none=>rw [List.getElem?_eq_getElem hqV] at hz; cases hz
    | some z=>
     cases z with
     | none=>
      have e1:=rws_at (W:=wOf c) (rel.none_ q hz)
      simp only [rwV] at e1
      have hok:okI c q i:=fun hrc=>by
       obtain ⟨x,hx2⟩:=t1.2 hrc
       rw [hz] at hx2
       cases hx2
      rw [if_pos hok] at p1
      simp (maxSteps:=4000000) (disch:=first | (intros; contradiction) | omega) only [go_sem,hlt2,hlt3,hq0,e1,Nat.mul_one,wrap64]
      exact ih2 () _ p1 (by simp (maxSteps:=4000000) (disch:=first | (intros; contradiction) | omega) only [go_sem] <;> rfl)
     | some x=>
      obtain ⟨a,b,g1,_⟩:=rel.some_ q x hz
      have e1:=rws_at (W:=wOf c) g1
      simp only [rwV] at e1
      have hor:=ok_right hcd.cd0 rv fix hget2 hz
      cases hrt:rightT c V q i with
      | true=>
       rw [hrt] at hmr hor
       rw [if_pos (hor.1 rfl)] at p1
       simp (maxSteps:=4000000) (disch:=first | (intros; contradiction) | omega) only [go_sem,hlt2,hlt3,hq0,e1,hmr,Nat.mul_one,wrap64]
       exact ih2 () _ p1 (by simp (maxSteps:=4000000) (disch:=first | (intros; contradiction) | omega) only [go_sem] <;> rfl)
      | false=>
       rw [hrt] at hmr hor
       rw [if_neg (fun q=>by have:=hor.2 q; cases this)] at p1
       rw [p1] at q1
       simp only at q1
       rw [q1]
       simp only [diag23]
       simp (maxSteps:=4000000) (disch:=first | (intros; contradiction) | omega) only [go_sem,hlt2,hlt3,hq0,e1,hmr,Nat.mul_one,wrap64]
       exact ⟨_,rfl⟩
   ·rintro q _ p1 hlt2 hq next2
    clear hL
    have p1:badK c c.ins 0 = none:=p1
    rw [p1] at q1
    simp only at q1
    simp (maxSteps:=4000000) (disch:=first | (intros; contradiction) | omega) only [go_sem,hlt2,wrap64]
    exact ih R' _ q1 (by simp (maxSteps:=4000000) (disch:=first | (intros; contradiction) | omega) only [go_sem] <;> rfl)
  ·rintro f R q1 hlt hf next
   clear hL
   have q1:badF m.funcs 0 = none:=q1
   rw [q1]
   simp only [diag23]
   simp (maxSteps:=4000000) (disch:=first | (intros; contradiction) | omega) only [go_sem,hlt]
   exact ⟨_,rfl⟩
 ·rw [if_neg h1]
  have hne:∃ a b s d:Int,checkA m = .agg [.d (.int .i64 s),.d (.int .i64 a),.d (.int .i64 b),.d (.int .i64 d)]∧a ≠ 0:=by
   unfold checkA
   by_cases h2:formedP m = 0
   ·rw [if_pos h2]
    cases hb:badC m m.funcs 0 with
    | none=>exact absurd ⟨h2,hb⟩ h1
    | some x=>exact ⟨7,_,22,_,rfl,by decide⟩
   ·rw [if_neg h2]
    exact ⟨formedP m,0,22,0,rfl,h2⟩
  obtain ⟨a,b,s,d,e,ha⟩:=hne
  rw [e] at hch ⊢
  have ha:=eq_false ha
  simp (maxSteps:=4000000) (disch:=first | (intros; contradiction) | omega) only [go_sem,hch,ha]
  exact ⟨_,rfl⟩
end Go.Proofs.YticliodhjfednaaGreat
