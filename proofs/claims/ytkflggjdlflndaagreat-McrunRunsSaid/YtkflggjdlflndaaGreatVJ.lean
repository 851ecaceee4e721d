/- The document's machine: a run. Conditions: none. -/
import Derived.Test.YtkflggjdlflndaaGreatVAD
import Derived.Test.YtkflggjdlflndaaGreatVR1
import Derived.Test.YtkflggjdlflndaaGreatAbX8
set_option linter.unusedSimpArgs false
set_option linter.unusedVariables false
namespace Go.Proofs.YtkflggjdlflndaaGreat
open Go Go.Ab
variable {ext:Sem'}
def Rm.start (m:Md1) (inp:List Int) (fails:List Bool):Rm:=⟨m,inp,fails,0,[],[],[],0,4,0,0,[],0,0,0⟩
def outR (r:Rm):AV:=.agg [.d (.int .i64 r.kind),.d (.int .i64 r.code),.d (.sl (r.out.map rowU)),.d (.int .i64 r.steps),.d (.int .i64 (leftR r.cells))]
theorem drop_pl {c:AV} {H:List AObj} (h:refs c = []∧hasRp c = false):dropK (some (.ret c,H)) = some (.ret c,[]):=by
 unfold dropK
 exact if_pos h
theorem outR_plain (r:Rm):refs (outR r) = []∧hasRp (outR r) = false:=by
 unfold outR
 constructor <;> simp [refs,refsAL,hasRp,hasRpL]
set_option maxHeartbeats 8000000 in
theorem rrun_e (hx:T5 ext) (he:∀ xs H,ext 12 xs H = none) (m:Md1) (hl:LightM m) (hr:G ext 17 [m.av] [] = some (.ret (.d (.int .i64 0)),[])) (inp:List Int) (fails:List Bool) (fuel:Int) (h0:0 ≤ fuel) (h1:fuel ≤ 20000) (c:Cd1)
  (k0:0 ≤ funcIx m [109,97,105,110]) (k1:m.funcs[(funcIx m [109,97,105,110]).toNat]? = some c) (k2:c.vars.length ≤ 1000) (S:Nat→Rm→Prop) (hS:S 0 (enterR (Rm.start m inp fails) (funcIx m [109,97,105,110]) c []))
  (hstep:∀ j r,S j r→j < fuel.toNat→r.kind = 4→∃ (q:Int) (r':Rm),G ext 20 [.ptr 1 0] r.H = some (.ret (.d (.int .i64 q)),r'.H)∧S (j + 1) { r' with kind:=q })
  (hfew:∀ j r,S j r→r.cells.length ≤ 1000000) (A:AV) (hA:∀ j r,S j r→(j = fuel.toNat ∨ ¬ r.kind = 4)→A = outR r) :
  dropK (G ext 12 [m.av,.d (.sl (inp.map rowU)),.d (.sl (fails.map rowT)),.d (.int .i64 fuel)] [.reg []]) = some (.ret A,[]):=by
 have hf:=f05_e hx.toTX m [109,97,105,110] (by have:=hl.funcs; omega)
 have hent:=G_ext (hx.renter (Rm.start m inp fails) (funcIx m [109,97,105,110]) c [] k0 k1 k2 (Nat.zero_le _) (Nat.le_refl _) (by simp [Rm.start]))
 generalize funcIx m [109,97,105,110] = ix at hf hent hS
 generalize enterR (Rm.start m inp fails) ix c [] = r0 at hent hS
 have krE:=frs_refs r0.stack
 have knE:=fun f=>frs_ren f r0.stack
 have krC:=ces_refs r0.cells
 have knC:=fun f=>ces_ren f r0.cells
 rw [G_bodyN (he _ _) Tryz.func12 rfl Tryz.results12 hv_12 rfl]
 have n1:frsA [] = []:=rfl
 have n2:cesA [] = []:=rfl
 have n3:rgI [] = []:=rfl
 simp only [Rm.start,Rm.H,Rm.robj,Rm.hobj,Md1.av,Md1.sr,Md1.fr,List.map_nil,List.length_nil,n1,n2,n3] at hr hf hent ⊢
 generalize hfs0:frsA r0.stack = fsE at krE knE hent ⊢
 generalize hcs0:cesA r0.cells = csE at krC knC hent ⊢
 simp (maxSteps:=4000000) (disch:=first | (intros; contradiction) | omega) only [go_sem,hr,hf,hent,krE,knE,krC,knC]
 generalize hL:loopA _ _ _ = L
 apply loop_post hL (α:=Nat × Rm) (fun y=>S y.1 y.2∧y.1 ≤ fuel.toNat) (fun y=>fuel.toNat - y.1)
  (fun y=>⟨[(0,.agg [.d (.sl (m.structs.map Sc1.row)),.d (.sl (m.funcs.map Cd1.row))]),(1,.d (.sl (inp.map rowU))),(2,.d (.sl (fails.map rowT))),(3,.d (.int .i64 fuel)),(4,.ptr 1 0),(8,.ptr 2 0),(9,.ptr 5 0),(10,.d (.int .i64 y.1))],[],[.reg (rgI y.2.reg),.cells [.d (.sl (m.structs.map Sc1.row)),.d (.sl (m.funcs.map Cd1.row))],.cells [.d (.int .i64 0),.d (.int .i64 0),.grow 3 0 [],.d (.int .i64 0),.d (.int .i64 0)],.grow 0 1,.cells [.stk 6 y.2.ec y.2.cells.length,.d (.int .i64 y.2.asked),.d (.sl (y.2.fails.map rowT)),.d (.sl (y.2.inp.map rowU)),.grow 7 y.2.eg (y.2.out.map rowU)],.cells [.d (.sl (y.2.m.structs.map Sc1.row)),.d (.sl (y.2.m.funcs.map Cd1.row)),.ptr 4 0,.stk 8 y.2.es y.2.top,.d (.int .i64 y.2.kind),.d (.int .i64 y.2.code),.full [],.d (.int .i64 y.2.steps),.d (.int .i64 0),.full []],.stk y.2.ec 4 (cesA y.2.cells),.grow y.2.eg 1,.stk y.2.es 3 (frsA y.2.stack)]⟩)
  (0,r0) (by simp only [hfs0,hcs0]; simp (maxSteps:=4000000) (disch:=first | (intros; contradiction) | omega) only [go_sem,krE,krC] <;> rfl) ⟨hS,Nat.zero_le _⟩
 clear hL
 rintro ⟨j,r⟩ ⟨hSr,hj⟩ next ih
 simp only at hSr hj ih ⊢
 have kr:=ces_refs r.cells
 have kn:=fun f=>ces_ren f r.cells
 have kr2:=frs_refs r.stack
 have kn2:=fun f=>frs_ren f r.stack
 have hal:=ralive_e hx.toTX r (hfew j r hSr)
 by_cases hlt:(j:Int) < fuel
 ·by_cases hk:r.kind = 4
  ·obtain ⟨q,r',hst,hS'⟩:=hstep j r hSr (by omega) hk
   have kr3:=ces_refs r'.cells
   have kn3:=fun f=>ces_ren f r'.cells
   have kr4:=frs_refs r'.stack
   have kn4:=fun f=>frs_ren f r'.stack
   have ih:=fun st' h=>ih (j + 1,{ r' with kind:=q }) st' ⟨hS',by omega⟩ (by simp only; omega) h
   simp only at ih
   have hk:=eq_true hk
   simp only [Rm.H,Rm.robj,Rm.hobj,Md1.sr,Md1.fr] at hst
   generalize cesA r.cells = cs at kr kn hst ⊢
   generalize frsA r.stack = fs at kr2 kn2 hst ⊢
   generalize cesA r'.cells = cs2 at kr3 kn3 hst ih
   generalize frsA r'.stack = fs2 at kr4 kn4 hst ih
   simp (maxSteps:=4000000) (disch:=first | (intros; contradiction) | omega) only [go_sem,kr,kn,kr2,kn2,kr3,kn3,kr4,kn4,hlt,hk,hst]
   rw [wrap64 (by omega) (by omega)]
   refine ih _ ?_
   simp (maxSteps:=4000000) (disch:=first | (intros; contradiction) | omega) only [go_sem,kr3,kr4] <;> rfl
  ·rw [hA j r hSr (.inr hk)]
   simp only [Rm.HH,Rm.hobj] at hal
   generalize cesA r.cells = cs at kr kn hal ⊢
   generalize frsA r.stack = fs at kr2 kn2 ⊢
   simp (maxSteps:=4000000) (disch:=first | (intros; contradiction) | omega) only [go_sem,kr,kn,kr2,kn2,hlt,hk,hal]
   exact drop_pl (outR_plain r)
 ·rw [hA j r hSr (.inl (by omega))]
  simp only [Rm.HH,Rm.hobj] at hal
  generalize cesA r.cells = cs at kr kn hal ⊢
  generalize frsA r.stack = fs at kr2 kn2 ⊢
  simp (maxSteps:=4000000) (disch:=first | (intros; contradiction) | omega) only [go_sem,kr,kn,kr2,kn2,hlt,hal]
  exact drop_pl (outR_plain r)
end Go.Proofs.YtkflggjdlflndaaGreat
