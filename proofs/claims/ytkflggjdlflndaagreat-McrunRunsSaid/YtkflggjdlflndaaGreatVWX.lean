/- Law 7: both machines' runs come to the same; Law 7: what any module does. Conditions: none. -/
import Derived.Test.YtkflggjdlflndaaGreatZKL
import Derived.Test.YtkflggjdlflndaaGreatVSV
import Derived.Test.YtkflggjdlflndaaGreatVJ
import Derived.Test.YtkflggjdlflndaaGreatVR7
import Derived.Test.YtkflggjdlflndaaGreatAbX8
import Derived.Test.YtkflggjdlflndaaGreatMod
set_option linter.unusedSimpArgs false
set_option linter.unusedVariables false
namespace Go.Proofs.YtkflggjdlflndaaGreat
open Go Go.Ab
variable {ext:Sem'}
theorem left_same {s:Mc} {r:Rm} (g:Sim s r):leftR r.cells = leftN s.reg s.cells:=by
 have e:s.cells = r.cells.map fun c=>2 * c.k:=by
  refine List.ext_getElem? fun j=>?_
  rw [List.getElem?_map]
  cases hj:r.cells[j]? with
  | none=>
   have h1:=List.getElem?_eq_none_iff.1 hj
   have h2:=g.cl
   exact List.getElem?_eq_none (by omega)
  | some c=>exact (g.ce j c hj).1
 unfold leftR leftN
 rw [e,List.filter_map,List.length_map]
 congr 1
 refine List.filter_congr fun c hc=>?_
 obtain ⟨j,hj⟩:=List.getElem?_of_mem hc
 obtain ⟨_,_,h3,_⟩:=g.ce j c hj
 simp only [Function.comp,h3,aliveB]
theorem out_same {s:Mc} {r:Rm} (g:Sim s r):s.oc.av = outR r:=by
 unfold outR Mc.oc Oc.av outV
 rw [left_same g,g.kind,g.code,g.out,g.steps]
theorem start_sim (m:Md1) (inp:List Int) (fails:List Bool):Sim (Mc.start m inp fails []) (Rm.start m inp fails):=by
 refine ⟨rfl,rfl,rfl,rfl,rfl,rfl,rfl,rfl,rfl,fun q xs h=>?_,rfl,fun j c h=>?_,fun i j c d h=>?_,Nat.le_refl _,Ch.nil⟩
 ·simp [Rm.start] at h
 ·simp [Rm.start] at h
 ·simp [Rm.start] at h
theorem mc0_sim {m:Md1} (h:rightP m = 0) (inp:List Int) (fails:List Bool):Sim (mc0 m inp fails []) (enterR (Rm.start m inp fails) (mainIx m) (mainC m) []):=by
 obtain ⟨h0,h1,h2⟩:=main_parts h
 have hm:=(right_parts h).main
 have hp:(mainC m).ret.t.ptr = false:=by
  unfold mainP at hm
  have h1':m.funcs[(funcIx m [109,97,105,110]).toNat]? = some (mainC m):=h1
  rw [h1'] at hm
  have:=unl_zero (by decide) hm
  simp only [Bool.and_eq_true,Bool.not_eq_true'] at this
  exact this.2.2
 exact (start_sim m inp fails).enter h0 h1 ⟨rfl,fun i v x hv=>by simp at hv⟩ (fun _=>hp) (fun u hu=>by cases hu)
set_option maxHeartbeats 4000000 in
theorem rrun_right (hx:T5 ext) (hz:T3 extZ) (he:∀ xs H,ext 12 xs H = none) {m:Md1} (hl:LightM m) (h:rightP m = 0) (inp:List Int) (fails:List Bool) {fuel:Int} (h0:0 ≤ fuel) (h1:fuel ≤ 20000) :
  dropK (G ext 12 [m.av,.d (.sl (inp.map rowU)),.d (.sl (fails.map rowT)),.d (.int .i64 fuel)] [.reg []]) = some (.ret (runO m inp fails fuel).av,[]):=by
 obtain ⟨k0,k1,k2⟩:=main_parts h
 have hr:=right05_e hx.toTX m hl
 rw [h] at hr
 refine rrun_e hx he m hl hr inp fails fuel h0 h1 (mainC m) k0 k1 (by have:=(hl.vars _ k2).1; omega) (fun j r=>j ≤ fuel.toNat∧Sim (runM j (mc0 m inp fails [])) r∧r.top ≤ j + 1) ⟨Nat.zero_le _,mc0_sim h inp fails,Nat.le_refl _⟩ ?_ ?_ _ ?_
 ·rintro j r ⟨j1,g,j2⟩ hj hk
  have gd:=go_all hz hl h inp fails [] rfl j (by omega)
  obtain ⟨T,V,w⟩:=gd.wf
  have hk':(runM j (mc0 m inp fails [])).kind = 4:=by rw [← g.kind]; exact hk
  obtain ⟨q,r',a1,a2,a3⟩:=step_sim hx w g (by rw [gd.m]; exact hl) hk' gd.cnt (by omega) (by omega)
  refine ⟨q,r',a1,by omega,?_,?_⟩
  ·rw [runM_succ,if_pos hk']; exact a2
  ·show r'.top ≤ j + 1 + 1
   omega
 ·rintro j r ⟨j1,g,j2⟩
  have gd:=go_all hz hl h inp fails [] rfl j (by omega)
  have:=gd.cnt.ce1
  have:=g.cl
  omega
 ·rintro j r ⟨j1,g,j2⟩ hj
  rw [← out_same g]
  unfold runO
  rw [if_pos h]
  rcases hj with rfl | hj
  ·rfl
  ·rw [runM_stay (by rw [← g.kind]; exact hj) _ j1]
set_option maxHeartbeats 4000000 in
theorem rrun_bad (hx:T5 ext) (he:∀ xs H,ext 12 xs H = none) {m:Md1} (hl:LightM m) (h:¬ rightP m = 0) (inp:List Int) (fails:List Bool) (fuel:Int) :
  dropK (G ext 12 [m.av,.d (.sl (inp.map rowU)),.d (.sl (fails.map rowT)),.d (.int .i64 fuel)] [.reg []]) = some (.ret (runO m inp fails fuel).av,[]):=by
 have hr:=right05_e hx.toTX m hl
 have e:runO m inp fails fuel = ⟨0,0,[],0,0⟩:=by unfold runO; rw [if_neg h]
 rw [e]
 rw [G_bodyN (he _ _) Tryz.func12 rfl Tryz.results12 hv_12 rfl]
 simp only [Md1.av,Md1.sr,Md1.fr] at hr ⊢
 simp (maxSteps:=4000000) (disch:=first | (intros; contradiction) | omega) only [go_sem,hr,h]
 rfl
end Go.Proofs.YtkflggjdlflndaaGreat
namespace Go.Proofs.YtkflggjdlflndaaGreat
open Go Go.Ab
variable {ext:Sem'}
structure T6 (ext:Sem'):Prop extends T4 ext where
 rrun:∀ (m:Md1) (inp:List Int) (fails:List Bool) (fuel:Int),LightM m→inp.length ≤ 1000→fails.length ≤ 1000→0 ≤ fuel→fuel ≤ 20000→ext 12 [m.av,.d (.sl (inp.map rowU)),.d (.sl (fails.map rowT)),.d (.int .i64 fuel)] [] = some (.ret (runO m inp fails fuel).av,[])
set_option maxHeartbeats 4000000 in
theorem runs_e (hx:T6 ext) (m:Md1) (hn:∀ s,s ∈ m.structs→∀ f,f ∈ s.fields→f.name.length ≤ 9223372036854775807) (inp:List Int) (fails:List Bool) (fuel:Int):G ext 3 [m.av,.d (.sl (inp.map rowU)),.d (.sl (fails.map rowT)),.d (.int .i64 fuel)] [] = some (.ret (.d (.bool true)),[]):=by
 have ha:=alive_e hx.toT4
 obtain ⟨b,hb,hl⟩:=l05_e hx.toTX m hn
 have h7:=light7_e hx.toTX inp fails fuel
 simp only [Md1.av,Md1.sr,Md1.fr] at hb ⊢
 rw [G_body hx.clear rfl Tryz.func3 rfl Tryz.results3 hv_3 rfl]
 cases b with
 | false=>
  simp (maxSteps:=4000000) (disch:=first | (intros; contradiction) | omega) only [go_sem,hb,ha]
  done
 | true=>
  cases c7:light7 inp fails fuel with
  | false=>
   rw [c7] at h7
   simp (maxSteps:=4000000) (disch:=first | (intros; contradiction) | omega) only [go_sem,hb,h7,ha]
   done
  | true=>
   rw [c7] at h7
   obtain ⟨p1,p2,p3,p4⟩:=light7_parts c7
   have ra:=G_ext (hx.run m inp fails fuel (hl rfl) (by omega) (by omega) (by omega) (by omega))
   have rb:=G_ext (hx.rrun m inp fails fuel (hl rfl) (by omega) (by omega) (by omega) (by omega))
   have ba:=runO_isB m inp fails fuel
   generalize runO m inp fails fuel = A at ra rb ba
   obtain ⟨k,c,o,st,lf⟩:=A
   have hs:=same_e hx.toTX (k:=k) (c:=c) (st:=st) (lf:=lf) (k2:=k) (c2:=c) (st2:=st) (lf2:=lf) ba ba
   simp only [Oc.av,Md1.av,Md1.sr,Md1.fr] at ra rb
   simp only [decide_true,Bool.and_self] at hs
   unfold outV at ra rb hs
   simp (maxSteps:=4000000) (disch:=first | (intros; contradiction) | omega) only [go_sem,hb,h7,ra,rb,hs,ha]
   done
noncomputable def extR:Sem':=fun f as0 H=>if f = 11 then dropR (G extZ) f as0 H else if f = 12 then dropR (G extY) f as0 H else extB f as0 H
theorem extR_ok:Sound Tryz.prog extR:=by
 intro f as0 H out H' h
 unfold extR at h
 split at h
 ·exact dropR_ok rfl (G_ok extZ_ok) f as0 H out H' h
 ·split at h
  ·exact dropR_ok rfl (G_ok extY_ok) f as0 H out H' h
  ·exact extB_ok f as0 H out H' h
theorem extZ_run:∀ xs H,extZ 11 xs H = none:=by
 intro xs H
 unfold extZ
 rw [if_neg (by decide)]
 unfold extB
 rw [if_neg (by decide),if_neg (by decide)]
theorem extY_run:∀ xs H,extY 12 xs H = none:=by
 intro xs H
 unfold extY
 rw [if_neg (by decide)]
 unfold extB
 rw [if_neg (by decide),if_neg (by decide)]
theorem extR_t1:T1 extR:=by
 refine t1_of (fun f xs H h=>?_) (fun xs H=>?_) (fun xs H=>?_)
 ·unfold extR
  rw [if_neg,if_neg]
  ·exact extB_t1.clear f xs H h
  ·rintro rfl
   cases h
  ·rintro rfl
   cases h
 ·unfold extR
  rw [if_neg (by decide),if_neg (by decide)]
  rfl
 ·unfold extR
  rw [if_neg (by decide),if_neg (by decide)]
  unfold extB
  rw [if_neg (by decide),if_pos rfl]
theorem outV_plain (k c st lf:Int) (o:List Int):refs (outV k c o st lf) = []∧hasRp (outV k c o st lf) = false:=by
 unfold outV
 constructor <;> simp [refs,refsAL,hasRp,hasRpL]
theorem extR_t6:T6 extR:=by
 refine ⟨⟨extR_t1.toTM,fun m inp fails fuel hl h1 h2 h3 h4=>?_⟩,fun m inp fails fuel hl h1 h2 h3 h4=>?_⟩
 ·unfold extR
  rw [if_pos rfl]
  unfold runO
  by_cases hr:rightP m = 0
  ·rw [if_pos hr]
   have h:=run_right extZ_t3 extZ_run hl hr inp fails [] rfl h1 h2 h3 h4
   show dropK (G extZ 11 _ [.reg (rgA [])]) = _
   rw [h]
   exact drop_pl (outV_plain (runM fuel.toNat (mc0 m inp fails [])).oc.kind (runM fuel.toNat (mc0 m inp fails [])).oc.code (runM fuel.toNat (mc0 m inp fails [])).oc.steps (runM fuel.toNat (mc0 m inp fails [])).oc.left (runM fuel.toNat (mc0 m inp fails [])).oc.out)
  ·rw [if_neg hr]
   have h:=run_bad extZ_t3 extZ_run m hl inp fails fuel [] hr
   show dropK (G extZ 11 _ [.reg (rgA [])]) = _
   rw [h]
   exact drop_pl (outV_plain 0 0 0 0 [])
 ·unfold extR
  rw [if_neg (by decide),if_pos rfl]
  by_cases hr:rightP m = 0
  ·exact rrun_right extY_t5 extZ_t3 extY_run hl hr inp fails h3 h4
  ·exact rrun_bad extY_t5 extY_run hl hr inp fails fuel
theorem u8_wf {xs:List Dt} (h:WfD (.int .u8) xs):∃ n:Int,xs = rowU n∧True:=by
 simp only [WfD] at h
 obtain ⟨n,rfl,h⟩:=h
 exact ⟨n,rfl,trivial⟩
theorem bytes_arg {xs:List Dt} (h:WfD (.sl (.int .u8)) xs):∃ l:List Int,argOf (.sl (.int .u8)) xs = .d (.sl (l.map rowU)):=by
 obtain ⟨l,rfl,_⟩:=sl_of (f:=rowU) (fun _ h=>u8_wf h) h
 exact ⟨l,rfl⟩
theorem bools_arg {xs:List Dt} (h:WfD (.sl .bool) xs):∃ l:List Bool,argOf (.sl .bool) xs = .d (.sl (l.map rowT)):=by
 obtain ⟨l,rfl,_⟩:=sl_of (f:=rowT) (Q:=fun _=>True) (fun xs h=>by obtain ⟨b,rfl⟩:=bool_wf h; exact ⟨b,rfl,trivial⟩) h
 exact ⟨l,rfl⟩
end Go.Proofs.YtkflggjdlflndaaGreat
