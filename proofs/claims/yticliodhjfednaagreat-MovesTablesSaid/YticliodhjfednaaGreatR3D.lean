/- The document's answer for ir: an instruction, some Ops. Conditions: none. -/
import Derived.Test.YticliodhjfednaaGreatR2
set_option linter.unusedSimpArgs false
set_option linter.unusedVariables false
namespace Go.Proofs.YticliodhjfednaaGreat
open Go Go.Ab
variable {ext:Sem'}
set_option maxHeartbeats 8000000 in
theorem rinstrD_e(hx:TX ext)(m:Md1)(hm:m.structs.length≤1000000)(c:Cd1)(i:In1)(hl:i.args.length≤900)(hk:∀ v,inV c v=true→knownT m (varT c v))(hal:(usesP i).all (inV c)=true)(h:i.op=15∨i.op=16∨i.op=17∨i.op=18):G ext 90 [m.av,c.av,i.av] []=some (.ret (.d (.int .i64 (instrP m c i))),[]):=by
 have hr:=rreads_e hx i (by omega)
 have hwr:=rwrites_e hx i
 have hrl:=reads_len i
 have hh1:=rhas_e hx c [i.d] (by simp)
 have hh2:=rhas_e hx c (readsP i) (by omega)
 have u1:=fun f=>rone1 hx f
 have u0:=fun f=>rone0 hx f
 have hil:(c.ins.map In1.row).length=c.ins.length:=List.length_map _
 have hsl:(m.structs.map Sc1.row).length=m.structs.length:=List.length_map _
 have ge1:([i.d].all (inV c))=inV c i.d:=by simp
 rw[ge1]at hh1;obtain⟨hvd,hva,hvb⟩:=uses_vars hal
 have huargs:=fun h=>uses_args h hal
 have e:instrP m c i=if i.op=15 then callP m c i else if i.op=16 then unlessP (lineIn c i.to) 15 else if i.op=17 then(if lineIn c i.to=false∨lineIn c i.els=false then 15 else numsP c [i.a])else if i.op=18 then unlessP (decide (varT c i.a=c.ret.t)) 7 else plainP m c i:=by
  unfold instrP;rw[if_neg (by omega),if_neg (by rw[hal];decide)]
 rw[e]
 have hrd:(readsP i).all (inV c)=true:=by
  simp only[usesP,List.all_append,Bool.and_eq_true]at hal;simpa using hal.1
 rw[hrd]at hh2;rw[G_body hx.clear rfl Tryz.func90 rfl Tryz.results90 hv_90 rfl];obtain⟨op,d,a,b,f,n,sign,args,mode,dest,els,pos⟩:=i
 simp only at hvd hva hvb hl hr hwr hrl hh1 hh2 huargs h ⊢
 clear e hal hrd ge1;rcases h with rfl|rfl|rfl|rfl
 ·have hd:=hvd (by decide)
  rw[hd]at hh1;have h1:=varT_at (inV_iff.1 hd)
  have h10:=(inV_iff.1 hd).1
  have hq:=rcall_e hx m c ⟨15,d,a,b,f,n,sign,args,mode,dest,els,pos⟩ (by simp only;omega) hd (huargs rfl)
  simp only[Md1.av,Cd1.av,In1.av,ints]at hq;rw[if_pos rfl];simp only[Md1.av,Cd1.av,In1.av,ints,List.map_cons,List.map_nil,rowI,writesP,show hasD 15=true from rfl,if_true]at hr hwr hh2 hh1 ⊢
  simp(maxSteps:=9^9)(disch:=first|(intros;contradiction)|omega)only[go_sem,hwr,hr,hh2,hh1,h1,h10,u1,u0,hq]
 ·rw[if_neg (by decide),if_pos rfl]
  simp only[Md1.av,Cd1.av,In1.av,ints,List.map_cons,List.map_nil,rowI,writesP,show hasD 16=false from rfl,Bool.false_eq_true,if_false]at hr hwr hh2 ⊢
  unfold lineIn;by_cases g1:dest<0
  ·rw[decide_eq_false (by omega)]
   simp(maxSteps:=9^9)(disch:=first|(intros;contradiction)|omega)only[go_sem,hwr,hr,hh2,u1,u0,g1]<;>rfl
  ·by_cases g2:((c.ins.map In1.row).length:Int)≤dest
   ·rw[decide_eq_false (by omega)]
    simp(maxSteps:=9^9)(disch:=first|(intros;contradiction)|omega)only[go_sem,hwr,hr,hh2,u1,u0,g1,g2]<;>rfl
   ·rw[decide_eq_true (by omega)]
    simp(maxSteps:=9^9)(disch:=first|(intros;contradiction)|omega)only[go_sem,hwr,hr,hh2,u1,u0,g1,g2]<;>rfl
 ·have ha:=hva (by decide)
  have h2:=varT_at (inV_iff.1 ha)
  have h20:=(inV_iff.1 ha).1
  rw[if_neg (by decide),if_neg (by decide),if_pos rfl]
  simp only[Md1.av,Cd1.av,In1.av,ints,List.map_cons,List.map_nil,rowI,writesP,show hasD 17=false from rfl,Bool.false_eq_true,if_false,numsP,List.all_cons,List.all_nil,Bool.and_true]at hr hwr hh2 ⊢
  unfold lineIn;by_cases gdest1:dest<0
  ·rw[if_pos (.inl (decide_eq_false (by omega)))]
   simp(maxSteps:=9^9)(disch:=first|(intros;contradiction)|omega)only[go_sem,hwr,hr,hh2,h2,h20,u1,u0,gdest1]
  ·by_cases gdest2:((c.ins.map In1.row).length:Int)≤dest
   ·rw[if_pos (.inl (decide_eq_false (by omega)))]
    simp(maxSteps:=9^9)(disch:=first|(intros;contradiction)|omega)only[go_sem,hwr,hr,hh2,h2,h20,u1,u0,gdest1,gdest2]
   ·by_cases gels1:els<0
    ·rw[if_pos (.inr (decide_eq_false (by omega)))]
     simp(maxSteps:=9^9)(disch:=first|(intros;contradiction)|omega)only[go_sem,hwr,hr,hh2,h2,h20,u1,u0,gdest1,gdest2,gels1]
    ·by_cases gels2:((c.ins.map In1.row).length:Int)≤els
     ·rw[if_pos (.inr (decide_eq_false (by omega)))]
      simp(maxSteps:=9^9)(disch:=first|(intros;contradiction)|omega)only[go_sem,hwr,hr,hh2,h2,h20,u1,u0,gdest1,gdest2,gels1,gels2]
     ·rw[if_neg (by rintro(h|h)<;>rw[decide_eq_false_iff_not]at h<;>omega)]
      cases hph2:(varT c a).ptr<;>rw[hph2]at h2<;>simp(maxSteps:=9^9)(disch:=first|(intros;contradiction)|omega)only[go_sem,hwr,hr,hh2,h2,h20,u1,u0,gdest1,gdest2,gels1,gels2]<;>rfl
 ·have ha:=hva (by decide)
  have h2:=varT_at (inV_iff.1 ha)
  have h20:=(inV_iff.1 ha).1
  rw[if_neg (by decide),if_neg (by decide),if_neg (by decide),if_pos rfl]
  generalize varT c a=ta at h2 ⊢;obtain⟨cn,cp,cv,⟨⟨vp,vt⟩,vc⟩,cf,ci⟩:=c
  obtain⟨ap,at'⟩:=ta
  simp only at h2 ⊢
  simp only[Md1.av,Cd1.av,In1.av,ints,List.map_cons,List.map_nil,rowI,writesP,show hasD 18=false from rfl,Bool.false_eq_true,if_false]at hr hwr hh2 ⊢
  cases hc:decide ((⟨ap,at'⟩:Ty1)=⟨vp,vt⟩)<;>simp(maxSteps:=9^9)(disch:=first|(intros;contradiction)|omega)only[go_sem,hwr,hr,hh2,h2,h20,u1,u0,hc]<;>rfl
end Go.Proofs.YticliodhjfednaaGreat
