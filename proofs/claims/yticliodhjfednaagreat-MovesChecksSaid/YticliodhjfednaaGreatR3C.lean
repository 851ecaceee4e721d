/- The document's answer for ir: an instruction, some Ops. Conditions: none. -/
import Derived.Test.YticliodhjfednaaGreatR2
set_option linter.unusedSimpArgs false
set_option linter.unusedVariables false
namespace Go.Proofs.YticliodhjfednaaGreat
open Go Go.Ab
variable {ext:Sem'}
set_option maxHeartbeats 8000000 in
theorem rinstrC_e(hx:TX ext)(m:Md1)(hm:m.structs.length≤1000000)(c:Cd1)(i:In1)(hl:i.args.length≤900)(hk:∀ v,inV c v=true→knownT m (varT c v))(hal:(usesP i).all (inV c)=true)(h:i.op=7∨i.op=8∨i.op=10∨i.op=11∨i.op=12):G ext 90 [m.av,c.av,i.av] []=some (.ret (.d (.int .i64 (instrP m c i))),[]):=by
 have hr:=rreads_e hx i (by omega)
 have hwr:=rwrites_e hx i
 have hrl:=reads_len i
 have hh1:=rhas_e hx c [i.d] (by simp)
 have hh2:=rhas_e hx c (readsP i) (by omega)
 have u1:=fun f=>rone1 hx f
 have u0:=fun f=>rone0 hx f
 have hil:(c.ins.map In1.row).length=c.ins.length:=List.length_map _
 have hsl:(m.structs.map Sc1.row).length=m.structs.length:=List.length_map _
 have ge1:([i.d].all (inV c))=inV c i.d:=by simp
 rw[ge1]at hh1;obtain⟨hvd,hva,hvb⟩:=uses_vars hal
 have huargs:=fun h=>uses_args h hal
 have e:instrP m c i=if i.op=15 then callP m c i else if i.op=16 then unlessP (lineIn c i.to) 15 else if i.op=17 then(if lineIn c i.to=false∨lineIn c i.els=false then 15 else numsP c [i.a])else if i.op=18 then unlessP (decide (varT c i.a=c.ret.t)) 7 else plainP m c i:=by
  unfold instrP;rw[if_neg (by omega),if_neg (by rw[hal];decide)]
 rw[e]
 have hrd:(readsP i).all (inV c)=true:=by
  simp only[usesP,List.all_append,Bool.and_eq_true]at hal;simpa using hal.1
 rw[hrd]at hh2;rw[G_body hx.clear rfl Tryz.func90 rfl Tryz.results90 hv_90 rfl];obtain⟨op,d,a,b,f,n,sign,args,mode,dest,els,pos⟩:=i
 simp only at hvd hva hvb hl hr hwr hrl hh1 hh2 huargs h ⊢
 clear e hal hrd ge1;rcases h with rfl|rfl|rfl|rfl|rfl
 ·have hd:=hvd (by decide)
  rw[hd]at hh1;have h1:=varT_at (inV_iff.1 hd)
  have h10:=(inV_iff.1 hd).1
  have ha:=hva (by decide)
  have h2:=varT_at (inV_iff.1 ha)
  have h20:=(inV_iff.1 ha).1
  have e:plainP m c ⟨7,d,a,b,f,n,sign,args,mode,dest,els,pos⟩=heapP m c ⟨7,d,a,b,f,n,sign,args,mode,dest,els,pos⟩ d false:=rfl
  rw[show(if(7:Int)=15 then callP m c ⟨7,d,a,b,f,n,sign,args,mode,dest,els,pos⟩else if(7:Int)=16 then unlessP (lineIn c dest) 15 else if(7:Int)=17 then(if lineIn c dest=false∨lineIn c els=false then 15 else numsP c [a])else if(7:Int)=18 then unlessP (decide (varT c a=c.ret.t)) 7 else plainP m c ⟨7,d,a,b,f,n,sign,args,mode,dest,els,pos⟩)=plainP m c ⟨7,d,a,b,f,n,sign,args,mode,dest,els,pos⟩from rfl,e]
  have hq:=rheap_e hx m hm c ⟨7,d,a,b,f,n,sign,args,mode,dest,els,pos⟩ d true (.inl ⟨rfl,rfl,rfl⟩) ha hd (hk _ ha)
  simp only[Md1.av,Cd1.av,In1.av,ints,Bool.not_true,Bool.not_false]at hq;simp only[Md1.av,Cd1.av,In1.av,ints,List.map_cons,List.map_nil,rowI,writesP,show hasD 7=true from rfl,if_true]at hr hwr hh2 hh1 ⊢
  simp(maxSteps:=9^9)(disch:=first|(intros;contradiction)|omega)only[go_sem,hwr,hr,hh2,hh1,h1,h10,h2,h20,u1,u0,hq]
 ·have ha:=hva (by decide)
  have h2:=varT_at (inV_iff.1 ha)
  have h20:=(inV_iff.1 ha).1
  have hb:=hvb (by decide)
  have h3:=varT_at (inV_iff.1 hb)
  have h30:=(inV_iff.1 hb).1
  have e:plainP m c ⟨8,d,a,b,f,n,sign,args,mode,dest,els,pos⟩=heapP m c ⟨8,d,a,b,f,n,sign,args,mode,dest,els,pos⟩ b false:=rfl
  rw[show(if(8:Int)=15 then callP m c ⟨8,d,a,b,f,n,sign,args,mode,dest,els,pos⟩else if(8:Int)=16 then unlessP (lineIn c dest) 15 else if(8:Int)=17 then(if lineIn c dest=false∨lineIn c els=false then 15 else numsP c [a])else if(8:Int)=18 then unlessP (decide (varT c a=c.ret.t)) 7 else plainP m c ⟨8,d,a,b,f,n,sign,args,mode,dest,els,pos⟩)=plainP m c ⟨8,d,a,b,f,n,sign,args,mode,dest,els,pos⟩from rfl,e]
  have hq:=rheap_e hx m hm c ⟨8,d,a,b,f,n,sign,args,mode,dest,els,pos⟩ b true (.inr (.inr (.inl ⟨rfl,rfl,rfl⟩))) ha hb (hk _ ha)
  simp only[Md1.av,Cd1.av,In1.av,ints,Bool.not_true,Bool.not_false]at hq;simp only[Md1.av,Cd1.av,In1.av,ints,List.map_cons,List.map_nil,rowI,writesP,show hasD 8=false from rfl,Bool.false_eq_true,if_false]at hr hwr hh2 ⊢
  simp(maxSteps:=9^9)(disch:=first|(intros;contradiction)|omega)only[go_sem,hwr,hr,hh2,h2,h20,h3,h30,u1,u0,hq]
 ·have hd:=hvd (by decide)
  rw[hd]at hh1;have h1:=varT_at (inV_iff.1 hd)
  have h10:=(inV_iff.1 hd).1
  have ha:=hva (by decide)
  have h2:=varT_at (inV_iff.1 ha)
  have h20:=(inV_iff.1 ha).1
  have e:plainP m c ⟨10,d,a,b,f,n,sign,args,mode,dest,els,pos⟩=heapP m c ⟨10,d,a,b,f,n,sign,args,mode,dest,els,pos⟩ d true:=rfl
  rw[show(if(10:Int)=15 then callP m c ⟨10,d,a,b,f,n,sign,args,mode,dest,els,pos⟩else if(10:Int)=16 then unlessP (lineIn c dest) 15 else if(10:Int)=17 then(if lineIn c dest=false∨lineIn c els=false then 15 else numsP c [a])else if(10:Int)=18 then unlessP (decide (varT c a=c.ret.t)) 7 else plainP m c ⟨10,d,a,b,f,n,sign,args,mode,dest,els,pos⟩)=plainP m c ⟨10,d,a,b,f,n,sign,args,mode,dest,els,pos⟩from rfl,e]
  have hq:=rheap_e hx m hm c ⟨10,d,a,b,f,n,sign,args,mode,dest,els,pos⟩ d false (.inr (.inl ⟨rfl,rfl,rfl⟩)) ha hd (hk _ ha)
  simp only[Md1.av,Cd1.av,In1.av,ints,Bool.not_true,Bool.not_false]at hq;simp only[Md1.av,Cd1.av,In1.av,ints,List.map_cons,List.map_nil,rowI,writesP,show hasD 10=true from rfl,if_true]at hr hwr hh2 hh1 ⊢
  simp(maxSteps:=9^9)(disch:=first|(intros;contradiction)|omega)only[go_sem,hwr,hr,hh2,hh1,h1,h10,h2,h20,u1,u0,hq]
 ·have ha:=hva (by decide)
  have h2:=varT_at (inV_iff.1 ha)
  have h20:=(inV_iff.1 ha).1
  have hb:=hvb (by decide)
  have h3:=varT_at (inV_iff.1 hb)
  have h30:=(inV_iff.1 hb).1
  have e:plainP m c ⟨11,d,a,b,f,n,sign,args,mode,dest,els,pos⟩=heapP m c ⟨11,d,a,b,f,n,sign,args,mode,dest,els,pos⟩ b true:=rfl
  rw[show(if(11:Int)=15 then callP m c ⟨11,d,a,b,f,n,sign,args,mode,dest,els,pos⟩else if(11:Int)=16 then unlessP (lineIn c dest) 15 else if(11:Int)=17 then(if lineIn c dest=false∨lineIn c els=false then 15 else numsP c [a])else if(11:Int)=18 then unlessP (decide (varT c a=c.ret.t)) 7 else plainP m c ⟨11,d,a,b,f,n,sign,args,mode,dest,els,pos⟩)=plainP m c ⟨11,d,a,b,f,n,sign,args,mode,dest,els,pos⟩from rfl,e]
  have hq:=rheap_e hx m hm c ⟨11,d,a,b,f,n,sign,args,mode,dest,els,pos⟩ b false (.inr (.inr (.inr ⟨rfl,rfl,rfl⟩))) ha hb (hk _ ha)
  simp only[Md1.av,Cd1.av,In1.av,ints,Bool.not_true,Bool.not_false]at hq;simp only[Md1.av,Cd1.av,In1.av,ints,List.map_cons,List.map_nil,rowI,writesP,show hasD 11=false from rfl,Bool.false_eq_true,if_false]at hr hwr hh2 ⊢
  simp(maxSteps:=9^9)(disch:=first|(intros;contradiction)|omega)only[go_sem,hwr,hr,hh2,h2,h20,h3,h30,u1,u0,hq]
 ·have hd:=hvd (by decide)
  rw[hd]at hh1;have h1:=varT_at (inV_iff.1 hd)
  have h10:=(inV_iff.1 hd).1
  have e:plainP m c ⟨12,d,a,b,f,n,sign,args,mode,dest,els,pos⟩=if f<0∨(m.structs.length:Int)≤f then 15 else unlessP (decide (varT c d=⟨true,((m.structs[f.toNat]?).map (·.name)).getD []⟩)) 7:=rfl
  rw[show(if(12:Int)=15 then callP m c ⟨12,d,a,b,f,n,sign,args,mode,dest,els,pos⟩else if(12:Int)=16 then unlessP (lineIn c dest) 15 else if(12:Int)=17 then(if lineIn c dest=false∨lineIn c els=false then 15 else numsP c [a])else if(12:Int)=18 then unlessP (decide (varT c a=c.ret.t)) 7 else plainP m c ⟨12,d,a,b,f,n,sign,args,mode,dest,els,pos⟩)=plainP m c ⟨12,d,a,b,f,n,sign,args,mode,dest,els,pos⟩from rfl,e]
  simp only[Md1.av,Cd1.av,In1.av,ints,List.map_cons,List.map_nil,rowI,writesP,show hasD 12=true from rfl,if_true]at hr hwr hh2 hh1 ⊢
  by_cases g1:f<0
  ·rw[if_pos (.inl g1)];simp(maxSteps:=9^9)(disch:=first|(intros;contradiction)|omega)only[go_sem,hwr,hr,hh2,hh1,h1,h10,u1,u0,g1]
  ·by_cases g2:((m.structs.map Sc1.row).length:Int)≤f
   ·rw[if_pos (.inr (by omega))]
    simp(maxSteps:=9^9)(disch:=first|(intros;contradiction)|omega)only[go_sem,hwr,hr,hh2,hh1,h1,h10,u1,u0,g1,g2,Md1.sr]
   ·rw[if_neg (by omega)]
    have hlt:f.toNat<m.structs.length:=by omega
    have hrs:=map_at (f:=Sc1.row) hlt
    have g3:0≤f:=by omega
    rw[List.getElem?_eq_getElem hlt]
    generalize m.structs[f.toNat]=s at hrs ⊢;simp only[Sc1.row,Option.map_some,Option.getD_some]at hrs ⊢;generalize varT c d=td at h1 ⊢;obtain⟨tp,tt⟩:=td
    simp only at h1 ⊢
    cases hc:decide ((⟨tp,tt⟩:Ty1)=⟨true,s.name⟩)<;>simp(maxSteps:=9^9)(disch:=first|(intros;contradiction)|omega)only[go_sem,hwr,hr,hh2,hh1,h1,h10,u1,u0,g1,g2,g3,hrs,hc,Md1.sr]<;>rfl
end Go.Proofs.YticliodhjfednaaGreat
