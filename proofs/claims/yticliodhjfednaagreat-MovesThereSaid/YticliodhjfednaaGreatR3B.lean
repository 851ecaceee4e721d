/- The document's answer for ir: an instruction, some Ops. Conditions: none. -/
import Derived.Test.YticliodhjfednaaGreatR2
set_option linter.unusedSimpArgs false
set_option linter.unusedVariables false
namespace Go.Proofs.YticliodhjfednaaGreat
open Go Go.Ab
variable {ext:Sem'}
set_option maxHeartbeats 8000000 in
theorem rinstrB_e(hx:TX ext)(m:Md1)(hm:m.structs.length≤1000000)(c:Cd1)(i:In1)(hl:i.args.length≤900)(hk:∀ v,inV c v=true→knownT m (varT c v))(hal:(usesP i).all (inV c)=true)(h:i.op=4∨i.op=14∨i.op=9):G ext 90 [m.av,c.av,i.av] []=some (.ret (.d (.int .i64 (instrP m c i))),[]):=by
 have hr:=rreads_e hx i (by omega)
 have hwr:=rwrites_e hx i
 have hrl:=reads_len i
 have hh1:=rhas_e hx c [i.d] (by simp)
 have hh2:=rhas_e hx c (readsP i) (by omega)
 have u1:=fun f=>rone1 hx f
 have u0:=fun f=>rone0 hx f
 have hil:(c.ins.map In1.row).length=c.ins.length:=List.length_map _
 have hsl:(m.structs.map Sc1.row).length=m.structs.length:=List.length_map _
 have ge1:([i.d].all (inV c))=inV c i.d:=by simp
 rw[ge1]at hh1;obtain⟨hvd,hva,hvb⟩:=uses_vars hal
 have huargs:=fun h=>uses_args h hal
 have e:instrP m c i=if i.op=15 then callP m c i else if i.op=16 then unlessP (lineIn c i.to) 15 else if i.op=17 then(if lineIn c i.to=false∨lineIn c i.els=false then 15 else numsP c [i.a])else if i.op=18 then unlessP (decide (varT c i.a=c.ret.t)) 7 else plainP m c i:=by
  unfold instrP;rw[if_neg (by omega),if_neg (by rw[hal];decide)]
 rw[e]
 have hrd:(readsP i).all (inV c)=true:=by
  simp only[usesP,List.all_append,Bool.and_eq_true]at hal;simpa using hal.1
 rw[hrd]at hh2;rw[G_body hx.clear rfl Tryz.func90 rfl Tryz.results90 hv_90 rfl];obtain⟨op,d,a,b,f,n,sign,args,mode,dest,els,pos⟩:=i
 simp only at hvd hva hvb hl hr hwr hrl hh1 hh2 huargs h ⊢
 clear e hal hrd ge1;rcases h with rfl|rfl|rfl
 ·have hd:=hvd (by decide)
  rw[hd]at hh1;have h1:=varT_at (inV_iff.1 hd)
  have h10:=(inV_iff.1 hd).1
  have ha:=hva (by decide)
  have h2:=varT_at (inV_iff.1 ha)
  have h20:=(inV_iff.1 ha).1
  have hb:=hvb (by decide)
  have h3:=varT_at (inV_iff.1 hb)
  have h30:=(inV_iff.1 hb).1
  have e:plainP m c ⟨4,d,a,b,f,n,sign,args,mode,dest,els,pos⟩=signedP (numsP c [d,a,b]) sign signs11:=rfl
  rw[show(if(4:Int)=15 then callP m c ⟨4,d,a,b,f,n,sign,args,mode,dest,els,pos⟩else if(4:Int)=16 then unlessP (lineIn c dest) 15 else if(4:Int)=17 then(if lineIn c dest=false∨lineIn c els=false then 15 else numsP c [a])else if(4:Int)=18 then unlessP (decide (varT c a=c.ret.t)) 7 else plainP m c ⟨4,d,a,b,f,n,sign,args,mode,dest,els,pos⟩)=plainP m c ⟨4,d,a,b,f,n,sign,args,mode,dest,els,pos⟩from rfl,e]
  have hs:=rsign_e hx sign
  simp only[Md1.av,Cd1.av,In1.av,ints,List.map_cons,List.map_nil,rowI,writesP,show hasD 4=true from rfl,if_true,numsP,List.all_cons,List.all_nil,Bool.and_true,signedP]at hr hwr hh2 hh1 ⊢
  generalize decide (sign∈signs11)=q at hs ⊢
  cases hph1:(varT c d).ptr<;>rw[hph1]at h1
  rotate_left
  ·simp(maxSteps:=9^9)(disch:=first|(intros;contradiction)|omega)only[go_sem,hwr,hr,hh2,hh1,h1,h10,h2,h20,h3,h30,u1,u0]<;>rfl
  cases hph2:(varT c a).ptr<;>rw[hph2]at h2
  rotate_left
  ·simp(maxSteps:=9^9)(disch:=first|(intros;contradiction)|omega)only[go_sem,hwr,hr,hh2,hh1,h1,h10,h2,h20,h3,h30,u1,u0]<;>rfl
  cases hph3:(varT c b).ptr<;>rw[hph3]at h3
  rotate_left
  ·simp(maxSteps:=9^9)(disch:=first|(intros;contradiction)|omega)only[go_sem,hwr,hr,hh2,hh1,h1,h10,h2,h20,h3,h30,u1,u0]<;>rfl
  cases q<;>simp(maxSteps:=9^9)(disch:=first|(intros;contradiction)|omega)only[go_sem,hwr,hr,hh2,hh1,h1,h10,h2,h20,h3,h30,u1,u0,hs]<;>rfl
 ·have hd:=hvd (by decide)
  rw[hd]at hh1;have h1:=varT_at (inV_iff.1 hd)
  have h10:=(inV_iff.1 hd).1
  have ha:=hva (by decide)
  have h2:=varT_at (inV_iff.1 ha)
  have h20:=(inV_iff.1 ha).1
  have e:plainP m c ⟨14,d,a,b,f,n,sign,args,mode,dest,els,pos⟩=signedP (unlessP (!(varT c d).ptr&&(varT c a).ptr) 7) sign [[61,61],[33,61]]:=rfl
  rw[show(if(14:Int)=15 then callP m c ⟨14,d,a,b,f,n,sign,args,mode,dest,els,pos⟩else if(14:Int)=16 then unlessP (lineIn c dest) 15 else if(14:Int)=17 then(if lineIn c dest=false∨lineIn c els=false then 15 else numsP c [a])else if(14:Int)=18 then unlessP (decide (varT c a=c.ret.t)) 7 else plainP m c ⟨14,d,a,b,f,n,sign,args,mode,dest,els,pos⟩)=plainP m c ⟨14,d,a,b,f,n,sign,args,mode,dest,els,pos⟩from rfl,e]
  simp only[Md1.av,Cd1.av,In1.av,ints,List.map_cons,List.map_nil,rowI,writesP,show hasD 14=true from rfl,if_true,signedP,List.mem_cons,List.not_mem_nil,or_false]at hr hwr hh2 hh1 ⊢
  cases hph1:(varT c d).ptr<;>rw[hph1]at h1
  rotate_left
  ·simp(maxSteps:=9^9)(disch:=first|(intros;contradiction)|omega)only[go_sem,hwr,hr,hh2,hh1,h1,h10,h2,h20,u1,u0]<;>rfl
  cases hph2:(varT c a).ptr<;>rw[hph2]at h2
  ·simp(maxSteps:=9^9)(disch:=first|(intros;contradiction)|omega)only[go_sem,hwr,hr,hh2,hh1,h1,h10,h2,h20,u1,u0]<;>rfl
  by_cases s1:sign=[61,61]
  ·rw[decide_eq_true (show sign=[61,61]∨sign=[33,61]from .inl s1)]
   have s1:=eq_true s1
   simp(maxSteps:=9^9)(disch:=first|(intros;contradiction)|omega)only[go_sem,hwr,hr,hh2,hh1,h1,h10,h2,h20,u1,u0,s1]<;>rfl
  ·by_cases s2:sign=[33,61]
   ·rw[decide_eq_true (show sign=[61,61]∨sign=[33,61]from .inr s2)]
    have s2:=eq_true s2
    simp(maxSteps:=9^9)(disch:=first|(intros;contradiction)|omega)only[go_sem,hwr,hr,hh2,hh1,h1,h10,h2,h20,u1,u0,s1,s2]<;>rfl
   ·rw[decide_eq_false (show ¬(sign=[61,61]∨sign=[33,61])by simp[s1,s2])]
    simp(maxSteps:=9^9)(disch:=first|(intros;contradiction)|omega)only[go_sem,hwr,hr,hh2,hh1,h1,h10,h2,h20,u1,u0,s1,s2]<;>rfl
 ·have hd:=hvd (by decide)
  rw[hd]at hh1;have h1:=varT_at (inV_iff.1 hd)
  have h10:=(inV_iff.1 hd).1
  have ha:=hva (by decide)
  have h2:=varT_at (inV_iff.1 ha)
  have h20:=(inV_iff.1 ha).1
  have e:plainP m c ⟨9,d,a,b,f,n,sign,args,mode,dest,els,pos⟩=unlessP ((varT c a).ptr&&decide (varT c a=varT c d)) 7:=rfl
  rw[show(if(9:Int)=15 then callP m c ⟨9,d,a,b,f,n,sign,args,mode,dest,els,pos⟩else if(9:Int)=16 then unlessP (lineIn c dest) 15 else if(9:Int)=17 then(if lineIn c dest=false∨lineIn c els=false then 15 else numsP c [a])else if(9:Int)=18 then unlessP (decide (varT c a=c.ret.t)) 7 else plainP m c ⟨9,d,a,b,f,n,sign,args,mode,dest,els,pos⟩)=plainP m c ⟨9,d,a,b,f,n,sign,args,mode,dest,els,pos⟩from rfl,e]
  simp only[Md1.av,Cd1.av,In1.av,ints,List.map_cons,List.map_nil,rowI,writesP,show hasD 9=true from rfl,if_true]at hr hwr hh2 hh1 ⊢
  generalize varT c d=td at h1 ⊢;generalize varT c a=ta at h2 ⊢;obtain⟨tp,tt⟩:=td
  obtain⟨ap,at'⟩:=ta
  simp only at h1 h2 ⊢
  cases hc:decide ((⟨ap,at'⟩:Ty1)=⟨tp,tt⟩)<;>cases ap<;>simp(maxSteps:=9^9)(disch:=first|(intros;contradiction)|omega)only[go_sem,hwr,hr,hh2,hh1,h1,h10,h2,h20,u1,u0,hc]<;>rfl
end Go.Proofs.YticliodhjfednaaGreat
