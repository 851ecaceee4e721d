/- The document's answer for ir: an instruction, some Ops. Conditions: none. -/
import Derived.Test.YticliodhjfednaaGreatR2
set_option linter.unusedSimpArgs false
set_option linter.unusedVariables false
namespace Go.Proofs.YticliodhjfednaaGreat
open Go Go.Ab
variable {ext:Sem'}
set_option maxHeartbeats 8000000 in
theorem rinstrA_e(hx:TX ext)(m:Md1)(hm:m.structs.length≤1000000)(c:Cd1)(i:In1)(hl:i.args.length≤900)(hk:∀ v,inV c v=true→knownT m (varT c v))(hal:(usesP i).all (inV c)=true)(h:i.op=1∨i.op=2∨i.op=3∨i.op=5∨i.op=6∨i.op=13):G ext 90 [m.av,c.av,i.av] []=some (.ret (.d (.int .i64 (instrP m c i))),[]):=by
 have hr:=rreads_e hx i (by omega)
 have hwr:=rwrites_e hx i
 have hrl:=reads_len i
 have hh1:=rhas_e hx c [i.d] (by simp)
 have hh2:=rhas_e hx c (readsP i) (by omega)
 have u1:=fun f=>rone1 hx f
 have u0:=fun f=>rone0 hx f
 have hil:(c.ins.map In1.row).length=c.ins.length:=List.length_map _
 have hsl:(m.structs.map Sc1.row).length=m.structs.length:=List.length_map _
 have ge1:([i.d].all (inV c))=inV c i.d:=by simp
 rw[ge1]at hh1;obtain⟨hvd,hva,hvb⟩:=uses_vars hal
 have huargs:=fun h=>uses_args h hal
 have e:instrP m c i=if i.op=15 then callP m c i else if i.op=16 then unlessP (lineIn c i.to) 15 else if i.op=17 then(if lineIn c i.to=false∨lineIn c i.els=false then 15 else numsP c [i.a])else if i.op=18 then unlessP (decide (varT c i.a=c.ret.t)) 7 else plainP m c i:=by
  unfold instrP;rw[if_neg (by omega),if_neg (by rw[hal];decide)]
 rw[e]
 have hrd:(readsP i).all (inV c)=true:=by
  simp only[usesP,List.all_append,Bool.and_eq_true]at hal;simpa using hal.1
 rw[hrd]at hh2;rw[G_body hx.clear rfl Tryz.func90 rfl Tryz.results90 hv_90 rfl];obtain⟨op,d,a,b,f,n,sign,args,mode,dest,els,pos⟩:=i
 simp only at hvd hva hvb hl hr hwr hrl hh1 hh2 huargs h ⊢
 clear e hal hrd ge1;rcases h with rfl|rfl|rfl|rfl|rfl|rfl
 ·have hd:=hvd (by decide)
  rw[hd]at hh1;have h1:=varT_at (inV_iff.1 hd)
  have h10:=(inV_iff.1 hd).1
  have e:plainP m c ⟨1,d,a,b,f,n,sign,args,mode,dest,els,pos⟩=numsP c [d]:=rfl
  rw[show(if(1:Int)=15 then callP m c ⟨1,d,a,b,f,n,sign,args,mode,dest,els,pos⟩else if(1:Int)=16 then unlessP (lineIn c dest) 15 else if(1:Int)=17 then(if lineIn c dest=false∨lineIn c els=false then 15 else numsP c [a])else if(1:Int)=18 then unlessP (decide (varT c a=c.ret.t)) 7 else plainP m c ⟨1,d,a,b,f,n,sign,args,mode,dest,els,pos⟩)=plainP m c ⟨1,d,a,b,f,n,sign,args,mode,dest,els,pos⟩from rfl,e]
  simp only[Md1.av,Cd1.av,In1.av,ints,List.map_cons,List.map_nil,rowI,writesP,show hasD 1=true from rfl,if_true,numsP,List.all_cons,List.all_nil,Bool.and_true]at hr hwr hh2 hh1 ⊢
  cases hph1:(varT c d).ptr<;>rw[hph1]at h1<;>simp(maxSteps:=9^9)(disch:=first|(intros;contradiction)|omega)only[go_sem,hwr,hr,hh2,hh1,h1,h10,u1,u0]<;>rfl
 ·have hd:=hvd (by decide)
  rw[hd]at hh1;have h1:=varT_at (inV_iff.1 hd)
  have h10:=(inV_iff.1 hd).1
  have e:plainP m c ⟨2,d,a,b,f,n,sign,args,mode,dest,els,pos⟩=unlessP (varT c d).ptr 7:=rfl
  rw[show(if(2:Int)=15 then callP m c ⟨2,d,a,b,f,n,sign,args,mode,dest,els,pos⟩else if(2:Int)=16 then unlessP (lineIn c dest) 15 else if(2:Int)=17 then(if lineIn c dest=false∨lineIn c els=false then 15 else numsP c [a])else if(2:Int)=18 then unlessP (decide (varT c a=c.ret.t)) 7 else plainP m c ⟨2,d,a,b,f,n,sign,args,mode,dest,els,pos⟩)=plainP m c ⟨2,d,a,b,f,n,sign,args,mode,dest,els,pos⟩from rfl,e]
  simp only[Md1.av,Cd1.av,In1.av,ints,List.map_cons,List.map_nil,rowI,writesP,show hasD 2=true from rfl,if_true,numsP,List.all_cons,List.all_nil,Bool.and_true]at hr hwr hh2 hh1 ⊢
  cases hph1:(varT c d).ptr<;>rw[hph1]at h1<;>simp(maxSteps:=9^9)(disch:=first|(intros;contradiction)|omega)only[go_sem,hwr,hr,hh2,hh1,h1,h10,u1,u0]<;>rfl
 ·have hd:=hvd (by decide)
  rw[hd]at hh1;have h1:=varT_at (inV_iff.1 hd)
  have h10:=(inV_iff.1 hd).1
  have ha:=hva (by decide)
  have h2:=varT_at (inV_iff.1 ha)
  have h20:=(inV_iff.1 ha).1
  have e:plainP m c ⟨3,d,a,b,f,n,sign,args,mode,dest,els,pos⟩=numsP c [d,a]:=rfl
  rw[show(if(3:Int)=15 then callP m c ⟨3,d,a,b,f,n,sign,args,mode,dest,els,pos⟩else if(3:Int)=16 then unlessP (lineIn c dest) 15 else if(3:Int)=17 then(if lineIn c dest=false∨lineIn c els=false then 15 else numsP c [a])else if(3:Int)=18 then unlessP (decide (varT c a=c.ret.t)) 7 else plainP m c ⟨3,d,a,b,f,n,sign,args,mode,dest,els,pos⟩)=plainP m c ⟨3,d,a,b,f,n,sign,args,mode,dest,els,pos⟩from rfl,e]
  simp only[Md1.av,Cd1.av,In1.av,ints,List.map_cons,List.map_nil,rowI,writesP,show hasD 3=true from rfl,if_true,numsP,List.all_cons,List.all_nil,Bool.and_true]at hr hwr hh2 hh1 ⊢
  cases hph1:(varT c d).ptr<;>rw[hph1]at h1
  rotate_left
  ·simp(maxSteps:=9^9)(disch:=first|(intros;contradiction)|omega)only[go_sem,hwr,hr,hh2,hh1,h1,h10,h2,h20,u1,u0]<;>rfl
  cases hph2:(varT c a).ptr<;>rw[hph2]at h2<;>simp(maxSteps:=9^9)(disch:=first|(intros;contradiction)|omega)only[go_sem,hwr,hr,hh2,hh1,h1,h10,h2,h20,u1,u0]<;>rfl
 ·have hd:=hvd (by decide)
  rw[hd]at hh1;have h1:=varT_at (inV_iff.1 hd)
  have h10:=(inV_iff.1 hd).1
  have e:plainP m c ⟨5,d,a,b,f,n,sign,args,mode,dest,els,pos⟩=numsP c [d]:=rfl
  rw[show(if(5:Int)=15 then callP m c ⟨5,d,a,b,f,n,sign,args,mode,dest,els,pos⟩else if(5:Int)=16 then unlessP (lineIn c dest) 15 else if(5:Int)=17 then(if lineIn c dest=false∨lineIn c els=false then 15 else numsP c [a])else if(5:Int)=18 then unlessP (decide (varT c a=c.ret.t)) 7 else plainP m c ⟨5,d,a,b,f,n,sign,args,mode,dest,els,pos⟩)=plainP m c ⟨5,d,a,b,f,n,sign,args,mode,dest,els,pos⟩from rfl,e]
  simp only[Md1.av,Cd1.av,In1.av,ints,List.map_cons,List.map_nil,rowI,writesP,show hasD 5=true from rfl,if_true,numsP,List.all_cons,List.all_nil,Bool.and_true]at hr hwr hh2 hh1 ⊢
  cases hph1:(varT c d).ptr<;>rw[hph1]at h1<;>simp(maxSteps:=9^9)(disch:=first|(intros;contradiction)|omega)only[go_sem,hwr,hr,hh2,hh1,h1,h10,u1,u0]<;>rfl
 ·have ha:=hva (by decide)
  have h2:=varT_at (inV_iff.1 ha)
  have h20:=(inV_iff.1 ha).1
  have e:plainP m c ⟨6,d,a,b,f,n,sign,args,mode,dest,els,pos⟩=numsP c [a]:=rfl
  rw[show(if(6:Int)=15 then callP m c ⟨6,d,a,b,f,n,sign,args,mode,dest,els,pos⟩else if(6:Int)=16 then unlessP (lineIn c dest) 15 else if(6:Int)=17 then(if lineIn c dest=false∨lineIn c els=false then 15 else numsP c [a])else if(6:Int)=18 then unlessP (decide (varT c a=c.ret.t)) 7 else plainP m c ⟨6,d,a,b,f,n,sign,args,mode,dest,els,pos⟩)=plainP m c ⟨6,d,a,b,f,n,sign,args,mode,dest,els,pos⟩from rfl,e]
  simp only[Md1.av,Cd1.av,In1.av,ints,List.map_cons,List.map_nil,rowI,writesP,show hasD 6=false from rfl,Bool.false_eq_true,if_false,numsP,List.all_cons,List.all_nil,Bool.and_true]at hr hwr hh2 ⊢
  cases hph2:(varT c a).ptr<;>rw[hph2]at h2<;>simp(maxSteps:=9^9)(disch:=first|(intros;contradiction)|omega)only[go_sem,hwr,hr,hh2,h2,h20,u1,u0]<;>rfl
 ·have ha:=hva (by decide)
  have h2:=varT_at (inV_iff.1 ha)
  have h20:=(inV_iff.1 ha).1
  have e:plainP m c ⟨13,d,a,b,f,n,sign,args,mode,dest,els,pos⟩=unlessP (varT c a).ptr 7:=rfl
  rw[show(if(13:Int)=15 then callP m c ⟨13,d,a,b,f,n,sign,args,mode,dest,els,pos⟩else if(13:Int)=16 then unlessP (lineIn c dest) 15 else if(13:Int)=17 then(if lineIn c dest=false∨lineIn c els=false then 15 else numsP c [a])else if(13:Int)=18 then unlessP (decide (varT c a=c.ret.t)) 7 else plainP m c ⟨13,d,a,b,f,n,sign,args,mode,dest,els,pos⟩)=plainP m c ⟨13,d,a,b,f,n,sign,args,mode,dest,els,pos⟩from rfl,e]
  simp only[Md1.av,Cd1.av,In1.av,ints,List.map_cons,List.map_nil,rowI,writesP,show hasD 13=false from rfl,Bool.false_eq_true,if_false,numsP,List.all_cons,List.all_nil,Bool.and_true]at hr hwr hh2 ⊢
  cases hph2:(varT c a).ptr<;>rw[hph2]at h2<;>simp(maxSteps:=9^9)(disch:=first|(intros;contradiction)|omega)only[go_sem,hwr,hr,hh2,h2,h20,u1,u0]<;>rfl
end Go.Proofs.YticliodhjfednaaGreat
