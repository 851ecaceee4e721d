/- ir: which programs are right: instructions, functions. Conditions: none. -/
import Derived.Test.YticliodhjfednaaGreatM4
set_option linter.unusedSimpArgs false
set_option linter.unusedVariables false
namespace Go.Proofs.YticliodhjfednaaGreat
open Go Go.Ab
variable {ext:Sem'}
def insC(i:In1):List AV:=[.d (.int .i64 i.op),.d (.int .i64 i.d),.d (.int .i64 i.a),.d (.int .i64 i.b),.d (.int .i64 i.f),.d (.int .i64 i.n),.d (.str i.sign),.d (ints i.args),.d (ints i.mode),.d (.int .i64 i.to),.d (.int .i64 i.els),.d (.int .i64 i.pos.1),.d (.int .i64 i.pos.2)]
def codC(c:Cd1):List AV:=[.d (.str c.name),.d (.int .i64 c.params),.d (.sl (c.vars.map Vr1.row)),.d (.bool c.ret.t.ptr),.d (.str c.ret.t.to),.d (.int .i64 c.ret.cls),.d (ints c.frm),.d (.sl (c.ins.map In1.row))]
def argsP(c:Cd1):List Int→List Vr1→Bool
 | a::l,v::vs=>decide (varT c a=v.t)&&argsP c l vs
 | _,_=>true
def callP(m:Md1)(c:Cd1)(i:In1):Int:=
 if i.f<0∨(m.funcs.length:Int)≤i.f then 15 else
 match m.funcs[i.f.toNat]? with
 | none=>15
 | some g=>if(i.args.length:Int)≠g.params∨(g.vars.length:Int)<g.params then 7 else
  if argsP c i.args g.vars=false then 7 else unlessP (decide (varT c i.d=g.ret.t)) 7
set_option maxHeartbeats 1000000 in
theorem call_e(hx:TM ext)(m:Md1)(c:Cd1)(i:In1)(hl:i.args.length≤1000)(hd:inV c i.d=true)(ha:∀ v,v∈i.args→inV c v=true):G ext 133 [judgeA m c,i.av] []=some (.ret (.d (.int .i64 (callP m c i))),[]):=by
 have hfl:(m.funcs.map Cd1.row).length=m.funcs.length:=List.length_map _
 have hal:(i.args.map rowI).length=i.args.length:=List.length_map _
 rw[G_body hx.clear rfl Tryz.func133 rfl Tryz.results133 hv_133 rfl];unfold callP;simp only[judgeA,In1.av,Md1.fr,ints];by_cases h1:i.f<0
 ·rw[if_pos (.inl h1)];simp(maxSteps:=9^9)(disch:=first|(intros;contradiction)|omega)only[go_sem,h1]
 ·by_cases h2:((m.funcs.map Cd1.row).length:Int)≤i.f
  ·rw[if_pos (.inr (by omega))]
   simp(maxSteps:=9^9)(disch:=first|(intros;contradiction)|omega)only[go_sem,h1,h2]
  ·rw[if_neg (by omega)]
   have h3:0≤i.f:=by omega
   have hlt:i.f.toNat<m.funcs.length:=by omega
   have hr:=map_at (f:=Cd1.row) hlt
   rw[List.getElem?_eq_getElem hlt]
   generalize m.funcs[i.f.toNat]=g at hr ⊢;simp only[Cd1.row]at hr;simp only
   have hvl:(g.vars.map Vr1.row).length=g.vars.length:=List.length_map _
   by_cases h4:((i.args.map rowI).length:Int)=g.params
   ·by_cases h5:((g.vars.map Vr1.row).length:Int)<g.params
    ·rw[if_pos (.inr (by omega))]
     simp(maxSteps:=9^9)(disch:=first|(intros;contradiction)|omega)only[go_sem,h1,h2,h3,hr,h4,h5]
    ·rw[if_neg (by omega)]
     simp(maxSteps:=9^9)(disch:=first|(intros;contradiction)|omega)only[go_sem,h1,h2,h3,hr,h4,h5]
     generalize hL:loopA _ _ _=L
     apply loop_post hL (fun k:Nat=>k≤i.args.length∧argsP c i.args g.vars=argsP c (i.args.drop k) (g.vars.drop k)) (fun k=>i.args.length-k)
      (fun k=>⟨[(0,judgeA m c),(1,i.av),(2,.ptr 0 0),(3,.ptr 1 0),(4,.d (.int .i64 0)),(5,.ptr 2 0),(6,.any),(7,.any),(42,.d (ints i.args)),(43,.d (.int .i64 g.params)),(44,.d (.int .i64 k))],[],[.cells (judgeC m c),.cells (insC i),.cells (codC g)]⟩)
      0 (by simp only[judgeA,judgeC,In1.av,insC,codC,ints,Md1.fr];simp(maxSteps:=9^9)(disch:=first|(intros;contradiction)|omega)only[go_sem]<;>rfl) ⟨Nat.zero_le _,by simp⟩
     clear hL;rintro k ⟨k1,k2⟩ next ih
     simp only[judgeA,judgeC,In1.av,insC,codC,ints,Md1.fr]at ih ⊢;by_cases hk:k<i.args.length
     ·have hkv:k<g.vars.length:=by omega
      have hlt2:(k:Int)<g.params:=by omega
      have hra:=map_at (f:=rowI) hk
      have hrv:=map_at (f:=Vr1.row) hkv
      have hina:=ha i.args[k] (List.getElem_mem hk)
      have ht:=typ_e hx.toTX m c i.args[k] (inV_iff.1 hina)
      rw[List.drop_eq_getElem_cons hk,List.drop_eq_getElem_cons hkv]at k2;simp only[argsP]at k2;generalize i.args[k]=x at hra hina ht k2;generalize g.vars[k]=v at hrv k2;simp only[rowI,Vr1.row]at hra hrv;simp only[judgeA,Ty1.av,ints,Md1.fr]at ht;have hkn:(0:Int)≤(k:Int):=by omega
      obtain⟨⟨vp,vt⟩,vc⟩:=v
      generalize varT c x=q at ht k2;obtain⟨qp,qt⟩:=q
      simp only[Ty1.mk.injEq]at ht k2 hrv;by_cases e1:qp=vp
      ·by_cases e2:qt=vt
       ·subst e1 e2;simp only[and_self,decide_true,Bool.true_and]at k2;simp(maxSteps:=9^9)(disch:=first|(intros;contradiction)|omega)only[go_sem,hlt2,hra,hrv,ht,decide_true,Bool.and_self,wrap64]
        exact ih (k+1) _ ⟨hk,k2⟩ (by omega) (by simp(maxSteps:=9^9)(disch:=first|(intros;contradiction)|omega)only[go_sem]<;>rfl)
       ·subst e1;simp only[e2,and_false,decide_false,Bool.false_and]at k2;rw[if_pos k2];simp(maxSteps:=9^9)(disch:=first|(intros;contradiction)|omega)only[go_sem,hlt2,hra,hrv,ht,e2]
      ·simp only[e1,false_and,decide_false,Bool.false_and]at k2;rw[if_pos k2];simp(maxSteps:=9^9)(disch:=first|(intros;contradiction)|omega)only[go_sem,hlt2,hra,hrv,ht,e1]
     ·have hlt2:¬(k:Int)<g.params:=by omega
      have hnil:i.args.drop k=[]:=List.drop_eq_nil_of_le (by omega)
      rw[hnil]at k2;simp only[argsP]at k2;rw[if_neg (by rw[k2];decide)]
      have ht:=typ_e hx.toTX m c i.d (inV_iff.1 hd)
      have hu1:=unless_e hx.toTX true 7
      have hu2:=unless_e hx.toTX false 7
      simp only[judgeA,Ty1.av,ints,Md1.fr]at ht;generalize varT c i.d=q at ht;obtain⟨qp,qt⟩:=q
      obtain⟨gn,gpar,gvars,⟨⟨vp,vt⟩,vc⟩,gf,gi⟩:=g
      simp only[Ty1.mk.injEq]at *;by_cases e1:qp=vp
      ·by_cases e2:qt=vt
       ·subst e1 e2;simp only[and_self,decide_true];simp(maxSteps:=9^9)(disch:=first|(intros;contradiction)|omega)only[go_sem,hlt2,ht,hu1,decide_true,Bool.and_self]
       ·subst e1;simp only[e2,and_false,decide_false];simp(maxSteps:=9^9)(disch:=first|(intros;contradiction)|omega)only[go_sem,hlt2,ht,hu2,e2]
      ·simp only[e1,false_and,decide_false];simp(maxSteps:=9^9)(disch:=first|(intros;contradiction)|omega)only[go_sem,hlt2,ht,hu2,e1]
   ·rw[if_pos (.inl (by omega))]
    simp(maxSteps:=9^9)(disch:=first|(intros;contradiction)|omega)only[go_sem,h1,h2,h3,hr,h4]
def signs11:List (List UInt8):=[[43],[45],[42],[47],[37],[60],[60,61],[62],[62,61],[61,61],[33,61]]
def plainP(m:Md1)(c:Cd1)(i:In1):Int:=
 if i.op=1∨i.op=5 then numsP c [i.d]
 else if i.op=3 then numsP c [i.d,i.a]
 else if i.op=4 then signedP (numsP c [i.d,i.a,i.b]) i.sign signs11
 else if i.op=6 then numsP c [i.a]
 else if i.op=2 then unlessP (varT c i.d).ptr 7
 else if i.op=13 then unlessP (varT c i.a).ptr 7
 else if i.op=14 then signedP (unlessP (!(varT c i.d).ptr&&(varT c i.a).ptr) 7) i.sign [[61,61],[33,61]]
 else if i.op=9 then unlessP ((varT c i.a).ptr&&decide (varT c i.a=varT c i.d)) 7
 else if i.op=7∨i.op=10 then heapP m c i i.d (decide (i.op=10))
 else if i.op=8∨i.op=11 then heapP m c i i.b (decide (i.op=11))
 else if i.f<0∨(m.structs.length:Int)≤i.f then 15
 else unlessP (decide (varT c i.d=⟨true,((m.structs[i.f.toNat]?).map (·.name)).getD []⟩)) 7
structure VarsIn(c:Cd1)(i:In1):Prop where
 d:hasD i.op=true→inV c i.d=true
 a:hasA i.op=true→inV c i.a=true
 b:hasB i.op=true→inV c i.b=true
set_option maxHeartbeats 4000000 in
theorem plain_e(hx:TM ext)(m:Md1)(hm:m.structs.length≤1000000)(c:Cd1)(i:In1)(hv:VarsIn c i)(hk:∀ v,inV c v=true→knownT m (varT c v))(ho:1≤i.op∧i.op≤14):G ext 137 [judgeA m c,i.av] []=some (.ret (.d (.int .i64 (plainP m c i))),[]):=by
 obtain⟨op,d,a,b,f,n,sign,args,mode,dest,els,pos⟩:=i
 obtain⟨hvd,hva,hvb⟩:=hv
 simp only at hvd hva hvb ho
 have h:op=1∨op=2∨op=3∨op=4∨op=5∨op=6∨op=7∨op=8∨op=9∨op=10∨op=11∨op=12∨op=13∨op=14:=by omega
 rw[G_body hx.clear rfl Tryz.func137 rfl Tryz.results137 hv_137 rfl];rcases h with rfl|rfl|rfl|rfl|rfl|rfl|rfl|rfl|rfl|rfl|rfl|rfl|rfl|rfl
 ·have h1:=numbers_e hx m c [d] (by simp) (by intro v hv;simp at hv;subst hv;exact hvd (by decide))
  simp only[judgeA,In1.av,ints,List.map_cons,List.map_nil,rowI]at h1 ⊢;simp(maxSteps:=9^9)(disch:=first|(intros;contradiction)|omega)only[go_sem,h1]
  rfl
 ·have h1:=typ_e hx.toTX m c d (inV_iff.1 (hvd (by decide)))
  have h2:=unless_e hx.toTX (varT c d).ptr 7
  simp only[judgeA,In1.av,ints,List.map_cons,List.map_nil,rowI,Ty1.av]at h1 ⊢;simp(maxSteps:=9^9)(disch:=first|(intros;contradiction)|omega)only[go_sem,h1,h2]
  rfl
 ·have h1:=numbers_e hx m c [d,a] (by simp) (by intro v hv;simp at hv;rcases hv with rfl|rfl<;>first|exact hvd (by decide)|exact hva (by decide)|exact hvb (by decide))
  simp only[judgeA,In1.av,ints,List.map_cons,List.map_nil,rowI]at h1 ⊢;simp(maxSteps:=9^9)(disch:=first|(intros;contradiction)|omega)only[go_sem,h1]
  rfl
 ·have h1:=numbers_e hx m c [d,a,b] (by simp) (by intro v hv;simp at hv;rcases hv with rfl|rfl|rfl<;>first|exact hvd (by decide)|exact hva (by decide)|exact hvb (by decide))
  have h2:=signed_e hx (numsP c [d,a,b]) sign signs11 (by decide)
  simp only[judgeA,In1.av,ints,List.map_cons,List.map_nil,rowI,strs,signs11]at h1 h2 ⊢;simp(maxSteps:=9^9)(disch:=first|(intros;contradiction)|omega)only[go_sem,h1,h2]
  rfl
 ·have h1:=numbers_e hx m c [d] (by simp) (by intro v hv;simp at hv;subst hv;exact hvd (by decide))
  simp only[judgeA,In1.av,ints,List.map_cons,List.map_nil,rowI]at h1 ⊢;simp(maxSteps:=9^9)(disch:=first|(intros;contradiction)|omega)only[go_sem,h1]
  rfl
 ·have h1:=numbers_e hx m c [a] (by simp) (by intro v hv;simp at hv;subst hv;exact hva (by decide))
  simp only[judgeA,In1.av,ints,List.map_cons,List.map_nil,rowI]at h1 ⊢;simp(maxSteps:=9^9)(disch:=first|(intros;contradiction)|omega)only[go_sem,h1]
  rfl
 ·have h1:=heap_e hx m hm c ⟨7,d,a,b,f,n,sign,args,mode,dest,els,pos⟩ d false (hva (by decide)) (hvd (by decide)) (hk _ (hva (by decide)))
  have e:plainP m c ⟨7,d,a,b,f,n,sign,args,mode,dest,els,pos⟩=heapP m c ⟨7,d,a,b,f,n,sign,args,mode,dest,els,pos⟩ d false:=rfl
  rw[e];simp only[judgeA,In1.av,ints,List.map_cons,List.map_nil,rowI]at h1 ⊢;simp(maxSteps:=9^9)(disch:=first|(intros;contradiction)|omega)only[go_sem,h1]
 ·have h1:=heap_e hx m hm c ⟨8,d,a,b,f,n,sign,args,mode,dest,els,pos⟩ b false (hva (by decide)) (hvb (by decide)) (hk _ (hva (by decide)))
  have e:plainP m c ⟨8,d,a,b,f,n,sign,args,mode,dest,els,pos⟩=heapP m c ⟨8,d,a,b,f,n,sign,args,mode,dest,els,pos⟩ b false:=rfl
  rw[e];simp only[judgeA,In1.av,ints,List.map_cons,List.map_nil,rowI]at h1 ⊢;simp(maxSteps:=9^9)(disch:=first|(intros;contradiction)|omega)only[go_sem,h1]
 ·have h1:=typ_e hx.toTX m c d (inV_iff.1 (hvd (by decide)))
  have h3:=typ_e hx.toTX m c a (inV_iff.1 (hva (by decide)))
  have hu1:=unless_e hx.toTX true 7
  have hu2:=unless_e hx.toTX false 7
  have e:plainP m c ⟨9,d,a,b,f,n,sign,args,mode,dest,els,pos⟩=unlessP ((varT c a).ptr&&decide (varT c a=varT c d)) 7:=rfl
  rw[e];simp only[judgeA,In1.av,ints,List.map_cons,List.map_nil,rowI,Ty1.av]at h1 h3 ⊢;generalize varT c d=q at h1 ⊢;generalize varT c a=r at h3 ⊢;obtain⟨qp,qt⟩:=q
  obtain⟨rp,rt⟩:=r
  simp only[Ty1.mk.injEq]at h1 h3 ⊢
  cases rp with
  | false=>simp only[Bool.false_and];simp(maxSteps:=9^9)(disch:=first|(intros;contradiction)|omega)only[go_sem,h1,h3,hu2,Bool.false_and]
  | true=>
   cases qp with
   | false=>simp only[Bool.true_eq_false,false_and,decide_false,Bool.and_false];simp(maxSteps:=9^9)(disch:=first|(intros;contradiction)|omega)only[go_sem,h1,h3,hu2]
   | true=>
    by_cases e2:rt=qt
    ·subst e2;simp only[and_self,decide_true,Bool.and_true];simp(maxSteps:=9^9)(disch:=first|(intros;contradiction)|omega)only[go_sem,h1,h3,hu1]
    ·simp only[e2,and_false,decide_false,Bool.and_false];simp(maxSteps:=9^9)(disch:=first|(intros;contradiction)|omega)only[go_sem,h1,h3,hu2,e2]
 ·have h1:=heap_e hx m hm c ⟨10,d,a,b,f,n,sign,args,mode,dest,els,pos⟩ d true (hva (by decide)) (hvd (by decide)) (hk _ (hva (by decide)))
  have e:plainP m c ⟨10,d,a,b,f,n,sign,args,mode,dest,els,pos⟩=heapP m c ⟨10,d,a,b,f,n,sign,args,mode,dest,els,pos⟩ d true:=rfl
  rw[e];simp only[judgeA,In1.av,ints,List.map_cons,List.map_nil,rowI]at h1 ⊢;simp(maxSteps:=9^9)(disch:=first|(intros;contradiction)|omega)only[go_sem,h1]
 ·have h1:=heap_e hx m hm c ⟨11,d,a,b,f,n,sign,args,mode,dest,els,pos⟩ b true (hva (by decide)) (hvb (by decide)) (hk _ (hva (by decide)))
  have e:plainP m c ⟨11,d,a,b,f,n,sign,args,mode,dest,els,pos⟩=heapP m c ⟨11,d,a,b,f,n,sign,args,mode,dest,els,pos⟩ b true:=rfl
  rw[e];simp only[judgeA,In1.av,ints,List.map_cons,List.map_nil,rowI]at h1 ⊢;simp(maxSteps:=9^9)(disch:=first|(intros;contradiction)|omega)only[go_sem,h1]
 ·have h1:=typ_e hx.toTX m c d (inV_iff.1 (hvd (by decide)))
  have hu1:=unless_e hx.toTX true 7
  have hu2:=unless_e hx.toTX false 7
  have hsl:(m.structs.map Sc1.row).length=m.structs.length:=List.length_map _
  have e:plainP m c ⟨12,d,a,b,f,n,sign,args,mode,dest,els,pos⟩=if f<0∨(m.structs.length:Int)≤f then 15 else unlessP (decide (varT c d=⟨true,((m.structs[f.toNat]?).map (·.name)).getD []⟩)) 7:=rfl
  rw[e];simp only[judgeA,In1.av,ints,List.map_cons,List.map_nil,rowI,Ty1.av,Md1.sr]at h1 ⊢;by_cases g1:f<0
  ·rw[if_pos (.inl g1)];simp(maxSteps:=9^9)(disch:=first|(intros;contradiction)|omega)only[go_sem,g1]
  ·by_cases g2:((m.structs.map Sc1.row).length:Int)≤f
   ·rw[if_pos (.inr (by omega))]
    simp(maxSteps:=9^9)(disch:=first|(intros;contradiction)|omega)only[go_sem,g1,g2]
   ·rw[if_neg (by omega)]
    have g3:0≤f:=by omega
    have hlt:f.toNat<m.structs.length:=by omega
    have hr:=map_at (f:=Sc1.row) hlt
    rw[List.getElem?_eq_getElem hlt]
    simp only[Sc1.row,Option.map_some,Option.getD_some]at hr ⊢;generalize varT c d=q at h1 ⊢;obtain⟨qp,qt⟩:=q
    simp only[Ty1.mk.injEq]at h1 ⊢
    cases qp with
    | false=>simp only[Bool.false_eq_true,false_and,decide_false];simp(maxSteps:=9^9)(disch:=first|(intros;contradiction)|omega)only[go_sem,h1,g1,g2,g3,hr,hu2]
    | true=>
     by_cases e2:qt=m.structs[f.toNat].name
     ·simp only[e2,and_self,decide_true]at h1 ⊢;simp(maxSteps:=9^9)(disch:=first|(intros;contradiction)|omega)only[go_sem,h1,g1,g2,g3,hr,hu1]
     ·simp only[e2,and_false,decide_false];simp(maxSteps:=9^9)(disch:=first|(intros;contradiction)|omega)only[go_sem,h1,g1,g2,g3,hr,hu2,e2]
 ·have h1:=typ_e hx.toTX m c a (inV_iff.1 (hva (by decide)))
  have h2:=unless_e hx.toTX (varT c a).ptr 7
  simp only[judgeA,In1.av,ints,List.map_cons,List.map_nil,rowI,Ty1.av]at h1 ⊢;simp(maxSteps:=9^9)(disch:=first|(intros;contradiction)|omega)only[go_sem,h1,h2]
  rfl
 ·have h1:=typ_e hx.toTX m c d (inV_iff.1 (hvd (by decide)))
  have h3:=typ_e hx.toTX m c a (inV_iff.1 (hva (by decide)))
  have h2:=unless_e hx.toTX (!(varT c d).ptr&&(varT c a).ptr) 7
  have h4:=signed_e hx (unlessP (!(varT c d).ptr&&(varT c a).ptr) 7) sign [[61,61],[33,61]] (by decide)
  have e:plainP m c ⟨14,d,a,b,f,n,sign,args,mode,dest,els,pos⟩=signedP (unlessP (!(varT c d).ptr&&(varT c a).ptr) 7) sign [[61,61],[33,61]]:=rfl
  rw[e];simp only[judgeA,In1.av,ints,List.map_cons,List.map_nil,rowI,Ty1.av,strs]at h1 h2 h3 h4 ⊢
  cases hp:(varT c d).ptr<;>rw[hp]at h1 h2 h4<;>simp only[Bool.not_false,Bool.not_true,Bool.true_and,Bool.false_and]at h2 h4 ⊢<;>simp(maxSteps:=9^9)(disch:=first|(intros;contradiction)|omega)only[go_sem,h1,h2,h3,h4,Bool.true_and,Bool.false_and]
end Go.Proofs.YticliodhjfednaaGreat
