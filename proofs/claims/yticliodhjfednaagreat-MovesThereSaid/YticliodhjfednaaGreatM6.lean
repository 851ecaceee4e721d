/- ir: an instruction, a function. Conditions: none. -/
import Derived.Test.YticliodhjfednaaGreatM5
set_option linter.unusedSimpArgs false
set_option linter.unusedVariables false
namespace Go.Proofs.YticliodhjfednaaGreat
open Go Go.Ab
variable {ext:Sem'}
def lineIn(c:Cd1)(n:Int):Bool:=decide (0≤n∧n<c.ins.length)
def usesP(i:In1):List Int:=readsP i++if hasD i.op then [i.d]else []
def instrP(m:Md1)(c:Cd1)(i:In1):Int:=
 if i.op<1∨18<i.op then 3
 else if(usesP i).all (inV c)=false then 15
 else if i.op=15 then callP m c i
 else if i.op=16 then unlessP (lineIn c i.to) 15
 else if i.op=17 then(if lineIn c i.to=false∨lineIn c i.els=false then 15 else numsP c [i.a])
 else if i.op=18 then unlessP (decide (varT c i.a=c.ret.t)) 7
 else plainP m c i
theorem uses_vars{c:Cd1}{i:In1}(h:(usesP i).all (inV c)=true):VarsIn c i:=by
 simp only[usesP,readsP,List.all_append,Bool.and_eq_true]at h;refine⟨fun hd=>?_,fun ha=>?_,fun hb=>?_⟩
 ·have:=h.2;rw[hd]at this;simpa using this
 ·have:=h.1.1.1;rw[ha]at this;simpa using this
 ·have:=h.1.1.2;rw[hb]at this;simpa using this
theorem uses_args{c:Cd1}{i:In1}(ho:i.op=15)(h:(usesP i).all (inV c)=true):∀ v,v∈i.args→inV c v=true:=by
 simp only[usesP,readsP,List.all_append,Bool.and_eq_true,ho,if_true]at h;intro v hv;exact List.all_eq_true.1 h.1.2 v hv
theorem wordP_nil{op:Int}:(wordP op=[])↔(op<1∨18<op):=by
 unfold wordP;constructor
 ·intro h;by_cases h1:1≤op∧op≤18
  ·rw[if_pos h1]at h;have h2:op=1∨op=2∨op=3∨op=4∨op=5∨op=6∨op=7∨op=8∨op=9∨op=10∨op=11∨op=12∨op=13∨op=14∨op=15∨op=16∨op=17∨op=18:=by omega
   rcases h2 with rfl|rfl|rfl|rfl|rfl|rfl|rfl|rfl|rfl|rfl|rfl|rfl|rfl|rfl|rfl|rfl|rfl|rfl<;>exact absurd h (by decide)
  ·omega
 ·intro h;rw[if_neg (by omega)]
theorem reads_len(i:In1):(readsP i).length≤i.args.length+2:=by
 unfold readsP
 cases hasA i.op<;>cases hasB i.op<;>by_cases h:i.op=15<;>simp[h]
set_option maxHeartbeats 4000000 in
theorem instr_e(hx:TM ext)(m:Md1)(hm:m.structs.length≤1000000)(c:Cd1)(i:In1)(hl:i.args.length≤900)(hk:∀ v,inV c v=true→knownT m (varT c v)):G ext 107 [judgeA m c,i.av] []=some (.ret (.d (.int .i64 (instrP m c i))),[]):=by
 have hw:=G_ext (hx.word i.op)
 have hr:=reads_e hx.toTX i (by omega)
 have hwr:=writes_e hx.toTX i
 have hrl:=reads_len i
 have hth:=there_e hx.toTX m c (usesP i) (by unfold usesP;cases hasD i.op<;>simp<;>omega)
 rw[G_body hx.clear rfl Tryz.func107 rfl Tryz.results107 hv_107 rfl];by_cases h1:i.op<1∨18<i.op
 ·have e:instrP m c i=3:=by unfold instrP;rw[if_pos h1]
  rw[e];rw[wordP_nil.2 h1]at hw;simp only[judgeA,In1.av]at *;simp(maxSteps:=9^9)(disch:=first|(intros;contradiction)|omega)only[go_sem,hw]
 ·have hwn:¬wordP i.op=[]:=fun hh=>h1 (wordP_nil.1 hh)
  have hfit:=fits_rowI (readsP i)
  have hroom2:room (((readsP i).map rowI).length+1) 8:=room_ints (by simp;omega)
  cases hal:(usesP i).all (inV c)with
  | false=>
   have e:instrP m c i=15:=by unfold instrP;rw[if_neg h1,if_pos hal]
   rw[e];rw[hal]at hth
   cases hD:hasD i.op with
   | false=>
    have hu:usesP i=readsP i:=by unfold usesP;rw[hD];simp
    rw[hu]at hth;rw[hD]at hwr;simp only[judgeA,In1.av,ints]at hw hr hwr hth ⊢;simp(maxSteps:=9^9)(disch:=first|(intros;contradiction)|omega)only[go_sem,hw,hwn,hr,hwr,hth]
   | true=>
    have hu:usesP i=readsP i++[i.d]:=by unfold usesP;rw[hD];simp
    rw[hu]at hth;rw[hD]at hwr;simp only[judgeA,In1.av,ints,List.map_append,List.map_cons,List.map_nil,rowI,writesP,hD,if_true]at hw hr hwr hth hfit hroom2 ⊢;simp(maxSteps:=9^9)(disch:=first|(intros;contradiction)|omega)only[go_sem,hw,hwn,hr,hwr,hth,hfit,hroom2]
  | true=>
   have hvars:=uses_vars hal
   have e:instrP m c i=if i.op=15 then callP m c i else if i.op=16 then unlessP (lineIn c i.to) 15 else if i.op=17 then(if lineIn c i.to=false∨lineIn c i.els=false then 15 else numsP c [i.a])else if i.op=18 then unlessP (decide (varT c i.a=c.ret.t)) 7 else plainP m c i:=by
    unfold instrP;rw[if_neg h1,if_neg (by rw[hal];decide)]
   rw[e];rw[hal]at hth;by_cases o15:i.op=15
   ·have hD:hasD i.op=true:=by rw[o15];decide
    have hu:usesP i=readsP i++[i.d]:=by unfold usesP;rw[hD];simp
    have hc:=call_e hx m c i (by omega) (hvars.d hD) (uses_args o15 hal)
    rw[hu]at hth;rw[hD]at hwr;rw[if_pos o15];have o15:=eq_true o15
    simp only[judgeA,In1.av,ints,List.map_append,List.map_cons,List.map_nil,rowI,writesP,hD,if_true]at hw hr hwr hth hfit hroom2 hc ⊢;simp(maxSteps:=9^9)(disch:=first|(intros;contradiction)|omega)only[go_sem,hw,hwn,hr,hwr,hth,hfit,hroom2,hc,o15]
   ·rw[if_neg o15];by_cases o16:i.op=16
    ·have hD:hasD i.op=false:=by rw[o16];decide
     have hu:usesP i=readsP i:=by unfold usesP;rw[hD];simp
     have hln:=line_e hx.toTX m c i.to
     have hun:=unless_e hx.toTX (lineIn c i.to) 15
     unfold lineIn at hun;rw[hu]at hth;rw[hD]at hwr;rw[if_pos o16];have o16:=eq_true o16
     simp only[judgeA,In1.av,ints,List.map_cons,List.map_nil,rowI,writesP,lineIn]at hw hr hwr hth hln ⊢;simp(maxSteps:=9^9)(disch:=first|(intros;contradiction)|omega)only[go_sem,hw,hwn,hr,hwr,hth,hln,hun,o15,o16]
    ·rw[if_neg o16];by_cases o17:i.op=17
     ·have hD:hasD i.op=false:=by rw[o17];decide
      have hu:usesP i=readsP i:=by unfold usesP;rw[hD];simp
      have hl1:=line_e hx.toTX m c i.to
      have hl2:=line_e hx.toTX m c i.els
      have hA:inV c i.a=true:=hvars.a (by rw[o17];decide)
      have hn:=numbers_e hx m c [i.a] (by simp) (by intro v hv;simp at hv;subst hv;exact hA)
      rw[hu]at hth;rw[hD]at hwr;rw[if_pos o17];have o17:=eq_true o17
      simp only[judgeA,In1.av,ints,List.map_cons,List.map_nil,rowI,writesP]at hw hr hwr hth hl1 hl2 hn ⊢;have e1:lineIn c i.to=decide (0≤i.to∧i.to<(c.ins.length:Int)):=rfl
      have e2:lineIn c i.els=decide (0≤i.els∧i.els<(c.ins.length:Int)):=rfl
      rw[←e1]at hl1;rw[←e2]at hl2;clear e1 e2
      cases g1:lineIn c i.to
      ·rw[g1]at hl1;rw[if_pos (.inl rfl)];simp(maxSteps:=9^9)(disch:=first|(intros;contradiction)|omega)only[go_sem,hw,hwn,hr,hwr,hth,hl1,o15,o16,o17]
      ·rw[g1]at hl1
       cases g2:lineIn c i.els
       ·rw[g2]at hl2;rw[if_pos (.inr rfl)];simp(maxSteps:=9^9)(disch:=first|(intros;contradiction)|omega)only[go_sem,hw,hwn,hr,hwr,hth,hl1,hl2,o15,o16,o17]
       ·rw[g2]at hl2;rw[if_neg (by decide)]
        simp(maxSteps:=9^9)(disch:=first|(intros;contradiction)|omega)only[go_sem,hw,hwn,hr,hwr,hth,hl1,hl2,hn,o15,o16,o17]
     ·rw[if_neg o17];by_cases o18:i.op=18
      ·have hD:hasD i.op=false:=by rw[o18];decide
       have hu:usesP i=readsP i:=by unfold usesP;rw[hD];simp
       have hA:inV c i.a=true:=hvars.a (by rw[o18];decide)
       have ht:=typ_e hx.toTX m c i.a (inV_iff.1 hA)
       have hu1:=unless_e hx.toTX true 7
       have hu2:=unless_e hx.toTX false 7
       rw[hu]at hth;rw[hD]at hwr;rw[if_pos o18];have o18:=eq_true o18
       simp only[judgeA,In1.av,ints,List.map_cons,List.map_nil,rowI,writesP,Ty1.av]at hw hr hwr hth ht ⊢;generalize varT c i.a=q at ht ⊢;obtain⟨cn,cp,cv,⟨⟨vp,vt⟩,vc⟩,cf,ci⟩:=c
       obtain⟨qp,qt⟩:=q
       simp only[Ty1.mk.injEq]at *;by_cases e1:qp=vp
       ·by_cases e2:qt=vt
        ·subst e1 e2;simp only[and_self,decide_true];simp(maxSteps:=9^9)(disch:=first|(intros;contradiction)|omega)only[go_sem,hw,hwn,hr,hwr,hth,ht,hu1,o15,o16,o17,o18,decide_true,Bool.and_self]
        ·subst e1;simp only[e2,and_false,decide_false];simp(maxSteps:=9^9)(disch:=first|(intros;contradiction)|omega)only[go_sem,hw,hwn,hr,hwr,hth,ht,hu2,e2,o15,o16,o17,o18]
       ·simp only[e1,false_and,decide_false];simp(maxSteps:=9^9)(disch:=first|(intros;contradiction)|omega)only[go_sem,hw,hwn,hr,hwr,hth,ht,hu2,e1,o15,o16,o17,o18]
      ·rw[if_neg o18];have hp:=plain_e hx m hm c i hvars hk (by omega)
       cases hD:hasD i.op with
       | false=>
        have hu:usesP i=readsP i:=by unfold usesP;rw[hD];simp
        rw[hu]at hth;rw[hD]at hwr;simp only[judgeA,In1.av,ints,List.map_cons,List.map_nil,rowI,writesP]at hw hr hwr hth hp ⊢;simp(maxSteps:=9^9)(disch:=first|(intros;contradiction)|omega)only[go_sem,hw,hwn,hr,hwr,hth,hp,o15,o16,o17,o18]
       | true=>
        have hu:usesP i=readsP i++[i.d]:=by unfold usesP;rw[hD];simp
        rw[hu]at hth;rw[hD]at hwr;simp only[judgeA,In1.av,ints,List.map_append,List.map_cons,List.map_nil,rowI,writesP,hD,if_true]at hw hr hwr hth hfit hroom2 hp ⊢;simp(maxSteps:=9^9)(disch:=first|(intros;contradiction)|omega)only[go_sem,hw,hwn,hr,hwr,hth,hfit,hroom2,hp,o15,o16,o17,o18]
end Go.Proofs.YticliodhjfednaaGreat
