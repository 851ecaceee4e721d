/- The document's answer for ir: an instruction. Conditions: none. -/
import Derived.Test.YticliodhjfednaaGreatR3A
import Derived.Test.YticliodhjfednaaGreatR3B
import Derived.Test.YticliodhjfednaaGreatR3C
import Derived.Test.YticliodhjfednaaGreatR3D
set_option linter.unusedSimpArgs false
set_option linter.unusedVariables false
namespace Go.Proofs.YticliodhjfednaaGreat
open Go Go.Ab
variable {ext:Sem'}
set_option maxHeartbeats 8000000 in
theorem rinstr_e(hx:TX ext)(m:Md1)(hm:m.structs.length≤1000000)(c:Cd1)(i:In1)(hl:i.args.length≤900)(hk:∀ v,inV c v=true→knownT m (varT c v)):G ext 90 [m.av,c.av,i.av] []=some (.ret (.d (.int .i64 (instrP m c i))),[]):=by
 by_cases h1:i.op<1∨18<i.op
 ·have hwr:=rwrites_e hx i
  rw[G_body hx.clear rfl Tryz.func90 rfl Tryz.results90 hv_90 rfl];have e:instrP m c i=3:=by unfold instrP;rw[if_pos h1]
  rw[e];simp only[Md1.av,Cd1.av,In1.av,ints]at hwr ⊢;by_cases g1:i.op<1
  ·simp(maxSteps:=9^9)(disch:=first|(intros;contradiction)|omega)only[go_sem,hwr,g1]
  ·have g2:18<i.op:=by omega
   simp(maxSteps:=9^9)(disch:=first|(intros;contradiction)|omega)only[go_sem,hwr,g1,g2]
 ·cases hal:(usesP i).all (inV c)with
  | true=>
   have h:(i.op=1∨i.op=2∨i.op=3∨i.op=5∨i.op=6∨i.op=13)∨(i.op=4∨i.op=14∨i.op=9)∨(i.op=7∨i.op=8∨i.op=10∨i.op=11∨i.op=12)∨(i.op=15∨i.op=16∨i.op=17∨i.op=18):=by omega
   rcases h with h|h|h|h
   ·exact rinstrA_e hx m hm c i hl hk hal h
   ·exact rinstrB_e hx m hm c i hl hk hal h
   ·exact rinstrC_e hx m hm c i hl hk hal h
   ·exact rinstrD_e hx m hm c i hl hk hal h
  | false=>
   have hr:=rreads_e hx i (by omega)
   have hwr:=rwrites_e hx i
   have hrl:=reads_len i
   have hh1:=rhas_e hx c [i.d] (by simp)
   have hh2:=rhas_e hx c (readsP i) (by omega)
   have ge1:([i.d].all (inV c))=inV c i.d:=by simp
   rw[ge1]at hh1;rw[G_body hx.clear rfl Tryz.func90 rfl Tryz.results90 hv_90 rfl];have g1:¬i.op<1:=by omega
   have g2:¬18<i.op:=by omega
   have e:instrP m c i=15:=by unfold instrP;rw[if_neg h1,if_pos hal]
   rw[e];simp only[usesP,List.all_append]at hal;simp only[Md1.av,Cd1.av,In1.av,ints,List.map_cons,List.map_nil,rowI]at hr hwr hh1 hh2 ⊢
   cases hD:hasD i.op with
   | false=>
    rw[hD]at hwr hal;simp only[Bool.false_eq_true,if_false,List.all_nil,Bool.and_true]at hal;rw[hal]at hh2;simp(maxSteps:=9^9)(disch:=first|(intros;contradiction)|omega)only[go_sem,hwr,g1,g2,hr,hh2]
   | true=>
    rw[hD]at hwr hal;simp only[if_true,List.all_cons,List.all_nil,Bool.and_true]at hal;simp only[writesP,hD,if_true]at hwr
    cases hiv:inV c i.d with
    | false=>
     rw[hiv]at hh1;simp(maxSteps:=9^9)(disch:=first|(intros;contradiction)|omega)only[go_sem,hwr,g1,g2,hr,hh1]
    | true=>
     rw[hiv,Bool.and_true]at hal;rw[hiv]at hh1;rw[hal]at hh2;simp(maxSteps:=9^9)(disch:=first|(intros;contradiction)|omega)only[go_sem,hwr,g1,g2,hr,hh1,hh2]
end Go.Proofs.YticliodhjfednaaGreat
