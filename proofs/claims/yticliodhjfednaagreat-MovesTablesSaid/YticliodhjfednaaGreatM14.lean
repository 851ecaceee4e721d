/- bltype: whether each use of a pointer may be so. Conditions: none. -/
import Derived.Test.YticliodhjfednaaGreatM13
set_option linter.unusedSimpArgs false
set_option linter.unusedVariables false
namespace Go.Proofs.YticliodhjfednaaGreat
open Go Go.Ab
variable {ext:Sem'}
theorem formedC_zero{c:Cd1}(h:formedC c=0):(∀ v,v∈c.vars++[c.ret]→classedP v.t v.cls=true)∧fromP c=true∧∀ i,i∈c.ins→modeOk (modesP c i) i.mode=true:=by
 unfold formedC at h;split at h
 ·cases h
 ·rename_i h1;split at h
  ·cases h
  ·rename_i h2;split at h
   ·cases h
   ·rename_i h3;exact⟨fun v hv=>List.all_eq_true.1 (by simpa using h1) v hv,by simpa using h2,fun i hi=>List.all_eq_true.1 (by simpa using h3) i hi⟩
theorem formedP_zero{m:Md1}(h:formedP m=0):rightP m=0∧namedP m=true∧∀ c,c∈m.funcs→formedC c=0:=by
 unfold formedP at h;split at h
 ·rename_i h1;split at h
  ·rename_i h2;exact⟨h1,h2,fun c hc=>firstP_zero h c hc⟩
  ·cases h
 ·rename_i h1;exact absurd h h1
def badI(m:Md1)(c:Cd1):List In1→Nat→Option Nat
 | [],_=>none
 | i::l,k=>if tinstrP m c i then badI m c l (k+1)else some k
def badC(m:Md1):List Cd1→Nat→Option (Nat×Nat)
 | [],_=>none
 | c::l,f=>match badI m c c.ins 0 with
  | some k=>some (f,k)
  | none=>badC m l (f+1)
def diagA:Option (Nat×Nat)→AV
 | some (f,k)=>.agg [.d (.int .i64 22),.d (.int .i64 7),.d (.int .i64 (f+1:Nat)),.d (.int .i64 (k+1:Nat))]
 | none=>.agg [.d (.int .i64 0),.d (.int .i64 0),.d (.int .i64 0),.d (.int .i64 0)]
def checkA(m:Md1):AV:=if formedP m=0 then diagA (badC m m.funcs 0)else .agg [.d (.int .i64 22),.d (.int .i64 (formedP m)),.d (.int .i64 0),.d (.int .i64 0)]
set_option maxHeartbeats 4000000 in
theorem check_e(hx:TM ext)(m:Md1)(hm:LightM m)(hnm:∀ s,s∈m.structs→∀ f,f∈s.fields→f.name.length≤9223372036854775807):G ext 31 [m.av] []=some (.ret (checkA m),[]):=by
 have hcl:(m.funcs.map Cd1.row).length=m.funcs.length:=List.length_map _
 have hf70:=hm.funcs
 have hfo:=bformed_e hx m hm hnm
 rw[G_body hx.clear rfl Tryz.func31 rfl Tryz.results31 hv_31 rfl];unfold checkA;simp only[Md1.av,Md1.sr,Md1.fr]at hfo ⊢;by_cases h1:formedP m=0
 ·rw[if_pos h1];rw[h1]at hfo;obtain⟨hri,_,hforms⟩:=formedP_zero h1
  obtain⟨_,_,hcodes⟩:=right_codes hri
  simp(maxSteps:=9^9)(disch:=first|(intros;contradiction)|omega)only[go_sem,hfo]
  generalize hL:loopA _ _ _=L
  apply loop_post hL (fun k:Nat=>k≤m.funcs.length∧badC m m.funcs 0=badC m (m.funcs.drop k) k) (fun k=>m.funcs.length-k)
   (fun k=>⟨[(0,.agg [.d (.sl (m.structs.map Sc1.row)),.d (.sl (m.funcs.map Cd1.row))]),(1,.ptr 0 0),(2,.ptr 1 0),(3,.d (.int .i64 0)),(4,.any),(5,.any),(6,.any),(7,.any),(8,.any),(16,.d (.sl (m.funcs.map Cd1.row))),(17,.d (.int .i64 (m.funcs.map Cd1.row).length)),(18,.d (.int .i64 k)),(28,.any),(29,.any),(30,.any)],[],[.cells [.d (.sl (m.structs.map Sc1.row)),.d (.sl (m.funcs.map Cd1.row))],.cells [.d (.int .i64 0),.d (.int .i64 0),.d (.int .i64 0),.d (.int .i64 0)]]⟩)
   0 (by simp(maxSteps:=9^9)(disch:=first|(intros;contradiction)|omega)only[go_sem]<;>rfl) ⟨Nat.zero_le _,by simp⟩
  clear hL;rintro k ⟨k1,k2⟩ next ih
  by_cases hk:k<m.funcs.length
  ·have hlt:(k:Int)<((m.funcs.map Cd1.row).length:Int):=by omega
   have hr:=map_at (f:=Cd1.row) hk
   have hmem:=List.getElem_mem hk
   rw[List.drop_eq_getElem_cons hk]at k2;generalize m.funcs[k]=c at hr hmem k2;simp only[Cd1.row]at hr;simp only[badC]at k2;have hil:(c.ins.map In1.row).length=c.ins.length:=List.length_map _
   have hb:=(hm.vars c hmem).2.1
   have hins:∀ i,i∈c.ins→G ext 55 [judgeA m c,i.av] []=some (.ret (.d (.bool (tinstrP m c i))),[]):=fun i hi=>tinstr_e hx.toTX m c i (by have:=(hm.ins c hmem i hi).1;omega) ((code_ins (hcodes c hmem)).2.2.2 i hi) ((formedC_zero (hforms c hmem)).2.2 i hi)
   simp(maxSteps:=9^9)(disch:=first|(intros;contradiction)|omega)only[go_sem,hlt,hr]
   generalize hL:loopA _ _ _=L
   apply loop_post hL (fun q:Nat=>q≤c.ins.length∧badI m c c.ins 0=badI m c (c.ins.drop q) q) (fun q=>c.ins.length-q)
    (fun q=>⟨[(0,.agg [.d (.sl (m.structs.map Sc1.row)),.d (.sl (m.funcs.map Cd1.row))]),(1,.ptr 0 0),(2,.ptr 1 0),(3,.d (.int .i64 0)),(4,.d (.int .i64 k)),(5,.ptr 2 0),(6,.fn 55 [.agg [.d (.sl (m.structs.map Sc1.row)),.d (.sl (m.funcs.map Cd1.row)),.d (.str c.name),.d (.int .i64 c.params),.d (.sl (c.vars.map Vr1.row)),.d (.bool c.ret.t.ptr),.d (.str c.ret.t.to),.d (.int .i64 c.ret.cls),.d (ints c.frm),.d (.sl (c.ins.map In1.row))]] []),(7,.any),(8,.any),(16,.d (.sl (m.funcs.map Cd1.row))),(17,.d (.int .i64 (m.funcs.map Cd1.row).length)),(18,.d (.int .i64 k)),(28,.d (.sl (c.ins.map In1.row))),(29,.d (.int .i64 (c.ins.map In1.row).length)),(30,.d (.int .i64 q))],[],[.cells [.d (.sl (m.structs.map Sc1.row)),.d (.sl (m.funcs.map Cd1.row))],.cells [.d (.int .i64 0),.d (.int .i64 0),.d (.int .i64 0),.d (.int .i64 0)],.cells [.d (.str c.name),.d (.int .i64 c.params),.d (.sl (c.vars.map Vr1.row)),.d (.bool c.ret.t.ptr),.d (.str c.ret.t.to),.d (.int .i64 c.ret.cls),.d (ints c.frm),.d (.sl (c.ins.map In1.row))]]⟩)
    0 (by simp(maxSteps:=9^9)(disch:=first|(intros;contradiction)|omega)only[go_sem]<;>rfl) ⟨Nat.zero_le _,by simp⟩
   clear hL;rintro q ⟨q1,q2⟩ next2 ih2
   by_cases hq:q<c.ins.length
   ·have hlt2:(q:Int)<((c.ins.map In1.row).length:Int):=by omega
    have hr2:=map_at (f:=In1.row) hq
    have hie:=hins c.ins[q] (List.getElem_mem hq)
    rw[List.drop_eq_getElem_cons hq]at q2;generalize c.ins[q]=i at hr2 hie q2;simp only[In1.row]at hr2;simp only[judgeA,In1.av,Md1.sr,Md1.fr]at hie;simp only[badI]at q2
    cases hti:tinstrP m c i with
    | true=>
     rw[hti]at hie q2;simp only[if_true]at q2;simp(maxSteps:=9^9)(disch:=first|(intros;contradiction)|omega)only[go_sem,hlt2,hr2,hie,wrap64]
     exact ih2 (q+1) _ ⟨hq,q2⟩ (by omega) (by simp(maxSteps:=9^9)(disch:=first|(intros;contradiction)|omega)only[go_sem]<;>rfl)
    | false=>
     rw[hti]at hie q2;simp only[Bool.false_eq_true,if_false]at q2;rw[q2]at k2;simp only at k2
     rw[k2];simp only[diagA];simp(maxSteps:=9^9)(disch:=first|(intros;contradiction)|omega)only[go_sem,hlt2,hr2,hie,wrap64]
     rfl
   ·have hlt2:¬(q:Int)<((c.ins.map In1.row).length:Int):=by omega
    rw[List.drop_eq_nil_of_le (show c.ins.length≤q by omega)]at q2
    simp only[badI]at q2;rw[q2]at k2;simp only at k2
    simp(maxSteps:=9^9)(disch:=first|(intros;contradiction)|omega)only[go_sem,hlt2,wrap64]
    exact ih (k+1) _ ⟨hk,k2⟩ (by omega) (by simp(maxSteps:=9^9)(disch:=first|(intros;contradiction)|omega)only[go_sem]<;>rfl)
  ·have hlt:¬(k:Int)<((m.funcs.map Cd1.row).length:Int):=by omega
   rw[List.drop_eq_nil_of_le (by omega)]at k2
   rw[k2];simp only[badC,diagA];simp(maxSteps:=9^9)(disch:=first|(intros;contradiction)|omega)only[go_sem,hlt]
 ·rw[if_neg h1];simp(maxSteps:=9^9)(disch:=first|(intros;contradiction)|omega)only[go_sem,hfo,h1]
end Go.Proofs.YticliodhjfednaaGreat
