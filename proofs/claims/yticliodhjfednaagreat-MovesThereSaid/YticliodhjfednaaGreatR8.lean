/- The document's answer for bl: which programs are formed. Conditions: none. -/
import Derived.Test.YticliodhjfednaaGreatR5
import Derived.Test.YticliodhjfednaaGreatR7
set_option linter.unusedSimpArgs false
set_option linter.unusedVariables false
namespace Go.Proofs.YticliodhjfednaaGreat
open Go Go.Ab
variable {ext:Sem'}
set_option maxHeartbeats 8000000 in
theorem rformed_e(hx:TX ext)(m:Md1)(hm:LightM m):G ext 27 [m.av] []=some (.ret (.d (.int .i64 (formedP m))),[]):=by
 have hcl:(m.funcs.map Cd1.row).length=m.funcs.length:=List.length_map _
 have hs40:=hm.structs
 have hf70:=hm.funcs
 have hri:=rright_e hx m hm
 have hna:=rnamed_e hx m (by omega) (by omega) (fun s hs=>by have:=(hm.fields s hs).1;omega)
 have hcs:=fun(v:Vr1)=>rclassed_e hx v.t v.cls
 rw[G_body hx.clear rfl Tryz.func27 rfl Tryz.results27 hv_27 rfl];unfold formedP;simp only[Md1.av,Md1.sr,Md1.fr]at hri hna ⊢;by_cases h1:rightP m=0
 ·rw[if_pos h1];rw[h1]at hri;obtain⟨_,_,hcodes⟩:=right_codes h1
  cases h2:namedP m with
  | false=>
   rw[h2]at hna;simp only[Bool.false_eq_true,if_false];simp(maxSteps:=9^9)(disch:=first|(intros;contradiction)|omega)only[go_sem,hri,hna]
  | true=>
   rw[h2]at hna;simp only[if_true];simp(maxSteps:=9^9)(disch:=first|(intros;contradiction)|omega)only[go_sem,hri,hna]
   generalize hL:loopA _ _ _=L;apply range_upd hL (by simp(maxSteps:=9^9)(disch:=first|(intros;contradiction)|omega)only[go_sem]<;>rfl) m.funcs Cd1.row (α:=Unit) (fun rest k _=>firstP formedC m.funcs=firstP formedC rest) (fun k _=>[(4,.d (.int .i64 k))]) (fun _ _=>[]) () (by simp(maxSteps:=9^9)(disch:=first|(intros;contradiction)|omega)only[go_sem]<;>rfl) rfl ?_ ?_
   ·rintro c rest k _ i1 hlt hr hget hk _ next ih
    clear hL;have hmem:=List.mem_of_getElem? hget
    have hb:=hm.vars c hmem
    have hi:=hm.ins c hmem
    have hci:=code_ins (hcodes c hmem)
    have hfr:=rfrom_e hx c (by omega) hci.2.1
    have hmo:=fun i (hmi:i∈c.ins)=>rmoded_e hx c i (by have:=(hi i hmi).1;omega) (instr_uses (hci.2.2.2 i hmi)).2
    have hvl:(c.vars.map Vr1.row).length=c.vars.length:=List.length_map _
    have hil:(c.ins.map In1.row).length=c.ins.length:=List.length_map _
    have hcr:=hcs c.ret
    simp only[Cd1.row]at hr;simp only[Cd1.av,In1.av]at hfr hmo;rw[firstP]at i1
    have hbad7:((c.vars++[c.ret]).all fun v=>classedP v.t v.cls)=false→firstP formedC m.funcs=7:=by
     intro h;have e:formedC c=7:=by unfold formedC;rw[if_pos h]
     rw[i1,e,if_neg (by decide)]
    have hbad3:((c.vars++[c.ret]).all fun v=>classedP v.t v.cls)=true→(fromP c=false∨(c.ins.all fun i=>modeOk (modesP c i) i.mode)=false)→firstP formedC m.funcs=3:=by
     intro h h2
     have e:formedC c=3:=by
      unfold formedC;rw[if_neg (by rw[h];decide)]
      split
      ·rfl
      ·rename_i h3;rcases h2 with h2|h2
       ·exact absurd h2 h3
       ·rw[if_pos h2]
     rw[i1,e,if_neg (by decide)]
    have hgood:((c.vars++[c.ret]).all fun v=>classedP v.t v.cls)=true→fromP c=true→(c.ins.all fun i=>modeOk (modesP c i) i.mode)=true→firstP formedC m.funcs=firstP formedC rest:=by
     intro h h2 h3
     have e:formedC c=0:=by
      unfold formedC;rw[if_neg (by rw[h];decide),if_neg (by rw[h2];decide),if_neg (by rw[h3];decide)]
     rw[i1,e,if_pos rfl]
    have hsplit:((c.vars++[c.ret]).all fun v=>classedP v.t v.cls)=((c.vars.all fun v=>classedP v.t v.cls)&&classedP c.ret.t c.ret.cls):=by simp
    rw[hsplit]at hbad7 hbad3 hgood;clear hsplit hcodes hi hci i1;simp(maxSteps:=9^9)(disch:=first|(intros;contradiction)|omega)only[go_sem,hlt,hr]
    generalize hL:loopA _ _ _=L;apply range_upd hL (by simp(maxSteps:=9^9)(disch:=first|(intros;contradiction)|omega)only[go_sem]<;>rfl) c.vars Vr1.row (α:=Unit) (fun rest2 j _=>(c.vars.all fun v=>classedP v.t v.cls)=(rest2.all fun v=>classedP v.t v.cls)) (fun j _=>[(6,.d (.int .i64 j))]) (fun _ _=>[]) () (by simp(maxSteps:=9^9)(disch:=first|(intros;contradiction)|omega)only[go_sem]<;>rfl) rfl ?_ ?_
    ·rintro v rest2 j _ j1 hlt2 hr2 hget2 hj _ next2 ih2
     clear hL;simp only[Vr1.row]at hr2;rw[List.all_cons]at j1;have hc1:=hcs v
     cases b1:classedP v.t v.cls with
     | false=>
      rw[b1]at hc1 j1;rw[hbad7 (by rw[j1];rfl)]
      simp(maxSteps:=9^9)(disch:=first|(intros;contradiction)|omega)only[go_sem,hlt2,hr2,hc1]
     | true=>
      rw[b1]at hc1 j1;simp(maxSteps:=9^9)(disch:=first|(intros;contradiction)|omega)only[go_sem,hlt2,hr2,hc1,wrap64]
      exact ih2 () _ (by rw[j1];simp) (by simp(maxSteps:=9^9)(disch:=first|(intros;contradiction)|omega)only[go_sem]<;>rfl)
    ·rintro j _ j1 hlt2 hj next2
     clear hL;have j1:(c.vars.all fun v=>classedP v.t v.cls)=true:=j1
     rw[j1,Bool.true_and]at hbad7 hbad3 hgood
     cases b1:classedP c.ret.t c.ret.cls with
     | false=>
      rw[b1]at hcr;rw[hbad7 b1];simp(maxSteps:=9^9)(disch:=first|(intros;contradiction)|omega)only[go_sem,hlt2,hcr]
     | true=>
      rw[b1]at hcr
      cases b2:fromP c with
      | false=>
       rw[b2]at hfr;rw[hbad3 b1 (.inl b2)];simp(maxSteps:=9^9)(disch:=first|(intros;contradiction)|omega)only[go_sem,hlt2,hcr,hfr]
      | true=>
       rw[b2]at hfr;simp(maxSteps:=9^9)(disch:=first|(intros;contradiction)|omega)only[go_sem,hlt2,hcr,hfr]
       generalize hL:loopA _ _ _=L;apply range_upd hL (by simp(maxSteps:=9^9)(disch:=first|(intros;contradiction)|omega)only[go_sem]<;>rfl) c.ins In1.row (α:=Unit) (fun rest2 q _=>(c.ins.all fun i=>modeOk (modesP c i) i.mode)=(rest2.all fun i=>modeOk (modesP c i) i.mode)) (fun q _=>[(7,.d (.int .i64 q))]) (fun _ _=>[]) () (by simp(maxSteps:=9^9)(disch:=first|(intros;contradiction)|omega)only[go_sem]<;>rfl) rfl ?_ ?_
       ·rintro i rest3 q _ q1 hlt3 hr3 hget3 hq _ next3 ih3
        clear hL;have hm1:=hmo i (List.mem_of_getElem? hget3)
        simp only[In1.row]at hr3;rw[List.all_cons]at q1
        cases b3:modeOk (modesP c i) i.mode with
        | false=>
         rw[b3]at hm1 q1;rw[hbad3 b1 (.inr (by rw[q1];rfl))]
         simp(maxSteps:=9^9)(disch:=first|(intros;contradiction)|omega)only[go_sem,hlt3,hr3,hm1]
        | true=>
         rw[b3]at hm1 q1;simp(maxSteps:=9^9)(disch:=first|(intros;contradiction)|omega)only[go_sem,hlt3,hr3,hm1,wrap64]
         exact ih3 () _ (by rw[q1];simp) (by simp(maxSteps:=9^9)(disch:=first|(intros;contradiction)|omega)only[go_sem]<;>rfl)
       ·rintro q _ q1 hlt3 hq next3
        clear hL;simp(maxSteps:=9^9)(disch:=first|(intros;contradiction)|omega)only[go_sem,hlt3,wrap64]
        exact ih () _ (hgood b1 b2 q1) (by simp(maxSteps:=9^9)(disch:=first|(intros;contradiction)|omega)only[go_sem]<;>rfl)
   ·rintro k _ i1 hlt hk next
    have i1:firstP formedC m.funcs=0:=i1
    rw[i1];simp(maxSteps:=9^9)(disch:=first|(intros;contradiction)|omega)only[go_sem,hlt]
 ·rw[if_neg h1];simp(maxSteps:=9^9)(disch:=first|(intros;contradiction)|omega)only[go_sem,hri,h1]
end Go.Proofs.YticliodhjfednaaGreat
