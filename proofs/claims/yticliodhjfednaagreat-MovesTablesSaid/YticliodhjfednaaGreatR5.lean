/- The document's answer for ir: which programs are right. Conditions: none. -/
import Derived.Test.YticliodhjfednaaGreatR3
import Derived.Test.YticliodhjfednaaGreatR4
set_option linter.unusedSimpArgs false
set_option linter.unusedVariables false
namespace Go.Proofs.YticliodhjfednaaGreat
open Go Go.Ab
variable {ext:Sem'}
set_option maxHeartbeats 8000000 in
theorem rright_e(hx:TX ext)(m:Md1)(hm:LightM m):G ext 49 [m.av] []=some (.ret (.d (.int .i64 (rightP m))),[]):=by
 have hsl:(m.structs.map Sc1.row).length=m.structs.length:=List.length_map _
 have hcl:(m.funcs.map Cd1.row).length=m.funcs.length:=List.length_map _
 have hs40:=hm.structs
 have hf70:=hm.funcs
 have htw:=rtwice_e hx m hm.structs hm.funcs (fun s hs=>by have:=(hm.fields s hs).1;omega)
 have hun:=runknown_e hx m hm.structs hm.funcs (fun s hs=>by have:=(hm.fields s hs).1;omega) (fun c hc=>by have:=(hm.vars c hc).1;omega)
 have hfu:=rfunc_e hx m (by omega) [109,97,105,110]
 have u1:=fun f=>rone1 hx f
 have u0:=fun f=>rone0 hx f
 have hins:=fun c i hl hk=>rinstr_e hx m (by omega) c i hl hk
 rw[G_body hx.clear rfl Tryz.func49 rfl Tryz.results49 hv_49 rfl];simp only[Md1.av,Md1.sr,Md1.fr,Cd1.av,In1.av]at htw hun hfu hins ⊢;by_cases h1:(30:Int)<((m.structs.map Sc1.row).length:Int)
 ·have e:rightP m=2:=by unfold rightP;rw[if_pos (by omega)]
  rw[e];simp(maxSteps:=9^9)(disch:=first|(intros;contradiction)|omega)only[go_sem,h1]
 ·by_cases h2:(60:Int)<((m.funcs.map Cd1.row).length:Int)
  ·have e:rightP m=2:=by unfold rightP;rw[if_pos (by omega)]
   rw[e];simp(maxSteps:=9^9)(disch:=first|(intros;contradiction)|omega)only[go_sem,h1,h2]
  ·have e:rightP m=if twiceP m then 6 else if(typesL m).all (knownP m)=false then 5 else if firstP (codeP m) m.funcs=0 then mainP m else firstP (codeP m) m.funcs:=by unfold rightP;rw[if_neg (by omega)]
   rw[e];clear e
   cases h3:twiceP m with
   | true=>
    rw[h3]at htw;rw[if_pos rfl];simp(maxSteps:=9^9)(disch:=first|(intros;contradiction)|omega)only[go_sem,h1,h2,htw]
   | false=>
    rw[h3]at htw;rw[if_neg (by decide)]
    cases h4:(typesL m).all (knownP m)with
    | false=>
     rw[h4,Bool.not_false]at hun;rw[if_pos rfl];simp(maxSteps:=9^9)(disch:=first|(intros;contradiction)|omega)only[go_sem,h1,h2,htw,hun]
    | true=>
     rw[h4,Bool.not_true]at hun;rw[if_neg (by decide)]
     have hkn:=fun c (hc:c∈m.funcs)=>known_all h4 hc
     simp(maxSteps:=9^9)(disch:=first|(intros;contradiction)|omega)only[go_sem,h1,h2,htw,hun]
     generalize hL:loopA _ _ _=L;apply range_upd hL (by simp(maxSteps:=9^9)(disch:=first|(intros;contradiction)|omega)only[go_sem]<;>rfl) m.funcs Cd1.row (α:=Unit) (fun rest k _=>firstP (codeP m) m.funcs=firstP (codeP m) rest) (fun k _=>[(3,.d (.int .i64 k))]) (fun _ _=>[]) () (by simp(maxSteps:=9^9)(disch:=first|(intros;contradiction)|omega)only[go_sem]<;>rfl) rfl ?_ ?_
     ·rintro c rest k _ i1 hlt hr hget hk _ next ih
      clear hL;have hmem:=List.mem_of_getElem? hget
      have hb:=hm.vars c hmem
      have hi:=hm.ins c hmem
      have hkc:=hkn c hmem
      have hvl:(c.vars.map Vr1.row).length=c.vars.length:=List.length_map _
      have hil:(c.ins.map In1.row).length=c.ins.length:=List.length_map _
      simp only[Cd1.row]at hr;simp only[firstP]at i1;by_cases g1:(300:Int)<((c.vars.map Vr1.row).length:Int)
      ·have e:codeP m c=2:=by unfold codeP;rw[if_pos (by omega)]
       rw[e,if_neg (by decide)]at i1
       rw[i1,if_neg (by decide)]
       simp(maxSteps:=9^9)(disch:=first|(intros;contradiction)|omega)only[go_sem,hlt,hr,g1]
      ·by_cases g2:((c.ins.map In1.row).length:Int)<1
       ·have e:codeP m c=2:=by unfold codeP;rw[if_pos (by omega)]
        rw[e,if_neg (by decide)]at i1
        rw[i1,if_neg (by decide)]
        simp(maxSteps:=9^9)(disch:=first|(intros;contradiction)|omega)only[go_sem,hlt,hr,g1,g2]
       ·by_cases g3:(3000:Int)<((c.ins.map In1.row).length:Int)
        ·omega
        ·by_cases g4:c.params<0
         ·have e:codeP m c=15:=by unfold codeP;rw[if_neg (by omega),if_pos (by omega)]
          rw[e,if_neg (by decide)]at i1
          rw[i1,if_neg (by decide)]
          simp(maxSteps:=9^9)(disch:=first|(intros;contradiction)|omega)only[go_sem,hlt,hr,g1,g2,g3,g4]
         ·by_cases g5:((c.vars.map Vr1.row).length:Int)<c.params
          ·have e:codeP m c=15:=by unfold codeP;rw[if_neg (by omega),if_pos (by omega)]
           rw[e,if_neg (by decide)]at i1
           rw[i1,if_neg (by decide)]
           simp(maxSteps:=9^9)(disch:=first|(intros;contradiction)|omega)only[go_sem,hlt,hr,g1,g2,g3,g4,g5]
          ·have e:codeP m c=if firstP (instrP m c) c.ins=0 then unlessP (decide (16≤lastOp c)) 15 else firstP (instrP m c) c.ins:=by unfold codeP;rw[if_neg (by omega),if_neg (by omega)]
           rw[e]at i1;clear e;simp(maxSteps:=9^9)(disch:=first|(intros;contradiction)|omega)only[go_sem,hlt,hr,g1,g2,g3,g4,g5]
           generalize hL:loopA _ _ _=L;apply range_upd hL (by simp(maxSteps:=9^9)(disch:=first|(intros;contradiction)|omega)only[go_sem]<;>rfl) c.ins In1.row (α:=Unit) (fun rest2 j _=>firstP (instrP m c) c.ins=firstP (instrP m c) rest2) (fun j _=>[(6,.d (.int .i64 j))]) (fun _ _=>[]) () (by simp(maxSteps:=9^9)(disch:=first|(intros;contradiction)|omega)only[go_sem]<;>rfl) rfl ?_ ?_
           ·rintro i rest2 j _ j1 hlt2 hr2 hget2 hj _ next2 ih2
            clear hL;have hie:=hins c i (by have:=(hi i (List.mem_of_getElem? hget2)).1;omega) hkc
            simp only[In1.row]at hr2;simp only[firstP]at j1;by_cases hz:instrP m c i=0
            ·rw[if_pos hz]at j1;rw[hz]at hie;simp(maxSteps:=9^9)(disch:=first|(intros;contradiction)|omega)only[go_sem,hlt2,hr2,hie,wrap64]
             exact ih2 () _ j1 (by simp(maxSteps:=9^9)(disch:=first|(intros;contradiction)|omega)only[go_sem]<;>rfl)
            ·rw[if_neg hz]at j1;rw[j1,if_neg hz,if_neg hz]at i1;rw[i1,if_neg hz];simp(maxSteps:=9^9)(disch:=first|(intros;contradiction)|omega)only[go_sem,hlt2,hr2,hie,hz]
           ·rintro j _ j1 hlt2 hj next2
            clear hL;have j1:firstP (instrP m c) c.ins=0:=j1
            rw[if_pos j1]at i1;have hn:c.ins.length-1<c.ins.length:=by omega
            have hr3:=map_at (f:=In1.row) hn
            have hlo:lastOp c=c.ins[c.ins.length-1].op:=by unfold lastOp;rw[List.getElem?_eq_getElem hn];rfl
            generalize c.ins[c.ins.length-1]=i at hr3 hlo;simp only[In1.row]at hr3;have hx1:(((c.ins.map In1.row).length:Int)-1).toNat=c.ins.length-1:=by omega
            have hx2:(0:Int)≤((c.ins.map In1.row).length:Int)-1:=by omega
            rw[hlo]at i1;by_cases hop:i.op<16
            ·rw[decide_eq_false (by omega)]at i1
             have i1:firstP (codeP m) m.funcs=15:=i1
             rw[i1,if_neg (by decide)]
             simp(maxSteps:=9^9)(disch:=first|(intros;contradiction)|omega)only[go_sem,hlt2,hx1,hx2,hr3,hop,wrap64]
            ·rw[decide_eq_true (by omega)]at i1
             simp(maxSteps:=9^9)(disch:=first|(intros;contradiction)|omega)only[go_sem,hlt2,hx1,hx2,hr3,hop,wrap64]
             exact ih () _ i1 (by simp(maxSteps:=9^9)(disch:=first|(intros;contradiction)|omega)only[go_sem]<;>rfl)
     ·rintro k _ i1 hlt hk next
      clear hL;have i1:firstP (codeP m) m.funcs=0:=i1
      rw[if_pos i1];have hfa:=@funcIx_at m [109,97,105,110]
      obtain⟨q,hqe⟩:∃ q,funcIx m [109,97,105,110]=q:=⟨_,rfl⟩
      rw[hqe]at hfu hfa;by_cases q1:q<0
      ·have e:mainP m=9:=by
        unfold mainP;rw[hqe];split
        ·rw[decide_eq_false (by omega)];rfl
        ·rfl
       rw[e];simp(maxSteps:=9^9)(disch:=first|(intros;contradiction)|omega)only[go_sem,hlt,hfu,q1,u1]
      ·have hq:=hfa (by omega)
       have hr:=map_at (f:=Cd1.row) hq
       have e:mainP m=unlessP (decide (0≤q)&&(decide (m.funcs[q.toNat].params=0)&&!m.funcs[q.toNat].ret.t.ptr)) 9:=by
        unfold mainP;rw[hqe,List.getElem?_eq_getElem hq]
       rw[e];generalize m.funcs[q.toNat]=c at hr;have q2:0≤q:=by omega
       have q3:max q 0=q:=by omega
       simp only[Cd1.row]at hr;rw[decide_eq_true q2];by_cases c1:c.params=0
       ·rw[decide_eq_true c1]
        cases c2:c.ret.t.ptr<;>rw[c2]at hr<;>simp(maxSteps:=9^9)(disch:=first|(intros;contradiction)|omega)only[go_sem,hlt,hfu,q1,q2,q3,hr,c1,u1,u0]<;>rfl
       ·rw[decide_eq_false c1];simp(maxSteps:=9^9)(disch:=first|(intros;contradiction)|omega)only[go_sem,hlt,hfu,q1,q2,q3,hr,c1,u1,u0]<;>rfl
end Go.Proofs.YticliodhjfednaaGreat
