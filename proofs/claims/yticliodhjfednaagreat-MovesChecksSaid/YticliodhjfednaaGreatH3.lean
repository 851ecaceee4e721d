/- The document's bltype: what holds of an instruction; Check. Conditions: none. -/
import Derived.Test.YticliodhjfednaaGreatU1
import Derived.Test.YticliodhjfednaaGreatR8
set_option linter.unusedSimpArgs false
set_option linter.unusedVariables false
namespace Go.Proofs.YticliodhjfednaaGreat
open Go Go.Ab
variable {ext:Sem'}
theorem inV_lt{c:Cd1}{v:Int}(h:inV c v=true):0≤v∧v<((c.vars.map Vr1.row).length:Int):=by
 have:=inV_iff.1 h
 rw[List.length_map];exact⟨this.1,this.2⟩
set_option maxHeartbeats 4000000 in
theorem rhcall_e(hx:TX ext)(m:Md1)(c:Cd1)(i:In1)(o15:i.op=15)(hl:i.args.length≤1000)(hd:inV c i.d=true)(ha:∀ v,v∈i.args→inV c v=true)(h0:0≤i.f)(hf:i.f.toNat<m.funcs.length)(hg:i.args.length≤m.funcs[i.f.toNat].vars.length)(hml:i.args.length≤i.mode.length) :
  G ext 62 [m.av,c.av,i.av] []=some (.ret (.d (.bool (tcallP m c i))),[]):=by
 have hal:(i.args.map rowI).length=i.args.length:=List.length_map _
 have hr:=map_at (f:=Cd1.row) hf
 have hmf:(m.funcs.map Cd1.row).length=m.funcs.length:=List.length_map _
 have hf2:i.f<(m.funcs.length:Int):=by omega
 have hD:=clsAt_at hd
 obtain⟨hd0,hd1⟩:=inV_lt hd
 have o15:=eq_true o15
 have o1:(i.op=9)=False:=eq_false (by simp at o15;omega)
 have o2:(i.op=10)=False:=eq_false (by simp at o15;omega)
 have o3:(i.op=8)=False:=eq_false (by simp at o15;omega)
 have o4:(i.op=11)=False:=eq_false (by simp at o15;omega)
 have o5:(i.op=12)=False:=eq_false (by simp at o15;omega)
 have o6:(i.op=13)=False:=eq_false (by simp at o15;omega)
 rw[G_body hx.clear rfl Tryz.func62 rfl Tryz.results62 hv_62 rfl];unfold tcallP;rw[List.getElem?_eq_getElem hf]
 generalize m.funcs[i.f.toNat]=g at hr hg ⊢;simp only[Cd1.row]at hr;simp only[Md1.av,Cd1.av,In1.av,ints,Md1.fr];simp(maxSteps:=9^9)(disch:=first|(intros;contradiction)|omega)only[go_sem,hr,h0,hmf,hf2,o1,o2,o3,o4,o5,o6,o15]
 generalize hL:loopA _ _ _=L;apply range_upd hL (by simp(maxSteps:=9^9)(disch:=first|(intros;contradiction)|omega)only[go_sem]<;>rfl) i.args rowI (α:=Unit) (fun rest q _=>tcallL c i.args i.mode g.vars=tcallL c rest (i.mode.drop q) (g.vars.drop q)) (fun q _=>[(9,.d (.int .i64 (q:Int)))]) (fun _ _=>[]) () (by simp(maxSteps:=9^9)(disch:=first|(intros;contradiction)|omega)only[go_sem]<;>rfl) rfl ?_ ?_
 ·rintro a rest q _ q1 hlt3 hr3 hget hq hrest next ih
  clear hL hr;have hkv:q<g.vars.length:=by omega
  have hkm:q<i.mode.length:=by omega
  have hrm:=map_at (f:=rowI) hkm
  have hrv:=map_at (f:=Vr1.row) hkv
  have hvl:((g.vars.map Vr1.row).length:Int)=(g.vars.length:Int):=by rw[List.length_map]
  have hml2:((i.mode.map rowI).length:Int)=(i.mode.length:Int):=by rw[List.length_map]
  have hina:=ha a (List.mem_of_getElem? hget)
  obtain⟨ha0,ha1⟩:=inV_lt hina
  have hca:=clsAt_at hina
  have hq0:0≤(q:Int):=by omega
  have hq1:(q:Int)<(i.mode.length:Int):=by omega
  have hq2:(q:Int)<(g.vars.length:Int):=by omega
  rw[List.drop_eq_getElem_cons hkm,List.drop_eq_getElem_cons hkv]at q1;simp only[tcallL]at q1;have hfi:=rfits_e hx i.mode[q] (clsAt c a)
  generalize i.mode[q]=md at hrm hfi q1;generalize g.vars[q]=v at hrv q1;simp only[rowI,Vr1.row]at hr3 hrm hrv;by_cases e1:md=v.cls
  ·rw[if_neg (fun hh=>hh e1)]at q1
   have e1':=eq_true e1
   by_cases e2:md=0
   ·rw[if_neg (fun hh=>hh.1 e2)]at q1
    have e2':=eq_true e2
    simp(maxSteps:=9^9)(disch:=first|(intros;contradiction)|omega)only[go_sem,hlt3,hr3,hrm,hrv,hvl,hml2,hq0,hq1,hq2,hca,ha0,ha1,e1',e2',wrap64]
    exact ih () _ q1 (by simp(maxSteps:=9^9)(disch:=first|(intros;contradiction)|omega)only[go_sem]<;>rfl)
   ·have e2':=eq_false e2
    cases hfp:fitsP md (clsAt c a)with
    | true=>
     rw[hfp]at hfi q1;rw[if_neg (by simp)]at q1
     simp(maxSteps:=9^9)(disch:=first|(intros;contradiction)|omega)only[go_sem,hlt3,hr3,hrm,hrv,hvl,hml2,hq0,hq1,hq2,hca,ha0,ha1,e1',e2',hfi,wrap64]
     exact ih () _ q1 (by simp(maxSteps:=9^9)(disch:=first|(intros;contradiction)|omega)only[go_sem]<;>rfl)
    | false=>
     rw[hfp]at hfi q1;rw[if_pos ⟨e2,rfl⟩]at q1;rw[q1,Bool.false_and];simp(maxSteps:=9^9)(disch:=first|(intros;contradiction)|omega)only[go_sem,hlt3,hr3,hrm,hrv,hvl,hml2,hq0,hq1,hq2,hca,ha0,ha1,e1',e2',hfi]
  ·rw[if_pos e1]at q1;have e1':=eq_false e1
   rw[q1,Bool.false_and];simp(maxSteps:=9^9)(disch:=first|(intros;contradiction)|omega)only[go_sem,hlt3,hr3,hrm,hrv,hvl,hml2,hq0,hq1,hq2,hca,ha0,ha1,e1']
 ·rintro q _ q1 hlt3 hq next
  clear hL hr;have q1:tcallL c i.args i.mode g.vars=true:=by rw[q1];simp[tcallL]
  rw[q1,Bool.true_and];simp(maxSteps:=9^9)(disch:=first|(intros;contradiction)|omega)only[go_sem,hlt3,hD,hd0,hd1]
set_option maxHeartbeats 4000000 in
theorem rholds_e(hx:TX ext)(m:Md1)(c:Cd1)(i:In1)(hl:i.args.length≤900)(hi:instrP m c i=0)(hm:modeOk (modesP c i) i.mode=true):G ext 62 [m.av,c.av,i.av] []=some (.ret (.d (.bool (tinstrP m c i))),[]):=by
 obtain⟨hop,hu⟩:=instr_uses hi
 have hv:=uses_vars hu
 have hml:=modeOk_len hm
 by_cases o15:i.op=15
 ·have hD:=hv.d (by rw[o15];decide)
  have hcz:callP m c i=0:=by
   have h2:=hi
   unfold instrP at h2;rw[if_neg (by omega),if_neg (by rw[hu];decide),if_pos o15]at h2
   exact h2
  obtain⟨hf,h0,hg⟩:=callP_zero hcz
  have hlen:i.args.length≤i.mode.length:=by rw[hml];unfold modesP;rw[if_neg (by omega),if_neg (by omega),if_pos o15];simp
  have hc:=rhcall_e hx m c i o15 (by omega) hD (uses_args o15 hu) h0 hf hg hlen
  rw[hc];unfold tinstrP;rw[if_neg (by omega),if_neg (by omega),if_neg (by omega),if_neg (by omega),if_neg (by omega),if_neg (by omega),if_pos o15]
 ·have o15:=eq_false o15
  rw[G_body hx.clear rfl Tryz.func62 rfl Tryz.results62 hv_62 rfl];unfold tinstrP;simp only[Md1.av,Cd1.av,In1.av,ints,Md1.fr];by_cases o9:i.op=9
  ·have hD:=hv.d (by rw[o9];decide)
   have hA:=hv.a (by rw[o9];decide)
   have hm0:0<i.mode.length:=by rw[hml];unfold modesP;rw[if_pos (.inl o9)];simp
   have hmd:=modeAt_at (i:=i) (k:=0) hm0
   have hm1:(0:Int)<((i.mode.map rowI).length:Int):=by rw[List.length_map];omega
   have hc1:=clsAt_at hD
   have hc2:=clsAt_at hA
   obtain⟨d0,d1⟩:=inV_lt hD
   obtain⟨a0,a1⟩:=inV_lt hA
   have hf:=rfits_e hx (modeAt i 0) (clsAt c i.a)
   rw[if_pos o9];have o10':(i.op=10)=False:=eq_false (by omega)
   have o9:=eq_true o9
   by_cases e:modeAt i 0=clsAt c i.d
   ·rw[decide_eq_true e];have e:=eq_true e
    cases hft:fitsP (modeAt i 0) (clsAt c i.a)<;>rw[hft]at hf<;>simp(maxSteps:=9^9)(disch:=first|(intros;contradiction)|omega)only[go_sem,o9,o10',hmd,hm1,hc1,hc2,d0,d1,a0,a1,hf,e,decide_true,Bool.true_and]
   ·rw[decide_eq_false e];simp(maxSteps:=9^9)(disch:=first|(intros;contradiction)|omega)only[go_sem,o9,hmd,hm1,hc1,hc2,d0,d1,a0,a1,e,Bool.false_and]
  ·rw[if_neg o9];by_cases o10:i.op=10
   ·have hD:=hv.d (by rw[o10];decide)
    have hA:=hv.a (by rw[o10];decide)
    have hm0:0<i.mode.length:=by rw[hml];unfold modesP;rw[if_pos (.inr o10)];simp
    have hmd:=modeAt_at (i:=i) (k:=0) hm0
    have hm1:(0:Int)<((i.mode.map rowI).length:Int):=by rw[List.length_map];omega
    have hc1:=clsAt_at hD
    have hc2:=clsAt_at hA
    obtain⟨d0,d1⟩:=inV_lt hD
    obtain⟨a0,a1⟩:=inV_lt hA
    have hf:=rchange_e hx (clsAt c i.a)
    rw[if_pos o10];have o10:=eq_true o10
    have o9:=eq_false o9
    by_cases e:modeAt i 0=clsAt c i.d
    ·rw[decide_eq_true e];have e:=eq_true e
     by_cases e3:modeAt i 0=3
     ·rw[decide_eq_true e3];have e3:=eq_true e3
      simp(maxSteps:=9^9)(disch:=first|(intros;contradiction)|omega)only[go_sem,o9,o10,hmd,hm1,hc1,hc2,d0,d1,a0,a1,e,e3,decide_true,Bool.true_and,Bool.true_or]
     ·rw[decide_eq_false e3];have e3:=eq_false e3
      simp(maxSteps:=9^9)(disch:=first|(intros;contradiction)|omega)only[go_sem,o9,o10,hmd,hm1,hc1,hc2,d0,d1,a0,a1,hf,e,e3,decide_true,Bool.true_and,Bool.false_or]
    ·rw[decide_eq_false e];simp(maxSteps:=9^9)(disch:=first|(intros;contradiction)|omega)only[go_sem,o9,o10,hmd,hm1,hc1,hc2,d0,d1,a0,a1,e,Bool.false_and]
   ·rw[if_neg o10];have o9:=eq_false o9
    have o10:=eq_false o10
    by_cases o8:i.op=8
    ·have hA:=hv.a (by rw[o8];decide)
     have hc2:=clsAt_at hA
     obtain⟨a0,a1⟩:=inV_lt hA
     have hf:=rchange_e hx (clsAt c i.a)
     rw[if_pos o8];have o8:=eq_true o8
     simp(maxSteps:=9^9)(disch:=first|(intros;contradiction)|omega)only[go_sem,o9,o10,o8,hc2,a0,a1,hf]
    ·rw[if_neg o8];have o8:=eq_false o8
     by_cases o11:i.op=11
     ·have hA:=hv.a (by rw[o11];decide)
      have hB:=hv.b (by rw[o11];decide)
      have hc2:=clsAt_at hA
      have hc3:=clsAt_at hB
      obtain⟨a0,a1⟩:=inV_lt hA
      obtain⟨b0,b1⟩:=inV_lt hB
      have hf:=rchange_e hx (clsAt c i.a)
      rw[if_pos o11];have o11:=eq_true o11
      cases hch:changeP (clsAt c i.a)<;>rw[hch]at hf<;>simp(maxSteps:=9^9)(disch:=first|(intros;contradiction)|omega)only[go_sem,o9,o10,o8,o11,hc2,hc3,a0,a1,b0,b1,hf,Bool.true_and,Bool.false_and]
     ·rw[if_neg o11];have o11:=eq_false o11
      by_cases o12:i.op=12
      ·have hD:=hv.d (by rw[o12];decide)
       have hc1:=clsAt_at hD
       obtain⟨d0,d1⟩:=inV_lt hD
       rw[if_pos o12];have o12:=eq_true o12
       simp(maxSteps:=9^9)(disch:=first|(intros;contradiction)|omega)only[go_sem,o9,o10,o8,o11,o12,hc1,d0,d1]
      ·rw[if_neg o12];have o12:=eq_false o12
       by_cases o13:i.op=13
       ·have hA:=hv.a (by rw[o13];decide)
        have hc1:=clsAt_at hA
        obtain⟨a0,a1⟩:=inV_lt hA
        rw[if_pos o13];have o13:=eq_true o13
        simp(maxSteps:=9^9)(disch:=first|(intros;contradiction)|omega)only[go_sem,o9,o10,o8,o11,o12,o13,hc1,a0,a1]
       ·rw[if_neg o13,if_neg (of_eq_false o15)];have o13:=eq_false o13
        by_cases o18:i.op=18
        ·have hA:=hv.a (by rw[o18];decide)
         obtain⟨a0,a1⟩:=inV_lt hA
         have hm0:c.ret.t.ptr=true→0<i.mode.length:=fun hp=>by rw[hml];unfold modesP;rw[if_neg (by simp at o9 o10;omega),if_pos o18,if_pos hp];simp
         have hc2:=clsAt_at hA
         have hf:=rfits_e hx (modeAt i 0) (clsAt c i.a)
         rw[if_pos o18];have o18:=eq_true o18
         unfold tretP
         cases hp:c.ret.t.ptr with
         | false=>
          simp(maxSteps:=9^9)(disch:=first|(intros;contradiction)|omega)only[go_sem,o9,o10,o8,o11,o12,o13,o15,o18,hp]
         | true=>
          have hmd:=modeAt_at (hm0 hp)
          have hm1:(0:Int)<((i.mode.map rowI).length:Int):=by rw[List.length_map];have:=hm0 hp;omega
          simp only[if_true];generalize modeAt i 0=md at *;generalize clsAt c i.a=cl at *;by_cases h3:md=c.ret.cls
          ·have h3':=eq_true h3
           rw[decide_eq_true h3,Bool.true_and];by_cases h1:md=2∧cl=1
           ·rw[if_pos h1];have h1a:=eq_true h1.1
            have h1b:=eq_true h1.2
            cases hft:fitsP md cl<;>rw[hft]at hf<;>simp(maxSteps:=9^9)(disch:=first|(intros;contradiction)|omega)only[go_sem,o9,o10,o8,o11,o12,o13,o15,o18,hp,hmd,hm1,hc2,a0,a1,h3',h1a,h1b,hf]
           ·rw[if_neg h1];by_cases h2:md=2
            ·have h1b:=eq_false fun q=>h1 ⟨h2,q⟩
             have h1a:=eq_true h2
             cases hft:fitsP md cl<;>rw[hft]at hf<;>simp(maxSteps:=9^9)(disch:=first|(intros;contradiction)|omega)only[go_sem,o9,o10,o8,o11,o12,o13,o15,o18,hp,hmd,hm1,hc2,a0,a1,h3',h1a,h1b,hf]
            ·have h1a:=eq_false h2
             cases hft:fitsP md cl<;>rw[hft]at hf<;>simp(maxSteps:=9^9)(disch:=first|(intros;contradiction)|omega)only[go_sem,o9,o10,o8,o11,o12,o13,o15,o18,hp,hmd,hm1,hc2,a0,a1,h3',h1a,hf]
          ·have h3':=eq_false h3
           rw[decide_eq_false h3,Bool.false_and];have he:(if md=2∧cl=1 then false else false)=false:=by split<;>rfl
           rw[he];simp(maxSteps:=9^9)(disch:=first|(intros;contradiction)|omega)only[go_sem,o9,o10,o8,o11,o12,o13,o15,o18,hp,hmd,hm1,hc2,a0,a1,h3']
        ·rw[if_neg o18];have o18:=eq_false o18
         simp(maxSteps:=9^9)(disch:=first|(intros;contradiction)|omega)only[go_sem,o9,o10,o8,o11,o12,o13,o15,o18]
end Go.Proofs.YticliodhjfednaaGreat
