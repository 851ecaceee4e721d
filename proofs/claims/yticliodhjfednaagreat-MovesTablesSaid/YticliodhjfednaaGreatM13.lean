/- bltype: which instructions may be so. Conditions: none. -/
import Derived.Test.YticliodhjfednaaGreatM12
set_option linter.unusedSimpArgs false
set_option linter.unusedVariables false
namespace Go.Proofs.YticliodhjfednaaGreat
open Go Go.Ab
variable {ext:Sem'}
def tinstrP(m:Md1)(c:Cd1)(i:In1):Bool:=
 if i.op=9 then decide (modeAt i 0=clsAt c i.d)&&fitsP (modeAt i 0) (clsAt c i.a)
 else if i.op=10 then decide (modeAt i 0=clsAt c i.d)&&(decide (modeAt i 0=3)||changeP (clsAt c i.a))
 else if i.op=8 then changeP (clsAt c i.a)
 else if i.op=11 then changeP (clsAt c i.a)&&decide (clsAt c i.b=1)
 else if i.op=12 then decide (clsAt c i.d=1)
 else if i.op=13 then decide (clsAt c i.a=1)
 else if i.op=15 then tcallP m c i
 else if i.op=18 then tretP c i
 else true
theorem modeOk_len:∀ {l:List Ty1} {m:List Int},modeOk l m=true→m.length=l.length
 | [],[],_=>rfl
 | t::l,x::m,h=>by simp only[modeOk,Bool.and_eq_true]at h;simp[modeOk_len h.2]
 | [],_::_,h=>by cases h
 | _::_,[],h=>by cases h
theorem callP_zero{m:Md1}{c:Cd1}{i:In1}(h:callP m c i=0):∃ hf:i.f.toNat<m.funcs.length,0≤i.f∧i.args.length≤(m.funcs[i.f.toNat]'hf).vars.length:=by
 unfold callP at h;split at h
 ·cases h
 ·rename_i h1;have hf:i.f.toNat<m.funcs.length:=by omega
  rw[List.getElem?_eq_getElem hf]at h
  simp only at h
  split at h
  ·cases h
  ·exact⟨hf,by omega,by omega⟩
set_option maxHeartbeats 4000000 in
theorem tinstr_e(hx:TX ext)(m:Md1)(c:Cd1)(i:In1)(hl:i.args.length≤900)(hi:instrP m c i=0)(hm:modeOk (modesP c i) i.mode=true):G ext 55 [judgeA m c,i.av] []=some (.ret (.d (.bool (tinstrP m c i))),[]):=by
 obtain⟨hop,hu⟩:=instr_uses hi
 have hv:=uses_vars hu
 have hml:=modeOk_len hm
 rw[G_body hx.clear rfl Tryz.func55 rfl Tryz.results55 hv_55 rfl];unfold tinstrP;by_cases o9:i.op=9
 ·have hD:=hv.d (by rw[o9];decide)
  have hA:=hv.a (by rw[o9];decide)
  have hmd:=modeAt_at (i:=i) (k:=0) (by rw[hml];unfold modesP;rw[if_pos (.inl o9)];simp)
  have hc1:=class_e hx m c i.d hD
  have hc2:=class_e hx m c i.a hA
  have hf:=fits_e hx (modeAt i 0) (clsAt c i.a)
  rw[if_pos o9];have o9:=eq_true o9
  simp only[judgeA,In1.av,ints]at hc1 hc2 ⊢;by_cases e:modeAt i 0=clsAt c i.d
  ·rw[decide_eq_true e];have e:=eq_true e
   simp(maxSteps:=9^9)(disch:=first|(intros;contradiction)|omega)only[go_sem,o9,hmd,hc1,hc2,hf,e,decide_true,Bool.true_and]
  ·rw[decide_eq_false e];simp(maxSteps:=9^9)(disch:=first|(intros;contradiction)|omega)only[go_sem,o9,hmd,hc1,hc2,e,Bool.false_and]
 ·rw[if_neg o9];by_cases o10:i.op=10
  ·have hD:=hv.d (by rw[o10];decide)
   have hA:=hv.a (by rw[o10];decide)
   have hmd:=modeAt_at (i:=i) (k:=0) (by rw[hml];unfold modesP;rw[if_pos (.inr o10)];simp)
   have hc1:=class_e hx m c i.d hD
   have hc2:=class_e hx m c i.a hA
   have hf:=change_e hx (clsAt c i.a)
   rw[if_pos o10];have o10:=eq_true o10
   simp only[judgeA,In1.av,ints]at hc1 hc2 ⊢;by_cases e:modeAt i 0=clsAt c i.d
   ·rw[decide_eq_true e];have e:=eq_true e
    by_cases e3:modeAt i 0=3
    ·rw[decide_eq_true e3];have e3:=eq_true e3
     simp(maxSteps:=9^9)(disch:=first|(intros;contradiction)|omega)only[go_sem,o9,o10,hmd,hc1,hc2,e,e3,decide_true,Bool.true_and,Bool.true_or]
    ·rw[decide_eq_false e3];simp(maxSteps:=9^9)(disch:=first|(intros;contradiction)|omega)only[go_sem,o9,o10,hmd,hc1,hc2,hf,e,e3,decide_true,Bool.true_and,Bool.false_or]
   ·rw[decide_eq_false e];simp(maxSteps:=9^9)(disch:=first|(intros;contradiction)|omega)only[go_sem,o9,o10,hmd,hc1,hc2,e,Bool.false_and]
  ·rw[if_neg o10];by_cases o8:i.op=8
   ·have hA:=hv.a (by rw[o8];decide)
    have hc2:=class_e hx m c i.a hA
    have hf:=change_e hx (clsAt c i.a)
    rw[if_pos o8];have o8:=eq_true o8
    simp only[judgeA,In1.av,ints]at hc2 ⊢;simp(maxSteps:=9^9)(disch:=first|(intros;contradiction)|omega)only[go_sem,o9,o10,o8,hc2,hf]
   ·rw[if_neg o8];by_cases o11:i.op=11
    ·have hA:=hv.a (by rw[o11];decide)
     have hB:=hv.b (by rw[o11];decide)
     have hc2:=class_e hx m c i.a hA
     have hc3:=class_e hx m c i.b hB
     have hf:=change_e hx (clsAt c i.a)
     rw[if_pos o11];have o11:=eq_true o11
     simp only[judgeA,In1.av,ints]at hc2 hc3 ⊢
     cases hch:changeP (clsAt c i.a)<;>rw[hch]at hf<;>simp(maxSteps:=9^9)(disch:=first|(intros;contradiction)|omega)only[go_sem,o9,o10,o8,o11,hc2,hc3,hf,Bool.true_and,Bool.false_and]
    ·rw[if_neg o11];by_cases o12:i.op=12
     ·have hD:=hv.d (by rw[o12];decide)
      have hc1:=class_e hx m c i.d hD
      rw[if_pos o12];have o12:=eq_true o12
      simp only[judgeA,In1.av,ints]at hc1 ⊢;simp(maxSteps:=9^9)(disch:=first|(intros;contradiction)|omega)only[go_sem,o9,o10,o8,o11,o12,hc1]
     ·rw[if_neg o12];by_cases o13:i.op=13
      ·have hA:=hv.a (by rw[o13];decide)
       have hc1:=class_e hx m c i.a hA
       rw[if_pos o13];have o13:=eq_true o13
       simp only[judgeA,In1.av,ints]at hc1 ⊢;simp(maxSteps:=9^9)(disch:=first|(intros;contradiction)|omega)only[go_sem,o9,o10,o8,o11,o12,o13,hc1]
      ·rw[if_neg o13];by_cases o15:i.op=15
       ·have hD:=hv.d (by rw[o15];decide)
        have hcz:callP m c i=0:=by
         have h2:=hi
         unfold instrP at h2;rw[if_neg (by omega),if_neg (by rw[hu];decide),if_pos o15]at h2
         exact h2
        obtain⟨hf,h0,hg⟩:=callP_zero hcz
        have hlen:i.args.length≤i.mode.length:=by rw[hml];unfold modesP;rw[if_neg (by omega),if_neg (by omega),if_pos o15];simp
        have hc:=tcall_e hx m c i (by omega) hD (uses_args o15 hu) h0 hf hg hlen
        rw[if_pos o15];have o15:=eq_true o15
        simp only[judgeA,In1.av,ints]at hc ⊢;simp(maxSteps:=9^9)(disch:=first|(intros;contradiction)|omega)only[go_sem,o9,o10,o8,o11,o12,o13,o15,hc]
       ·rw[if_neg o15];by_cases o18:i.op=18
        ·have hA:=hv.a (by rw[o18];decide)
         have hc:=tret_e hx m c i hA (fun hp=>by rw[hml];unfold modesP;rw[if_neg (by omega),if_pos o18,if_pos hp];simp)
         rw[if_pos o18];have o18:=eq_true o18
         simp only[judgeA,In1.av,ints]at hc ⊢;simp(maxSteps:=9^9)(disch:=first|(intros;contradiction)|omega)only[go_sem,o9,o10,o8,o11,o12,o13,o15,o18,hc]
        ·rw[if_neg o18];simp only[judgeA,In1.av,ints];simp(maxSteps:=9^9)(disch:=first|(intros;contradiction)|omega)only[go_sem,o9,o10,o8,o11,o12,o13,o15,o18]
end Go.Proofs.YticliodhjfednaaGreat
