/- bl: names, classes, what a result may be lent from. Conditions: none. -/
import Derived.Test.YticliodhjfednaaGreatM9
set_option linter.unusedSimpArgs false
set_option linter.unusedVariables false
namespace Go.Proofs.YticliodhjfednaaGreat
open Go Go.Ab
variable {ext:Sem'}
theorem nameL_e(hx:TX ext)(s:List UInt8)(hs:s.length≤9223372036854775807):G ext 70 [.d (.str s)] []=some (.ret (.d (.bool (isName s))),[]):=by
 by_cases h:s.length≤1048576
 ·exact name_e hx s h
 ·have e:isName s=false:=by unfold isName;rw[decide_eq_false (show ¬s.length≤40 by omega)];simp
  have h0:¬(s=([]:List UInt8)):=by rintro rfl;simp at h
  have c1:¬(s.length:Int)≤40:=by omega
  rw[e];rw[G_body hx.clear rfl Tryz.func70 rfl Tryz.results70 hv_70 rfl];simp(maxSteps:=9^9)(disch:=first|(intros;contradiction)|omega)only[go_sem,h0,c1,Bool.false_and,Bool.and_false]
theorem named1_e(hx:TX ext)(f:Fd1)(hf:f.name.length≤9223372036854775807):G ext 69 [f.av] []=some (.ret (.d (.bool (!isName f.name))),[]):=by
 have hn:=nameL_e hx f.name hf
 rw[G_body hx.clear rfl Tryz.func69 rfl Tryz.results69 hv_69 rfl];simp only[Fd1.av];simp(maxSteps:=9^9)(disch:=first|(intros;contradiction)|omega)only[go_sem,hn]
def fieldsBad(s:Sc1):Bool:=s.fields.any fun f=>!isName f.name
theorem named2_e(hx:TX ext)(s:Sc1)(hs:s.name.length≤9223372036854775807)(hfl:s.fields.length≤1000)(hf:∀ f,f∈s.fields→f.name.length≤9223372036854775807) :
  G ext 71 [s.av,.ptr 0 0] [.cells [.fn 69 [] []]]=some (.ret (.d (.bool (!isName s.name||fieldsBad s))),[.cells [.fn 69 [] []]]):=by
 have hn:=nameL_e hx s.name hs
 have hc:=containsFd10_e hx 69 (fun f:Fd1=>!isName f.name) s.fields (by omega) (fun f h=>by simpa using named1_e hx f (hf f h))
 rw[G_body hx.clear rfl Tryz.func71 rfl Tryz.results71 hv_71 rfl];simp only[Sc1.av,fieldsBad]
 cases h:isName s.name<;>rw[h]at hn<;>simp(maxSteps:=9^9)(disch:=first|(intros;contradiction)|omega)only[go_sem,hn,hc,Bool.not_false,Bool.not_true,Bool.true_or,Bool.false_or]
theorem named3_e(hx:TX ext)(c:Cd1)(hs:c.name.length≤9223372036854775807):G ext 73 [c.av] []=some (.ret (.d (.bool (!isName c.name))),[]):=by
 have hn:=nameL_e hx c.name hs
 rw[G_body hx.clear rfl Tryz.func73 rfl Tryz.results73 hv_73 rfl];simp only[Cd1.av];simp(maxSteps:=9^9)(disch:=first|(intros;contradiction)|omega)only[go_sem,hn]
def namedP(m:Md1):Bool:=!(m.structs.any fun s=>!isName s.name||fieldsBad s)&&!(m.funcs.any fun c=>!isName c.name)
theorem named_e(hx:TX ext)(m:Md1)(h1:m.structs.length≤1000)(h2:m.funcs.length≤1000)(hs:∀ s,s∈m.structs→s.name.length≤9223372036854775807∧s.fields.length≤1000∧∀ f,f∈s.fields→f.name.length≤9223372036854775807)(hc:∀ c,c∈m.funcs→c.name.length≤9223372036854775807) :
  G ext 40 [m.av] []=some (.ret (.d (.bool (namedP m))),[]):=by
 have hc1:=containsSc11_e hx 71 (fun s:Sc1=>!isName s.name||fieldsBad s) [.fn 69 [] []] rfl (fun _=>rfl) m.structs (by omega) (fun s h=>named2_e hx s (hs s h).1 (hs s h).2.1 (hs s h).2.2)
 have hc2:=containsCd10_e hx 73 (fun c:Cd1=>!isName c.name) m.funcs (by omega) (fun c h=>by simpa using named3_e hx c (hc c h))
 rw[G_body hx.clear rfl Tryz.func40 rfl Tryz.results40 hv_40 rfl];simp only[Md1.av,Md1.sr,Md1.fr,namedP]
 cases g:m.structs.any fun s=>!isName s.name||fieldsBad s<;>rw[g]at hc1<;>simp(maxSteps:=9^9)(disch:=first|(intros;contradiction)|omega)only[go_sem,hc1,hc2,Bool.not_false,Bool.not_true,Bool.true_and,Bool.false_and]
def classedP(t:Ty1)(cls:Int):Bool:=if t.ptr then decide (cls=1)||(decide (cls=2)||decide (cls=3))else decide (cls=0)
theorem classed_e(hx:TX ext)(t:Ty1)(cls:Int):G ext 77 [t.av,.d (.int .i64 cls)] []=some (.ret (.d (.bool (classedP t cls))),[]):=by
 rw[G_body hx.clear rfl Tryz.func77 rfl Tryz.results77 hv_77 rfl];simp only[Ty1.av];unfold classedP
 cases h:t.ptr
 ·simp(maxSteps:=9^9)(disch:=first|(intros;contradiction)|omega)only[go_sem,Bool.false_eq_true,if_false]
 ·by_cases h1:cls=1
  ·have h1:=eq_true h1
   simp(maxSteps:=9^9)(disch:=first|(intros;contradiction)|omega)only[go_sem,h1,if_true,decide_true,Bool.true_or]
  ·by_cases h2:cls=2
   ·have h2:=eq_true h2
    simp(maxSteps:=9^9)(disch:=first|(intros;contradiction)|omega)only[go_sem,h1,h2,if_true,decide_true,decide_false,Bool.true_or,Bool.false_or]
   ·simp(maxSteps:=9^9)(disch:=first|(intros;contradiction)|omega)only[go_sem,h1,h2,if_true,decide_false,Bool.false_or]
def lentP(v:Vr1):Bool:=v.t.ptr&&(decide (v.cls=2)||decide (v.cls=3))
theorem lent_e(hx:TX ext)(v:Vr1):G ext 116 [v.av] []=some (.ret (.d (.bool (lentP v))),[]):=by
 rw[G_body hx.clear rfl Tryz.func116 rfl Tryz.results116 hv_116 rfl];simp only[Vr1.av];unfold lentP
 cases h:v.t.ptr
 ·simp(maxSteps:=9^9)(disch:=first|(intros;contradiction)|omega)only[go_sem,Bool.false_and]
 ·by_cases h2:v.cls=2
  ·have h2:=eq_true h2
   simp(maxSteps:=9^9)(disch:=first|(intros;contradiction)|omega)only[go_sem,h2,decide_true,Bool.true_or,Bool.true_and]
  ·simp(maxSteps:=9^9)(disch:=first|(intros;contradiction)|omega)only[go_sem,h2,decide_false,Bool.false_or,Bool.true_and]
def fromL(c:Cd1):List Int→Int→Bool
 | [],_=>true
 | n::l,last=>if n≤last∨c.params≤n then false else if lentP ((c.vars[n.toNat]?).getD ⟨⟨false,[]⟩,0⟩)=false then false else fromL c l n
def fromP(c:Cd1):Bool:=fromL c c.frm (-1)&&(decide (c.frm=[])||lentP c.ret)
set_option maxHeartbeats 1000000 in
theorem from_e(hx:TX ext)(c:Cd1)(hl:c.frm.length≤1000)(hp:c.params≤c.vars.length):G ext 78 [c.av] []=some (.ret (.d (.bool (fromP c))),[]):=by
 have hfl:(c.frm.map rowI).length=c.frm.length:=List.length_map _
 rw[G_body hx.clear rfl Tryz.func78 rfl Tryz.results78 hv_78 rfl];simp only[Cd1.av,ints];simp(maxSteps:=9^9)(disch:=first|(intros;contradiction)|omega)only[go_sem]
 generalize hL:loopA _ _ _=L
 apply loop_post hL (fun x:Nat×Int=>x.1≤c.frm.length∧-1≤x.2∧fromL c c.frm (-1)=fromL c (c.frm.drop x.1) x.2) (fun x=>c.frm.length-x.1)
  (fun x=>⟨[(0,.agg [.d (.str c.name),.d (.int .i64 c.params),.d (.sl (c.vars.map Vr1.row)),.d (.bool c.ret.t.ptr),.d (.str c.ret.t.to),.d (.int .i64 c.ret.cls),.d (.sl (c.frm.map rowI)),.d (.sl (c.ins.map In1.row))]),(1,.ptr 0 0),(2,.d (.bool false)),(3,.d (.int .i64 x.2)),(5,.any),(7,.d (.sl (c.frm.map rowI))),(8,.d (.int .i64 (c.frm.map rowI).length)),(9,.d (.int .i64 x.1))],[],[.cells [.d (.str c.name),.d (.int .i64 c.params),.d (.sl (c.vars.map Vr1.row)),.d (.bool c.ret.t.ptr),.d (.str c.ret.t.to),.d (.int .i64 c.ret.cls),.d (.sl (c.frm.map rowI)),.d (.sl (c.ins.map In1.row))]]⟩)
  (0,-1) (by simp(maxSteps:=9^9)(disch:=first|(intros;contradiction)|omega)only[go_sem]<;>rfl) ⟨Nat.zero_le _,by simp,by simp⟩
 clear hL;rintro⟨i,last⟩ ⟨i1,i2,i3⟩ next ih
 simp only at i1 i2 i3 ih ⊢
 by_cases h:i<c.frm.length
 ·have hlt:(i:Int)<((c.frm.map rowI).length:Int):=by omega
  have hr:=map_at (f:=rowI) h
  rw[List.drop_eq_getElem_cons h]at i3;generalize c.frm[i]=n at hr i3;simp only[rowI]at hr;simp only[fromL]at i3;unfold fromP;by_cases h1:n≤last
  ·rw[if_pos (.inl h1)]at i3;rw[i3];simp(maxSteps:=9^9)(disch:=first|(intros;contradiction)|omega)only[go_sem,hlt,hr,h1,Bool.false_and]
  ·by_cases h2:c.params≤n
   ·rw[if_pos (.inr h2)]at i3;rw[i3];simp(maxSteps:=9^9)(disch:=first|(intros;contradiction)|omega)only[go_sem,hlt,hr,h1,h2,Bool.false_and]
   ·rw[if_neg (by omega)]at i3
    have hn0:0≤n:=by omega
    have hnl:n.toNat<c.vars.length:=by omega
    have hr2:=map_at (f:=Vr1.row) hnl
    rw[List.getElem?_eq_getElem hnl]at i3
    simp only[Option.getD_some]at i3;have hle:=lent_e hx c.vars[n.toNat]
    generalize c.vars[n.toNat]=v at hr2 hle i3;simp only[Vr1.row,Vr1.av]at hr2 hle
    cases hv:lentP v with
    | false=>
     rw[hv]at hle;rw[if_pos hv]at i3;rw[i3];simp(maxSteps:=9^9)(disch:=first|(intros;contradiction)|omega)only[go_sem,hlt,hr,h1,h2,hn0,hr2,hle,Bool.false_and]
    | true=>
     rw[hv]at hle;rw[if_neg (by rw[hv];decide)]at i3
     simp(maxSteps:=9^9)(disch:=first|(intros;contradiction)|omega)only[go_sem,hlt,hr,h1,h2,hn0,hr2,hle,wrap64]
     exact ih (i+1,n) _ ⟨h,by simp only;omega,i3⟩ (by simp only;omega) (by simp(maxSteps:=9^9)(disch:=first|(intros;contradiction)|omega)only[go_sem]<;>rfl)
 ·have hlt:¬(i:Int)<((c.frm.map rowI).length:Int):=by omega
  rw[List.drop_eq_nil_of_le (by omega)]at i3
  have i3:fromL c c.frm (-1)=true:=i3
  have hle:=lent_e hx c.ret
  simp only[Vr1.av]at hle;unfold fromP;rw[i3];by_cases h1:c.frm=[]
  ·have h2:((c.frm.map rowI).length:Int)=0:=by rw[h1];rfl
   rw[decide_eq_true h1];have h2:=eq_true h2
   simp(maxSteps:=9^9)(disch:=first|(intros;contradiction)|omega)only[go_sem,hlt,h2,decide_true,Bool.true_or,Bool.true_and]
  ·have h2:¬((c.frm.map rowI).length:Int)=0:=by
    have:=List.length_pos_iff.2 h1
    omega
   rw[decide_eq_false h1];simp(maxSteps:=9^9)(disch:=first|(intros;contradiction)|omega)only[go_sem,hlt,h2,hle,decide_false,Bool.false_or,Bool.true_and]
end Go.Proofs.YticliodhjfednaaGreat
