/- ir: what is wrong with an instruction. Conditions: none. -/
import Derived.Test.YticliodhjfednaaGreatM3
set_option linter.unusedSimpArgs false
set_option linter.unusedVariables false
namespace Go.Proofs.YticliodhjfednaaGreat
open Go Go.Ab
variable {ext:Sem'}
def judgeC(m:Md1)(c:Cd1):List AV:=[.d m.sr,.d m.fr,.d (.str c.name),.d (.int .i64 c.params),.d (.sl (c.vars.map Vr1.row)),.d (.bool c.ret.t.ptr),.d (.str c.ret.t.to),.d (.int .i64 c.ret.cls),.d (ints c.frm),.d (.sl (c.ins.map In1.row))]
theorem inV_iff{c:Cd1}{v:Int}:inV c v=true↔0≤v∧v<c.vars.length:=by unfold inV;simp
theorem numbers1_e(hx:TM ext)(m:Md1)(c:Cd1)(v:Int)(h:inV c v=true):G ext 144 [.d (.int .i64 v),.ptr 0 0] [.cells (judgeC m c)]=some (.ret (.d (.bool (varT c v).ptr)),[.cells (judgeC m c)]):=by
 have ht:=typ_e hx.toTX m c v (inV_iff.1 h)
 rw[G_body hx.clear rfl Tryz.func144 rfl Tryz.results144 hv_144 rfl];simp only[judgeA,Ty1.av]at ht;simp only[judgeC];simp(maxSteps:=9^9)(disch:=first|(intros;contradiction)|omega)only[go_sem,ht]
def numsP(c:Cd1)(l:List Int):Int:=unlessP (l.all fun v=>!(varT c v).ptr) 7
theorem numbers_e(hx:TM ext)(m:Md1)(c:Cd1)(l:List Int)(hl:l.length≤1000000)(h:∀ v,v∈l→inV c v=true):G ext 135 [judgeA m c,.d (ints l)] []=some (.ret (.d (.int .i64 (numsP c l))),[]):=by
 have hc:=containsInt1_e hx.toTX 144 (fun v=>(varT c v).ptr) (judgeC m c) rfl (fun _=>rfl) l hl (fun v hv=>numbers1_e hx m c v (h v hv))
 have e:l.all (fun v=>!(varT c v).ptr)=!(l.any fun v=>(varT c v).ptr):=by rw[List.any_eq_not_all_not];simp
 have hu:=unless_e hx.toTX (!(l.any fun v=>(varT c v).ptr)) 7
 rw[G_body hx.clear rfl Tryz.func135 rfl Tryz.results135 hv_135 rfl];unfold numsP;rw[e];simp only[judgeA,judgeC,ints]at hc ⊢;simp(maxSteps:=9^9)(disch:=first|(intros;contradiction)|omega)only[go_sem,hc,hu]
def signedP(f:Int)(s:List UInt8)(l:List (List UInt8)):Int:=if f=0 then unlessP (decide (s∈l)) 3 else f
theorem signed_e(hx:TM ext)(f:Int)(s:List UInt8)(l:List (List UInt8))(hl:l.length≤1000):G ext 145 [.d (.int .i64 f),.d (.str s),.d (strs l)] []=some (.ret (.d (.int .i64 (signedP f s l))),[]):=by
 have hc:=contains_e hx.toTX l s hl
 have hu:=unless_e hx.toTX (decide (s∈l)) 3
 rw[G_body hx.clear rfl Tryz.func145 rfl Tryz.results145 hv_145 rfl];unfold signedP;by_cases h:f=0
 ·subst h;rw[if_pos rfl];simp only[strs]at hc ⊢;simp(maxSteps:=9^9)(disch:=first|(intros;contradiction)|omega)only[go_sem,hc,hu]
 ·rw[if_neg h];simp(maxSteps:=9^9)(disch:=first|(intros;contradiction)|omega)only[go_sem,h]
def knownT(m:Md1)(t:Ty1):Prop:=t.ptr=true→0≤structIx m t.to
theorem structIx_at{m:Md1}{name:List UInt8}(h:0≤structIx m name):(structIx m name).toNat<m.structs.length:=by
 unfold structIx idxN at h ⊢
 cases hi:idxP (fun s:Sc1=>decide (s.name=name)) m.structs with
 | none=>rw[hi]at h;simp at h
 | some i=>have:=(idxP_some hi).1;simpa using this
def structAt(m:Md1)(name:List UInt8):Sc1:=(m.structs[(structIx m name).toNat]?).getD ⟨[],[],(0,0)⟩
theorem structAt_row{m:Md1}{name:List UInt8}(h:0≤structIx m name):(m.structs.map Sc1.row)[(structIx m name).toNat]?=some [.str (structAt m name).name,.sl ((structAt m name).fields.map Fd1.row),.int .i64 (structAt m name).pos.1,.int .i64 (structAt m name).pos.2]:=by
 have hlt:=structIx_at h
 rw[map_at hlt];unfold structAt;rw[List.getElem?_eq_getElem hlt]
 rfl
def fieldP(m:Md1)(c:Cd1)(v f:Int):Ty1×Int:=
 if(varT c v).ptr then
  if f<0∨((structAt m (varT c v).to).fields.length:Int)≤f then(⟨false,[]⟩,15)
  else(((structAt m (varT c v).to).fields[f.toNat]?.map (·.t)).getD ⟨false,[]⟩,0)
 else(⟨false,[]⟩,7)
theorem field_e(hx:TM ext)(m:Md1)(hm:m.structs.length≤1000000)(c:Cd1)(v f:Int)(h:inV c v=true)(hk:knownT m (varT c v)):G ext 148 [judgeA m c,.d (.int .i64 v),.d (.int .i64 f)] []=some (.ret (.tuple [(fieldP m c v f).1.av,.d (.int .i64 (fieldP m c v f).2)]),[]):=by
 have ht:=typ_e hx.toTX m c v (inV_iff.1 h)
 have hs:=struct_e hx.toTX m hm (varT c v).to
 rw[G_body hx.clear rfl Tryz.func148 rfl Tryz.results148 hv_148 rfl];unfold fieldP;simp only[judgeA,Ty1.av,Md1.av,Md1.sr]at ht hs ⊢
 cases hp:(varT c v).ptr with
 | false=>
  rw[hp]at ht;simp only[Bool.false_eq_true,if_false];simp(maxSteps:=9^9)(disch:=first|(intros;contradiction)|omega)only[go_sem,ht]
 | true=>
  have hk:=hk hp
  have hr:=structAt_row hk
  have hfl:((structAt m (varT c v).to).fields.map Fd1.row).length=(structAt m (varT c v).to).fields.length:=List.length_map _
  rw[hp]at ht;simp only[if_true];by_cases h1:f<0
  ·rw[if_pos (.inl h1)];simp(maxSteps:=9^9)(disch:=first|(intros;contradiction)|omega)only[go_sem,ht,hs,hk,hr,h1]
  ·by_cases h2:(((structAt m (varT c v).to).fields.map Fd1.row).length:Int)≤f
   ·rw[if_pos (.inr (by omega))]
    simp(maxSteps:=9^9)(disch:=first|(intros;contradiction)|omega)only[go_sem,ht,hs,hk,hr,h1,h2]
   ·rw[if_neg (by omega)]
    have h3:0≤f:=by omega
    have hlt:f.toNat<(structAt m (varT c v).to).fields.length:=by omega
    have hrf:=map_at (f:=Fd1.row) hlt
    rw[List.getElem?_eq_getElem hlt]
    simp only[Fd1.row,Option.map_some,Option.getD_some]at hrf ⊢;simp(maxSteps:=9^9)(disch:=first|(intros;contradiction)|omega)only[go_sem,ht,hs,hk,hr,h1,h2,h3,hrf]
def heapP(m:Md1)(c:Cd1)(i:In1)(other:Int)(ptr:Bool):Int:=
 if(fieldP m c i.a i.f).2=0 then unlessP (decide ((fieldP m c i.a i.f).1=varT c other)&&decide ((fieldP m c i.a i.f).1.ptr=ptr)) 7 else(fieldP m c i.a i.f).2
theorem heap_e(hx:TM ext)(m:Md1)(hm:m.structs.length≤1000000)(c:Cd1)(i:In1)(other:Int)(ptr:Bool)(h:inV c i.a=true)(ho:inV c other=true)(hk:knownT m (varT c i.a)):G ext 146 [judgeA m c,i.av,.d (.int .i64 other),.d (.bool ptr)] []=some (.ret (.d (.int .i64 (heapP m c i other ptr))),[]):=by
 have ht:=typ_e hx.toTX m c other (inV_iff.1 ho)
 have hf:=field_e hx m hm c i.a i.f h hk
 rw[G_body hx.clear rfl Tryz.func146 rfl Tryz.results146 hv_146 rfl];unfold heapP;simp only[judgeA,In1.av,Ty1.av,ints]at ht hf ⊢;generalize fieldP m c i.a i.f=q at *;obtain⟨⟨p,to'⟩,g⟩:=q
 simp only at hf ⊢
 generalize varT c other=t at *;obtain⟨p2,to2⟩:=t
 simp only at ht ⊢
 by_cases hg:g=0
 ·subst hg;rw[if_pos rfl];simp only[Ty1.mk.injEq];have hu1:=unless_e hx.toTX true 7
  have hu2:=unless_e hx.toTX false 7
  by_cases e1:p=p2
  ·by_cases e2:to'=to2
   ·by_cases e3:p=ptr
    ·rw[decide_eq_true (show p=p2∧to'=to2 from⟨e1,e2⟩),decide_eq_true e3]
     subst e1 e2 e3;simp(maxSteps:=9^9)(disch:=first|(intros;contradiction)|omega)only[go_sem,hf,ht,hu1,Bool.and_self,decide_true]
    ·rw[decide_eq_true (show p=p2∧to'=to2 from⟨e1,e2⟩),decide_eq_false e3]
     subst e1 e2;simp(maxSteps:=9^9)(disch:=first|(intros;contradiction)|omega)only[go_sem,hf,ht,hu2,e3,Bool.and_false,decide_true,decide_false]
   ·rw[decide_eq_false (show ¬(p=p2∧to'=to2)from fun hh=>e2 hh.2)]
    subst e1;simp(maxSteps:=9^9)(disch:=first|(intros;contradiction)|omega)only[go_sem,hf,ht,hu2,e2,Bool.false_and,Bool.and_false,decide_true,decide_false]
  ·rw[decide_eq_false (show ¬(p=p2∧to'=to2)from fun hh=>e1 hh.1)]
   simp(maxSteps:=9^9)(disch:=first|(intros;contradiction)|omega)only[go_sem,hf,ht,hu2,e1,Bool.false_and,decide_true,decide_false]
 ·rw[if_neg hg];simp(maxSteps:=9^9)(disch:=first|(intros;contradiction)|omega)only[go_sem,hf,hg]
end Go.Proofs.YticliodhjfednaaGreat
