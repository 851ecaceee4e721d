/- bltype: which uses fit. Conditions: none. -/
import Derived.Test.YticliodhjfednaaGreatM11
set_option linter.unusedSimpArgs false
set_option linter.unusedVariables false
namespace Go.Proofs.YticliodhjfednaaGreat
open Go Go.Ab
variable {ext:Sem'}
def changeP(cls:Int):Bool:=decide (cls=1)||decide (cls=2)
theorem change_e(hx:TX ext)(cls:Int):G ext 97 [.d (.int .i64 cls)] []=some (.ret (.d (.bool (changeP cls))),[]):=by
 rw[G_body hx.clear rfl Tryz.func97 rfl Tryz.results97 hv_97 rfl];unfold changeP;by_cases h:cls=1
 ·have h:=eq_true h
  simp(maxSteps:=9^9)(disch:=first|(intros;contradiction)|omega)only[go_sem,h,decide_true,Bool.true_or]
 ·simp(maxSteps:=9^9)(disch:=first|(intros;contradiction)|omega)only[go_sem,h,decide_false,Bool.false_or]
def fitsP(mode cls:Int):Bool:=if mode=1 then decide (cls=1)else if mode=2 then changeP cls else if mode=3 then changeP cls||decide (cls=3)else false
theorem fits_e(hx:TX ext)(mode cls:Int):G ext 96 [.d (.int .i64 mode),.d (.int .i64 cls)] []=some (.ret (.d (.bool (fitsP mode cls))),[]):=by
 have hc:=change_e hx cls
 rw[G_body hx.clear rfl Tryz.func96 rfl Tryz.results96 hv_96 rfl];unfold fitsP;by_cases h1:mode=1
 ·rw[if_pos h1];have h1:=eq_true h1
  simp(maxSteps:=9^9)(disch:=first|(intros;contradiction)|omega)only[go_sem,h1]
 ·rw[if_neg h1];by_cases h2:mode=2
  ·rw[if_pos h2];have h2:=eq_true h2
   simp(maxSteps:=9^9)(disch:=first|(intros;contradiction)|omega)only[go_sem,h1,h2,hc]
  ·rw[if_neg h2];by_cases h3:mode=3
   ·rw[if_pos h3];have h3:=eq_true h3
    cases hp:changeP cls<;>rw[hp]at hc<;>simp(maxSteps:=9^9)(disch:=first|(intros;contradiction)|omega)only[go_sem,h1,h2,h3,hc,Bool.true_or,Bool.false_or]
   ·rw[if_neg h3];simp(maxSteps:=9^9)(disch:=first|(intros;contradiction)|omega)only[go_sem,h1,h2,h3]
def clsAt(c:Cd1)(v:Int):Int:=((c.vars[v.toNat]?).map (·.cls)).getD 0
theorem clsAt_at{c:Cd1}{v:Int}(h:inV c v=true):(c.vars.map Vr1.row)[v.toNat]?=some [.bool (varT c v).ptr,.str (varT c v).to,.int .i64 (clsAt c v)]:=by
 have h:=inV_iff.1 h
 have hlt:v.toNat<c.vars.length:=by omega
 rw[map_at hlt];unfold varT clsAt;rw[List.getElem?_eq_getElem hlt]
 rfl
theorem class_e(hx:TX ext)(m:Md1)(c:Cd1)(v:Int)(h:inV c v=true):G ext 95 [judgeA m c,.d (.int .i64 v)] []=some (.ret (.d (.int .i64 (clsAt c v))),[]):=by
 have hr:=clsAt_at h
 have h0:=(inV_iff.1 h).1
 rw[G_body hx.clear rfl Tryz.func95 rfl Tryz.results95 hv_95 rfl];simp only[judgeA];simp(maxSteps:=9^9)(disch:=first|(intros;contradiction)|omega)only[go_sem,hr,h0]
def modeAt(i:In1)(k:Nat):Int:=(i.mode[k]?).getD 0
theorem modeAt_at{i:In1}{k:Nat}(h:k<i.mode.length):(i.mode.map rowI)[k]?=some [.int .i64 (modeAt i k)]:=by
 rw[map_at h];unfold modeAt;rw[List.getElem?_eq_getElem h];rfl
def tretP(c:Cd1)(i:In1):Bool:=
 if c.ret.t.ptr then(if modeAt i 0=2∧clsAt c i.a=1 then false else decide (modeAt i 0=c.ret.cls)&&fitsP (modeAt i 0) (clsAt c i.a))else true
theorem tret_e(hx:TX ext)(m:Md1)(c:Cd1)(i:In1)(h:inV c i.a=true)(hm:c.ret.t.ptr=true→0<i.mode.length):G ext 99 [judgeA m c,i.av] []=some (.ret (.d (.bool (tretP c i))),[]):=by
 have hc:=class_e hx m c i.a h
 have hf:=fits_e hx (modeAt i 0) (clsAt c i.a)
 rw[G_body hx.clear rfl Tryz.func99 rfl Tryz.results99 hv_99 rfl];unfold tretP;simp only[judgeA,In1.av,ints]at hc ⊢
 cases hp:c.ret.t.ptr with
 | false=>
  rw[hp]at hc;simp only[Bool.false_eq_true,if_false];simp(maxSteps:=9^9)(disch:=first|(intros;contradiction)|omega)only[go_sem]
 | true=>
  rw[hp]at hc;have hr:=modeAt_at (hm hp)
  simp only[if_true];generalize modeAt i 0=md at *;generalize clsAt c i.a=cl at *;by_cases h1:md=2
  ·by_cases h2:cl=1
   ·rw[if_pos ⟨h1,h2⟩];subst h1 h2;simp(maxSteps:=9^9)(disch:=first|(intros;contradiction)|omega)only[go_sem,hr,hc]
   ·rw[if_neg (fun hh=>h2 hh.2)]
    subst h1;by_cases h3:(2:Int)=c.ret.cls
    ·have h3':=eq_true h3
     rw[decide_eq_true h3];simp(maxSteps:=9^9)(disch:=first|(intros;contradiction)|omega)only[go_sem,hr,hc,hf,h2,h3',decide_true,Bool.true_and]
    ·rw[decide_eq_false h3];simp(maxSteps:=9^9)(disch:=first|(intros;contradiction)|omega)only[go_sem,hr,hc,h2,h3,Bool.false_and]
  ·rw[if_neg (fun hh=>h1 hh.1)]
   by_cases h3:md=c.ret.cls
   ·have h3':=eq_true h3
    rw[decide_eq_true h3];simp(maxSteps:=9^9)(disch:=first|(intros;contradiction)|omega)only[go_sem,hr,hc,hf,h1,h3',decide_true,Bool.true_and]
   ·rw[decide_eq_false h3];simp(maxSteps:=9^9)(disch:=first|(intros;contradiction)|omega)only[go_sem,hr,hc,h1,h3,Bool.false_and]
def tcallL(c:Cd1):List Int→List Int→List Vr1→Bool
 | a::l,md::ms,v::vs=>if md≠v.cls then false else if md≠0∧fitsP md (clsAt c a)=false then false else tcallL c l ms vs
 | _,_,_=>true
def tcallP(m:Md1)(c:Cd1)(i:In1):Bool:=match m.funcs[i.f.toNat]? with
 | some g=>tcallL c i.args i.mode g.vars&&decide (clsAt c i.d=g.ret.cls)
 | none=>false
set_option maxHeartbeats 1000000 in
theorem tcall_e(hx:TX ext)(m:Md1)(c:Cd1)(i:In1)(hl:i.args.length≤1000)(hd:inV c i.d=true)(ha:∀ v,v∈i.args→inV c v=true)(h0:0≤i.f)(hf:i.f.toNat<m.funcs.length)(hg:i.args.length≤m.funcs[i.f.toNat].vars.length)(hml:i.args.length≤i.mode.length) :
  G ext 98 [judgeA m c,i.av] []=some (.ret (.d (.bool (tcallP m c i))),[]):=by
 have hal:(i.args.map rowI).length=i.args.length:=List.length_map _
 have hr:=map_at (f:=Cd1.row) hf
 rw[G_body hx.clear rfl Tryz.func98 rfl Tryz.results98 hv_98 rfl];unfold tcallP;rw[List.getElem?_eq_getElem hf]
 generalize m.funcs[i.f.toNat]=g at hr hg ⊢;simp only[Cd1.row]at hr;simp only[judgeA,In1.av,ints,Md1.fr];simp(maxSteps:=9^9)(disch:=first|(intros;contradiction)|omega)only[go_sem,hr,h0]
 generalize hL:loopA _ _ _=L
 apply loop_post hL (fun k:Nat=>k≤i.args.length∧tcallL c i.args i.mode g.vars=tcallL c (i.args.drop k) (i.mode.drop k) (g.vars.drop k)) (fun k=>i.args.length-k)
  (fun k=>⟨[(0,judgeA m c),(1,i.av),(2,.ptr 0 0),(3,.ptr 1 0),(4,.d (.bool false)),(5,.ptr 2 0),(6,.any),(7,.any),(8,.any),(17,.d (ints i.args)),(18,.d (.int .i64 (i.args.map rowI).length)),(19,.d (.int .i64 k))],[],[.cells (judgeC m c),.cells (insC i),.cells (codC g)]⟩)
  0 (by simp only[judgeA,judgeC,In1.av,insC,codC,ints,Md1.fr];simp(maxSteps:=9^9)(disch:=first|(intros;contradiction)|omega)only[go_sem]<;>rfl) ⟨Nat.zero_le _,by simp⟩
 clear hL;rintro k ⟨k1,k2⟩ next ih
 simp only[judgeA,judgeC,In1.av,insC,codC,ints,Md1.fr]at ih ⊢;by_cases hk:k<i.args.length
 ·have hkv:k<g.vars.length:=by omega
  have hkm:k<i.mode.length:=by omega
  have hlt:(k:Int)<((i.args.map rowI).length:Int):=by omega
  have hra:=map_at (f:=rowI) hk
  have hrm:=map_at (f:=rowI) hkm
  have hrv:=map_at (f:=Vr1.row) hkv
  have hina:=ha i.args[k] (List.getElem_mem hk)
  have hc:=class_e hx m c i.args[k] hina
  have hfi:=fits_e hx i.mode[k] (clsAt c i.args[k])
  rw[List.drop_eq_getElem_cons hk,List.drop_eq_getElem_cons hkm,List.drop_eq_getElem_cons hkv]at k2;simp only[tcallL]at k2;generalize i.args[k]=x at hra hc hfi k2;generalize i.mode[k]=md at hrm hfi k2;generalize g.vars[k]=v at hrv k2;simp only[rowI,Vr1.row]at hra hrm hrv;simp only[judgeA,ints,Md1.fr]at hc;by_cases e1:md=v.cls
  ·rw[if_neg (fun hh=>hh e1)]at k2
   have e1':=eq_true e1
   by_cases e2:md=0
   ·rw[if_neg (fun hh=>hh.1 e2)]at k2
    have e2':=eq_true e2
    simp(maxSteps:=9^9)(disch:=first|(intros;contradiction)|omega)only[go_sem,hlt,hra,hrm,hrv,hc,e1',e2',wrap64]
    exact ih (k+1) _ ⟨hk,k2⟩ (by omega) (by simp(maxSteps:=9^9)(disch:=first|(intros;contradiction)|omega)only[go_sem]<;>rfl)
   ·cases e3:fitsP md (clsAt c x)with
    | true=>
     rw[e3]at hfi;rw[if_neg (fun hh=>by rw[e3]at hh;exact absurd hh.2 (by decide))]at k2
     simp(maxSteps:=9^9)(disch:=first|(intros;contradiction)|omega)only[go_sem,hlt,hra,hrm,hrv,hc,hfi,e1',e2,wrap64]
     exact ih (k+1) _ ⟨hk,k2⟩ (by omega) (by simp(maxSteps:=9^9)(disch:=first|(intros;contradiction)|omega)only[go_sem]<;>rfl)
    | false=>
     rw[e3]at hfi;rw[if_pos ⟨e2,e3⟩]at k2;rw[k2];simp(maxSteps:=9^9)(disch:=first|(intros;contradiction)|omega)only[go_sem,hlt,hra,hrm,hrv,hc,hfi,e1',e2,Bool.false_and]
  ·rw[if_pos e1]at k2;rw[k2];simp(maxSteps:=9^9)(disch:=first|(intros;contradiction)|omega)only[go_sem,hlt,hra,hrm,hrv,hc,e1,Bool.false_and]
 ·have hlt:¬(k:Int)<((i.args.map rowI).length:Int):=by omega
  have hnil:i.args.drop k=[]:=List.drop_eq_nil_of_le (by omega)
  rw[hnil]at k2;have k2:tcallL c i.args i.mode g.vars=true:=k2
  rw[k2];have hc:=class_e hx m c i.d hd
  simp only[judgeA,ints,Md1.fr]at hc;simp(maxSteps:=9^9)(disch:=first|(intros;contradiction)|omega)only[go_sem,hlt,hc,Bool.true_and]
end Go.Proofs.YticliodhjfednaaGreat
