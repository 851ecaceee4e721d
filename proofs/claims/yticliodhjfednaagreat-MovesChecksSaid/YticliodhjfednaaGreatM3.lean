/- ir: what instructions read and write, structs by name, types. Conditions: none. -/
import Derived.Test.YticliodhjfednaaGreatM2
import Derived.Test.YticliodhjfednaaGreatW1
set_option linter.unusedSimpArgs false
set_option linter.unusedVariables false
namespace Go.Proofs.YticliodhjfednaaGreat
open Go Go.Ab
variable {ext:Sem'}
structure TM(ext:Sem'):Prop extends TX ext where
 word:∀ op:Int,ext 131 [.d (.int .i64 op)] []=some (.ret (.d (.str (wordP op))),[])
 clone:∀ l:List Vr1,l.length≤1000→ext 76 [.d (.sl (l.map Vr1.row))] []=some (.ret (.grow 0 0 (l.map Vr1.row)),[.grow 0 3])
def hasD(op:Int):Bool:=decide (op∈[1,2,5,12,15,3,7,9,10,14,4])
def hasA(op:Int):Bool:=decide (op∈[3,7,9,10,14,4,8,11,6,13,17,18])
def hasB(op:Int):Bool:=decide (op∈[4,8,11])
set_option maxHeartbeats 1000000 in
theorem shape_e(hx:TX ext)(op:Int):G ext 100 [.d (.int .i64 op)] []=some (.ret (.tuple [.d (.bool (hasD op)),.d (.bool (hasA op)),.d (.bool (hasB op))]),[]):=by
 by_cases h:op∈([1,2,5,12,15,3,7,9,10,14,4,8,11,6,13,17,18]:List Int)
 ·simp only[List.mem_cons,List.not_mem_nil,or_false]at h;rcases h with rfl|rfl|rfl|rfl|rfl|rfl|rfl|rfl|rfl|rfl|rfl|rfl|rfl|rfl|rfl|rfl|rfl<;>exact G_run hx.clear 2 2 (by kernel_rfl)
 ·have hd:hasD op=false:=by unfold hasD;simp only[decide_eq_false_iff_not];intro hh;apply h;revert hh;simp;omega
  have ha:hasA op=false:=by unfold hasA;simp only[decide_eq_false_iff_not];intro hh;apply h;revert hh;simp;omega
  have hb:hasB op=false:=by unfold hasB;simp only[decide_eq_false_iff_not];intro hh;apply h;revert hh;simp;omega
  rw[hd,ha,hb];simp only[List.mem_cons,List.not_mem_nil,or_false,not_or]at h;obtain⟨h1,h2,h3,h4,h5,h6,h7,h8,h9,h10,h11,h12,h13,h14,h15,h16,h17⟩:=h
  rw[G_body hx.clear rfl Tryz.func100 rfl Tryz.results100 hv_100 rfl];simp(maxSteps:=9^9)(disch:=first|(intros;contradiction)|omega)only[go_sem,h1,h2,h3,h4,h5,h6,h7,h8,h9,h10,h11,h12,h13,h14,h15,h16,h17]
def readsP(i:In1):List Int:=(if hasA i.op then [i.a]else [])++(if hasB i.op then [i.b]else [])++(if i.op=15 then i.args else [])
theorem room_ints{n:Nat}(h:n≤1000000):room n 8:=by unfold room;simp;omega
theorem fits_rowI(l:List Int):fits 1 (l.map rowI):=by intro row h;obtain⟨x,_,rfl⟩:=List.mem_map.1 h;rfl
def readsE(i:In1):Nat:=(if hasA i.op then 1 else 0)+(if hasB i.op then 1 else 0)+(if i.op=15 then 1 else 0)
theorem reads_e(hx:TX ext)(i:In1)(hl:i.args.length≤1000):G ext 56 [i.av] []=some (.ret (.grow 0 (readsE i) ((readsP i).map rowI)),[.grow (readsE i) 1]):=by
 have hs:=shape_e hx i.op
 have ha:(i.args.map rowI).length=i.args.length:=List.length_map _
 rw[G_body hx.clear rfl Tryz.func56 rfl Tryz.results56 hv_56 rfl];simp only[In1.av,ints];unfold readsP readsE;obtain⟨op,d,a,b,f,n,sign,args,mode,dest,els,pos⟩:=i
 simp only at hl ha hs ⊢
 by_cases h3:op=15
 ·subst h3;have e1:hasA 15=false:=by decide
  have e2:hasB 15=false:=by decide
  rw[e1,e2]at hs;have hroom:room (args.map rowI).length 8:=room_ints (by omega)
  simp only[e1,e2,if_true,Bool.false_eq_true,if_false,List.nil_append];have hfit:fits 1 (args.map rowI):=fits_rowI args
  simp(maxSteps:=9^9)(disch:=first|(intros;contradiction)|omega)only[go_sem,hs,hroom,hfit]
 ·cases h1:hasA op<;>cases h2:hasB op<;>rw[h1,h2]at hs<;>simp only[if_true,Bool.false_eq_true,if_false,h3,List.append_nil,List.nil_append,List.cons_append]<;>simp(maxSteps:=9^9)(disch:=first|(intros;contradiction)|omega)only[go_sem,hs,h3,room_ints]<;>rfl
def writesP(i:In1):Int:=if hasD i.op then i.d else 0
theorem writes_e(hx:TX ext)(i:In1):G ext 86 [i.av] []=some (.ret (.tuple [.d (.int .i64 (writesP i)),.d (.bool (hasD i.op))]),[]):=by
 have hs:=shape_e hx i.op
 rw[G_body hx.clear rfl Tryz.func86 rfl Tryz.results86 hv_86 rfl];simp only[In1.av];unfold writesP
 cases h1:hasD i.op<;>rw[h1]at hs<;>simp(maxSteps:=9^9)(disch:=first|(intros;contradiction)|omega)only[go_sem,hs]<;>rfl
def structIx(m:Md1)(name:List UInt8):Int:=idxN (fun s:Sc1=>decide (s.name=name)) m.structs
def funcIx(m:Md1)(name:List UInt8):Int:=idxN (fun c:Cd1=>decide (c.name=name)) m.funcs
theorem struct1_e(hx:TX ext)(s:Sc1)(name:List UInt8):G ext 130 [s.av,.ptr 0 0] [.cells [.d (.str name)]]=some (.ret (.d (.bool (decide (s.name=name)))),[.cells [.d (.str name)]]):=by
 rw[G_body hx.clear rfl Tryz.func130 rfl Tryz.results130 hv_130 rfl];simp only[Sc1.av];simp(maxSteps:=9^9)(disch:=first|(intros;contradiction)|omega)only[go_sem]
theorem struct_e(hx:TX ext)(m:Md1)(hm:m.structs.length≤1000000)(name:List UInt8):G ext 106 [m.av,.d (.str name)] []=some (.ret (.d (.int .i64 (structIx m name))),[]):=by
 have hi:=indexSc11_e hx 130 (fun s:Sc1=>decide (s.name=name)) [.d (.str name)] rfl (fun _=>rfl) m.structs hm (fun s _=>struct1_e hx s name)
 rw[G_body hx.clear rfl Tryz.func106 rfl Tryz.results106 hv_106 rfl];simp only[Md1.av,Md1.sr];simp(maxSteps:=9^9)(disch:=first|(intros;contradiction)|omega)only[go_sem,hi]
 rfl
theorem func1_e(hx:TX ext)(c:Cd1)(name:List UInt8):G ext 109 [c.av,.ptr 0 0] [.cells [.d (.str name)]]=some (.ret (.d (.bool (decide (c.name=name)))),[.cells [.d (.str name)]]):=by
 rw[G_body hx.clear rfl Tryz.func109 rfl Tryz.results109 hv_109 rfl];simp only[Cd1.av];simp(maxSteps:=9^9)(disch:=first|(intros;contradiction)|omega)only[go_sem]
theorem func_e(hx:TX ext)(m:Md1)(hm:m.funcs.length≤1000000)(name:List UInt8):G ext 67 [m.av,.d (.str name)] []=some (.ret (.d (.int .i64 (funcIx m name))),[]):=by
 have hi:=indexCd11_e hx 109 (fun c:Cd1=>decide (c.name=name)) [.d (.str name)] rfl (fun _=>rfl) m.funcs hm (fun s _=>func1_e hx s name)
 rw[G_body hx.clear rfl Tryz.func67 rfl Tryz.results67 hv_67 rfl];simp only[Md1.av,Md1.fr];simp(maxSteps:=9^9)(disch:=first|(intros;contradiction)|omega)only[go_sem,hi]
 rfl
def judgeA(m:Md1)(c:Cd1):AV:=.agg [.d m.sr,.d m.fr,.d (.str c.name),.d (.int .i64 c.params),.d (.sl (c.vars.map Vr1.row)),.d (.bool c.ret.t.ptr),.d (.str c.ret.t.to),.d (.int .i64 c.ret.cls),.d (ints c.frm),.d (.sl (c.ins.map In1.row))]
def knownP(m:Md1)(t:Ty1):Bool:=if t.ptr then decide (0≤structIx m t.to)else decide (t.to=[])
theorem known_e(hx:TX ext)(m:Md1)(hm:m.structs.length≤1000000)(c:Cd1)(t:Ty1):G ext 65 [judgeA m c,t.av] []=some (.ret (.d (.bool (knownP m t))),[]):=by
 have hs:=struct_e hx m hm t.to
 rw[G_body hx.clear rfl Tryz.func65 rfl Tryz.results65 hv_65 rfl];simp only[judgeA,Ty1.av,Md1.av]at hs ⊢;unfold knownP
 cases h:t.ptr<;>simp(maxSteps:=9^9)(disch:=first|(intros;contradiction)|omega)only[go_sem,hs,Bool.false_eq_true,if_false,if_true]
def varT(c:Cd1)(v:Int):Ty1:=(c.vars[v.toNat]?.map (·.t)).getD ⟨false,[]⟩
theorem varT_at{c:Cd1}{v:Int}(h:0≤v∧v<c.vars.length):(c.vars.map Vr1.row)[v.toNat]?=some [.bool (varT c v).ptr,.str (varT c v).to,.int .i64 (c.vars[v.toNat]'(by omega)).cls]:=by
 have hlt:v.toNat<c.vars.length:=by omega
 rw[map_at hlt];unfold varT;rw[List.getElem?_eq_getElem hlt]
 rfl
theorem typ_e(hx:TX ext)(m:Md1)(c:Cd1)(v:Int)(h:0≤v∧v<c.vars.length):G ext 136 [judgeA m c,.d (.int .i64 v)] []=some (.ret (varT c v).av,[]):=by
 have hr:=varT_at h
 have h0:=h.1
 rw[G_body hx.clear rfl Tryz.func136 rfl Tryz.results136 hv_136 rfl];simp only[judgeA,Ty1.av];simp(maxSteps:=9^9)(disch:=first|(intros;contradiction)|omega)only[go_sem,hr,h0]
theorem line_e(hx:TX ext)(m:Md1)(c:Cd1)(n:Int):G ext 134 [judgeA m c,.d (.int .i64 n)] []=some (.ret (.d (.bool (decide (0≤n∧n<c.ins.length)))),[]):=by
 have hl:(c.ins.map In1.row).length=c.ins.length:=List.length_map _
 rw[G_body hx.clear rfl Tryz.func134 rfl Tryz.results134 hv_134 rfl];simp only[judgeA];by_cases h1:0≤n
 ·by_cases h2:n<((c.ins.map In1.row).length:Int)
  ·have:decide (0≤n∧n<(c.ins.length:Int))=true:=by simp;omega
   rw[this];simp(maxSteps:=9^9)(disch:=first|(intros;contradiction)|omega)only[go_sem,h1,h2]
  ·have:decide (0≤n∧n<(c.ins.length:Int))=false:=by simp;omega
   rw[this];simp(maxSteps:=9^9)(disch:=first|(intros;contradiction)|omega)only[go_sem,h1,h2]
 ·have:decide (0≤n∧n<(c.ins.length:Int))=false:=by simp;omega
  rw[this];simp(maxSteps:=9^9)(disch:=first|(intros;contradiction)|omega)only[go_sem,h1]
def unlessP(is:Bool)(f:Int):Int:=if is then 0 else f
theorem unless_e(hx:TX ext)(is:Bool)(f:Int):G ext 68 [.d (.bool is),.d (.int .i64 f)] []=some (.ret (.d (.int .i64 (unlessP is f))),[]):=by
 rw[G_body hx.clear rfl Tryz.func68 rfl Tryz.results68 hv_68 rfl]
 cases is<;>simp(maxSteps:=9^9)(disch:=first|(intros;contradiction)|omega)only[go_sem]<;>rfl
def inV(c:Cd1)(v:Int):Bool:=decide (0≤v∧v<c.vars.length)
theorem there1_e(hx:TX ext)(m:Md1)(c:Cd1)(v:Int):G ext 143 [.d (.int .i64 v),.ptr 0 0] [.cells [.d m.sr,.d m.fr,.d (.str c.name),.d (.int .i64 c.params),.d (.sl (c.vars.map Vr1.row)),.d (.bool c.ret.t.ptr),.d (.str c.ret.t.to),.d (.int .i64 c.ret.cls),.d (ints c.frm),.d (.sl (c.ins.map In1.row))]]=some (.ret (.d (.bool (!inV c v))),[.cells [.d m.sr,.d m.fr,.d (.str c.name),.d (.int .i64 c.params),.d (.sl (c.vars.map Vr1.row)),.d (.bool c.ret.t.ptr),.d (.str c.ret.t.to),.d (.int .i64 c.ret.cls),.d (ints c.frm),.d (.sl (c.ins.map In1.row))]]):=by
 have hl:(c.vars.map Vr1.row).length=c.vars.length:=List.length_map _
 rw[G_body hx.clear rfl Tryz.func143 rfl Tryz.results143 hv_143 rfl];unfold inV;by_cases h1:v<0
 ·have:decide (0≤v∧v<(c.vars.length:Int))=false:=by simp;omega
  rw[this];simp(maxSteps:=9^9)(disch:=first|(intros;contradiction)|omega)only[go_sem,h1]<;>rfl
 ·by_cases h2:((c.vars.map Vr1.row).length:Int)≤v
  ·have:decide (0≤v∧v<(c.vars.length:Int))=false:=by simp;omega
   rw[this];simp(maxSteps:=9^9)(disch:=first|(intros;contradiction)|omega)only[go_sem,h1,h2]<;>rfl
  ·have:decide (0≤v∧v<(c.vars.length:Int))=true:=by simp;omega
   rw[this];simp(maxSteps:=9^9)(disch:=first|(intros;contradiction)|omega)only[go_sem,h1,h2]<;>rfl
theorem there_e(hx:TX ext)(m:Md1)(c:Cd1)(l:List Int)(hl:l.length≤1000000):G ext 132 [judgeA m c,.d (ints l)] []=some (.ret (.d (.bool (l.all (inV c)))),[]):=by
 have hc:=containsInt1_e hx 143 (fun v=>!inV c v) [.d m.sr,.d m.fr,.d (.str c.name),.d (.int .i64 c.params),.d (.sl (c.vars.map Vr1.row)),.d (.bool c.ret.t.ptr),.d (.str c.ret.t.to),.d (.int .i64 c.ret.cls),.d (ints c.frm),.d (.sl (c.ins.map In1.row))] rfl (fun _=>rfl) l hl (fun v _=>there1_e hx m c v)
 have e:l.all (inV c)=!(l.any fun v=>!inV c v):=by rw[List.any_eq_not_all_not];simp
 rw[G_body hx.clear rfl Tryz.func132 rfl Tryz.results132 hv_132 rfl];rw[e];simp only[judgeA,ints]at hc ⊢;simp(maxSteps:=9^9)(disch:=first|(intros;contradiction)|omega)only[go_sem,hc]
end Go.Proofs.YticliodhjfednaaGreat
