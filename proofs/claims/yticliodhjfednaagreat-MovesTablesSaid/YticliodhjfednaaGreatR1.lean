/- The document's answer for ir: what instructions read and write, names, types. Conditions: none. -/
import Derived.Test.YticliodhjfednaaGreatM11
import Derived.Test.YticliodhjfednaaGreatLp
set_option linter.unusedSimpArgs false
set_option linter.unusedVariables false
namespace Go.Proofs.YticliodhjfednaaGreat
open Go Go.Ab
variable {ext:Sem'}
theorem in_e(hx:TX ext)(n:Int)(l:List Int)(hl:l.length≤1000000):G ext 35 [.d (.int .i64 n),.d (ints l)] []=some (.ret (.d (.bool (decide (n∈l)))),[]):=by
 rw[G_body hx.clear rfl Tryz.func35 rfl Tryz.results35 hv_35 rfl];simp only[ints];simp(maxSteps:=9^9)(disch:=first|(intros;contradiction)|omega)only[go_sem]
 generalize hL:loopA _ _ _=L;apply range_upd hL (by simp(maxSteps:=9^9)(disch:=first|(intros;contradiction)|omega)only[go_sem]<;>rfl) l rowI (α:=Unit) (fun rest k _=>decide (n∈l)=decide (n∈rest)) (fun k _=>[(5,.d (.int .i64 k))]) (fun _ _=>[]) () (by simp(maxSteps:=9^9)(disch:=first|(intros;contradiction)|omega)only[go_sem]<;>rfl) rfl ?_ ?_
 ·intro x rest k _ hi hlt hr hx hk _ next ih;by_cases e:x=n
  ·have h1:decide (n∈l)=true:=by rw[hi];simp[e]
   rw[h1];have e:=eq_true e
   simp(maxSteps:=9^9)(disch:=first|(intros;contradiction)|omega)only[go_sem,hlt,hr,rowI,e]
  ·simp(maxSteps:=9^9)(disch:=first|(intros;contradiction)|omega)only[go_sem,hlt,hr,rowI,e,wrap64]
   exact ih () _ (by rw[hi];simp[Ne.symm e]) (by simp(maxSteps:=9^9)(disch:=first|(intros;contradiction)|omega)only[go_sem]<;>rfl)
 ·intro k _ hi hlt hk next;rw[hi];simp(maxSteps:=9^9)(disch:=first|(intros;contradiction)|omega)only[go_sem,hlt]
theorem rreads_e(hx:TX ext)(i:In1)(hl:i.args.length≤1000):G ext 18 [i.av] []=some (.ret (.d (ints (readsP i))),[]):=by
 have i1:=in_e hx i.op [3,4,6,7,8,9,10,11,13,14,17,18] (by decide)
 have i2:=in_e hx i.op [4,8,11] (by decide)
 have ha:(i.args.map rowI).length=i.args.length:=List.length_map _
 have e1:decide (i.op∈[3,4,6,7,8,9,10,11,13,14,17,18])=hasA i.op:=by unfold hasA;simp only[List.mem_cons,List.not_mem_nil,or_false,decide_eq_decide];omega
 have e2:decide (i.op∈[4,8,11])=hasB i.op:=rfl
 rw[e1]at i1;rw[e2]at i2;simp only[ints,List.map_cons,List.map_nil,rowI]at i1 i2;rw[G_body hx.clear rfl Tryz.func18 rfl Tryz.results18 hv_18 rfl];simp only[In1.av,ints];unfold readsP;have hroom:room (i.args.map rowI).length 8:=room_ints (by omega)
 have hfit:fits 1 (i.args.map rowI):=fits_rowI i.args
 by_cases h3:i.op=15
 ·have e1:hasA i.op=false:=by rw[h3];decide
  have e2:hasB i.op=false:=by rw[h3];decide
  rw[e1]at i1;rw[e2]at i2;rw[e1,e2,if_pos h3];have h3:=eq_true h3
  simp(maxSteps:=9^9)(disch:=first|(intros;contradiction)|omega)only[go_sem,i1,i2,h3,hroom,hfit,Bool.false_eq_true,if_false,List.nil_append]
 ·rw[if_neg h3]
  cases h1:hasA i.op<;>cases h2:hasB i.op<;>rw[h1]at i1<;>rw[h2]at i2<;>simp(maxSteps:=9^9)(disch:=first|(intros;contradiction)|omega)only[go_sem,i1,i2,h3,room_ints,if_true,Bool.false_eq_true,if_false,List.append_nil,List.nil_append,List.cons_append,List.map_cons,List.map_nil,rowI]
theorem rwrites_e(hx:TX ext)(i:In1):G ext 20 [i.av] []=some (.ret (.tuple [.d (.int .i64 (writesP i)),.d (.bool (hasD i.op))]),[]):=by
 have i1:=in_e hx i.op [1,2,3,4,5,7,9,10,12,14,15] (by decide)
 have e1:decide (i.op∈[1,2,3,4,5,7,9,10,12,14,15])=hasD i.op:=by unfold hasD;simp only[List.mem_cons,List.not_mem_nil,or_false,decide_eq_decide];omega
 rw[e1]at i1;simp only[ints,List.map_cons,List.map_nil,rowI]at i1;rw[G_body hx.clear rfl Tryz.func20 rfl Tryz.results20 hv_20 rfl];simp only[In1.av];unfold writesP
 cases h1:hasD i.op<;>rw[h1]at i1<;>simp(maxSteps:=9^9)(disch:=first|(intros;contradiction)|omega)only[go_sem,i1]<;>rfl
theorem idxN_cons{α:Type}(p:α→Bool)(x:α)(l:List α):idxN p (x::l)=if p x then 0 else if idxN p l<0 then -1 else idxN p l+1:=by
 unfold idxN;simp only[idxP]
 cases p x with
 | true=>rfl
 | false=>
  cases idxP p l with
  | none=>rfl
  | some i=>simp;omega
theorem rstruct_e(hx:TX ext)(m:Md1)(hm:m.structs.length≤1000000)(name:List UInt8):G ext 121 [m.av,.d (.str name)] []=some (.ret (.d (.int .i64 (structIx m name))),[]):=by
 rw[G_body hx.clear rfl Tryz.func121 rfl Tryz.results121 hv_121 rfl];simp only[Md1.av,Md1.sr];unfold structIx;generalize m.structs=l at hm ⊢;simp(maxSteps:=9^9)(disch:=first|(intros;contradiction)|omega)only[go_sem]
 generalize hL:loopA _ _ _=L;apply range_upd hL (by simp(maxSteps:=9^9)(disch:=first|(intros;contradiction)|omega)only[go_sem]<;>rfl) l Sc1.row (α:=Unit) (fun rest k _=>idxP (fun s:Sc1=>decide (s.name=name)) l=(idxP (fun s:Sc1=>decide (s.name=name)) rest).map (k + ·)) (fun k _=>[(5,.d (.int .i64 k))]) (fun _ _=>[]) () (by simp(maxSteps:=9^9)(disch:=first|(intros;contradiction)|omega)only[go_sem]<;>rfl) (by simp) ?_ ?_
 ·intro x rest k _ hi hlt hr hx hk _ next ih;simp only[idxP]at hi;by_cases e:x.name=name
  ·have h1:idxN (fun s:Sc1=>decide (s.name=name)) l=k:=by unfold idxN;rw[hi];simp[e]
   rw[h1];have e:=eq_true e
   simp(maxSteps:=9^9)(disch:=first|(intros;contradiction)|omega)only[go_sem,hlt,hr,Sc1.row,e]
  ·simp(maxSteps:=9^9)(disch:=first|(intros;contradiction)|omega)only[go_sem,hlt,hr,Sc1.row,e,wrap64]
   exact ih () _ (by rw[hi];simp[e];congr 1;funext y;simp;omega) (by simp(maxSteps:=9^9)(disch:=first|(intros;contradiction)|omega)only[go_sem]<;>rfl)
 ·intro k _ hi hlt hk next;have h1:idxN (fun s:Sc1=>decide (s.name=name)) l=-1:=by unfold idxN;rw[hi];rfl
  rw[h1];simp(maxSteps:=9^9)(disch:=first|(intros;contradiction)|omega)only[go_sem,hlt]
theorem rfunc_e(hx:TX ext)(m:Md1)(hm:m.funcs.length≤1000000)(name:List UInt8):G ext 91 [m.av,.d (.str name)] []=some (.ret (.d (.int .i64 (funcIx m name))),[]):=by
 rw[G_body hx.clear rfl Tryz.func91 rfl Tryz.results91 hv_91 rfl];simp only[Md1.av,Md1.fr];unfold funcIx;generalize m.funcs=l at hm ⊢;simp(maxSteps:=9^9)(disch:=first|(intros;contradiction)|omega)only[go_sem]
 generalize hL:loopA _ _ _=L;apply range_upd hL (by simp(maxSteps:=9^9)(disch:=first|(intros;contradiction)|omega)only[go_sem]<;>rfl) l Cd1.row (α:=Unit) (fun rest k _=>idxP (fun s:Cd1=>decide (s.name=name)) l=(idxP (fun s:Cd1=>decide (s.name=name)) rest).map (k + ·)) (fun k _=>[(5,.d (.int .i64 k))]) (fun _ _=>[]) () (by simp(maxSteps:=9^9)(disch:=first|(intros;contradiction)|omega)only[go_sem]<;>rfl) (by simp) ?_ ?_
 ·intro x rest k _ hi hlt hr hx hk _ next ih;simp only[idxP]at hi;by_cases e:x.name=name
  ·have h1:idxN (fun s:Cd1=>decide (s.name=name)) l=k:=by unfold idxN;rw[hi];simp[e]
   rw[h1];have e:=eq_true e
   simp(maxSteps:=9^9)(disch:=first|(intros;contradiction)|omega)only[go_sem,hlt,hr,Cd1.row,e]
  ·simp(maxSteps:=9^9)(disch:=first|(intros;contradiction)|omega)only[go_sem,hlt,hr,Cd1.row,e,wrap64]
   exact ih () _ (by rw[hi];simp[e];congr 1;funext y;simp;omega) (by simp(maxSteps:=9^9)(disch:=first|(intros;contradiction)|omega)only[go_sem]<;>rfl)
 ·intro k _ hi hlt hk next;have h1:idxN (fun s:Cd1=>decide (s.name=name)) l=-1:=by unfold idxN;rw[hi];rfl
  rw[h1];simp(maxSteps:=9^9)(disch:=first|(intros;contradiction)|omega)only[go_sem,hlt]
theorem rknown_e(hx:TX ext)(m:Md1)(hm:m.structs.length≤1000000)(t:Ty1):G ext 122 [m.av,t.av] []=some (.ret (.d (.bool (knownP m t))),[]):=by
 have hs:=rstruct_e hx m hm t.to
 rw[G_body hx.clear rfl Tryz.func122 rfl Tryz.results122 hv_122 rfl];simp only[Md1.av,Ty1.av]at hs ⊢;unfold knownP;obtain⟨p,to'⟩:=t
 simp only at hs ⊢
 cases p with
 | true=>by_cases h:0≤structIx m to'<;>simp(maxSteps:=9^9)(disch:=first|(intros;contradiction)|omega)only[go_sem,hs,h,if_true]
 | false=>by_cases h:to'=[]<;>simp(maxSteps:=9^9)(disch:=first|(intros;contradiction)|omega)only[go_sem,hs,h,if_false,Bool.false_eq_true]
theorem rhas_e(hx:TX ext)(c:Cd1)(l:List Int)(hl:l.length≤1000000):G ext 123 [c.av,.d (ints l)] []=some (.ret (.d (.bool (l.all (inV c)))),[]):=by
 have hvl:(c.vars.map Vr1.row).length=c.vars.length:=List.length_map _
 rw[G_body hx.clear rfl Tryz.func123 rfl Tryz.results123 hv_123 rfl];simp only[ints,Cd1.av];simp(maxSteps:=9^9)(disch:=first|(intros;contradiction)|omega)only[go_sem]
 generalize hL:loopA _ _ _=L;apply range_upd hL (by simp(maxSteps:=9^9)(disch:=first|(intros;contradiction)|omega)only[go_sem]<;>rfl) l rowI (α:=Unit) (fun rest k _=>l.all (inV c)=rest.all (inV c)) (fun k _=>[(5,.d (.int .i64 k))]) (fun _ _=>[]) () (by simp(maxSteps:=9^9)(disch:=first|(intros;contradiction)|omega)only[go_sem]<;>rfl) rfl ?_ ?_
 ·intro x rest k _ hi hlt hr hx hk _ next ih;simp only[List.all_cons]at hi;by_cases e1:x<0
  ·have h1:inV c x=false:=by unfold inV;simp;omega
   rw[h1,Bool.false_and]at hi;rw[hi];simp(maxSteps:=9^9)(disch:=first|(intros;contradiction)|omega)only[go_sem,hlt,hr,rowI,e1]
  ·by_cases e2:((c.vars.map Vr1.row).length:Int)≤x
   ·have h1:inV c x=false:=by unfold inV;simp;omega
    rw[h1,Bool.false_and]at hi;rw[hi];simp(maxSteps:=9^9)(disch:=first|(intros;contradiction)|omega)only[go_sem,hlt,hr,rowI,e1,e2]
   ·have h1:inV c x=true:=by unfold inV;simp;omega
    rw[h1,Bool.true_and]at hi;simp(maxSteps:=9^9)(disch:=first|(intros;contradiction)|omega)only[go_sem,hlt,hr,rowI,e1,e2,wrap64]
    exact ih () _ hi (by simp(maxSteps:=9^9)(disch:=first|(intros;contradiction)|omega)only[go_sem]<;>rfl)
 ·intro k _ hi hlt hk next;rw[hi];simp(maxSteps:=9^9)(disch:=first|(intros;contradiction)|omega)only[go_sem,hlt]
theorem rsign_e(hx:TX ext)(s:List UInt8):G ext 124 [.d (.str s)] []=some (.ret (.d (.bool (decide (s∈signs11)))),[]):=by
 rw[G_body hx.clear rfl Tryz.func124 rfl Tryz.results124 hv_124 rfl];have hb:(signs11.map fun x=>([.str x]:List Dt))=[[.str [43]],[.str [45]],[.str [42]],[.str [47]],[.str [37]],[.str [60]],[.str [60,61]],[.str [62]],[.str [62,61]],[.str [61,61]],[.str [33,61]]]:=rfl
 simp(maxSteps:=9^9)(disch:=first|(intros;contradiction)|omega)only[go_sem]
 rw[←hb];generalize hL:loopA _ _ _=L;apply range_upd hL (by simp(maxSteps:=9^9)(disch:=first|(intros;contradiction)|omega)only[go_sem]<;>rfl) signs11 (fun x=>[.str x]) (α:=Unit) (fun rest k _=>decide (s∈signs11)=decide (s∈rest)) (fun k _=>[(4,.d (.int .i64 k))]) (fun _ _=>[]) () (by simp(maxSteps:=9^9)(disch:=first|(intros;contradiction)|omega)only[go_sem]<;>rfl) rfl ?_ ?_
 ·intro x rest k _ hi hlt hr hx hk _ next ih;by_cases e:x=s
  ·have h1:decide (s∈signs11)=true:=by rw[hi];simp[e]
   rw[h1];have e:=eq_true e
   simp(maxSteps:=9^9)(disch:=first|(intros;contradiction)|omega)only[go_sem,hlt,hr,e]
  ·have hk11:k<11:=hk
   simp(maxSteps:=9^9)(disch:=first|(intros;contradiction)|omega)only[go_sem,hlt,hr,e,wrap64]
   exact ih () _ (by rw[hi];simp[Ne.symm e]) (by simp(maxSteps:=9^9)(disch:=first|(intros;contradiction)|omega)only[go_sem]<;>rfl)
 ·intro k _ hi hlt hk next;rw[hi];simp(maxSteps:=9^9)(disch:=first|(intros;contradiction)|omega)only[go_sem,hlt]
def oneP(is:Bool)(f:Int):Int:=if is then f else 0
theorem rone_e(hx:TX ext)(is:Bool)(f:Int):G ext 92 [.d (.bool is),.d (.int .i64 f)] []=some (.ret (.d (.int .i64 (oneP is f))),[]):=by
 rw[G_body hx.clear rfl Tryz.func92 rfl Tryz.results92 hv_92 rfl]
 cases is<;>simp(maxSteps:=9^9)(disch:=first|(intros;contradiction)|omega)only[go_sem]<;>rfl
theorem rfield_e(hx:TX ext)(m:Md1)(hm:m.structs.length≤1000000)(c:Cd1)(v f:Int)(h:inV c v=true)(hk:knownT m (varT c v)):G ext 141 [m.av,c.av,.d (.int .i64 v),.d (.int .i64 f)] []=some (.ret (.tuple [(fieldP m c v f).1.av,.d (.int .i64 (fieldP m c v f).2)]),[]):=by
 have hs:=rstruct_e hx m hm (varT c v).to
 have hv:=varT_at (inV_iff.1 h)
 have h0:=(inV_iff.1 h).1
 rw[G_body hx.clear rfl Tryz.func141 rfl Tryz.results141 hv_141 rfl];unfold fieldP;simp only[Cd1.av,Ty1.av,Md1.av,Md1.sr]at hs ⊢
 cases hp:(varT c v).ptr with
 | false=>
  rw[hp]at hv;simp only[Bool.false_eq_true,if_false];simp(maxSteps:=9^9)(disch:=first|(intros;contradiction)|omega)only[go_sem,hv,h0]
 | true=>
  have hk:=hk hp
  have hr:=structAt_row hk
  have hfl:((structAt m (varT c v).to).fields.map Fd1.row).length=(structAt m (varT c v).to).fields.length:=List.length_map _
  rw[hp]at hv;simp only[if_true];by_cases h1:f<0
  ·rw[if_pos (.inl h1)];simp(maxSteps:=9^9)(disch:=first|(intros;contradiction)|omega)only[go_sem,hv,h0,hs,hk,hr,h1]
  ·by_cases h2:(((structAt m (varT c v).to).fields.map Fd1.row).length:Int)≤f
   ·rw[if_pos (.inr (by omega))]
    simp(maxSteps:=9^9)(disch:=first|(intros;contradiction)|omega)only[go_sem,hv,h0,hs,hk,hr,h1,h2]
   ·rw[if_neg (by omega)]
    have h3:0≤f:=by omega
    have hlt:f.toNat<(structAt m (varT c v).to).fields.length:=by omega
    have hrf:=map_at (f:=Fd1.row) hlt
    rw[List.getElem?_eq_getElem hlt]
    simp only[Fd1.row,Option.map_some,Option.getD_some]at hrf ⊢;simp(maxSteps:=9^9)(disch:=first|(intros;contradiction)|omega)only[go_sem,hv,h0,hs,hk,hr,h1,h2,h3,hrf]
end Go.Proofs.YticliodhjfednaaGreat
