/- bl: modes of uses; which functions, and programs, are formed. Conditions: none. -/
import Derived.Test.YticliodhjfednaaGreatM10
set_option linter.unusedSimpArgs false
set_option linter.unusedVariables false
namespace Go.Proofs.YticliodhjfednaaGreat
open Go Go.Ab
variable {ext:Sem'}
def modesP(c:Cd1)(i:In1):List Ty1:=
 if i.op=9∨i.op=10 then [varT c i.d]else if i.op=18 then(if c.ret.t.ptr then [c.ret.t]else [])else if i.op=15 then i.args.map (varT c)else []
def tysD(l:List Ty1):Dt:=.sl (l.map Ty1.row)
theorem room_vrs{n:Nat}(h:n≤1000000):room n 32:=by unfold room;simp;omega
theorem room_tys{n:Nat}(h:n≤1000000):room n 24:=by unfold room;simp;omega
set_option maxHeartbeats 1000000 in
theorem modes_e(hx:TX ext)(c:Cd1)(i:In1)(hl:i.args.length≤1000)(hv:(usesP i).all (inV c)=true):G ext 80 [c.av,i.av] []=some (.ret (.d (tysD (modesP c i))),[]):=by
 have hal:(i.args.map rowI).length=i.args.length:=List.length_map _
 rw[G_body hx.clear rfl Tryz.func80 rfl Tryz.results80 hv_80 rfl];unfold modesP tysD;simp only[Cd1.av,In1.av,ints];have hvars:=uses_vars hv
 by_cases h9:i.op=9
 ·have hd:=inV_iff.1 (hvars.d (by rw[h9];decide))
  have hr:=varT_at hd
  have h0:=hd.1
  rw[if_pos (.inl h9)];have h9:=eq_true h9
  simp(maxSteps:=9^9)(disch:=first|(intros;contradiction)|omega)only[go_sem,h9,h0,hr]
  rfl
 ·by_cases h10:i.op=10
  ·have hd:=inV_iff.1 (hvars.d (by rw[h10];decide))
   have hr:=varT_at hd
   have h0:=hd.1
   rw[if_pos (.inr h10)];have h10:=eq_true h10
   simp(maxSteps:=9^9)(disch:=first|(intros;contradiction)|omega)only[go_sem,h9,h10,h0,hr]
   rfl
  ·rw[if_neg (by omega)]
   by_cases h18:i.op=18
   ·rw[if_pos h18];have h18:=eq_true h18
    cases hp:c.ret.t.ptr
    ·simp(maxSteps:=9^9)(disch:=first|(intros;contradiction)|omega)only[go_sem,h9,h10,h18,Bool.false_eq_true,if_false,List.map_nil]
    ·simp(maxSteps:=9^9)(disch:=first|(intros;contradiction)|omega)only[go_sem,h9,h10,h18,if_true,List.map_cons,List.map_nil,Ty1.row,hp]
   ·rw[if_neg h18];by_cases h15:i.op=15
    ·rw[if_pos h15];have hargs:=uses_args h15 hv
     have h15:=eq_true h15
     simp(maxSteps:=9^9)(disch:=first|(intros;contradiction)|omega)only[go_sem,h9,h10,h18,h15]
     generalize hL:loopA _ _ _=L
     apply loop_post hL (fun k:Nat=>k≤i.args.length) (fun k=>i.args.length-k)
      (fun k=>⟨[(0,.agg [.d (.str c.name),.d (.int .i64 c.params),.d (.sl (c.vars.map Vr1.row)),.d (.bool c.ret.t.ptr),.d (.str c.ret.t.to),.d (.int .i64 c.ret.cls),.d (.sl (c.frm.map rowI)),.d (.sl (c.ins.map In1.row))]),(1,.agg [.d (.int .i64 i.op),.d (.int .i64 i.d),.d (.int .i64 i.a),.d (.int .i64 i.b),.d (.int .i64 i.f),.d (.int .i64 i.n),.d (.str i.sign),.d (.sl (i.args.map rowI)),.d (.sl (i.mode.map rowI)),.d (.int .i64 i.to),.d (.int .i64 i.els),.d (.int .i64 i.pos.1),.d (.int .i64 i.pos.2)]),(2,.ptr 0 0),(3,.ptr 1 0),(4,.grow 2 k (((i.args.take k).map (varT c)).map Ty1.row)),(6,.any),(8,.d (.int .i64 i.op)),(9,.d (.bool false)),(33,.d (.sl (i.args.map rowI))),(34,.d (.int .i64 (i.args.map rowI).length)),(35,.d (.int .i64 k))],[],[.cells [.d (.str c.name),.d (.int .i64 c.params),.d (.sl (c.vars.map Vr1.row)),.d (.bool c.ret.t.ptr),.d (.str c.ret.t.to),.d (.int .i64 c.ret.cls),.d (.sl (c.frm.map rowI)),.d (.sl (c.ins.map In1.row))],.cells [.d (.int .i64 i.op),.d (.int .i64 i.d),.d (.int .i64 i.a),.d (.int .i64 i.b),.d (.int .i64 i.f),.d (.int .i64 i.n),.d (.str i.sign),.d (.sl (i.args.map rowI)),.d (.sl (i.mode.map rowI)),.d (.int .i64 i.to),.d (.int .i64 i.els),.d (.int .i64 i.pos.1),.d (.int .i64 i.pos.2)],.grow k 2]⟩)
      0 (by simp only[List.take_zero,List.map_nil];simp(maxSteps:=9^9)(disch:=first|(intros;contradiction)|omega)only[go_sem]<;>rfl) (Nat.zero_le _)
     clear hL;intro k k1 next ih;by_cases hk:k<i.args.length
     ·have hlt:(k:Int)<((i.args.map rowI).length:Int):=by omega
      have hr:=map_at (f:=rowI) hk
      have hin:=inV_iff.1 (hargs i.args[k] (List.getElem_mem hk))
      have hget:i.args[k]?=some i.args[k]:=List.getElem?_eq_getElem hk
      generalize i.args[k]=v at hr hin hget;simp only[rowI]at hr;have hr2:=varT_at hin
      have h0:=hin.1
      have hsn:(((i.args.take (k+1)).map (varT c)).map Ty1.row)=(((i.args.take k).map (varT c)).map Ty1.row)++[[.bool (varT c v).ptr,.str (varT c v).to]]:=by
       rw[List.take_add_one,hget];simp[Ty1.row]
      have hroom:room ((((i.args.take k).map (varT c)).map Ty1.row).length+1) 24:=room_tys (by simp;omega)
      simp(maxSteps:=9^9)(disch:=first|(intros;contradiction)|omega)only[go_sem,hlt,hr,h0,hr2,hroom,wrap64]
      exact ih (k+1) _ hk (by omega) (by rw[hsn];simp(maxSteps:=9^9)(disch:=first|(intros;contradiction)|omega)only[go_sem]<;>rfl)
     ·have hlt:¬(k:Int)<((i.args.map rowI).length:Int):=by omega
      have hkk:k=i.args.length:=by omega
      subst hkk;rw[List.take_length];simp(maxSteps:=9^9)(disch:=first|(intros;contradiction)|omega)only[go_sem,hlt]
    ·rw[if_neg h15];simp(maxSteps:=9^9)(disch:=first|(intros;contradiction)|omega)only[go_sem,h9,h10,h18,h15,List.map_nil]
def modeOk:List Ty1→List Int→Bool
 | [],[]=>true
 | t::l,x::m=>classedP t x&&modeOk l m
 | _,_=>false
set_option maxHeartbeats 1000000 in
theorem equalM_e(hx:TX ext)(l:List Ty1)(m:List Int)(hl:l.length≤1000):G ext 79 [.d (tysD l),.d (ints m),.fn 77 [] []] []=some (.ret (.d (.bool (modeOk l m))),[]):=by
 have hll:(l.map Ty1.row).length=l.length:=List.length_map _
 have hml:(m.map rowI).length=m.length:=List.length_map _
 rw[G_body hx.clear rfl Tryz.func79 rfl Tryz.results79 hv_79 rfl];unfold tysD ints;by_cases hlen:((l.map Ty1.row).length:Int)=((m.map rowI).length:Int)
 ·simp(maxSteps:=9^9)(disch:=first|(intros;contradiction)|omega)only[go_sem,hlen]
  generalize hL:loopA _ _ _=L
  apply loop_post hL (fun k:Nat=>k≤l.length∧modeOk l m=modeOk (l.drop k) (m.drop k)) (fun k=>l.length-k)
   (fun k=>⟨[(0,.d (.sl (l.map Ty1.row))),(1,.d (.sl (m.map rowI))),(2,.fn 77 [] []),(6,.d (.bool false)),(7,.any),(8,.any),(9,.any),(15,.d (.sl (l.map Ty1.row))),(16,.d (.int .i64 (m.map rowI).length)),(17,.d (.int .i64 k))],[],[]⟩)
   0 (by simp(maxSteps:=9^9)(disch:=first|(intros;contradiction)|omega)only[go_sem]<;>rfl) ⟨Nat.zero_le _,by simp⟩
  clear hL;rintro k ⟨k1,k2⟩ next ih
  by_cases hk:k<l.length
  ·have hkm:k<m.length:=by omega
   have hlt:(k:Int)<((m.map rowI).length:Int):=by omega
   have hr1:=map_at (f:=Ty1.row) hk
   have hr2:=map_at (f:=rowI) hkm
   rw[List.drop_eq_getElem_cons hk,List.drop_eq_getElem_cons hkm]at k2;simp only[modeOk]at k2;have hc:=classed_e hx l[k] m[k]
   generalize l[k]=t at hr1 hc k2;generalize m[k]=x at hr2 hc k2;simp only[Ty1.row,rowI]at hr1 hr2;simp only[Ty1.av]at hc
   cases hcl:classedP t x with
   | true=>
    rw[hcl]at hc k2;simp(maxSteps:=9^9)(disch:=first|(intros;contradiction)|omega)only[go_sem,hlt,hr1,hr2,hc,wrap64]
    exact ih (k+1) _ ⟨hk,by simpa using k2⟩ (by omega) (by simp(maxSteps:=9^9)(disch:=first|(intros;contradiction)|omega)only[go_sem]<;>rfl)
   | false=>
    rw[hcl]at hc k2;rw[k2];simp(maxSteps:=9^9)(disch:=first|(intros;contradiction)|omega)only[go_sem,hlt,hr1,hr2,hc,Bool.false_and]
  ·have hlt:¬(k:Int)<((m.map rowI).length:Int):=by omega
   rw[List.drop_eq_nil_of_le (show l.length≤k by omega),List.drop_eq_nil_of_le (show m.length≤k by omega)]at k2
   rw[k2];simp(maxSteps:=9^9)(disch:=first|(intros;contradiction)|omega)only[go_sem,hlt,modeOk]
 ·have hf:modeOk l m=false:=by
   have key:∀ (l:List Ty1) (m:List Int),modeOk l m=true→l.length=m.length:=by
    intro l;induction l with
    | nil=>intro m h;cases m with
     | nil=>rfl
     | cons=>cases h
    | cons t l ih=>intro m h;cases m with
     | nil=>cases h
     | cons x m=>simp only[modeOk,Bool.and_eq_true]at h;simp[ih m h.2]
   cases h:modeOk l m with
   | false=>rfl
   | true=>exact absurd (key l m h) (by omega)
  rw[hf];simp(maxSteps:=9^9)(disch:=first|(intros;contradiction)|omega)only[go_sem,hlen]
def formedC(c:Cd1):Int:=
 if((c.vars++[c.ret]).all fun v=>classedP v.t v.cls)=false then 7
 else if fromP c=false then 3
 else if(c.ins.all fun i=>modeOk (modesP c i) i.mode)=false then 3 else 0
set_option maxHeartbeats 2000000 in
theorem formed_e(hx:TM ext)(c:Cd1)(hn:c.ins.length≤100000)(hv:c.vars.length≤900)(hf:c.frm.length≤1000)(hp:c.params≤c.vars.length)(hi:∀ i,i∈c.ins→i.args.length≤1000∧(usesP i).all (inV c)=true):G ext 41 [c.av] []=some (.ret (.d (.int .i64 (formedC c))),[]):=by
 have hcl:=G_ext (hx.clone c.vars (by omega))
 rw[G_body hx.clear rfl Tryz.func41 rfl Tryz.results41 hv_41 rfl];simp only[Cd1.av];have hroom:room ((c.vars.map Vr1.row).length+1) 32:=room_vrs (by simp;omega)
 simp(maxSteps:=9^9)(disch:=first|(intros;contradiction)|omega)only[go_sem,hcl,hroom]
 generalize hL:loopA _ _ _=L;have hVl:(c.vars.map Vr1.row++[[.bool c.ret.t.ptr,.str c.ret.t.to,.int .i64 c.ret.cls]])=(c.vars++[c.ret]).map Vr1.row:=by simp[Vr1.row]
 rw[hVl]at hL;have hVn:(c.vars.map Vr1.row).length+1=(c.vars++[c.ret]).length:=by simp
 rw[hVn]at hL;have hVb:(c.vars++[c.ret]).length≤901:=by simp;omega
 unfold formedC;generalize hV:c.vars++[c.ret]=V at hL hVb ⊢
 apply loop_post hL (fun k:Nat=>k≤V.length∧((V.take k).all fun v=>classedP v.t v.cls)=true) (fun k=>V.length-k)
  (fun k=>⟨[(0,.agg [.d (.str c.name),.d (.int .i64 c.params),.d (.sl (c.vars.map Vr1.row)),.d (.bool c.ret.t.ptr),.d (.str c.ret.t.to),.d (.int .i64 c.ret.cls),.d (ints c.frm),.d (.sl (c.ins.map In1.row))]),(1,.ptr 0 0),(2,.d (.int .i64 0)),(4,.any),(6,.tuple []),(13,.grow 2 1 (V.map Vr1.row)),(14,.d (.int .i64 V.length)),(15,.d (.int .i64 k)),(30,.tuple []),(31,.tuple []),(32,.tuple [])],[],[.cells [.d (.str c.name),.d (.int .i64 c.params),.d (.sl (c.vars.map Vr1.row)),.d (.bool c.ret.t.ptr),.d (.str c.ret.t.to),.d (.int .i64 c.ret.cls),.d (ints c.frm),.d (.sl (c.ins.map In1.row))],.no,.grow 1 3]⟩)
  0 (by simp(maxSteps:=9^9)(disch:=first|(intros;contradiction)|omega)only[go_sem]<;>rfl) ⟨Nat.zero_le _,by simp⟩
 clear hL;rintro k ⟨k1,k2⟩ next ih
 by_cases hk:k<V.length
 ·have hlt:(k:Int)<(V.length:Int):=by omega
  have hr:=map_at (f:=Vr1.row) hk
  have hget:V[k]?=some V[k]:=List.getElem?_eq_getElem hk
  have hce:=classed_e hx.toTX V[k].t V[k].cls
  generalize V[k]=v at hr hget hce;simp only[Vr1.row]at hr;simp only[Ty1.av]at hce
  cases hcl:classedP v.t v.cls with
  | true=>
   rw[hcl]at hce;simp(maxSteps:=9^9)(disch:=first|(intros;contradiction)|omega)only[go_sem,hlt,hr,hce,wrap64]
   exact ih (k+1) _ ⟨hk,by rw[List.take_add_one,hget,List.all_append,k2];simp[hcl]⟩ (by omega) (by simp(maxSteps:=9^9)(disch:=first|(intros;contradiction)|omega)only[go_sem]<;>rfl)
  | false=>
   rw[hcl]at hce;rw[if_pos (by rw[List.all_eq_false];exact⟨v,List.mem_of_getElem? hget,by simp[hcl]⟩)]
   simp(maxSteps:=9^9)(disch:=first|(intros;contradiction)|omega)only[go_sem,hlt,hr,hce]
 ·have hlt:¬(k:Int)<(V.length:Int):=by omega
  rw[List.take_of_length_le (by omega)]at k2
  rw[if_neg (by rw[k2];decide)]
  have hfe:=from_e hx.toTX c hf hp
  simp only[Cd1.av]at hfe
  cases hfp:fromP c with
  | false=>
   rw[hfp]at hfe;rw[if_pos rfl];simp(maxSteps:=9^9)(disch:=first|(intros;contradiction)|omega)only[go_sem,hlt,hfe]
  | true=>
   rw[hfp]at hfe;rw[if_neg (by decide)]
   simp(maxSteps:=9^9)(disch:=first|(intros;contradiction)|omega)only[go_sem,hlt,hfe]
   generalize hL:loopA _ _ _=L
   apply loop_post hL (fun q:Nat=>q≤c.ins.length∧((c.ins.take q).all fun i=>modeOk (modesP c i) i.mode)=true) (fun q=>c.ins.length-q)
    (fun q=>⟨[(0,.agg [.d (.str c.name),.d (.int .i64 c.params),.d (.sl (c.vars.map Vr1.row)),.d (.bool c.ret.t.ptr),.d (.str c.ret.t.to),.d (.int .i64 c.ret.cls),.d (ints c.frm),.d (.sl (c.ins.map In1.row))]),(1,.ptr 0 0),(2,.d (.int .i64 0)),(4,.any),(6,.any),(13,.grow 2 1 (V.map Vr1.row)),(14,.d (.int .i64 V.length)),(15,.d (.int .i64 k)),(30,.d (.sl (c.ins.map In1.row))),(31,.d (.int .i64 (c.ins.map In1.row).length)),(32,.d (.int .i64 q))],[],[.cells [.d (.str c.name),.d (.int .i64 c.params),.d (.sl (c.vars.map Vr1.row)),.d (.bool c.ret.t.ptr),.d (.str c.ret.t.to),.d (.int .i64 c.ret.cls),.d (ints c.frm),.d (.sl (c.ins.map In1.row))],.no,.grow 1 3]⟩)
    0 (by simp(maxSteps:=9^9)(disch:=first|(intros;contradiction)|omega)only[go_sem]<;>rfl) ⟨Nat.zero_le _,by simp⟩
   clear hL ih;rintro q ⟨q1,q2⟩ next2 ih
   have hil:(c.ins.map In1.row).length=c.ins.length:=List.length_map _
   by_cases hq:q<c.ins.length
   ·have hlt2:(q:Int)<((c.ins.map In1.row).length:Int):=by omega
    have hr:=map_at (f:=In1.row) hq
    have hget:c.ins[q]?=some c.ins[q]:=List.getElem?_eq_getElem hq
    obtain⟨hi1,hi2⟩:=hi _ (List.getElem_mem hq)
    generalize c.ins[q]=i at hr hget hi1 hi2;have hm:=modes_e hx.toTX c i hi1 hi2
    have hml:(modesP c i).length≤1000:=by
     unfold modesP;split
     ·simp
     ·split
      ·split<;>simp
      ·split
       ·simp;omega
       ·simp
    have heq:=equalM_e hx.toTX (modesP c i) i.mode hml
    simp only[In1.row]at hr;simp only[Cd1.av,In1.av]at hm
    cases ho:modeOk (modesP c i) i.mode with
    | true=>
     rw[ho]at heq;simp(maxSteps:=9^9)(disch:=first|(intros;contradiction)|omega)only[go_sem,hlt2,hr,hm,heq,wrap64]
     exact ih (q+1) _ ⟨hq,by rw[List.take_add_one,hget,List.all_append,q2];simp[ho]⟩ (by omega) (by simp(maxSteps:=9^9)(disch:=first|(intros;contradiction)|omega)only[go_sem]<;>rfl)
    | false=>
     rw[ho]at heq;rw[if_pos (by rw[List.all_eq_false];exact⟨i,List.mem_of_getElem? hget,by simp[ho]⟩)]
     simp(maxSteps:=9^9)(disch:=first|(intros;contradiction)|omega)only[go_sem,hlt2,hr,hm,heq]
   ·have hlt2:¬(q:Int)<((c.ins.map In1.row).length:Int):=by omega
    rw[List.take_of_length_le (by omega)]at q2
    rw[if_neg (by rw[q2];decide)]
    simp(maxSteps:=9^9)(disch:=first|(intros;contradiction)|omega)only[go_sem,hlt2]
theorem firstP_zero{α:Type}{f:α→Int}:∀ {l:List α},firstP f l=0→∀ x,x∈l→f x=0
 | [],_,_,h=>by cases h
 | y::l,h,x,hx=>by
  simp only[firstP]at h;split at h
  ·rename_i hy;rcases List.mem_cons.1 hx with rfl|hx
   ·exact hy
   ·exact firstP_zero h x hx
  ·rename_i hy;exact absurd h hy
theorem right_codes{m:Md1}(h:rightP m=0):twiceP m=false∧(typesL m).all (knownP m)=true∧∀ c,c∈m.funcs→codeP m c=0:=by
 unfold rightP at h;split at h
 ·cases h
 ·split at h
  ·cases h
  ·rename_i h2;split at h
   ·cases h
   ·rename_i h3;split at h
    ·rename_i h4;exact⟨by simpa using h2,by simpa using h3,fun c hc=>firstP_zero h4 c hc⟩
    ·rename_i h4;exact absurd h h4
theorem code_ins{m:Md1}{c:Cd1}(h:codeP m c=0):0≤c.params∧c.params≤c.vars.length∧1≤c.ins.length∧∀ i,i∈c.ins→instrP m c i=0:=by
 unfold codeP at h;split at h
 ·cases h
 ·split at h
  ·cases h
  ·split at h
   ·rename_i h4;exact⟨by omega,by omega,by omega,fun i hi=>firstP_zero h4 i hi⟩
   ·rename_i h4;exact absurd h h4
theorem instr_uses{m:Md1}{c:Cd1}{i:In1}(h:instrP m c i=0):(1≤i.op∧i.op≤18)∧(usesP i).all (inV c)=true:=by
 unfold instrP at h;split at h
 ·cases h
 ·split at h
  ·cases h
  ·rename_i h2;exact⟨by omega,by simpa using h2⟩
def formedP(m:Md1):Int:=if rightP m=0 then(if namedP m then firstP formedC m.funcs else 3)else rightP m
set_option maxHeartbeats 2000000 in
theorem bformed_e(hx:TM ext)(m:Md1)(hm:LightM m)(hnm:∀ s,s∈m.structs→∀ f,f∈s.fields→f.name.length≤9223372036854775807):G ext 25 [m.av] []=some (.ret (.d (.int .i64 (formedP m))),[]):=by
 have hcl:(m.funcs.map Cd1.row).length=m.funcs.length:=List.length_map _
 have hs40:=hm.structs
 have hf70:=hm.funcs
 have hri:=right_e hx m hm
 have hna:=named_e hx.toTX m (by omega) (by omega) (fun s hs=>⟨by have:=(hm.fields s hs).2.1;omega,by have:=(hm.fields s hs).1;omega,hnm s hs⟩) (fun c hc=>by have:=(hm.vars c hc).2.2.1;omega)
 rw[G_body hx.clear rfl Tryz.func25 rfl Tryz.results25 hv_25 rfl];unfold formedP;simp only[Md1.av,Md1.sr,Md1.fr]at hri hna ⊢;by_cases h1:rightP m=0
 ·rw[if_pos h1];rw[h1]at hri;obtain⟨_,_,hcodes⟩:=right_codes h1
  cases h2:namedP m with
  | false=>
   rw[h2]at hna;simp only[Bool.false_eq_true,if_false];simp(maxSteps:=9^9)(disch:=first|(intros;contradiction)|omega)only[go_sem,hri,hna]
  | true=>
   rw[h2]at hna;simp only[if_true];simp(maxSteps:=9^9)(disch:=first|(intros;contradiction)|omega)only[go_sem,hri,hna]
   generalize hL:loopA _ _ _=L
   apply loop_post hL (fun k:Nat=>k≤m.funcs.length∧firstP formedC m.funcs=firstP formedC (m.funcs.drop k)) (fun k=>m.funcs.length-k)
    (fun k=>⟨[(0,.agg [.d (.sl (m.structs.map Sc1.row)),.d (.sl (m.funcs.map Cd1.row))]),(1,.ptr 0 0),(2,.d (.int .i64 0)),(3,.d (.int .i64 0)),(5,.any),(6,.any),(16,.d (.sl (m.funcs.map Cd1.row))),(17,.d (.int .i64 (m.funcs.map Cd1.row).length)),(18,.d (.int .i64 k))],[],[.cells [.d (.sl (m.structs.map Sc1.row)),.d (.sl (m.funcs.map Cd1.row))]]⟩)
    0 (by simp(maxSteps:=9^9)(disch:=first|(intros;contradiction)|omega)only[go_sem]<;>rfl) ⟨Nat.zero_le _,by simp⟩
   clear hL;rintro k ⟨k1,k2⟩ next ih
   by_cases hk:k<m.funcs.length
   ·have hlt:(k:Int)<((m.funcs.map Cd1.row).length:Int):=by omega
    have hr:=map_at (f:=Cd1.row) hk
    have hmem:=List.getElem_mem hk
    have hci:=code_ins (hcodes _ hmem)
    have hb:=hm.vars _ hmem
    have hfo:=formed_e hx m.funcs[k] (by omega) (by omega) (by omega) hci.2.1 (fun i hi=>⟨by have:=(hm.ins _ hmem i hi).1;omega,(instr_uses (hci.2.2.2 i hi)).2⟩)
    rw[firstP_drop hk]at k2;clear hmem hci hb;generalize m.funcs[k]=c at hr hfo k2;simp only[Cd1.row]at hr;simp only[Cd1.av]at hfo;by_cases hz:formedC c=0
    ·rw[if_pos hz]at k2;rw[hz]at hfo;simp(maxSteps:=9^9)(disch:=first|(intros;contradiction)|omega)only[go_sem,hlt,hr,hfo,wrap64]
     exact ih (k+1) _ ⟨hk,k2⟩ (by omega) (by simp(maxSteps:=9^9)(disch:=first|(intros;contradiction)|omega)only[go_sem]<;>rfl)
    ·rw[if_neg hz]at k2;rw[k2];simp(maxSteps:=9^9)(disch:=first|(intros;contradiction)|omega)only[go_sem,hlt,hr,hfo,hz]
   ·have hlt:¬(k:Int)<((m.funcs.map Cd1.row).length:Int):=by omega
    rw[List.drop_eq_nil_of_le (by omega)]at k2
    have k2:firstP formedC m.funcs=0:=k2
    rw[k2];simp(maxSteps:=9^9)(disch:=first|(intros;contradiction)|omega)only[go_sem,hlt]
 ·rw[if_neg h1];simp(maxSteps:=9^9)(disch:=first|(intros;contradiction)|omega)only[go_sem,hri,h1]
end Go.Proofs.YticliodhjfednaaGreat
