/- ir: names that are there twice; the types that are named. Conditions: none. -/
import Derived.Test.YticliodhjfednaaGreatM7
set_option linter.unusedSimpArgs false
set_option linter.unusedVariables false
namespace Go.Proofs.YticliodhjfednaaGreat
open Go Go.Ab
variable {ext:Sem'}
def twiceP(m:Md1):Bool:=(m.structs.any fun s=>dbl (s.fields.map (·.name)))||(dbl (m.structs.map (·.name))||dbl (m.funcs.map (·.name)))
theorem room_strs{n:Nat}(h:n≤1000000):room n 16:=by unfold room;simp;omega
def strsR(l:List (List UInt8)):List (List Dt):=l.map fun x=>[.str x]
theorem doubledR(hx:TX ext)(l:List (List UInt8))(hl:l.length≤1000):G ext 104 [.d (.sl (strsR l))] []=some (.ret (.d (.bool (dbl l))),[]):=doubled_e hx l hl
theorem strsR_snoc{α:Type}(f:α→List UInt8){l:List α}{i:Nat}{x:α}(h:l[i]?=some x):strsR ((l.take (i+1)).map f)=strsR ((l.take i).map f)++[[.str (f x)]]:=by
 rw[List.take_add_one,h];simp[strsR]
set_option maxHeartbeats 4000000 in
theorem twice_e(hx:TX ext)(m:Md1)(hm:m.structs.length≤40)(hf:m.funcs.length≤70)(hfl:∀ s,s∈m.structs→s.fields.length≤1000):G ext 63 [m.av] []=some (.ret (.d (.bool (twiceP m))),[]):=by
 have hsl:(m.structs.map Sc1.row).length=m.structs.length:=List.length_map _
 have hcl:(m.funcs.map Cd1.row).length=m.funcs.length:=List.length_map _
 rw[G_body hx.clear rfl Tryz.func63 rfl Tryz.results63 hv_63 rfl];simp only[Md1.av,Md1.sr,Md1.fr];simp(maxSteps:=9^9)(disch:=first|(intros;contradiction)|omega)only[go_sem]
 generalize hL:loopA _ _ _=L
 apply loop_post hL (fun i:Nat=>i≤m.structs.length∧(m.structs.take i).any (fun s=>dbl (s.fields.map (·.name)))=false) (fun i=>m.structs.length-i)
  (fun i=>⟨[(0,.agg [.d (.sl (m.structs.map Sc1.row)),.d (.sl (m.funcs.map Cd1.row))]),(1,.ptr 0 0),(2,.d (.bool false)),(3,.grow 1 i (strsR ((m.structs.take i).map (·.name)))),(4,.grow 2 0 []),(6,.any),(7,.any),(9,.any),(11,.tuple []),(13,.d (.sl (m.structs.map Sc1.row))),(14,.d (.int .i64 (m.structs.map Sc1.row).length)),(15,.d (.int .i64 i)),(20,.any),(21,.any),(22,.any),(41,.tuple []),(42,.tuple []),(43,.tuple [])],[],[.cells [.d (.sl (m.structs.map Sc1.row)),.d (.sl (m.funcs.map Cd1.row))],.grow i 1,.grow 0 1]⟩)
  0 (by simp only[List.take_zero,strsR,List.map_nil];simp(maxSteps:=9^9)(disch:=first|(intros;contradiction)|omega)only[go_sem]<;>rfl) ⟨Nat.zero_le _,by simp⟩
 clear hL;rintro i ⟨i1,i2⟩ next ih
 by_cases h:i<m.structs.length
 ·have hlt:(i:Int)<((m.structs.map Sc1.row).length:Int):=by omega
  have hr:=map_at (f:=Sc1.row) h
  have hget:m.structs[i]?=some m.structs[i]:=List.getElem?_eq_getElem h
  have hfl':=hfl _ (List.getElem_mem h)
  generalize m.structs[i]=s at hr hget hfl';simp only[Sc1.row]at hr;have hfll:(s.fields.map Fd1.row).length=s.fields.length:=List.length_map _
  simp(maxSteps:=9^9)(disch:=first|(intros;contradiction)|omega)only[go_sem,hlt,hr]
  generalize hL:loopA _ _ _=L
  apply loop_post hL (fun k:Nat=>k≤s.fields.length) (fun k=>s.fields.length-k)
   (fun k=>⟨[(0,.agg [.d (.sl (m.structs.map Sc1.row)),.d (.sl (m.funcs.map Cd1.row))]),(1,.ptr 0 0),(2,.d (.bool false)),(3,.grow 1 i (strsR ((m.structs.take i).map (·.name)))),(4,.grow 2 0 []),(6,.ptr 3 0),(7,.grow 4 k (strsR ((s.fields.take k).map (·.name)))),(9,.any),(11,.tuple []),(13,.d (.sl (m.structs.map Sc1.row))),(14,.d (.int .i64 (m.structs.map Sc1.row).length)),(15,.d (.int .i64 i)),(20,.d (.sl (s.fields.map Fd1.row))),(21,.d (.int .i64 (s.fields.map Fd1.row).length)),(22,.d (.int .i64 k)),(41,.tuple []),(42,.tuple []),(43,.tuple [])],[],[.cells [.d (.sl (m.structs.map Sc1.row)),.d (.sl (m.funcs.map Cd1.row))],.grow i 1,.grow 0 1,.cells [.d (.str s.name),.d (.sl (s.fields.map Fd1.row)),.d (.int .i64 s.pos.1),.d (.int .i64 s.pos.2)],.grow k 1]⟩)
   0 (by simp only[List.take_zero,strsR,List.map_nil];simp(maxSteps:=9^9)(disch:=first|(intros;contradiction)|omega)only[go_sem]<;>rfl) (Nat.zero_le _)
  clear hL;intro k k1 next2 ih2;by_cases hk:k<s.fields.length
  ·have hlt2:(k:Int)<((s.fields.map Fd1.row).length:Int):=by omega
   have hr2:=map_at (f:=Fd1.row) hk
   have hsn:=strsR_snoc (·.name) (List.getElem?_eq_getElem hk)
   generalize s.fields[k]=f at hr2 hsn;simp only[Fd1.row]at hr2;have hroom:room ((strsR ((s.fields.take k).map (·.name))).length+1) 16:=room_strs (by simp[strsR];omega)
   simp(maxSteps:=9^9)(disch:=first|(intros;contradiction)|omega)only[go_sem,hlt2,hr2,hroom,wrap64]
   exact ih2 (k+1) _ hk (by omega) (by rw[hsn];simp(maxSteps:=9^9)(disch:=first|(intros;contradiction)|omega)only[go_sem]<;>rfl)
  ·have hlt2:¬(k:Int)<((s.fields.map Fd1.row).length:Int):=by omega
   have hkk:k=s.fields.length:=by omega
   subst hkk;rw[List.take_length];have hd:=doubledR hx (s.fields.map (·.name)) (by rw[List.length_map];omega)
   have hsn:=strsR_snoc (·.name) hget
   have hroom:room ((strsR ((m.structs.take i).map (·.name))).length+1) 16:=room_strs (by simp[strsR];omega)
   cases hdb:dbl (s.fields.map (·.name))with
   | true=>
    rw[hdb]at hd
    have e:twiceP m=true:=by
     unfold twiceP;rw[Bool.or_eq_true];left
     exact List.any_eq_true.2 ⟨s,List.mem_of_getElem? hget,hdb⟩
    rw[e];simp(maxSteps:=9^9)(disch:=first|(intros;contradiction)|omega)only[go_sem,hlt2,hd]
   | false=>
    rw[hdb]at hd;simp(maxSteps:=9^9)(disch:=first|(intros;contradiction)|omega)only[go_sem,hlt2,hd,hroom,wrap64]
    exact ih (i+1) _ ⟨h,by rw[List.take_add_one,hget,List.any_append,i2];simp[hdb]⟩ (by omega) (by rw[hsn];simp(maxSteps:=9^9)(disch:=first|(intros;contradiction)|omega)only[go_sem]<;>rfl)
 ·have hlt:¬(i:Int)<((m.structs.map Sc1.row).length:Int):=by omega
  simp(maxSteps:=9^9)(disch:=first|(intros;contradiction)|omega)only[go_sem,hlt]
  generalize hL:loopA _ _ _=L
  apply loop_post hL (fun k:Nat=>k≤m.funcs.length) (fun k=>m.funcs.length-k)
   (fun k=>⟨[(0,.agg [.d (.sl (m.structs.map Sc1.row)),.d (.sl (m.funcs.map Cd1.row))]),(1,.ptr 0 0),(2,.d (.bool false)),(3,.grow 1 i (strsR ((m.structs.take i).map (·.name)))),(4,.grow 2 k (strsR ((m.funcs.take k).map (·.name)))),(6,.any),(7,.any),(9,.any),(11,.any),(13,.d (.sl (m.structs.map Sc1.row))),(14,.d (.int .i64 (m.structs.map Sc1.row).length)),(15,.d (.int .i64 i)),(20,.any),(21,.any),(22,.any),(41,.d (.sl (m.funcs.map Cd1.row))),(42,.d (.int .i64 (m.funcs.map Cd1.row).length)),(43,.d (.int .i64 k))],[],[.cells [.d (.sl (m.structs.map Sc1.row)),.d (.sl (m.funcs.map Cd1.row))],.grow i 1,.grow k 1]⟩)
   0 (by simp only[List.take_zero,List.map_nil];simp(maxSteps:=9^9)(disch:=first|(intros;contradiction)|omega)only[go_sem]<;>rfl) (Nat.zero_le _)
  clear hL;intro k k1 next2 ih2;by_cases hk:k<m.funcs.length
  ·have hlt2:(k:Int)<((m.funcs.map Cd1.row).length:Int):=by omega
   have hr2:=map_at (f:=Cd1.row) hk
   have hsn:=strsR_snoc (·.name) (List.getElem?_eq_getElem hk)
   generalize m.funcs[k]=f at hr2 hsn;simp only[Cd1.row]at hr2;have hroom:room ((strsR ((m.funcs.take k).map (·.name))).length+1) 16:=room_strs (by simp[strsR];omega)
   simp(maxSteps:=9^9)(disch:=first|(intros;contradiction)|omega)only[go_sem,hlt2,hr2,hroom,wrap64]
   exact ih2 (k+1) _ hk (by omega) (by rw[hsn];simp(maxSteps:=9^9)(disch:=first|(intros;contradiction)|omega)only[go_sem]<;>rfl)
  ·have hlt2:¬(k:Int)<((m.funcs.map Cd1.row).length:Int):=by omega
   have hkk:k=m.funcs.length:=by omega
   have hii:i=m.structs.length:=by omega
   subst hkk hii;rw[List.take_length]at i2;rw[List.take_length,List.take_length];have e:twiceP m=(dbl (m.structs.map (·.name))||dbl (m.funcs.map (·.name))):=by unfold twiceP;rw[i2];rfl
   rw[e];have hd1:=doubledR hx (m.structs.map (·.name)) (by rw[List.length_map];omega)
   have hd2:=doubledR hx (m.funcs.map (·.name)) (by rw[List.length_map];omega)
   cases hdb:dbl (m.structs.map (·.name))<;>rw[hdb]at hd1<;>simp(maxSteps:=9^9)(disch:=first|(intros;contradiction)|omega)only[go_sem,hlt2,hd1,hd2,Bool.true_or,Bool.false_or]
def typesS(l:List Sc1):List Ty1:=l.flatMap fun s=>s.fields.map (·.t)
def typesC(l:List Cd1):List Ty1:=l.flatMap fun c=>c.ret.t::c.vars.map (·.t)
def typesL(m:Md1):List Ty1:=typesS m.structs++typesC m.funcs
def tyI(l:List Ty1):List (List AV):=l.map fun t=>[t.av]
set_option maxHeartbeats 4000000 in
theorem types1_e(hx:TX ext)(m:Md1)(hm:m.structs.length≤40)(hf:m.funcs.length≤70)(hfl:∀ s,s∈m.structs→s.fields.length≤1000)(hvs:∀ c,c∈m.funcs→c.vars.length≤1000)(o o':AObj)(hl:Listens o)(ho:fed (tyI (typesL m)) o=some o') :
  G ext 105 [.yld 1,.ptr 0 0] [.cells [.d m.sr,.d m.fr],o]=some (.ret (.tuple []),[.cells [.d m.sr,.d m.fr],o']):=by
 have hsl:(m.structs.map Sc1.row).length=m.structs.length:=List.length_map _
 have hcl:(m.funcs.map Cd1.row).length=m.funcs.length:=List.length_map _
 rw[G_body hx.clear rfl Tryz.func105 rfl Tryz.results105 hv_105 rfl];simp only[Md1.sr,Md1.fr];simp(maxSteps:=9^9)(disch:=first|(intros;contradiction)|omega)only[go_sem]
 generalize hL:loopA _ _ _=L
 apply loop_post hL (fun x:Nat×AObj=>x.1≤m.structs.length∧Listens x.2∧fed (tyI (typesS (m.structs.drop x.1)++typesC m.funcs)) x.2=some o') (fun x=>m.structs.length-x.1)
  (fun x=>⟨[(0,.yld 1),(1,.ptr 0 0),(4,.any),(6,.any),(8,.tuple []),(10,.tuple []),(12,.d (.sl (m.structs.map Sc1.row))),(13,.d (.int .i64 (m.structs.map Sc1.row).length)),(14,.d (.int .i64 x.1)),(19,.any),(20,.any),(21,.any),(33,.tuple []),(34,.tuple []),(35,.tuple []),(46,.tuple []),(47,.tuple []),(48,.tuple [])],[],[.cells [.d (.sl (m.structs.map Sc1.row)),.d (.sl (m.funcs.map Cd1.row))],x.2]⟩)
  (0,o) (by simp(maxSteps:=9^9)(disch:=first|(intros;contradiction)|omega)only[go_sem,hl.refs]<;>rfl) ⟨Nat.zero_le _,hl,by simpa[typesL]using ho⟩
 clear hL;rintro⟨i,o⟩ ⟨i1,hl,ho⟩ next ih
 simp only at i1 hl ho ih ⊢
 by_cases h:i<m.structs.length
 ·have hlt:(i:Int)<((m.structs.map Sc1.row).length:Int):=by omega
  have hr:=map_at (f:=Sc1.row) h
  rw[List.drop_eq_getElem_cons h]at ho;have hfl':=hfl _ (List.getElem_mem h)
  generalize m.structs[i]=s at hr ho hfl';simp only[Sc1.row]at hr;have hfll:(s.fields.map Fd1.row).length=s.fields.length:=List.length_map _
  simp(maxSteps:=9^9)(disch:=first|(intros;contradiction)|omega)only[go_sem,hlt,hr,hl.refs]
  generalize hL:loopA _ _ _=L
  apply loop_post hL (fun x:Nat×AObj=>x.1≤s.fields.length∧Listens x.2∧fed (tyI ((s.fields.drop x.1).map (·.t)++(typesS (m.structs.drop (i+1))++typesC m.funcs))) x.2=some o') (fun x=>s.fields.length-x.1)
   (fun x=>⟨[(0,.yld 1),(1,.ptr 0 0),(4,.ptr 2 0),(6,.any),(8,.tuple []),(10,.tuple []),(12,.d (.sl (m.structs.map Sc1.row))),(13,.d (.int .i64 (m.structs.map Sc1.row).length)),(14,.d (.int .i64 i)),(19,.d (.sl (s.fields.map Fd1.row))),(20,.d (.int .i64 (s.fields.map Fd1.row).length)),(21,.d (.int .i64 x.1)),(33,.tuple []),(34,.tuple []),(35,.tuple []),(46,.tuple []),(47,.tuple []),(48,.tuple [])],[],[.cells [.d (.sl (m.structs.map Sc1.row)),.d (.sl (m.funcs.map Cd1.row))],x.2,.cells [.d (.str s.name),.d (.sl (s.fields.map Fd1.row)),.d (.int .i64 s.pos.1),.d (.int .i64 s.pos.2)]]⟩)
   (0,o) (by simp(maxSteps:=9^9)(disch:=first|(intros;contradiction)|omega)only[go_sem,hl.refs]<;>rfl) ⟨Nat.zero_le _,hl,by rw[List.drop_zero];simpa[typesS]using ho⟩
  clear hL ho hl o;rintro⟨k,o⟩ ⟨k1,hl,ho⟩ next2 ih2
  simp only at k1 hl ho ih2 ⊢
  by_cases hk:k<s.fields.length
  ·have hlt2:(k:Int)<((s.fields.map Fd1.row).length:Int):=by omega
   have hr2:=map_at (f:=Fd1.row) hk
   rw[List.drop_eq_getElem_cons hk]at ho;generalize s.fields[k]=f at hr2 ho;simp only[Fd1.row]at hr2;simp only[tyI,List.map_cons,List.cons_append,Ty1.av]at ho;rcases fed_cons ho with⟨o1,j1,j2⟩|j1
   ·have hl1:=(feed1_listens j1).2
    simp(maxSteps:=9^9)(disch:=first|(intros;contradiction)|omega)only[go_sem,hlt2,hr2,hl.refs,yieldK_feed j1,wrap64]
    exact ih2 (k+1,o1) _ ⟨hk,hl1,j2⟩ (by simp only;omega) (by simp(maxSteps:=9^9)(disch:=first|(intros;contradiction)|omega)only[go_sem,hl1.refs]<;>rfl)
   ·simp(maxSteps:=9^9)(disch:=first|(intros;contradiction)|omega)only[go_sem,hlt2,hr2,hl.refs,(feed1_listens j1).2.refs,yieldK_feed j1]
  ·have hlt2:¬(k:Int)<((s.fields.map Fd1.row).length:Int):=by omega
   rw[List.drop_eq_nil_of_le (by omega)]at ho
   simp(maxSteps:=9^9)(disch:=first|(intros;contradiction)|omega)only[go_sem,hlt2,hl.refs,wrap64]
   exact ih (i+1,o) _ ⟨h,hl,by simpa using ho⟩ (by simp only;omega) (by simp(maxSteps:=9^9)(disch:=first|(intros;contradiction)|omega)only[go_sem,hl.refs]<;>rfl)
 ·have hlt:¬(i:Int)<((m.structs.map Sc1.row).length:Int):=by omega
  simp(maxSteps:=9^9)(disch:=first|(intros;contradiction)|omega)only[go_sem,hlt,hl.refs]
  generalize hL:loopA _ _ _=L;rw[List.drop_eq_nil_of_le (by omega)]at ho
  apply loop_post hL (fun x:Nat×AObj=>x.1≤m.funcs.length∧Listens x.2∧fed (tyI (typesC (m.funcs.drop x.1))) x.2=some o') (fun x=>m.funcs.length-x.1)
   (fun x=>⟨[(0,.yld 1),(1,.ptr 0 0),(4,.any),(6,.any),(8,.any),(10,.any),(12,.d (.sl (m.structs.map Sc1.row))),(13,.d (.int .i64 (m.structs.map Sc1.row).length)),(14,.d (.int .i64 i)),(19,.any),(20,.any),(21,.any),(33,.d (.sl (m.funcs.map Cd1.row))),(34,.d (.int .i64 (m.funcs.map Cd1.row).length)),(35,.d (.int .i64 x.1)),(46,.any),(47,.any),(48,.any)],[],[.cells [.d (.sl (m.structs.map Sc1.row)),.d (.sl (m.funcs.map Cd1.row))],x.2]⟩)
   (0,o) (by simp(maxSteps:=9^9)(disch:=first|(intros;contradiction)|omega)only[go_sem,hl.refs]<;>rfl) ⟨Nat.zero_le _,hl,by simpa[typesS]using ho⟩
  clear hL ho hl o;rintro⟨k,o⟩ ⟨k1,hl,ho⟩ next2 ih2
  simp only at k1 hl ho ih2 ⊢
  by_cases hk:k<m.funcs.length
  ·have hlt2:(k:Int)<((m.funcs.map Cd1.row).length:Int):=by omega
   have hr2:=map_at (f:=Cd1.row) hk
   rw[List.drop_eq_getElem_cons hk]at ho;have hvs':=hvs _ (List.getElem_mem hk)
   generalize m.funcs[k]=c at hr2 ho hvs';simp only[Cd1.row]at hr2;have hvl:(c.vars.map Vr1.row).length=c.vars.length:=List.length_map _
   have ho':fed (tyI (c.ret.t::(c.vars.map (·.t)++typesC (m.funcs.drop (k+1))))) o=some o':=by simpa[typesC]using ho
   simp only[tyI,List.map_cons,Ty1.av]at ho';clear ho;rcases fed_cons ho' with⟨o1,j1,j2⟩|j1
   ·have hl1:=(feed1_listens j1).2
    simp(maxSteps:=9^9)(disch:=first|(intros;contradiction)|omega)only[go_sem,hlt2,hr2,hl.refs,hl1.refs,yieldK_feed j1]
    generalize hL:loopA _ _ _=L
    apply loop_post hL (fun x:Nat×AObj=>x.1≤c.vars.length∧Listens x.2∧fed (tyI ((c.vars.drop x.1).map (·.t)++typesC (m.funcs.drop (k+1)))) x.2=some o') (fun x=>c.vars.length-x.1)
     (fun x=>⟨[(0,.yld 1),(1,.ptr 0 0),(4,.any),(6,.any),(8,.ptr 2 0),(10,.any),(12,.d (.sl (m.structs.map Sc1.row))),(13,.d (.int .i64 (m.structs.map Sc1.row).length)),(14,.d (.int .i64 i)),(19,.any),(20,.any),(21,.any),(33,.d (.sl (m.funcs.map Cd1.row))),(34,.d (.int .i64 (m.funcs.map Cd1.row).length)),(35,.d (.int .i64 k)),(46,.d (.sl (c.vars.map Vr1.row))),(47,.d (.int .i64 (c.vars.map Vr1.row).length)),(48,.d (.int .i64 x.1))],[],[.cells [.d (.sl (m.structs.map Sc1.row)),.d (.sl (m.funcs.map Cd1.row))],x.2,.cells [.d (.str c.name),.d (.int .i64 c.params),.d (.sl (c.vars.map Vr1.row)),.d (.bool c.ret.t.ptr),.d (.str c.ret.t.to),.d (.int .i64 c.ret.cls),.d (ints c.frm),.d (.sl (c.ins.map In1.row))]]⟩)
     (0,o1) (by simp(maxSteps:=9^9)(disch:=first|(intros;contradiction)|omega)only[go_sem,hl1.refs]<;>rfl) ⟨Nat.zero_le _,hl1,by rw[List.drop_zero];exact j2⟩
    clear hL j1 j2 hl1 o1 hl ho' o;rintro⟨q,o⟩ ⟨q1,hl,ho⟩ next3 ih3
    simp only at q1 hl ho ih3 ⊢
    by_cases hq:q<c.vars.length
    ·have hlt3:(q:Int)<((c.vars.map Vr1.row).length:Int):=by omega
     have hr3:=map_at (f:=Vr1.row) hq
     rw[List.drop_eq_getElem_cons hq]at ho;generalize c.vars[q]=v at hr3 ho;simp only[Vr1.row]at hr3;simp only[tyI,List.map_cons,List.cons_append,Ty1.av]at ho;rcases fed_cons ho with⟨o1,j1,j2⟩|j1
     ·have hl1:=(feed1_listens j1).2
      simp(maxSteps:=9^9)(disch:=first|(intros;contradiction)|omega)only[go_sem,hlt3,hr3,hl.refs,yieldK_feed j1,wrap64]
      exact ih3 (q+1,o1) _ ⟨hq,hl1,j2⟩ (by simp only;omega) (by simp(maxSteps:=9^9)(disch:=first|(intros;contradiction)|omega)only[go_sem,hl1.refs]<;>rfl)
     ·simp(maxSteps:=9^9)(disch:=first|(intros;contradiction)|omega)only[go_sem,hlt3,hr3,hl.refs,(feed1_listens j1).2.refs,yieldK_feed j1]
    ·have hlt3:¬(q:Int)<((c.vars.map Vr1.row).length:Int):=by omega
     rw[List.drop_eq_nil_of_le (by omega)]at ho
     simp(maxSteps:=9^9)(disch:=first|(intros;contradiction)|omega)only[go_sem,hlt3,hl.refs,wrap64]
     exact ih2 (k+1,o) _ ⟨hk,hl,by simpa using ho⟩ (by simp only;omega) (by simp(maxSteps:=9^9)(disch:=first|(intros;contradiction)|omega)only[go_sem,hl.refs]<;>rfl)
   ·simp(maxSteps:=9^9)(disch:=first|(intros;contradiction)|omega)only[go_sem,hlt2,hr2,hl.refs,(feed1_listens j1).2.refs,yieldK_feed j1]
  ·have hlt2:¬(k:Int)<((m.funcs.map Cd1.row).length:Int):=by omega
   rw[List.drop_eq_nil_of_le (by omega)]at ho
   cases ho;simp(maxSteps:=9^9)(disch:=first|(intros;contradiction)|omega)only[go_sem,hlt2,hl.refs]
theorem types_e(hx:TX ext)(m:Md1):G ext 64 [m.av] []=some (.ret (.fn 105 [] [.ptr 0 0]),[.cells [.d m.sr,.d m.fr]]):=by
 rw[G_body hx.clear rfl Tryz.func64 rfl Tryz.results64 hv_64 rfl];simp only[Md1.av];simp(maxSteps:=9^9)(disch:=first|(intros;contradiction)|omega)only[go_sem]
theorem tyI_plain(l:List Ty1):plainI (tyI l):=by
 intro x hx;obtain⟨y,_,rfl⟩:=List.mem_map.1 hx
 rfl
end Go.Proofs.YticliodhjfednaaGreat
