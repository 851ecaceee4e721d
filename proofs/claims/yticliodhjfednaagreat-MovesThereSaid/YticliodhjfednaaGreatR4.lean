/- The document's answer for ir: names that are there twice, types. Conditions: none. -/
import Derived.Test.YticliodhjfednaaGreatR2
set_option linter.unusedSimpArgs false
set_option linter.unusedVariables false
namespace Go.Proofs.YticliodhjfednaaGreat
open Go Go.Ab
variable {ext:Sem'}
theorem dupIx{α:Type}(nm:α→List UInt8):∀ {l:List α} {k:Nat} {x:α},l[k]?=some x→(idxN (fun s=>decide (nm s=nm x)) l=k↔nm x∉(l.take k).map nm)
 | [],k,x,h=>by simp at h
 | y::l,0,x,h=>by
  simp at h;subst h;rw[idxN_cons];simp
 | y::l,k+1,x,h=>by
  simp only[List.getElem?_cons_succ]at h
  have ih:=dupIx nm h
  rw[idxN_cons];by_cases e:nm y=nm x
  ·simp[e];omega
  ·have e':¬nm x=nm y:=fun h=>e h.symm
   simp only[e,decide_false,Bool.false_eq_true,if_false,List.take_succ_cons,List.map_cons,List.mem_cons,e',false_or];rw[←ih];split<;>omega
theorem nodup_step{α:Type}(nm:α→List UInt8){l:List α}{k:Nat}{x:α}(h:l[k]?=some x)(hn:((l.take k).map nm).Nodup):((l.take (k+1)).map nm).Nodup↔nm x∉(l.take k).map nm:=by
 have:=dbl_take (l:=l.map nm) (k:=k) (x:=nm x) (by simp[h]) (by rw[←List.map_take];exact hn)
 rwa[←List.map_take,←List.map_take]at this
theorem dbl_of_take{α:Type}(nm:α→List UInt8){l:List α}{k:Nat}(h:¬((l.take k).map nm).Nodup):dbl (l.map nm)=true:=by
 unfold dbl;rw[decide_eq_true_eq];intro hn;exact h (hn.sublist ((List.take_sublist _ _).map _))
theorem dbl_not{α:Type}(nm:α→List UInt8){l:List α}(h:(l.map nm).Nodup):dbl (l.map nm)=false:=by
 unfold dbl;rw[decide_eq_false_iff_not,Classical.not_not];exact h
set_option maxHeartbeats 4000000 in
theorem rtwice_e(hx:TX ext)(m:Md1)(hm:m.structs.length≤40)(hf:m.funcs.length≤70)(hfl:∀ s,s∈m.structs→s.fields.length≤1000):G ext 88 [m.av] []=some (.ret (.d (.bool (twiceP m))),[]):=by
 have hsl:(m.structs.map Sc1.row).length=m.structs.length:=List.length_map _
 have hcl:(m.funcs.map Cd1.row).length=m.funcs.length:=List.length_map _
 have hst:=fun name=>rstruct_e hx m (by omega) name
 have hfu:=fun name=>rfunc_e hx m (by omega) name
 rw[G_body hx.clear rfl Tryz.func88 rfl Tryz.results88 hv_88 rfl];simp only[Md1.av,Md1.sr,Md1.fr]at hst hfu ⊢;simp(maxSteps:=9^9)(disch:=first|(intros;contradiction)|omega)only[go_sem]
 generalize hL:loopA _ _ _=L;apply range_upd hL (by simp(maxSteps:=9^9)(disch:=first|(intros;contradiction)|omega)only[go_sem]<;>rfl) m.structs Sc1.row (α:=Unit) (fun rest k _=>((m.structs.take k).map (·.name)).Nodup∧(m.structs.take k).any (fun s=>dbl (s.fields.map (·.name)))=false) (fun k _=>[(3,.d (.int .i64 k))]) (fun _ _=>[]) () (by simp(maxSteps:=9^9)(disch:=first|(intros;contradiction)|omega)only[go_sem]<;>rfl) ⟨by simp,by simp⟩ ?_ ?_
 ·rintro s rest k _ ⟨i1,i2⟩ hlt hr hget hk _ next ih
  clear hL;have hfl':=hfl s (List.mem_of_getElem? hget)
  have hfll:(s.fields.map Fd1.row).length=s.fields.length:=List.length_map _
  simp only[Sc1.row]at hr;have hsn:=hst s.name
  have hix:structIx m s.name=k↔s.name∉(m.structs.take k).map (·.name):=dupIx (fun s:Sc1=>s.name) hget
  have hnd:=nodup_step (fun s:Sc1=>s.name) hget i1
  by_cases e:structIx m s.name=k
  ·rw[e]at hsn;have i1':=hnd.2 (hix.1 e)
   simp(maxSteps:=9^9)(disch:=first|(intros;contradiction)|omega)only[go_sem,hlt,hr,hsn]
   generalize hL:loopA _ _ _=L;apply range_upd hL (by simp(maxSteps:=9^9)(disch:=first|(intros;contradiction)|omega)only[go_sem]<;>rfl) s.fields Fd1.row (α:=Unit) (fun rest j _=>((s.fields.take j).map (·.name)).Nodup) (fun j _=>[(5,.d (.int .i64 j))]) (fun _ _=>[]) () (by simp(maxSteps:=9^9)(disch:=first|(intros;contradiction)|omega)only[go_sem]<;>rfl) (by simp) ?_ ?_
   ·rintro f rest2 j _ j1 hlt2 hr2 hget2 hj _ next2 ih2
    clear hL;simp only[Fd1.row]at hr2;simp(maxSteps:=9^9)(disch:=first|(intros;contradiction)|omega)only[go_sem,hlt2]
    generalize hL:loopA _ _ _=L;apply loop_upd hL (by simp(maxSteps:=9^9)(disch:=first|(intros;contradiction)|omega)only[go_sem]<;>rfl) (fun q:Nat=>q≤j∧f.name∉(s.fields.take q).map (·.name)) (fun q=>j-q) (fun q=>[(6,.d (.int .i64 q))]) (fun _=>[]) 0 (by simp(maxSteps:=9^9)(disch:=first|(intros;contradiction)|omega)only[go_sem]<;>rfl) ⟨Nat.zero_le _,by simp⟩ ?_
    clear hL;rintro q ⟨q1,q2⟩ next3 ih3
    by_cases hq:q<j
    ·have hlt3:(q:Int)<(j:Int):=by omega
     have hqn:q<s.fields.length:=by omega
     have hr3:=map_at (f:=Fd1.row) hqn
     have hget3:s.fields[q]?=some s.fields[q]:=List.getElem?_eq_getElem hqn
     generalize s.fields[q]=g at hr3 hget3;simp only[Fd1.row]at hr3;by_cases eq:g.name=f.name
     ·have hd:dbl (s.fields.map (·.name))=true:=by
       refine dbl_of_take (fun f:Fd1=>f.name) (k:=j+1) (fun hn=>?_)
       refine(nodup_step (fun f:Fd1=>f.name) hget2 j1).1 hn ?_
       exact List.mem_map.2 ⟨g,List.mem_of_getElem? (i:=q) (by rw[List.getElem?_take_of_lt hq];exact hget3),eq⟩
      have ht:twiceP m=true:=by
       unfold twiceP;rw[Bool.or_eq_true];exact .inl (List.any_eq_true.2 ⟨s,List.mem_of_getElem? hget,hd⟩)
      rw[ht];have eq:=eq_true eq
      simp(maxSteps:=9^9)(disch:=first|(intros;contradiction)|omega)only[go_sem,hlt3,hr3,hr2,eq]
     ·simp(maxSteps:=9^9)(disch:=first|(intros;contradiction)|omega)only[go_sem,hlt3,hr3,hr2,eq,wrap64]
      refine ih3 (q+1) _ ⟨hq,?_⟩ (by omega) (by simp(maxSteps:=9^9)(disch:=first|(intros;contradiction)|omega)only[go_sem]<;>rfl)
      rw[List.take_add_one,hget3,List.map_append,List.mem_append];rintro(h|h)
      ·exact q2 h
      ·simp at h;exact eq h.symm
    ·have hlt3:¬(q:Int)<(j:Int):=by omega
     have hqq:q=j:=by omega
     subst hqq;simp(maxSteps:=9^9)(disch:=first|(intros;contradiction)|omega)only[go_sem,hlt3,wrap64]
     exact ih2 () _ ((nodup_step (fun f:Fd1=>f.name) hget2 j1).2 q2) (by simp(maxSteps:=9^9)(disch:=first|(intros;contradiction)|omega)only[go_sem]<;>rfl)
   ·rintro j _ j1 hlt2 hj next2
    subst hj;rw[List.take_length]at j1;simp(maxSteps:=9^9)(disch:=first|(intros;contradiction)|omega)only[go_sem,hlt2,wrap64]
    exact ih () _ ⟨i1',by rw[List.take_add_one,hget,List.any_append,i2];simp[dbl_not (fun f:Fd1=>f.name) j1]⟩ (by simp(maxSteps:=9^9)(disch:=first|(intros;contradiction)|omega)only[go_sem]<;>rfl)
  ·have ht:twiceP m=true:=by
    unfold twiceP;rw[Bool.or_eq_true,Bool.or_eq_true];exact .inr (.inl (dbl_of_take (fun s:Sc1=>s.name) (k:=k+1) (fun hn=>e (hix.2 (hnd.1 hn)))))
   rw[ht];simp(maxSteps:=9^9)(disch:=first|(intros;contradiction)|omega)only[go_sem,hlt,hr,hsn,e]
 ·rintro k _ ⟨i1,i2⟩ hlt hk next
  subst hk;rw[List.take_length]at i1 i2;simp(maxSteps:=9^9)(disch:=first|(intros;contradiction)|omega)only[go_sem,hlt]
  generalize hL:loopA _ _ _=L;apply range_upd hL (by simp(maxSteps:=9^9)(disch:=first|(intros;contradiction)|omega)only[go_sem]<;>rfl) m.funcs Cd1.row (α:=Unit) (fun rest k _=>((m.funcs.take k).map (·.name)).Nodup) (fun k _=>[(7,.d (.int .i64 k))]) (fun _ _=>[]) () (by simp(maxSteps:=9^9)(disch:=first|(intros;contradiction)|omega)only[go_sem]<;>rfl) (by simp) ?_ ?_
  ·rintro c rest k _ j1 hlt2 hr hget hk _ next2 ih2
   clear hL;simp only[Cd1.row]at hr;have hsn:=hfu c.name
   have hix:funcIx m c.name=k↔c.name∉(m.funcs.take k).map (·.name):=dupIx (fun s:Cd1=>s.name) hget
   have hnd:=nodup_step (fun s:Cd1=>s.name) hget j1
   by_cases e:funcIx m c.name=k
   ·rw[e]at hsn;simp(maxSteps:=9^9)(disch:=first|(intros;contradiction)|omega)only[go_sem,hlt2,hr,hsn,wrap64]
    exact ih2 () _ (hnd.2 (hix.1 e)) (by simp(maxSteps:=9^9)(disch:=first|(intros;contradiction)|omega)only[go_sem]<;>rfl)
   ·have ht:twiceP m=true:=by
     unfold twiceP;rw[Bool.or_eq_true,Bool.or_eq_true];exact .inr (.inr (dbl_of_take (fun s:Cd1=>s.name) (k:=k+1) (fun hn=>e (hix.2 (hnd.1 hn)))))
    rw[ht];simp(maxSteps:=9^9)(disch:=first|(intros;contradiction)|omega)only[go_sem,hlt2,hr,hsn,e]
  ·rintro k _ j1 hlt2 hk next2
   subst hk;rw[List.take_length]at j1
   have ht:twiceP m=false:=by
    unfold twiceP;rw[i2,dbl_not (fun s:Sc1=>s.name) i1,dbl_not (fun s:Cd1=>s.name) j1];rfl
   rw[ht];simp(maxSteps:=9^9)(disch:=first|(intros;contradiction)|omega)only[go_sem,hlt2]
set_option maxHeartbeats 4000000 in
theorem runknown_e(hx:TX ext)(m:Md1)(hm:m.structs.length≤40)(hf:m.funcs.length≤70)(hfl:∀ s,s∈m.structs→s.fields.length≤1000)(hvl:∀ c,c∈m.funcs→c.vars.length≤1000):G ext 89 [m.av] []=some (.ret (.d (.bool (!(typesL m).all (knownP m)))),[]):=by
 have hsl:(m.structs.map Sc1.row).length=m.structs.length:=List.length_map _
 have hcl:(m.funcs.map Cd1.row).length=m.funcs.length:=List.length_map _
 have hkn:=fun t=>rknown_e hx m (by omega) t
 rw[G_body hx.clear rfl Tryz.func89 rfl Tryz.results89 hv_89 rfl];simp only[Md1.av,Md1.sr,Md1.fr,Ty1.av]at hkn ⊢;simp(maxSteps:=9^9)(disch:=first|(intros;contradiction)|omega)only[go_sem]
 generalize hL:loopA _ _ _=L;apply range_upd hL (by simp(maxSteps:=9^9)(disch:=first|(intros;contradiction)|omega)only[go_sem]<;>rfl) m.structs Sc1.row (α:=Unit) (fun rest k _=>(typesL m).all (knownP m)=(typesS rest++typesC m.funcs).all (knownP m)) (fun k _=>[(3,.d (.int .i64 k))]) (fun _ _=>[]) () (by simp(maxSteps:=9^9)(disch:=first|(intros;contradiction)|omega)only[go_sem]<;>rfl) rfl ?_ ?_
 ·rintro s rest k _ i1 hlt hr hget hk _ next ih
  clear hL;have hfl':=hfl s (List.mem_of_getElem? hget)
  have hfll:(s.fields.map Fd1.row).length=s.fields.length:=List.length_map _
  simp only[Sc1.row]at hr;simp(maxSteps:=9^9)(disch:=first|(intros;contradiction)|omega)only[go_sem,hlt,hr]
  generalize hL:loopA _ _ _=L;apply range_upd hL (by simp(maxSteps:=9^9)(disch:=first|(intros;contradiction)|omega)only[go_sem]<;>rfl) s.fields Fd1.row (α:=Unit) (fun rest2 j _=>(typesL m).all (knownP m)=(rest2.map (·.t)++(typesS rest++typesC m.funcs)).all (knownP m)) (fun j _=>[(4,.d (.int .i64 j))]) (fun _ _=>[]) () (by simp(maxSteps:=9^9)(disch:=first|(intros;contradiction)|omega)only[go_sem]<;>rfl) (by rw[i1];simp[typesS]) ?_ ?_
  ·rintro f rest2 j _ j1 hlt2 hr2 hget2 hj _ next2 ih2
   clear hL;simp only[Fd1.row]at hr2;have hk1:=hkn f.t
   rw[List.map_cons,List.cons_append,List.all_cons]at j1
   cases hb:knownP m f.t with
   | true=>
    rw[hb]at hk1 j1;simp(maxSteps:=9^9)(disch:=first|(intros;contradiction)|omega)only[go_sem,hlt2,hr,hr2,hk1,wrap64]
    exact ih2 () _ (by rw[j1];simp) (by simp(maxSteps:=9^9)(disch:=first|(intros;contradiction)|omega)only[go_sem]<;>rfl)
   | false=>
    rw[hb]at hk1 j1;rw[j1,Bool.false_and];simp(maxSteps:=9^9)(disch:=first|(intros;contradiction)|omega)only[go_sem,hlt2,hr,hr2,hk1]<;>rfl
  ·rintro j _ j1 hlt2 hj next2
   simp(maxSteps:=9^9)(disch:=first|(intros;contradiction)|omega)only[go_sem,hlt2,hr,wrap64]
   exact ih () _ (by rw[j1];simp) (by simp(maxSteps:=9^9)(disch:=first|(intros;contradiction)|omega)only[go_sem]<;>rfl)
 ·rintro k _ i1 hlt hk next
  simp(maxSteps:=9^9)(disch:=first|(intros;contradiction)|omega)only[go_sem,hlt]
  generalize hL:loopA _ _ _=L;apply range_upd hL (by simp(maxSteps:=9^9)(disch:=first|(intros;contradiction)|omega)only[go_sem]<;>rfl) m.funcs Cd1.row (α:=Unit) (fun rest k _=>(typesL m).all (knownP m)=(typesC rest).all (knownP m)) (fun k _=>[(5,.d (.int .i64 k))]) (fun _ _=>[]) () (by simp(maxSteps:=9^9)(disch:=first|(intros;contradiction)|omega)only[go_sem]<;>rfl) (by rw[i1];simp[typesS]) ?_ ?_
  ·rintro c rest k _ j1 hlt2 hr hget hk _ next2 ih2
   clear hL;have hvl':=hvl c (List.mem_of_getElem? hget)
   have hvll:(c.vars.map Vr1.row).length=c.vars.length:=List.length_map _
   simp only[Cd1.row]at hr;have hk1:=hkn c.ret.t
   rw[show typesC (c::rest)=c.ret.t::(c.vars.map (·.t)++typesC rest)from by simp[typesC],List.all_cons]at j1
   cases hb:knownP m c.ret.t with
   | false=>
    rw[hb]at hk1 j1;rw[j1,Bool.false_and];simp(maxSteps:=9^9)(disch:=first|(intros;contradiction)|omega)only[go_sem,hlt2,hr,hk1]<;>rfl
   | true=>
    rw[hb,Bool.true_and]at j1;rw[hb]at hk1;simp(maxSteps:=9^9)(disch:=first|(intros;contradiction)|omega)only[go_sem,hlt2,hr,hk1]
    generalize hL:loopA _ _ _=L;apply range_upd hL (by simp(maxSteps:=9^9)(disch:=first|(intros;contradiction)|omega)only[go_sem]<;>rfl) c.vars Vr1.row (α:=Unit) (fun rest2 j _=>(typesL m).all (knownP m)=(rest2.map (·.t)++typesC rest).all (knownP m)) (fun j _=>[(6,.d (.int .i64 j))]) (fun _ _=>[]) () (by simp(maxSteps:=9^9)(disch:=first|(intros;contradiction)|omega)only[go_sem]<;>rfl) j1 ?_ ?_
    ·rintro v rest2 j _ q1 hlt3 hr2 hget2 hj _ next3 ih3
     clear hL;simp only[Vr1.row]at hr2;have hk2:=hkn v.t
     rw[List.map_cons,List.cons_append,List.all_cons]at q1
     cases hb2:knownP m v.t with
     | true=>
      rw[hb2]at hk2 q1;simp(maxSteps:=9^9)(disch:=first|(intros;contradiction)|omega)only[go_sem,hlt3,hr,hr2,hk2,wrap64]
      exact ih3 () _ (by rw[q1];simp) (by simp(maxSteps:=9^9)(disch:=first|(intros;contradiction)|omega)only[go_sem]<;>rfl)
     | false=>
      rw[hb2]at hk2 q1;rw[q1,Bool.false_and];simp(maxSteps:=9^9)(disch:=first|(intros;contradiction)|omega)only[go_sem,hlt3,hr,hr2,hk2]<;>rfl
    ·rintro j _ q1 hlt3 hj next3
     simp(maxSteps:=9^9)(disch:=first|(intros;contradiction)|omega)only[go_sem,hlt3,hr,wrap64]
     exact ih2 () _ (by rw[q1];simp) (by simp(maxSteps:=9^9)(disch:=first|(intros;contradiction)|omega)only[go_sem]<;>rfl)
  ·rintro k _ j1 hlt2 hk next2
   rw[j1];simp(maxSteps:=9^9)(disch:=first|(intros;contradiction)|omega)only[go_sem,hlt2]<;>rfl
end Go.Proofs.YticliodhjfednaaGreat
