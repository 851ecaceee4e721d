/- The document's ir: names that are there twice; which programs are right; The document's ir: names that are there twice. Conditions: none. -/
import Derived.Test.YtkflggjdlflndaaGreatVR2
import Derived.Test.YtkflggjdlflndaaGreatM9
import Derived.Test.YtkflggjdlflndaaGreatVR1
import Derived.Test.YtkflggjdlflndaaGreatM8
set_option linter.unusedSimpArgs false
set_option linter.unusedVariables false
namespace Go.Proofs.YtkflggjdlflndaaGreat
open Go Go.Ab
variable {ext:Sem'}
theorem unknown05_e (hx:TX ext) (m:Md1) (hm:LightM m):G ext 33 [m.av] [] = some (.ret (.d (.bool (!(typesL m).all (knownP m)))),[]):=by
 have hsl:(m.structs.map Sc1.row).length = m.structs.length:=List.length_map _
 have hcl:(m.funcs.map Cd1.row).length = m.funcs.length:=List.length_map _
 have hs40:=hm.structs
 have hf70:=hm.funcs
 have hkn:=fun t=>k05_e hx m (by omega) t
 unfold typesL
 rw [List.all_append]
 rw [G_body hx.clear rfl Tryz.func33 rfl Tryz.results33 hv_33 rfl]
 simp only [Md1.av,Md1.sr,Md1.fr,Ty1.av] at hkn ⊢
 simp (maxSteps:=4000000) (disch:=first | (intros; contradiction) | omega) only [go_sem]
 generalize hL:loopA _ _ _ = L
 apply range_upd hL (by simp (maxSteps:=4000000) (disch:=first | (intros; contradiction) | omega) only [go_sem] <;> rfl) m.structs Sc1.row (α:=Unit) (fun rest k _=>(typesS m.structs).all (knownP m) = (typesS rest).all (knownP m)) (fun k _=>[(3,.d (.int .i64 k))]) (fun _ _=>[]) () (by simp (maxSteps:=4000000) (disch:=first | (intros; contradiction) | omega) only [go_sem] <;> rfl) rfl ?_ ?_
 ·intro x rest k _ hi hlt hr hxx hk _ next ih
  clear hL
  simp only [Sc1.row] at hr
  have hwk:IntKind.wrap .i64 ((k:Int) + 1) = ((k + 1:Nat):Int):=by rw [wrap64 (by omega) (by omega)]; omega
  have hk0:(0:Int) ≤ (k:Int):=by omega
  have hi':(typesS m.structs).all (knownP m) = ((x.fields.map (·.t)).all (knownP m) && (typesS rest).all (knownP m)):=by rw [hi]; unfold typesS; rw [List.flatMap_cons,List.all_append]
  have hfs:=(hm.fields x (List.mem_of_getElem? hxx)).1
  simp (maxSteps:=4000000) (disch:=first | (intros; contradiction) | omega) only [go_sem,hlt,hr,hk0]
  generalize hL:loopA _ _ _ = L
  apply range_upd hL (by simp (maxSteps:=4000000) (disch:=first | (intros; contradiction) | omega) only [go_sem] <;> rfl) x.fields Fd1.row (α:=Unit) (fun fr q _=>(x.fields.map (·.t)).all (knownP m) = (fr.map (·.t)).all (knownP m)) (fun q _=>[(4,.d (.int .i64 q))]) (fun _ _=>[]) () (by simp (maxSteps:=4000000) (disch:=first | (intros; contradiction) | omega) only [go_sem] <;> rfl) rfl ?_ ?_
  ·intro y fr q _ hj hltq hrq hyy hq _ next2 ih2
   clear hL
   simp only [Fd1.row] at hrq
   have hq0:(0:Int) ≤ (q:Int):=by omega
   have hwq:IntKind.wrap .i64 ((q:Int) + 1) = ((q + 1:Nat):Int):=by rw [wrap64 (by omega) (by omega)]; omega
   have hky:=hkn y.t
   rw [List.map_cons,List.all_cons] at hj
   cases hb:knownP m y.t with
   | true=>
    rw [hb] at hky hj
    simp (maxSteps:=4000000) (disch:=first | (intros; contradiction) | omega) only [go_sem,hlt,hr,hk0,hltq,hrq,hq0,hky,hwq]
    exact ih2 () _ (by rw [hj]; rfl) (by simp (maxSteps:=4000000) (disch:=first | (intros; contradiction) | omega) only [go_sem] <;> rfl)
   | false=>
    rw [hb] at hky hj
    have e:(typesS m.structs).all (knownP m) = false:=by rw [hi',hj]; rfl
    rw [e]
    simp (maxSteps:=4000000) (disch:=first | (intros; contradiction) | omega) only [go_sem,hlt,hr,hk0,hltq,hrq,hq0,hky,Bool.false_and,Bool.not_false]
    done
  ·intro q _ hj hltq hq next2
   clear hL
   simp (maxSteps:=4000000) (disch:=first | (intros; contradiction) | omega) only [go_sem,hlt,hr,hk0,hltq,hwk]
   exact ih () _ (by rw [hi',hj]; rfl) (by simp (maxSteps:=4000000) (disch:=first | (intros; contradiction) | omega) only [go_sem] <;> rfl)
 ·intro k _ hi hlt hk next
  clear hL
  rw [hi]
  show _ = some (Out.ret (AV.d (.bool (!(true && (typesC m.funcs).all (knownP m))))),[])
  rw [Bool.true_and]
  simp (maxSteps:=4000000) (disch:=first | (intros; contradiction) | omega) only [go_sem,hlt]
  generalize hL:loopA _ _ _ = L
  apply range_upd hL (by simp (maxSteps:=4000000) (disch:=first | (intros; contradiction) | omega) only [go_sem] <;> rfl) m.funcs Cd1.row (α:=Unit) (fun rest k _=>(typesC m.funcs).all (knownP m) = (typesC rest).all (knownP m)) (fun k _=>[(5,.d (.int .i64 k))]) (fun _ _=>[]) () (by simp (maxSteps:=4000000) (disch:=first | (intros; contradiction) | omega) only [go_sem] <;> rfl) rfl ?_ ?_
  ·intro x rest k _ hi hlt2 hr hxx hk _ next ih
   clear hL
   simp only [Cd1.row] at hr
   have hwk:IntKind.wrap .i64 ((k:Int) + 1) = ((k + 1:Nat):Int):=by rw [wrap64 (by omega) (by omega)]; omega
   have hk0:(0:Int) ≤ (k:Int):=by omega
   have hi':(typesC m.funcs).all (knownP m) = ((knownP m x.ret.t && (x.vars.map (·.t)).all (knownP m)) && (typesC rest).all (knownP m)):=by rw [hi]; unfold typesC; rw [List.flatMap_cons,List.all_append,List.all_cons]
   have hvs:=(hm.vars x (List.mem_of_getElem? hxx)).1
   have hkr:=hkn x.ret.t
   cases hb:knownP m x.ret.t with
   | false=>
    rw [hb] at hkr hi'
    have e:(typesC m.funcs).all (knownP m) = false:=by rw [hi']; rfl
    rw [e]
    simp (maxSteps:=4000000) (disch:=first | (intros; contradiction) | omega) only [go_sem,hlt2,hr,hk0,hkr,Bool.not_false]
    done
   | true=>
    rw [hb] at hkr hi'
    simp (maxSteps:=4000000) (disch:=first | (intros; contradiction) | omega) only [go_sem,hlt2,hr,hk0,hkr]
    generalize hL:loopA _ _ _ = L
    apply range_upd hL (by simp (maxSteps:=4000000) (disch:=first | (intros; contradiction) | omega) only [go_sem] <;> rfl) x.vars Vr1.row (α:=Unit) (fun fr q _=>(x.vars.map (·.t)).all (knownP m) = (fr.map (·.t)).all (knownP m)) (fun q _=>[(6,.d (.int .i64 q))]) (fun _ _=>[]) () (by simp (maxSteps:=4000000) (disch:=first | (intros; contradiction) | omega) only [go_sem] <;> rfl) rfl ?_ ?_
    ·intro y fr q _ hj hltq hrq hyy hq _ next2 ih2
     clear hL
     simp only [Vr1.row] at hrq
     have hq0:(0:Int) ≤ (q:Int):=by omega
     have hwq:IntKind.wrap .i64 ((q:Int) + 1) = ((q + 1:Nat):Int):=by rw [wrap64 (by omega) (by omega)]; omega
     have hky:=hkn y.t
     rw [List.map_cons,List.all_cons] at hj
     cases hb2:knownP m y.t with
     | true=>
      rw [hb2] at hky hj
      simp (maxSteps:=4000000) (disch:=first | (intros; contradiction) | omega) only [go_sem,hlt2,hr,hk0,hltq,hrq,hq0,hky,hwq]
      exact ih2 () _ (by rw [hj]; rfl) (by simp (maxSteps:=4000000) (disch:=first | (intros; contradiction) | omega) only [go_sem] <;> rfl)
     | false=>
      rw [hb2] at hky hj
      have e:(typesC m.funcs).all (knownP m) = false:=by rw [hi',hj]; rfl
      rw [e]
      simp (maxSteps:=4000000) (disch:=first | (intros; contradiction) | omega) only [go_sem,hlt2,hr,hk0,hltq,hrq,hq0,hky,Bool.not_false]
      done
    ·intro q _ hj hltq hq next2
     clear hL
     simp (maxSteps:=4000000) (disch:=first | (intros; contradiction) | omega) only [go_sem,hlt2,hr,hk0,hltq,hwk]
     exact ih () _ (by rw [hi',hj]; rfl) (by simp (maxSteps:=4000000) (disch:=first | (intros; contradiction) | omega) only [go_sem] <;> rfl)
  ·intro k _ hi hlt2 hk next
   clear hL
   rw [hi]
   simp (maxSteps:=4000000) (disch:=first | (intros; contradiction) | omega) only [go_sem,hlt2]
   rfl
end Go.Proofs.YtkflggjdlflndaaGreat
namespace Go.Proofs.YtkflggjdlflndaaGreat
open Go Go.Ab
variable {ext:Sem'}
theorem idxP_first {α:Type} {p:α→Bool}:∀ {l:List α} {k:Nat} {x:α},l[k]? = some x→p x = true→((idxP p l = some k) ↔ ∀ y,y ∈ l.take k→p y = false)
 | [],k,x,h,_=>by simp at h
 | a :: l,0,x,h,hp=>by
  simp at h
  subst h
  simp [idxP,hp]
 | a :: l,k + 1,x,h,hp=>by
  have h':l[k]? = some x:=by simpa using h
  have ih:=idxP_first h' hp
  rw [List.take_succ_cons]
  cases ha:p a with
  | true=>simp [idxP,ha]
  | false=>
   simp only [idxP,ha,Bool.false_eq_true,if_false,List.mem_cons,forall_eq_or_imp,true_and]
   rw [← ih]
   cases idxP p l <;> simp
theorem idxN_first {α:Type} {nm:α→List UInt8} {l:List α} {k:Nat} {x:α} (hx:l[k]? = some x):(idxN (fun s=>decide (nm s = nm x)) l = (k:Int)) ↔ nm x ∉ (l.map nm).take k:=by
 have h:=idxP_first (p:=fun s=>decide (nm s = nm x)) hx (decide_eq_true rfl)
 have e:(idxN (fun s=>decide (nm s = nm x)) l = (k:Int)) ↔ idxP (fun s=>decide (nm s = nm x)) l = some k:=by
  unfold idxN
  cases idxP (fun s=>decide (nm s = nm x)) l with
  | none=>simp
  | some i=>
   simp only [Option.some.injEq]
   omega
 rw [e,h,← List.map_take,List.mem_map]
 simp
theorem dbl_hit {l:List (List UInt8)} {k:Nat} {x:List UInt8} (hx:l[k]? = some x) (h:x ∈ l.take k):dbl l = true:=by
 refine decide_eq_true fun hn=>?_
 have h1:(l.take (k + 1)).Nodup:=hn.sublist (List.take_sublist _ _)
 exact (dbl_take hx (hn.sublist (List.take_sublist _ _))).1 h1 h
set_option maxHeartbeats 4000000 in
theorem twice05_e (hx:TX ext) (m:Md1) (hm:m.structs.length ≤ 40) (hf:m.funcs.length ≤ 70) (hfl:∀ s,s ∈ m.structs→s.fields.length ≤ 1000):G ext 32 [m.av] [] = some (.ret (.d (.bool (twiceP m))),[]):=by
 have hsl:(m.structs.map Sc1.row).length = m.structs.length:=List.length_map _
 have hcl:(m.funcs.map Cd1.row).length = m.funcs.length:=List.length_map _
 have hst:=fun n=>s05_e hx m n (by omega)
 have hfn:=fun n=>f05_e hx m n (by omega)
 rw [G_body hx.clear rfl Tryz.func32 rfl Tryz.results32 hv_32 rfl]
 simp only [Md1.av,Md1.sr,Md1.fr] at hst hfn ⊢
 simp (maxSteps:=4000000) (disch:=first | (intros; contradiction) | omega) only [go_sem]
 generalize hL:loopA _ _ _ = L
 apply range_upd hL (by simp (maxSteps:=4000000) (disch:=first | (intros; contradiction) | omega) only [go_sem] <;> rfl) m.structs Sc1.row (α:=Unit) (fun rest k _=>((m.structs.map (·.name)).take k).Nodup∧(m.structs.any fun s=>dbl (s.fields.map (·.name))) = rest.any fun s=>dbl (s.fields.map (·.name))) (fun k _=>[(3,.d (.int .i64 k))]) (fun _ _=>[]) () (by simp (maxSteps:=4000000) (disch:=first | (intros; contradiction) | omega) only [go_sem] <;> rfl) ⟨by simp,rfl⟩ ?_ ?_
 ·rintro x rest k _ ⟨i1,i2⟩ hlt hr hxx hk _ next ih
  clear hL
  simp only [Sc1.row] at hr
  have hwk:IntKind.wrap .i64 ((k:Int) + 1) = ((k + 1:Nat):Int):=by rw [wrap64 (by omega) (by omega)]; omega
  have hk0:(0:Int) ≤ (k:Int):=by omega
  have hs:=hst x.name
  have hfi:=idxN_first (nm:=fun s:Sc1=>s.name) hxx
  have hnx:(m.structs.map (·.name))[k]? = some x.name:=by rw [List.getElem?_map,hxx]; rfl
  have hfx:=hfl x (List.mem_of_getElem? hxx)
  change structIx m x.name = (k:Int) ↔ x.name ∉ (m.structs.map (·.name)).take k at hfi
  by_cases q:structIx m x.name = (k:Int)
  ·have hno:=hfi.1 q
   rw [q] at hs
   have i1':=(dbl_take hnx i1).2 hno
   simp (maxSteps:=4000000) (disch:=first | (intros; contradiction) | omega) only [go_sem,hlt,hr,hk0,hs]
   generalize hL:loopA _ _ _ = L
   apply range_upd hL (by simp (maxSteps:=4000000) (disch:=first | (intros; contradiction) | omega) only [go_sem] <;> rfl) x.fields Fd1.row (α:=Unit) (fun fr a _=>((x.fields.map (·.name)).take a).Nodup) (fun a _=>[(5,.d (.int .i64 a))]) (fun _ _=>[]) () (by simp (maxSteps:=4000000) (disch:=first | (intros; contradiction) | omega) only [go_sem] <;> rfl) (by simp) ?_ ?_
   ·rintro y fr a _ j1 hlta hra hya ha _ next2 ih2
    clear hL
    simp only [Fd1.row] at hra
    have ha0:(0:Int) ≤ (a:Int):=by omega
    have hlta':(a:Int) < ((x.fields.map Fd1.row).length:Int):=hlta
    have hwa:IntKind.wrap .i64 ((a:Int) + 1) = ((a + 1:Nat):Int):=by rw [wrap64 (by omega) (by omega)]; omega
    have hny:(x.fields.map (·.name))[a]? = some y.name:=by rw [List.getElem?_map,hya]; rfl
    simp (maxSteps:=4000000) (disch:=first | (intros; contradiction) | omega) only [go_sem,hlta]
    generalize hL:loopA _ _ _ = L
    apply loop_upd hL (by simp (maxSteps:=4000000) (disch:=first | (intros; contradiction) | omega) only [go_sem] <;> rfl) (fun b:Nat=>b ≤ a∧y.name ∉ (x.fields.map (·.name)).take b) (fun b=>a - b) (fun b=>[(6,.d (.int .i64 b))]) (fun _=>[]) 0 (by simp (maxSteps:=4000000) (disch:=first | (intros; contradiction) | omega) only [go_sem] <;> rfl) ⟨Nat.zero_le _,by simp⟩ ?_
    clear hL
    rintro b ⟨b1,b2⟩ next3 ih3
    have hb0:(0:Int) ≤ (b:Int):=by omega
    by_cases hba:b < a
    ·have hltb:(b:Int) < (a:Int):=by omega
     have hbl:b < x.fields.length:=by omega
     have hrb:=map_at (f:=Fd1.row) hbl
     have hzb:x.fields[b]? = some x.fields[b]:=List.getElem?_eq_getElem hbl
     generalize x.fields[b] = z at hrb hzb
     simp only [Fd1.row] at hrb
     have hwb:IntKind.wrap .i64 ((b:Int) + 1) = ((b + 1:Nat):Int):=by rw [wrap64 (by omega) (by omega)]; omega
     have hnz:(x.fields.map (·.name)).take (b + 1) = (x.fields.map (·.name)).take b ++ [z.name]:=by rw [List.take_add_one,List.getElem?_map,hzb]; rfl
     by_cases e:z.name = y.name
     ·have hd:dbl (x.fields.map (·.name)) = true:=by
       refine dbl_hit hny ?_
       have:z.name ∈ (x.fields.map (·.name)).take (b + 1):=by rw [hnz]; simp
       rw [← e]
       exact (List.take_sublist_take_left (by omega)).subset this
      have ht:twiceP m = true:=by unfold twiceP; rw [List.any_eq_true.2 ⟨x,List.mem_of_getElem? hxx,hd⟩]; rfl
      rw [ht]
      simp (maxSteps:=4000000) (disch:=first | (intros; contradiction) | omega) only [go_sem,hltb,hb0,hrb,ha0,hra,e]
      done
     ·simp (maxSteps:=4000000) (disch:=first | (intros; contradiction) | omega) only [go_sem,hltb,hb0,hrb,ha0,hra,e,hwb]
      refine ih3 (b + 1) _ ⟨by omega,?_⟩ (by omega) (by simp (maxSteps:=4000000) (disch:=first | (intros; contradiction) | omega) only [go_sem] <;> rfl)
      rw [hnz,List.mem_append]
      rintro (h | h)
      ·exact b2 h
      ·simp at h; exact e h.symm
    ·have hltb:¬ (b:Int) < (a:Int):=by omega
     have hb:b = a:=by omega
     subst hb
     simp (maxSteps:=4000000) (disch:=first | (intros; contradiction) | omega) only [go_sem,hltb,hwa]
     exact ih2 () _ ((dbl_take hny j1).2 b2) (by simp (maxSteps:=4000000) (disch:=first | (intros; contradiction) | omega) only [go_sem] <;> rfl)
   ·rintro a _ j1 hlta ha next2
    clear hL
    have hnd:dbl (x.fields.map (·.name)) = false:=by
     refine decide_eq_false fun h=>h ?_
     rw [ha,← List.length_map (f:=fun f:Fd1=>f.name),List.take_length] at j1
     exact j1
    simp (maxSteps:=4000000) (disch:=first | (intros; contradiction) | omega) only [go_sem,hlta,hwk]
    exact ih () _ ⟨i1',by rw [i2,List.any_cons,hnd]; rfl⟩ (by simp (maxSteps:=4000000) (disch:=first | (intros; contradiction) | omega) only [go_sem] <;> rfl)
  ·have hin:x.name ∈ (m.structs.map (·.name)).take k:=Classical.byContradiction fun h=>q (hfi.2 h)
   have ht:twiceP m = true:=by unfold twiceP; rw [dbl_hit hnx hin]; simp
   rw [ht]
   simp (maxSteps:=4000000) (disch:=first | (intros; contradiction) | omega) only [go_sem,hlt,hr,hk0,hs,q]
   done
 ·rintro k _ ⟨i1,i2⟩ hlt hk next
  clear hL
  have hds:dbl (m.structs.map (·.name)) = false:=by
   refine decide_eq_false fun h=>h ?_
   rw [hk,← List.length_map (f:=fun s:Sc1=>s.name),List.take_length] at i1
   exact i1
  have e:twiceP m = dbl (m.funcs.map (·.name)):=by unfold twiceP; rw [i2,hds]; rfl
  rw [e]
  simp (maxSteps:=4000000) (disch:=first | (intros; contradiction) | omega) only [go_sem,hlt]
  generalize hL:loopA _ _ _ = L
  apply range_upd hL (by simp (maxSteps:=4000000) (disch:=first | (intros; contradiction) | omega) only [go_sem] <;> rfl) m.funcs Cd1.row (α:=Unit) (fun rest k _=>((m.funcs.map (·.name)).take k).Nodup) (fun k _=>[(7,.d (.int .i64 k))]) (fun _ _=>[]) () (by simp (maxSteps:=4000000) (disch:=first | (intros; contradiction) | omega) only [go_sem] <;> rfl) (by simp) ?_ ?_
  ·rintro x rest k _ i1 hlt2 hr hxx hk _ next2 ih
   clear hL
   simp only [Cd1.row] at hr
   have hwk:IntKind.wrap .i64 ((k:Int) + 1) = ((k + 1:Nat):Int):=by rw [wrap64 (by omega) (by omega)]; omega
   have hk0:(0:Int) ≤ (k:Int):=by omega
   have hs:=hfn x.name
   have hfi:=idxN_first (nm:=fun s:Cd1=>s.name) hxx
   have hnx:(m.funcs.map (·.name))[k]? = some x.name:=by rw [List.getElem?_map,hxx]; rfl
   change funcIx m x.name = (k:Int) ↔ x.name ∉ (m.funcs.map (·.name)).take k at hfi
   by_cases q:funcIx m x.name = (k:Int)
   ·rw [q] at hs
    simp (maxSteps:=4000000) (disch:=first | (intros; contradiction) | omega) only [go_sem,hlt2,hr,hk0,hs,hwk]
    exact ih () _ ((dbl_take hnx i1).2 (hfi.1 q)) (by simp (maxSteps:=4000000) (disch:=first | (intros; contradiction) | omega) only [go_sem] <;> rfl)
   ·have hin:x.name ∈ (m.funcs.map (·.name)).take k:=Classical.byContradiction fun h=>q (hfi.2 h)
    rw [dbl_hit hnx hin]
    simp (maxSteps:=4000000) (disch:=first | (intros; contradiction) | omega) only [go_sem,hlt2,hr,hk0,hs,q]
    done
  ·rintro k _ i1 hlt2 hk next2
   clear hL
   have hdf:dbl (m.funcs.map (·.name)) = false:=by
    refine decide_eq_false fun h=>h ?_
    rw [hk,← List.length_map (f:=fun s:Cd1=>s.name),List.take_length] at i1
    exact i1
   rw [hdf]
   simp (maxSteps:=4000000) (disch:=first | (intros; contradiction) | omega) only [go_sem,hlt2]
   done
end Go.Proofs.YtkflggjdlflndaaGreat
