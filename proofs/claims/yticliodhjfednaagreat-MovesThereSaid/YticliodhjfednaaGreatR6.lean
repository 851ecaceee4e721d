/- The document's answer for bl: names, classes, modes. Conditions: none. -/
import Derived.Test.YticliodhjfednaaGreatR2
set_option linter.unusedSimpArgs false
set_option linter.unusedVariables false
namespace Go.Proofs.YticliodhjfednaaGreat
open Go Go.Ab
variable {ext:Sem'}
theorem rlent_e(hx:TX ext)(v:Vr1):G ext 94 [v.av] []=some (.ret (.d (.bool (lentP v))),[]):=by
 rw[G_body hx.clear rfl Tryz.func94 rfl Tryz.results94 hv_94 rfl];obtain⟨⟨p,to'⟩,cls⟩:=v
 unfold lentP;simp only[Vr1.av]
 cases p with
 | false=>simp(maxSteps:=9^9)(disch:=first|(intros;contradiction)|omega)only[go_sem,Bool.false_and]
 | true=>
  by_cases h1:cls=2
  ·have h1:=eq_true h1
   simp(maxSteps:=9^9)(disch:=first|(intros;contradiction)|omega)only[go_sem,h1,Bool.true_or,Bool.true_and,decide_true]
  ·by_cases h2:cls=3<;>simp(maxSteps:=9^9)(disch:=first|(intros;contradiction)|omega)only[go_sem,h1,h2,Bool.true_or,Bool.true_and,Bool.false_or,decide_true,decide_false]
theorem rclassed_e(hx:TX ext)(t:Ty1)(cls:Int):G ext 51 [.agg [.d (.bool t.ptr),.d (.str t.to),.d (.int .i64 cls)]] []=some (.ret (.d (.bool (classedP t cls))),[]):=by
 rw[G_body hx.clear rfl Tryz.func51 rfl Tryz.results51 hv_51 rfl];obtain⟨p,to'⟩:=t
 unfold classedP;simp only
 cases p with
 | false=>
  rw[if_neg (by decide)]
  by_cases h:cls=0
  ·have h:=eq_true h
   simp(maxSteps:=9^9)(disch:=first|(intros;contradiction)|omega)only[go_sem,h]
  ·simp(maxSteps:=9^9)(disch:=first|(intros;contradiction)|omega)only[go_sem,h]
 | true=>
  rw[if_pos rfl];by_cases h1:1≤cls
  ·by_cases h2:cls≤3
   ·have e:(decide (cls=1)||(decide (cls=2)||decide (cls=3)))=true:=by simp;omega
    rw[e];simp(maxSteps:=9^9)(disch:=first|(intros;contradiction)|omega)only[go_sem,h1,h2]
   ·have e:(decide (cls=1)||(decide (cls=2)||decide (cls=3)))=false:=by simp;omega
    rw[e];simp(maxSteps:=9^9)(disch:=first|(intros;contradiction)|omega)only[go_sem,h1,h2]
  ·have e:(decide (cls=1)||(decide (cls=2)||decide (cls=3)))=false:=by simp;omega
   rw[e];simp(maxSteps:=9^9)(disch:=first|(intros;contradiction)|omega)only[go_sem,h1]
theorem rname2_e(hx:TX ext)(s:List UInt8):G ext 93 [.d (.str s)] []=some (.ret (.d (.bool (isName s))),[]):=by
 by_cases h:s.length≤1048576
 ·exact rname_e hx s h
 ·have e:isName s=false:=by unfold isName;rw[decide_eq_false (show ¬s.length≤40 by omega)];simp
  rw[e];have h1:¬((s.length:Int)<1):=by omega
  have h2:(40:Int)<s.length:=by omega
  rw[G_body hx.clear rfl Tryz.func93 rfl Tryz.results93 hv_93 rfl];simp(maxSteps:=9^9)(disch:=first|(intros;contradiction)|omega)only[go_sem,h1,h2]
set_option maxHeartbeats 1000000 in
theorem rnamed_e(hx:TX ext)(m:Md1)(h1:m.structs.length≤1000)(h2:m.funcs.length≤1000)(hs:∀ s,s∈m.structs→s.fields.length≤1000):G ext 50 [m.av] []=some (.ret (.d (.bool (namedP m))),[]):=by
 have hsl:(m.structs.map Sc1.row).length=m.structs.length:=List.length_map _
 have hcl:(m.funcs.map Cd1.row).length=m.funcs.length:=List.length_map _
 have hn:=fun s=>rname2_e hx s
 rw[G_body hx.clear rfl Tryz.func50 rfl Tryz.results50 hv_50 rfl];unfold namedP;simp only[Md1.av,Md1.sr,Md1.fr];simp(maxSteps:=9^9)(disch:=first|(intros;contradiction)|omega)only[go_sem]
 generalize hL:loopA _ _ _=L;apply range_upd hL (by simp(maxSteps:=9^9)(disch:=first|(intros;contradiction)|omega)only[go_sem]<;>rfl) m.structs Sc1.row (α:=Unit) (fun rest k _=>(m.structs.any fun s=>!isName s.name||fieldsBad s)=(rest.any fun s=>!isName s.name||fieldsBad s)) (fun k _=>[(3,.d (.int .i64 k))]) (fun _ _=>[]) () (by simp(maxSteps:=9^9)(disch:=first|(intros;contradiction)|omega)only[go_sem]<;>rfl) rfl ?_ ?_
 ·rintro s rest k _ i1 hlt hr hget hk _ next ih
  clear hL;have hfl':=hs s (List.mem_of_getElem? hget)
  have hfll:(s.fields.map Fd1.row).length=s.fields.length:=List.length_map _
  simp only[Sc1.row]at hr;rw[List.any_cons]at i1;have hn1:=hn s.name
  cases b1:isName s.name with
  | false=>
   rw[b1]at hn1 i1;rw[i1];simp(maxSteps:=9^9)(disch:=first|(intros;contradiction)|omega)only[go_sem,hlt,hr,hn1]<;>rfl
  | true=>
   rw[b1]at hn1 i1;simp(maxSteps:=9^9)(disch:=first|(intros;contradiction)|omega)only[go_sem,hlt,hr,hn1]
   generalize hL:loopA _ _ _=L;apply range_upd hL (by simp(maxSteps:=9^9)(disch:=first|(intros;contradiction)|omega)only[go_sem]<;>rfl) s.fields Fd1.row (α:=Unit) (fun rest2 j _=>fieldsBad s=(rest2.any fun f=>!isName f.name)) (fun j _=>[(4,.d (.int .i64 j))]) (fun _ _=>[]) () (by simp(maxSteps:=9^9)(disch:=first|(intros;contradiction)|omega)only[go_sem]<;>rfl) rfl ?_ ?_
   ·rintro f rest2 j _ j1 hlt2 hr2 hget2 hj _ next2 ih2
    clear hL;simp only[Fd1.row]at hr2;rw[List.any_cons]at j1;have hn2:=hn f.name
    cases b2:isName f.name with
    | false=>
     rw[b2]at hn2 j1;rw[i1,j1];simp(maxSteps:=9^9)(disch:=first|(intros;contradiction)|omega)only[go_sem,hlt2,hr,hr2,hn2]<;>rfl
    | true=>
     rw[b2]at hn2 j1;simp(maxSteps:=9^9)(disch:=first|(intros;contradiction)|omega)only[go_sem,hlt2,hr,hr2,hn2,wrap64]
     exact ih2 () _ (by rw[j1];simp) (by simp(maxSteps:=9^9)(disch:=first|(intros;contradiction)|omega)only[go_sem]<;>rfl)
   ·rintro j _ j1 hlt2 hj next2
    have j1:fieldsBad s=false:=j1
    simp(maxSteps:=9^9)(disch:=first|(intros;contradiction)|omega)only[go_sem,hlt2,hr,wrap64]
    exact ih () _ (by rw[i1,j1];simp) (by simp(maxSteps:=9^9)(disch:=first|(intros;contradiction)|omega)only[go_sem]<;>rfl)
 ·rintro k _ i1 hlt hk next
  rw[i1];simp(maxSteps:=9^9)(disch:=first|(intros;contradiction)|omega)only[go_sem,hlt]
  generalize hL:loopA _ _ _=L;apply range_upd hL (by simp(maxSteps:=9^9)(disch:=first|(intros;contradiction)|omega)only[go_sem]<;>rfl) m.funcs Cd1.row (α:=Unit) (fun rest k _=>(m.funcs.any fun c=>!isName c.name)=(rest.any fun c=>!isName c.name)) (fun k _=>[(5,.d (.int .i64 k))]) (fun _ _=>[]) () (by simp(maxSteps:=9^9)(disch:=first|(intros;contradiction)|omega)only[go_sem]<;>rfl) rfl ?_ ?_
  ·rintro c rest k _ i1 hlt hr hget hk _ next ih
   clear hL;simp only[Cd1.row]at hr;rw[List.any_cons]at i1;have hn1:=hn c.name
   cases b1:isName c.name with
   | false=>
    rw[b1]at hn1 i1;rw[i1];simp(maxSteps:=9^9)(disch:=first|(intros;contradiction)|omega)only[go_sem,hlt,hr,hn1]<;>rfl
   | true=>
    rw[b1]at hn1 i1;simp(maxSteps:=9^9)(disch:=first|(intros;contradiction)|omega)only[go_sem,hlt,hr,hn1,wrap64]
    exact ih () _ (by rw[i1];simp) (by simp(maxSteps:=9^9)(disch:=first|(intros;contradiction)|omega)only[go_sem]<;>rfl)
  ·rintro k _ i1 hlt hk next
   rw[i1];simp(maxSteps:=9^9)(disch:=first|(intros;contradiction)|omega)only[go_sem,hlt]<;>rfl
end Go.Proofs.YticliodhjfednaaGreat
