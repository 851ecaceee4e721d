/- bltype: the uses of an instruction. Conditions: none. -/
import Derived.Test.YticliodhjfednaaGreatM16
import Derived.Test.YticliodhjfednaaGreatLp
set_option linter.unusedSimpArgs false
set_option linter.unusedVariables false
namespace Go.Proofs.YticliodhjfednaaGreat
open Go Go.Ab
variable {ext:Sem'}
theorem byP_len(md most v:Int):(byP md most v).length≤1:=by unfold byP;split<;>simp
theorem byAll_len(v:Int)(l:List Int):(l.flatMap (fun md=>byP md 3 v)).length≤l.length:=by
 induction l with
 | nil=>simp
 | cons x l ih=>have:=byP_len x 3 v;simp only[List.flatMap_cons,List.length_append,List.length_cons];omega
set_option maxHeartbeats 4000000 in
theorem tInstr2_e(hx:TX ext)(c:Cd1)(i:In1)(h9:i.op=9∨i.op=18)(hl:i.mode.length≤900):G ext 85 [c.av,i.av] []=some (.ret (.d (.sl ((usesL i).map useRow))),[]):=by
 have hu:usesL i=i.mode.flatMap (fun md=>byP md 3 i.a):=by unfold usesL;rcases h9 with h|h<;>simp[h]
 rw[hu];rw[G_body hx.clear rfl Tryz.func85 rfl Tryz.results85 hv_85 rfl];simp only[Cd1.av,In1.av,ints];have ev:(i.op=7)=False∧(i.op=14)=False∧(i.op=8)=False∧(i.op=11)=False∧(i.op=13)=False∧(i.op=10)=False:=by simp only[eq_iff_iff,iff_false];omega
 obtain⟨e1,e2,e3,e4,e5,e6⟩:=ev
 rcases h9 with h9|h9
 ·have h9:=eq_true h9
  simp(maxSteps:=9^9)(disch:=first|(intros;contradiction)|omega)only[go_sem,h9,e1,e2,e3,e4,e5,e6]
  generalize hL:loopA _ _ _=L;apply range_upd hL (by simp(maxSteps:=9^9)(disch:=first|(intros;contradiction)|omega)only[go_sem]<;>rfl) i.mode rowI (α:=List (Int×Int)) (fun rest k us=>us++rest.flatMap (fun md=>byP md 3 i.a)=i.mode.flatMap (fun md=>byP md 3 i.a)∧us.length≤k) (fun k us=>[(9,.any),(70,.d (.int .i64 k))]) (fun k us=>[(3,.cells [.grow 4 us.length (us.map useRow)]),(4,.grow us.length 2)]) [] (by simp(maxSteps:=9^9)(disch:=first|(intros;contradiction)|omega)only[go_sem]<;>rfl) ⟨rfl,Nat.le_refl _⟩ ?_ ?_
  ·rintro x rest k us ⟨hi,hu⟩ hlt hr hx1 hk _ next ih
   have hb:=by_e hx us.length us x 3 i.a (.inr rfl) (by omega)
   have hbl:=byP_len x 3 i.a
   have hl2:us.length+(byP x 3 i.a).length=(us++byP x 3 i.a).length:=by simp
   simp only[List.flatMap_cons]at hi;rw[hl2]at hb;simp(maxSteps:=9^9)(disch:=first|(intros;contradiction)|omega)only[go_sem,hlt,hr,rowI,hb,wrap64]
   exact ih (us++byP x 3 i.a) _ ⟨by rw[List.append_assoc];exact hi,by rw[←hl2];omega⟩ (by simp(maxSteps:=9^9)(disch:=first|(intros;contradiction)|omega)only[go_sem]<;>rfl)
  ·rintro k us ⟨hi,hu⟩ hlt hk next
   simp only[List.flatMap_nil,List.append_nil]at hi;rw[←hi];simp(maxSteps:=9^9)(disch:=first|(intros;contradiction)|omega)only[go_sem,hlt]
 ·have h9:=eq_true h9
  have e9:(i.op=9)=False:=by rw[eq_iff_iff,iff_false];have:=of_eq_true h9;omega
  simp(maxSteps:=9^9)(disch:=first|(intros;contradiction)|omega)only[go_sem,h9,e9,e1,e2,e3,e4,e5,e6]
  generalize hL:loopA _ _ _=L;apply range_upd hL (by simp(maxSteps:=9^9)(disch:=first|(intros;contradiction)|omega)only[go_sem]<;>rfl) i.mode rowI (α:=List (Int×Int)) (fun rest k us=>us++rest.flatMap (fun md=>byP md 3 i.a)=i.mode.flatMap (fun md=>byP md 3 i.a)∧us.length≤k) (fun k us=>[(9,.any),(70,.d (.int .i64 k))]) (fun k us=>[(3,.cells [.grow 4 us.length (us.map useRow)]),(4,.grow us.length 2)]) [] (by simp(maxSteps:=9^9)(disch:=first|(intros;contradiction)|omega)only[go_sem]<;>rfl) ⟨rfl,Nat.le_refl _⟩ ?_ ?_
  ·rintro x rest k us ⟨hi,hu⟩ hlt hr hx1 hk _ next ih
   have hb:=by_e hx us.length us x 3 i.a (.inr rfl) (by omega)
   have hbl:=byP_len x 3 i.a
   have hl2:us.length+(byP x 3 i.a).length=(us++byP x 3 i.a).length:=by simp
   simp only[List.flatMap_cons]at hi;rw[hl2]at hb;simp(maxSteps:=9^9)(disch:=first|(intros;contradiction)|omega)only[go_sem,hlt,hr,rowI,hb,wrap64]
   exact ih (us++byP x 3 i.a) _ ⟨by rw[List.append_assoc];exact hi,by rw[←hl2];omega⟩ (by simp(maxSteps:=9^9)(disch:=first|(intros;contradiction)|omega)only[go_sem]<;>rfl)
  ·rintro k us ⟨hi,hu⟩ hlt hk next
   simp only[List.flatMap_nil,List.append_nil]at hi;rw[←hi];simp(maxSteps:=9^9)(disch:=first|(intros;contradiction)|omega)only[go_sem,hlt]
theorem zipBy_len(l:List (Int×Int)):(l.flatMap (fun x=>byP x.2 3 x.1)).length≤l.length:=by
 induction l with
 | nil=>simp
 | cons x l ih=>have:=byP_len x.2 3 x.1;simp only[List.flatMap_cons,List.length_append,List.length_cons];omega
set_option maxHeartbeats 4000000 in
theorem tInstr3_e(hx:TX ext)(c:Cd1)(i:In1)(h15:i.op=15)(hl:i.args.length≤900)(hm:i.args.length≤i.mode.length):G ext 85 [c.av,i.av] []=some (.ret (.d (.sl ((usesL i).map useRow))),[]):=by
 have hu:usesL i=(i.args.zip i.mode).flatMap (fun x=>byP x.2 3 x.1):=by unfold usesL;simp[h15]
 rw[hu];rw[G_body hx.clear rfl Tryz.func85 rfl Tryz.results85 hv_85 rfl];simp only[Cd1.av,In1.av,ints];have ev:(i.op=7)=False∧(i.op=14)=False∧(i.op=8)=False∧(i.op=11)=False∧(i.op=13)=False∧(i.op=10)=False∧(i.op=9)=False∧(i.op=18)=False:=by simp only[eq_iff_iff,iff_false];omega
 obtain⟨e1,e2,e3,e4,e5,e6,e7,e8⟩:=ev
 have h15:=eq_true h15
 simp(maxSteps:=9^9)(disch:=first|(intros;contradiction)|omega)only[go_sem,h15,e1,e2,e3,e4,e5,e6,e7,e8]
 generalize hL:loopA _ _ _=L;apply range_upd hL (by simp(maxSteps:=9^9)(disch:=first|(intros;contradiction)|omega)only[go_sem]<;>rfl) i.args rowI (α:=List (Int×Int)) (fun rest k us=>us++(rest.zip (i.mode.drop k)).flatMap (fun x=>byP x.2 3 x.1)=(i.args.zip i.mode).flatMap (fun x=>byP x.2 3 x.1)∧us.length≤k) (fun k us=>[(10,.any),(11,.any),(85,.d (.int .i64 k))]) (fun k us=>[(3,.cells [.grow 4 us.length (us.map useRow)]),(4,.grow us.length 2)]) [] (by simp(maxSteps:=9^9)(disch:=first|(intros;contradiction)|omega)only[go_sem]<;>rfl) ⟨rfl,Nat.le_refl _⟩ ?_ ?_
 ·rintro x rest k us ⟨hi,hu⟩ hlt hr hx1 hk _ next ih
  have hkm:k<i.mode.length:=by omega
  have hrm:=map_at (f:=rowI) hkm
  rw[List.drop_eq_getElem_cons hkm]at hi;have hb:=by_e hx us.length us i.mode[k] 3 x (.inr rfl) (by omega)
  generalize i.mode[k]=md at hrm hb hi;have hbl:=byP_len md 3 x
  have hl2:us.length+(byP md 3 x).length=(us++byP md 3 x).length:=by simp
  simp only[List.zip_cons_cons,List.flatMap_cons]at hi;rw[hl2]at hb;simp only[rowI]at hrm hr;simp(maxSteps:=9^9)(disch:=first|(intros;contradiction)|omega)only[go_sem,hlt,hr,hrm,hb,wrap64]
  exact ih (us++byP md 3 x) _ ⟨by rw[List.append_assoc];exact hi,by rw[←hl2];omega⟩ (by simp(maxSteps:=9^9)(disch:=first|(intros;contradiction)|omega)only[go_sem]<;>rfl)
 ·rintro k us ⟨hi,hu⟩ hlt hk next
  simp only[List.zip_nil_left,List.flatMap_nil,List.append_nil]at hi;rw[←hi];simp(maxSteps:=9^9)(disch:=first|(intros;contradiction)|omega)only[go_sem,hlt]
end Go.Proofs.YticliodhjfednaaGreat
