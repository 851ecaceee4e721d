/- bltype: the uses of an instruction. Conditions: none. -/
import Derived.Test.YticliodhjfednaaGreatM14
set_option linter.unusedSimpArgs false
set_option linter.unusedVariables false
namespace Go.Proofs.YticliodhjfednaaGreat
open Go Go.Ab
variable {ext:Sem'}
def useRow(u:Int×Int):List Dt:=[.int .i64 u.1,.int .i64 u.2]
theorem room_use{n:Nat}(h:n≤1000000):room n 16:=by unfold room;simp;omega
set_option maxHeartbeats 1000000 in
theorem add_e(hx:TX ext)(e:Nat)(us:List (Int×Int))(kind v:Int)(hl:us.length≤1000):G ext 119 [.ptr 0 0,.d (.int .i64 kind),.d (.sl [[.int .i64 v]])] [.cells [.grow 1 e (us.map useRow)],.grow e 2]=some (.ret (.tuple []),[.cells [.grow 1 (e+1) ((us++[(v,kind)]).map useRow)],.grow (e+1) 2]):=by
 rw[G_body hx.clear rfl Tryz.func119 rfl Tryz.results119 hv_119 rfl];have hroom:room ((us.map useRow).length+1) 16:=room_use (by simp;omega)
 simp(maxSteps:=9^9)(disch:=first|(intros;contradiction)|omega)only[go_sem]
 generalize hL:loopA _ _ _=L
 apply loop_post hL (fun k:Nat=>k≤1) (fun k=>1-k)
  (fun k=>⟨[(0,.ptr 0 0),(1,.d (.int .i64 kind)),(2,.d (.sl [[.int .i64 v]])),(7,.any),(8,.d (.sl [[.int .i64 v]])),(9,.d (.int .i64 1)),(10,.d (.int .i64 k))],[],[.cells [.grow 1 (e+k) (us.map useRow++(if k=0 then []else [[.int .i64 v,.int .i64 kind]]))],.grow (e+k) 2]⟩)
  0 (by simp(maxSteps:=9^9)(disch:=first|(intros;contradiction)|omega)only[go_sem,List.append_nil,if_true,Nat.add_zero]<;>rfl) (by omega)
 clear hL;intro k k1 next ih;by_cases hk:k=0
 ·subst hk;simp only[if_true,List.append_nil,Nat.add_zero];simp(maxSteps:=9^9)(disch:=first|(intros;contradiction)|omega)only[go_sem,hroom,wrap64]
  exact ih 1 _ (by omega) (by omega) (by simp(maxSteps:=9^9)(disch:=first|(intros;contradiction)|omega)only[go_sem,if_false]<;>rfl)
 ·have hk:k=1:=by omega
  subst hk;rw[if_neg (by omega)]
  simp(maxSteps:=9^9)(disch:=first|(intros;contradiction)|omega)only[go_sem,List.map_append,List.map_cons,List.map_nil,useRow]
def kindOf(mode:Int):Int:=if mode=1 then 3 else if mode=2 then 2 else if mode=3 then 1 else 0
def byP(mode most v:Int):List (Int×Int):=if 0<kindOf mode then [(v,if kindOf mode≤most then kindOf mode else most)]else []
set_option maxHeartbeats 1000000 in
theorem by_e(hx:TX ext)(e:Nat)(us:List (Int×Int))(mode most v:Int)(hm:most=2∨most=3)(hl:us.length≤1000):G ext 120 [.ptr 0 0,.d (.int .i64 mode),.d (.int .i64 most),.d (.int .i64 v)] [.cells [.grow 1 e (us.map useRow)],.grow e 2]=some (.ret (.tuple []),[.cells [.grow 1 (e+(byP mode most v).length) ((us++byP mode most v).map useRow)],.grow (e+(byP mode most v).length) 2]):=by
 have ha:=fun kind=>add_e hx e us kind v hl
 rw[G_body hx.clear rfl Tryz.func120 rfl Tryz.results120 hv_120 rfl];unfold byP kindOf;by_cases h1:mode=1
 ·subst h1;rcases hm with rfl|rfl<;>simp(maxSteps:=9^9)(disch:=first|(intros;contradiction)|omega)only[go_sem,ha]
 ·by_cases h2:mode=2
  ·subst h2;rcases hm with rfl|rfl<;>simp(maxSteps:=9^9)(disch:=first|(intros;contradiction)|omega)only[go_sem,ha]
  ·by_cases h3:mode=3
   ·subst h3;rcases hm with rfl|rfl<;>simp(maxSteps:=9^9)(disch:=first|(intros;contradiction)|omega)only[go_sem,ha]
   ·rw[if_neg h1,if_neg h2,if_neg h3];simp(maxSteps:=9^9)(disch:=first|(intros;contradiction)|omega)only[go_sem,h1,h2,h3,if_neg,List.append_nil,List.length_nil,Nat.add_zero]
end Go.Proofs.YticliodhjfednaaGreat
