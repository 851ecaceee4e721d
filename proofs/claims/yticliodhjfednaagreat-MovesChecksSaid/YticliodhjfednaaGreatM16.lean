/- bltype: the uses of an instruction, all but Give, Ret and Call. Conditions: none. -/
import Derived.Test.YticliodhjfednaaGreatM15
set_option linter.unusedSimpArgs false
set_option linter.unusedVariables false
namespace Go.Proofs.YticliodhjfednaaGreat
open Go Go.Ab
variable {ext:Sem'}
def usesL(i:In1):List (Int×Int):=
 if i.op=7∨i.op=14 then [(i.a,1)]else if i.op=8 then [(i.a,2)]else if i.op=11 then [(i.a,2),(i.b,3)]else if i.op=13 then [(i.a,3)]
 else if i.op=10 then byP (modeAt i 0) 2 i.a else if i.op=9∨i.op=18 then i.mode.flatMap (fun md=>byP md 3 i.a)
 else if i.op=15 then(i.args.zip i.mode).flatMap (fun x=>byP x.2 3 x.1)else []
set_option maxHeartbeats 4000000 in
theorem tInstr1_e(hx:TX ext)(c:Cd1)(i:In1)(h9:¬i.op=9)(h18:¬i.op=18)(h15:¬i.op=15)(hm:i.op=10→0<i.mode.length):G ext 85 [c.av,i.av] []=some (.ret (.d (.sl ((usesL i).map useRow))),[]):=by
 have ha:=fun kind=>add_e hx 0 [] kind i.a (by simp)
 have hb:=add_e hx 1 [(i.a,2)] 3 i.b (by simp)
 have hby:=by_e hx 0 [] (modeAt i 0) 2 i.a (.inl rfl) (by simp)
 rw[G_body hx.clear rfl Tryz.func85 rfl Tryz.results85 hv_85 rfl];unfold usesL;simp only[Cd1.av,In1.av];by_cases h7:i.op=7
 ·rw[if_pos (.inl h7)];have h7:=eq_true h7
  simp only[List.map_nil,List.nil_append,List.map_cons,useRow]at ha ⊢;simp(maxSteps:=9^9)(disch:=first|(intros;contradiction)|omega)only[go_sem,h7,ha]
 ·by_cases h14:i.op=14
  ·rw[if_pos (.inr h14)];have h14:=eq_true h14
   simp only[List.map_nil,List.nil_append,List.map_cons,useRow]at ha ⊢;simp(maxSteps:=9^9)(disch:=first|(intros;contradiction)|omega)only[go_sem,h7,h14,ha]
  ·rw[if_neg (by omega)]
   by_cases h8:i.op=8
   ·rw[if_pos h8];have h8:=eq_true h8
    simp only[List.map_nil,List.nil_append,List.map_cons,useRow]at ha ⊢;simp(maxSteps:=9^9)(disch:=first|(intros;contradiction)|omega)only[go_sem,h7,h14,h8,ha]
   ·rw[if_neg h8];by_cases h11:i.op=11
    ·rw[if_pos h11];have h11:=eq_true h11
     simp only[List.map_nil,List.nil_append,List.map_cons,List.cons_append,useRow]at ha hb ⊢;simp(maxSteps:=9^9)(disch:=first|(intros;contradiction)|omega)only[go_sem,h7,h14,h8,h11,ha,hb]
    ·rw[if_neg h11];by_cases h13:i.op=13
     ·rw[if_pos h13];have h13:=eq_true h13
      simp only[List.map_nil,List.nil_append,List.map_cons,useRow]at ha ⊢;simp(maxSteps:=9^9)(disch:=first|(intros;contradiction)|omega)only[go_sem,h7,h14,h8,h11,h13,ha]
     ·rw[if_neg h13];by_cases h10:i.op=10
      ·rw[if_pos h10];have hr:=modeAt_at (hm h10)
       have h10:=eq_true h10
       simp only[List.map_nil,List.nil_append,ints]at hby ⊢;simp(maxSteps:=9^9)(disch:=first|(intros;contradiction)|omega)only[go_sem,h7,h14,h8,h11,h13,h10,hr,hby]
      ·rw[if_neg h10,if_neg (by omega),if_neg h15]
       simp(maxSteps:=9^9)(disch:=first|(intros;contradiction)|omega)only[go_sem,h7,h14,h8,h11,h13,h10,h9,h18,h15,List.map_nil]
end Go.Proofs.YticliodhjfednaaGreat
