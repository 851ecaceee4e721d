/- bltype: the uses of an instruction of a program. Conditions: none. -/
import Derived.Test.YticliodhjfednaaGreatM17
set_option linter.unusedSimpArgs false
set_option linter.unusedVariables false
namespace Go.Proofs.YticliodhjfednaaGreat
open Go Go.Ab
variable {ext:Sem'}
theorem formed_modes{m:Md1}(h:formedP m=0){c:Cd1}(hc:c∈m.funcs){i:In1}(hi:i∈c.ins):i.mode.length=(modesP c i).length∧instrP m c i=0:=by
 obtain⟨hri,_,hforms⟩:=formedP_zero h
 obtain⟨_,_,hcodes⟩:=right_codes hri
 exact⟨modeOk_len ((formedC_zero (hforms c hc)).2.2 i hi),(code_ins (hcodes c hc)).2.2.2 i hi⟩
theorem tInstr_e(hx:TX ext)(m:Md1)(hm:LightM m)(h:formedP m=0){c:Cd1}(hc:c∈m.funcs){i:In1}(hi:i∈c.ins):G ext 85 [c.av,i.av] []=some (.ret (.d (.sl ((usesL i).map useRow))),[]):=by
 obtain⟨h1,h2⟩:=formed_modes h hc hi
 obtain⟨k1,k2,_⟩:=hm.ins c hc i hi
 by_cases h15:i.op=15
 ·refine tInstr3_e hx c i h15 (by omega) ?_
  rw[h1];unfold modesP;rw[if_neg (by omega),if_neg (by omega),if_pos h15]
  simp
 ·by_cases h9:i.op=9∨i.op=18
  ·exact tInstr2_e hx c i h9 (by omega)
  ·refine tInstr1_e hx c i (by omega) (by omega) h15 (fun h10=>?_)
   rw[h1];unfold modesP;rw[if_pos (by omega)]
   simp
def usesM(m:Md1)(f a:Int):List (Int×Int):=
 if formedP m≠0∨f<0∨(m.funcs.length:Int)≤f then []else
 match m.funcs[f.toNat]? with
 | none=>[]
 | some c=>if a<0∨(c.ins.length:Int)≤a then []else match c.ins[a.toNat]? with
  | none=>[]
  | some i=>usesL i
end Go.Proofs.YticliodhjfednaaGreat
