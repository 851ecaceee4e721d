/- Law 22, plain: what an instruction uses it reads; what is safe. Conditions: none. -/
import Derived.Test.YticliodhjfednaaGreatM18
set_option linter.unusedSimpArgs false
set_option linter.unusedVariables false
namespace Go.Proofs.YticliodhjfednaaGreat
open Go Go.Ab
theorem by_mem3{md v:Int}{u:Int×Int}(h:u∈byP md 3 v):u.1=v∧((md=1∧u.2=3)∨(md=2∧u.2=2)∨(md=3∧u.2=1)):=by
 unfold byP kindOf at h;by_cases h1:md=1
 ·subst h1;simp at h;subst h;simp
 ·by_cases h2:md=2
  ·subst h2;simp at h;subst h;simp
  ·by_cases h3:md=3
   ·subst h3;simp at h;subst h;simp
   ·simp[h1,h2,h3]at h
theorem by_mem2{md v:Int}{u:Int×Int}(h:u∈byP md 2 v):u.1=v∧((md=1∧u.2=2)∨(md=2∧u.2=2)∨(md=3∧u.2=1)):=by
 unfold byP kindOf at h;by_cases h1:md=1
 ·subst h1;simp at h;subst h;simp
 ·by_cases h2:md=2
  ·subst h2;simp at h;subst h;simp
  ·by_cases h3:md=3
   ·subst h3;simp at h;subst h;simp
   ·simp[h1,h2,h3]at h
theorem byP_len2(md v:Int):(byP md 2 v).length≤1:=by unfold byP;split<;>simp
theorem field_ptr{m:Md1}{c:Cd1}{v f:Int}(h:(fieldP m c v f).2=0):(varT c v).ptr=true:=by
 unfold fieldP at h;split at h
 ·assumption
 ·cases h
theorem heap_ptr{m:Md1}{c:Cd1}{i:In1}{o:Int}{p:Bool}(h:heapP m c i o p=0):(varT c i.a).ptr=true∧(varT c o).ptr=p:=by
 unfold heapP at h;split at h
 ·rename_i h1;refine⟨field_ptr h1,?_⟩
  unfold unlessP at h;split at h
  ·rename_i h2;simp only[Bool.and_eq_true,decide_eq_true_eq]at h2;rw[←h2.1];exact h2.2
  ·cases h
 ·contradiction
theorem unless_zero{b:Bool}{f:Int}(hf:f≠0)(h:unlessP b f=0):b=true:=by
 unfold unlessP at h;split at h
 ·assumption
 ·contradiction
theorem one_mode{t:Ty1}{l:List Int}(h:modeOk [t] l=true):∃ md,l=[md]∧classedP t md=true:=by
 match l,h with
 | [],h=>cases h
 | [md],h=>simp only[modeOk,Bool.and_true]at h;exact⟨md,rfl,h⟩
 | _::_::_,h=>simp[modeOk]at h
theorem zip_modes{c:Cd1}:∀ {l:List Int} {ms:List Int},modeOk (l.map (varT c)) ms=true→∀ x,x∈l.zip ms→x.1∈l∧classedP (varT c x.1) x.2=true
 | [],_,_,x,hx=>by simp at hx
 | a::l,[],h,x,hx=>by simp at hx
 | a::l,md::ms,h,x,hx=>by
  simp only[List.map_cons,modeOk,Bool.and_eq_true]at h;simp only[List.zip_cons_cons,List.mem_cons]at hx;rcases hx with rfl|hx
  ·exact⟨by simp,h.1⟩
  ·have:=zip_modes h.2 x hx
   exact⟨by simp[this.1],this.2⟩
theorem classed_ptr{t:Ty1}{md:Int}(h:classedP t md=true)(hm:md≠0):t.ptr=true:=by
 unfold classedP at h;split at h
 ·assumption
 ·simp at h;contradiction
theorem use_reads{m:Md1}{c:Cd1}{i:In1}(hi:instrP m c i=0)(hm:modeOk (modesP c i) i.mode=true) :
  (usesL i).length≤(readsP i).length∧∀ u,u∈usesL i→u.1∈readsP i∧(varT c u.1).ptr=true∧1≤u.2∧u.2≤3:=by
 have hop:=(instr_uses hi).1
 unfold instrP at hi;rw[if_neg (by omega)]at hi
 split at hi
 ·cases hi
 rename_i hall;have hcases:i.op=1∨i.op=2∨i.op=3∨i.op=4∨i.op=5∨i.op=6∨i.op=7∨i.op=8∨i.op=9∨i.op=10∨i.op=11∨i.op=12∨i.op=13∨i.op=14∨i.op=15∨i.op=16∨i.op=17∨i.op=18:=by omega
 unfold modesP at hm;unfold usesL readsP;unfold plainP at hi;rcases hcases with h|h|h|h|h|h|h|h|h|h|h|h|h|h|h|h|h|h<;>simp only[h]at hi hm ⊢
 case inr.inr.inr.inr.inr.inr.inl=>
  have:=(heap_ptr (by simpa using hi)).1
  simp[hasA,hasB,this]
 case inr.inr.inr.inr.inr.inr.inr.inl=>
  have:=(heap_ptr (by simpa using hi)).1
  simp[hasA,hasB,this]
 case inr.inr.inr.inr.inr.inr.inr.inr.inl=>
  have hp:=unless_zero (f:=7) (by decide) (by simpa using hi)
  simp only[Bool.and_eq_true,decide_eq_true_eq]at hp;obtain⟨md,h1,h2⟩:=one_mode (t:=varT c i.d) (by simpa using hm)
  rw[h1];simp only[List.flatMap_cons,List.flatMap_nil,List.append_nil,Int.reduceEq,or_true,true_or,or_self,if_true,if_false,hasA,hasB];refine⟨by have:=byP_len md 3 i.a;simp;omega,fun u hu=>?_⟩
  obtain⟨e,k⟩:=by_mem3 hu;rw[e]
  exact⟨by simp,hp.1,by omega,by omega⟩
 case inr.inr.inr.inr.inr.inr.inr.inr.inr.inl=>
  have hp:=heap_ptr (by simpa using hi)
  simp only[List.flatMap_cons,List.flatMap_nil,List.append_nil,Int.reduceEq,or_true,true_or,or_self,if_true,if_false,hasA,hasB];refine⟨by have:=byP_len2 (modeAt i 0) i.a;simp;omega,fun u hu=>?_⟩
  obtain⟨e,k⟩:=by_mem2 hu;rw[e]
  exact⟨by simp,hp.1,by omega,by omega⟩
 case inr.inr.inr.inr.inr.inr.inr.inr.inr.inr.inl=>
  have:=heap_ptr (by simpa using hi)
  simp[hasA,hasB,this.1,this.2]
 case inr.inr.inr.inr.inr.inr.inr.inr.inr.inr.inr.inr.inl=>
  have:=unless_zero (f:=7) (by decide) (by simpa using hi)
  simp[hasA,hasB,this]
 case inr.inr.inr.inr.inr.inr.inr.inr.inr.inr.inr.inr.inr.inl=>
  have hi:signedP (unlessP (!(varT c i.d).ptr&&(varT c i.a).ptr) 7) i.sign [[61,61],[33,61]]=0:=by simpa using hi
  unfold signedP at hi;split at hi
  ·rename_i h1;have:=unless_zero (f:=7) (by decide) h1
   simp only[Bool.and_eq_true]at this;simp[hasA,hasB,this.2]
  ·contradiction
 case inr.inr.inr.inr.inr.inr.inr.inr.inr.inr.inr.inr.inr.inr.inl=>
  have hm:modeOk (i.args.map (varT c)) i.mode=true:=by simpa using hm
  have hl:=modeOk_len hm
  simp only[Int.reduceEq,or_true,true_or,or_self,if_true,if_false,hasA,hasB];refine⟨by have:=zipBy_len (i.args.zip i.mode);simp at this hl ⊢;omega,fun u hu=>?_⟩
  obtain⟨x,hx,hu⟩:=List.mem_flatMap.1 hu
  obtain⟨h1,h2⟩:=zip_modes hm x hx
  obtain⟨e,k⟩:=by_mem3 hu
  rw[e];exact⟨by simp[h1],classed_ptr h2 (by omega),by omega,by omega⟩
 case inr.inr.inr.inr.inr.inr.inr.inr.inr.inr.inr.inr.inr.inr.inr.inr.inr=>
  have hp:=unless_zero (f:=7) (by decide) (by simpa using hi)
  simp only[decide_eq_true_eq]at hp;by_cases hr:c.ret.t.ptr=true
  ·obtain⟨md,h1,h2⟩:=one_mode (t:=c.ret.t) (by simpa[hr]using hm)
   rw[h1];simp only[List.flatMap_cons,List.flatMap_nil,List.append_nil,Int.reduceEq,or_true,true_or,or_self,if_true,if_false,hasA,hasB];refine⟨by have:=byP_len md 3 i.a;simp;omega,fun u hu=>?_⟩
   obtain⟨e,k⟩:=by_mem3 hu;rw[e]
   exact⟨by simp,by rw[hp];exact hr,by omega,by omega⟩
  ·have hm:modeOk [] i.mode=true:=by simpa[hr]using hm
   have:i.mode=[]:=List.length_eq_zero_iff.1 (modeOk_len hm)
   simp[this]
 all_goals simp
theorem formed_in{m:Md1}(h:formedP m=0){c:Cd1}(hc:c∈m.funcs){i:In1}(hi:i∈c.ins):instrP m c i=0∧modeOk (modesP c i) i.mode=true:=by
 obtain⟨hri,_,hforms⟩:=formedP_zero h
 obtain⟨_,_,hcodes⟩:=right_codes hri
 exact⟨(code_ins (hcodes c hc)).2.2.2 i hi,(formedC_zero (hforms c hc)).2.2 i hi⟩
theorem use_in{m:Md1}{c:Cd1}{i:In1}(hi:instrP m c i=0)(hm:modeOk (modesP c i) i.mode=true){u:Int×Int}(hu:u∈usesL i):inV c u.1=true:=by
 have h1:=((use_reads hi hm).2 u hu).1
 have h2:=(instr_uses hi).2
 refine List.all_eq_true.1 h2 _ ?_
 unfold usesP;simp[h1]
end Go.Proofs.YticliodhjfednaaGreat
