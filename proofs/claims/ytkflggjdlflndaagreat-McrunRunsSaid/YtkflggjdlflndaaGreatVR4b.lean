/- The document's ir: what is wrong with an instruction. Conditions: none. -/
import Derived.Test.YtkflggjdlflndaaGreatVR3
set_option linter.unusedSimpArgs false
set_option linter.unusedVariables false
namespace Go.Proofs.YtkflggjdlflndaaGreat
open Go Go.Ab
variable {ext:Sem'}
theorem uses_split2 (c:Cd1) (i:In1):(usesP i).all (inV c) = ((readsP i).all (inV c) && (!hasD i.op || inV c i.d)):=by
 unfold usesP
 rw [List.all_append]
 cases hasD i.op <;> simp
set_option maxRecDepth 20000 in
set_option maxHeartbeats 16000000 in
theorem instr05_n (hx:TX ext) (m:Md1) (hm:m.structs.length ≤ 1000000) (c:Cd1) (i:In1) (hl:i.args.length ≤ 900) (hk:∀ v,inV c v = true→knownT m (varT c v)) (hDD:hasD i.op = false):G ext 34 [m.av,c.av,i.av] [] = some (.ret (.d (.int .i64 (instrP m c i))),[]):=by
 have hw:=w05_e hx i
 have hr:=r05_e hx i hl
 have hrl:=reads_len i
 have hh1:=has_e hx c [writesP i] (by simp)
 have hh2:=has_e hx c (readsP i) (by omega)
 have hil:(c.ins.map In1.row).length = c.ins.length:=List.length_map _
 have hsl:(m.structs.map Sc1.row).length = m.structs.length:=List.length_map _
 have hus:=uses_split2 c i
 have hvars:=fun h=>uses_vars (c:=c) (i:=i) h
 have hargs:=fun (o:i.op = 15) h=>uses_args (c:=c) (i:=i) o h
 have hcall:=fun h1 h2=>call05_e hx m c i (by omega) h1 h2
 have hheap:=fun other ptr=>hp05_e hx m hm c i other ptr
 have hone:=fun b f=>one05_e hx b f
 have hsg:=sg05_e hx i.sign
 obtain ⟨op,d,a,b,f,n,sign,args,mode,dest,els,pos⟩:=i
 unfold instrP
 simp only [List.all_cons,List.all_nil,Bool.and_true,writesP] at hw hr hh1 hh2 hus hvars hargs hcall hheap hsg hDD ⊢
 rw [G_body hx.clear rfl Tryz.func34 rfl Tryz.results34 hv_34 rfl]
 simp only [Cd1.av,In1.av,Md1.av,Md1.sr,Md1.fr,ints] at hw hr hh1 hh2 hcall hheap ⊢
 by_cases h1:op < 1
 ·rw [if_pos (.inl h1)]
  have h1:=eq_true h1
  simp (maxSteps:=4000000) (disch:=first | (intros; contradiction) | omega) only [go_sem,hw,h1]
  done
 by_cases h2:18 < op
 ·rw [if_pos (.inr h2)]
  have h2:=eq_true h2
  simp (maxSteps:=4000000) (disch:=first | (intros; contradiction) | omega) only [go_sem,hw,h1,h2]
  done
 rw [if_neg (by omega)]
 cases hR:(readsP ⟨op,d,a,b,f,n,sign,args,mode,dest,els,pos⟩).all (inV c) with
 | false=>
  rw [hR] at hus hh2
  rw [hus]
  simp only [Bool.false_and,if_true]
  cases hD:hasD op with
  | false=>
   rw [hD] at hw
   simp (maxSteps:=4000000) (disch:=first | (intros; contradiction) | omega) only [go_sem,hw,hr,h1,h2,hh2]
   done
  | true=>rw [hDD] at hD; cases hD
 | true=>
  rw [hR] at hus hh2
  cases hD:hasD op with
  | true=>rw [hDD] at hD; cases hD
  | false=>
   rw [hD] at hw hus
   simp only [Bool.true_and,Bool.not_false,Bool.true_or] at hus
   rw [hus]
   simp only [Bool.true_eq_false,if_false]
   simp (maxSteps:=4000000) (disch:=first | (intros; contradiction) | omega) only [go_sem,hw,hr,h1,h2,hh2]
   have hop:op = 6 ∨ op = 8 ∨ op = 11 ∨ op = 13 ∨ op = 16 ∨ op = 17 ∨ op = 18:=by
    simp only [hasD,decide_eq_false_iff_not,List.mem_cons,List.not_mem_nil,or_false] at hD
    omega
   rcases hop with rfl | rfl | rfl | rfl | rfl | rfl | rfl
   ·have u1:=hone (varT c a).ptr 7
    have hA:=(hvars hus).a rfl
    obtain ⟨ca,va⟩:=varT_ex hA
    have za:=(inV_iff.1 hA).1
    simp (maxSteps:=4000000) (disch:=first | (intros; contradiction) | omega) only [go_sem,va,za,u1]
    simp [plainP,numsP]
   ·have hA:=(hvars hus).a rfl
    have hq:=hheap b false (by simp) hA ((hvars hus).b rfl) (hk _ hA)
    simp (maxSteps:=4000000) (disch:=first | (intros; contradiction) | omega) only [go_sem,hq]
    try rfl
   ·have hA:=(hvars hus).a rfl
    have hq:=hheap b true (by simp) hA ((hvars hus).b rfl) (hk _ hA)
    simp (maxSteps:=4000000) (disch:=first | (intros; contradiction) | omega) only [go_sem,hq]
    try rfl
   ·have u1:=hone (!(varT c a).ptr) 7
    have hA:=(hvars hus).a rfl
    obtain ⟨ca,va⟩:=varT_ex hA
    have za:=(inV_iff.1 hA).1
    simp (maxSteps:=4000000) (disch:=first | (intros; contradiction) | omega) only [go_sem,va,za,u1]
    simp [plainP]
   ·have u1:=hone true 15
    have u2:=hone false 15
    simp only [show ¬ (16:Int) = 15 by decide,if_false,if_true]
    unfold lineIn
    by_cases q1:dest < 0
    ·rw [decide_eq_false (show ¬ (0 ≤ dest∧dest < (c.ins.length:Int)) by omega)]
     have q1:=eq_true q1
     simp (maxSteps:=4000000) (disch:=first | (intros; contradiction) | omega) only [go_sem,q1,u1]
     try rfl
    by_cases q2:((c.ins.map In1.row).length:Int) ≤ dest
    ·rw [decide_eq_false (show ¬ (0 ≤ dest∧dest < (c.ins.length:Int)) by omega)]
     have q2:=eq_true q2
     simp (maxSteps:=4000000) (disch:=first | (intros; contradiction) | omega) only [go_sem,q1,q2,u1]
     try rfl
    rw [decide_eq_true (show 0 ≤ dest∧dest < (c.ins.length:Int) by omega)]
    simp (maxSteps:=4000000) (disch:=first | (intros; contradiction) | omega) only [go_sem,q1,q2,u2]
    try rfl
   ·have hA:=(hvars hus).a rfl
    obtain ⟨ca,va⟩:=varT_ex hA
    have za:=(inV_iff.1 hA).1
    have u1:=hone (varT c a).ptr 7
    simp only [show ¬ (17:Int) = 15 by decide,show ¬ (17:Int) = 16 by decide,if_false,if_true]
    have l1:lineIn c dest = decide (0 ≤ dest∧dest < (c.ins.length:Int)):=rfl
    have l2:lineIn c els = decide (0 ≤ els∧els < (c.ins.length:Int)):=rfl
    by_cases q1:dest < 0
    ·rw [if_pos (show lineIn c dest = false ∨ lineIn c els = false from .inl (by rw [l1]; exact decide_eq_false (by omega)))]
     have q1:=eq_true q1
     simp (maxSteps:=4000000) (disch:=first | (intros; contradiction) | omega) only [go_sem,q1]
     done
    by_cases q2:((c.ins.map In1.row).length:Int) ≤ dest
    ·rw [if_pos (show lineIn c dest = false ∨ lineIn c els = false from .inl (by rw [l1]; exact decide_eq_false (by omega)))]
     have q2:=eq_true q2
     simp (maxSteps:=4000000) (disch:=first | (intros; contradiction) | omega) only [go_sem,q1,q2]
     done
    by_cases q3:els < 0
    ·rw [if_pos (show lineIn c dest = false ∨ lineIn c els = false from .inr (by rw [l2]; exact decide_eq_false (by omega)))]
     have q3:=eq_true q3
     simp (maxSteps:=4000000) (disch:=first | (intros; contradiction) | omega) only [go_sem,q1,q2,q3]
     done
    by_cases q4:((c.ins.map In1.row).length:Int) ≤ els
    ·rw [if_pos (show lineIn c dest = false ∨ lineIn c els = false from .inr (by rw [l2]; exact decide_eq_false (by omega)))]
     have q4:=eq_true q4
     simp (maxSteps:=4000000) (disch:=first | (intros; contradiction) | omega) only [go_sem,q1,q2,q3,q4]
     done
    rw [if_neg (show ¬ (lineIn c dest = false ∨ lineIn c els = false) by rw [l1,l2]; simp; omega)]
    simp (maxSteps:=4000000) (disch:=first | (intros; contradiction) | omega) only [go_sem,q1,q2,q3,q4,va,za,u1]
    simp [numsP]
   ·have hA:=(hvars hus).a rfl
    obtain ⟨ca,va⟩:=varT_ex hA
    have za:=(inV_iff.1 hA).1
    have u1:=hone true 7
    have u2:=hone false 7
    simp only [show ¬ (18:Int) = 15 by decide,show ¬ (18:Int) = 16 by decide,show ¬ (18:Int) = 17 by decide,if_false,if_true]
    generalize varT c a = ta at va ⊢
    obtain ⟨pa,na⟩:=ta
    generalize c.ret.t = tr
    obtain ⟨pr,nr⟩:=tr
    simp only [Ty1.mk.injEq] at va ⊢
    by_cases e1:pa = pr
    ·by_cases e2:na = nr
     ·rw [decide_eq_true (show pa = pr∧na = nr from ⟨e1,e2⟩)]
      subst e1 e2
      simp (maxSteps:=4000000) (disch:=first | (intros; contradiction) | omega) only [go_sem,va,za,u2]
      try rfl
     ·rw [decide_eq_false (show ¬ (pa = pr∧na = nr) from fun h=>e2 h.2)]
      subst e1
      simp (maxSteps:=4000000) (disch:=first | (intros; contradiction) | omega) only [go_sem,va,za,u1,e2]
      try rfl
    ·rw [decide_eq_false (show ¬ (pa = pr∧na = nr) from fun h=>e1 h.1)]
     simp (maxSteps:=4000000) (disch:=first | (intros; contradiction) | omega) only [go_sem,va,za,u1,e1]
     try rfl
end Go.Proofs.YtkflggjdlflndaaGreat
