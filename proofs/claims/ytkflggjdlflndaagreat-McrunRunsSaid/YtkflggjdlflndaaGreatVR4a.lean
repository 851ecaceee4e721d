/- The document's ir: what is wrong with an instruction. Conditions: none. -/
import Derived.Test.YtkflggjdlflndaaGreatVR3
set_option linter.unusedSimpArgs false
set_option linter.unusedVariables false
namespace Go.Proofs.YtkflggjdlflndaaGreat
open Go Go.Ab
variable {ext:Sem'}
theorem uses_split (c:Cd1) (i:In1):(usesP i).all (inV c) = ((readsP i).all (inV c) && (!hasD i.op || inV c i.d)):=by
 unfold usesP
 rw [List.all_append]
 cases hasD i.op <;> simp
set_option maxRecDepth 20000 in
set_option maxHeartbeats 16000000 in
theorem instr05_d (hx:TX ext) (m:Md1) (hm:m.structs.length ≤ 1000000) (c:Cd1) (i:In1) (hl:i.args.length ≤ 900) (hk:∀ v,inV c v = true→knownT m (varT c v)) (hDD:hasD i.op = true):G ext 34 [m.av,c.av,i.av] [] = some (.ret (.d (.int .i64 (instrP m c i))),[]):=by
 have hw:=w05_e hx i
 have hr:=r05_e hx i hl
 have hrl:=reads_len i
 have hh1:=has_e hx c [writesP i] (by simp)
 have hh2:=has_e hx c (readsP i) (by omega)
 have hil:(c.ins.map In1.row).length = c.ins.length:=List.length_map _
 have hsl:(m.structs.map Sc1.row).length = m.structs.length:=List.length_map _
 have hus:=uses_split c i
 have hvars:=fun h=>uses_vars (c:=c) (i:=i) h
 have hargs:=fun (o:i.op = 15) h=>uses_args (c:=c) (i:=i) o h
 have hcall:=fun h1 h2=>call05_e hx m c i (by omega) h1 h2
 have hheap:=fun other ptr=>hp05_e hx m hm c i other ptr
 have hone:=fun b f=>one05_e hx b f
 have hsg:=sg05_e hx i.sign
 obtain ⟨op,d,a,b,f,n,sign,args,mode,dest,els,pos⟩:=i
 unfold instrP
 simp only [List.all_cons,List.all_nil,Bool.and_true,writesP] at hw hr hh1 hh2 hus hvars hargs hcall hheap hsg hDD ⊢
 rw [G_body hx.clear rfl Tryz.func34 rfl Tryz.results34 hv_34 rfl]
 simp only [Cd1.av,In1.av,Md1.av,Md1.sr,Md1.fr,ints] at hw hr hh1 hh2 hcall hheap ⊢
 by_cases h1:op < 1
 ·rw [if_pos (.inl h1)]
  have h1:=eq_true h1
  simp (maxSteps:=4000000) (disch:=first | (intros; contradiction) | omega) only [go_sem,hw,h1]
  done
 by_cases h2:18 < op
 ·rw [if_pos (.inr h2)]
  have h2:=eq_true h2
  simp (maxSteps:=4000000) (disch:=first | (intros; contradiction) | omega) only [go_sem,hw,h1,h2]
  done
 rw [if_neg (by omega)]
 cases hR:(readsP ⟨op,d,a,b,f,n,sign,args,mode,dest,els,pos⟩).all (inV c) with
 | false=>
  rw [hR] at hus hh2
  rw [hus]
  simp only [Bool.false_and,if_true]
  cases hD:hasD op with
  | false=>rw [hDD] at hD; cases hD
  | true=>
   simp only [hD,if_true,List.map_cons,List.map_nil,rowI] at hw hh1
   cases hV:inV c d <;> rw [hV] at hh1 <;> simp (maxSteps:=4000000) (disch:=first | (intros; contradiction) | omega) only [go_sem,hw,hr,h1,h2,hh1,hh2]
   all_goals done
 | true=>
  rw [hR] at hus hh2
  cases hD:hasD op with
  | true=>
   simp only [hD,if_true,List.map_cons,List.map_nil,rowI] at hw hh1
   cases hV:inV c d with
   | false=>
    rw [hD,hV] at hus
    rw [hus]
    rw [hV] at hh1
    simp only [Bool.true_and,Bool.not_true,Bool.or_self,if_true]
    simp (maxSteps:=4000000) (disch:=first | (intros; contradiction) | omega) only [go_sem,hw,hr,h1,h2,hh1,hh2]
    done
   | true=>
    rw [hD,hV] at hus
    rw [hV] at hh1
    simp only [Bool.true_and,Bool.not_true,Bool.false_or] at hus
    rw [hus]
    simp only [Bool.true_eq_false,if_false]
    simp (maxSteps:=4000000) (disch:=first | (intros; contradiction) | omega) only [go_sem,hw,hr,h1,h2,hh1,hh2]
    have hop:op = 1 ∨ op = 2 ∨ op = 3 ∨ op = 4 ∨ op = 5 ∨ op = 7 ∨ op = 9 ∨ op = 10 ∨ op = 12 ∨ op = 14 ∨ op = 15:=by
     simp only [hasD,decide_eq_true_eq,List.mem_cons,List.not_mem_nil,or_false] at hD
     omega
    rcases hop with rfl | rfl | rfl | rfl | rfl | rfl | rfl | rfl | rfl | rfl | rfl
    ·have u1:=hone (varT c d).ptr 7
     obtain ⟨cd,vd⟩:=varT_ex hV
     have zd:=(inV_iff.1 hV).1
     simp (maxSteps:=4000000) (disch:=first | (intros; contradiction) | omega) only [go_sem,vd,zd,u1]
     simp [plainP,numsP]
    ·have u1:=hone (!(varT c d).ptr) 7
     obtain ⟨cd,vd⟩:=varT_ex hV
     have zd:=(inV_iff.1 hV).1
     simp (maxSteps:=4000000) (disch:=first | (intros; contradiction) | omega) only [go_sem,vd,zd,u1]
     simp [plainP]
    ·have hA:=(hvars hus).a rfl
     obtain ⟨cd,vd⟩:=varT_ex hV
     have zd:=(inV_iff.1 hV).1
     obtain ⟨ca,va⟩:=varT_ex hA
     have za:=(inV_iff.1 hA).1
     have u1:=hone true 7
     have u2:=hone false 7
     have e:plainP m c ⟨3,d,a,b,f,n,sign,args,mode,dest,els,pos⟩ = unlessP (!((varT c d).ptr || (varT c a).ptr)) 7:=by simp [plainP,numsP]
     simp only [show ¬ (3:Int) = 15 by decide,show ¬ (3:Int) = 16 by decide,show ¬ (3:Int) = 17 by decide,show ¬ (3:Int) = 18 by decide,if_false]
     rw [e]
     generalize varT c d = td at vd ⊢
     generalize varT c a = ta at va ⊢
     obtain ⟨pd,nd⟩:=td
     obtain ⟨pa,na⟩:=ta
     cases pd <;> cases pa <;> simp only at vd va <;> simp (maxSteps:=4000000) (disch:=first | (intros; contradiction) | omega) only [go_sem,vd,zd,va,za,u1,u2] <;> rfl
    ·have hA:=(hvars hus).a rfl
     have hB:=(hvars hus).b rfl
     obtain ⟨cd,vd⟩:=varT_ex hV
     have zd:=(inV_iff.1 hV).1
     obtain ⟨ca,va⟩:=varT_ex hA
     have za:=(inV_iff.1 hA).1
     obtain ⟨cb,vb⟩:=varT_ex hB
     have zb:=(inV_iff.1 hB).1
     have u1:=hone true 3
     have u2:=hone false 3
     have e:plainP m c ⟨4,d,a,b,f,n,sign,args,mode,dest,els,pos⟩ = signedP (unlessP (!((varT c d).ptr || ((varT c a).ptr || (varT c b).ptr))) 7) sign signs11:=by simp [plainP,numsP]
     simp only [show ¬ (4:Int) = 15 by decide,show ¬ (4:Int) = 16 by decide,show ¬ (4:Int) = 17 by decide,show ¬ (4:Int) = 18 by decide,if_false]
     rw [e]
     generalize varT c d = td at vd ⊢
     generalize varT c a = ta at va ⊢
     generalize varT c b = tb at vb ⊢
     obtain ⟨pd,nd⟩:=td
     obtain ⟨pa,na⟩:=ta
     obtain ⟨pb,nb⟩:=tb
     unfold signedP
     cases pd
     ·cases pa
      ·cases pb
       ·cases hsb:decide (sign ∈ signs11) <;> rw [hsb] at hsg <;> simp only at vd va vb <;> simp (maxSteps:=4000000) (disch:=first | (intros; contradiction) | omega) only [go_sem,vd,zd,va,za,vb,zb,hsg,u1,u2] <;> rfl
       ·simp only at vd va vb
        simp (maxSteps:=4000000) (disch:=first | (intros; contradiction) | omega) only [go_sem,vd,zd,va,za,vb,zb]
        try rfl
      ·simp only at vd va vb
       simp (maxSteps:=4000000) (disch:=first | (intros; contradiction) | omega) only [go_sem,vd,zd,va,za,vb,zb]
       try rfl
     ·simp only at vd va vb
      simp (maxSteps:=4000000) (disch:=first | (intros; contradiction) | omega) only [go_sem,vd,zd,va,za,vb,zb]
      try rfl
    ·have u1:=hone (varT c d).ptr 7
     obtain ⟨cd,vd⟩:=varT_ex hV
     have zd:=(inV_iff.1 hV).1
     simp (maxSteps:=4000000) (disch:=first | (intros; contradiction) | omega) only [go_sem,vd,zd,u1]
     simp [plainP,numsP]
    ·have hA:=(hvars hus).a rfl
     have hq:=hheap d false (by simp) hA hV (hk _ hA)
     simp (maxSteps:=4000000) (disch:=first | (intros; contradiction) | omega) only [go_sem,hq]
     try rfl
    ·have hA:=(hvars hus).a rfl
     obtain ⟨cd,vd⟩:=varT_ex hV
     have zd:=(inV_iff.1 hV).1
     obtain ⟨ca,va⟩:=varT_ex hA
     have za:=(inV_iff.1 hA).1
     have u1:=hone true 7
     have u2:=hone false 7
     have e:plainP m c ⟨9,d,a,b,f,n,sign,args,mode,dest,els,pos⟩ = unlessP ((varT c a).ptr && decide (varT c a = varT c d)) 7:=by simp [plainP]
     simp only [show ¬ (9:Int) = 15 by decide,show ¬ (9:Int) = 16 by decide,show ¬ (9:Int) = 17 by decide,show ¬ (9:Int) = 18 by decide,if_false]
     rw [e]
     generalize varT c d = td at vd ⊢
     generalize varT c a = ta at va ⊢
     obtain ⟨pd,nd⟩:=td
     obtain ⟨pa,na⟩:=ta
     cases pa
     ·simp only at vd va
      simp (maxSteps:=4000000) (disch:=first | (intros; contradiction) | omega) only [go_sem,vd,zd,va,za,u1]
      try rfl
     ·cases pd
      ·rw [decide_eq_false (show ¬ ((⟨true,na⟩:Ty1) = ⟨false,nd⟩) by simp)]
       simp only at vd va
       simp (maxSteps:=4000000) (disch:=first | (intros; contradiction) | omega) only [go_sem,vd,zd,va,za,u1]
       try rfl
      ·by_cases e2:na = nd
       ·subst e2
        rw [decide_eq_true (show (⟨true,na⟩:Ty1) = ⟨true,na⟩ from rfl)]
        simp only at vd va
        simp (maxSteps:=4000000) (disch:=first | (intros; contradiction) | omega) only [go_sem,vd,zd,va,za,u2]
        try rfl
       ·rw [decide_eq_false (show ¬ ((⟨true,na⟩:Ty1) = ⟨true,nd⟩) by simp [e2])]
        simp only at vd va
        simp (maxSteps:=4000000) (disch:=first | (intros; contradiction) | omega) only [go_sem,vd,zd,va,za,u1,e2]
        try rfl
    ·have hA:=(hvars hus).a rfl
     have hq:=hheap d true (by simp) hA hV (hk _ hA)
     simp (maxSteps:=4000000) (disch:=first | (intros; contradiction) | omega) only [go_sem,hq]
     try rfl
    ·obtain ⟨cd,vd⟩:=varT_ex hV
     have zd:=(inV_iff.1 hV).1
     have u1:=hone true 7
     have u2:=hone false 7
     have e:plainP m c ⟨12,d,a,b,f,n,sign,args,mode,dest,els,pos⟩ = if f < 0 ∨ (m.structs.length:Int) ≤ f then 15 else unlessP (decide (varT c d = ⟨true,((m.structs[f.toNat]?).map (·.name)).getD []⟩)) 7:=by simp [plainP]
     simp only [show ¬ (12:Int) = 15 by decide,show ¬ (12:Int) = 16 by decide,show ¬ (12:Int) = 17 by decide,show ¬ (12:Int) = 18 by decide,if_false]
     rw [e]
     by_cases f1:f < 0
     ·rw [if_pos (show f < 0 ∨ (m.structs.length:Int) ≤ f from .inl f1)]
      have f1:=eq_true f1
      simp (maxSteps:=4000000) (disch:=first | (intros; contradiction) | omega) only [go_sem,f1]
      done
     by_cases f2:((m.structs.map Sc1.row).length:Int) ≤ f
     ·rw [if_pos (show f < 0 ∨ (m.structs.length:Int) ≤ f from .inr (by omega))]
      have f2:=eq_true f2
      simp (maxSteps:=4000000) (disch:=first | (intros; contradiction) | omega) only [go_sem,f1,f2]
      done
     rw [if_neg (show ¬ (f < 0 ∨ (m.structs.length:Int) ≤ f) by omega)]
     have f3:0 ≤ f:=by omega
     have flt:f.toNat < m.structs.length:=by omega
     have fr:=map_at (f:=Sc1.row) flt
     rw [List.getElem?_eq_getElem flt]
     generalize m.structs[f.toNat] = sc at fr ⊢
     simp only [Sc1.row,Option.map_some,Option.getD_some] at fr ⊢
     generalize varT c d = td at vd ⊢
     obtain ⟨pd,nd⟩:=td
     cases pd
     ·rw [decide_eq_false (show ¬ ((⟨false,nd⟩:Ty1) = ⟨true,sc.name⟩) by simp)]
      simp only at vd
      simp (maxSteps:=4000000) (disch:=first | (intros; contradiction) | omega) only [go_sem,vd,zd,f1,f2,f3,fr,u1]
      try rfl
     ·by_cases e2:nd = sc.name
      ·rw [decide_eq_true (show (⟨true,nd⟩:Ty1) = ⟨true,sc.name⟩ by rw [e2])]
       simp only at vd
       have e2:=eq_true e2
       simp (maxSteps:=4000000) (disch:=first | (intros; contradiction) | omega) only [go_sem,vd,zd,f1,f2,f3,fr,u2,e2]
       try rfl
      ·rw [decide_eq_false (show ¬ ((⟨true,nd⟩:Ty1) = ⟨true,sc.name⟩) by simp [e2])]
       simp only at vd
       simp (maxSteps:=4000000) (disch:=first | (intros; contradiction) | omega) only [go_sem,vd,zd,f1,f2,f3,fr,u1,e2]
       try rfl
    ·have hA:=(hvars hus).a rfl
     obtain ⟨cd,vd⟩:=varT_ex hV
     have zd:=(inV_iff.1 hV).1
     obtain ⟨ca,va⟩:=varT_ex hA
     have za:=(inV_iff.1 hA).1
     have u1:=hone true 3
     have u2:=hone false 3
     have e:plainP m c ⟨14,d,a,b,f,n,sign,args,mode,dest,els,pos⟩ = signedP (unlessP (!(varT c d).ptr && (varT c a).ptr) 7) sign [[61,61],[33,61]]:=by simp [plainP]
     simp only [show ¬ (14:Int) = 15 by decide,show ¬ (14:Int) = 16 by decide,show ¬ (14:Int) = 17 by decide,show ¬ (14:Int) = 18 by decide,if_false]
     rw [e]
     generalize varT c d = td at vd ⊢
     generalize varT c a = ta at va ⊢
     obtain ⟨pd,nd⟩:=td
     obtain ⟨pa,na⟩:=ta
     unfold signedP
     cases pd
     ·cases pa
      ·simp only at vd va
       simp (maxSteps:=4000000) (disch:=first | (intros; contradiction) | omega) only [go_sem,vd,zd,va,za]
       try rfl
      ·simp only at vd va
       by_cases s1:sign = [61,61]
       ·have eR:(if unlessP (!false && true) 7 = 0 then unlessP (decide (sign ∈ [[61,61],[33,61]])) 3 else unlessP (!false && true) 7) = 0:=by rw [s1]; decide +kernel
        rw [eR]
        have u2:G ext 35 [.d (.bool false),.d (.int .i64 3)] [] = some (.ret (.d (.int .i64 0)),[]):=u2
        subst s1
        simp (maxSteps:=4000000) (disch:=first | (intros; contradiction) | omega) only [go_sem,vd,zd,va,za,u2]
        done
       ·by_cases s2:sign = [33,61]
        ·have eR:(if unlessP (!false && true) 7 = 0 then unlessP (decide (sign ∈ [[61,61],[33,61]])) 3 else unlessP (!false && true) 7) = 0:=by rw [s2]; decide +kernel
         rw [eR]
         have u2:G ext 35 [.d (.bool false),.d (.int .i64 3)] [] = some (.ret (.d (.int .i64 0)),[]):=u2
         have s2:=eq_true s2
         simp (maxSteps:=4000000) (disch:=first | (intros; contradiction) | omega) only [go_sem,vd,zd,va,za,u2,s1,s2]
         done
        ·have eR:(if unlessP (!false && true) 7 = 0 then unlessP (decide (sign ∈ [[61,61],[33,61]])) 3 else unlessP (!false && true) 7) = 3:=by rw [decide_eq_false (show ¬ sign ∈ [[61,61],[33,61]] by simp [s1,s2])]; rfl
         rw [eR]
         have u1:G ext 35 [.d (.bool true),.d (.int .i64 3)] [] = some (.ret (.d (.int .i64 3)),[]):=u1
         simp (maxSteps:=4000000) (disch:=first | (intros; contradiction) | omega) only [go_sem,vd,zd,va,za,u1,s1,s2]
         done
     ·simp only at vd va
      simp (maxSteps:=4000000) (disch:=first | (intros; contradiction) | omega) only [go_sem,vd,zd,va,za]
      try rfl
    ·have hq:=hcall hV (hargs rfl hus)
     simp (maxSteps:=4000000) (disch:=first | (intros; contradiction) | omega) only [go_sem,hq]
     try rfl
  | false=>rw [hDD] at hD; cases hD
end Go.Proofs.YtkflggjdlflndaaGreat
