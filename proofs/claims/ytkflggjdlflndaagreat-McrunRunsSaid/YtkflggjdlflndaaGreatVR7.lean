/- The document's ir: which programs are right. Conditions: none. -/
import Derived.Test.YtkflggjdlflndaaGreatVR4a
import Derived.Test.YtkflggjdlflndaaGreatVR4b
import Derived.Test.YtkflggjdlflndaaGreatVR56
set_option linter.unusedSimpArgs false
set_option linter.unusedVariables false
namespace Go.Proofs.YtkflggjdlflndaaGreat
open Go Go.Ab
variable {ext:Sem'}
theorem instr05_e (hx:TX ext) (m:Md1) (hm:m.structs.length ≤ 1000000) (c:Cd1) (i:In1) (hl:i.args.length ≤ 900) (hk:∀ v,inV c v = true→knownT m (varT c v)):G ext 34 [m.av,c.av,i.av] [] = some (.ret (.d (.int .i64 (instrP m c i))),[]):=by
 cases h:hasD i.op with
 | true=>exact instr05_d hx m hm c i hl hk h
 | false=>exact instr05_n hx m hm c i hl hk h
set_option maxHeartbeats 8000000 in
theorem right05_e (hx:TX ext) (m:Md1) (hm:LightM m):G ext 17 [m.av] [] = some (.ret (.d (.int .i64 (rightP m))),[]):=by
 have hsl:(m.structs.map Sc1.row).length = m.structs.length:=List.length_map _
 have hcl:(m.funcs.map Cd1.row).length = m.funcs.length:=List.length_map _
 have hs40:=hm.structs
 have hf70:=hm.funcs
 have htw:=twice05_e hx m hm.structs hm.funcs (fun s hs=>by have:=(hm.fields s hs).1; omega)
 have hun:=unknown05_e hx m hm
 have hfn:=f05_e hx m [109,97,105,110] (by omega)
 have hu1:=one05_e hx true 9
 have hu2:=one05_e hx false 9
 simp only [Bool.not_true,Bool.not_false] at hu1 hu2
 have hins:=fun (c:Cd1) (hc:c ∈ m.funcs) (i:In1) (hi:i ∈ c.ins) (hk:∀ v,inV c v = true→knownT m (varT c v))=>instr05_e hx m (by omega) c i (by have:=(hm.ins c hc i hi).1; omega) hk
 rw [G_body hx.clear rfl Tryz.func17 rfl Tryz.results17 hv_17 rfl]
 simp only [Md1.av,Md1.sr,Md1.fr] at htw hun hfn hins ⊢
 by_cases h1:(30:Int) < ((m.structs.map Sc1.row).length:Int)
 ·have e:rightP m = 2:=by unfold rightP; rw [if_pos (by omega)]
  rw [e]
  have h1:=eq_true h1
  simp (maxSteps:=4000000) (disch:=first | (intros; contradiction) | omega) only [go_sem,h1]
  done
 by_cases h2:(60:Int) < ((m.funcs.map Cd1.row).length:Int)
 ·have e:rightP m = 2:=by unfold rightP; rw [if_pos (by omega)]
  rw [e]
  have h2:=eq_true h2
  simp (maxSteps:=4000000) (disch:=first | (intros; contradiction) | omega) only [go_sem,h1,h2]
  done
 cases h3:twiceP m with
 | true=>
  rw [h3] at htw
  have e:rightP m = 6:=by unfold rightP; rw [if_neg (by omega),h3]; rfl
  rw [e]
  simp (maxSteps:=4000000) (disch:=first | (intros; contradiction) | omega) only [go_sem,h1,h2,htw]
  done
 | false=>
 rw [h3] at htw
 cases h4:(typesL m).all (knownP m) with
 | false=>
  rw [h4] at hun
  have e:rightP m = 5:=by unfold rightP; rw [if_neg (by omega),h3,h4]; rfl
  rw [e]
  simp only [Bool.not_false] at hun
  simp (maxSteps:=4000000) (disch:=first | (intros; contradiction) | omega) only [go_sem,h1,h2,htw,hun]
  done
 | true=>
 rw [h4] at hun
 simp only [Bool.not_true] at hun
 have e:rightP m = if firstP (codeP m) m.funcs = 0 then mainP m else firstP (codeP m) m.funcs:=by
  unfold rightP; rw [if_neg (by omega),h3,h4]; rfl
 rw [e]
 simp (maxSteps:=4000000) (disch:=first | (intros; contradiction) | omega) only [go_sem,h1,h2,htw,hun]
 generalize hL:loopA _ _ _ = L
 apply range_upd hL (by simp (maxSteps:=4000000) (disch:=first | (intros; contradiction) | omega) only [go_sem] <;> rfl) m.funcs Cd1.row (α:=Unit) (fun rest k _=>firstP (codeP m) m.funcs = firstP (codeP m) rest) (fun k _=>[(3,.d (.int .i64 k))]) (fun _ _=>[]) () (by simp (maxSteps:=4000000) (disch:=first | (intros; contradiction) | omega) only [go_sem] <;> rfl) rfl ?_ ?_
 ·rintro c rest k _ i1 hlt hr hcc hk _ next ih
  clear hL
  have hcm:=List.mem_of_getElem? hcc
  have hkn:=known_all h4 hcm
  have hins:=hins c hcm
  have hil:(c.ins.map In1.row).length = c.ins.length:=List.length_map _
  have hvl:(c.vars.map Vr1.row).length = c.vars.length:=List.length_map _
  have hv4:=(hm.vars c hcm).2.1
  simp only [Cd1.row,Cd1.av,ints] at hr hins
  simp only [firstP] at i1
  have hwk:IntKind.wrap .i64 ((k:Int) + 1) = ((k + 1:Nat):Int):=by rw [wrap64 (by omega) (by omega)]; omega
  have hk0:(0:Int) ≤ (k:Int):=by omega
  by_cases q1:(300:Int) < ((c.vars.map Vr1.row).length:Int)
  ·have ec:codeP m c = 2:=by unfold codeP; rw [if_pos (.inl (by omega))]
   rw [ec,if_neg (by decide)] at i1
   rw [if_neg (by rw [i1]; decide),i1]
   have q1:=eq_true q1
   simp (maxSteps:=4000000) (disch:=first | (intros; contradiction) | omega) only [go_sem,hlt,hr,hk0,q1]
   done
  by_cases q2:((c.ins.map In1.row).length:Int) < 1
  ·have ec:codeP m c = 2:=by unfold codeP; rw [if_pos (.inr (.inl (by omega)))]
   rw [ec,if_neg (by decide)] at i1
   rw [if_neg (by rw [i1]; decide),i1]
   have q2:=eq_true q2
   simp (maxSteps:=4000000) (disch:=first | (intros; contradiction) | omega) only [go_sem,hlt,hr,hk0,q1,q2]
   done
  by_cases q3:(3000:Int) < ((c.ins.map In1.row).length:Int)
  ·omega
  by_cases q4:c.params < 0
  ·have ec:codeP m c = 15:=by unfold codeP; rw [if_neg (by omega),if_pos (.inl q4)]
   rw [ec,if_neg (by decide)] at i1
   rw [if_neg (by rw [i1]; decide),i1]
   have q4:=eq_true q4
   simp (maxSteps:=4000000) (disch:=first | (intros; contradiction) | omega) only [go_sem,hlt,hr,hk0,q1,q2,q3,q4]
   done
  by_cases q5:((c.vars.map Vr1.row).length:Int) < c.params
  ·have ec:codeP m c = 15:=by unfold codeP; rw [if_neg (by omega),if_pos (.inr (by omega))]
   rw [ec,if_neg (by decide)] at i1
   rw [if_neg (by rw [i1]; decide),i1]
   have q5:=eq_true q5
   simp (maxSteps:=4000000) (disch:=first | (intros; contradiction) | omega) only [go_sem,hlt,hr,hk0,q1,q2,q3,q4,q5]
   done
  have ec:codeP m c = if firstP (instrP m c) c.ins = 0 then unlessP (decide (16 ≤ lastOp c)) 15 else firstP (instrP m c) c.ins:=by unfold codeP; rw [if_neg (by omega),if_neg (by omega)]
  simp (maxSteps:=4000000) (disch:=first | (intros; contradiction) | omega) only [go_sem,hlt,hr,hk0,q1,q2,q3,q4,q5]
  generalize hL:loopA _ _ _ = L
  apply range_upd hL (by simp (maxSteps:=4000000) (disch:=first | (intros; contradiction) | omega) only [go_sem] <;> rfl) c.ins In1.row (α:=Unit) (fun ri a _=>firstP (instrP m c) c.ins = firstP (instrP m c) ri) (fun a _=>[(6,.d (.int .i64 a))]) (fun _ _=>[]) () (by simp (maxSteps:=4000000) (disch:=first | (intros; contradiction) | omega) only [go_sem] <;> rfl) rfl ?_ ?_
  ·rintro i ri a _ j1 hlta hri hii ha _ next2 ih2
   clear hL
   have hin:=hins i (List.mem_of_getElem? hii) hkn
   simp only [In1.row,In1.av,ints] at hri hin
   simp only [firstP] at j1
   have hwa:IntKind.wrap .i64 ((a:Int) + 1) = ((a + 1:Nat):Int):=by rw [wrap64 (by omega) (by omega)]; omega
   have ha0:(0:Int) ≤ (a:Int):=by omega
   by_cases z:instrP m c i = 0
   ·rw [if_pos z] at j1
    rw [z] at hin
    simp (maxSteps:=4000000) (disch:=first | (intros; contradiction) | omega) only [go_sem,hlta,hri,ha0,hin,hwa]
    exact ih2 () _ j1 (by simp (maxSteps:=4000000) (disch:=first | (intros; contradiction) | omega) only [go_sem] <;> rfl)
   ·rw [if_neg z] at j1
    have ec2:codeP m c = instrP m c i:=by rw [ec,if_neg (by rw [j1]; exact z),j1]
    rw [ec2,if_neg z] at i1
    rw [if_neg (by rw [i1]; exact z),i1]
    simp (maxSteps:=4000000) (disch:=first | (intros; contradiction) | omega) only [go_sem,hlta,hri,ha0,hin,z]
    done
  ·rintro a _ j1 hlta ha next2
   clear hL
   simp only [firstP] at j1
   rw [if_pos j1] at ec
   have hlast:(c.ins.map In1.row)[c.ins.length - 1]? = some (c.ins[c.ins.length - 1]'(by omega)).row:=by rw [List.getElem?_map,List.getElem?_eq_getElem (by omega)]; rfl
   have hlo:lastOp c = (c.ins[c.ins.length - 1]'(by omega)).op:=by unfold lastOp; rw [List.getElem?_eq_getElem (by omega)]; rfl
   rw [hlo] at ec
   generalize c.ins[c.ins.length - 1]'(by omega) = li at hlast ec
   simp only [In1.row,ints] at hlast
   have hw1:IntKind.wrap .i64 (((c.ins.map In1.row).length:Int) - 1) = ((c.ins.length - 1:Nat):Int):=by rw [wrap64 (by omega) (by omega)]; omega
   have hn0:(0:Int) ≤ ((c.ins.length - 1:Nat):Int):=Int.natCast_nonneg _
   have hn1:((c.ins.length - 1:Nat):Int) < ((c.ins.map In1.row).length:Int):=by omega
   by_cases z:li.op < 16
   ·have ec2:codeP m c = 15:=by rw [ec,decide_eq_false (by omega)]; rfl
    rw [ec2,if_neg (by decide)] at i1
    rw [if_neg (by rw [i1]; decide),i1]
    have z:=eq_true z
    simp (maxSteps:=4000000) (disch:=first | (intros; contradiction) | omega) only [go_sem,hlta,hw1,hn0,hn1,hlast,z]
    done
   ·have ec2:codeP m c = 0:=by rw [ec,decide_eq_true (by omega)]; rfl
    rw [ec2,if_pos rfl] at i1
    simp (maxSteps:=4000000) (disch:=first | (intros; contradiction) | omega) only [go_sem,hlta,hw1,hn0,hn1,hlast,z,hwk]
    exact ih () _ i1 (by simp (maxSteps:=4000000) (disch:=first | (intros; contradiction) | omega) only [go_sem] <;> rfl)
 ·rintro k _ i1 hlt hk next
  clear hL
  simp only [firstP] at i1
  rw [if_pos i1]
  have hu1:G ext 35 [.d (.bool true),.d (.int .i64 9)] [] = some (.ret (.d (.int .i64 9)),[]):=hu1
  have hu2:G ext 35 [.d (.bool false),.d (.int .i64 9)] [] = some (.ret (.d (.int .i64 0)),[]):=hu2
  by_cases z:funcIx m [109,97,105,110] < 0
  ·have e:mainP m = 9:=by
    unfold mainP
    cases m.funcs[(funcIx m [109,97,105,110]).toNat]? with
    | none=>rfl
    | some c=>simp only; rw [decide_eq_false (by omega)]; rfl
   rw [e]
   have z:=eq_true z
   simp (maxSteps:=4000000) (disch:=first | (intros; contradiction) | omega) only [go_sem,hlt,hfn,z,hu1]
   done
  ·have z0:0 ≤ funcIx m [109,97,105,110]:=by omega
   have hat:=funcIx_at z0
   have hr:=map_at (f:=Cd1.row) hat
   have e:mainP m = unlessP (decide ((m.funcs[(funcIx m [109,97,105,110]).toNat]).params = 0) && !(m.funcs[(funcIx m [109,97,105,110]).toNat]).ret.t.ptr) 9:=by
    unfold mainP
    rw [List.getElem?_eq_getElem hat]
    simp only
    rw [decide_eq_true z0]
    rfl
   rw [e]
   clear e
   generalize hix:funcIx m [109,97,105,110] = ix at *
   generalize m.funcs[ix.toNat] = c at hr ⊢
   have hmx:(if ix < 0 then 0 else ix) = ix:=if_neg z
   have hltx:ix < ((m.funcs.map Cd1.row).length:Int):=by omega
   obtain ⟨cn,cp,cv,⟨⟨vp,vt⟩,vc⟩,cf,ci⟩:=c
   simp only [Cd1.row,ints] at hr ⊢
   by_cases y:cp = 0
   ·subst y
    cases vp with
    | true=>
     rw [show unlessP (decide ((0:Int) = 0) && !true) 9 = 9 from rfl]
     simp (maxSteps:=4000000) (disch:=first | (intros; contradiction) | omega) only [go_sem,hlt,hfn,z,z0,hmx,hltx,hr,hu1]
     done
    | false=>
     rw [show unlessP (decide ((0:Int) = 0) && !false) 9 = 0 from rfl]
     simp (maxSteps:=4000000) (disch:=first | (intros; contradiction) | omega) only [go_sem,hlt,hfn,z,z0,hmx,hltx,hr,hu2]
     done
   ·rw [decide_eq_false y]
    rw [show unlessP (false && !vp) 9 = 9 from rfl]
    simp (maxSteps:=4000000) (disch:=first | (intros; contradiction) | omega) only [go_sem,hlt,hfn,z,z0,hmx,hltx,hr,y,hu1]
    done
end Go.Proofs.YtkflggjdlflndaaGreat
