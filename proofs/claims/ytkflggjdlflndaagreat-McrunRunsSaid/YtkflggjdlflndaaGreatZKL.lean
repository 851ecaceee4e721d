/- Law 7: what is short, which outcomes are the same; Law 7: with more fuel; failures of which none is told. Conditions: none. -/
import Derived.Test.YtkflggjdlflndaaGreatZFI
import Derived.Test.YtkflggjdlflndaaGreatL1
import Derived.Test.YtkflggjdlflndaaGreatZL0
set_option linter.unusedSimpArgs false
set_option linter.unusedVariables false
namespace Go.Proofs.YtkflggjdlflndaaGreat
open Go Go.Ab
variable {ext:Sem'}
def light7 (inp:List Int) (fails:List Bool) (fuel:Int):Bool:=decide (inp.length ≤ 200) && (decide (fails.length ≤ 200) && (decide (0 ≤ fuel) && decide (fuel ≤ 3000)))
theorem light7_e (hx:TX ext) (inp:List Int) (fails:List Bool) (fuel:Int):G ext 8 [.d (.sl (inp.map rowU)),.d (.sl (fails.map rowT)),.d (.int .i64 fuel)] [] = some (.ret (.d (.bool (light7 inp fails fuel))),[]):=by
 have h1:(inp.map rowU).length = inp.length:=List.length_map _
 have h2:(fails.map rowT).length = fails.length:=List.length_map _
 unfold light7
 rw [G_body hx.clear rfl Tryz.func8 rfl Tryz.results8 hv_8 rfl]
 by_cases q1:(inp.length:Int) ≤ 200
 ·rw [decide_eq_true (show inp.length ≤ 200 by omega)]
  by_cases q2:(fails.length:Int) ≤ 200
  ·rw [decide_eq_true (show fails.length ≤ 200 by omega)]
   by_cases q3:0 ≤ fuel
   ·rw [decide_eq_true q3]
    by_cases q4:fuel ≤ 3000
    ·rw [decide_eq_true q4]
     simp (maxSteps:=4000000) (disch:=first | (intros; contradiction) | omega) only [go_sem,h1,h2,q1,q2,q3,q4]
     done
    ·rw [decide_eq_false q4]
     simp (maxSteps:=4000000) (disch:=first | (intros; contradiction) | omega) only [go_sem,h1,h2,q1,q2,q3,q4]
     done
   ·rw [decide_eq_false q3]
    simp (maxSteps:=4000000) (disch:=first | (intros; contradiction) | omega) only [go_sem,h1,h2,q1,q2,q3]
    done
  ·rw [decide_eq_false (show ¬ fails.length ≤ 200 by omega)]
   simp (maxSteps:=4000000) (disch:=first | (intros; contradiction) | omega) only [go_sem,h1,h2,q1,q2]
   done
 ·rw [decide_eq_false (show ¬ inp.length ≤ 200 by omega)]
  simp (maxSteps:=4000000) (disch:=first | (intros; contradiction) | omega) only [go_sem,h1,h2,q1]
  done
def isB (l:List Int):Prop:=∀ x,x ∈ l→0 ≤ x∧x < 256
def toB (l:List Int):List UInt8:=l.map fun n=>UInt8.ofNat n.toNat
theorem bytesR_rowU:∀ {l:List Int},isB l→bytesR (l.map rowU) = some (toB l)
 | [],_=>rfl
 | x :: l,h=>by
  have hx:=h x (by simp)
  have ih:=bytesR_rowU (l:=l) (fun y hy=>h y (by simp [hy]))
  show byteC x (bytesR (l.map rowU)) = _
  rw [ih]
  unfold byteC
  rw [if_pos hx]
  rfl
theorem toB_inj:∀ {a b:List Int},isB a→isB b→toB a = toB b→a = b
 | [],[],_,_,_=>rfl
 | x :: a,y :: b,ha,hb,h=>by
  simp only [toB,List.map_cons,List.cons.injEq] at h
  obtain ⟨h1,h2⟩:=h
  have hx:=ha x (by simp)
  have hy:=hb y (by simp)
  have h3:=congrArg UInt8.toNat h1
  simp only [UInt8.toNat_ofNat'] at h3
  have:x = y:=by omega
  subst this
  rw [toB_inj (fun z hz=>ha z (by simp [hz])) (fun z hz=>hb z (by simp [hz])) h2]
 | [],_ :: _,_,_,h=>by simp [toB] at h
 | _ :: _,[],_,_,h=>by simp [toB] at h
def outV (k c:Int) (o:List Int) (st lf:Int):AV:=.agg [.d (.int .i64 k),.d (.int .i64 c),.d (.sl (o.map rowU)),.d (.int .i64 st),.d (.int .i64 lf)]
set_option maxHeartbeats 2000000 in
theorem same_e (hx:TX ext) {k c st lf k2 c2 st2 lf2:Int} {o o2:List Int} (ho:isB o) (ho2:isB o2):G ext 10 [outV k c o st lf,outV k2 c2 o2 st2 lf2] [] = some (.ret (.d (.bool (decide (k = k2) && (decide (c = c2) && (decide (o = o2) && (decide (st = st2) && decide (lf = lf2))))))),[]):=by
 have b1:=bytesR_rowU ho
 have b2:=bytesR_rowU ho2
 have hq:(toB o = toB o2) ↔ o = o2:=⟨toB_inj ho ho2,fun h=>by rw [h]⟩
 unfold outV
 rw [G_body hx.clear rfl Tryz.func10 rfl Tryz.results10 hv_10 rfl]
 by_cases q1:k = k2
 ·rw [decide_eq_true q1]
  have q1:=eq_true q1
  by_cases q2:c = c2
  ·rw [decide_eq_true q2]
   have q2:=eq_true q2
   by_cases q3:o = o2
   ·rw [decide_eq_true q3]
    have q3':=eq_true (hq.2 q3)
    by_cases q4:st = st2
    ·rw [decide_eq_true q4]
     have q4:=eq_true q4
     by_cases q5:lf = lf2
     ·rw [decide_eq_true q5]
      have q5:=eq_true q5
      simp (maxSteps:=4000000) (disch:=first | (intros; contradiction) | omega) only [go_sem,b1,b2,q1,q2,q3',q4,q5]
      done
     ·rw [decide_eq_false q5]
      simp (maxSteps:=4000000) (disch:=first | (intros; contradiction) | omega) only [go_sem,b1,b2,q1,q2,q3',q4,q5]
      done
    ·rw [decide_eq_false q4]
     simp (maxSteps:=4000000) (disch:=first | (intros; contradiction) | omega) only [go_sem,b1,b2,q1,q2,q3',q4]
     done
   ·rw [decide_eq_false q3]
    have q3':¬ toB o = toB o2:=fun h=>q3 (hq.1 h)
    simp (maxSteps:=4000000) (disch:=first | (intros; contradiction) | omega) only [go_sem,b1,b2,q1,q2,q3']
    done
  ·rw [decide_eq_false q2]
   simp (maxSteps:=4000000) (disch:=first | (intros; contradiction) | omega) only [go_sem,b1,b2,q1,q2]
   done
 ·rw [decide_eq_false q1]
  simp (maxSteps:=4000000) (disch:=first | (intros; contradiction) | omega) only [go_sem,b1,b2,q1]
  done
theorem wrap8 (n:Int):0 ≤ IntKind.wrap .u8 n∧IntKind.wrap .u8 n < 256:=by
 simp only [IntKind.wrap,IntKind.bits,IntKind.signed]
 simp
 omega
theorem num_isB {s:Mc} (h:isB s.out) (i:In1) (vk:Nat) (l:List Vl):isB (numbersP s i vk l).2.out:=by
 unfold numbersP
 split
 ·exact h
 split
 ·exact h
 split
 ·unfold getP
  split <;> exact h
 split
 ·intro x hx
  rcases List.mem_append.1 hx with hx | hx
  ·exact h x hx
  ·rw [List.mem_singleton] at hx
   rw [hx]; exact wrap8 _
 split
 ·exact h
 ·exact h
theorem fresh_out (s:Mc) (nf:Nat):(freshP s nf).2.out = s.out:=by unfold freshP; split <;> rfl
theorem heap_out (s:Mc) (i:In1) (vk:Nat) (l:List Vl):(heapM s i vk l).2.out = s.out:=by
 unfold heapM
 split
 ·rfl
 split
 ·rfl
 split
 ·exact fresh_out s _
 split
 ·rfl
 split
 ·split <;> rfl
 split
 ·split <;> rfl
 ·rfl
theorem step_isB {s:Mc} (h:isB s.out):isB (stepM s).out:=by
 unfold stepM
 split
 ·exact h
 ·split
  ·split
   ·split
    ·split
     ·exact h
     split
     ·exact h
     split
     ·split <;> exact h
     split
     ·rw [(leaveP_keep _ _).2.2.2.2.2]; exact h
     ·split
      ·split
       ·rw [heap_out]; exact num_isB (s:=Mc.next s _ _ _ _ _ _ _) h _ _ _
       ·show isB (heapM _ _ _ _).2.out
        rw [heap_out]; exact num_isB (s:=Mc.next s _ _ _ _ _ _ _) h _ _ _
      ·exact num_isB (s:=Mc.next s _ _ _ _ _ _ _) h _ _ _
    ·exact h
   ·exact h
  ·exact h
theorem run_isB {s:Mc} (h:isB s.out):∀ j,isB (runM j s).out
 | 0=>h
 | j + 1=>by
  rw [runM_succ]
  split
  ·exact step_isB (run_isB h j)
  ·exact run_isB h j
end Go.Proofs.YtkflggjdlflndaaGreat
namespace Go.Proofs.YtkflggjdlflndaaGreat
open Go Go.Ab
variable {ext:Sem'}
structure Oc where
 kind:Int
 code:Int
 out:List Int
 steps:Int
 left:Int
def Oc.av (o:Oc):AV:=outV o.kind o.code o.out o.steps o.left
def Mc.oc (s:Mc):Oc:=⟨s.kind,s.code,s.out,s.steps,leftN s.reg s.cells⟩
def runO (m:Md1) (inp:List Int) (fails:List Bool) (fuel:Int):Oc:=if rightP m = 0 then (runM fuel.toNat (mc0 m inp fails [])).oc else ⟨0,0,[],0,0⟩
structure T4 (ext:Sem'):Prop extends TM ext where
 run:∀ (m:Md1) (inp:List Int) (fails:List Bool) (fuel:Int),LightM m→inp.length ≤ 1000→fails.length ≤ 1000→0 ≤ fuel→fuel ≤ 20000→ext 11 [m.av,.d (.sl (inp.map rowU)),.d (.sl (fails.map rowT)),.d (.int .i64 fuel)] [] = some (.ret (runO m inp fails fuel).av,[])
theorem runO_isB (m:Md1) (inp:List Int) (fails:List Bool) (fuel:Int):isB (runO m inp fails fuel).out:=by
 unfold runO
 split
 ·exact run_isB (fun x hx=>by cases hx) _
 ·intro x hx; cases hx
def mdA:Md1:=⟨[],[⟨[109,97,105,110],0,[⟨⟨false,[]⟩,0⟩,⟨⟨false,[]⟩,0⟩],⟨⟨false,[]⟩,0⟩,[],[⟨1,0,0,0,0,65,[],[],[],0,0,(1,18)⟩,⟨6,0,0,0,0,0,[],[],[],0,0,(1,14)⟩,⟨1,1,0,0,0,7,[],[],[],0,0,(1,30)⟩,⟨18,0,1,0,0,0,[],[],[],0,0,(1,23)⟩]⟩]⟩
theorem mdA_av:mdA.av = modA:=rfl
theorem mdA_light:LightM mdA:=by
 refine ⟨by decide,by decide,fun s hs=>(by cases hs),fun c hc=>?_,fun c hc i hi=>?_⟩
 ·simp only [mdA,List.mem_cons,List.not_mem_nil,or_false] at hc
  subst hc
  decide
 ·simp only [mdA,List.mem_cons,List.not_mem_nil,or_false] at hc
  subst hc
  simp only [List.mem_cons,List.not_mem_nil,or_false] at hi
  rcases hi with rfl | rfl | rfl | rfl <;> decide
theorem mdA_run:(runO mdA [] [] 10).av = outA7:=by
 have h:runO mdA [] [] 10 = ⟨1,7,[65],4,0⟩:=by
  have hr:rightP mdA = 0:=by decide +kernel
  unfold runO
  rw [if_pos hr]
  rfl
 rw [h]
 rfl
theorem alive_e (hx:T4 ext):G ext 9 [] [] = some (.ret (.d (.bool true)),[]):=by
 refine alive7 hx.clear ?_
 have:=G_ext (hx.run mdA [] [] 10 mdA_light (by decide) (by decide) (by decide) (by decide))
 rw [mdA_av,mdA_run] at this
 exact this
theorem light7_parts {inp:List Int} {fails:List Bool} {fuel:Int} (h:light7 inp fails fuel = true):inp.length ≤ 200∧fails.length ≤ 200∧0 ≤ fuel∧fuel ≤ 3000:=by
 unfold light7 at h
 simpa using h
end Go.Proofs.YtkflggjdlflndaaGreat
