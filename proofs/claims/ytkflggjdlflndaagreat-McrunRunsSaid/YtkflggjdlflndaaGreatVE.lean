/- The document's machine: instructions without frames. Conditions: none. -/
import Derived.Test.YtkflggjdlflndaaGreatVAD
import Derived.Test.YtkflggjdlflndaaGreatZSR
import Derived.Test.YtkflggjdlflndaaGreatZ4
set_option linter.unusedSimpArgs false
set_option linter.unusedVariables false
namespace Go.Proofs.YtkflggjdlflndaaGreat
open Go Go.Ab
variable {ext:Sem'}
def Rm.put (s:Rm) (k:Nat) (v:List Int) (d x:Int):Rm:={ s with reg:=s.reg.set k (v.set d.toNat x) }
def liveR (s:Rm) (p:Int):Option RCe:=match cellR s p with
 | some c=>if c.al then some c else none
 | none=>none
theorem atA_live (s:Rm) (r:Nat) (p:Int):atA s r p = match liveR s p with
 | some _=>.sp r s.ec ((p - 1).toNat * 4)
 | none=>.d .nilp:=by
 unfold atA liveR
 cases cellR s p with
 | none=>rfl
 | some c=>cases h:c.al <;> simp [h]
theorem live_at {s:Rm} {p:Int} {c:RCe} (h:liveR s p = some c):s.cells[(p - 1).toNat]? = some c∧c.al = true∧1 ≤ p∧p ≤ (s.cells.length:Int):=by
 unfold liveR cellR at h
 by_cases q1:p < 1
 ·rw [if_pos q1] at h; cases h
 rw [if_neg q1] at h
 by_cases q2:(s.cells.length:Int) < p
 ·rw [if_pos q2] at h; cases h
 rw [if_neg q2] at h
 cases hc:s.cells[(p - 1).toNat]? with
 | none=>rw [hc] at h; cases h
 | some c'=>
  rw [hc] at h
  simp only at h
  split at h
  ·cases h; exact ⟨rfl,by assumption,by omega,by omega⟩
  ·cases h
def freeR (s:Rm) (p:Int):Bool × Rm:=match liveR s p with
 | some c=>(true,{ s with cells:=s.cells.set (p - 1).toNat { c with al:=false } })
 | none=>(decide (p = 0),s)
def fldR (s:Rm) (c:RCe):List Int:=s.reg[c.k]?.getD []
def heapR (s:Rm) (i:In1) (k:Nat) (v:List Int):Bool × Rm:=match liveR s (nthI v i.a) with
 | none=>(false,s)
 | some c=>if i.op = 7 ∨ i.op = 10 then (true,s.put k v i.d (nthI (fldR s c) i.f)) else (true,s.put c.k (fldR s c) i.f (nthI v i.b))
def plainR (s:Rm) (i:In1) (k:Nat) (v:List Int):Bool × Rm:=
 if i.op = 1 then (true,s.put k v i.d (w3 i.n))
 else if i.op = 2 then (true,s.put k v i.d 0)
 else if i.op = 3 ∨ i.op = 9 then (true,s.put k v i.d (nthI v i.a))
 else if i.op = 4 then ((signP i.sign (nthI v i.a) (nthI v i.b)).2,s.put k v i.d (signP i.sign (nthI v i.a) (nthI v i.b)).1)
 else if i.op = 5 then (true,(getR s).2.put k v i.d (getR s).1)
 else if i.op = 6 then (true,{ s with out:=s.out ++ [IntKind.wrap .u8 (nthI v i.a)],eg:=s.eg + 1 })
 else if i.op = 7 ∨ i.op = 10 ∨ i.op = 8 ∨ i.op = 11 then heapR s i k v
 else if i.op = 12 then (true,(newR s (nFields s.m i.f)).2.put k v i.d (newR s (nFields s.m i.f)).1)
 else if i.op = 13 then freeR s (nthI v i.a)
 else if i.op = 14 then (true,s.put k v i.d (tI (decide (nthI v i.a = 0) == decide (i.sign = [61,61]))))
 else (true,s)
structure PlOk (s:Rm) (i:In1) (k:Nat) (v:List Int):Prop where
 d:hasD i.op = true→Ix s.reg k v i.d (nthI v i.d)
 a:hasA i.op = true→Ix s.reg k v i.a (nthI v i.a)
 b:hasB i.op = true→Ix s.reg k v i.b (nthI v i.b)
 cells:s.cells.length ≤ 100000
 out:s.out.length ≤ 1000000
 asked:0 ≤ s.asked
 new:i.op = 12→0 ≤ i.f∧i.f < s.m.structs.length∧nFields s.m i.f ≤ 1000
 field:i.op = 7 ∨ i.op = 10 ∨ i.op = 8 ∨ i.op = 11→∀ c,liveR s (nthI v i.a) = some c→∃ fl,s.reg[c.k]? = some fl∧fl.length = c.n∧0 ≤ i.f∧i.f < (c.n:Int)
set_option maxHeartbeats 8000000 in
theorem rheap_e (hx:TX ext) (s:Rm) (i:In1) (k:Nat) (v:List Int) (h:PlOk s i k v) (ho:i.op = 7 ∨ i.op = 10 ∨ i.op = 8 ∨ i.op = 11):G ext 67 [.ptr 1 0,i.av,.rs k 0 v.length 1] s.H = some (.ret (.d (.bool (heapR s i k v).1)),(heapR s i k v).2.H):=by
 have hat:=rat_e hx s (nthI v i.a) (by have:=h.cells; omega)
 have hA:hasA i.op = true:=by rcases ho with e | e | e | e <;> rw [e] <;> rfl
 have ha:=h.a hA
 have a1:=ha.get
 have a2:=ha.one
 have a3:=ha.lo
 have a4:=ha.hi
 have kr:=ces_refs s.cells
 have kn:=fun f=>ces_ren f s.cells
 have kr2:=frs_refs s.stack
 have kn2:=fun f=>frs_ren f s.stack
 have hfield:=h.field ho
 rw [atA_live] at hat
 unfold heapR
 cases hl:liveR s (nthI v i.a) with
 | none=>
  rw [hl] at hat
  simp only [In1.av,ints]
  rw [G_body hx.clear rfl Tryz.func67 rfl Tryz.results67 hv_67 rfl]
  simp only [Rm.H,Rm.HH,Rm.robj,Rm.hobj,Md1.sr,Md1.fr] at hat ⊢
  generalize cesA s.cells = cs at kr kn hat ⊢
  generalize frsA s.stack = fs at kr2 kn2 ⊢
  simp (maxSteps:=4000000) (disch:=first | (intros; contradiction) | omega) only [go_sem,kr,kn,kr2,kn2,a1,a2,a3,a4,hat,Nat.mul_one]
  done
 | some c=>
  rw [hl] at hat
  obtain ⟨fl,f1,f2,f3,f4⟩:=hfield c hl
  obtain ⟨l1,_,_,_⟩:=live_at hl
  have c1:=flt_get (f:=RCe.av) ce_len (j:=1) l1 (by decide)
  change (cesA s.cells)[(nthI v i.a - 1).toNat * 4 + 1]? = some (.rs c.k 0 c.n 1) at c1
  have hfr:fldR s c = fl:=by unfold fldR; rw [f1]; rfl
  simp only [hfr] at hat ⊢
  have hf:=Ix.of f1 f3 (by omega)
  have b1:=hf.get
  have b2:=hf.one
  simp only [In1.av,ints]
  obtain ⟨op,d,a,b,f,n,sign,args,mode,dest,els,pos⟩:=i
  simp only at *
  rw [G_body hx.clear rfl Tryz.func67 rfl Tryz.results67 hv_67 rfl]
  by_cases h7:op = 7 ∨ op = 10
  ·have hd:=h.d (by rcases h7 with e | e <;> (simp only; rw [e]; rfl))
   simp only at hd
   have d3:=hd.lo
   have d4:=hd.hi
   have d5:=hd.set (nthI fl f)
   rw [if_pos h7]
   simp only [Rm.H,Rm.HH,Rm.robj,Rm.hobj,Md1.sr,Md1.fr,Rm.put] at hat ⊢
   generalize cesA s.cells = cs at kr kn hat c1 ⊢
   generalize frsA s.stack = fs at kr2 kn2 ⊢
   rcases h7 with rfl | rfl
   ·simp (maxSteps:=4000000) (disch:=first | (intros; contradiction) | omega) only [go_sem,kr,kn,kr2,kn2,a1,a2,a3,a4,b1,b2,c1,d3,d4,d5,f3,f4,hat,Nat.mul_one]
    done
   ·simp (maxSteps:=4000000) (disch:=first | (intros; contradiction) | omega) only [go_sem,kr,kn,kr2,kn2,a1,a2,a3,a4,b1,b2,c1,d3,d4,d5,f3,f4,hat,Nat.mul_one]
    done
  ·have h8:op = 8 ∨ op = 11:=by omega
   have hb:=h.b (by rcases h8 with e | e <;> (simp only; rw [e]; rfl))
   simp only at hb
   have e2:=hb.one
   have e3:=hb.lo
   have e4:=hb.hi
   have b5:=hf.set (nthI v b)
   rw [if_neg h7]
   simp only [Rm.H,Rm.HH,Rm.robj,Rm.hobj,Md1.sr,Md1.fr,Rm.put] at hat ⊢
   generalize cesA s.cells = cs at kr kn hat c1 ⊢
   generalize frsA s.stack = fs at kr2 kn2 ⊢
   rcases h8 with rfl | rfl
   ·simp (maxSteps:=4000000) (disch:=first | (intros; contradiction) | omega) only [go_sem,kr,kn,kr2,kn2,a1,a2,a3,a4,b1,b5,c1,e2,e3,e4,f3,f4,hat,Nat.mul_one]
    done
   ·simp (maxSteps:=4000000) (disch:=first | (intros; contradiction) | omega) only [go_sem,kr,kn,kr2,kn2,a1,a2,a3,a4,b1,b5,c1,e2,e3,e4,f3,f4,hat,Nat.mul_one]
    done
end Go.Proofs.YtkflggjdlflndaaGreat
