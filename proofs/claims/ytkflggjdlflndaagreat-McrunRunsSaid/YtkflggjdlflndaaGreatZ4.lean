/- The machine: pointers and fields. Conditions: none. -/
import Derived.Test.YtkflggjdlflndaaGreatZ3
set_option linter.unusedSimpArgs false
set_option linter.unusedVariables false
namespace Go.Proofs.YtkflggjdlflndaaGreat
open Go Go.Ab
variable {ext:Sem'}
def failsAt (s:Mc):Bool:=if s.asked < s.fails.length then s.fails[s.asked.toNat]?.getD false else false
def freshP (s:Mc) (nf:Nat):Vl × Mc:=
 if failsAt s then ((0,none),{ s with asked:=IntKind.wrap .i64 (s.asked + 1) })
 else ((0,some s.reg.length),{ s with asked:=IntKind.wrap .i64 (s.asked + 1),cells:=s.cells ++ [s.reg.length],es:=s.es + 1,reg:=s.reg ++ [.ce true (s.reg.length + 1) nf,.vs (List.replicate nf (0,none))] })
def nFields (m:Md1) (f:Int):Nat:=((m.structs[f.toNat]?).map (·.fields.length)).getD 0
structure T2 (ext:Sem'):Prop extends T1 ext where
 fresh:∀ (s:Mc) (f:Int),0 ≤ f→f < s.m.structs.length→nFields s.m f ≤ 1000→s.cells.length ≤ 100000→0 ≤ s.asked→s.asked ≤ 1000000→ext 53 [.ptr 1 0,.d (.int .i64 f)] s.H = some (.ret (.agg [.d (.int .i64 (freshP s (nFields s.m f)).1.1),ptrV (freshP s (nFields s.m f)).1.2]),(freshP s (nFields s.m f)).2.H)
def fieldOf (R:List Blk):Option Nat→Option (Nat × List Vl)
 | none=>none
 | some k=>match R[k]? with
  | some (.ce true fk _)=>(match R[fk]? with
   | some (.vs fl)=>some (fk,fl)
   | _=>none)
  | _=>none
def CellOk (R:List Blk) (f:Int):Option Nat→Prop
 | none=>True
 | some k=>∃ al fk fl,R[k]? = some (.ce al fk fl.length)∧R[fk]? = some (.vs fl)∧0 ≤ f∧f < (fl.length:Nat)
def heapM (s:Mc) (i:In1) (vk:Nat) (l:List Vl):Bool × Mc:=
 if i.op = 2 then (true,s.put vk l i.d (0,none))
 else if i.op = 3 ∨ i.op = 9 then (true,s.put vk l i.d (nthV l i.a))
 else if i.op = 12 then (true,(freshP s (nFields s.m i.f)).2.put vk l i.d (freshP s (nFields s.m i.f)).1)
 else if i.op = 13 then ((freeP s.reg (nthV l i.a).2).1,{ s with reg:=(freeP s.reg (nthV l i.a).2).2 })
 else if i.op = 7 ∨ i.op = 10 then (match fieldOf s.reg (nthV l i.a).2 with
  | none=>(false,s)
  | some (_,fl)=>(true,s.put vk l i.d (nthV fl i.f)))
 else if i.op = 8 ∨ i.op = 11 then (match fieldOf s.reg (nthV l i.a).2 with
  | none=>(false,s)
  | some (fk,fl)=>(true,s.put fk fl i.f (nthV l i.b)))
 else (true,s)
structure HeapOk (s:Mc) (i:In1) (vk:Nat) (l:List Vl):Prop extends NumOk s.reg i vk l where
 new:i.op = 12→0 ≤ i.f∧i.f < s.m.structs.length∧nFields s.m i.f ≤ 1000∧s.cells.length ≤ 100000∧0 ≤ s.asked∧s.asked ≤ 1000000
 cell:i.op = 7 ∨ i.op = 10 ∨ i.op = 8 ∨ i.op = 11→CellOk s.reg i.f (nthV l i.a).2
 free:i.op = 13→∀ k,(nthV l i.a).2 = some k→isCe s.reg[k]?
theorem set_at {R:List Blk} {k:Nat} {b:Blk} (h:R[k]? = some b) (c:Blk):(R.set k c)[k]? = some c:=by
 rw [List.getElem?_set_self (List.getElem?_eq_some_iff.1 h).1]
theorem fresh_at (s:Mc) (nf k:Nat) {b:Blk} (h:s.reg[k]? = some b):(freshP s nf).2.reg[k]? = some b:=by
 unfold freshP
 split
 ·exact h
 ·rw [List.getElem?_append_left (List.getElem?_eq_some_iff.1 h).1]; exact h
set_option maxHeartbeats 8000000 in
theorem heap_m (hx:T2 ext) (s:Mc) (i:In1) (vk:Nat) (l:List Vl) (h:HeapOk s i vk l):G ext 29 [.ptr 1 0,i.av,.rs vk 0 l.length 2] s.H = some (.ret (.d (.bool (heapM s i vk l).1)),(heapM s i vk l).2.H):=by
 have kr:=cell_refs s.cells
 have kn:=fun f=>cell_ren f s.cells
 obtain ⟨op,d,a,b,f,n,sign,args,mode,dest,els,pos⟩:=i
 obtain ⟨⟨hd,ha,hb⟩,hnew,hcell,hfree⟩:=h
 simp only at hd ha hb hnew hcell hfree
 unfold heapM
 simp only [In1.av,ints]
 rw [G_body hx.clear rfl Tryz.func29 rfl Tryz.results29 hv_29 rfl]
 by_cases c2:op = 2
 ·subst c2
  obtain ⟨v,hp⟩:=hd rfl
  have g1:=hp.get
  have g2:=hp.lo
  have g3:=hp.hi
  have g4:=hp.set (0,none)
  rw [if_pos rfl]
  simp only [Mc.H,Mc.obj,Mc.put,Md1.sr,Md1.fr,ptrV_none] at g4 ⊢
  generalize s.cells.map cellA = cs at kr kn ⊢
  simp (maxSteps:=4000000) (disch:=first | (intros; contradiction) | omega) only [go_sem,kr,kn,g1,g2,g3,g4]
  done
 by_cases c3:op = 3 ∨ op = 9
 ·rw [if_neg c2,if_pos c3]
  obtain ⟨v,hp⟩:=hd (by rcases c3 with rfl | rfl <;> rfl)
  obtain ⟨va,hpa⟩:=ha (by rcases c3 with rfl | rfl <;> rfl)
  rw [hpa.nth]
  have g1:=hp.get
  have g2:=hp.lo
  have g3:=hp.hi
  have g4:=hp.set va
  have g5:=hpa.two
  have g6:=hpa.le
  have g7:=hpa.lo
  have g8:=hpa.hi
  simp only [Mc.H,Mc.obj,Mc.put,Md1.sr,Md1.fr] at g4 ⊢
  generalize s.cells.map cellA = cs at kr kn ⊢
  rcases c3 with rfl | rfl
  ·simp (maxSteps:=4000000) (disch:=first | (intros; contradiction) | omega) only [go_sem,kr,kn,g1,g2,g3,g4,g5,g6,g7,g8]
   done
  ·simp (maxSteps:=4000000) (disch:=first | (intros; contradiction) | omega) only [go_sem,kr,kn,g1,g2,g3,g4,g5,g6,g7,g8]
   done
 by_cases c12:op = 12
 ·subst c12
  rw [if_neg c2,if_neg c3,if_pos rfl]
  obtain ⟨v,hp⟩:=hd rfl
  obtain ⟨n1,n2,n3,n4,n5,n6⟩:=hnew rfl
  have hf:=G_ext (hx.fresh s f n1 n2 n3 n4 n5 n6)
  have hat:=fresh_at s (nFields s.m f) vk hp.at_
  generalize freshP s (nFields s.m f) = q at hf hat ⊢
  obtain ⟨gv,s2⟩:=q
  simp only at hf hat ⊢
  have hp2:Pl s2.reg vk l d v:=⟨hat,hp.lo,hp.hi,hp.val⟩
  have kr2:=cell_refs s2.cells
  have kn2:=fun f=>cell_ren f s2.cells
  have g1:=hp2.get
  have g2:=hp.lo
  have g3:=hp.hi
  have g4:=hp2.set gv
  simp only [Mc.H,Mc.obj,Mc.put,Md1.sr,Md1.fr] at g4 hf ⊢
  generalize s.cells.map cellA = cs at kr kn hf ⊢
  generalize s2.cells.map cellA = cs2 at kr2 kn2 hf ⊢
  simp (maxSteps:=4000000) (disch:=first | (intros; contradiction) | omega) only [go_sem,kr,kn,kr2,kn2,g1,g2,g3,g4,hf]
  done
 by_cases c13:op = 13
 ·subst c13
  rw [if_neg c2,if_neg c3,if_neg c12,if_pos rfl]
  obtain ⟨va,hpa⟩:=ha rfl
  have hfree:=hfree rfl
  rw [hpa.nth] at hfree ⊢
  obtain ⟨van,vap⟩:=va
  have g1:=hpa.get
  have g5:=hpa.two
  have g6:=hpa.le
  have g7:=hpa.lo
  have g8:=hpa.hi
  cases vap with
  | none=>
   have hf:=free0_e hx.toT1 van s.reg
   simp only [freeP,Mc.H,Mc.obj,Md1.sr,Md1.fr,ptrV_none] at g5 ⊢
   generalize s.cells.map cellA = cs at kr kn ⊢
   simp (maxSteps:=4000000) (disch:=first | (intros; contradiction) | omega) only [go_sem,kr,kn,g1,g5,g6,g7,g8,hf]
   done
  | some k=>
   have hf:=free1_e hx.toT1 van k s.reg (hfree k rfl)
   simp only
   generalize freeP s.reg (some k) = q at hf ⊢
   obtain ⟨x,R2⟩:=q
   simp only [Mc.H,Mc.obj,Md1.sr,Md1.fr,ptrV_some] at g5 hf ⊢
   generalize s.cells.map cellA = cs at kr kn ⊢
   cases x with
   | true=>
    simp (maxSteps:=4000000) (disch:=first | (intros; contradiction) | omega) only [go_sem,kr,kn,g1,g5,g6,g7,g8,hf]
    done
   | false=>
    simp (maxSteps:=4000000) (disch:=first | (intros; contradiction) | omega) only [go_sem,kr,kn,g1,g5,g6,g7,g8,hf]
    done
 by_cases c7:op = 7 ∨ op = 10
 ·rw [if_neg c2,if_neg c3,if_neg c12,if_neg c13,if_pos c7]
  obtain ⟨v,hp⟩:=hd (by rcases c7 with rfl | rfl <;> rfl)
  obtain ⟨va,hpa⟩:=ha (by rcases c7 with rfl | rfl <;> rfl)
  have hcell:=hcell (by rcases c7 with h | h <;> simp [h])
  rw [hpa.nth] at hcell ⊢
  obtain ⟨van,vap⟩:=va
  have g1:=hpa.get
  have g5:=hpa.two
  have g6:=hpa.le
  have g7:=hpa.lo
  have g8:=hpa.hi
  cases vap with
  | none=>
   have hf:=field0_e hx.toT1 van f s.reg
   simp only [fieldOf,Mc.H,Mc.obj,Md1.sr,Md1.fr,ptrV_none] at g5 ⊢
   generalize s.cells.map cellA = cs at kr kn ⊢
   rcases c7 with rfl | rfl
   ·simp (maxSteps:=4000000) (disch:=first | (intros; contradiction) | omega) only [go_sem,kr,kn,g1,g5,g6,g7,g8,hf]
    done
   ·simp (maxSteps:=4000000) (disch:=first | (intros; contradiction) | omega) only [go_sem,kr,kn,g1,g5,g6,g7,g8,hf]
    done
  | some k=>
   obtain ⟨al,fk,fl,k1,k2,k3,k4⟩:=hcell
   have hf:=field1_e hx.toT1 van f k s.reg (by rw [k1]; cases al; exact trivial; exact ⟨k3,k4⟩)
   rw [k1] at hf
   cases al with
   | false=>
    simp only [fieldOf,k1,fieldR,Mc.H,Mc.obj,Md1.sr,Md1.fr,ptrV_some] at g5 hf ⊢
    generalize s.cells.map cellA = cs at kr kn ⊢
    rcases c7 with rfl | rfl
    ·simp (maxSteps:=4000000) (disch:=first | (intros; contradiction) | omega) only [go_sem,kr,kn,g1,g5,g6,g7,g8,hf]
     done
    ·simp (maxSteps:=4000000) (disch:=first | (intros; contradiction) | omega) only [go_sem,kr,kn,g1,g5,g6,g7,g8,hf]
     done
   | true=>
    have hpf:Pl s.reg fk fl f (nthV fl f):=⟨k2,k3,k4,by unfold nthV; rw [List.getElem?_eq_getElem (by omega)]; rfl⟩
    have q1:=hpf.get
    have q2:=hpf.two
    have q3:=hpf.le
    have g2:=hp.lo
    have g3:=hp.hi
    have g4:=hp.set (nthV fl f)
    simp only [fieldOf,k1,k2,fieldR,Mc.H,Mc.obj,Mc.put,Md1.sr,Md1.fr,ptrV_some] at g5 hf g4 ⊢
    generalize s.cells.map cellA = cs at kr kn ⊢
    rcases c7 with rfl | rfl
    ·simp (maxSteps:=4000000) (disch:=first | (intros; contradiction) | omega) only [go_sem,kr,kn,g1,g2,g3,g4,g5,g6,g7,g8,q1,q2,q3,hf]
     done
    ·simp (maxSteps:=4000000) (disch:=first | (intros; contradiction) | omega) only [go_sem,kr,kn,g1,g2,g3,g4,g5,g6,g7,g8,q1,q2,q3,hf]
     done
 by_cases c8:op = 8 ∨ op = 11
 ·rw [if_neg c2,if_neg c3,if_neg c12,if_neg c13,if_neg c7,if_pos c8]
  obtain ⟨vb,hpb⟩:=hb (by rcases c8 with rfl | rfl <;> rfl)
  obtain ⟨va,hpa⟩:=ha (by rcases c8 with rfl | rfl <;> rfl)
  have hcell:=hcell (by rcases c8 with h | h <;> simp [h])
  rw [hpa.nth] at hcell ⊢
  rw [hpb.nth]
  obtain ⟨van,vap⟩:=va
  have g1:=hpa.get
  have g5:=hpa.two
  have g6:=hpa.le
  have g7:=hpa.lo
  have g8:=hpa.hi
  cases vap with
  | none=>
   have hf:=field0_e hx.toT1 van f s.reg
   simp only [fieldOf,Mc.H,Mc.obj,Md1.sr,Md1.fr,ptrV_none] at g5 ⊢
   generalize s.cells.map cellA = cs at kr kn ⊢
   rcases c8 with rfl | rfl
   ·simp (maxSteps:=4000000) (disch:=first | (intros; contradiction) | omega) only [go_sem,kr,kn,g1,g5,g6,g7,g8,hf]
    done
   ·simp (maxSteps:=4000000) (disch:=first | (intros; contradiction) | omega) only [go_sem,kr,kn,g1,g5,g6,g7,g8,hf]
    done
  | some k=>
   obtain ⟨al,fk,fl,k1,k2,k3,k4⟩:=hcell
   have hf:=field1_e hx.toT1 van f k s.reg (by rw [k1]; cases al; exact trivial; exact ⟨k3,k4⟩)
   rw [k1] at hf
   cases al with
   | false=>
    simp only [fieldOf,k1,fieldR,Mc.H,Mc.obj,Md1.sr,Md1.fr,ptrV_some] at g5 hf ⊢
    generalize s.cells.map cellA = cs at kr kn ⊢
    rcases c8 with rfl | rfl
    ·simp (maxSteps:=4000000) (disch:=first | (intros; contradiction) | omega) only [go_sem,kr,kn,g1,g5,g6,g7,g8,hf]
     done
    ·simp (maxSteps:=4000000) (disch:=first | (intros; contradiction) | omega) only [go_sem,kr,kn,g1,g5,g6,g7,g8,hf]
     done
   | true=>
    have hpf:Pl s.reg fk fl f (nthV fl f):=⟨k2,k3,k4,by unfold nthV; rw [List.getElem?_eq_getElem (by omega)]; rfl⟩
    have q1:=hpf.get
    have q4:=hpf.set vb
    have g9:=hpb.two
    have g10:=hpb.le
    have g11:=hpb.lo
    have g12:=hpb.hi
    simp only [fieldOf,k1,k2,fieldR,Mc.H,Mc.obj,Mc.put,Md1.sr,Md1.fr,ptrV_some] at g5 hf q4 ⊢
    generalize s.cells.map cellA = cs at kr kn ⊢
    rcases c8 with rfl | rfl
    ·simp (maxSteps:=4000000) (disch:=first | (intros; contradiction) | omega) only [go_sem,kr,kn,g1,g5,g6,g7,g8,g9,g10,g11,g12,q1,q4,hf]
     done
    ·simp (maxSteps:=4000000) (disch:=first | (intros; contradiction) | omega) only [go_sem,kr,kn,g1,g5,g6,g7,g8,g9,g10,g11,g12,q1,q4,hf]
     done
 rw [if_neg c2,if_neg c3,if_neg c12,if_neg c13,if_neg c7,if_neg c8]
 have c3a:¬ op = 3:=fun h=>c3 (.inl h)
 have c3b:¬ op = 9:=fun h=>c3 (.inr h)
 have c7a:¬ op = 7:=fun h=>c7 (.inl h)
 have c7b:¬ op = 10:=fun h=>c7 (.inr h)
 have c8a:¬ op = 8:=fun h=>c8 (.inl h)
 have c8b:¬ op = 11:=fun h=>c8 (.inr h)
 simp only [Mc.H,Mc.obj,Md1.sr,Md1.fr]
 generalize s.cells.map cellA = cs at kr kn ⊢
 simp (maxSteps:=4000000) (disch:=first | (intros; contradiction) | omega) only [go_sem,kr,kn,c2,c3a,c3b,c12,c13,c7a,c7b,c8a,c8b]
 done
end Go.Proofs.YtkflggjdlflndaaGreat
