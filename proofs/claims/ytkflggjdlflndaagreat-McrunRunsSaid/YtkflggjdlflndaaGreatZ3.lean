/- The machine: numbers. Conditions: none. -/
import Derived.Test.YtkflggjdlflndaaGreatZ12
import Derived.Test.YtkflggjdlflndaaGreatZS
set_option linter.unusedSimpArgs false
set_option linter.unusedVariables false
namespace Go.Proofs.YtkflggjdlflndaaGreat
open Go Go.Ab
variable {ext:Sem'}
def Mc.put (s:Mc) (vk:Nat) (l:List Vl) (d:Int) (v:Vl):Mc:={ s with reg:=s.reg.set vk (.vs (l.set d.toNat v)) }
def nthV (l:List Vl) (i:Int):Vl:=l[i.toNat]?.getD (0,none)
def isNone (p:Option Nat):Bool:=match p with
 | none=>true
 | some _=>false
def numbersP (s:Mc) (i:In1) (vk:Nat) (l:List Vl):Bool × Mc:=
 if i.op = 1 then (true,s.put vk l i.d (w3 i.n,none))
 else if i.op = 4 then ((signP i.sign (nthV l i.a).1 (nthV l i.b).1).2,s.put vk l i.d ((signP i.sign (nthV l i.a).1 (nthV l i.b).1).1,none))
 else if i.op = 5 then (true,(getP s).2.put vk l i.d ((getP s).1,none))
 else if i.op = 6 then (true,{ s with out:=s.out ++ [IntKind.wrap .u8 (nthV l i.a).1],eg:=s.eg + 1 })
 else if i.op = 14 then (true,s.put vk l i.d (tI (isNone (nthV l i.a).2 == decide (i.sign = [61,61])),none))
 else (true,s)
structure Pl (R:List Blk) (vk:Nat) (l:List Vl) (i:Int) (v:Vl):Prop where
 at_:R[vk]? = some (.vs l)
 lo:0 ≤ i
 hi:i < (l.length:Nat)
 val:l[i.toNat]? = some v
theorem Pl.get {R:List Blk} {vk:Nat} {l:List Vl} {i:Int} {v:Vl} (h:Pl R vk l i v):regGet (rgA R) vk = some (valsA l):=get_rg h.at_
theorem Pl.le {R:List Blk} {vk:Nat} {l:List Vl} {i:Int} {v:Vl} (h:Pl R vk l i v):i.toNat * 2 + 2 ≤ (valsA l).length:=vals_le (List.getElem?_eq_some_iff.1 h.val).1
theorem Pl.two {R:List Blk} {vk:Nat} {l:List Vl} {i:Int} {v:Vl} (h:Pl R vk l i v):((valsA l).drop (i.toNat * 2)).take 2 = [.d (.int .i64 v.1),ptrV v.2]:=vals_at h.val
theorem Pl.nth {R:List Blk} {vk:Nat} {l:List Vl} {i:Int} {v:Vl} (h:Pl R vk l i v):nthV l i = v:=by unfold nthV; rw [h.val]; rfl
theorem vals_first {l:List Vl} {k:Nat} {v:Vl} (h:l[k]? = some v):(valsA l)[k * 2]? = some (.d (.int .i64 v.1)):=by
 have:=vals_at h
 have h2:=congrArg (fun l=>l[0]?) this
 simp only [List.getElem?_take,List.getElem?_drop] at h2
 simpa [vlA] using h2
theorem vals_second {l:List Vl} {k:Nat} {v:Vl} (h:l[k]? = some v):(valsA l)[k * 2 + 1]? = some (ptrV v.2):=by
 have:=vals_at h
 have h2:=congrArg (fun l=>l[1]?) this
 simp only [List.getElem?_take,List.getElem?_drop] at h2
 simpa [vlA] using h2
theorem Pl.one {R:List Blk} {vk:Nat} {l:List Vl} {i:Int} {v:Vl} (h:Pl R vk l i v):(valsA l)[i.toNat * 2]? = some (.d (.int .i64 v.1)):=vals_first h.val
theorem Pl.snd {R:List Blk} {vk:Nat} {l:List Vl} {i:Int} {v:Vl} (h:Pl R vk l i v):(valsA l)[i.toNat * 2 + 1]? = some (ptrV v.2):=vals_second h.val
theorem Pl.set {R:List Blk} {vk:Nat} {l:List Vl} {i:Int} {v:Vl} (h:Pl R vk l i v) (u:Vl):regSet (rgA R) vk (i.toNat * 2) [.d (.int .i64 u.1),ptrV u.2] = some (rgA (R.set vk (.vs (l.set i.toNat u)))):=
 set_rg (b':=.vs (l.set i.toNat u)) h.at_ (vals_le (List.getElem?_eq_some_iff.1 h.val).1) (vals_set (List.getElem?_eq_some_iff.1 h.val).1 u)
theorem ptrV_none:ptrV none = .d .nilp:=rfl
theorem ptrV_some (k:Nat):ptrV (some k) = .rp k 0:=rfl
theorem b11:(true == true) = true:=rfl
theorem b10:(true == false) = false:=rfl
theorem b01:(false == true) = false:=rfl
theorem b00:(false == false) = true:=rfl
structure NumOk (R:List Blk) (i:In1) (vk:Nat) (l:List Vl):Prop where
 d:hasD i.op = true→∃ v,Pl R vk l i.d v
 a:hasA i.op = true→∃ v,Pl R vk l i.a v
 b:hasB i.op = true→∃ v,Pl R vk l i.b v
set_option maxHeartbeats 4000000 in
theorem numbers_m (hx:T1 ext) (s:Mc) (i:In1) (vk:Nat) (l:List Vl) (h:NumOk s.reg i vk l) (ho:s.out.length ≤ 1000000):G ext 28 [.ptr 1 0,i.av,.rs vk 0 l.length 2] s.H = some (.ret (.d (.bool (numbersP s i vk l).1)),(numbersP s i vk l).2.H):=by
 have hget:=mget_e hx s
 have hgr:(getP s).2.reg = s.reg:=by unfold getP; split <;> rfl
 have kr:=cell_refs s.cells
 have kn:=fun f=>cell_ren f s.cells
 have kr2:=cell_refs (getP s).2.cells
 have kn2:=fun f=>cell_ren f (getP s).2.cells
 obtain ⟨op,d,a,b,f,n,sign,args,mode,dest,els,pos⟩:=i
 obtain ⟨hd,ha,hb⟩:=h
 simp only at hd ha hb
 unfold numbersP
 simp only [In1.av,ints]
 rw [G_body hx.clear rfl Tryz.func28 rfl Tryz.results28 hv_28 rfl]
 by_cases c1:op = 1
 ·subst c1
  obtain ⟨v,hp⟩:=hd rfl
  have g1:=hp.get
  have g2:=hp.lo
  have g3:=hp.hi
  have g4:=hp.set (w3 n,none)
  have hw:=wrap_e hx.toTX n
  simp only [Mc.H,Mc.obj,Mc.put,if_true,Md1.sr,Md1.fr,ptrV_none] at g4 ⊢
  generalize s.cells.map cellA = cs at kr kn ⊢
  simp (maxSteps:=4000000) (disch:=first | (intros; contradiction) | omega) only [go_sem,kr,kn,g1,g2,g3,g4,hw]
  done
 by_cases c4:op = 4
 ·subst c4
  obtain ⟨v,hp⟩:=hd rfl
  obtain ⟨va,hpa⟩:=ha rfl
  obtain ⟨vb,hpb⟩:=hb rfl
  have hs:=sign_e hx.toTX sign va.1 vb.1
  rw [hpa.nth,hpb.nth]
  generalize signP sign va.1 vb.1 = p at hs ⊢
  obtain ⟨x,y⟩:=p
  unfold pairA at hs
  have g1:=hp.get
  have g2:=hp.lo
  have g3:=hp.hi
  have g4:=hp.set (x,none)
  have g5:=hpa.one
  have g6:=hpb.one
  have g7:=hpa.lo
  have g8:=hpa.hi
  have g9:=hpb.lo
  have g10:=hpb.hi
  rw [if_neg (by decide),if_pos rfl]
  simp only [Mc.H,Mc.obj,Mc.put,Md1.sr,Md1.fr,ptrV_none] at g4 ⊢
  generalize s.cells.map cellA = cs at kr kn ⊢
  simp (maxSteps:=4000000) (disch:=first | (intros; contradiction) | omega) only [go_sem,kr,kn,g1,g2,g3,g4,g5,g6,g7,g8,g9,g10,hs]
  done
 by_cases c5:op = 5
 ·subst c5
  rw [if_neg (by decide),if_neg (by decide),if_pos rfl]
  obtain ⟨v,hp⟩:=hd rfl
  generalize getP s = q at hget hgr kr2 kn2 ⊢
  obtain ⟨gn,s2⟩:=q
  simp only at hget hgr kr2 kn2 ⊢
  rw [← hgr] at hp
  have g1:=hp.get
  have g2:=hp.lo
  have g3:=hp.hi
  have g4:=hp.set (gn,none)
  simp only [Mc.H,Mc.obj,Mc.put,Md1.sr,Md1.fr,ptrV_none] at g4 hget ⊢
  generalize s.cells.map cellA = cs at kr kn hget ⊢
  generalize s2.cells.map cellA = cs2 at kr2 kn2 hget ⊢
  rw [hgr] at hget g1 g4
  rw [hgr]
  simp (maxSteps:=4000000) (disch:=first | (intros; contradiction) | omega) only [go_sem,kr,kn,kr2,kn2,g1,g2,g3,g4,hget]
  done
 by_cases c6:op = 6
 ·subst c6
  obtain ⟨va,hpa⟩:=ha rfl
  rw [hpa.nth,if_neg (by decide),if_neg (by decide),if_neg (by decide),if_pos rfl]
  have g1:=hpa.get
  have g5:=hpa.one
  have g7:=hpa.lo
  have g8:=hpa.hi
  have hft:fits 1 ([[.int .u8 (IntKind.wrap .u8 va.1)]]:List (List Dt)):=by intro row h; simp at h; rw [h]; rfl
  have hrm:room ((s.out.map rowU).length + 1) 1:=by unfold room; rw [List.length_map]; simp; omega
  simp only [Mc.H,Mc.obj,Md1.sr,Md1.fr,List.map_append,List.map_cons,List.map_nil,rowU]
  generalize s.cells.map cellA = cs at kr kn ⊢
  simp (maxSteps:=4000000) (disch:=first | (intros; contradiction) | omega) only [go_sem,kr,kn,g1,g5,g7,g8,hft,hrm]
  done
 by_cases c14:op = 14
 ·subst c14
  obtain ⟨v,hp⟩:=hd rfl
  obtain ⟨va,hpa⟩:=ha rfl
  rw [hpa.nth,if_neg (by decide),if_neg (by decide),if_neg (by decide),if_neg (by decide),if_pos rfl]
  have g1:=hp.get
  have g2:=hp.lo
  have g3:=hp.hi
  have g5:=hpa.snd
  have g7:=hpa.lo
  have g8:=hpa.hi
  have ht:=truth_e hx.toTX (isNone va.2 == decide (sign = [61,61]))
  have g4:=hp.set (tI (isNone va.2 == decide (sign = [61,61])),none)
  obtain ⟨van,vap⟩:=va
  simp only [Mc.H,Mc.obj,Mc.put,Md1.sr,Md1.fr,ptrV_none] at g4 ⊢
  simp only at g5 ht g4 ⊢
  generalize s.cells.map cellA = cs at kr kn ⊢
  cases vap with
  | none=>
   simp only [isNone,ptrV_none] at g5 ht g4 ⊢
   by_cases hsg:sign = [61,61]
   ·rw [decide_eq_true hsg] at ht g4 ⊢
    simp only [b11,b10,b01,b00] at ht g4 ⊢
    have hsg:=eq_true hsg
    simp (maxSteps:=4000000) (disch:=first | (intros; contradiction) | omega) only [go_sem,kr,kn,g1,g2,g3,g4,g5,g7,g8,hsg,ht]
    done
   ·rw [decide_eq_false hsg] at ht g4 ⊢
    simp only [b11,b10,b01,b00] at ht g4 ⊢
    simp (maxSteps:=4000000) (disch:=first | (intros; contradiction) | omega) only [go_sem,kr,kn,g1,g2,g3,g4,g5,g7,g8,hsg,ht]
    done
  | some k=>
   simp only [isNone,ptrV_some] at g5 ht g4 ⊢
   by_cases hsg:sign = [61,61]
   ·rw [decide_eq_true hsg] at ht g4 ⊢
    simp only [b11,b10,b01,b00] at ht g4 ⊢
    have hsg:=eq_true hsg
    simp (maxSteps:=4000000) (disch:=first | (intros; contradiction) | omega) only [go_sem,kr,kn,g1,g2,g3,g4,g5,g7,g8,hsg,ht]
    done
   ·rw [decide_eq_false hsg] at ht g4 ⊢
    simp only [b11,b10,b01,b00] at ht g4 ⊢
    simp (maxSteps:=4000000) (disch:=first | (intros; contradiction) | omega) only [go_sem,kr,kn,g1,g2,g3,g4,g5,g7,g8,hsg,ht]
    done
 rw [if_neg c1,if_neg c4,if_neg c5,if_neg c6,if_neg c14]
 simp only [Mc.H,Mc.obj,Md1.sr,Md1.fr]
 generalize s.cells.map cellA = cs at kr kn ⊢
 simp (maxSteps:=4000000) (disch:=first | (intros; contradiction) | omega) only [go_sem,kr,kn,c1,c4,c5,c6,c14]
 done
end Go.Proofs.YtkflggjdlflndaaGreat
