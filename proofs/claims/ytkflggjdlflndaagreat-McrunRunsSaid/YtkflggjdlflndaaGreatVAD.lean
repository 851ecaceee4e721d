/- The document's machine, as data: its region, its objects; The document's machine: bytes, pointers, what is left; The document's machine: memory that is made; The document's machine: memory that is made goes into the region. Conditions: none. -/
import Derived.Test.YtkflggjdlflndaaGreatZ8B
set_option linter.unusedSimpArgs false
set_option linter.unusedVariables false
namespace Go.Proofs.YtkflggjdlflndaaGreat
open Go Go.Ab
variable {ext:Sem'}
def flt {α:Type} (f:α→List AV) (l:List α):List AV:=(l.map f).flatten
section
variable {α:Type} {f:α→List AV} {n:Nat}
theorem flt_cons (x:α) (l:List α):flt f (x :: l) = f x ++ flt f l:=rfl
theorem flt_app (a b:List α):flt f (a ++ b) = flt f a ++ flt f b:=by unfold flt; rw [List.map_append,List.flatten_append]
theorem flt_len (h:∀ x,(f x).length = n) (l:List α):(flt f l).length = l.length * n:=by
 induction l with
 | nil=>simp [flt]
 | cons x l ih=>rw [flt_cons,List.length_append,ih,h,List.length_cons,Nat.succ_mul]; omega
theorem flt_drop (h:∀ x,(f x).length = n):∀ (l:List α) (k:Nat),(flt f l).drop (k * n) = flt f (l.drop k)
 | l,0=>by simp
 | [],k + 1=>by simp [flt]
 | x :: l,k + 1=>by
  have e:(k + 1) * n = (f x).length + k * n:=by rw [h,Nat.succ_mul,Nat.add_comm]
  rw [flt_cons,List.drop_succ_cons,← flt_drop h l k,e,List.drop_append]
  simp
theorem flt_take (h:∀ x,(f x).length = n):∀ (l:List α) (k:Nat),(flt f l).take (k * n) = flt f (l.take k)
 | l,0=>by simp [flt]
 | [],k + 1=>by simp [flt]
 | x :: l,k + 1=>by
  have e:(k + 1) * n = (f x).length + k * n:=by rw [h,Nat.succ_mul,Nat.add_comm]
  rw [flt_cons,List.take_succ_cons,flt_cons,← flt_take h l k,e,List.take_append]
  rw [List.take_of_length_le (by omega)]
  simp
theorem flt_at (h:∀ x,(f x).length = n) {l:List α} {k:Nat} {x:α} (hk:l[k]? = some x):((flt f l).drop (k * n)).take n = f x:=by
 rw [flt_drop h]
 obtain ⟨hk1,rfl⟩:=List.getElem?_eq_some_iff.1 hk
 rw [List.drop_eq_getElem_cons hk1,flt_cons,List.take_append,h,List.take_of_length_le (by rw [h]; omega)]
 simp
theorem flt_get (h:∀ x,(f x).length = n) {l:List α} {k j:Nat} {x:α} (hk:l[k]? = some x) (hj:j < n):(flt f l)[k * n + j]? = (f x)[j]?:=by
 have:=congrArg (fun q=>q[j]?) (flt_at h hk)
 simp only [List.getElem?_take,List.getElem?_drop,if_pos hj] at this
 exact this
theorem splice_mid (A X B new:List AV) (off:Nat) (h:off + new.length ≤ X.length):splice (A ++ (X ++ B)) (A.length + off) new = A ++ (splice X off new ++ B):=by
 have d1:A.drop (A.length + off + new.length) = []:=List.drop_eq_nil_of_le (by omega)
 have d2:A.take (A.length + off) = A:=List.take_of_length_le (by omega)
 have d3:B.take (off - X.length) = []:=by rw [show off - X.length = 0 by omega]; rfl
 have d4:B.drop (off + new.length - X.length) = B:=by rw [show off + new.length - X.length = 0 by omega]; rfl
 unfold splice
 rw [List.take_append,List.drop_append,d1,d2,show A.length + off - A.length = off by omega,show A.length + off + new.length - A.length = off + new.length by omega,List.take_append,List.drop_append,d3,d4]
 simp
theorem flt_set (h:∀ x,(f x).length = n) {l:List α} {k off:Nat} {new:List AV} {x y:α} (hk:l[k]? = some x) (ho:off + new.length ≤ n) (hy:splice (f x) off new = f y):splice (flt f l) (k * n + off) new = flt f (l.set k y):=by
 obtain ⟨hk1,rfl⟩:=List.getElem?_eq_some_iff.1 hk
 have e:l = l.take k ++ l[k] :: l.drop (k + 1):=by simp
 have e2:l.set k y = l.take k ++ y :: l.drop (k + 1):=by rw [List.set_eq_take_append_cons_drop,if_pos hk1]
 have e3:flt f l = flt f (l.take k) ++ (f l[k] ++ flt f (l.drop (k + 1))):=by rw [← flt_cons,← flt_app,← e]
 have hl:(flt f (l.take k)).length = k * n:=by rw [flt_len h,List.length_take,Nat.min_eq_left (by omega)]
 rw [e2,flt_app,flt_cons,e3,← hy,← hl,splice_mid _ _ _ _ _ (by rw [h]; exact ho)]
theorem flt_refs (h:∀ x,((f x).map refs).flatten = []) (l:List α):((flt f l).map refs).flatten = []:=by
 induction l with
 | nil=>rfl
 | cons x l ih=>rw [flt_cons,List.map_append,List.flatten_append,h,ih]; rfl
theorem flt_ren (g:Nat→Nat) (h:∀ x,(f x).map (ren g) = f x) (l:List α):(flt f l).map (ren g) = flt f l:=by
 induction l with
 | nil=>rfl
 | cons x l ih=>rw [flt_cons,List.map_append,h,ih]
end
structure RFr where
 f:Int
 pc:Int
 k:Nat
 n:Nat
structure RCe where
 al:Bool
 k:Nat
 n:Nat
 a:Int
 b:Int
def RFr.av (x:RFr):List AV:=[.d (.int .i64 x.f),.d (.int .i64 x.pc),.rs x.k 0 x.n 1]
def RCe.av (x:RCe):List AV:=[.d (.bool x.al),.rs x.k 0 x.n 1,.d (.int .i64 x.a),.d (.int .i64 x.b)]
theorem fr_len (x:RFr):x.av.length = 3:=rfl
theorem ce_len (x:RCe):x.av.length = 4:=rfl
def frsA (l:List RFr):List AV:=flt RFr.av l
def cesA (l:List RCe):List AV:=flt RCe.av l
def iA (l:List Int):List AV:=l.map avI
def rgI (R:List (List Int)):List (List AV):=R.map iA
theorem geti {R:List (List Int)} {k:Nat} {l:List Int} (h:R[k]? = some l):regGet (rgI R) k = some (iA l):=by
 unfold regGet rgI
 rw [List.getElem?_map,h]
 rfl
theorem iA_len (l:List Int):(iA l).length = l.length:=List.length_map _
theorem iA_at {l:List Int} {i:Nat} {x:Int} (h:l[i]? = some x):(iA l)[i]? = some (.d (.int .i64 x)):=by unfold iA; rw [List.getElem?_map,h]; rfl
theorem iA_set {l:List Int} {i:Nat} (h:i < l.length) (x:Int):splice (iA l) i [.d (.int .i64 x)] = iA (l.set i x):=by
 unfold splice iA
 rw [List.set_eq_take_append_cons_drop,if_pos h]
 simp [avI]
theorem seti {R:List (List Int)} {k i:Nat} {l:List Int} (h:R[k]? = some l) (hi:i < l.length) (x:Int):regSet (rgI R) k i [.d (.int .i64 x)] = some (rgI (R.set k (l.set i x))):=by
 unfold regSet
 rw [geti h]
 simp only [regSetK]
 rw [if_pos (by rw [iA_len]; simp; omega),iA_set hi]
 unfold rgI
 rw [List.map_set]
theorem iA_refs (l:List Int):((iA l).map refs).flatten = []:=by
 induction l with
 | nil=>rfl
 | cons k l ih=>show refs (avI k) ++ ((iA l).map refs).flatten = []; rw [ih]; rfl
theorem iA_ren (f:Nat→Nat) (l:List Int):(iA l).map (ren f) = iA l:=by
 induction l with
 | nil=>rfl
 | cons k l ih=>show ren f (avI k) :: (iA l).map (ren f) = avI k :: iA l; rw [ih]; rfl
theorem frs_refs (l:List RFr):((frsA l).map refs).flatten = []:=flt_refs (fun _=>rfl) l
theorem frs_ren (g:Nat→Nat) (l:List RFr):(frsA l).map (ren g) = frsA l:=flt_ren g (fun _=>rfl) l
theorem ces_refs (l:List RCe):((cesA l).map refs).flatten = []:=flt_refs (fun _=>rfl) l
theorem ces_ren (g:Nat→Nat) (l:List RCe):(cesA l).map (ren g) = cesA l:=flt_ren g (fun _=>rfl) l
theorem frs_len (l:List RFr):(frsA l).length = l.length * 3:=flt_len fr_len l
theorem ces_len (l:List RCe):(cesA l).length = l.length * 4:=flt_len ce_len l
structure Rm where
 m:Md1
 inp:List Int
 fails:List Bool
 asked:Int
 out:List Int
 cells:List RCe
 stack:List RFr
 top:Nat
 kind:Int
 code:Int
 steps:Int
 reg:List (List Int)
 ec:Nat
 es:Nat
 eg:Nat
def Rm.robj (s:Rm):AObj:=.cells [.d s.m.sr,.d s.m.fr,.ptr 2 0,.stk 5 s.es s.top,.d (.int .i64 s.kind),.d (.int .i64 s.code),.full [],.d (.int .i64 s.steps),.d (.int .i64 0),.full []]
def Rm.hobj (s:Rm) (i j:Nat):AObj:=.cells [.stk i s.ec s.cells.length,.d (.int .i64 s.asked),.d (.sl (s.fails.map rowT)),.d (.sl (s.inp.map rowU)),.grow j s.eg (s.out.map rowU)]
def Rm.H (s:Rm):List AObj:=[.reg (rgI s.reg),s.robj,s.hobj 3 4,.stk s.ec 4 (cesA s.cells),.grow s.eg 1,.stk s.es 3 (frsA s.stack)]
def Rm.HH (s:Rm):List AObj:=[.reg (rgI s.reg),s.hobj 2 3,.stk s.ec 4 (cesA s.cells),.grow s.eg 1]
structure Ix (R:List (List Int)) (k:Nat) (l:List Int) (i:Int) (x:Int):Prop where
 at_:R[k]? = some l
 lo:0 ≤ i
 hi:i < (l.length:Nat)
 val:l[i.toNat]? = some x
def nthI (l:List Int) (i:Int):Int:=l[i.toNat]?.getD 0
theorem Ix.of {R:List (List Int)} {k:Nat} {l:List Int} {i:Int} (h:R[k]? = some l) (h0:0 ≤ i) (h1:i < (l.length:Nat)):Ix R k l i (nthI l i):=⟨h,h0,h1,by unfold nthI; rw [List.getElem?_eq_getElem (by omega)]; rfl⟩
theorem Ix.get {R:List (List Int)} {k:Nat} {l:List Int} {i x:Int} (h:Ix R k l i x):regGet (rgI R) k = some (iA l):=geti h.at_
theorem Ix.one {R:List (List Int)} {k:Nat} {l:List Int} {i x:Int} (h:Ix R k l i x):(iA l)[i.toNat]? = some (.d (.int .i64 x)):=iA_at h.val
theorem Ix.set {R:List (List Int)} {k:Nat} {l:List Int} {i x:Int} (h:Ix R k l i x) (y:Int):regSet (rgI R) k i.toNat [.d (.int .i64 y)] = some (rgI (R.set k (l.set i.toNat y))):=seti h.at_ (List.getElem?_eq_some_iff.1 h.val).1 y
theorem Ix.nth {R:List (List Int)} {k:Nat} {l:List Int} {i x:Int} (h:Ix R k l i x):nthI l i = x:=by unfold nthI; rw [h.val]; rfl
end Go.Proofs.YtkflggjdlflndaaGreat
namespace Go.Proofs.YtkflggjdlflndaaGreat
open Go Go.Ab
variable {ext:Sem'}
def getR (s:Rm):Int × Rm:=match s.inp with
 | []=>(-1,s)
 | b :: r=>(IntKind.wrap .i64 b,{ s with inp:=r })
theorem rget_e (hx:TX ext) (s:Rm):G ext 66 [.ptr 1 0] s.HH = some (.ret (.d (.int .i64 (getR s).1)),(getR s).2.HH):=by
 obtain ⟨m,inp,fails,asked,out,cells,stack,top,kind,code,steps,reg,ec,es,eg⟩:=s
 have kr:=ces_refs cells
 have kn:=fun f=>ces_ren f cells
 cases inp with
 | nil=>
  simp only [getR,Rm.HH,Rm.hobj,List.map_nil]
  generalize cesA cells = cs at kr kn ⊢
  rw [G_body hx.clear rfl Tryz.func66 rfl Tryz.results66 hv_66 rfl]
  simp (maxSteps:=4000000) (disch:=first | (intros; contradiction) | omega) only [go_sem,kr,kn]
  done
 | cons b inp=>
  simp only [getR,Rm.HH,Rm.hobj,List.map_cons,rowU]
  generalize cesA cells = cs at kr kn ⊢
  have hne:¬ (((inp.map rowU).length + 1:Nat):Int) = 0:=by omega
  have hft:fits 1 ([.int .u8 b] :: inp.map rowU):=fits_rowU (b :: inp)
  have h1:(1:Int) ≤ (((inp.map rowU).length + 1:Nat):Int):=by omega
  rw [G_body hx.clear rfl Tryz.func66 rfl Tryz.results66 hv_66 rfl]
  simp (maxSteps:=4000000) (disch:=first | (intros; contradiction) | omega) only [go_sem,kr,kn,hne,hft,h1]
  done
def cellR (s:Rm) (p:Int):Option RCe:=if p < 1 then none else if (s.cells.length:Int) < p then none else s.cells[(p - 1).toNat]?
def atA (s:Rm) (r:Nat) (p:Int):AV:=match cellR s p with
 | some c=>if c.al then .sp r s.ec ((p - 1).toNat * 4) else .d .nilp
 | none=>.d .nilp
theorem rat_e (hx:TX ext) (s:Rm) (p:Int) (hn:s.cells.length ≤ 1000000):G ext 69 [.ptr 1 0,.d (.int .i64 p)] s.HH = some (.ret (atA s 2 p),s.HH):=by
 have kr:=ces_refs s.cells
 have kn:=fun f=>ces_ren f s.cells
 unfold atA cellR
 rw [G_body hx.clear rfl Tryz.func69 rfl Tryz.results69 hv_69 rfl]
 by_cases q1:p < 1
 ·rw [if_pos q1]
  simp only [Rm.HH,Rm.hobj]
  generalize cesA s.cells = cs at kr kn ⊢
  have q1:=eq_true q1
  simp (maxSteps:=4000000) (disch:=first | (intros; contradiction) | omega) only [go_sem,kr,kn,q1]
  done
 ·rw [if_neg q1]
  by_cases q2:(s.cells.length:Int) < p
  ·rw [if_pos q2]
   simp only [Rm.HH,Rm.hobj]
   generalize cesA s.cells = cs at kr kn ⊢
   have q2:=eq_true q2
   simp (maxSteps:=4000000) (disch:=first | (intros; contradiction) | omega) only [go_sem,kr,kn,q1,q2]
   done
  ·rw [if_neg q2]
   have hat:(p - 1).toNat < s.cells.length:=by omega
   have hce:s.cells[(p - 1).toNat]? = some s.cells[(p - 1).toNat]:=List.getElem?_eq_getElem hat
   have h0:0 ≤ p - 1:=by omega
   have hlt:p - 1 < (s.cells.length:Int):=by omega
   have hw:IntKind.wrap .i64 (p - 1) = p - 1:=wrap64 (by omega) (by omega)
   rw [hce]
   generalize s.cells[(p - 1).toNat] = c at hce ⊢
   have hg:=flt_get (f:=RCe.av) ce_len (j:=0) hce (by decide)
   simp only [Nat.add_zero] at hg
   change (cesA s.cells)[(p - 1).toNat * 4]? = some (.d (.bool c.al)) at hg
   simp only [Rm.HH,Rm.hobj]
   generalize cesA s.cells = cs at kr kn hg ⊢
   cases hal:c.al with
   | true=>
    rw [hal] at hg
    simp (maxSteps:=4000000) (disch:=first | (intros; contradiction) | omega) only [go_sem,kr,kn,q1,q2,h0,hlt,hw,hg]
    done
   | false=>
    rw [hal] at hg
    simp (maxSteps:=4000000) (disch:=first | (intros; contradiction) | omega) only [go_sem,kr,kn,q1,q2,h0,hlt,hw,hg]
    done
def leftR (l:List RCe):Nat:=(l.filter (·.al)).length
theorem leftR_succ {l:List RCe} {k:Nat} (h:k < l.length):leftR (l.take (k + 1)) = leftR (l.take k) + (if l[k].al then 1 else 0):=by
 unfold leftR
 rw [List.take_succ_eq_append_getElem h,List.filter_append,List.length_append]
 congr 1
 cases hh:l[k].al <;> simp [List.filter,hh]
theorem ralive_e (hx:TX ext) (s:Rm) (hn:s.cells.length ≤ 1000000):G ext 21 [.ptr 1 0] s.HH = some (.ret (.d (.int .i64 (leftR s.cells))),s.HH):=by
 have kr:=ces_refs s.cells
 have kn:=fun f=>ces_ren f s.cells
 rw [G_body hx.clear rfl Tryz.func21 rfl Tryz.results21 hv_21 rfl]
 simp only [Rm.HH,Rm.hobj]
 generalize hcs:cesA s.cells = cs at kr kn ⊢
 simp (maxSteps:=4000000) (disch:=first | (intros; contradiction) | omega) only [go_sem,kr,kn]
 generalize hL:loopA _ _ _ = L
 apply loop_upd hL (by simp (maxSteps:=4000000) (disch:=first | (intros; contradiction) | omega) only [go_sem,kr] <;> rfl) (fun k:Nat=>k ≤ s.cells.length) (fun k=>s.cells.length - k) (fun k=>[(3,.d (.int .i64 (leftR (s.cells.take k)))),(4,.d (.int .i64 k))]) (fun k=>[]) 0 rfl (Nat.zero_le _)
 clear hL
 rintro k hk next ih
 by_cases hlt:k < s.cells.length
 ·have hlt':(k:Int) < (s.cells.length:Int):=by omega
  have h0:(0:Int) ≤ (k:Int):=by omega
  have hce:s.cells[k]? = some s.cells[k]:=List.getElem?_eq_getElem hlt
  have hg:=flt_get (f:=RCe.av) ce_len (j:=0) hce (by decide)
  simp only [Nat.add_zero] at hg
  change (cesA s.cells)[k * 4]? = some (.d (.bool s.cells[k].al)) at hg
  rw [hcs] at hg
  have htk:=leftR_succ hlt
  have hle:leftR (s.cells.take k) ≤ k:=by
   unfold leftR
   exact Nat.le_trans (List.length_filter_le _ _) (by rw [List.length_take]; omega)
  generalize s.cells[k] = c at hg htk
  cases hal:c.al with
  | true=>
   rw [hal] at hg htk
   simp only [if_true] at htk
   have hadd:IntKind.wrap .i64 ((leftR (s.cells.take k):Int) + 1) = (leftR (s.cells.take (k + 1)):Int):=by
    rw [htk,wrap64 (by omega) (by omega)]; simp
   simp (maxSteps:=4000000) (disch:=first | (intros; contradiction) | omega) only [go_sem,kr,kn,hlt',h0,hg,hadd]
   rw [wrap64 (by omega) (by omega)]
   refine ih (k + 1) _ (by omega) (by omega) ?_
   simp (maxSteps:=4000000) (disch:=first | (intros; contradiction) | omega) only [go_sem,kr,kn] <;> rfl
  | false=>
   rw [hal] at hg htk
   simp only [Bool.false_eq_true,if_false,Nat.add_zero] at htk
   simp (maxSteps:=4000000) (disch:=first | (intros; contradiction) | omega) only [go_sem,kr,kn,hlt',h0,hg]
   rw [wrap64 (by omega) (by omega)]
   refine ih (k + 1) _ (by omega) (by omega) ?_
   rw [htk]
   simp (maxSteps:=4000000) (disch:=first | (intros; contradiction) | omega) only [go_sem,kr,kn] <;> rfl
 ·have hlt':¬ (k:Int) < (s.cells.length:Int):=by omega
  rw [List.take_of_length_le (by omega)]
  simp (maxSteps:=4000000) (disch:=first | (intros; contradiction) | omega) only [go_sem,kr,kn,hlt']
  done
end Go.Proofs.YtkflggjdlflndaaGreat
namespace Go.Proofs.YtkflggjdlflndaaGreat
open Go Go.Ab
variable {ext:Sem'}
def failsR (s:Rm):Bool:=if s.asked < s.fails.length then s.fails[s.asked.toNat]?.getD false else false
def newR (s:Rm) (n:Nat):Int × Rm:=
 if failsR s then (0,{ s with asked:=IntKind.wrap .i64 (s.asked + 1) })
 else (((s.cells.length + 1:Nat):Int),{ s with asked:=IntKind.wrap .i64 (s.asked + 1),cells:=s.cells ++ [⟨true,s.reg.length,n,0,0⟩],ec:=s.ec + 1,reg:=s.reg ++ [List.replicate n 0] })
theorem zerosI (n:Nat):(List.replicate n [AV.d (.int .i64 0)]).flatten = iA (List.replicate n 0):=by
 induction n with
 | zero=>rfl
 | succ n ih=>rw [List.replicate_succ,List.replicate_succ,List.flatten_cons,ih]; rfl
theorem app_row (p e:Nat) (cs:List AV) (n m b:Nat) (xs:List AV) (h:n * m ≤ cs.length) (hx:xs.length = m) (hn:room (n + 1) b):stkAppV p e n m b 1 m xs (.stk e m cs) = some (.val (.stk p (e + 1) (n + 1)) [(p,.stk (e + 1) m (cs.take (n * m) ++ xs))]):=by
 simp only [stkAppV]
 rw [if_pos (by refine ⟨trivial,trivial,trivial,by decide,by omega,h,hn⟩)]
set_option maxHeartbeats 4000000 in
theorem new_base (hx:TX ext) (he:∀ xs H,ext 68 xs H = none) (s:Rm) (n:Nat) (hn:n ≤ 1000) (hc:s.cells.length ≤ 100000) (ha:0 ≤ s.asked) :
  G ext 68 [.ptr 1 0,.d (.int .i64 n)] s.HH = (if failsR s then some (.ret (.d (.int .i64 0)),({ s with asked:=IntKind.wrap .i64 (s.asked + 1) }:Rm).HH)
   else some (.ret (.d (.int .i64 ((s.cells.length + 1:Nat):Int))),[.reg (rgI s.reg),.cells [.stk 2 (s.ec + 1) (s.cells.length + 1),.d (.int .i64 (IntKind.wrap .i64 (s.asked + 1))),.d (.sl (s.fails.map rowT)),.d (.sl (s.inp.map rowU)),.grow 3 s.eg (s.out.map rowU)],.stk (s.ec + 1) 4 (cesA s.cells ++ [.d (.bool true),.arr 4 0 n 1,.d (.int .i64 0),.d (.int .i64 0)]),.grow s.eg 1,.cells (iA (List.replicate n 0))])):=by
 have kr:=ces_refs s.cells
 have kn:=fun f=>ces_ren f s.cells
 have hfll:(s.fails.map rowT).length = s.fails.length:=List.length_map _
 have hroom:room n 8:=by unfold room; simp; omega
 have hle:((n:Nat):Int) ≤ ((n:Nat):Int):=Int.le_refl _
 have hn0:(0:Int) ≤ ((n:Nat):Int):=Int.natCast_nonneg _
 have z1:=iA_refs (List.replicate n 0)
 have z2:=fun f=>iA_ren f (List.replicate n 0)
 have hz:=zerosI n
 have hcs:=ces_len s.cells
 rw [G_bodyN (he _ _) Tryz.func68 rfl Tryz.results68 hv_68 rfl]
 simp only [Rm.HH,Rm.hobj]
 generalize cesA s.cells = cs at kr kn hcs ⊢
 have happ:∀ r,stkAppV 2 s.ec s.cells.length 4 48 1 4 [.d (.bool true),.arr r 0 n 1,.d (.int .i64 0),.d (.int .i64 0)] (.stk s.ec 4 cs) = some (.val (.stk 2 (s.ec + 1) (s.cells.length + 1)) [(2,.stk (s.ec + 1) 4 (cs ++ [.d (.bool true),.arr r 0 n 1,.d (.int .i64 0),.d (.int .i64 0)]))]):=by
  intro r
  have:=app_row 2 s.ec cs s.cells.length 4 48 [.d (.bool true),.arr r 0 n 1,.d (.int .i64 0),.d (.int .i64 0)] (by omega) rfl (by unfold room; simp; omega)
  rw [List.take_of_length_le (by omega)] at this
  exact this
 have k1:∀ r,((cs ++ [AV.d (.bool true),.arr r 0 n 1,.d (.int .i64 0),.d (.int .i64 0)]).map refs).flatten = [r]:=fun r=>by rw [List.map_append,List.flatten_append,kr]; rfl
 have k2:∀ r f,(cs ++ [AV.d (.bool true),.arr r 0 n 1,.d (.int .i64 0),.d (.int .i64 0)]).map (ren f) = cs ++ [AV.d (.bool true),.arr (f r) 0 n 1,.d (.int .i64 0),.d (.int .i64 0)]:=fun r f=>by rw [List.map_append,kn]; rfl
 unfold failsR
 by_cases q1:s.asked < (s.fails.length:Int)
 ·have q1':=q1
  rw [if_pos q1]
  have hb:(s.fails.map rowT)[s.asked.toNat]? = some [.bool (s.fails[s.asked.toNat]?.getD false)]:=by
   rw [List.getElem?_map,List.getElem?_eq_getElem (show s.asked.toNat < s.fails.length by omega)]; rfl
  generalize s.fails[s.asked.toNat]?.getD false = b at hb ⊢
  cases b with
  | true=>
   simp only [if_true]
   simp (maxSteps:=4000000) (disch:=first | (intros; contradiction) | omega) only [go_sem,kr,kn,hfll,q1',ha,hb]
   done
  | false=>
   simp only [Bool.false_eq_true,if_false]
   simp (maxSteps:=4000000) (disch:=first | (intros; contradiction) | omega) only [go_sem,kr,kn,hfll,q1',ha,hb,hroom,hle,hn0,hz,z1,z2,Nat.zero_le,happ,k1,k2]
   done
 ·rw [if_neg q1]
  simp only [Bool.false_eq_true,if_false]
  simp (maxSteps:=4000000) (disch:=first | (intros; contradiction) | omega) only [go_sem,kr,kn,hfll,q1,ha,hroom,hle,hn0,hz,z1,z2,Nat.zero_le,happ,k1,k2]
  done
def enterR (s:Rm) (f:Int) (c:Cd1) (xs:List Int):Rm:={ s with stack:=s.stack.take s.top ++ [⟨f,0,s.reg.length,c.vars.length⟩],top:=s.top + 1,es:=s.es + 1,reg:=s.reg ++ [xs ++ List.replicate (c.vars.length - xs.length) 0] }
theorem arg_step {xs:List Int} {n j:Nat} (hj:j < xs.length) (hn:xs.length ≤ n):splice (iA (xs.take j ++ List.replicate (n - j) 0)) j [.d (.int .i64 xs[j])] = iA (xs.take (j + 1) ++ List.replicate (n - (j + 1)) 0):=by
 rw [iA_set (by simp; omega)]
 congr 1
 have e:List.replicate (n - j) (0:Int) = 0 :: List.replicate (n - (j + 1)) 0:=by rw [← List.replicate_succ]; congr 1; omega
 rw [e,List.set_append_right _ _ (by rw [List.length_take]; omega),List.length_take,show j - min j xs.length = 0 by omega,List.set_cons_zero,List.take_succ_eq_append_getElem hj,List.append_assoc]
 rfl
set_option maxHeartbeats 4000000 in
theorem renter_base (hx:TX ext) (he:∀ xs H,ext 18 xs H = none) (s:Rm) (f:Int) (c:Cd1) (xs:List Int) (h0:0 ≤ f) (hf:s.m.funcs[f.toNat]? = some c) (hn:c.vars.length ≤ 1000) (hfew:xs.length ≤ c.vars.length) (ht:s.top ≤ s.stack.length) (ht2:s.top ≤ 100000) :
  G ext 18 [.ptr 1 0,.d (.int .i64 f),.d (.sl (xs.map rowI))] s.H = some (.ret (.tuple []),[.reg (rgI s.reg),.cells [.d s.m.sr,.d s.m.fr,.ptr 2 0,.stk 5 (s.es + 1) (s.top + 1),.d (.int .i64 s.kind),.d (.int .i64 s.code),.full [],.d (.int .i64 s.steps),.d (.int .i64 0),.full []],s.hobj 3 4,.stk s.ec 4 (cesA s.cells),.grow s.eg 1,.stk (s.es + 1) 3 (frsA (s.stack.take s.top) ++ [.d (.int .i64 f),.d (.int .i64 0),.arr 6 0 c.vars.length 1]),.cells (iA (xs ++ List.replicate (c.vars.length - xs.length) 0))]):=by
 have kr:=ces_refs s.cells
 have kn:=fun f=>ces_ren f s.cells
 have kr2:=frs_refs s.stack
 have kn2:=fun f=>frs_ren f s.stack
 have kr3:=frs_refs (s.stack.take s.top)
 have kn3:=fun f=>frs_ren f (s.stack.take s.top)
 have hfl:(s.m.funcs.map Cd1.row).length = s.m.funcs.length:=List.length_map _
 have hlt:f < ((s.m.funcs.map Cd1.row).length:Nat):=by have:=(List.getElem?_eq_some_iff.1 hf).1; omega
 have hr:(s.m.funcs.map Cd1.row)[f.toNat]? = some c.row:=by rw [List.getElem?_map,hf]; rfl
 have hvl:(c.vars.map Vr1.row).length = c.vars.length:=List.length_map _
 have hroom:room c.vars.length 8:=by unfold room; simp; omega
 have hle:((c.vars.length:Nat):Int) ≤ ((c.vars.length:Nat):Int):=Int.le_refl _
 have hn0:(0:Int) ≤ ((c.vars.length:Nat):Int):=Int.natCast_nonneg _
 have hz:=zerosI c.vars.length
 have z1:=fun l=>iA_refs l
 have z2:=fun f l=>iA_ren f l
 have hfs:=frs_len s.stack
 have htk:(frsA s.stack).take (s.top * 3) = frsA (s.stack.take s.top):=flt_take fr_len s.stack s.top
 have hal:(xs.map rowI).length = xs.length:=List.length_map _
 simp only [Cd1.row] at hr
 rw [G_bodyN (he _ _) Tryz.func18 rfl Tryz.results18 hv_18 rfl]
 simp only [Rm.H,Rm.robj,Rm.hobj,Md1.sr,Md1.fr]
 generalize cesA s.cells = cs at kr kn ⊢
 generalize frsA (s.stack.take s.top) = fs2 at kr3 kn3 htk ⊢
 generalize frsA s.stack = fs at kr2 kn2 hfs htk ⊢
 have happ:∀ r,stkAppV 5 s.es s.top 3 40 1 3 [.d (.int .i64 f),.d (.int .i64 0),.arr r 0 c.vars.length 1] (.stk s.es 3 fs) = some (.val (.stk 5 (s.es + 1) (s.top + 1)) [(5,.stk (s.es + 1) 3 (fs2 ++ [.d (.int .i64 f),.d (.int .i64 0),.arr r 0 c.vars.length 1]))]):=by
  intro r
  have:=app_row 5 s.es fs s.top 3 40 [.d (.int .i64 f),.d (.int .i64 0),.arr r 0 c.vars.length 1] (by omega) rfl (by unfold room; simp; omega)
  rw [htk] at this
  exact this
 have k1:∀ r,((fs2 ++ [AV.d (.int .i64 f),.d (.int .i64 0),.arr r 0 c.vars.length 1]).map refs).flatten = [r]:=fun r=>by rw [List.map_append,List.flatten_append,kr3]; rfl
 have k2:∀ r g,(fs2 ++ [AV.d (.int .i64 f),.d (.int .i64 0),.arr r 0 c.vars.length 1]).map (ren g) = fs2 ++ [AV.d (.int .i64 f),.d (.int .i64 0),.arr (g r) 0 c.vars.length 1]:=fun r g=>by rw [List.map_append,kn3]; rfl
 simp (maxSteps:=4000000) (disch:=first | (intros; contradiction) | omega) only [go_sem,kr,kn,kr2,kn2,hlt,hr,h0,hvl,hroom,hle,hn0,hz,z1,z2,Nat.zero_le]
 generalize hL:loopA _ _ _ = L
 apply range_upd hL (by simp (maxSteps:=4000000) (disch:=first | (intros; contradiction) | omega) only [go_sem,kr,kr2,z1] <;> rfl) xs rowI (α:=Unit) (fun rest k _=>True) (fun k _=>[(7,.d (.int .i64 k))]) (fun k _=>[(6,.cells (iA (xs.take k ++ List.replicate (c.vars.length - k) 0)))]) () (by simp only [List.take_zero,List.nil_append,Nat.sub_zero]; rfl) trivial ?_ ?_
 ·intro x rest k _ _ hlt hrx hxx hk _ next ih
  clear hL
  simp only [rowI] at hrx
  have hx2:xs[k] = x:=by have:=List.getElem?_eq_getElem hk; rw [this] at hxx; exact Option.some.inj hxx
  have hsp:=arg_step (n:=c.vars.length) hk hfew
  rw [hx2] at hsp
  unfold splice at hsp
  simp only [List.length_singleton] at hsp
  have hkv:(k:Int) < ((c.vars.length:Nat):Int):=by omega
  have hil:(iA (xs.take k ++ List.replicate (c.vars.length - k) 0)).length = c.vars.length:=by rw [iA_len]; simp; omega
  have hk1:k + 1 ≤ c.vars.length:=by omega
  generalize iA (xs.take k ++ List.replicate (c.vars.length - k) 0) = vv at hsp hil ⊢
  simp (maxSteps:=4000000) (disch:=first | (intros; contradiction) | omega) only [go_sem,kr,kn,kr2,kn2,hlt,hrx,hkv,hil,hk1,hsp,wrap64,Nat.mul_one]
  refine ih () _ trivial ?_
  simp (maxSteps:=4000000) (disch:=first | (intros; contradiction) | omega) only [go_sem,kr,kr2,z1] <;> rfl
 ·intro k _ _ hlt hk next
  clear hL
  subst hk
  rw [List.take_length]
  simp (maxSteps:=4000000) (disch:=first | (intros; contradiction) | omega) only [go_sem,kr,kn,kr2,kn2,hlt,z1,z2,happ,k1,k2]
  done
end Go.Proofs.YtkflggjdlflndaaGreat
namespace Go.Proofs.YtkflggjdlflndaaGreat
open Go Go.Ab
theorem mv_flat {n m:Nat} {l:List AV} (h:(l.map refs).flatten = []):mvL n m l = l:=mvL_none n m (refs_nil_all h)
theorem rgI_len (R:List (List Int)):(rgI R).length = R.length:=List.length_map _
theorem rgI_app (R:List (List Int)) (l:List Int):rgI R ++ [iA l] = rgI (R ++ [l]):=by simp [rgI]
theorem in_flat {n m:Nat} {l:List AV} {c:AV} (h0:(l.map refs).flatten = []) (h:c ∈ l):refs (mvA n m c) = []:=by
 have hr:refs c = []:=by
  induction l with
  | nil=>cases h
  | cons x xs ih=>
   rw [List.map_cons,List.flatten_cons,List.append_eq_nil_iff] at h0
   rcases List.mem_cons.1 h with rfl | h
   ·exact h0.1
   ·exact ih h0.2 h
 rw [mv_none n m hr,hr]
theorem abs_new (s:Rm) (n:Nat) (hf:failsR s = false) :
  absorbX 4 (some (.ret (.d (.int .i64 ((s.cells.length + 1:Nat):Int))),[.reg (rgI s.reg),.cells [.stk 2 (s.ec + 1) (s.cells.length + 1),.d (.int .i64 (IntKind.wrap .i64 (s.asked + 1))),.d (.sl (s.fails.map rowT)),.d (.sl (s.inp.map rowU)),.grow 3 s.eg (s.out.map rowU)],.stk (s.ec + 1) 4 (cesA s.cells ++ [.d (.bool true),.arr 4 0 n 1,.d (.int .i64 0),.d (.int .i64 0)]),.grow s.eg 1,.cells (iA (List.replicate n 0))]))
   = some (.ret (.d (.int .i64 (newR s n).1)),(newR s n).2.HH):=by
 have h:=absorb_eq (n:=4) (R:=rgI s.reg) (out:=.ret (.d (.int .i64 ((s.cells.length + 1:Nat):Int))))
  (mid:=[.cells [.stk 2 (s.ec + 1) (s.cells.length + 1),.d (.int .i64 (IntKind.wrap .i64 (s.asked + 1))),.d (.sl (s.fails.map rowT)),.d (.sl (s.inp.map rowU)),.grow 3 s.eg (s.out.map rowU)],.stk (s.ec + 1) 4 (cesA s.cells ++ [.d (.bool true),.arr 4 0 n 1,.d (.int .i64 0),.d (.int .i64 0)]),.grow s.eg 1])
  (news:=[.cells (iA (List.replicate n 0))]) rfl ?_ ?_ ?_
 ·refine Eq.trans h ?_
  have e1:mvL 4 s.reg.length (cesA s.cells ++ [AV.d (.bool true),.arr 4 0 n 1,.d (.int .i64 0),.d (.int .i64 0)]) = cesA (s.cells ++ [⟨true,s.reg.length,n,0,0⟩]):=by
   rw [mvL_map,List.map_append,← mvL_map,mv_flat (ces_refs s.cells)]
   unfold cesA
   rw [flt_app]
   rfl
  have e2:mvL 4 s.reg.length (iA (List.replicate n 0)) = iA (List.replicate n 0):=mv_flat (iA_refs _)
  simp only [List.map_cons,List.map_nil,mvC,mvO,mvL,mvA,mvOut,rgI_len,e1,e2,newR,hf,Bool.false_eq_true,if_false,Rm.HH,Rm.hobj,List.length_append,List.length_cons,List.length_nil,Nat.zero_add]
  rw [rgI_app]
 ·intro o ho
  simp only [List.mem_cons,List.not_mem_nil,or_false] at ho
  subst ho
  intro x hx; exact in_flat (iA_refs _) hx
 ·intro o ho
  simp only [List.mem_cons,List.not_mem_nil,or_false] at ho
  rcases ho with rfl | rfl | rfl
  ·intro x hx
   simp only [List.mem_cons,List.not_mem_nil,or_false] at hx
   rcases hx with rfl | rfl | rfl | rfl | rfl <;> simp [mvA,refs]
  ·intro x hx r hr
   rcases List.mem_append.1 hx with hx | hx
   ·rw [in_flat (ces_refs _) hx] at hr; cases hr
   ·simp only [List.mem_cons,List.not_mem_nil,or_false] at hx
    rcases hx with rfl | rfl | rfl | rfl <;> simp [mvA,refs] at hr
  ·trivial
 ·simp [outC,mvA,refs]
theorem abs_new0 (s:Rm):absorbX 4 (some (.ret (.d (.int .i64 0)),s.HH)) = some (.ret (.d (.int .i64 0)),s.HH):=by
 have h:=absorb_eq (n:=4) (R:=rgI s.reg) (out:=.ret (.d (.int .i64 0))) (mid:=[s.hobj 2 3,.stk s.ec 4 (cesA s.cells),.grow s.eg 1]) (news:=[]) rfl ?_ ?_ ?_
 ·refine Eq.trans h ?_
  simp only [List.map_cons,List.map_nil,mvC,mvO,mvL,mvA,mvOut,mv_flat (ces_refs s.cells),Rm.HH,Rm.hobj,List.append_nil]
 ·intro o ho; cases ho
 ·intro o ho
  simp only [List.mem_cons,List.not_mem_nil,or_false] at ho
  rcases ho with rfl | rfl | rfl
  ·intro x hx
   simp only [List.mem_cons,List.not_mem_nil,or_false] at hx
   rcases hx with rfl | rfl | rfl | rfl | rfl <;> simp [mvA,refs]
  ·intro x hx r hr; rw [in_flat (ces_refs _) hx] at hr; cases hr
  ·trivial
 ·simp [outC,mvA,refs]
theorem abs_renter (s:Rm) (f:Int) (c:Cd1) (xs:List Int) :
  absorbX 6 (some (.ret (.tuple []),[.reg (rgI s.reg),.cells [.d s.m.sr,.d s.m.fr,.ptr 2 0,.stk 5 (s.es + 1) (s.top + 1),.d (.int .i64 s.kind),.d (.int .i64 s.code),.full [],.d (.int .i64 s.steps),.d (.int .i64 0),.full []],s.hobj 3 4,.stk s.ec 4 (cesA s.cells),.grow s.eg 1,.stk (s.es + 1) 3 (frsA (s.stack.take s.top) ++ [.d (.int .i64 f),.d (.int .i64 0),.arr 6 0 c.vars.length 1]),.cells (iA (xs ++ List.replicate (c.vars.length - xs.length) 0))]))
   = some (.ret (.tuple []),(enterR s f c xs).H):=by
 have h:=absorb_eq (n:=6) (R:=rgI s.reg) (out:=.ret (.tuple []))
  (mid:=[.cells [.d s.m.sr,.d s.m.fr,.ptr 2 0,.stk 5 (s.es + 1) (s.top + 1),.d (.int .i64 s.kind),.d (.int .i64 s.code),.full [],.d (.int .i64 s.steps),.d (.int .i64 0),.full []],s.hobj 3 4,.stk s.ec 4 (cesA s.cells),.grow s.eg 1,.stk (s.es + 1) 3 (frsA (s.stack.take s.top) ++ [.d (.int .i64 f),.d (.int .i64 0),.arr 6 0 c.vars.length 1])])
  (news:=[.cells (iA (xs ++ List.replicate (c.vars.length - xs.length) 0))]) rfl ?_ ?_ ?_
 ·refine Eq.trans h ?_
  have e1:mvL 6 s.reg.length (frsA (s.stack.take s.top) ++ [AV.d (.int .i64 f),.d (.int .i64 0),.arr 6 0 c.vars.length 1]) = frsA (s.stack.take s.top ++ [⟨f,0,s.reg.length,c.vars.length⟩]):=by
   rw [mvL_map,List.map_append,← mvL_map,mv_flat (frs_refs _)]
   unfold frsA
   rw [flt_app]
   rfl
  have e2:mvL 6 s.reg.length (iA (xs ++ List.replicate (c.vars.length - xs.length) 0)) = iA (xs ++ List.replicate (c.vars.length - xs.length) 0):=mv_flat (iA_refs _)
  simp only [List.map_cons,List.map_nil,mvC,mvO,mvL,mvA,mvOut,rgI_len,e1,e2,mv_flat (ces_refs s.cells),enterR,Rm.H,Rm.hobj,Rm.robj,Nat.reduceLeDiff,if_false]
  rw [rgI_app]
 ·intro o ho
  simp only [List.mem_cons,List.not_mem_nil,or_false] at ho
  subst ho
  intro x hx; exact in_flat (iA_refs _) hx
 ·intro o ho
  simp only [List.mem_cons,List.not_mem_nil,or_false] at ho
  rcases ho with rfl | rfl | rfl | rfl | rfl
  ·intro x hx
   simp only [List.mem_cons,List.not_mem_nil,or_false] at hx
   rcases hx with rfl | rfl | rfl | rfl | rfl | rfl | rfl | rfl | rfl | rfl <;> simp [mvA,refs]
  ·intro x hx
   simp only [List.mem_cons,List.not_mem_nil,or_false] at hx
   rcases hx with rfl | rfl | rfl | rfl | rfl <;> simp [mvA,refs]
  ·intro x hx r hr; rw [in_flat (ces_refs _) hx] at hr; cases hr
  ·trivial
  ·intro x hx r hr
   rcases List.mem_append.1 hx with hx | hx
   ·rw [in_flat (frs_refs _) hx] at hr; cases hr
   ·simp only [List.mem_cons,List.not_mem_nil,or_false] at hx
    rcases hx with rfl | rfl | rfl <;> simp [mvA,refs] at hr
 ·simp [outC,mvA,mvL,refs,refsAL]
structure T5 (ext:Sem'):Prop extends TX ext where
 rnew:∀ (s:Rm) (n:Nat),n ≤ 1000→s.cells.length ≤ 100000→0 ≤ s.asked→ext 68 [.ptr 1 0,.d (.int .i64 n)] s.HH = some (.ret (.d (.int .i64 (newR s n).1)),(newR s n).2.HH)
 renter:∀ (s:Rm) (f:Int) (c:Cd1) (xs:List Int),0 ≤ f→s.m.funcs[f.toNat]? = some c→c.vars.length ≤ 1000→xs.length ≤ c.vars.length→s.top ≤ s.stack.length→s.top ≤ 100000→ext 18 [.ptr 1 0,.d (.int .i64 f),.d (.sl (xs.map rowI))] s.H = some (.ret (.tuple []),(enterR s f c xs).H)
def isAc (f:Nat):Bool:=decide (f = 18) || decide (f = 68)
noncomputable def extY:Sem':=fun f as0 H=>if isAc f = true then absorbX H.length (G extB f as0 H) else extB f as0 H
theorem extY_ok:Sound Tryz.prog extY:=by
 intro f as0 H out H' h
 unfold extY at h
 split at h
 ·rename_i hf
  exact absS_ok (G_ok extB_ok) isAc f as0 H out H' (by unfold absS; rw [if_pos hf]; exact h)
 ·exact extB_ok f as0 H out H' h
theorem extB_no2 (f:Nat) (h:isAc f = true) (xs:List AV) (H:List AObj):extB f xs H = none:=by
 unfold extB
 rw [if_neg,if_neg]
 ·rintro rfl; cases h
 ·rintro rfl; cases h
theorem extY_t5:T5 extY:=by
 have hB:=extB_t1.toTX
 refine ⟨⟨fun f xs H h=>?_⟩,fun s n k0 k1 k2=>?_,fun s f c xs k0 k1 k2 k3 k4 k5=>?_⟩
 ·unfold extY
  rw [if_neg]
  ·exact extB_t1.clear f xs H h
  ·unfold isAc
   simp only [Bool.or_eq_true,decide_eq_true_eq]
   rintro (rfl | rfl) <;> cases h
 ·unfold extY
  rw [if_pos (show isAc 68 = true from rfl),new_base hB (extB_no2 _ rfl) s n k0 k1 k2]
  show absorbX 4 _ = _
  cases hf:failsR s with
  | true=>
   rw [if_pos rfl,abs_new0]
   unfold newR
   rw [hf]
   rfl
  | false=>
   rw [if_neg (by decide)]
   exact abs_new s n hf
 ·unfold extY
  rw [if_pos (show isAc 18 = true from rfl),renter_base hB (extB_no2 _ rfl) s f c xs k0 k1 k2 k3 k4 k5]
  exact abs_renter s f c xs
end Go.Proofs.YtkflggjdlflndaaGreat
