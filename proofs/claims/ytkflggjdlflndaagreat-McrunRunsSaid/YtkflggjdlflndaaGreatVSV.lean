/- Both machines do the same: what is the same; Both machines do the same: instructions; Both machines do the same: calls, returns, a step; Both machines do the same: a step. Conditions: none. -/
import Derived.Test.YtkflggjdlflndaaGreatZFI
import Derived.Test.YtkflggjdlflndaaGreatVI
import Derived.Test.YtkflggjdlflndaaGreatVH
set_option linter.unusedSimpArgs false
set_option linter.unusedVariables false
namespace Go.Proofs.YtkflggjdlflndaaGreat
open Go Go.Ab
variable {ext:Sem'}
def vr (C:List Nat) (v:Vl) (x:Int):Prop:=(v.2 = none∧x = v.1) ∨ ∃ (b j:Nat),v.2 = some b∧C[j]? = some b∧x = ((j + 1:Nat):Int)
def lr (C:List Nat) (l:List Vl) (xs:List Int):Prop:=l.length = xs.length∧∀ (i:Nat) (v:Vl) (x:Int),l[i]? = some v→xs[i]? = some x→vr C v x
theorem vr.more {C D:List Nat} {v:Vl} {x:Int} (h:vr C v x):vr (C ++ D) v x:=by
 rcases h with h | ⟨b,j,h1,h2,h3⟩
 ·exact .inl h
 ·exact .inr ⟨b,j,h1,by rw [List.getElem?_append_left (List.getElem?_eq_some_iff.1 h2).1]; exact h2,h3⟩
theorem lr.more {C D:List Nat} {l:List Vl} {xs:List Int} (h:lr C l xs):lr (C ++ D) l xs:=⟨h.1,fun i v x h1 h2=>(h.2 i v x h1 h2).more⟩
theorem lr.at {C:List Nat} {l:List Vl} {xs:List Int} (h:lr C l xs) {i:Int} (h0:0 ≤ i) (h1:i < (l.length:Nat)):vr C (nthV l i) (nthI xs i):=by
 have hl:=h.1
 refine h.2 i.toNat _ _ ?_ ?_
 ·unfold nthV; rw [List.getElem?_eq_getElem (by omega)]; rfl
 ·unfold nthI; rw [List.getElem?_eq_getElem (by omega)]; rfl
theorem lr.set {C:List Nat} {l:List Vl} {xs:List Int} (h:lr C l xs) {v:Vl} {x:Int} (hv:vr C v x) (d:Nat):lr C (l.set d v) (xs.set d x):=by
 refine ⟨by rw [List.length_set,List.length_set]; exact h.1,fun i u y h1 h2=>?_⟩
 rw [List.getElem?_set] at h1 h2
 by_cases e:d = i
 ·rw [if_pos e] at h1 h2
  split at h1
  ·split at h2
   ·cases h1; cases h2; exact hv
   ·cases h2
  ·cases h1
 ·rw [if_neg e] at h1 h2
  exact h.2 i u y h1 h2
theorem lr.zeros {C:List Nat} (n:Nat):lr C (List.replicate n (0,none)) (List.replicate n 0):=by
 refine ⟨by simp,fun i v x h1 h2=>.inl ?_⟩
 have e1:=(List.mem_replicate.1 (List.mem_of_getElem? h1)).2
 have e2:=(List.mem_replicate.1 (List.mem_of_getElem? h2)).2
 subst e1 e2
 exact ⟨rfl,rfl⟩
theorem lr.app {C:List Nat} {a b:List Vl} {xs ys:List Int} (h:lr C a xs) (g:lr C b ys):lr C (a ++ b) (xs ++ ys):=by
 have hl:=h.1
 refine ⟨by rw [List.length_append,List.length_append,h.1,g.1],fun i v x h1 h2=>?_⟩
 rcases Nat.lt_or_ge i a.length with hi | hi
 ·rw [List.getElem?_append_left hi] at h1
  rw [List.getElem?_append_left (by omega)] at h2
  exact h.2 i v x h1 h2
 ·rw [List.getElem?_append_right hi] at h1
  rw [List.getElem?_append_right (by omega),← hl] at h2
  exact g.2 _ v x h1 h2
theorem lr.map {C:List Nat} {l:List Vl} {xs:List Int} (h:lr C l xs):∀ {as_:List Int},(∀ a,a ∈ as_→0 ≤ a∧a < (l.length:Int))→lr C (as_.map (nthV l)) (as_.map (nthI xs))
 | as_,ha=>by
  refine ⟨by simp,fun i v x h1 h2=>?_⟩
  rw [List.getElem?_map] at h1 h2
  cases hi:as_[i]? with
  | none=>rw [hi] at h1; cases h1
  | some a=>
   rw [hi] at h1 h2
   cases h1; cases h2
   obtain ⟨a0,a1⟩:=ha a (List.mem_of_getElem? hi)
   exact h.at a0 a1
inductive Ch (m:Md1) (R:List Blk):Option Nat→List RFr→Prop
 | nil:Ch m R none []
 | cons {k:Nat} {c:Cd1} {vn:Nat} {up:Option Nat} {tv:Int} {x:RFr} {l:List RFr} (h:R[k]? = some (.fr c x.pc (k + 1) x.n up tv)) (hk:k = 2 * x.k) (hf:0 ≤ x.f∧m.funcs[x.f.toNat]? = some c) (hbot:up = none→c.ret.t.ptr = false)
   (hup:∀ u,up = some u→u < k∧∃ (c2:Cd1) (pc2:Int) (vk2 vn2:Nat) (up2:Option Nat) (tv2:Int) (i2:In1),R[u]? = some (.fr c2 pc2 vk2 vn2 up2 tv2)∧1 ≤ pc2∧c2.ins[(pc2 - 1).toNat]? = some i2∧i2.d = tv) (t:Ch m R up l):Ch m R (some k) (x :: l)
def KeepF (R R':List Blk) (b:Nat):Prop:=∀ (j:Nat) (c:Cd1) (pc:Int) (vk vn:Nat) (up:Option Nat) (tv:Int),j < b→R[j]? = some (.fr c pc vk vn up tv)→R'[j]? = some (.fr c pc vk vn up tv)
theorem Ch.mv {m:Md1} {R R':List Blk} {b:Nat} {o:Option Nat} {l:List RFr} (h:Ch m R o l) (hm:KeepF R R' b) (ho:∀ k,o = some k→k < b):Ch m R' o l:=by
 induction h with
 | nil=>exact .nil
 | @cons k c vn up tv x l h hk hf hbot hup t ih=>
  have hkb:=ho _ rfl
  refine .cons (vn:=vn) (hm _ _ _ _ _ _ _ hkb h) hk hf hbot (fun u hu=>?_) (ih fun u hu=>?_)
  ·obtain ⟨k1,c2,pc2,vk2,vn2,up2,tv2,i2,k2,k3⟩:=hup u hu
   exact ⟨k1,c2,pc2,vk2,vn2,up2,tv2,i2,hm _ _ _ _ _ _ _ (by omega) k2,k3⟩
  ·have:=(hup u hu).1; omega
structure Sim (s:Mc) (r:Rm):Prop where
 m:r.m = s.m
 inp:r.inp = s.inp
 fails:r.fails = s.fails
 asked:r.asked = s.asked
 out:r.out = s.out
 kind:r.kind = s.kind
 code:r.code = s.code
 steps:r.steps = s.steps
 len:s.reg.length = 2 * r.reg.length
 vs:∀ (q:Nat) (xs:List Int),r.reg[q]? = some xs→∃ l,s.reg[2 * q + 1]? = some (.vs l)∧lr s.cells l xs
 cl:s.cells.length = r.cells.length
 ce:∀ (j:Nat) (c:RCe),r.cells[j]? = some c→s.cells[j]? = some (2 * c.k)∧c.k < r.reg.length∧s.reg[2 * c.k]? = some (.ce c.al (2 * c.k + 1) c.n)∧∃ fl,r.reg[c.k]? = some fl∧fl.length = c.n
 inj:∀ (i j:Nat) (c d:RCe),r.cells[i]? = some c→r.cells[j]? = some d→c.k = d.k→i = j
 top:r.top ≤ r.stack.length
 ch:Ch s.m s.reg s.top (r.stack.take r.top).reverse
theorem keep_set_vs {R:List Blk} {j:Nat} {l l':List Vl} (h:R[j]? = some (.vs l)) (b:Nat):KeepF R (R.set j (.vs l')) b:=fun k c pc vk vn up tv _ h1=>set_ne h1 (fun e=>by subst e; rw [h] at h1; cases h1)
theorem keep_set_ce {R:List Blk} {j:Nat} {al:Bool} {fk fn:Nat} (h:R[j]? = some (.ce al fk fn)) (al':Bool) (b:Nat):KeepF R (R.set j (.ce al' fk fn)) b:=fun k c pc vk vn up tv _ h1=>set_ne h1 (fun e=>by subst e; rw [h] at h1; cases h1)
theorem keep_app (R X:List Blk) (b:Nat):KeepF R (R ++ X) b:=fun _ _ _ _ _ _ _ _ h=>app_lt h X
theorem Ch.all {m:Md1} {R R':List Blk} {o:Option Nat} {l:List RFr} (h:Ch m R o l) (hm:∀ b,KeepF R R' b):Ch m R' o l:=by
 cases o with
 | none=>cases h; exact .nil
 | some k=>exact h.mv (hm (k + 1)) (fun q hq=>by cases hq; omega)
theorem Sim.put {s:Mc} {r:Rm} (g:Sim s r) {q:Nat} {l:List Vl} {xs:List Int} (h1:s.reg[2 * q + 1]? = some (.vs l)) (h2:r.reg[q]? = some xs) (d:Int) {v:Vl} {x:Int} (hv:vr s.cells v x):Sim (s.put (2 * q + 1) l d v) (r.put q xs d x):=by
 have hlr:lr s.cells l xs:=by
  obtain ⟨l',e1,e2⟩:=g.vs q xs h2
  rw [h1] at e1; cases e1; exact e2
 refine ⟨g.m,g.inp,g.fails,g.asked,g.out,g.kind,g.code,g.steps,?_,fun q' ys hq=>?_,g.cl,fun j c hj=>?_,g.inj,g.top,g.ch.all (keep_set_vs h1)⟩
 ·show (s.reg.set _ _).length = 2 * (r.reg.set _ _).length
  rw [List.length_set,List.length_set]; exact g.len
 ·change (r.reg.set q (xs.set d.toNat x))[q']? = some ys at hq
  show ∃ l_1,(s.reg.set (2 * q + 1) (.vs (l.set d.toNat v)))[2 * q' + 1]? = some (.vs l_1)∧lr s.cells l_1 ys
  by_cases e:q' = q
  ·subst e
   rw [List.getElem?_set_self (List.getElem?_eq_some_iff.1 h2).1] at hq
   cases hq
   exact ⟨_,set_at h1 _,hlr.set hv _⟩
  ·rw [List.getElem?_set_ne (Ne.symm e)] at hq
   obtain ⟨l',e1,e2⟩:=g.vs q' ys hq
   exact ⟨l',set_ne e1 (by omega),e2⟩
 ·obtain ⟨e1,e2,e3,fl,e4,e5⟩:=g.ce j c hj
  refine ⟨e1,by show c.k < (r.reg.set _ _).length; rw [List.length_set]; exact e2,set_ne e3 (by omega),?_⟩
  show ∃ fl,(r.reg.set q (xs.set d.toNat x))[c.k]? = some fl∧fl.length = c.n
  by_cases e:c.k = q
  ·rw [e,List.getElem?_set_self (List.getElem?_eq_some_iff.1 h2).1]
   rw [e,h2] at e4; cases e4
   exact ⟨_,rfl,by rw [List.length_set]; exact e5⟩
  ·rw [List.getElem?_set_ne (Ne.symm e)]; exact ⟨fl,e4,e5⟩
theorem take_rev {l:List RFr} {n:Nat} {x:RFr} (h:l[n]? = some x):(l.take (n + 1)).reverse = x :: (l.take n).reverse:=by
 rw [List.take_add_one,h]; simp
theorem Sim.at {s:Mc} {r:Rm} (g:Sim s r) {k:Nat} {c:Cd1} {pc:Int} {vn:Nat} {up:Option Nat} {tv:Int} {x:RFr} {n:Nat} (ht:s.top = some k) (hf:s.reg[k]? = some (.fr c pc (k + 1) vn up tv)) (hn:r.top = n + 1) (hx:r.stack[n]? = some x) (q:Int):Sim (s.at k c q (k + 1) vn up tv) (r.at n x q):=by
 have hc:=g.ch
 rw [ht,hn,take_rev hx] at hc
 refine ⟨g.m,g.inp,g.fails,g.asked,g.out,g.kind,g.code,by show IntKind.wrap .i64 (r.steps + 1) = IntKind.wrap .i64 (s.steps + 1); rw [g.steps],?_,fun q' ys hq=>?_,g.cl,fun j d hj=>?_,g.inj,by show r.top ≤ (r.stack.set _ _).length; rw [List.length_set]; exact g.top,?_⟩
 ·show (s.reg.set _ _).length = 2 * r.reg.length
  rw [List.length_set]; exact g.len
 ·obtain ⟨l',e1,e2⟩:=g.vs q' ys hq
  exact ⟨l',set_ne e1 (fun e=>by rw [e] at e1; rw [hf] at e1; cases e1),e2⟩
 ·obtain ⟨e1,e2,e3,e4⟩:=g.ce j d hj
  exact ⟨e1,e2,set_ne e3 (fun e=>by rw [e] at e3; rw [hf] at e3; cases e3),e4⟩
 ·show Ch s.m (s.reg.set k (.fr c q (k + 1) vn up tv)) s.top ((r.stack.set n { x with pc:=q }).take r.top).reverse
  have hlt:=(List.getElem?_eq_some_iff.1 hx).1
  rw [ht,hn,take_rev (set_get hx _),List.take_set_of_le (Nat.le_refl _)]
  cases hc with
  | cons h hk hfn hbot hup t=>
   rw [hf] at h
   cases h
   have km:KeepF s.reg (s.reg.set k (.fr c q (k + 1) x.n up tv)) k:=fun j c' pc' vk' vn' up' tv' hj h1=>set_ne h1 (by omega)
   refine .cons (vn:=x.n) (set_at hf _) hk hfn hbot (fun u hu=>?_) (t.mv km fun u hu=>(hup u hu).1)
   obtain ⟨k1,c2,pc2,vk2,vn2,up2,tv2,i2,k2,k3⟩:=hup u hu
   exact ⟨k1,c2,pc2,vk2,vn2,up2,tv2,i2,km _ _ _ _ _ _ _ k1 k2,k3⟩
theorem Sim.fresh {s:Mc} {r:Rm} (g:Sim s r) (nf:Nat):Sim (freshP s nf).2 (newR r nf).2∧vr (freshP s nf).2.cells (freshP s nf).1 (newR r nf).1:=by
 have hfl:failsR r = failsAt s:=by unfold failsR failsAt; rw [g.asked,g.fails]
 unfold freshP newR
 rw [hfl]
 cases failsAt s with
 | true=>
  simp only [if_true]
  exact ⟨⟨g.m,g.inp,g.fails,by show IntKind.wrap .i64 (r.asked + 1) = IntKind.wrap .i64 (s.asked + 1); rw [g.asked],g.out,g.kind,g.code,g.steps,g.len,g.vs,g.cl,g.ce,g.inj,g.top,g.ch⟩,.inl ⟨rfl,rfl⟩⟩
 | false=>
  simp only [Bool.false_eq_true,if_false]
  have hl:=g.len
  have hcl:=g.cl
  refine ⟨⟨g.m,g.inp,g.fails,by show IntKind.wrap .i64 (r.asked + 1) = IntKind.wrap .i64 (s.asked + 1); rw [g.asked],g.out,g.kind,g.code,g.steps,?_,fun q ys hq=>?_,?_,fun j c hj=>?_,fun i j c d hi hj e=>?_,g.top,g.ch.all (keep_app _ _)⟩,.inr ⟨s.reg.length,s.cells.length,rfl,?_,by rw [hcl]⟩⟩
  ·simp only [List.length_append,List.length_cons,List.length_nil]; omega
  ·simp only at hq ⊢
   rcases Nat.lt_or_ge q r.reg.length with h | h
   ·rw [List.getElem?_append_left h] at hq
    obtain ⟨l',e1,e2⟩:=g.vs q ys hq
    exact ⟨l',app_lt e1 _,e2.more⟩
   ·have:q = r.reg.length:=by
     have:=(List.getElem?_eq_some_iff.1 hq).1
     simp at this; omega
    subst this
    rw [List.getElem?_append_right (Nat.le_refl _)] at hq
    simp at hq
    subst hq
    refine ⟨List.replicate nf (0,none),?_,lr.zeros nf⟩
    rw [List.getElem?_append_right (by omega),show 2 * r.reg.length + 1 - s.reg.length = 1 by omega]
    rfl
  ·simp only [List.length_append,List.length_cons,List.length_nil]; omega
  ·simp only at hj ⊢
   rcases Nat.lt_or_ge j r.cells.length with h | h
   ·rw [List.getElem?_append_left h] at hj
    obtain ⟨e1,e2,e3,fl,e4,e5⟩:=g.ce j c hj
    exact ⟨by rw [List.getElem?_append_left (by omega)]; exact e1,by simp only [List.length_append]; omega,app_lt e3 _,fl,by rw [List.getElem?_append_left e2]; exact e4,e5⟩
   ·have:j = r.cells.length:=by
     have:=(List.getElem?_eq_some_iff.1 hj).1
     simp at this; omega
    subst this
    rw [List.getElem?_append_right (Nat.le_refl _)] at hj
    simp at hj
    subst hj
    refine ⟨?_,by simp,?_,List.replicate nf 0,?_,by simp⟩
    ·rw [List.getElem?_append_right (by omega),hcl,Nat.sub_self]; simp only; rw [hl]; rfl
    ·rw [List.getElem?_append_right (by simp only; omega)]; simp only; rw [hl,Nat.sub_self]; rfl
    ·simp
  ·simp only at hi hj
   have old:∀ {j:Nat} {c:RCe},(r.cells ++ [⟨true,r.reg.length,nf,0,0⟩])[j]? = some c→(r.cells[j]? = some c∧c.k < r.reg.length) ∨ (j = r.cells.length∧c.k = r.reg.length):=by
    intro j c hj
    rcases Nat.lt_or_ge j r.cells.length with h | h
    ·rw [List.getElem?_append_left h] at hj
     exact .inl ⟨hj,(g.ce j c hj).2.1⟩
    ·have:j = r.cells.length:=by
      have:=(List.getElem?_eq_some_iff.1 hj).1
      simp at this; omega
     subst this
     rw [List.getElem?_append_right (Nat.le_refl _)] at hj
     simp at hj
     subst hj
     exact .inr ⟨rfl,rfl⟩
   rcases old hi with ⟨a1,a2⟩ | ⟨a1,a2⟩ <;> rcases old hj with ⟨b1,b2⟩ | ⟨b1,b2⟩
   ·exact g.inj i j c d a1 b1 e
   ·omega
   ·omega
   ·omega
  ·rw [List.getElem?_append_right (Nat.le_refl _),Nat.sub_self]; rfl
end Go.Proofs.YtkflggjdlflndaaGreat
namespace Go.Proofs.YtkflggjdlflndaaGreat
open Go Go.Ab
variable {ext:Sem'}
theorem Sim.ptr {s:Mc} {r:Rm} (g:Sim s r) {v:Vl} {x:Int} (hv:vr s.cells v x) (h0:v.1 = 0):(v.2 = none∧x = 0∧liveR r x = none) ∨ ∃ (j:Nat) (c:RCe),v.2 = some (2 * c.k)∧x = ((j + 1:Nat):Int)∧r.cells[j]? = some c∧s.reg[2 * c.k]? = some (.ce c.al (2 * c.k + 1) c.n)∧liveR r x = (if c.al then some c else none):=by
 rcases hv with ⟨h1,h2⟩ | ⟨b,j,h1,h2,h3⟩
 ·refine .inl ⟨h1,by omega,?_⟩
  unfold liveR cellR
  rw [if_pos (by omega)]
 ·have hj:=(List.getElem?_eq_some_iff.1 h2).1
  have hcl:=g.cl
  have hc:r.cells[j]? = some (r.cells[j]'(by omega)):=List.getElem?_eq_getElem (by omega)
  generalize r.cells[j]'(by omega) = c at hc
  obtain ⟨e1,e2,e3,e4⟩:=g.ce j c hc
  rw [h2] at e1
  cases e1
  refine .inr ⟨j,c,h1,h3,hc,e3,?_⟩
  unfold liveR cellR
  rw [if_neg (by omega),if_neg (by omega),show (x - 1).toNat = j by omega,hc]
theorem Sim.kind4 {s:Mc} {r:Rm} (g:Sim s r) (q:Int):Sim { s with kind:=q } { r with kind:=q }:=⟨g.m,g.inp,g.fails,g.asked,g.out,rfl,g.code,g.steps,g.len,g.vs,g.cl,g.ce,g.inj,g.top,g.ch⟩
theorem Sim.free {s:Mc} {r:Rm} (g:Sim s r) {v:Vl} {x:Int} (hv:vr s.cells v x) (h0:v.1 = 0):(freeP s.reg v.2).1 = (freeR r x).1∧Sim { s with reg:=(freeP s.reg v.2).2 } (freeR r x).2:=by
 rcases g.ptr hv h0 with ⟨h1,h2,h3⟩ | ⟨j,c,h1,h2,h3,h4,h5⟩
 ·rw [h1]
  unfold freeR
  rw [h3,h2]
  exact ⟨rfl,g⟩
 ·rw [h1]
  unfold freeR
  rw [h5]
  simp only [freeP,h4]
  cases hal:c.al with
  | false=>
   rw [hal] at h4
   simp only [Bool.false_eq_true,if_false]
   exact ⟨(decide_eq_false (by omega)).symm,g⟩
  | true=>
   rw [hal] at h4
   simp only [if_true]
   refine ⟨trivial,g.m,g.inp,g.fails,g.asked,g.out,g.kind,g.code,g.steps,?_,fun q ys hq=>?_,?_,fun i d hi=>?_,fun i i' d d' hi hi' e=>?_,g.top,g.ch.all (keep_set_ce h4 false)⟩
   ·show (s.reg.set _ _).length = _
    rw [List.length_set]; exact g.len
   ·obtain ⟨l',e1,e2⟩:=g.vs q ys hq
    exact ⟨l',set_ne e1 (by omega),e2⟩
   ·show s.cells.length = (r.cells.set _ _).length
    rw [List.length_set]; exact g.cl
   ·have hx:(x - 1).toNat = j:=by omega
    change (r.cells.set (x - 1).toNat { c with al:=false })[i]? = some d at hi
    rw [hx,List.getElem?_set] at hi
    by_cases e:j = i
    ·subst e
     rw [if_pos rfl] at hi
     split at hi
     ·cases hi
      obtain ⟨e1,e2,e3,e4⟩:=g.ce j c h3
      exact ⟨e1,e2,set_at h4 _,e4⟩
     ·cases hi
    ·rw [if_neg e] at hi
     obtain ⟨e1,e2,e3,e4⟩:=g.ce i d hi
     exact ⟨e1,e2,set_ne e3 (fun h=>e (g.inj j i c d h3 hi (by omega))),e4⟩
   ·have hx:(x - 1).toNat = j:=by omega
    have old:∀ {i:Nat} {d:RCe},(r.cells.set j { c with al:=false })[i]? = some d→∃ d0,r.cells[i]? = some d0∧d0.k = d.k:=by
     intro i d hi
     rw [List.getElem?_set] at hi
     by_cases e:j = i
     ·subst e
      rw [if_pos rfl] at hi
      split at hi
      ·cases hi; exact ⟨c,h3,rfl⟩
      ·cases hi
     ·rw [if_neg e] at hi; exact ⟨d,hi,rfl⟩
    change (r.cells.set (x - 1).toNat { c with al:=false })[i]? = some d at hi
    change (r.cells.set (x - 1).toNat { c with al:=false })[i']? = some d' at hi'
    rw [hx] at hi hi'
    obtain ⟨d0,a1,a2⟩:=old hi
    obtain ⟨d1,b1,b2⟩:=old hi'
    exact g.inj i i' d0 d1 a1 b1 (by omega)
theorem Sim.getP {s:Mc} {r:Rm} (g:Sim s r):Sim (getP s).2 (getR r).2∧(getP s).1 = (getR r).1∧(Go.Proofs.YtkflggjdlflndaaGreat.getP s).2.reg = s.reg∧(Go.Proofs.YtkflggjdlflndaaGreat.getP s).2.cells = s.cells:=by
 unfold Go.Proofs.YtkflggjdlflndaaGreat.getP getR
 rw [g.inp]
 cases hi:s.inp with
 | nil=>exact ⟨g,rfl,rfl,rfl⟩
 | cons b l=>exact ⟨⟨g.m,rfl,g.fails,g.asked,g.out,g.kind,g.code,g.steps,g.len,g.vs,g.cl,g.ce,g.inj,g.top,g.ch⟩,rfl,rfl,rfl⟩
structure Ux (s:Mc) (r:Rm) (T:Nat→Option (List UInt8)) (V:Nat→List Ty1) (c:Cd1) (k:Nat) (l:List Vl) (xs:List Int):Prop where
 w:Wf s T V
 g:Sim s r
 v:Vk s V c (2 * k + 1) l
 x:r.reg[k]? = some xs
 lr:lr s.cells l xs
theorem Ux.at {s:Mc} {r:Rm} {T:Nat→Option (List UInt8)} {V:Nat→List Ty1} {c:Cd1} {k:Nat} {l:List Vl} {xs:List Int} (u:Ux s r T V c k l xs) {i:Int} (hi:inV c i = true):vr s.cells (nthV l i) (nthI xs i):=by
 have h:=inV_iff.1 hi
 have:=u.v.len
 exact u.lr.at h.1 (by omega)
theorem Ux.num {s:Mc} {r:Rm} {T:Nat→Option (List UInt8)} {V:Nat→List Ty1} {c:Cd1} {k:Nat} {l:List Vl} {xs:List Int} (u:Ux s r T V c k l xs) {i:Int} (hi:inV c i = true) (hp:(varT c i).ptr = false):nthI xs i = (nthV l i).1:=by
 have hn:=(u.v.val u.w hi).2 hp
 rcases u.at hi with ⟨_,h⟩ | ⟨b,j,h,_⟩
 ·exact h
 ·rw [hn] at h; cases h
theorem Ux.ptr {s:Mc} {r:Rm} {T:Nat→Option (List UInt8)} {V:Nat→List Ty1} {c:Cd1} {k:Nat} {l:List Vl} {xs:List Int} (u:Ux s r T V c k l xs) {i:Int} (hi:inV c i = true) (hp:(varT c i).ptr = true):(nthV l i).1 = 0:=((u.v.val u.w hi).1 hp).1
theorem Ux.ix {s:Mc} {r:Rm} {T:Nat→Option (List UInt8)} {V:Nat→List Ty1} {c:Cd1} {k:Nat} {l:List Vl} {xs:List Int} (u:Ux s r T V c k l xs) {i:Int} (hi:inV c i = true):Ix r.reg k xs i (nthI xs i):=by
 have h:=inV_iff.1 hi
 have:=u.v.len
 have:=u.lr.1
 exact Ix.of u.x h.1 (by omega)
theorem plain_num {m:Md1} {c:Cd1} {i:In1} (h:plainP m c i = 0):(i.op = 4→(varT c i.a).ptr = false∧(varT c i.b).ptr = false)∧(i.op = 6→(varT c i.a).ptr = false)∧(i.op = 14→(varT c i.a).ptr = true):=by
 unfold plainP at h
 refine ⟨fun o=>?_,fun o=>?_,fun o=>?_⟩
 ·rw [if_neg (by omega),if_neg (by omega),if_pos o] at h
  exact ⟨nums_zero (signed_zero h) _ (by simp),nums_zero (signed_zero h) _ (by simp)⟩
 ·rw [if_neg (by omega),if_neg (by omega),if_neg (by omega),if_pos o] at h
  exact nums_zero h _ (by simp)
 ·rw [if_neg (by omega),if_neg (by omega),if_neg (by omega),if_neg (by omega),if_neg (by omega),if_neg (by omega),if_pos o] at h
  have:=unl_zero (by decide) (signed_zero h)
  simp only [Bool.and_eq_true] at this
  exact this.2
def plainM (s:Mc) (i:In1) (vk:Nat) (l:List Vl):Bool × Mc:=
 if (numbersP s i vk l).1 then heapM (numbersP s i vk l).2 i vk l else (false,(numbersP s i vk l).2)
theorem plain_sim {s:Mc} {r:Rm} {T:Nat→Option (List UInt8)} {V:Nat→List Ty1} {c:Cd1} {k:Nat} {l:List Vl} {xs:List Int} (u:Ux s r T V c k l xs) {i:In1} (hi:InsOk s.m c i) (ho:i.op ≤ 14) :
  (plainM s i (2 * k + 1) l).1 = (plainR r i k xs).1∧Sim (plainM s i (2 * k + 1) l).2 (plainR r i k xs).2:=by
 have hp:=hi.plain ho
 have hlo:=hi.lo
 have g:=u.g
 have hm:=g.m
 obtain ⟨p4,p6,p14⟩:=plain_num hp
 have hcases:i.op = 1 ∨ i.op = 2 ∨ (i.op = 3 ∨ i.op = 9) ∨ i.op = 4 ∨ i.op = 5 ∨ i.op = 6 ∨ (i.op = 7 ∨ i.op = 10) ∨ (i.op = 8 ∨ i.op = 11) ∨ i.op = 12 ∨ i.op = 13 ∨ i.op = 14:=by omega
 have hz:¬ (i.op = 1 ∨ i.op = 4 ∨ i.op = 5 ∨ i.op = 6 ∨ i.op = 14)→plainM s i (2 * k + 1) l = heapM s i (2 * k + 1) l:=fun h=>by
  have hz:numbersP s i (2 * k + 1) l = (true,s):=by
   unfold numbersP
   rw [if_neg (by omega),if_neg (by omega),if_neg (by omega),if_neg (by omega),if_neg (by omega)]
  unfold plainM
  rw [hz]
  simp only [if_true]
 have hy:(i.op = 1 ∨ i.op = 4 ∨ i.op = 5 ∨ i.op = 6 ∨ i.op = 14)→plainM s i (2 * k + 1) l = numbersP s i (2 * k + 1) l:=fun h=>by
  unfold plainM
  have hh:heapM (numbersP s i (2 * k + 1) l).2 i (2 * k + 1) l = (true,(numbersP s i (2 * k + 1) l).2):=by
   unfold heapM
   rw [if_neg (by omega),if_neg (by omega),if_neg (by omega),if_neg (by omega),if_neg (by omega),if_neg (by omega)]
  rw [hh]
  cases hb:(numbersP s i (2 * k + 1) l).1 with
  | true=>simp only [if_true]; rw [← hb]
  | false=>simp only [Bool.false_eq_true,if_false]; rw [← hb]
 unfold plainR
 rcases hcases with o | o | o | o | o | o | o | o | o | o | o
 ·rw [hy (by omega),if_pos o]
  unfold numbersP
  rw [if_pos o]
  exact ⟨rfl,g.put u.v.at_ u.x _ (.inl ⟨rfl,rfl⟩)⟩
 ·rw [hz (by omega),if_neg (by omega),if_pos o]
  unfold heapM
  rw [if_pos o]
  exact ⟨rfl,g.put u.v.at_ u.x _ (.inl ⟨rfl,rfl⟩)⟩
 ·rw [hz (by omega),if_neg (by omega),if_neg (by omega),if_pos o]
  unfold heapM
  rw [if_neg (by omega),if_pos o]
  have ha:=hi.vars.a (by rcases o with o | o <;> rw [o] <;> rfl)
  exact ⟨rfl,g.put u.v.at_ u.x _ (u.at ha)⟩
 ·have ha:=hi.vars.a (by rw [o]; rfl)
  have hb:=hi.vars.b (by rw [o]; rfl)
  obtain ⟨q1,q2⟩:=p4 o
  rw [hy (by omega),if_neg (by omega),if_neg (by omega),if_neg (by omega),if_pos o,u.num ha q1,u.num hb q2]
  unfold numbersP
  rw [if_neg (by omega),if_pos o]
  exact ⟨rfl,g.put u.v.at_ u.x _ (.inl ⟨rfl,rfl⟩)⟩
 ·rw [hy (by omega),if_neg (by omega),if_neg (by omega),if_neg (by omega),if_neg (by omega),if_pos o]
  unfold numbersP
  rw [if_neg (by omega),if_neg (by omega),if_pos o]
  obtain ⟨g1,g2,g3,g4⟩:=g.getP
  refine ⟨rfl,?_⟩
  have hxr:(getR r).2.reg[k]? = some xs:=by rw [getR_reg]; exact u.x
  exact g1.put (by rw [g3]; exact u.v.at_) hxr _ (.inl ⟨rfl,g2.symm⟩)
 ·have ha:=hi.vars.a (by rw [o]; rfl)
  rw [hy (by omega),if_neg (by omega),if_neg (by omega),if_neg (by omega),if_neg (by omega),if_neg (by omega),if_pos o,u.num ha (p6 o)]
  unfold numbersP
  rw [if_neg (by omega),if_neg (by omega),if_neg (by omega),if_pos o]
  exact ⟨rfl,g.m,g.inp,g.fails,g.asked,by show r.out ++ _ = s.out ++ _; rw [g.out],g.kind,g.code,g.steps,g.len,g.vs,g.cl,g.ce,g.inj,g.top,g.ch⟩
 ·have ha:=hi.vars.a (by rcases o with o | o <;> rw [o] <;> rfl)
  obtain ⟨q1,q2,q3,q4⟩:=plain7 hp o
  rw [hz (by omega),if_neg (by omega),if_neg (by omega),if_neg (by omega),if_neg (by omega),if_neg (by omega),if_neg (by omega),if_pos (by omega)]
  unfold heapM heapR
  rw [if_neg (by omega),if_neg (by omega),if_neg (by omega),if_neg (by omega),if_pos o]
  rcases g.ptr (u.at ha) (u.ptr ha q1) with ⟨h1,h2,h3⟩ | ⟨j,cc,h1,h2,h3,h4,h5⟩
  ·rw [h1,h3]
   exact ⟨rfl,g⟩
  ·obtain ⟨_,e2,_,fl,e4,e5⟩:=g.ce j cc h3
   obtain ⟨fv,f1,f2⟩:=g.vs cc.k fl e4
   rw [h1,h5]
   simp only [fieldOf,h4,f1]
   cases hal:cc.al with
   | false=>
    simp only [Bool.false_eq_true,if_false]
    exact ⟨trivial,g⟩
   | true=>
    have hck:=cell_ok u.w (u.v.val u.w ha) q1 q2 q3
    rw [h1] at hck
    obtain ⟨al,fk,fl',k1,k2,k3,k4⟩:=hck.1
    rw [h4] at k1
    simp only [Option.some.injEq,Blk.ce.injEq] at k1
    obtain ⟨_,rfl,_⟩:=k1
    rw [f1] at k2
    cases k2
    simp only [if_true,if_pos o,f1]
    have hfr:fldR r cc = fl:=by unfold fldR; rw [e4]; rfl
    rw [hfr]
    exact ⟨trivial,g.put u.v.at_ u.x _ (f2.at k3 k4)⟩
 ·have ha:=hi.vars.a (by rcases o with o | o <;> rw [o] <;> rfl)
  have hb:=hi.vars.b (by rcases o with o | o <;> rw [o] <;> rfl)
  obtain ⟨q1,q2,q3,q4⟩:=plain8 hp o
  rw [hz (by omega),if_neg (by omega),if_neg (by omega),if_neg (by omega),if_neg (by omega),if_neg (by omega),if_neg (by omega),if_pos (by omega)]
  unfold heapM heapR
  rw [if_neg (by omega),if_neg (by omega),if_neg (by omega),if_neg (by omega),if_neg (by omega),if_pos o]
  rcases g.ptr (u.at ha) (u.ptr ha q1) with ⟨h1,h2,h3⟩ | ⟨j,cc,h1,h2,h3,h4,h5⟩
  ·rw [h1,h3]
   exact ⟨rfl,g⟩
  ·obtain ⟨_,e2,_,fl,e4,e5⟩:=g.ce j cc h3
   obtain ⟨fv,f1,f2⟩:=g.vs cc.k fl e4
   rw [h1,h5]
   simp only [fieldOf,h4,f1]
   cases hal:cc.al with
   | false=>
    simp only [Bool.false_eq_true,if_false]
    exact ⟨trivial,g⟩
   | true=>
    simp only [if_true,f1]
    rw [if_neg (by omega)]
    have hfr:fldR r cc = fl:=by unfold fldR; rw [e4]; rfl
    rw [hfr]
    exact ⟨rfl,g.put f1 e4 _ (u.at hb)⟩
 ·obtain ⟨q1,q2,q3⟩:=plain12 hp o
  rw [hz (by omega),if_neg (by omega),if_neg (by omega),if_neg (by omega),if_neg (by omega),if_neg (by omega),if_neg (by omega),if_neg (by omega),if_pos o]
  unfold heapM
  rw [if_neg (by omega),if_neg (by omega),if_pos o,hm]
  obtain ⟨g1,g2⟩:=g.fresh (nFields s.m i.f)
  exact ⟨rfl,g1.put (fresh_at s _ _ u.v.at_) (newR_at r _ _ u.x) _ g2⟩
 ·have ha:=hi.vars.a (by rw [o]; rfl)
  rw [hz (by omega),if_neg (by omega),if_neg (by omega),if_neg (by omega),if_neg (by omega),if_neg (by omega),if_neg (by omega),if_neg (by omega),if_neg (by omega),if_pos o]
  unfold heapM
  rw [if_neg (by omega),if_neg (by omega),if_neg (by omega),if_pos o]
  exact g.free (u.at ha) (u.ptr ha (plain13 hp o))
 ·have ha:=hi.vars.a (by rw [o]; rfl)
  rw [hy (by omega),if_neg (by omega),if_neg (by omega),if_neg (by omega),if_neg (by omega),if_neg (by omega),if_neg (by omega),if_neg (by omega),if_neg (by omega),if_neg (by omega),if_pos o]
  unfold numbersP
  rw [if_neg (by omega),if_neg (by omega),if_neg (by omega),if_neg (by omega),if_pos o]
  have e:isNone (nthV l i.a).2 = decide (nthI xs i.a = 0):=by
   rcases g.ptr (u.at ha) (u.ptr ha (p14 o)) with ⟨h1,h2,_⟩ | ⟨j,cc,h1,h2,_⟩
   ·rw [h1,h2]; rfl
   ·rw [h1,decide_eq_false (by omega)]; rfl
  rw [e]
  exact ⟨rfl,g.put u.v.at_ u.x _ (.inl ⟨rfl,rfl⟩)⟩
end Go.Proofs.YtkflggjdlflndaaGreat
namespace Go.Proofs.YtkflggjdlflndaaGreat
open Go Go.Ab
variable {ext:Sem'}
theorem Sim.enter {s:Mc} {r:Rm} (g:Sim s r) {f:Int} {c:Cd1} {args:List Vl} {xs:List Int} {tv:Int} (f0:0 ≤ f) (hf:s.m.funcs[f.toNat]? = some c) (ha:lr s.cells args xs) (hbot:s.top = none→c.ret.t.ptr = false)
  (hup:∀ u,s.top = some u→u < s.reg.length∧∃ (c2:Cd1) (pc2:Int) (vk2 vn2:Nat) (up2:Option Nat) (tv2:Int) (i2:In1),s.reg[u]? = some (.fr c2 pc2 vk2 vn2 up2 tv2)∧1 ≤ pc2∧c2.ins[(pc2 - 1).toNat]? = some i2∧i2.d = tv):Sim (enterP s c args tv) (enterR r f c xs):=by
 have hl:=g.len
 have hal:=ha.1
 have htl:(r.stack.take r.top).length = r.top:=by rw [List.length_take]; have:=g.top; omega
 refine ⟨g.m,g.inp,g.fails,g.asked,g.out,g.kind,g.code,g.steps,?_,fun q ys hq=>?_,g.cl,fun j d hj=>?_,g.inj,?_,?_⟩
 ·show (s.reg ++ _).length = 2 * (r.reg ++ _).length
  simp only [List.length_append,List.length_cons,List.length_nil]; omega
 ·change (r.reg ++ [xs ++ List.replicate (c.vars.length - xs.length) 0])[q]? = some ys at hq
  show ∃ l,(s.reg ++ [.fr c 0 (s.reg.length + 1) c.vars.length s.top tv,.vs (args ++ List.replicate (c.vars.length - args.length) (0,none))])[2 * q + 1]? = some (.vs l)∧lr s.cells l ys
  rcases Nat.lt_or_ge q r.reg.length with h | h
  ·rw [List.getElem?_append_left h] at hq
   obtain ⟨l',e1,e2⟩:=g.vs q ys hq
   exact ⟨l',app_lt e1 _,e2⟩
  ·have:q = r.reg.length:=by
    have:=(List.getElem?_eq_some_iff.1 hq).1
    simp at this; omega
   subst this
   rw [List.getElem?_append_right (Nat.le_refl _)] at hq
   simp at hq
   subst hq
   refine ⟨args ++ List.replicate (c.vars.length - args.length) (0,none),?_,by rw [hal]; exact ha.app (lr.zeros _)⟩
   rw [List.getElem?_append_right (by omega),show 2 * r.reg.length + 1 - s.reg.length = 1 by omega]
   rfl
 ·obtain ⟨e1,e2,e3,fl,e4,e5⟩:=g.ce j d hj
  exact ⟨e1,by show d.k < (r.reg ++ _).length; rw [List.length_append]; omega,app_lt e3 _,fl,by show (r.reg ++ _)[d.k]? = some fl; rw [List.getElem?_append_left e2]; exact e4,e5⟩
 ·show r.top + 1 ≤ (r.stack.take r.top ++ [_]).length
  rw [List.length_append,htl]; exact Nat.le_refl _
 ·show Ch s.m (s.reg ++ [.fr c 0 (s.reg.length + 1) c.vars.length s.top tv,.vs (args ++ List.replicate (c.vars.length - args.length) (0,none))]) (some s.reg.length) ((r.stack.take r.top ++ [(⟨f,0,r.reg.length,c.vars.length⟩:RFr)]).take (r.top + 1)).reverse
  rw [List.take_of_length_le (by rw [List.length_append,htl]; exact Nat.le_refl _),List.reverse_append]
  refine .cons (c:=c) (vn:=c.vars.length) (tv:=tv) (x:=⟨f,0,r.reg.length,c.vars.length⟩) ?_ hl ⟨f0,hf⟩ hbot (fun u hu=>?_) (g.ch.all (keep_app _ _))
  ·rw [List.getElem?_append_right (Nat.le_refl _),Nat.sub_self]; rfl
  ·obtain ⟨k1,c2,pc2,vk2,vn2,up2,tv2,i2,k2,k3⟩:=hup u hu
   exact ⟨k1,c2,pc2,vk2,vn2,up2,tv2,i2,app_lt k2 _,k3⟩
theorem Sim.site {s:Mc} {r:Rm} (g:Sim s r) (k:Nat) (f pc:Int):Sim s (siteR r k f pc):=by
 unfold siteR
 cases hk:r.cells[k]? with
 | none=>exact g
 | some c=>
  have old:∀ {i:Nat} {d:RCe},(r.cells.set k { c with a:=f,b:=pc })[i]? = some d→∃ d0,r.cells[i]? = some d0∧d0.k = d.k∧d0.al = d.al∧d0.n = d.n:=by
   intro i d hi
   rw [List.getElem?_set] at hi
   by_cases e:k = i
   ·subst e
    rw [if_pos rfl] at hi
    split at hi
    ·cases hi; exact ⟨c,hk,rfl,rfl,rfl⟩
    ·cases hi
   ·rw [if_neg e] at hi; exact ⟨d,hi,rfl,rfl,rfl⟩
  refine ⟨g.m,g.inp,g.fails,g.asked,g.out,g.kind,g.code,g.steps,g.len,g.vs,?_,fun j d hj=>?_,fun i j d d' hi hj e=>?_,g.top,g.ch⟩
  ·show s.cells.length = (r.cells.set _ _).length
   rw [List.length_set]; exact g.cl
  ·obtain ⟨d0,a1,a2,a3,a4⟩:=old hj
   have:=g.ce j d0 a1
   rw [a2,a3,a4] at this
   exact this
  ·obtain ⟨d0,a1,a2,_⟩:=old hi
   obtain ⟨d1,b1,b2,_⟩:=old hj
   exact g.inj i j d0 d1 a1 b1 (by omega)
theorem plainR_cells (r:Rm) (i:In1) (k:Nat) (xs:List Int):(plainR r i k xs).2.cells.length = r.cells.length ∨ (plainR r i k xs).2.cells.length = r.cells.length + 1:=by
 unfold plainR
 split
 ·exact .inl rfl
 split
 ·exact .inl rfl
 split
 ·exact .inl rfl
 split
 ·exact .inl rfl
 split
 ·left; show (getR r).2.cells.length = _; unfold getR; split <;> rfl
 split
 ·exact .inl rfl
 split
 ·left
  unfold heapR
  split
  ·rfl
  ·split <;> rfl
 split
 ·show (newR r _).2.cells.length = _ ∨ (newR r _).2.cells.length = _
  unfold newR
  split
  ·exact .inl rfl
  ·right; simp
 split
 ·left
  unfold freeR
  split
  ·show (r.cells.set _ _).length = _
   rw [List.length_set]
  ·rfl
 split
 ·exact .inl rfl
 ·exact .inl rfl
theorem plainR_top (r:Rm) (i:In1) (k:Nat) (xs:List Int):(plainR r i k xs).2.top = r.top:=by
 unfold plainR
 split
 ·rfl
 split
 ·rfl
 split
 ·rfl
 split
 ·rfl
 split
 ·show (getR r).2.top = _; unfold getR; split <;> rfl
 split
 ·rfl
 split
 ·unfold heapR
  split
  ·rfl
  ·split <;> rfl
 split
 ·show (newR r _).2.top = _
  unfold newR
  split <;> rfl
 split
 ·unfold freeR
  split <;> rfl
 split
 ·rfl
 ·rfl
theorem plainR_kind (r:Rm) (i:In1) (k:Nat) (xs:List Int):(plainR r i k xs).2.kind = r.kind:=by
 unfold plainR
 split
 ·rfl
 split
 ·rfl
 split
 ·rfl
 split
 ·rfl
 split
 ·show (getR r).2.kind = _; unfold getR; split <;> rfl
 split
 ·rfl
 split
 ·unfold heapR
  split
  ·rfl
  ·split <;> rfl
 split
 ·show (newR r _).2.kind = _
  unfold newR
  split <;> rfl
 split
 ·unfold freeR
  split <;> rfl
 split
 ·rfl
 ·rfl
theorem site_top (r:Rm) (k:Nat) (f pc:Int):(siteR r k f pc).top = r.top:=by unfold siteR; split <;> rfl
end Go.Proofs.YtkflggjdlflndaaGreat
namespace Go.Proofs.YtkflggjdlflndaaGreat
open Go Go.Ab
variable {ext:Sem'}
theorem rev_parts {l rest:List RFr} {n:Nat} {y:RFr} (hn:n ≤ l.length) (h:(l.take n).reverse = y :: rest):n = rest.length + 1∧l[rest.length]? = some y∧(l.take rest.length).reverse = rest:=by
 have h1:l.take n = rest.reverse ++ [y]:=by
  have:=congrArg List.reverse h
  simpa using this
 have h2:n = rest.length + 1:=by
  have:=congrArg List.length h1
  simp at this
  omega
 have h3:l = rest.reverse ++ [y] ++ l.drop n:=by rw [← h1,List.take_append_drop]
 refine ⟨h2,?_,?_⟩
 ·rw [h3,List.append_assoc,List.getElem?_append_right (by simp)]
  simp
 ·rw [h3,List.append_assoc,List.take_append_of_le_length (by simp),List.take_of_length_le (by simp),List.reverse_reverse]
theorem Sim.k {s:Mc} {r:Rm} (g:Sim s r) {q:Int} (h:s.kind = q):Sim s { r with kind:=q }:=⟨g.m,g.inp,g.fails,g.asked,g.out,h.symm,g.code,g.steps,g.len,g.vs,g.cl,g.ce,g.inj,g.top,g.ch⟩
theorem branch_num {m:Md1} {c:Cd1} {i:In1} (h:instrP m c i = 0) (ho:i.op = 17):(varT c i.a).ptr = false:=by
 unfold instrP at h
 rw [if_neg (by omega)] at h
 split at h
 ·cases h
 ·rw [if_neg (by omega),if_neg (by omega)] at h
  try rw [if_pos ho] at h
  split at h
  ·cases h
  ·exact nums_zero h _ (by simp)
theorem plainM_step (s1:Mc) (i:In1) (vk:Nat) (l:List Vl):(if (numbersP s1 i vk l).1 then
      (if (heapM (numbersP s1 i vk l).2 i vk l).1 then (heapM (numbersP s1 i vk l).2 i vk l).2
       else { (heapM (numbersP s1 i vk l).2 i vk l).2 with kind:=2 })
     else { (numbersP s1 i vk l).2 with kind:=2 }) = if (plainM s1 i vk l).1 then (plainM s1 i vk l).2 else { (plainM s1 i vk l).2 with kind:=2 }:=by
 unfold plainM
 cases (numbersP s1 i vk l).1 with
 | true=>simp only [if_true]
 | false=>simp only [Bool.false_eq_true,if_false]
set_option maxHeartbeats 4000000 in
theorem step_sim (hx:T5 ext) {s:Mc} {r:Rm} {T:Nat→Option (List UInt8)} {V:Nat→List Ty1} (w:Wf s T V) (g:Sim s r) (hl:LightM s.m) (hk:s.kind = 4) {n:Int} (hc:Cnt s n) (hn:n ≤ 100000) (hd:r.top ≤ 50000) :
  ∃ (q:Int) (r':Rm),G ext 20 [.ptr 1 0] r.H = some (.ret (.d (.int .i64 q)),r'.H)∧Sim (stepM s) { r' with kind:=q }∧r'.top ≤ r.top + 1:=by
 obtain ⟨k,c,pc,vk,l,up,tv,i,x⟩:=cx_of w hk
 have e:=stepM_at x
 have hi:=ins_parts x.ins
 have hch:=g.ch
 rw [x.f.top] at hch
 generalize hL:(r.stack.take r.top).reverse = L at hch
 cases hch with
 | @cons _ c' vn up' tv' y rest h hky hf hbot hup t=>
 rw [x.f.fr] at h
 simp only [Option.some.injEq,Blk.fr.injEq] at h
 obtain ⟨rfl,rfl,rfl,hyn,rfl,rfl⟩:=h
 obtain ⟨htop,hfr,hrest⟩:=rev_parts g.top hL
 have hyl:y.k < r.reg.length:=by
  have h1:=(List.getElem?_eq_some_iff.1 x.f.fr).1
  have h2:=g.len
  omega
 have hxr:r.reg[y.k]? = some r.reg[y.k]:=List.getElem?_eq_getElem hyl
 generalize r.reg[y.k] = xs at hxr
 have hk1:k + 1 = 2 * y.k + 1:=by omega
 obtain ⟨l',el1,hlr⟩:=g.vs y.k xs hxr
 rw [← hk1,x.f.vs] at el1
 cases el1
 have hpc:IntKind.wrap .i64 (y.pc + 1) = y.pc + 1:=by
  have h1:=x.ok.pc1
  have h2:=(hl.vars c x.ok.code).2.1
  have h3:=x.ok.pc0
  exact wrap64 (by omega) (by omega)
 have F:FrR r rest.length y c i xs:=⟨htop,by omega,hfr,hf.1,by rw [g.m]; exact hf.2,x.f.pc0,x.f.ins,hxr,by rw [← hyn,hlr.1]⟩
 have hxl:=hlr.1
 have hlen:=x.len
 have hfr1:s.reg[k]? = some (.fr c y.pc (k + 1) l.length up tv):=x.f.fr
 have gat:=fun q=>g.at x.f.top hfr1 htop hfr q
 have hk4:r.kind = 4:=by rw [g.kind]; exact hk
 by_cases c16:i.op = 16
 ·rw [if_pos c16] at e
  rw [e]
  exact ⟨4,_,rstep_jump hx.toTX r F c16,(gat i.to).k hk,Nat.le_succ _⟩
 rw [if_neg c16] at e
 by_cases c17:i.op = 17
 ·rw [if_pos c17] at e
  rw [e]
  have ha:=hi.vars.a (by rw [c17]; rfl)
  have ha':=inV_iff.1 ha
  have hv:Vk s V c (k + 1) l:=⟨x.f.vs,x.ok.vars,x.len⟩
  have hnum:=(hv.val w ha).2 (branch_num x.ins c17)
  have hva:=hlr.at ha'.1 (by omega:i.a < (l.length:Nat))
  have hz:nthI xs i.a = (nthV l i.a).1:=by
   rcases hva with ⟨_,h⟩ | ⟨b,j,h,_⟩
   ·exact h
   ·rw [hnum] at h; cases h
  refine ⟨4,_,rstep_branch hx.toTX r F c17 ⟨ha'.1,by omega⟩,?_,Nat.le_succ _⟩
  rw [hz]
  exact (gat _).k hk
 rw [if_neg c17] at e
 have g1:=gat (IntKind.wrap .i64 (y.pc + 1))
 have hs1:(s.next k c y.pc (k + 1) l.length up tv).reg[k]? = some (.fr c (IntKind.wrap .i64 (y.pc + 1)) (k + 1) l.length up tv):=set_at x.f.fr _
 by_cases c15:i.op = 15
 ·rw [if_pos c15] at e
  obtain ⟨gg,f0,hg,hfew,hat,hret⟩:=call_parts (hi.call c15)
  rw [hg] at e
  simp only at e
  rw [e]
  have hargs:=hi.args c15
  have hab:∀ a,a ∈ i.args→0 ≤ a∧a < (l.length:Int):=fun a ha=>by have:=inV_iff.1 (hargs a ha); exact ⟨this.1,by omega⟩
  have C:CallR r i xs gg:=⟨f0,by rw [g.m]; exact hg,by have:=(hl.vars gg (List.mem_of_getElem? hg)).1; omega,hfew,fun a ha=>by have:=hab a ha; omega⟩
  refine ⟨4,_,rstep_call hx r F C c15,Sim.k (g1.enter f0 hg (hlr.map hab) (fun h=>?_) (fun u hu=>?_)) hk,?_⟩
  ·have h2:(s.next k c y.pc (k + 1) l.length up tv).top = some k:=x.f.top
   rw [show (s.at k c (IntKind.wrap .i64 (y.pc + 1)) (k + 1) l.length up tv).top = some k from h2] at h
   cases h
  ·have h2:(s.at k c (IntKind.wrap .i64 (y.pc + 1)) (k + 1) l.length up tv).top = some k:=x.f.top
   rw [h2] at hu
   cases hu
   refine ⟨(List.getElem?_eq_some_iff.1 hs1).1,c,_,k + 1,l.length,up,tv,i,hs1,?_,?_,rfl⟩
   ·rw [hpc]; have:=x.ok.pc0; omega
   ·rw [hpc,show y.pc + 1 - 1 = y.pc by omega]; exact x.f.ins
  ·show r.top + 1 ≤ _
   exact Nat.le_refl _
 rw [if_neg c15] at e
 by_cases c18:i.op = 18
 ·rw [if_pos c18] at e
  have ha:=hi.vars.a (by rw [c18]; rfl)
  have ha':=inV_iff.1 ha
  have hv:Vk s V c (k + 1) l:=⟨x.f.vs,x.ok.vars,x.len⟩
  have hva:=hlr.at ha'.1 (by omega:i.a < (l.length:Nat))
  have hrt:=hi.ret c18
  cases up with
  | none=>
   have hnum:=(hv.val w ha).2 (by rw [hrt]; exact hbot rfl)
   have hz:nthI xs i.a = (nthV l i.a).1:=by
    rcases hva with ⟨_,h⟩ | ⟨b,j,h,_⟩
    ·exact h
    ·rw [hnum] at h; cases h
   cases t
   have el:leaveP (s.next k c y.pc (k + 1) l.length none tv) (nthV l i.a) = { s.next k c y.pc (k + 1) l.length none tv with top:=none,kind:=1,code:=(nthV l i.a).1 }:=by
    unfold leaveP
    rw [show (s.next k c y.pc (k + 1) l.length none tv).top = some k from x.f.top]
    simp only
    rw [hs1]
   rw [el] at e
   rw [e]
   refine ⟨1,_,rstep_last hx.toTX r F c18 ⟨ha'.1,by omega⟩,?_,?_⟩
   ·rw [hz]
    exact ⟨g1.m,g1.inp,g1.fails,g1.asked,g1.out,rfl,rfl,g1.steps,g1.len,g1.vs,g1.cl,g1.ce,g1.inj,Nat.zero_le _,Ch.nil⟩
   ·show 0 ≤ _
    exact Nat.zero_le _
  | some u=>
   obtain ⟨huk,c2,pc2,vk2,vn2,up2,tv2,i2,hu2,hp2,hi2,hd2⟩:=hup u rfl
   have hok:=x.ok.below u rfl
   have hwc:=x.ch
   generalize hR:rest = rs at t
   cases t with
   | @cons _ c3 vn3 up3 tv3 y2 rest2 h3 hky2 hf2 hbot2 hup2 t2=>
   rw [hu2] at h3
   simp only [Option.some.injEq,Blk.fr.injEq] at h3
   obtain ⟨rfl,rfl,rfl,rfl,rfl,rfl⟩:=h3
   rw [hR] at hrest
   obtain ⟨hn2,hfr2,hrest2⟩:=rev_parts (l:=r.stack) (n:=rest.length) (by have:=g.top; omega) (by rw [hR]; exact hrest)
   obtain ⟨_,c4,pc4,vk4,vn4,up4,tv4,hu4,hin4,hret4⟩:=hok
   rw [hu2] at hu4
   simp only [Option.some.injEq,Blk.fr.injEq] at hu4
   obtain ⟨rfl,rfl,rfl,rfl,rfl,rfl⟩:=hu4
   have hin:=inV_iff.1 hin4
   cases hwc with
   | cons hfo hto=>
   have e3:=hfo.fr
   rw [hu2] at e3
   simp only [Option.some.injEq,Blk.fr.injEq] at e3
   obtain ⟨rfl,rfl,rfl,rfl,rfl,rfl⟩:=e3
   obtain ⟨l2,hl2,hn3⟩:=hfo.vs
   have hl2len:l2.length = c2.vars.length:=by
    have:=(w.heap.vs _ l2 hl2).1
    rw [hfo.vars,List.length_map] at this
    exact this
   have hyl2:y2.k < r.reg.length:=by omega
   have hxr2:r.reg[y2.k]? = some r.reg[y2.k]:=List.getElem?_eq_getElem hyl2
   generalize r.reg[y2.k] = xs2 at hxr2
   obtain ⟨l3,el3,hlr2⟩:=g.vs y2.k xs2 hxr2
   have hku:u + 1 = 2 * y2.k + 1:=by omega
   rw [← hku,hl2] at el3
   cases el3
   have hx2:=hlr2.1
   have P1:=hfo.pc1
   have P2:=(hl.vars c2 hfo.code).2.1
   have Lw:LowR r rest.length rest2.length y2 c2 i2 xs2:=⟨hn2,hfr2,hf2.1,by rw [g.m]; exact hf2.2,hp2,by omega,hi2,hxr2,by omega,by rw [hd2]; exact hin.1,by rw [hd2]; omega⟩
   have hl2':(s.next k c y.pc (k + 1) l.length (some u) tv).reg[u + 1]? = some (.vs l2):=set_ne hl2 (fun q=>by rw [q,x.f.fr] at hl2; cases hl2)
   have hu':(s.next k c y.pc (k + 1) l.length (some u) tv).reg[u]? = some (.fr c2 y2.pc (u + 1) y2.n up2 tv2):=set_ne hu2 (by omega)
   have el:leaveP (s.next k c y.pc (k + 1) l.length (some u) tv) (nthV l i.a) = Mc.put { s.next k c y.pc (k + 1) l.length (some u) tv with top:=some u } (2 * y2.k + 1) l2 i2.d (nthV l i.a):=by
    unfold leaveP
    rw [show (s.next k c y.pc (k + 1) l.length (some u) tv).top = some k from x.f.top]
    simp only
    rw [hs1]
    simp only
    rw [hu']
    simp only
    rw [hl2',hd2,hku]
   rw [el] at e
   rw [e]
   refine ⟨4,_,rstep_more hx.toTX r F Lw c18 ⟨ha'.1,by omega⟩,?_,?_⟩
   ·have g2:Sim { s.next k c y.pc (k + 1) l.length (some u) tv with top:=some u } { r.at rest.length y (IntKind.wrap .i64 (y.pc + 1)) with top:=rest.length }:=by
     refine ⟨g1.m,g1.inp,g1.fails,g1.asked,g1.out,g1.kind,g1.code,g1.steps,g1.len,g1.vs,g1.cl,g1.ce,g1.inj,?_,?_⟩
     ·have:=g1.top
      have h5:(r.at rest.length y (IntKind.wrap .i64 (y.pc + 1))).top = rest.length + 1:=htop
      show rest.length ≤ (r.at rest.length y (IntKind.wrap .i64 (y.pc + 1))).stack.length
      omega
     ·have hc1:=g1.ch
      rw [show (s.at k c (IntKind.wrap .i64 (y.pc + 1)) (k + 1) l.length (some u) tv).top = some k from x.f.top,show (r.at rest.length y (IntKind.wrap .i64 (y.pc + 1))).top = rest.length + 1 from htop,take_rev (show (r.at rest.length y (IntKind.wrap .i64 (y.pc + 1))).stack[rest.length]? = some { y with pc:=IntKind.wrap .i64 (y.pc + 1) } from set_get hfr _)] at hc1
      cases hc1 with
      | cons h6 _ _ _ _ t6=>
       rw [show (s.at k c (IntKind.wrap .i64 (y.pc + 1)) (k + 1) l.length (some u) tv).reg[k]? = _ from hs1] at h6
       simp only [Option.some.injEq,Blk.fr.injEq] at h6
       obtain ⟨rfl,_,_,_,rfl,rfl⟩:=h6
       exact t6
    have hl2s:({ s.next k c y.pc (k + 1) l.length (some u) tv with top:=some u }:Mc).reg[2 * y2.k + 1]? = some (.vs l2):=by rw [← hku]; exact hl2'
    exact Sim.k (g2.put hl2s hxr2 i2.d hva) hk
   ·show rest.length ≤ _
    omega
 rw [if_neg c18] at e
 have hlow:=hi.lo
 have hhi:=hi.hi
 have ho:i.op ≤ 14:=by omega
 have w1:Wf (s.next k c y.pc (k + 1) l.length up tv) T V:=wf_at w x (by rw [hpc]; have:=x.ok.pc0; omega) (by rw [hpc]; exact next_in x.f.pc0 x.f.ins x.last (by omega))
 have hv1:Vk (s.next k c y.pc (k + 1) l.length up tv) V c (2 * y.k + 1) l:=⟨by rw [← hk1]; exact set_ne x.f.vs (by omega),by rw [← hk1]; exact x.ok.vars,x.len⟩
 have u:Ux (s.next k c y.pc (k + 1) l.length up tv) (r.at rest.length y (IntKind.wrap .i64 (y.pc + 1))) T V c y.k l xs:=⟨w1,g1,hv1,hxr,hlr⟩
 have hi1:InsOk (s.next k c y.pc (k + 1) l.length up tv).m c i:=hi
 obtain ⟨b1,b2⟩:=plain_sim u hi1 ho
 have hp:=hi.plain ho
 have hcl:=g.cl
 have P:PlOk (r.at rest.length y (IntKind.wrap .i64 (y.pc + 1))) i y.k xs:=by
  refine ⟨fun h=>u.ix (hi.vars.d h),fun h=>u.ix (hi.vars.a h),fun h=>u.ix (hi.vars.b h),?_,?_,?_,fun h=>?_,fun h cc hcc=>?_⟩
  ·show r.cells.length ≤ _; have:=hc.ce1; omega
  ·show r.out.length ≤ _; rw [g.out]; have:=hc.ou1; omega
  ·show 0 ≤ r.asked; rw [g.asked]; exact hc.as0
  ·obtain ⟨q1,q2,_⟩:=plain12 hp h
   show 0 ≤ i.f∧i.f < (r.m.structs.length:Int)∧nFields r.m i.f ≤ 1000
   rw [g.m]
   exact ⟨q1,q2,fields_short hl _⟩
  ·have ha:=hi.vars.a (by rcases h with h | h | h | h <;> rw [h] <;> rfl)
   have hq:(varT c i.a).ptr = true∧0 ≤ i.f∧i.f < ((fieldTys s.m (varT c i.a).to).length:Nat):=by
    rcases h with h | h | h | h
    ·obtain ⟨q1,q2,q3,_⟩:=plain7 hp (.inl h); exact ⟨q1,q2,q3⟩
    ·obtain ⟨q1,q2,q3,_⟩:=plain7 hp (.inr h); exact ⟨q1,q2,q3⟩
    ·obtain ⟨q1,q2,q3,_⟩:=plain8 hp (.inl h); exact ⟨q1,q2,q3⟩
    ·obtain ⟨q1,q2,q3,_⟩:=plain8 hp (.inr h); exact ⟨q1,q2,q3⟩
   rcases g1.ptr (u.at ha) (u.ptr ha hq.1) with ⟨_,_,h3⟩ | ⟨j,c9,h1,h2,h3,h4,h5⟩
   ·rw [h3] at hcc; cases hcc
   ·rw [h5] at hcc
    split at hcc
    ·cases hcc
     obtain ⟨_,_,_,fl,e4,e5⟩:=g1.ce j cc h3
     have hck:=(cell_ok w1 (hv1.val w1 ha) hq.1 hq.2.1 hq.2.2).1
     rw [h1] at hck
     obtain ⟨al,fk,fl',k1,k2,k3,k4⟩:=hck
     have k5:=h4.symm.trans k1
     simp only [Option.some.injEq,Blk.ce.injEq] at k5
     exact ⟨fl,e4,e5,k3,by omega⟩
    ·cases hcc
 have hpl:=rplain_e hx _ i y.k xs P ⟨hlow,ho⟩
 rw [show xs.length = y.n by omega] at hpl
 have hst:=rstep_plain hx.toTX r F ⟨hlow,ho⟩ _ _ hpl (plainR_cells _ i y.k xs)
 have htp:=plainR_top (r.at rest.length y (IntKind.wrap .i64 (y.pc + 1))) i y.k xs
 have hkd:=plainR_kind (r.at rest.length y (IntKind.wrap .i64 (y.pc + 1))) i y.k xs
 rw [plainM_step,hk1] at e
 rw [e]
 rw [show (s.next k c y.pc (2 * y.k + 1) l.length up tv) = (s.next k c y.pc (k + 1) l.length up tv) by rw [hk1]] 
 rw [← b1] at hst
 generalize plainR (r.at rest.length y (IntKind.wrap .i64 (y.pc + 1))) i y.k xs = R at hst b1 b2 htp hkd
 obtain ⟨bR,r2⟩:=R
 generalize plainM (s.next k c y.pc (k + 1) l.length up tv) i (2 * y.k + 1) l = M at hst b1 b2 ⊢
 obtain ⟨bM,s2⟩:=M
 simp only at hst b1 b2 htp hkd ⊢
 have hs2:s2.kind = 4:=by rw [← b2.kind,hkd]; exact hk4
 cases bM with
 | true=>
  simp only [if_true] at hst ⊢
  exact ⟨4,_,hst,(b2.site _ _ _).k hs2,by rw [site_top,htp]; exact Nat.le_succ _⟩
 | false=>
  simp only [Bool.false_eq_true,if_false] at hst ⊢
  exact ⟨2,_,hst,b2.kind4 2,by rw [htp]; exact Nat.le_succ _⟩
end Go.Proofs.YtkflggjdlflndaaGreat
