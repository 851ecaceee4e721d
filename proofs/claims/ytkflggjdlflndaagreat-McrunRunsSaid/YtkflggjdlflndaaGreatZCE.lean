/- The machine goes right: types of what it holds; The machine goes right: each step; The machine goes right: numbers and pointers. Conditions: none. -/
import Derived.Test.YtkflggjdlflndaaGreatZ8B
set_option linter.unusedSimpArgs false
set_option linter.unusedVariables false
namespace Go.Proofs.YtkflggjdlflndaaGreat
open Go Go.Ab
def vOk (R:List Blk) (T:Nat→Option (List UInt8)) (t:Ty1) (v:Vl):Prop:=(t.ptr = true→v.1 = 0∧∀ k,v.2 = some k→isCe R[k]?∧T k = some t.to)∧(t.ptr = false→v.2 = none)
def vsOk (R:List Blk) (T:Nat→Option (List UInt8)) (ts:List Ty1) (l:List Vl):Prop:=l.length = ts.length∧∀ (i:Nat) (t:Ty1) (v:Vl),ts[i]? = some t→l[i]? = some v→vOk R T t v
def fieldTys (m:Md1) (name:List UInt8):List Ty1:=(structAt m name).fields.map (·.t)
structure Heap (m:Md1) (R:List Blk) (T:Nat→Option (List UInt8)) (V:Nat→List Ty1):Prop where
 vs:∀ (j:Nat) (l:List Vl),R[j]? = some (.vs l)→vsOk R T (V j) l
 ce:∀ (k:Nat) (al:Bool) (fk fn:Nat) (name:List UInt8),R[k]? = some (.ce al fk fn)→T k = some name→(∃ fl,R[fk]? = some (.vs fl)∧fl.length = fn)∧V fk = fieldTys m name
structure Mv (R R':List Blk) (b:Nat):Prop where
 fr:∀ (j:Nat) (c:Cd1) (pc:Int) (vk vn:Nat) (up:Option Nat) (tv:Int),j < b→R[j]? = some (.fr c pc vk vn up tv)→R'[j]? = some (.fr c pc vk vn up tv)
 vs:∀ (j:Nat) (l:List Vl),R[j]? = some (.vs l)→∃ l',R'[j]? = some (.vs l')∧l'.length = l.length
 ce:∀ (j:Nat) (al:Bool) (fk fn:Nat),R[j]? = some (.ce al fk fn)→∃ al',R'[j]? = some (.ce al' fk fn)
theorem Mv.trans {R R' R'':List Blk} {b:Nat} (h:Mv R R' b) (g:Mv R' R'' b):Mv R R'' b where
 fr j c pc vk vn up tv hj h1:=g.fr j c pc vk vn up tv hj (h.fr j c pc vk vn up tv hj h1)
 vs j l h1:=by
  obtain ⟨l',h2,h3⟩:=h.vs j l h1
  obtain ⟨l'',h4,h5⟩:=g.vs j l' h2
  exact ⟨l'',h4,h5.trans h3⟩
 ce j al fk fn h1:=by
  obtain ⟨al',h2⟩:=h.ce j al fk fn h1
  exact g.ce j al' fk fn h2
theorem Mv.low {R R':List Blk} {b c:Nat} (h:Mv R R' b) (hc:c ≤ b):Mv R R' c:=⟨fun j c' pc vk vn up tv hj=>h.fr j c' pc vk vn up tv (by omega),h.vs,h.ce⟩
theorem Mv.refl (R:List Blk) (b:Nat):Mv R R b:=⟨fun _ _ _ _ _ _ _ _ h=>h,fun j l h=>⟨l,h,rfl⟩,fun j al fk fn h=>⟨al,h⟩⟩
theorem set_cases {R:List Blk} {k j:Nat} {x y:Blk} (h:(R.set k x)[j]? = some y):(j = k∧y = x) ∨ (j ≠ k∧R[j]? = some y):=by
 by_cases e:j = k
 ·subst e
  rw [List.getElem?_set] at h
  simp only [if_true] at h
  split at h
  ·cases h; exact .inl ⟨rfl,rfl⟩
  ·cases h
 ·rw [List.getElem?_set_ne (Ne.symm e)] at h
  exact .inr ⟨e,h⟩
theorem set_ne {R:List Blk} {k j:Nat} {x y:Blk} (h:R[j]? = some y) (e:j ≠ k):(R.set k x)[j]? = some y:=by rw [List.getElem?_set_ne (Ne.symm e)]; exact h
theorem mv_vs {R:List Blk} {j:Nat} {l l':List Vl} (h:R[j]? = some (.vs l)) (hl:l'.length = l.length) (b:Nat):Mv R (R.set j (.vs l')) b where
 fr k c pc vk vn up tv _ h1:=set_ne h1 (fun e=>by subst e; rw [h] at h1; cases h1)
 vs k q h1:=by
  by_cases e:k = j
  ·subst e
   rw [h] at h1
   cases h1
   exact ⟨l',set_at h _,hl⟩
  ·exact ⟨q,set_ne h1 e,rfl⟩
 ce k al fk fn h1:=⟨al,set_ne h1 (fun e=>by subst e; rw [h] at h1; cases h1)⟩
theorem mv_fr {R:List Blk} {k:Nat} {c:Cd1} {pc:Int} {vk vn:Nat} {up:Option Nat} {tv:Int} (h:R[k]? = some (.fr c pc vk vn up tv)) (q:Int):Mv R (R.set k (.fr c q vk vn up tv)) k where
 fr j c pc vk vn up tv hj h1:=set_ne h1 (by omega)
 vs j l h1:=⟨l,set_ne h1 (fun e=>by subst e; rw [h] at h1; cases h1),rfl⟩
 ce j al fk fn h1:=⟨al,set_ne h1 (fun e=>by subst e; rw [h] at h1; cases h1)⟩
theorem mv_ce {R:List Blk} {k:Nat} {al:Bool} {fk fn:Nat} (h:R[k]? = some (.ce al fk fn)) (al':Bool) (b:Nat):Mv R (R.set k (.ce al' fk fn)) b where
 fr j c pc vk vn up tv _ h1:=set_ne h1 (fun e=>by subst e; rw [h] at h1; cases h1)
 vs j l h1:=⟨l,set_ne h1 (fun e=>by subst e; rw [h] at h1; cases h1),rfl⟩
 ce j a f n h1:=by
  by_cases e:j = k
  ·subst e
   rw [h] at h1
   cases h1
   exact ⟨al',set_at h _⟩
  ·exact ⟨a,set_ne h1 e⟩
theorem app_lt {R:List Blk} {j:Nat} {x:Blk} (h:R[j]? = some x) (X:List Blk):(R ++ X)[j]? = some x:=by rw [List.getElem?_append_left (List.getElem?_eq_some_iff.1 h).1]; exact h
theorem mv_app (R X:List Blk) (b:Nat):Mv R (R ++ X) b:=⟨fun _ _ _ _ _ _ _ _ h=>app_lt h X,fun j l h=>⟨l,app_lt h X,rfl⟩,fun j al fk fn h=>⟨al,app_lt h X⟩⟩
theorem Mv.isCe {R R':List Blk} {b k:Nat} (h:Mv R R' b) (hk:isCe R[k]?):isCe R'[k]?:=by
 cases hb:R[k]? with
 | none=>rw [hb] at hk; exact hk.elim
 | some x=>
  rw [hb] at hk
  cases x with
  | ce al fk fn=>
   obtain ⟨al',h2⟩:=h.ce k al fk fn hb
   rw [h2]; trivial
  | _=>exact hk.elim
theorem vOk.mv {R R':List Blk} {b:Nat} {T T':Nat→Option (List UInt8)} {t:Ty1} {v:Vl} (h:vOk R T t v) (hm:Mv R R' b) (hT:∀ k,isCe R[k]?→T' k = T k):vOk R' T' t v:=⟨fun hp=>⟨(h.1 hp).1,fun k hk=>by
 obtain ⟨h1,h2⟩:=(h.1 hp).2 k hk
 exact ⟨hm.isCe h1,(hT k h1).trans h2⟩⟩,h.2⟩
theorem vsOk.mv {R R':List Blk} {b:Nat} {T T':Nat→Option (List UInt8)} {ts:List Ty1} {l:List Vl} (h:vsOk R T ts l) (hm:Mv R R' b) (hT:∀ k,isCe R[k]?→T' k = T k):vsOk R' T' ts l:=⟨h.1,fun i t v h1 h2=>(h.2 i t v h1 h2).mv hm hT⟩
theorem Heap.put {m:Md1} {R:List Blk} {T:Nat→Option (List UInt8)} {V:Nat→List Ty1} (h:Heap m R T V) {vk:Nat} {l:List Vl} (hv:R[vk]? = some (.vs l)) {d:Nat} {t:Ty1} (ht:(V vk)[d]? = some t) {v:Vl} (hok:vOk R T t v):Heap m (R.set vk (.vs (l.set d v))) T V:=by
 have hm:=mv_vs hv (l':=l.set d v) (by simp) 0
 refine ⟨fun j q hj=>?_,fun k al fk fn nm hk hn=>?_⟩
 ·rcases set_cases hj with ⟨rfl,e⟩ | ⟨hne,hj⟩
  ·cases e
   have h0:=h.vs j l hv
   refine ⟨by rw [List.length_set]; exact h0.1,fun i t' v' h1 h2=>?_⟩
   rw [List.getElem?_set] at h2
   split at h2
   ·rename_i e
    subst e
    split at h2
    ·cases h2
     rw [ht] at h1
     cases h1
     exact hok.mv hm (fun _ _=>rfl)
    ·cases h2
   ·exact (h0.2 i t' v' h1 h2).mv hm (fun _ _=>rfl)
  ·exact (h.vs j q hj).mv hm (fun _ _=>rfl)
 ·rcases set_cases hk with ⟨rfl,e⟩ | ⟨hne,hk⟩
  ·cases e
  ·obtain ⟨⟨fl,h1,h2⟩,h3⟩:=h.ce k al fk fn nm hk hn
   obtain ⟨fl',h4,h5⟩:=hm.vs fk fl h1
   exact ⟨⟨fl',h4,h5.trans h2⟩,h3⟩
theorem Heap.fr {m:Md1} {R:List Blk} {T:Nat→Option (List UInt8)} {V:Nat→List Ty1} (h:Heap m R T V) {k:Nat} {c:Cd1} {pc:Int} {vk vn:Nat} {up:Option Nat} {tv:Int} (hk:R[k]? = some (.fr c pc vk vn up tv)) (q:Int):Heap m (R.set k (.fr c q vk vn up tv)) T V:=by
 have hm:=mv_fr hk q
 refine ⟨fun j l hj=>?_,fun j al fk fn nm hj hn=>?_⟩
 ·rcases set_cases hj with ⟨rfl,e⟩ | ⟨hne,hj⟩
  ·cases e
  ·exact (h.vs j l hj).mv hm (fun _ _=>rfl)
 ·rcases set_cases hj with ⟨rfl,e⟩ | ⟨hne,hj⟩
  ·cases e
  ·obtain ⟨⟨fl,h1,h2⟩,h3⟩:=h.ce j al fk fn nm hj hn
   obtain ⟨fl',h4,h5⟩:=hm.vs fk fl h1
   exact ⟨⟨fl',h4,h5.trans h2⟩,h3⟩
theorem Heap.free {m:Md1} {R:List Blk} {T:Nat→Option (List UInt8)} {V:Nat→List Ty1} (h:Heap m R T V) {k:Nat} {al:Bool} {fk fn:Nat} (hk:R[k]? = some (.ce al fk fn)) (al':Bool):Heap m (R.set k (.ce al' fk fn)) T V:=by
 have hm:=mv_ce hk al' 0
 refine ⟨fun j l hj=>?_,fun j a f n nm hj hn=>?_⟩
 ·rcases set_cases hj with ⟨rfl,e⟩ | ⟨hne,hj⟩
  ·cases e
  ·exact (h.vs j l hj).mv hm (fun _ _=>rfl)
 ·have hold:∃ a0,R[j]? = some (.ce a0 f n):=by
   rcases set_cases hj with ⟨rfl,e⟩ | ⟨hne,hj⟩
   ·cases e; exact ⟨al,hk⟩
   ·exact ⟨a,hj⟩
  obtain ⟨a0,hj0⟩:=hold
  obtain ⟨⟨fl,h1,h2⟩,h3⟩:=h.ce j a0 f n nm hj0 hn
  obtain ⟨fl',h4,h5⟩:=hm.vs f fl h1
  exact ⟨⟨fl',h4,h5.trans h2⟩,h3⟩
structure FrOk (m:Md1) (R:List Blk) (V:Nat→List Ty1) (k:Nat) (c:Cd1) (pc:Int) (vk vn:Nat) (up:Option Nat) (tv:Int):Prop where
 fr:R[k]? = some (.fr c pc vk vn up tv)
 vs:∃ l,R[vk]? = some (.vs l)∧l.length = vn
 code:c ∈ m.funcs
 pc0:0 ≤ pc
 pc1:pc < (c.ins.length:Nat)
 vars:V vk = c.vars.map (·.t)
 below:∀ u,up = some u→u < k∧∃ (c2:Cd1) (pc2:Int) (vk2 vn2:Nat) (up2:Option Nat) (tv2:Int),R[u]? = some (.fr c2 pc2 vk2 vn2 up2 tv2)∧inV c2 tv = true∧varT c2 tv = c.ret.t
inductive Chain (m:Md1) (R:List Blk) (V:Nat→List Ty1):Option Nat→Prop
 | nil:Chain m R V none
 | cons {k:Nat} {c:Cd1} {pc:Int} {vk vn:Nat} {up:Option Nat} {tv:Int} (h:FrOk m R V k c pc vk vn up tv) (t:Chain m R V up):Chain m R V (some k)
theorem FrOk.mv {m:Md1} {R R':List Blk} {V V':Nat→List Ty1} {k b:Nat} {c:Cd1} {pc:Int} {vk vn:Nat} {up:Option Nat} {tv:Int} (h:FrOk m R V k c pc vk vn up tv) (hm:Mv R R' b) (hk:k < b) (hV:∀ j l,R[j]? = some (.vs l)→V' j = V j):FrOk m R' V' k c pc vk vn up tv:=by
 obtain ⟨l,h1,h2⟩:=h.vs
 refine ⟨hm.fr k _ _ _ _ _ _ hk h.fr,?_,h.code,h.pc0,h.pc1,(hV vk l h1).trans h.vars,fun u hu=>?_⟩
 ·obtain ⟨l',h3,h4⟩:=hm.vs vk l h1
  exact ⟨l',h3,h4.trans h2⟩
 ·obtain ⟨k1,c2,pc2,vk2,vn2,up2,tv2,k2,k3,k4⟩:=h.below u hu
  exact ⟨k1,c2,pc2,vk2,vn2,up2,tv2,hm.fr u _ _ _ _ _ _ (by omega) k2,k3,k4⟩
theorem Chain.mv {m:Md1} {R R':List Blk} {V V':Nat→List Ty1} {b:Nat} {o:Option Nat} (h:Chain m R V o) (hm:Mv R R' b) (ho:∀ k,o = some k→k < b) (hV:∀ j l,R[j]? = some (.vs l)→V' j = V j):Chain m R' V' o:=by
 induction h with
 | nil=>exact .nil
 | cons h t ih=>
  have hk:=ho _ rfl
  refine .cons (h.mv hm hk hV) (ih fun u hu=>?_)
  have:=(h.below u hu).1
  omega
structure Wf (s:Mc) (T:Nat→Option (List UInt8)) (V:Nat→List Ty1):Prop where
 right:rightP s.m = 0
 heap:Heap s.m s.reg T V
 chain:Chain s.m s.reg V s.top
 cells:∀ k,k ∈ s.cells→isCe s.reg[k]?
 go:s.kind = 4→s.top ≠ none
structure Cnt (s:Mc) (n:Int):Prop where
 as0:0 ≤ s.asked
 as1:s.asked ≤ n
 ce1:(s.cells.length:Int) ≤ n
 ou1:(s.out.length:Int) ≤ n
end Go.Proofs.YtkflggjdlflndaaGreat
namespace Go.Proofs.YtkflggjdlflndaaGreat
open Go Go.Ab
theorem unl_zero {b:Bool} {f:Int} (hf:f ≠ 0) (h:unlessP b f = 0):b = true:=by
 unfold unlessP at h
 split at h
 ·assumption
 ·contradiction
theorem first_zero {α:Type} {f:α→Int}:∀ {l:List α},firstP f l = 0→∀ x,x ∈ l→f x = 0
 | [],_,x,hx=>by cases hx
 | y :: l,h,x,hx=>by
  simp only [firstP] at h
  split at h
  ·rename_i h0
   rcases List.mem_cons.1 hx with rfl | hx
   ·exact h0
   ·exact first_zero h x hx
  ·contradiction
structure RightM (m:Md1):Prop where
 once:twiceP m = false
 known:(typesL m).all (knownP m) = true
 code:∀ c,c ∈ m.funcs→codeP m c = 0
 main:mainP m = 0
theorem right_parts {m:Md1} (h:rightP m = 0):RightM m:=by
 unfold rightP at h
 split at h
 ·cases h
 ·split at h
  ·cases h
  ·rename_i h2
   split at h
   ·cases h
   ·rename_i h3
    split at h
    ·rename_i h4
     exact ⟨by simpa using h2,by simpa using h3,first_zero h4,h⟩
    ·contradiction
theorem code_parts {m:Md1} {c:Cd1} (h:codeP m c = 0):c.vars.length ≤ 300∧1 ≤ c.ins.length∧0 ≤ c.params∧c.params ≤ c.vars.length∧(∀ i,i ∈ c.ins→instrP m c i = 0)∧16 ≤ lastOp c:=by
 unfold codeP at h
 split at h
 ·cases h
 ·split at h
  ·cases h
  ·split at h
   ·rename_i h1 h2 h3
    have:=unl_zero (by decide) h
    exact ⟨by omega,by omega,by omega,by omega,first_zero h3,by simpa using this⟩
   ·contradiction
theorem next_in {c:Cd1} {pc:Int} {i:In1} (h0:0 ≤ pc) (hi:c.ins[pc.toNat]? = some i) (hl:16 ≤ lastOp c) (ho:i.op < 16):pc + 1 < (c.ins.length:Nat):=by
 have hlt:=(List.getElem?_eq_some_iff.1 hi).1
 rcases Nat.lt_or_ge (pc.toNat + 1) c.ins.length with h | h
 ·omega
 ·have e:c.ins.length - 1 = pc.toNat:=by omega
  unfold lastOp at hl
  rw [e,hi] at hl
  simp at hl
  omega
theorem tys_at {c:Cd1} {x:Int} (h:inV c x = true):(c.vars.map (·.t))[x.toNat]? = some (varT c x):=by
 have h':=inV_iff.1 h
 rw [List.getElem?_map]
 unfold varT
 rw [List.getElem?_eq_getElem (show x.toNat < c.vars.length by omega)]
 rfl
structure Cx (s:Mc) (T:Nat→Option (List UInt8)) (V:Nat→List Ty1) (k:Nat) (c:Cd1) (pc:Int) (vk:Nat) (l:List Vl) (up:Option Nat) (tv:Int) (i:In1):Prop where
 f:Fr s k c pc vk l up tv i
 ok:FrOk s.m s.reg V k c pc vk l.length up tv
 ch:Chain s.m s.reg V up
 len:l.length = c.vars.length
 ins:instrP s.m c i = 0
 last:16 ≤ lastOp c
theorem cx_of {s:Mc} {T:Nat→Option (List UInt8)} {V:Nat→List Ty1} (w:Wf s T V) (hk:s.kind = 4):∃ k c pc vk l up tv i,Cx s T V k c pc vk l up tv i:=by
 have hr:=right_parts w.right
 have hc:=w.chain
 cases ht:s.top with
 | none=>exact absurd ht (w.go hk)
 | some k=>
  rw [ht] at hc
  cases hc with
  | cons h t=>
   rename_i c pc vk vn up tv
   obtain ⟨l,hl,hln⟩:=h.vs
   subst hln
   have hlt:pc.toNat < c.ins.length:=by have:=h.pc0; have:=h.pc1; omega
   have hcp:=code_parts (hr.code c h.code)
   refine ⟨k,c,pc,vk,l,up,tv,c.ins[pc.toNat],⟨⟨hk,ht,h.fr,hl,h.pc0,List.getElem?_eq_getElem hlt⟩,h,t,?_,hcp.2.2.2.2.1 _ (List.getElem_mem hlt),hcp.2.2.2.2.2⟩⟩
   have:=(w.heap.vs vk l hl).1
   rw [h.vars,List.length_map] at this
   exact this
theorem Cx.kv {s:Mc} {T:Nat→Option (List UInt8)} {V:Nat→List Ty1} {k:Nat} {c:Cd1} {pc:Int} {vk:Nat} {l:List Vl} {up:Option Nat} {tv:Int} {i:In1} (x:Cx s T V k c pc vk l up tv i):k ≠ vk:=by
 intro e
 have h1:=x.f.fr
 have h2:=x.f.vs
 rw [e,h2] at h1
 cases h1
theorem wf_at {s:Mc} {T:Nat→Option (List UInt8)} {V:Nat→List Ty1} (w:Wf s T V) {k:Nat} {c:Cd1} {pc:Int} {vk:Nat} {l:List Vl} {up:Option Nat} {tv:Int} {i:In1} (x:Cx s T V k c pc vk l up tv i) {q:Int} (h0:0 ≤ q) (h1:q < (c.ins.length:Nat)):Wf (s.at k c q vk l.length up tv) T V:=by
 have hm:=mv_fr x.f.fr q
 refine ⟨w.right,w.heap.fr x.f.fr q,?_,fun j hj=>hm.isCe (w.cells j hj),w.go⟩
 show Chain s.m (s.reg.set k _) V s.top
 rw [x.f.top]
 have hf:=x.ok
 refine .cons (c:=c) (pc:=q) (vk:=vk) (vn:=l.length) (up:=up) (tv:=tv) ⟨set_at hf.fr _,?_,hf.code,h0,h1,hf.vars,fun u hu=>?_⟩ (x.ch.mv hm (fun u hu=>(hf.below u hu).1) (fun _ _ _=>rfl))
 ·obtain ⟨l',h3,h4⟩:=hm.vs vk l x.f.vs
  exact ⟨l',h3,h4⟩
 ·obtain ⟨k1,c2,pc2,vk2,vn2,up2,tv2,k2,k3,k4⟩:=hf.below u hu
  exact ⟨k1,c2,pc2,vk2,vn2,up2,tv2,hm.fr u _ _ _ _ _ _ k1 k2,k3,k4⟩
theorem wf_put {s:Mc} {T:Nat→Option (List UInt8)} {V:Nat→List Ty1} (w:Wf s T V) {vk:Nat} {l:List Vl} (hv:s.reg[vk]? = some (.vs l)) {d:Int} {t:Ty1} (ht:(V vk)[d.toNat]? = some t) {v:Vl} (hok:vOk s.reg T t v):Wf (s.put vk l d v) T V:=by
 have hm:=fun b=>mv_vs hv (l':=l.set d.toNat v) (by simp) b
 refine ⟨w.right,w.heap.put hv ht hok,?_,fun j hj=>(hm 0).isCe (w.cells j hj),w.go⟩
 show Chain s.m (s.reg.set vk (.vs (l.set d.toNat v))) V s.top
 cases ht:s.top with
 | none=>exact Chain.nil
 | some k=>
  have hc:=w.chain
  rw [ht] at hc
  exact hc.mv (hm (k + 1)) (fun q hq=>by cases hq; omega) (fun _ _ _=>rfl)
theorem vOk_num (R:List Blk) (T:Nat→Option (List UInt8)) {t:Ty1} (h:t.ptr = false) (n:Int):vOk R T t (n,none):=⟨fun hp=>(by rw [h] at hp; cases hp),fun _=>rfl⟩
theorem vOk_null (R:List Blk) (T:Nat→Option (List UInt8)) (t:Ty1):vOk R T t (0,none):=⟨fun _=>⟨rfl,fun k hk=>(by cases hk)⟩,fun _=>rfl⟩
end Go.Proofs.YtkflggjdlflndaaGreat
namespace Go.Proofs.YtkflggjdlflndaaGreat
open Go Go.Ab
structure InsOk (m:Md1) (c:Cd1) (i:In1):Prop where
 lo:1 ≤ i.op
 hi:i.op ≤ 18
 vars:VarsIn c i
 args:i.op = 15→∀ a,a ∈ i.args→inV c a = true
 call:i.op = 15→callP m c i = 0
 jump:i.op = 16→lineIn c i.to = true
 branch:i.op = 17→lineIn c i.to = true∧lineIn c i.els = true
 ret:i.op = 18→varT c i.a = c.ret.t
 plain:i.op ≤ 14→plainP m c i = 0
theorem ins_parts {m:Md1} {c:Cd1} {i:In1} (h:instrP m c i = 0):InsOk m c i:=by
 unfold instrP at h
 split at h
 ·cases h
 ·rename_i h1
  split at h
  ·cases h
  ·rename_i h2
   have hu:(usesP i).all (inV c) = true:=by simpa using h2
   have hlo:1 ≤ i.op:=by omega
   have hhi:i.op ≤ 18:=by omega
   by_cases c15:i.op = 15
   ·rw [if_pos c15] at h
    exact ⟨hlo,hhi,uses_vars hu,fun _=>uses_args c15 hu,fun _=>h,fun e=>by omega,fun e=>by omega,fun e=>by omega,fun e=>by omega⟩
   ·rw [if_neg c15] at h
    by_cases c16:i.op = 16
    ·rw [if_pos c16] at h
     exact ⟨hlo,hhi,uses_vars hu,fun e=>by omega,fun e=>by omega,fun _=>unl_zero (by decide) h,fun e=>by omega,fun e=>by omega,fun e=>by omega⟩
    ·rw [if_neg c16] at h
     by_cases c17:i.op = 17
     ·rw [if_pos c17] at h
      split at h
      ·cases h
      ·rename_i hb
       refine ⟨hlo,hhi,uses_vars hu,fun e=>by omega,fun e=>by omega,fun e=>by omega,fun _=>?_,fun e=>by omega,fun e=>by omega⟩
       cases q1:lineIn c i.to <;> cases q2:lineIn c i.els <;> simp_all
     ·rw [if_neg c17] at h
      by_cases c18:i.op = 18
      ·rw [if_pos c18] at h
       exact ⟨hlo,hhi,uses_vars hu,fun e=>by omega,fun e=>by omega,fun e=>by omega,fun e=>by omega,fun _=>by simpa using unl_zero (by decide) h,fun e=>by omega⟩
      ·rw [if_neg c18] at h
       exact ⟨hlo,hhi,uses_vars hu,fun e=>by omega,fun e=>by omega,fun e=>by omega,fun e=>by omega,fun e=>by omega,fun _=>h⟩
theorem nums_zero {c:Cd1} {l:List Int} (h:numsP c l = 0):∀ v,v ∈ l→(varT c v).ptr = false:=by
 have:=unl_zero (by decide) h
 intro v hv
 have:=List.all_eq_true.1 this v hv
 simpa using this
theorem signed_zero {f:Int} {s:List UInt8} {l:List (List UInt8)} (h:signedP f s l = 0):f = 0:=by
 unfold signedP at h
 split at h
 ·assumption
 ·contradiction
theorem num_dst {m:Md1} {c:Cd1} {i:In1} (h:plainP m c i = 0) (ho:i.op = 1 ∨ i.op = 5 ∨ i.op = 4 ∨ i.op = 14 ∨ i.op = 3):(varT c i.d).ptr = false:=by
 unfold plainP at h
 rcases ho with ho | ho | ho | ho | ho
 ·rw [if_pos (.inl ho)] at h; exact nums_zero h _ (by simp)
 ·rw [if_pos (.inr ho)] at h; exact nums_zero h _ (by simp)
 ·rw [if_neg (by omega),if_neg (by omega),if_pos ho] at h; exact nums_zero (signed_zero h) _ (by simp)
 ·rw [if_neg (by omega),if_neg (by omega),if_neg (by omega),if_neg (by omega),if_neg (by omega),if_neg (by omega),if_pos ho] at h
  have:=unl_zero (by decide) (signed_zero h)
  simp only [Bool.and_eq_true,Bool.not_eq_true'] at this
  exact this.1
 ·rw [if_neg (by omega),if_pos ho] at h; exact nums_zero h _ (by simp)
theorem num_src {m:Md1} {c:Cd1} {i:In1} (h:plainP m c i = 0) (ho:i.op = 3):(varT c i.a).ptr = false:=by
 unfold plainP at h
 rw [if_neg (by omega),if_pos ho] at h; exact nums_zero h _ (by simp)
structure Vk (s:Mc) (V:Nat→List Ty1) (c:Cd1) (vk:Nat) (l:List Vl):Prop where
 at_:s.reg[vk]? = some (.vs l)
 ty:V vk = c.vars.map (·.t)
 len:l.length = c.vars.length
theorem Vk.pl {s:Mc} {V:Nat→List Ty1} {c:Cd1} {vk:Nat} {l:List Vl} (h:Vk s V c vk l) {x:Int} (hx:inV c x = true):Pl s.reg vk l x (nthV l x):=by
 have h':=inV_iff.1 hx
 have:=h.len
 exact ⟨h.at_,h'.1,by omega,by unfold nthV; rw [List.getElem?_eq_getElem (by omega)]; rfl⟩
theorem Vk.t {s:Mc} {V:Nat→List Ty1} {c:Cd1} {vk:Nat} {l:List Vl} (h:Vk s V c vk l) {x:Int} (hx:inV c x = true):(V vk)[x.toNat]? = some (varT c x):=by rw [h.ty]; exact tys_at hx
theorem Vk.val {s:Mc} {T:Nat→Option (List UInt8)} {V:Nat→List Ty1} {c:Cd1} {vk:Nat} {l:List Vl} (h:Vk s V c vk l) (w:Wf s T V) {x:Int} (hx:inV c x = true):vOk s.reg T (varT c x) (nthV l x):=(w.heap.vs vk l h.at_).2 _ _ _ (h.t hx) (h.pl hx).val
theorem Vk.num {s:Mc} {V:Nat→List Ty1} {c:Cd1} {vk:Nat} {l:List Vl} (h:Vk s V c vk l) {i:In1} (hv:VarsIn c i):NumOk s.reg i vk l:=⟨fun e=>⟨_,h.pl (hv.d e)⟩,fun e=>⟨_,h.pl (hv.a e)⟩,fun e=>⟨_,h.pl (hv.b e)⟩⟩
theorem get_wf {s:Mc} {T:Nat→Option (List UInt8)} {V:Nat→List Ty1} (w:Wf s T V):Wf (getP s).2 T V:=by
 unfold getP
 split
 ·exact w
 ·exact ⟨w.right,w.heap,w.chain,w.cells,w.go⟩
theorem num_wf {s:Mc} {T:Nat→Option (List UInt8)} {V:Nat→List Ty1} (w:Wf s T V) {c:Cd1} {vk:Nat} {l:List Vl} (hv:Vk s V c vk l) {i:In1} (hi:InsOk s.m c i) (ho:i.op ≤ 14):Wf (numbersP s i vk l).2 T V:=by
 unfold numbersP
 have hp:=hi.plain ho
 by_cases c1:i.op = 1
 ·rw [if_pos c1]
  have hd:=hi.vars.d (by rw [c1]; rfl)
  exact wf_put w hv.at_ (hv.t hd) (vOk_num _ _ (num_dst hp (.inl c1)) _)
 rw [if_neg c1]
 by_cases c4:i.op = 4
 ·rw [if_pos c4]
  have hd:=hi.vars.d (by rw [c4]; rfl)
  exact wf_put w hv.at_ (hv.t hd) (vOk_num _ _ (num_dst hp (.inr (.inr (.inl c4)))) _)
 rw [if_neg c4]
 by_cases c5:i.op = 5
 ·rw [if_pos c5]
  have hd:=hi.vars.d (by rw [c5]; rfl)
  have hgr:(getP s).2.reg = s.reg:=by unfold getP; split <;> rfl
  exact wf_put (get_wf w) (by rw [hgr]; exact hv.at_) (hv.t hd) (vOk_num _ _ (num_dst hp (.inr (.inl c5))) _)
 rw [if_neg c5]
 by_cases c6:i.op = 6
 ·rw [if_pos c6]
  exact ⟨w.right,w.heap,w.chain,w.cells,w.go⟩
 rw [if_neg c6]
 by_cases c14:i.op = 14
 ·rw [if_pos c14]
  have hd:=hi.vars.d (by rw [c14]; rfl)
  exact wf_put w hv.at_ (hv.t hd) (vOk_num _ _ (num_dst hp (.inr (.inr (.inr (.inl c14))))) _)
 rw [if_neg c14]
 exact w
end Go.Proofs.YtkflggjdlflndaaGreat
