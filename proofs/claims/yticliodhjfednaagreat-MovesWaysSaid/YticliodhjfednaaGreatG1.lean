/- Moves: tables, first part: what a function must be. Conditions: none. -/
import Derived.Test.YticliodhjfednaaGreatF8
import Derived.Test.YticliodhjfednaaGreatF9
set_option linter.unusedSimpArgs false
set_option linter.unusedVariables false
namespace Go.Proofs.YticliodhjfednaaGreat
open Go Go.Ab
variable {ext:Sem'}
def wOf (c:Cd1):Nat:=(c.vars.length + 63) / 64
structure CkF (ext:Sem') (c:Cd1):Prop where
 n:0 < c.ins.length
 nl:c.ins.length ≤ 100000
 v:c.vars.length ≤ 60000
 p0:0 ≤ c.params
 p1:c.params ≤ c.vars.length
 inr:inrC c
 ins:∀ (k:Nat) (i:In1),c.ins[k]? = some i→(usesL i).length ≤ 1000∧G ext 85 [c.av,i.av] [] = some (.ret (.d (.sl ((usesL i).map useRow))),[])∧(∀ v,v ∈ awayI i→0 ≤ v∧v < 64 * (wOf c:Int))∧(hasD i.op = true→0 ≤ i.d∧i.d < 64 * (wOf c:Int))
def parB (W:Nat):Nat→Rw
 | 0=>List.replicate W 0#64
 | k + 1=>putB (parB W k) k true
theorem parB_len (W:Nat):∀ k,(parB W k).length = W
 | 0=>List.length_replicate
 | k + 1=>by rw [parB,putB_len,parB_len W k]
def awV:Option (List Int)→AV
 | none=>.full []
 | some l=>.d (ints l)
def aws (A:List (Option (List Int))):List AV:=A.map awV
theorem aws_refs (A:List (Option (List Int))):((aws A).map refs).flatten = []:=by
 induction A with
 | nil=>rfl
 | cons k l ih=>show refs (awV k) ++ ((aws l).map refs).flatten = []; rw [ih]; cases k <;> rfl
theorem aws_ren (f:Nat→Nat) (A:List (Option (List Int))):(aws A).map (ren f) = aws A:=by
 induction A with
 | nil=>rfl
 | cons k l ih=>show ren f (awV k) :: (aws l).map (ren f) = awV k :: aws l; rw [ih]; cases k <;> rfl
attribute [go_sem] aws_refs aws_ren
theorem aws_len (A:List (Option (List Int))):(aws A).length = A.length:=List.length_map _
theorem aws_at {A:List (Option (List Int))} {i:Nat} {x:Option (List Int)} (h:A[i]? = some x):(aws A)[i]? = some (awV x):=by unfold aws; rw [List.getElem?_map,h]; rfl
theorem aws_set {A:List (Option (List Int))} {i:Nat} (h:i < A.length) (l:List Int):List.take i (aws A) ++ [AV.d (ints l)] ++ List.drop (i + 1) (aws A) = aws (A.set i (some l)):=by
 unfold aws
 rw [List.set_eq_take_append_cons_drop,if_pos h]
 simp [awV]
theorem rowB_refs:∀ r:Rw,refsAL (rowB r) = []
 | []=>rfl
 | w :: r=>by show refs (wA w) ++ refsAL (rowB r) = []; rw [rowB_refs r]; rfl
theorem rgB_one (R:List Rw) (r:Rw):rgB R ++ [rowB r] = rgB (R ++ [r]):=by simp [rgB]
theorem rgB_len (R:List Rw):(rgB R).length = R.length:=List.length_map _
attribute [go_sem] rowB_refs rgB_one rgB_len
def of0 (W n:Nat) (f:Rw):Val:=(List.replicate n none).set 0 (some (f,f))
theorem rel0 {W n:Nat} (hn:0 < n) (R:List Rw) (f:Rw) (hf:f.length = W):Rel W n (R ++ [f] ++ [f]) ((List.replicate n none).set 0 (some (R.length + 1))) ((List.replicate n none).set 0 (some R.length)) (of0 W n f):=by
 have key:∀ (k a b:Nat),((List.replicate n (none:Option Nat)).set 0 (some b))[k]? = some (some a)→k = 0∧a = b:=fun k a b h=>by
  cases k with
  | zero=>rw [List.getElem?_set_self (by simpa using hn)] at h; simp at h; exact ⟨rfl,h.symm⟩
  | succ k=>
   rw [List.getElem?_set_ne (by omega),List.getElem?_replicate] at h
   split at h <;> simp at h
 refine ⟨by simp,by simp,by simp [of0],fun k h=>?_,fun k x h=>?_,fun k k' a h1 h2=>?_,fun k k' a h1 h2=>?_,fun k k' a h1 h2=>?_,fun k a h1=>?_,fun k a h1=>?_⟩
 ·cases k with
  | zero=>unfold of0 at h; rw [List.getElem?_set_self (by simpa using hn)] at h; simp at h
  | succ k=>
   unfold of0 at h
   rw [List.getElem?_set_ne (by omega),List.getElem?_replicate] at h ⊢
   split at h
   ·rename_i hk; rw [if_pos hk]
   ·simp at h
 ·cases k with
  | zero=>
   unfold of0 at h
   rw [List.getElem?_set_self (by simpa using hn)] at h
   simp at h
   subst h
   refine ⟨R.length + 1,R.length,List.getElem?_set_self (by simpa using hn),List.getElem?_set_self (by simpa using hn),?_,?_,hf,hf⟩
   ·rw [List.append_assoc,List.getElem?_append_right (by omega),Nat.add_sub_cancel_left]; rfl
   ·rw [List.append_assoc,List.getElem?_append_right (Nat.le_refl _),Nat.sub_self]; rfl
  | succ k=>
   unfold of0 at h
   rw [List.getElem?_set_ne (by omega),List.getElem?_replicate] at h
   split at h <;> simp at h
 ·rw [(key _ _ _ h1).1,(key _ _ _ h2).1]
 ·rw [(key _ _ _ h1).1,(key _ _ _ h2).1]
 ·have a1:=(key _ _ _ h1).2
  have a2:=(key _ _ _ h2).2
  omega
 ·rw [(key _ _ _ h1).2]; simp
 ·rw [(key _ _ _ h1).2]; simp
inductive Rv (c:Cd1):Val→Prop
 | zero:Rv c (of0 (wOf c) c.ins.length (parB (wOf c) c.params.toNat))
 | step {V:Val} {k y:Nat} {i:In1} {x:Rw × Rw} (h:Rv c V) (hi:c.ins[k]? = some i) (hx:V[k]? = some (some x)) (hy:(y:Int) ∈ nxC c k):Rv c (stepV i (awayI i) x y V).1
def Fix (c:Cd1) (V:Val):Prop:=(∃ x,V[0]? = some (some x))∧∀ (k:Nat) (i:In1) (x:Rw × Rw) (y:Nat),c.ins[k]? = some i→V[k]? = some (some x)→(y:Int) ∈ nxC c k→(stepV i (awayI i) x y V).2 = false∧∃ z,V[y]? = some (some z)
structure Pg (c:Cd1) (V0:Val) (D:Nat→Nat→Prop) (R:List Rw) (E P:List (Option Nat)) (V:Val) (ch:Bool):Prop where
 rel:Rel (wOf c) c.ins.length R E P V
 rv:Rv c V
 z:∃ x,V[0]? = some (some x)
 made:∀ k y,D k y→∃ x,V[y]? = some (some x)
 same:ch = false→V = V0∧∀ (k y:Nat) (i:In1) (x:Rw × Rw),D k y→c.ins[k]? = some i→V[k]? = some (some x)→(stepV i (awayI i) x y V).2 = false
 le:wtV (wOf c) V ≤ wtV (wOf c) V0
 lt:ch = true→wtV (wOf c) V < wtV (wOf c) V0
theorem Pg.mono {c:Cd1} {V0:Val} {D D':Nat→Nat→Prop} {R:List Rw} {E P:List (Option Nat)} {V:Val} {ch:Bool} (h:Pg c V0 D R E P V ch) (hd:∀ k y,D' k y→D k y):Pg c V0 D' R E P V ch:=
 ⟨h.rel,h.rv,h.z,fun k y q=>h.made k y (hd k y q),fun e=>⟨(h.same e).1,fun k y i x q=>(h.same e).2 k y i x (hd k y q)⟩,h.le,h.lt⟩
theorem Pg.step {c:Cd1} {V0:Val} {D:Nat→Nat→Prop} {R R':List Rw} {E P E' P':List (Option Nat)} {V:Val} {ch:Bool} (h:Pg c V0 D R E P V ch) {k y:Nat} {i:In1} {x:Rw × Rw} (hi:c.ins[k]? = some i) (hx:V[k]? = some (some x)) (hy:(y:Int) ∈ nxC c k) (hyn:y < c.ins.length)
  (hr:Rel (wOf c) c.ins.length R' E' P' (stepV i (awayI i) x y V).1):Pg c V0 (fun a b=>D a b ∨ (a = k∧b = y)) R' E' P' (stepV i (awayI i) x y V).1 ((stepV i (awayI i) x y V).2 || ch):=by
 obtain ⟨_,_,_,_,_,_,l1,l2⟩:=h.rel.some_ k x hx
 refine ⟨hr,.step h.rv hi hx hy,?_,fun a b q=>?_,fun e=>?_,?_,fun e=>?_⟩
 ·obtain ⟨z,hz⟩:=h.z
  exact step_keep hz
 ·rcases q with q | ⟨_,rfl⟩
  ·obtain ⟨z,hz⟩:=h.made a b q
   exact step_keep hz
  ·exact step_made (by rw [h.rel.lV]; exact hyn)
 ·rw [Bool.or_eq_false_iff] at e
  have hv:=step_false h.rel l1 l2 e.1
  obtain ⟨s1,s2⟩:=h.same e.2
  rw [hv]
  refine ⟨s1,fun a b j u q hj hu=>?_⟩
  rcases q with q | ⟨rfl,rfl⟩
  ·exact s2 a b j u q hj hu
  ·rw [hi] at hj
   rw [hx] at hu
   cases hj
   cases hu
   exact e.1
 ·cases hs:(stepV i (awayI i) x y V).2 with
  | false=>rw [step_false h.rel l1 l2 hs]; exact h.le
  | true=>have:=step_true h.rel hyn l1 l2 hs; have:=h.le; omega
 ·cases hs:(stepV i (awayI i) x y V).2 with
  | false=>rw [step_false h.rel l1 l2 hs]; rw [hs] at e; exact h.lt (by simpa using e)
  | true=>have:=step_true h.rel hyn l1 l2 hs; have:=h.le; omega
theorem rv_in {c:Cd1} {l:List Int} (hl:OrderOk (nxC c) c.ins.length l) {V:Val} (h:Rv c V):∀ (k:Nat) (x:Rw × Rw),V[k]? = some (some x)→(k:Int) ∈ l:=by
 induction h with
 | zero=>
  intro k x hk
  cases k with
  | zero=>exact hl.zero
  | succ k=>
   unfold of0 at hk
   rw [List.getElem?_set_ne (by omega),List.getElem?_replicate] at hk
   split at hk <;> simp at hk
 | step hv hi hx hy ih=>
  intro k' x' hk'
  rename_i V k y i x
  by_cases e:y = k'
  ·subst e
   exact hl.closed k (ih k x hx) y (by simpa using hy) (by omega)
  ·refine ih k' x' ?_
   unfold stepV at hk'
   split at hk'
   ·simp only at hk'; rw [List.getElem?_set_ne e] at hk'; exact hk'
   ·simp only at hk'; rw [List.getElem?_set_ne e] at hk'; exact hk'
structure OsT where
 R:List Rw
 E:List (Option Nat)
 P:List (Option Nat)
 V:Val
 ch:Bool
theorem set_last {α:Type} (R:List α) (a b:α):(R ++ [a]).set R.length b = R ++ [b]:=by rw [List.set_append_right _ _ (Nat.le_refl _),Nat.sub_self]; rfl
theorem last_at {α:Type} (R:List α) (a:α):(R ++ [a])[R.length]? = some a:=by rw [List.getElem?_append_right (Nat.le_refl _),Nat.sub_self]; rfl
set_option maxHeartbeats 4000000 in
theorem of1_e (hx:TF ext) (c:Cd1) (h:CkF ext c) (R:List Rw) :
  ∃ R' E P V,Rel (wOf c) c.ins.length R' E P V∧Rv c V∧Fix c V∧G ext 26 [c.av] [.reg (rgB R)] = some (.ret (.ptr 1 0),tbH R' c c.ins.length (wOf c) E P):=by
 have hil:(c.ins.map In1.row).length = c.ins.length:=List.length_map _
 have hvl:(c.vars.map Vr1.row).length = c.vars.length:=List.length_map _
 have hn:=h.n
 have hnl:=h.nl
 have hv:=h.v
 have h01:0 ≤ (c.ins.length:Int):=by omega
 have hle:=Int.le_refl (c.ins.length:Int)
 have hrm:room c.ins.length 24:=by unfold room; simp; omega
 have hq:((c.vars.length:Int) + 63).tdiv 64 = (wOf c:Int):=by unfold wOf; rfl
 have hw0:0 ≤ (wOf c:Int):=by omega
 have hwl:wOf c ≤ 1000:=by unfold wOf; omega
 have hle2:=Int.le_refl (wOf c:Int)
 have hrm2:room (wOf c) 8:=by unfold room; simp; omega
 have hz1:(List.replicate c.ins.length [AV.nils]).flatten = rws (wOf c) (List.replicate c.ins.length none):=by
  generalize c.ins.length = n
  induction n with
  | zero=>rfl
  | succ n ih=>simp only [List.replicate_succ,List.flatten_cons,ih]; rfl
 have hz2:(List.replicate (wOf c) [AV.d (.int .u64 0)]).flatten = rowB (List.replicate (wOf c) 0#64):=by
  generalize wOf c = n
  induction n with
  | zero=>rfl
  | succ n ih=>simp only [List.replicate_succ,List.flatten_cons,ih]; rfl
 suffices hs:∃ r,G ext 26 [c.av] [.reg (rgB R)] = r∧∃ R' E P V,Rel (wOf c) c.ins.length R' E P V∧Rv c V∧Fix c V∧r = some (.ret (.ptr 1 0),tbH R' c c.ins.length (wOf c) E P) by
  obtain ⟨r,h1,R',E,P,V,h2,h3,h4,h5⟩:=hs
  exact ⟨R',E,P,V,h2,h3,h4,h1.trans h5⟩
 refine ⟨_,rfl,?_⟩
 rw [G_body hx.clear rfl Tryz.func26 rfl Tryz.results26 hv_26 rfl]
 simp only [Cd1.av]
 simp (maxSteps:=4000000) (disch:=first | (intros; contradiction) | omega) only [go_sem,hil,hvl,h01,hle,hrm,hq,hw0,hle2,hrm2,hz1,hz2,wrap64]
 generalize hL:loopA _ _ _ = L
 have hp0:=h.p0
 have hp1:=h.p1
 have hwv:c.vars.length ≤ 64 * wOf c:=by unfold wOf; omega
 apply loop_upd hL (by simp (maxSteps:=4000000) (disch:=first | (intros; contradiction) | omega) only [go_sem] <;> rfl) (α:=Nat) (fun k=>k ≤ c.params.toNat) (fun k=>c.params.toNat - k) (fun k=>[(36,.d (.int .i64 k))]) (fun k=>[(0,.reg (rgB (R ++ [parB (wOf c) k])))]) 0 (by simp (maxSteps:=4000000) (disch:=first | (intros; contradiction) | omega) only [go_sem] <;> rfl) (Nat.zero_le _) ?_
 intro k hk next ih
 clear hL
 by_cases hkp:(k:Int) < c.params
 ·have hp:=put_e hx.toTX (last_at R (parB (wOf c) k)) k true (by rw [parB_len]; omega) (by omega) (by rw [parB_len]; omega)
  rw [parB_len,set_last] at hp
  simp (maxSteps:=4000000) (disch:=first | (intros; contradiction) | omega) only [go_sem,hkp,hp,wrap64]
  exact ih (k + 1) _ (by omega) (by omega) (by simp (maxSteps:=4000000) (disch:=first | (intros; contradiction) | omega) only [go_sem] <;> rfl)
 ·have hkk:k = c.params.toNat:=by omega
  subst hkk
  clear ih
  generalize hf:parB (wOf c) c.params.toNat = f
  have hfl:f.length = wOf c:=by rw [← hf]; exact parB_len _ _
  have hcl:=G_ext (hx.clone (R ++ [f]) R.length f (last_at R f) (by omega))
  have hmn:=meet_new (n:=c.ins.length) hx (R ++ [f] ++ [f]) c (wOf c) (E:=List.replicate c.ins.length none) (P:=List.replicate c.ins.length none) 0 (R.length + 1) R.length (by rw [List.getElem?_replicate,if_pos hn]) (by simpa using hn) (by simp) (by simp) (by omega)
  rw [hfl] at hcl
  unfold cIx cRg at hcl
  rw [show (R ++ [f]).length = R.length + 1 by simp] at hcl
  rw [show ((0:Nat):Int) = 0 from rfl] at hmn
  simp only [tbH,tbC] at hmn
  obtain ⟨l,hl,hor⟩:=order_e hx c (by omega) hn h.inr
  simp only [Cd1.av] at hor
  rw [show ints l = .sl (l.map rowI) from rfl] at hor
  have hz3:(List.replicate c.ins.length [AV.full []]).flatten = aws (List.replicate c.ins.length none):=by
   generalize c.ins.length = n
   induction n with
   | zero=>rfl
   | succ n ih=>simp only [List.replicate_succ,List.flatten_cons,ih]; rfl
  simp (maxSteps:=4000000) (disch:=first | (intros; contradiction) | omega) only [go_sem,hkp,hcl,hmn,hor,h01,hle,hrm,hz3,wrap64]
  generalize hL:loopA _ _ _ = L
  have hll:l.length ≤ 100000:=by have:=hl.len; omega
  have hlm:(l.map rowI).length = l.length:=List.length_map _
  apply range_upd hL (by simp (maxSteps:=4000000) (disch:=first | (intros; contradiction) | omega) only [go_sem] <;> rfl) l rowI (α:=List (Option (List Int))) (fun rest q A=>A.length = c.ins.length∧(∀ v,v ∈ rest→v ∈ l)∧∀ (k:Nat) (i:In1),(k:Int) ∈ l→c.ins[k]? = some i→(k:Int) ∈ rest ∨ A[k]? = some (some (awayI i)))
   (fun q _=>[(54,.d (.int .i64 q))]) (fun _ A=>[(6,.cells (aws A))]) (List.replicate c.ins.length none) (by simp (maxSteps:=4000000) (disch:=first | (intros; contradiction) | omega) only [go_sem] <;> rfl) ⟨by simp,fun v hv=>hv,fun k i hk _=>.inl hk⟩ ?_ ?_
  ·rintro v rest q A ⟨q1,q2,q3⟩ hlt2 hr2 hget hq _ next ih
   clear hL
   obtain ⟨v0,v1⟩:=hl.inr v (q2 v (.head _))
   obtain ⟨vn,rfl⟩:∃ vn:Nat,v = (vn:Int):=⟨v.toNat,by omega⟩
   have hvi:c.ins[vn]? = some c.ins[vn]:=List.getElem?_eq_getElem (by omega)
   obtain ⟨u1,u2,_,_⟩:=h.ins vn _ hvi
   have haw:=away_e hx (R ++ [f] ++ [f]) c c.ins.length (wOf c) ((List.replicate c.ins.length none).set 0 (some (R.length + 1))) ((List.replicate c.ins.length none).set 0 (some R.length)) vn hvi (by omega) u1 u2
   simp only [tbH,tbC] at haw
   have hset:=aws_set (A:=A) (i:=vn) (by omega) (awayI c.ins[vn])
   have hsl:vn + 1 ≤ (aws A).length:=by rw [aws_len]; omega
   simp only [rowI] at hr2
   have q3':∀ (k:Nat) (i:In1),(k:Int) ∈ l→c.ins[k]? = some i→(k:Int) ∈ rest ∨ (A.set vn (some (awayI c.ins[vn])))[k]? = some (some (awayI i)):=by
    intro k i hk hi
    by_cases e:vn = k
    ·subst e
     rw [hvi] at hi
     cases hi
     exact .inr (List.getElem?_set_self (by omega))
    ·rcases q3 k i hk hi with hm | hm
     ·rcases List.mem_cons.1 hm with hm | hm
      ·exact absurd (by omega) e
      ·exact .inl hm
     ·exact .inr (by rw [List.getElem?_set_ne e]; exact hm)
   clear q3
   have v0:0 ≤ (vn:Int):=by omega
   have v1:(vn:Int) < (c.ins.length:Int):=by omega
   simp (maxSteps:=4000000) (disch:=first | (intros; contradiction) | omega) only [go_sem,hlt2,hr2,haw,v0,v1,hset,hsl,Nat.mul_one,wrap64]
   exact ih (A.set vn (some (awayI c.ins[vn]))) _ ⟨by rw [List.length_set]; exact q1,fun u hu=>q2 u (.tail _ hu),q3'⟩ (by simp (maxSteps:=4000000) (disch:=first | (intros; contradiction) | omega) only [go_sem] <;> rfl)
  ·rintro q A ⟨q1,q2,q3⟩ hlt2 hq next
   clear hL
   simp (maxSteps:=4000000) (disch:=first | (intros; contradiction) | omega) only [go_sem,hlt2]
   generalize hL:loopA _ _ _ = L
   have hV0:Pg c (of0 (wOf c) c.ins.length f) (fun _ _=>False) (R ++ [f] ++ [f]) ((List.replicate c.ins.length none).set 0 (some (R.length + 1))) ((List.replicate c.ins.length none).set 0 (some R.length)) (of0 (wOf c) c.ins.length f) false:=
    ⟨rel0 hn R f hfl,by rw [← hf]; exact .zero,⟨(f,f),by unfold of0; exact List.getElem?_set_self (by simpa using hn)⟩,fun _ _ q=>q.elim,fun _=>⟨rfl,fun _ _ _ _ q=>q.elim⟩,Nat.le_refl _,fun e=>by cases e⟩
   have q3:∀ (k:Nat) (i:In1),(k:Int) ∈ l→c.ins[k]? = some i→A[k]? = some (some (awayI i)):=fun k i hk hi=>(q3 k i hk hi).resolve_left (by simp)
   clear hcl hmn hor hz1 hz2 hz3
   apply loop_upd hL (by simp (maxSteps:=4000000) (disch:=first | (intros; contradiction) | omega) only [go_sem] <;> rfl) (α:=OsT) (fun s=>Pg c s.V (fun _ _=>False) s.R s.E s.P s.V false) (fun s=>wtV (wOf c) s.V) (fun _=>[]) (fun s=>[(0,.reg (rgB s.R)),(2,.cells (rws (wOf c) s.E)),(3,.cells (rws (wOf c) s.P))])
    ⟨_,_,_,_,false⟩ (by simp (maxSteps:=4000000) (disch:=first | (intros; contradiction) | omega) only [go_sem] <;> rfl) hV0 ?_
   clear hV0
   rintro ⟨R0,E0,P0,V0,ch0⟩ hpg next ih
   clear hL
   simp only at hpg ih ⊢
   simp (maxSteps:=4000000) (disch:=first | (intros; contradiction) | omega) only [go_sem]
   generalize hL:loopA _ _ _ = L
   apply range_upd hL (by simp (maxSteps:=4000000) (disch:=first | (intros; contradiction) | omega) only [go_sem] <;> rfl) l rowI (α:=OsT) (fun rest _ s=>∃ A4,l = A4 ++ rest∧Pg c V0 (fun k y=>(k:Int) ∈ A4∧(y:Int) ∈ nxC c k) s.R s.E s.P s.V s.ch)
    (fun q s=>[(13,.d (.bool s.ch)),(71,.d (.int .i64 q))]) (fun _ s=>[(0,.reg (rgB s.R)),(2,.cells (rws (wOf c) s.E)),(3,.cells (rws (wOf c) s.P))]) ⟨R0,E0,P0,V0,false⟩ (by simp (maxSteps:=4000000) (disch:=first | (intros; contradiction) | omega) only [go_sem] <;> rfl) ⟨[],rfl,hpg.mono fun k y q=>by simp at q⟩ ?_ ?_
   ·rintro v rest q2 ⟨R1,E1,P1,V1,ch1⟩ ⟨A4,hA4,pg1⟩ hlt3 hr3 hget3 hq3 _ next2 ih2
    clear hL ih
    simp only at pg1 ih2 ⊢
    obtain ⟨v0,v1⟩:=hl.inr v (by rw [hA4]; simp)
    obtain ⟨k,rfl⟩:∃ k:Nat,v = (k:Int):=⟨v.toNat,by omega⟩
    have hki:c.ins[k]? = some c.ins[k]:=List.getElem?_eq_getElem (by omega)
    obtain ⟨u1,u2,u3,u4⟩:=h.ins k _ hki
    have hVk:∃ x,V1[k]? = some (some x):=by
     rcases hl.pre A4 (k:Int) rest hA4 with ⟨_,e⟩ | ⟨p,hp,hpk⟩
     ·have:k = 0:=by omega
      subst this; exact pg1.z
     ·exact pg1.made p k ⟨hp,hpk⟩
    have hnx:=next_e hx c.ins[k] k (by omega) (by omega)
    have hnn:nxC c k = nxtI c.ins[k] k:=by unfold nxC; rw [hki]
    rw [← hnn,show ints (nxC c k) = .sl ((nxC c k).map rowI) from rfl] at hnx
    have hki2:(c.ins.map In1.row)[k]? = some c.ins[k].row:=by rw [List.getElem?_map,hki]; rfl
    simp only [In1.av] at hnx
    simp only [In1.row] at hki2
    simp only [rowI] at hr3
    have v0:0 ≤ (k:Int):=by omega
    have v1:(k:Int) < (c.ins.length:Int):=by omega
    have hkl:(k:Int) < ((c.ins.map In1.row).length:Int):=by rw [hil]; exact v1
    have hAk:=aws_at (q3 k _ (by rw [hA4]; simp) hki)
    simp only [awV] at hAk
    simp (maxSteps:=4000000) (disch:=first | (intros; contradiction) | omega) only [go_sem,hlt3,hr3,hnx,hki2,hkl,wrap64]
    generalize hL:loopA _ _ _ = L
    generalize hI:c.ins[k] = i at hki u1 u2 u3 u4 hki2 hAk hnx hnn
    clear hnx hki2 hr3 hget3
    apply range_upd hL (by simp (maxSteps:=4000000) (disch:=first | (intros; contradiction) | omega) only [go_sem] <;> rfl) (nxC c k) rowI (α:=OsT) (fun rest _ s=>∃ A5,nxC c k = A5 ++ rest∧(∃ x,s.V[k]? = some (some x))∧Pg c V0 (fun a y=>((a:Int) ∈ A4∧(y:Int) ∈ nxC c a) ∨ (a = k∧(y:Int) ∈ A5)) s.R s.E s.P s.V s.ch)
     (fun q s=>[(13,.d (.bool s.ch)),(83,.d (.int .i64 q))]) (fun _ s=>[(0,.reg (rgB s.R)),(2,.cells (rws (wOf c) s.E)),(3,.cells (rws (wOf c) s.P))]) ⟨R1,E1,P1,V1,ch1⟩ (by simp (maxSteps:=4000000) (disch:=first | (intros; contradiction) | omega) only [go_sem] <;> rfl) ⟨[],rfl,hVk,pg1.mono fun a y q=>by
      rcases q with q | ⟨_,q⟩
      ·exact q
      ·cases q⟩ ?_ ?_
    ·clear pg1 hVk
     rintro y rest5 r5 ⟨R2,E2,P2,V2,ch2⟩ ⟨A5,hA5,⟨x,hx2⟩,pg2⟩ hlt5 hr5 hget5 hq5 _ next3 ih3
     clear hL ih2
     simp only at hx2 pg2 ih3 ⊢
     have hyn:y ∈ nxC c k:=by rw [hA5]; simp
     have hr5l:r5 < 2:=by have:=nxtI_len i k; rw [← hnn] at this; omega
     obtain ⟨y0,y1⟩:=h.inr k (by omega) y hyn
     obtain ⟨yn,rfl⟩:∃ yn:Nat,y = (yn:Int):=⟨y.toNat,by omega⟩
     obtain ⟨a,b,p1,p2,p3,p4,p5,p6⟩:=pg2.rel.some_ k x hx2
     have eE:=rws_at (W:=wOf c) p1
     have eP:=rws_at (W:=wOf c) p2
     simp only [rwV] at eE eP
     have gl:=gives_len (usesL i)
     have hb1:=behind_e hx p3 (by omega) c c.ins.length E2 P2 k hki (by omega) (awayI i) (by unfold awayI; omega) (by rw [p5]; exact u3) (by rw [p5]; exact u4)
     have hb2:=behind_e hx (R:=R2 ++ [behB i (awayI i) x.1]) (k:=b) (r:=x.2) (by rw [List.getElem?_append_left (List.getElem?_eq_some_iff.1 p4).1]; exact p4) (by omega) c c.ins.length E2 P2 k hki (by omega) (awayI i) (by unfold awayI; omega) (by rw [p6]; exact u3) (by rw [p6]; exact u4)
     unfold cIx cRg at hb1 hb2
     rw [set_last,p5] at hb1
     rw [set_last,p6,show (R2 ++ [behB i (awayI i) x.1]).length = R2.length + 1 by simp] at hb2
     simp only [tbH,tbC] at hb1 hb2
     have hnl5:yn < c.ins.length:=by omega
     have hyV:yn < V2.length:=by rw [pg2.rel.lV]; exact hnl5
     have y0:0 ≤ (yn:Int):=by omega
     have y1:(yn:Int) < (c.ins.length:Int):=by omega
     have hVk':=step_keep (i:=i) (aw:=awayI i) (x:=x) (y:=yn) hx2
     have hA5':nxC c k = (A5 ++ [(yn:Int)]) ++ rest5:=by rw [hA5]; simp
     simp only [rowI] at hr5
     cases hz:V2[yn]? with
     | none=>rw [List.getElem?_eq_getElem hyV] at hz; cases hz
     | some z0=>
      cases z0 with
      | none=>
       have hr':=rel_new (i:=i) (aw:=awayI i) (x:=x) pg2.rel p5 p6 hnl5 hz
       have hs:(stepV i (awayI i) x yn V2).2 = true:=by unfold stepV; rw [hz]
       have pg':=Pg.step pg2 hki hx2 hyn hnl5 hr'
       rw [hs,Bool.true_or] at pg'
       have hm:=meet_new (n:=c.ins.length) hx (R2 ++ [behB i (awayI i) x.1] ++ [behB i (awayI i) x.2]) c (wOf c) (E:=E2) (P:=P2) yn R2.length (R2.length + 1) (pg2.rel.none_ yn hz) (by rw [pg2.rel.lP]; exact hnl5) pg2.rel.lE pg2.rel.lP (by omega)
       simp only [tbH,tbC] at hm
       simp (maxSteps:=4000000) (disch:=first | (intros; contradiction) | omega) only [go_sem,hlt5,hr5,v0,v1,y0,y1,eE,eP,hAk,hb1,hb2,hm,Nat.mul_one,wrap64]
       exact ih3 ⟨_,_,_,(stepV i (awayI i) x yn V2).1,true⟩ _ ⟨A5 ++ [(yn:Int)],hA5',hVk',pg'.mono fun a y q=>by
        rcases q with q | ⟨rfl,q⟩
        ·exact .inl (.inl q)
        ·rcases List.mem_append.1 q with q | q
         ·exact .inl (.inr ⟨rfl,q⟩)
         ·exact .inr ⟨rfl,by simp at q; omega⟩⟩ (by simp (maxSteps:=4000000) (disch:=first | (intros; contradiction) | omega) only [go_sem] <;> rfl)
      | some z=>
       obtain ⟨a2,b2,s1,s2,s3,s4,s5,s6⟩:=pg2.rel.some_ yn z hz
       have bE:=pg2.rel.bE _ _ s1
       have bP:=pg2.rel.bP _ _ s2
       have hr':=rel_old (i:=i) (aw:=awayI i) (x:=x) pg2.rel p5 p6 hz s1 s2
       have hs:(stepV i (awayI i) x yn V2).2 = chgL z.1 (behB i (awayI i) x.1) z.2 (behB i (awayI i) x.2):=by unfold stepV; rw [hz]
       have pg':=Pg.step pg2 hki hx2 hyn hnl5 hr'
       have hm:=meet_old (n:=c.ins.length) hx (R:=R2 ++ [behB i (awayI i) x.1] ++ [behB i (awayI i) x.2]) c (W:=wOf c) (E:=E2) (P:=P2) yn R2.length (R2.length + 1) a2 b2 s1 s2 pg2.rel.lE pg2.rel.lP (by omega) hwl (app_at s3) (app_at s4)
        (r1:=behB i (awayI i) x.1) (r2:=behB i (awayI i) x.2) (by rw [List.append_assoc,List.getElem?_append_right (Nat.le_refl _),Nat.sub_self]; rfl) (by rw [List.append_assoc,List.getElem?_append_right (by omega),Nat.add_sub_cancel_left]; rfl) s5 s6 (by rw [behB_len]; exact p5) (by rw [behB_len]; exact p6)
        (fun _=>⟨fun e=>pg2.rel.dX yn yn a2 s1 (e ▸ s2),by omega,by omega,by omega,by omega⟩)
       simp only [tbH,tbC] at hm
       rw [hs] at pg'
       cases hch:chgL z.1 (behB i (awayI i) x.1) z.2 (behB i (awayI i) x.2) with
       | true=>
        rw [hch,Bool.true_or] at pg'
        rw [hch] at hm
        simp (maxSteps:=4000000) (disch:=first | (intros; contradiction) | omega) only [go_sem,hlt5,hr5,v0,v1,y0,y1,eE,eP,hAk,hb1,hb2,hm,Nat.mul_one,wrap64]
        exact ih3 ⟨_,_,_,(stepV i (awayI i) x yn V2).1,true⟩ _ ⟨A5 ++ [(yn:Int)],hA5',hVk',pg'.mono fun a y q=>by
         rcases q with q | ⟨rfl,q⟩
         ·exact .inl (.inl q)
         ·rcases List.mem_append.1 q with q | q
          ·exact .inl (.inr ⟨rfl,q⟩)
          ·exact .inr ⟨rfl,by simp at q; omega⟩⟩ (by simp (maxSteps:=4000000) (disch:=first | (intros; contradiction) | omega) only [go_sem] <;> rfl)
       | false=>
        rw [hch,Bool.false_or] at pg'
        rw [hch] at hm
        simp (maxSteps:=4000000) (disch:=first | (intros; contradiction) | omega) only [go_sem,hlt5,hr5,v0,v1,y0,y1,eE,eP,hAk,hb1,hb2,hm,Nat.mul_one,wrap64]
        exact ih3 ⟨_,_,_,(stepV i (awayI i) x yn V2).1,ch2⟩ _ ⟨A5 ++ [(yn:Int)],hA5',hVk',pg'.mono fun a y q=>by
         rcases q with q | ⟨rfl,q⟩
         ·exact .inl (.inl q)
         ·rcases List.mem_append.1 q with q | q
          ·exact .inl (.inr ⟨rfl,q⟩)
          ·exact .inr ⟨rfl,by simp at q; omega⟩⟩ (by simp (maxSteps:=4000000) (disch:=first | (intros; contradiction) | omega) only [go_sem] <;> rfl)
    ·rintro r5 ⟨R2,E2,P2,V2,ch2⟩ ⟨A5,hA5,hVk2,pg2⟩ hlt5 hq5 next3
     clear hL pg1 hVk
     simp only at pg2 ⊢
     rw [List.append_nil] at hA5
     simp (maxSteps:=4000000) (disch:=first | (intros; contradiction) | omega) only [go_sem,hlt5,wrap64]
     exact ih2 ⟨R2,E2,P2,V2,ch2⟩ _ ⟨A4 ++ [(k:Int)],by rw [hA4]; simp,pg2.mono fun a y q=>by
      rcases List.mem_append.1 q.1 with q1 | q1
      ·exact .inl ⟨q1,q.2⟩
      ·have e:a = k:=by simp at q1; omega
       exact .inr ⟨e,by rw [← hA5,← e]; exact q.2⟩⟩ (by simp (maxSteps:=4000000) (disch:=first | (intros; contradiction) | omega) only [go_sem] <;> rfl)
   ·rintro q2 ⟨R3,E3,P3,V3,ch3⟩ ⟨A4,hA4,pg3⟩ hlt3 hq3 next2
    clear hL
    simp only at pg3 ⊢
    rw [List.append_nil] at hA4
    cases ch3 with
    | true=>
     simp (maxSteps:=4000000) (disch:=first | (intros; contradiction) | omega) only [go_sem,hlt3]
     exact ih ⟨R3,E3,P3,V3,true⟩ _ ⟨pg3.rel,pg3.rv,pg3.z,fun _ _ q=>q.elim,fun _=>⟨rfl,fun _ _ _ _ q=>q.elim⟩,Nat.le_refl _,fun e=>by cases e⟩ (pg3.lt rfl) (by simp (maxSteps:=4000000) (disch:=first | (intros; contradiction) | omega) only [go_sem] <;> rfl)
    | false=>
     have hfix:Fix c V3:=⟨pg3.z,fun k i x y hi hx hy=>by
      have hk:=rv_in hl pg3.rv k x hx
      rw [hA4] at hk
      exact ⟨(pg3.same rfl).2 k y i x ⟨hk,hy⟩ hi hx,pg3.made k y ⟨hk,hy⟩⟩⟩
     refine ⟨R3,E3,P3,V3,pg3.rel,pg3.rv,hfix,?_⟩
     clear ih
     simp only [tbH,tbC]
     simp (maxSteps:=4000000) (disch:=first | (intros; contradiction) | omega) only [go_sem,hlt3,Bool.true_or]
end Go.Proofs.YticliodhjfednaaGreat
