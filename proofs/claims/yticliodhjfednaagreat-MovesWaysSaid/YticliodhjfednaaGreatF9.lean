/- Moves, plain: rows that meet; a step; that steps come to an end. Conditions: none. -/
import Derived.Test.YticliodhjfednaaGreatF2
set_option linter.unusedSimpArgs false
set_option linter.unusedVariables false
namespace Go.Proofs.YticliodhjfednaaGreat
def pc (w:BitVec 64):Nat:=(List.range 64).countP fun i=>w.getLsbD i
def cnt (r:Rw):Nat:=((List.range r.length).map fun i=>pc (r.getD i 0#64)).sum
theorem sum_le {f g:Nat→Nat}:∀ {l:List Nat},(∀ i,i ∈ l→f i ≤ g i)→(l.map f).sum ≤ (l.map g).sum
 | [],_=>Nat.le_refl _
 | x :: l,h=>by
  have h1:=h x (.head _)
  have h2:=sum_le (l:=l) fun i hi=>h i (.tail _ hi)
  simp only [List.map_cons,List.sum_cons]
  omega
theorem sum_lt {f g:Nat→Nat}:∀ {l:List Nat},(∀ i,i ∈ l→f i ≤ g i)→(∃ i,i ∈ l∧f i < g i)→(l.map f).sum < (l.map g).sum
 | [],_,⟨i,hi,_⟩=>by cases hi
 | x :: l,h,⟨i,hi,hlt⟩=>by
  have h1:=h x (.head _)
  simp only [List.map_cons,List.sum_cons]
  rcases List.mem_cons.1 hi with rfl | hi
  ·have h2:=sum_le (l:=l) fun i hi=>h i (.tail _ hi)
   omega
  ·have h2:=sum_lt (l:=l) (fun i hi=>h i (.tail _ hi)) ⟨i,hi,hlt⟩
   omega
theorem countP_le {p q:Nat→Bool}:∀ {l:List Nat},(∀ i,i ∈ l→p i = true→q i = true)→l.countP p ≤ l.countP q
 | [],_=>Nat.le_refl _
 | x :: l,h=>by
  have h2:=countP_le (l:=l) fun i hi=>h i (.tail _ hi)
  have h1:=h x (.head _)
  simp only [List.countP_cons]
  cases hp:p x <;> cases hq:q x <;> simp_all <;> omega
theorem countP_lt {p q:Nat→Bool}:∀ {l:List Nat},(∀ i,i ∈ l→p i = true→q i = true)→(∃ i,i ∈ l∧p i = false∧q i = true)→l.countP p < l.countP q
 | [],_,⟨i,hi,_⟩=>by cases hi
 | x :: l,h,⟨i,hi,hp,hq⟩=>by
  have h1:=h x (.head _)
  simp only [List.countP_cons]
  rcases List.mem_cons.1 hi with rfl | hi
  ·have h2:=countP_le (l:=l) fun i hi=>h i (.tail _ hi)
   rw [hp,hq]
   simp
   omega
  ·have h2:=countP_lt (l:=l) (fun i hi=>h i (.tail _ hi)) ⟨i,hi,hp,hq⟩
   cases hp:p x <;> cases hq:q x <;> simp_all <;> omega
theorem bit_ex {w:BitVec 64} (h:w ≠ 0#64):∃ i,i < 64∧w.getLsbD i = true:=by
 apply Classical.byContradiction
 intro hn
 apply h
 apply BitVec.eq_of_getLsbD_eq
 intro i hi
 cases hb:w.getLsbD i with
 | false=>simp
 | true=>exact absurd ⟨i,hi,hb⟩ hn
theorem pc_and (a b:BitVec 64):pc (a &&& b) ≤ pc a:=countP_le fun i _ h=>by
 rw [BitVec.getLsbD_and,Bool.and_eq_true] at h; exact h.1
theorem pc_and_lt {a b:BitVec 64} (h:a &&& ~~~b ≠ 0#64):pc (a &&& b) < pc a:=by
 obtain ⟨i,hi,hb⟩:=bit_ex h
 refine countP_lt (fun i _ h=>by rw [BitVec.getLsbD_and,Bool.and_eq_true] at h; exact h.1) ⟨i,List.mem_range.2 hi,?_⟩
 rw [BitVec.getLsbD_and,BitVec.getLsbD_not] at hb
 rw [BitVec.getLsbD_and]
 cases ha:a.getLsbD i <;> cases hbb:b.getLsbD i <;> simp_all
theorem pc_or (a b:BitVec 64):pc a ≤ pc (a ||| b):=countP_le fun i _ h=>by
 rw [BitVec.getLsbD_or,h]; rfl
theorem pc_or_lt {a b:BitVec 64} (h:b &&& ~~~a ≠ 0#64):pc a < pc (a ||| b):=by
 obtain ⟨i,hi,hb⟩:=bit_ex h
 refine countP_lt (fun i _ h=>by rw [BitVec.getLsbD_or,h]; rfl) ⟨i,List.mem_range.2 hi,?_⟩
 rw [BitVec.getLsbD_and,BitVec.getLsbD_not] at hb
 rw [BitVec.getLsbD_or]
 cases ha:a.getLsbD i <;> cases hbb:b.getLsbD i <;> simp_all
theorem pc_le (w:BitVec 64):pc w ≤ 64:=by
 have:=List.countP_le_length (p:=fun i=>w.getLsbD i) (l:=List.range 64)
 rw [List.length_range] at this
 exact this
theorem cnt_le (r:Rw):cnt r ≤ 64 * r.length:=by
 have h:=sum_le (l:=List.range r.length) (f:=fun i=>pc (r.getD i 0#64)) (g:=fun _=>64) fun i _=>pc_le _
 have e:((List.range r.length).map fun _=>64).sum = 64 * r.length:=by
  rw [List.map_const',List.sum_replicate_nat,List.length_range]; omega
 rw [e] at h
 exact h
theorem and_false {a b:BitVec 64} (h:a &&& ~~~b = 0#64):a &&& b = a:=by
 apply BitVec.eq_of_getLsbD_eq
 intro i hi
 have:=congrArg (fun w=>w.getLsbD i) h
 simp only [BitVec.getLsbD_and,BitVec.getLsbD_not,BitVec.getLsbD_zero] at this
 rw [BitVec.getLsbD_and]
 cases ha:a.getLsbD i <;> cases hbb:b.getLsbD i <;> simp_all
theorem or_false' {a b:BitVec 64} (h:b &&& ~~~a = 0#64):a ||| b = a:=by
 apply BitVec.eq_of_getLsbD_eq
 intro i hi
 have:=congrArg (fun w=>w.getLsbD i) h
 simp only [BitVec.getLsbD_and,BitVec.getLsbD_not,BitVec.getLsbD_zero] at this
 rw [BitVec.getLsbD_or]
 cases ha:a.getLsbD i <;> cases hbb:b.getLsbD i <;> simp_all
theorem andL_len {a b:Rw} (h:b.length = a.length):(andL a b).length = a.length:=by unfold andL; simp [h]
theorem orL_len {a b:Rw} (h:b.length = a.length):(orL a b).length = a.length:=by unfold orL; simp [h]
def wt (x:Rw × Rw):Nat:=cnt x.1 + (64 * x.2.length - cnt x.2)
theorem meet_same {e0 p0 e p:Rw} (h1:e.length = e0.length) (h2:p0.length = e0.length) (h3:p.length = e0.length) (h:chgL e0 e p0 p = false):andL e0 e = e0∧orL p0 p = p0:=by
 unfold chgL at h
 rw [List.any_eq_false] at h
 have hc:∀ i,i < e0.length→e0.getD i 0#64 &&& ~~~(e.getD i 0#64) = 0#64∧p.getD i 0#64 &&& ~~~(p0.getD i 0#64) = 0#64:=fun i hi=>by
  have:=h i (List.mem_range.2 hi)
  unfold chgAt at this
  simpa using this
 refine ⟨ext_getD (by rw [andL_len h1]) fun j hj=>?_,ext_getD (by rw [orL_len (by omega)]) fun j hj=>?_⟩
 ·unfold andL
  rw [zip_getD hj (by omega)]
  exact and_false (hc j hj).1
 ·unfold orL
  rw [zip_getD hj (by omega)]
  exact or_false' (hc j (by omega)).2
theorem meet_less {e0 p0 e p:Rw} (h1:e.length = e0.length) (h2:p0.length = e0.length) (h3:p.length = e0.length) (h:chgL e0 e p0 p = true):wt (andL e0 e,orL p0 p) < wt (e0,p0):=by
 unfold chgL at h
 rw [List.any_eq_true] at h
 obtain ⟨i,hi,hc⟩:=h
 have hi:=List.mem_range.1 hi
 have ga:∀ j,j < e0.length→(andL e0 e).getD j 0#64 = e0.getD j 0#64 &&& e.getD j 0#64:=fun j hj=>zip_getD hj (by omega)
 have go:∀ j,j < e0.length→(orL p0 p).getD j 0#64 = p0.getD j 0#64 ||| p.getD j 0#64:=fun j hj=>zip_getD (by omega) (by omega)
 have la:=andL_len h1
 have lo:=orL_len (a:=p0) (b:=p) (by omega)
 have a1:cnt (andL e0 e) ≤ cnt e0:=by
  unfold cnt; rw [la]
  exact sum_le fun j hj=>by rw [ga j (List.mem_range.1 hj)]; exact pc_and _ _
 have o1:cnt p0 ≤ cnt (orL p0 p):=by
  unfold cnt; rw [lo]
  exact sum_le fun j hj=>by rw [go j (by have:=List.mem_range.1 hj; omega)]; exact pc_or _ _
 have o2:=cnt_le (orL p0 p)
 unfold wt
 simp only
 rw [lo] at o2 ⊢
 unfold chgAt at hc
 simp only [Bool.or_eq_true,decide_eq_true_eq] at hc
 rcases hc with hc | hc
 ·have a2:cnt (andL e0 e) < cnt e0:=by
   unfold cnt; rw [la]
   exact sum_lt (fun j hj=>by rw [ga j (List.mem_range.1 hj)]; exact pc_and _ _) ⟨i,List.mem_range.2 hi,by rw [ga i hi]; exact pc_and_lt hc⟩
  omega
 ·have a2:cnt p0 < cnt (orL p0 p):=by
   unfold cnt; rw [lo]
   exact sum_lt (fun j hj=>by rw [go j (by have:=List.mem_range.1 hj; omega)]; exact pc_or _ _) ⟨i,List.mem_range.2 (by omega),by rw [go i hi]; exact pc_or_lt hc⟩
  omega
abbrev Val:=List (Option (Rw × Rw))
def stepV (i:In1) (aw:List Int) (x:Rw × Rw) (y:Nat) (V:Val):Val × Bool:=
 match V[y]? with
 | some (some z)=>(V.set y (some (andL z.1 (behB i aw x.1),orL z.2 (behB i aw x.2))),chgL z.1 (behB i aw x.1) z.2 (behB i aw x.2))
 | _=>(V.set y (some (behB i aw x.1,behB i aw x.2)),true)
structure Rel (W n:Nat) (R:List Rw) (E P:List (Option Nat)) (V:Val):Prop where
 lE:E.length = n
 lP:P.length = n
 lV:V.length = n
 none_:∀ k:Nat,V[k]? = some none→E[k]? = some none
 some_:∀ (k:Nat) (x:Rw × Rw),V[k]? = some (some x)→∃ a b,E[k]? = some (some a)∧P[k]? = some (some b)∧R[a]? = some x.1∧R[b]? = some x.2∧x.1.length = W∧x.2.length = W
 dE:∀ (k k' a:Nat),E[k]? = some (some a)→E[k']? = some (some a)→k = k'
 dP:∀ (k k' a:Nat),P[k]? = some (some a)→P[k']? = some (some a)→k = k'
 dX:∀ (k k' a:Nat),E[k]? = some (some a)→P[k']? = some (some a)→False
 bE:∀ (k a:Nat),E[k]? = some (some a)→a < R.length
 bP:∀ (k a:Nat),P[k]? = some (some a)→a < R.length
def wtO (W:Nat):Option (Rw × Rw)→Nat
 | none=>128 * W + 1
 | some x=>wt x
def wtV (W:Nat) (V:Val):Nat:=(V.map (wtO W)).sum
theorem sum_set {W:Nat}:∀ {V:Val} {y:Nat} {z:Option (Rw × Rw)} {z':Option (Rw × Rw)},V[y]? = some z→wtV W (V.set y z') + wtO W z = wtV W V + wtO W z'
 | v :: V,0,z,z',h=>by
  simp at h; subst h
  simp [wtV]; omega
 | v :: V,y + 1,z,z',h=>by
  have:=sum_set (W:=W) (V:=V) (y:=y) (z:=z) (z':=z') (by simpa using h)
  simp only [wtV,List.set_cons_succ,List.map_cons,List.sum_cons] at this ⊢
  omega
theorem wt_le (x:Rw × Rw) {W:Nat} (h1:x.1.length = W) (h2:x.2.length = W):wt x ≤ 128 * W:=by
 have a:=cnt_le x.1
 rw [h1] at a
 unfold wt
 rw [h2]
 omega
section
variable {W n:Nat} {R:List Rw} {E P:List (Option Nat)} {V:Val} {i:In1} {aw:List Int} {x:Rw × Rw} {y:Nat}
theorem step_false (h:Rel W n R E P V) (hx1:x.1.length = W) (hx2:x.2.length = W) (hs:(stepV i aw x y V).2 = false):(stepV i aw x y V).1 = V:=by
 unfold stepV at hs ⊢
 split at hs
 ·rename_i z hz
  obtain ⟨a,b,_,_,_,_,q5,q6⟩:=h.some_ y z hz
  obtain ⟨m1,m2⟩:=meet_same (by rw [behB_len]; omega) (by omega) (by rw [behB_len]; omega) hs
  simp only
  rw [m1,m2]
  obtain ⟨g1,g2⟩:=List.getElem?_eq_some_iff.1 hz
  rw [← g2]
  exact List.set_getElem_self g1
 ·cases hs
theorem step_true (h:Rel W n R E P V) (hy:y < n) (hx1:x.1.length = W) (hx2:x.2.length = W) (hs:(stepV i aw x y V).2 = true):wtV W (stepV i aw x y V).1 < wtV W V:=by
 unfold stepV at hs ⊢
 split at hs
 ·rename_i z hz
  obtain ⟨a,b,_,_,_,_,q5,q6⟩:=h.some_ y z hz
  have m:wt _ < wt z:=meet_less (by rw [behB_len]; omega) (by omega) (by rw [behB_len]; omega) hs
  have:=sum_set (W:=W) (z':=some (andL z.1 (behB i aw x.1),orL z.2 (behB i aw x.2))) hz
  simp only [wtO] at this ⊢
  omega
 ·rename_i hn
  have hyl:y < V.length:=by rw [h.lV]; exact hy
  have hz:V[y]? = some none:=by
   rw [List.getElem?_eq_getElem hyl]
   cases hv:V[y] with
   | none=>rfl
   | some z=>exact absurd (by rw [List.getElem?_eq_getElem hyl,hv]) (hn z)
  have:=sum_set (W:=W) (z':=some (behB i aw x.1,behB i aw x.2)) hz
  have w1:=wt_le (behB i aw x.1,behB i aw x.2) (W:=W) (by rw [behB_len]; exact hx1) (by rw [behB_len]; exact hx2)
  simp only [wtO] at this ⊢
  omega
theorem step_len:(stepV i aw x y V).1.length = V.length:=by
 unfold stepV
 split <;> exact List.length_set ..
theorem step_keep {k:Nat} {z:Rw × Rw} (h:V[k]? = some (some z)):∃ z',(stepV i aw x y V).1[k]? = some (some z'):=by
 have hk:=(List.getElem?_eq_some_iff.1 h).1
 unfold stepV
 split
 ·simp only [List.getElem?_set]
  split
  ·subst_vars; rw [if_pos hk]; exact ⟨_,rfl⟩
  ·exact ⟨z,h⟩
 ·simp only [List.getElem?_set]
  split
  ·subst_vars; rw [if_pos hk]; exact ⟨_,rfl⟩
  ·exact ⟨z,h⟩
theorem step_made (hy:y < V.length):∃ z',(stepV i aw x y V).1[y]? = some (some z'):=by
 unfold stepV
 split
 ·exact ⟨_,List.getElem?_set_self hy⟩
 ·exact ⟨_,List.getElem?_set_self hy⟩
theorem app_at {R:List Rw} {a:Nat} {r u v:Rw} (h:R[a]? = some r):(R ++ [u] ++ [v])[a]? = some r:=by
 have hk:=(List.getElem?_eq_some_iff.1 h).1
 rw [List.append_assoc,List.getElem?_append_left hk]; exact h
theorem rel_new (h:Rel W n R E P V) (hx1:x.1.length = W) (hx2:x.2.length = W) (hy:y < n) (hz:V[y]? = some none) :
  Rel W n (R ++ [behB i aw x.1] ++ [behB i aw x.2]) (E.set y (some R.length)) (P.set y (some (R.length + 1))) (stepV i aw x y V).1:=by
 have e1:(stepV i aw x y V).1 = V.set y (some (behB i aw x.1,behB i aw x.2)):=by unfold stepV; rw [hz]
 rw [e1]
 have hyE:y < E.length:=by rw [h.lE]; exact hy
 have hyP:y < P.length:=by rw [h.lP]; exact hy
 have hyV:y < V.length:=by rw [h.lV]; exact hy
 have cE:∀ k a,(E.set y (some R.length))[k]? = some (some a)→(k = y∧a = R.length) ∨ (k ≠ y∧E[k]? = some (some a)):=fun k a hk=>by
  rw [List.getElem?_set] at hk
  split at hk
  ·subst_vars; simp at hk; exact .inl ⟨rfl,hk.symm⟩
  ·exact .inr ⟨fun e=>by simp_all,hk⟩
 have cP:∀ k a,(P.set y (some (R.length + 1)))[k]? = some (some a)→(k = y∧a = R.length + 1) ∨ (k ≠ y∧P[k]? = some (some a)):=fun k a hk=>by
  rw [List.getElem?_set] at hk
  split at hk
  ·subst_vars; simp at hk; exact .inl ⟨rfl,hk.symm⟩
  ·exact .inr ⟨fun e=>by simp_all,hk⟩
 refine ⟨by rw [List.length_set]; exact h.lE,by rw [List.length_set]; exact h.lP,by rw [List.length_set]; exact h.lV,fun k hk=>?_,fun k z hk=>?_,fun k k' a h1 h2=>?_,fun k k' a h1 h2=>?_,fun k k' a h1 h2=>?_,fun k a h1=>?_,fun k a h1=>?_⟩
 ·rw [List.getElem?_set] at hk ⊢
  split at hk
  ·subst_vars; simp at hk
  ·rename_i hne; rw [if_neg hne]; exact h.none_ k hk
 ·rw [List.getElem?_set] at hk
  split at hk
  ·subst_vars
   simp at hk
   subst hk
   refine ⟨R.length,R.length + 1,List.getElem?_set_self hyE,List.getElem?_set_self hyP,?_,?_,by rw [behB_len],by rw [behB_len]; exact hx2⟩
   ·rw [List.append_assoc,List.getElem?_append_right (Nat.le_refl _),Nat.sub_self]; rfl
   ·rw [List.append_assoc,List.getElem?_append_right (by omega),Nat.add_sub_cancel_left]; rfl
  ·rename_i hne
   obtain ⟨a,b,q1,q2,q3,q4,q5,q6⟩:=h.some_ k z hk
   exact ⟨a,b,by rw [List.getElem?_set_ne hne]; exact q1,by rw [List.getElem?_set_ne hne]; exact q2,app_at q3,app_at q4,q5,q6⟩
 ·rcases cE k a h1 with ⟨rfl,rfl⟩ | ⟨n1,h3⟩
  ·rcases cE k' R.length h2 with ⟨rfl,_⟩ | ⟨_,h4⟩
   ·rfl
   ·exact absurd (h.bE _ _ h4) (Nat.lt_irrefl _)
  ·rcases cE k' a h2 with ⟨rfl,rfl⟩ | ⟨_,h4⟩
   ·exact absurd (h.bE _ _ h3) (Nat.lt_irrefl _)
   ·exact h.dE k k' a h3 h4
 ·rcases cP k a h1 with ⟨rfl,rfl⟩ | ⟨n1,h3⟩
  ·rcases cP k' (R.length + 1) h2 with ⟨rfl,_⟩ | ⟨_,h4⟩
   ·rfl
   ·have:=h.bP _ _ h4; omega
  ·rcases cP k' a h2 with ⟨rfl,rfl⟩ | ⟨_,h4⟩
   ·have:=h.bP _ _ h3; omega
   ·exact h.dP k k' a h3 h4
 ·rcases cE k a h1 with ⟨rfl,rfl⟩ | ⟨n1,h3⟩
  ·rcases cP k' R.length h2 with ⟨_,q⟩ | ⟨_,h4⟩
   ·omega
   ·exact absurd (h.bP _ _ h4) (Nat.lt_irrefl _)
  ·rcases cP k' a h2 with ⟨_,rfl⟩ | ⟨_,h4⟩
   ·have:=h.bE _ _ h3; omega
   ·exact h.dX k k' a h3 h4
 ·simp only [List.length_append,List.length_cons,List.length_nil]
  rcases cE k a h1 with ⟨_,rfl⟩ | ⟨_,h3⟩
  ·omega
  ·have:=h.bE _ _ h3; omega
 ·simp only [List.length_append,List.length_cons,List.length_nil]
  rcases cP k a h1 with ⟨_,rfl⟩ | ⟨_,h3⟩
  ·omega
  ·have:=h.bP _ _ h3; omega
theorem rel_old (h:Rel W n R E P V) (hx1:x.1.length = W) (hx2:x.2.length = W) {z:Rw × Rw} (hz:V[y]? = some (some z)) {a b:Nat} (ha:E[y]? = some (some a)) (hb:P[y]? = some (some b)) :
  Rel W n (((R ++ [behB i aw x.1] ++ [behB i aw x.2]).set a (andL z.1 (behB i aw x.1))).set b (orL z.2 (behB i aw x.2))) E P (stepV i aw x y V).1:=by
 have e1:(stepV i aw x y V).1 = V.set y (some (andL z.1 (behB i aw x.1),orL z.2 (behB i aw x.2))):=by unfold stepV; rw [hz]
 rw [e1]
 have hyV:=(List.getElem?_eq_some_iff.1 hz).1
 have ba:=h.bE _ _ ha
 have bb:=h.bP _ _ hb
 have hab:a ≠ b:=fun e=>h.dX y y a ha (e ▸ hb)
 obtain ⟨a',b',q1,q2,q3,q4,q5,q6⟩:=h.some_ y z hz
 rw [ha] at q1
 rw [hb] at q2
 simp at q1 q2
 subst q1 q2
 refine ⟨h.lE,h.lP,by rw [List.length_set]; exact h.lV,fun k hk=>?_,fun k u hk=>?_,h.dE,h.dP,h.dX,fun k c hk=>by have:=h.bE k c hk; simp; omega,fun k c hk=>by have:=h.bP k c hk; simp; omega⟩
 ·rw [List.getElem?_set] at hk
  split at hk
  ·subst_vars; simp at hk
  ·exact h.none_ k hk
 ·rw [List.getElem?_set] at hk
  split at hk
  ·subst_vars
   simp at hk
   subst hk
   refine ⟨a,b,ha,hb,?_,?_,by rw [andL_len (by rw [behB_len]; omega)]; exact q5,by rw [orL_len (by rw [behB_len]; omega)]; exact q6⟩
   ·rw [List.getElem?_set_ne (Ne.symm hab),List.getElem?_set_self (by simp; omega)]
   ·rw [List.getElem?_set_self (by simp; omega)]
  ·rename_i hne
   obtain ⟨c,d,p1,p2,p3,p4,p5,p6⟩:=h.some_ k u hk
   have ca:c ≠ a:=fun e=>hne (h.dE y k a ha (e ▸ p1))
   have cb:c ≠ b:=fun e=>h.dX k y b (e ▸ p1) hb
   have da:d ≠ a:=fun e=>h.dX y k a ha (e ▸ p2)
   have db:d ≠ b:=fun e=>hne (h.dP y k b hb (e ▸ p2))
   refine ⟨c,d,p1,p2,?_,?_,p5,p6⟩
   ·rw [List.getElem?_set_ne (Ne.symm cb),List.getElem?_set_ne (Ne.symm ca)]; exact app_at p3
   ·rw [List.getElem?_set_ne (Ne.symm db),List.getElem?_set_ne (Ne.symm da)]; exact app_at p4
end
end Go.Proofs.YticliodhjfednaaGreat
