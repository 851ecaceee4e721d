/- A walk through edges, as deep as it can: what stays true of it. Conditions: none. -/
import Derived.Test.YticliodhjfednaaGreatM1
set_option linter.unusedSimpArgs false
set_option linter.unusedVariables false
namespace Go.Proofs.YticliodhjfednaaGreat
structure WkOk (nx:Nat→List Int) (n:Nat) (S:List Bool) (st:List (Nat × List Int)) (out:List Int):Prop where
 len:S.length = n
 cnt:out.length + st.length + S.count false = n
 sts:∀ x,x ∈ st→x.1 < n∧S[x.1]? = some true∧(∀ y,y ∈ nx x.1→y ∈ x.2 ∨ S[y.toNat]? = some true)∧∀ y,y ∈ x.2→y ∈ nx x.1
 outs:∀ x,x ∈ out→0 ≤ x∧x < n∧∀ y,y ∈ nx x.toNat→S[y.toNat]? = some true
 cover:∀ k:Nat,S[k]? = some true→(k:Int) ∈ out ∨ k ∈ st.map Prod.fst
 chain:∀ A x y B,st = A ++ x :: y :: B→(y.1:Int) ∈ nx x.1
 bottom:∀ x B,st = x :: B→x.1 = 0
 order:∀ B x A,out = B ++ x :: A→(st = []∧A = []∧x = 0) ∨ ∃ p:Nat,((p:Int) ∈ A ∨ p ∈ st.map Prod.fst)∧x ∈ nx p
 zero:S[0]? = some true
variable {nx:Nat→List Int} {n:Nat} {S:List Bool} {out:List Int} {T:List (Nat × List Int)} {a:Nat} {l:List Int} {y:Int}
theorem count_set:∀ {S:List Bool} {k:Nat},S[k]? = some false→(S.set k true).count false + 1 = S.count false
 | b :: S,0,h=>by simp at h; subst h; simp
 | b :: S,k + 1,h=>by
  simp at h
  have:=count_set (S:=S) (k:=k) (by simpa using h)
  simp only [List.set_cons_succ,List.count_cons]
  omega
theorem set_keep {k j:Nat} (h:S[j]? = some true):(S.set k true)[j]? = some true:=by
 rw [List.getElem?_set]
 split
 ·subst_vars; rw [if_pos (List.getElem?_eq_some_iff.1 h).1]
 ·exact h
theorem tail_split {α:Type} {A B T:List α} {x y z w:α} (h:T ++ [w] = A ++ x :: y :: B) (hz:z = z):(B = []∧y = w∧T = A ++ [x]) ∨ ∃ B',B = B' ++ [w]∧T = A ++ x :: y :: B':=by
 rcases List.eq_nil_or_concat B with rfl | ⟨B',b,rfl⟩
 ·have e:T ++ [w] = (A ++ [x]) ++ [y]:=by rw [h]; simp
  obtain ⟨e1,e2⟩:=List.append_inj' e rfl
  simp at e2
  exact .inl ⟨rfl,e2.symm,e1⟩
 ·rw [List.concat_eq_append] at h ⊢
  have e:T ++ [w] = (A ++ x :: y :: B') ++ [b]:=by rw [h]; simp
  obtain ⟨e1,e2⟩:=List.append_inj' e rfl
  simp at e2
  subst e2
  exact .inr ⟨B',rfl,e1⟩
theorem WkOk.init (hr:∀ a,a < n→∀ y,y ∈ nx a→0 ≤ y∧y < n) (hn:0 < n):WkOk nx n ((List.replicate n false).set 0 true) [(0,nx 0)] []:=by
 have h0:(List.replicate n false)[0]? = some false:=by rw [List.getElem?_replicate,if_pos hn]
 have hc:=count_set h0
 have hz:((List.replicate n false).set 0 true)[0]? = some true:=List.getElem?_set_self (by simpa using hn)
 refine ⟨by simp,?_,fun x hx=>?_,fun x hx=>(nomatch hx),fun k hk=>?_,fun A x y B h=>?_,fun x B h=>?_,fun B x A h=>?_,hz⟩
 ·rw [List.count_replicate_self] at hc; simp; omega
 ·rw [List.mem_singleton] at hx; subst hx
  exact ⟨hn,hz,fun y hy=>.inl hy,fun y hy=>hy⟩
 ·cases k with
  | zero=>exact .inr (by simp)
  | succ k=>
   rw [List.getElem?_set_ne (by omega),List.getElem?_replicate] at hk
   split at hk <;> simp at hk
 ·have:=congrArg List.length h
  simp at this
  omega
 ·simp at h; rw [← h.1]
 ·have:=congrArg List.length h
  simp at this
theorem WkOk.drop (h:WkOk nx n S (T ++ [(a,y :: l)]) out) (hy:S[y.toNat]? = some true):WkOk nx n S (T ++ [(a,l)]) out:=by
 have hf:(T ++ [(a,l)]).map Prod.fst = (T ++ [(a,y :: l)]).map Prod.fst:=by simp
 refine ⟨h.len,by have:=h.cnt; simpa using this,fun x hx=>?_,h.outs,fun k hk=>by rw [hf]; exact h.cover k hk,fun A x z B e=>?_,fun x B e=>?_,fun B x A e=>?_,h.zero⟩
 ·rcases List.mem_append.1 hx with hx | hx
  ·exact h.sts x (List.mem_append_left _ hx)
  ·rw [List.mem_singleton] at hx; subst hx
   obtain ⟨h1,h2,h3,h4⟩:=h.sts (a,y :: l) (by simp)
   refine ⟨h1,h2,fun z hz=>?_,fun z hz=>h4 z (.tail _ hz)⟩
   rcases h3 z hz with h3 | h3
   ·rcases List.mem_cons.1 h3 with rfl | h3
    ·exact .inr hy
    ·exact .inl h3
   ·exact .inr h3
 ·rcases tail_split (z:=x) e rfl with ⟨rfl,rfl,rfl⟩ | ⟨B',rfl,rfl⟩
  ·exact h.chain A x (a,y :: l) [] (by simp)
  ·exact h.chain A x z (B' ++ [(a,y :: l)]) (by simp)
 ·cases T with
  | nil=>simp at e; rw [← e.1]; exact h.bottom (a,y :: l) [] rfl
  | cons t T=>simp at e; rw [← e.1]; exact h.bottom t (T ++ [(a,y :: l)]) rfl
 ·rcases h.order B x A e with ⟨h1,_⟩ | h1
  ·simp at h1
  ·rw [hf]; exact .inr h1
theorem WkOk.push (hr:∀ a,a < n→∀ y,y ∈ nx a→0 ≤ y∧y < n) (h:WkOk nx n S (T ++ [(a,y :: l)]) out) (hy:S[y.toNat]? = some false):WkOk nx n (S.set y.toNat true) (T ++ [(a,l)] ++ [(y.toNat,nx y.toNat)]) out:=by
 obtain ⟨h1,h2,h3,h4⟩:=h.sts (a,y :: l) (by simp)
 obtain ⟨y1,y2⟩:=hr a h1 y (h4 y (.head _))
 have hyl:=(List.getElem?_eq_some_iff.1 hy).1
 have hself:(S.set y.toNat true)[y.toNat]? = some true:=List.getElem?_set_self hyl
 have hc:=count_set hy
 refine ⟨by rw [List.length_set]; exact h.len,by have:=h.cnt; simp at this ⊢; omega,fun x hx=>?_,fun x hx=>?_,fun k hk=>?_,fun A x z B e=>?_,fun x B e=>?_,fun B x A e=>?_,set_keep h.zero⟩
 ·rcases List.mem_append.1 hx with hx | hx
  ·rcases List.mem_append.1 hx with hx | hx
   ·obtain ⟨q1,q2,q3,q4⟩:=h.sts x (List.mem_append_left _ hx)
    exact ⟨q1,set_keep q2,fun z hz=>(q3 z hz).imp id set_keep,q4⟩
   ·rw [List.mem_singleton] at hx; subst hx
    refine ⟨h1,set_keep h2,fun z hz=>?_,fun z hz=>h4 z (.tail _ hz)⟩
    rcases h3 z hz with h3 | h3
    ·rcases List.mem_cons.1 h3 with rfl | h3
     ·exact .inr hself
     ·exact .inl h3
    ·exact .inr (set_keep h3)
  ·rw [List.mem_singleton] at hx; subst hx
   exact ⟨by simp only; omega,hself,fun z hz=>.inl hz,fun z hz=>hz⟩
 ·obtain ⟨q1,q2,q3⟩:=h.outs x hx
  exact ⟨q1,q2,fun z hz=>set_keep (q3 z hz)⟩
 ·by_cases e:y.toNat = k
  ·subst e; exact .inr (by simp)
  ·rw [List.getElem?_set_ne e] at hk
   rcases h.cover k hk with q | q
   ·exact .inl q
   ·refine .inr ?_
    simp at q ⊢
    rcases q with q | q
    ·exact .inl q
    ·exact .inr (.inl q)
 ·rcases tail_split (z:=x) e rfl with ⟨rfl,rfl,e2⟩ | ⟨B',rfl,e2⟩
  ·obtain ⟨e3,e4⟩:=List.append_inj' e2 rfl
   simp at e4
   subst e4
   simp only
   rw [Int.toNat_of_nonneg y1]
   exact h4 y (.head _)
  ·rcases tail_split (z:=x) e2 rfl with ⟨rfl,rfl,rfl⟩ | ⟨B2,rfl,rfl⟩
   ·exact h.chain A x (a,y :: l) [] (by simp)
   ·exact h.chain A x z (B2 ++ [(a,y :: l)]) (by simp)
 ·cases T with
  | nil=>simp at e; rw [← e.1]; exact h.bottom (a,y :: l) [] rfl
  | cons t T=>simp at e; rw [← e.1]; exact h.bottom t (T ++ [(a,y :: l)]) rfl
 ·rcases h.order B x A e with ⟨q,_⟩ | ⟨p,q1,q2⟩
  ·simp at q
  ·refine .inr ⟨p,q1.imp id fun q=>?_,q2⟩
   simp at q ⊢
   rcases q with q | q
   ·exact .inl q
   ·exact .inr (.inl q)
theorem WkOk.pop (h:WkOk nx n S (T ++ [(a,[])]) out):WkOk nx n S T (out ++ [(a:Int)]):=by
 obtain ⟨h1,h2,h3,h4⟩:=h.sts (a,[]) (by simp)
 refine ⟨h.len,by have:=h.cnt; simp at this ⊢; omega,fun x hx=>h.sts x (List.mem_append_left _ hx),fun x hx=>?_,fun k hk=>?_,fun A x z B e=>?_,fun x B e=>?_,fun B x A e=>?_,h.zero⟩
 ·rcases List.mem_append.1 hx with hx | hx
  ·exact h.outs x hx
  ·rw [List.mem_singleton] at hx; subst hx
   refine ⟨by omega,by omega,fun z hz=>?_⟩
   rcases h3 z (by simpa using hz) with h3 | h3
   ·cases h3
   ·exact h3
 ·rcases h.cover k hk with q | q
  ·exact .inl (List.mem_append_left _ q)
  ·simp at q
   rcases q with ⟨b,q⟩ | rfl
   ·exact .inr (List.mem_map.2 ⟨(k,b),q,rfl⟩)
   ·exact .inl (by simp)
 ·exact h.chain A x z (B ++ [(a,[])]) (by rw [e]; simp)
 ·exact h.bottom x (B ++ [(a,[])]) (by rw [e]; simp)
 ·rcases List.eq_nil_or_concat A with rfl | ⟨A',b,rfl⟩
  ·obtain ⟨e1,e2⟩:=List.append_inj' e rfl
   simp at e2
   subst e2
   rcases List.eq_nil_or_concat T with rfl | ⟨T',t,rfl⟩
   ·refine .inl ⟨rfl,rfl,?_⟩
    have:=h.bottom (a,[]) [] rfl
    simp at this
    simp [this]
   ·rw [List.concat_eq_append] at *
    refine .inr ⟨t.1,.inr (by simp),?_⟩
    exact h.chain T' t (a,[]) [] (by simp)
  ·rw [List.concat_eq_append] at e
   have e':out ++ [(a:Int)] = (B ++ x :: A') ++ [b]:=by rw [e]; simp
   obtain ⟨e1,e2⟩:=List.append_inj' e' rfl
   simp at e2
   subst e2
   rcases h.order B x A' e1 with ⟨q,_⟩ | ⟨p,q1,q2⟩
   ·simp at q
   ·refine .inr ⟨p,?_,q2⟩
    rw [List.concat_eq_append]
    rcases q1 with q1 | q1
    ·exact .inl (List.mem_append_left _ q1)
    ·simp at q1
     rcases q1 with ⟨b,q⟩ | rfl
     ·exact .inr (List.mem_map.2 ⟨(p,b),q,rfl⟩)
     ·exact .inl (by simp)
structure OrderOk (nx:Nat→List Int) (n:Nat) (l:List Int):Prop where
 inr:∀ x,x ∈ l→0 ≤ x∧x < n
 closed:∀ x,x ∈ l→∀ y,y ∈ nx x.toNat→0 ≤ y→y ∈ l
 zero:(0:Int) ∈ l
 len:l.length ≤ n
 pre:∀ A x B,l = A ++ x :: B→(A = []∧x = 0) ∨ ∃ p:Nat,(p:Int) ∈ A∧x ∈ nx p
theorem WkOk.done (h:WkOk nx n S [] out):OrderOk nx n out.reverse:=by
 refine ⟨fun x hx=>?_,fun x hx y hy h0=>?_,?_,?_,fun A x B e=>?_⟩
 ·have:=h.outs x (by simpa using hx); exact ⟨this.1,this.2.1⟩
 ·have h1:=(h.outs x (by simpa using hx)).2.2 y hy
  rcases h.cover _ h1 with q | q
  ·rw [Int.toNat_of_nonneg h0] at q; simpa using q
  ·simp at q
 ·rcases h.cover 0 h.zero with q | q
  ·simpa using q
  ·simp at q
 ·have:=h.cnt; simp at this ⊢; omega
 ·have e':out = B.reverse ++ x :: A.reverse:=by
   have:=congrArg List.reverse e
   simpa using this
  rcases h.order _ _ _ e' with ⟨_,q2,q3⟩ | ⟨p,q1,q2⟩
  ·exact .inl ⟨by simpa using q2,q3⟩
  ·rcases q1 with q1 | q1
   ·exact .inr ⟨p,by simpa using q1,q2⟩
   ·simp at q1
end Go.Proofs.YticliodhjfednaaGreat
