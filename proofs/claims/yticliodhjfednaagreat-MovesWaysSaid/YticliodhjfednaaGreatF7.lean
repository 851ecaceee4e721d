/- slices.Reverse, flow.Order. Conditions: none. -/
import Derived.Test.YticliodhjfednaaGreatF6
set_option linter.unusedSimpArgs false
set_option linter.unusedVariables false
namespace Go.Proofs.YticliodhjfednaaGreat
open Go Go.Ab
variable {ext:Sem'}
theorem is_at {l:List Int} {i:Nat} (h:i < l.length):(isA l)[i]? = some (.d (.int .i64 (l.getD i 0))):=by
 unfold isA
 rw [List.getElem?_map,List.getElem?_eq_getElem h]
 simp [avI,List.getD_eq_getElem?_getD,List.getElem?_eq_getElem h]
theorem is_set {l:List Int} {i:Nat} (h:i < l.length) (x:Int):List.take i (isA l) ++ [AV.d (.int .i64 x)] ++ List.drop (i + 1) (isA l) = isA (l.set i x):=by
 unfold isA
 rw [List.set_eq_take_append_cons_drop,if_pos h]
 simp [avI]
theorem getDI_set {A:List Int} {i j:Nat} {x:Int} (h:i < A.length):(A.set i x).getD j 0 = if i = j then x else A.getD j 0:=by
 rw [List.getD_eq_getElem?_getD,List.getD_eq_getElem?_getD,List.getElem?_set]
 split
 ·subst_vars; simp [h]
 ·rfl
theorem rev_e (hx:TX ext) (l:List Int) (hl:l.length ≤ 1000000) (e:Nat):G ext 84 [.stk 0 e l.length] [.stk e 1 (isA l)] = some (.ret (.tuple []),[.stk e 1 (isA l.reverse)]):=by
 have hw:((l.length:Int) - 1) = (l.length:Int) - 1:=rfl
 rw [G_body hx.clear rfl Tryz.func84 rfl Tryz.results84 hv_84 rfl]
 simp (maxSteps:=4000000) (disch:=first | (intros; contradiction) | omega) only [go_sem,wrap64]
 generalize hL:loopA _ _ _ = L
 apply loop_upd hL (by simp (maxSteps:=4000000) (disch:=first | (intros; contradiction) | omega) only [go_sem] <;> rfl) (α:=Nat × Int × List Int) (fun x=>x.2.1 = (l.length:Int) - 1 - x.1∧x.2.2.length = l.length∧x.1 ≤ l.length∧∀ k,k < l.length→x.2.2.getD k 0 = if k < x.1 ∨ l.length ≤ k + x.1 then l.getD (l.length - 1 - k) 0 else l.getD k 0) (fun x=>l.length - x.1)
  (fun x=>[(2,.d (.int .i64 x.1)),(3,.d (.int .i64 x.2.1))]) (fun x=>[(0,.stk e 1 (isA x.2.2))]) (0,(l.length:Int) - 1,l) (by simp (maxSteps:=4000000) (disch:=first | (intros; contradiction) | omega) only [go_sem] <;> rfl) ⟨by simp,rfl,by omega,fun k hk=>by rw [if_neg (by omega)]⟩ ?_
 rintro ⟨i,j,A⟩ ⟨q1,q2,q3,q4⟩ next ih
 clear hL
 simp only at q1 q2 q3 q4 ih ⊢
 by_cases hlt:(i:Int) < j
 ·obtain ⟨jn,rfl⟩:∃ jn:Nat,j = (jn:Int):=⟨j.toNat,by omega⟩
  have ai:=is_at (l:=A) (i:=i) (by omega)
  have aj:=is_at (l:=A) (i:=jn) (by omega)
  have s1:=is_set (l:=A) (i:=i) (by omega) (A.getD jn 0)
  have s2:=is_set (l:=A.set i (A.getD jn 0)) (i:=jn) (by rw [List.length_set]; omega) (A.getD i 0)
  have b1:i + 1 ≤ (isA A).length:=by rw [is_len]; omega
  have b2:jn + 1 ≤ (isA (A.set i (A.getD jn 0))).length:=by rw [is_len,List.length_set]; omega
  have b3:jn + 1 ≤ (isA A).length:=by rw [is_len]; omega
  have c1:(i:Int) < (l.length:Int):=by omega
  have c2:(jn:Int) < (l.length:Int):=by omega
  have c3:0 ≤ (i:Int):=by omega
  have c4:0 ≤ (jn:Int):=by omega
  have hI:(jn:Int) - 1 = (l.length:Int) - 1 - ((i + 1:Nat):Int)∧((A.set i (A.getD jn 0)).set jn (A.getD i 0)).length = l.length∧i + 1 ≤ l.length∧∀ k,k < l.length→((A.set i (A.getD jn 0)).set jn (A.getD i 0)).getD k 0 = if k < i + 1 ∨ l.length ≤ k + (i + 1) then l.getD (l.length - 1 - k) 0 else l.getD k 0:=by
   refine ⟨by omega,by simp [q2],by omega,fun k hk=>?_⟩
   rw [getDI_set (by rw [List.length_set]; omega),getDI_set (by omega)]
   by_cases e1:jn = k
   ·subst e1
    rw [if_pos rfl,q4 i (by omega),if_neg (by omega),if_pos (by omega),show l.length - 1 - jn = i by omega]
   ·rw [if_neg e1]
    by_cases e2:i = k
    ·subst e2
     rw [if_pos rfl,q4 jn (by omega),if_neg (by omega),if_pos (by omega),show l.length - 1 - i = jn by omega]
    ·rw [if_neg e2,q4 k hk]
     by_cases e3:k < i ∨ l.length ≤ k + i
     ·rw [if_pos e3,if_pos (by omega)]
     ·rw [if_neg e3,if_neg (by omega)]
  clear q4
  have hmu:l.length - (i + 1) < l.length - i:=by omega
  simp (maxSteps:=4000000) (disch:=first | (intros; contradiction) | omega) only [go_sem,hlt,ai,aj,s1,s2,b1,b2,b3,c1,c2,c3,c4,Nat.mul_one,wrap64]
  exact ih (i + 1,(jn:Int) - 1,_) _ hI hmu (by simp (maxSteps:=4000000) (disch:=first | (intros; contradiction) | omega) only [go_sem] <;> rfl)
 ·have eA:A = l.reverse:=by
   apply List.ext_getElem (by simp [q2])
   intro k h1 h2
   have:=q4 k (by omega)
   rw [List.getD_eq_getElem?_getD,List.getElem?_eq_getElem h1] at this
   simp only [Option.getD_some] at this
   rw [this,List.getElem_reverse]
   split
   ·rw [List.getD_eq_getElem?_getD,List.getElem?_eq_getElem (by omega)]; rfl
   ·rename_i hn
    have hkk:k = l.length - 1 - k:=by omega
    rw [List.getD_eq_getElem?_getD,List.getElem?_eq_getElem (by omega)]
    simp only [Option.getD_some]
    congr 1
  simp (maxSteps:=4000000) (disch:=first | (intros; contradiction) | omega) only [go_sem,hlt]
  rw [eA]
theorem isData (l:List Int):dataAs (isA l) = some (l.map fun x=>Dt.int .i64 x):=by
 induction l with
 | nil=>rfl
 | cons x l ih=>show (match some (Dt.int .i64 x),dataAs (isA l) with | some x,some xs=>some (x :: xs) | _,_=>none) = _; rw [ih]; rfl
theorem chunkI (l:List Int):chunk 1 l.length (l.map fun x=>Dt.int .i64 x) = l.map rowI:=by
 induction l with
 | nil=>rfl
 | cons x l ih=>simp only [List.length_cons,List.map_cons,chunk,List.take_succ_cons,List.take_zero,List.drop_succ_cons,List.drop_zero,ih]; rfl
theorem isChunk (l:List Int):chunkK 1 l.length (dataAs (List.take (l.length * 1) (isA l))) = some (l.map rowI):=by
 rw [Nat.mul_one,← is_len l,List.take_length,isData,is_len]
 simp only [chunkK]
 rw [chunkI]
theorem order_e (hx:TF ext) (c:Cd1) (hk:c.ins.length ≤ 1000000) (hn:0 < c.ins.length) (hr:inrC c) :
  ∃ l,OrderOk (nxC c) c.ins.length l∧G ext 45 [c.av] [] = some (.ret (.d (ints l)),[]):=by
 obtain ⟨S,out,e,h1,h2⟩:=walk_e hx c hk hn hr
 have hd:=h1.done
 have hol:out.length ≤ 1000000:=by have:=hd.len; simp at this; omega
 have h3:=rev_e hx.toTX out hol e
 refine ⟨out.reverse,hd,?_⟩
 have hil:(c.ins.map In1.row).length = c.ins.length:=List.length_map _
 have hne:((c.ins.length:Int) = 0) = False:=eq_false (by omega)
 have hch:=isChunk out.reverse
 rw [List.length_reverse] at hch
 have hlc:out.length * 1 ≤ (isA out.reverse).length:=by rw [is_len]; simp
 have hii:ints out.reverse = .sl (out.reverse.map rowI):=rfl
 rw [G_body hx.clear rfl Tryz.func45 rfl Tryz.results45 hv_45 rfl]
 simp only [Cd1.av] at h2 ⊢
 simp (maxSteps:=4000000) (disch:=first | (intros; contradiction) | omega) only [go_sem,hil,hne,h2,h3,hch,hlc,hii]
end Go.Proofs.YticliodhjfednaaGreat
