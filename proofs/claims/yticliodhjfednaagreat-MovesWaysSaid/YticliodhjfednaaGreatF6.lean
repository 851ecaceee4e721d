/- flow.walk, flow.Order. Conditions: none. -/
import Derived.Test.YticliodhjfednaaGreatF4
import Derived.Test.YticliodhjfednaaGreatF5
set_option linter.unusedSimpArgs false
set_option linter.unusedVariables false
namespace Go.Proofs.YticliodhjfednaaGreat
open Go Go.Ab
variable {ext:Sem'}
def nxC (c:Cd1) (a:Nat):List Int:=match c.ins[a]? with
 | some i=>nxtI i a
 | none=>[]
def inrC (c:Cd1):Prop:=∀ a,a < c.ins.length→∀ y,y ∈ nxC c a→0 ≤ y∧y < c.ins.length
def isA (l:List Int):List AV:=l.map avI
theorem is_refs (l:List Int):((isA l).map refs).flatten = []:=by
 induction l with
 | nil=>rfl
 | cons k l ih=>show refs (avI k) ++ ((isA l).map refs).flatten = []; rw [ih]; rfl
theorem is_ren (f:Nat→Nat) (l:List Int):(isA l).map (ren f) = isA l:=by
 induction l with
 | nil=>rfl
 | cons k l ih=>show ren f (avI k) :: (isA l).map (ren f) = avI k :: isA l; rw [ih]; rfl
theorem is_len (l:List Int):(isA l).length = l.length:=List.length_map _
theorem bs_rp:∀ l:List Bool,hasRpL (bsA l) = false
 | []=>rfl
 | b :: l=>by show (hasRp (bA b) || hasRpL (bsA l)) = false; rw [bs_rp l]; rfl
theorem is_rp:∀ l:List Int,hasRpL (isA l) = false
 | []=>rfl
 | b :: l=>by show (hasRp (avI b) || hasRpL (isA l)) = false; rw [is_rp l]; rfl
theorem sps_rp:∀ l:List Sp,hasRpL (spsA l) = false
 | []=>rfl
 | b :: l=>by show (hasRp (.d (.int .i64 b.1)) || (hasRp (.d (ints b.2)) || hasRpL (spsA l))) = false; rw [sps_rp l]; rfl
attribute [go_sem] is_refs is_ren bs_rp is_rp sps_rp
theorem left_e (hx:TX ext) (k:Int) (l:List Int) (hl:l.length ≤ 1000000) (e:Nat) (cs:List AV) (hcs:cs = isA l):G ext 83 [.d (.int .i64 k),.ptr 0 0] [.cells [.stk 1 e l.length],.stk e 1 cs] = some (.ret (.tuple []),[.cells [.stk 1 (e + 1) (l.length + 1)],.stk (e + 1) 1 (isA (l ++ [k]))]):=by
 have hrm:room (l.length + 1) 8:=by unfold room; simp; omega
 have htk:cs.take l.length = isA l:=by rw [hcs,← is_len,List.take_length]
 have hle:l.length ≤ cs.length:=by rw [hcs,is_len]; exact Nat.le_refl _
 have hap:isA l ++ [.d (.int .i64 k)] = isA (l ++ [k]):=by simp [isA,avI]
 rw [G_body hx.clear rfl Tryz.func83 rfl Tryz.results83 hv_83 rfl]
 simp (maxSteps:=4000000) (disch:=first | (intros; contradiction) | omega) only [go_sem,hrm,htk,hle,hap,Nat.mul_one]
theorem enter2 (hx:TF ext) (c:Cd1) (k:Nat) (hk1:k < c.ins.length) (hk:c.ins.length ≤ 1000000) (hr:inrC c) (S:List Bool) (hS:S.length = c.ins.length) (l:List Sp) (hl:l.length ≤ 1000000) (e:Nat) (cs:List AV) (hcs:cs.take (l.length * 2) = spsA l) :
  G ext 117 [.d (.int .i64 k),.ptr 0 0,.ptr 2 0,.ptr 4 0,.ptr 5 0] [.cells [.arr 1 0 c.ins.length 1],.cells (bsA S),.cells [.stk 3 e l.length],.stk e 2 cs,.cells (cC c),.cells [.fn 82 [] []]]
   = some (.ret (.d (.bool true)),[.cells [.arr 1 0 c.ins.length 1],.cells (bsA (S.set k true)),.cells [.stk 3 (e + 1) (l.length + 1)],.stk (e + 1) 2 (spsA (l ++ [(k,nxC c k)])),.cells (cC c),.cells [.fn 82 [] []]]):=by
 have hg:c.ins[k]? = some c.ins[k]:=List.getElem?_eq_getElem hk1
 have hnx:nxC c k = nxtI c.ins[k] k:=by unfold nxC; rw [hg]
 rw [hnx]
 refine enter_e hx c k hg hk (fun x hx2=>?_) S hS l hl e cs hcs
 have:=hr k hk1 x (by rw [hnx]; exact hx2)
 unfold offP
 simp; omega
theorem sps_take (T J:List Sp):(spsA (T ++ J)).take (T.length * 2) = spsA T:=by
 rw [sps_app,List.take_append_of_le_length (by rw [sps_len]; exact Nat.le_refl _),← sps_len,List.take_length]
theorem sps_cut (T J:List Sp) (a:Nat) (l:List Int):spsA (T ++ (a,l) :: J) = (spsA T ++ [.d (.int .i64 a)]) ++ (.d (ints l) :: spsA J):=by
 rw [sps_app]; simp [spsA,spA]
theorem sps_top {T J:List Sp} {a:Nat} {l:List Int}:(spsA (T ++ (a,l) :: J))[T.length * 2]? = some (.d (.int .i64 a))∧(spsA (T ++ (a,l) :: J))[T.length * 2 + 1]? = some (.d (ints l))∧T.length * 2 + 1 + 1 ≤ (spsA (T ++ (a,l) :: J)).length:=by
 have h3:=sps_len T
 rw [sps_cut]
 refine ⟨?_,?_,?_⟩
 ·rw [List.getElem?_append_left (by simp; omega),List.getElem?_append_right (by omega),h3,Nat.sub_self]; rfl
 ·rw [List.getElem?_append_right (by simp; omega)]; simp [h3]
 ·simp [h3]; omega
theorem sps_put {T J:List Sp} {a:Nat} {l l':List Int}:List.take (T.length * 2 + 1) (spsA (T ++ (a,l) :: J)) ++ [AV.d (ints l')] ++ List.drop (T.length * 2 + 1 + 1) (spsA (T ++ (a,l) :: J)) = spsA (T ++ (a,l') :: J):=by
 have h3:=sps_len T
 have h4:(spsA T ++ [AV.d (.int .i64 a)]).length = T.length * 2 + 1:=by simp [h3]
 rw [sps_cut,sps_cut,← h4,List.take_left',List.drop_append,List.drop_of_length_le (by omega)]
 ·rw [h4]; simp
 ·rfl
def wkM (S:List Bool) (st:List Sp):Nat:=4 * S.count false + (st.map fun x=>x.2.length).sum + st.length
structure Ws where
 S:List Bool
 st:List Sp
 out:List Int
 eo:Nat
 es:Nat
 J:List Sp
set_option maxHeartbeats 2000000 in
theorem walk_e (hx:TF ext) (c:Cd1) (hk:c.ins.length ≤ 1000000) (hn:0 < c.ins.length) (hr:inrC c) :
  ∃ S out e,WkOk (nxC c) c.ins.length S [] out∧G ext 81 [c.av,.d (.int .i64 0),.fn 82 [] [],.fn 83 [] [.ptr 0 0]] [.cells [.stk 1 0 0],.stk 0 1 []] = some (.ret (.tuple []),[.cells [.stk 1 e out.length],.stk e 1 (isA out)]):=by
 have h0:=enter2 hx c 0 hn hk hr (List.replicate c.ins.length false) (by simp) [] (by simp) 0 [] rfl
 have hrep:List.replicate c.ins.length (AV.d (.bool false)) = bsA (List.replicate c.ins.length false):=by unfold bsA; rw [List.map_replicate]; rfl
 have hrm:room c.ins.length 1:=by unfold room; simp; omega
 have hil:(c.ins.map In1.row).length = c.ins.length:=List.length_map _
 have h01:0 ≤ (c.ins.length:Int):=by omega
 have hfl:(List.replicate c.ins.length [AV.d (.bool false)]).flatten = bsA (List.replicate c.ins.length false):=by
  rw [← hrep]
  generalize c.ins.length = n
  induction n with
  | zero=>rfl
  | succ n ih=>simp only [List.replicate_succ,List.flatten_cons,ih]; rfl
 simp only [List.length_nil,Nat.zero_add,List.nil_append] at h0
 rw [show ((0:Nat):Int) = 0 from rfl] at h0
 suffices hs:∃ r,G ext 81 [c.av,.d (.int .i64 0),.fn 82 [] [],.fn 83 [] [.ptr 0 0]] [.cells [.stk 1 0 0],.stk 0 1 []] = r∧∃ S out e,WkOk (nxC c) c.ins.length S [] out∧r = some (.ret (.tuple []),[.cells [.stk 1 e out.length],.stk e 1 (isA out)]) by
  obtain ⟨r,h1,S,out,e,h2,h3⟩:=hs
  exact ⟨S,out,e,h2,h1.trans h3⟩
 refine ⟨_,rfl,?_⟩
 rw [G_body hx.clear rfl Tryz.func81 rfl Tryz.results81 hv_81 rfl]
 simp only [Cd1.av]
 simp only [cC] at h0
 have hle:=Int.le_refl (c.ins.length:Int)
 simp (maxSteps:=4000000) (disch:=first | (intros; contradiction) | omega) only [go_sem,hil,hrm,h01,hle,hfl,h0]
 generalize hL:loopA _ _ _ = L
 have hw0:=WkOk.init (nx:=nxC c) hr hn
 have hnl:∀ a,(nxC c a).length ≤ 2:=fun a=>by
  unfold nxC
  cases c.ins[a]? with
  | none=>simp
  | some i=>exact nxtI_len i a
 apply loop_upd hL (by simp (maxSteps:=4000000) (disch:=first | (intros; contradiction) | omega) only [go_sem] <;> rfl) (α:=Ws) (fun x=>WkOk (nxC c) c.ins.length x.S x.st x.out) (fun x=>wkM x.S x.st) (fun _=>[])
  (fun x=>[(0,.cells [.stk 1 x.eo x.out.length]),(1,.stk x.eo 1 (isA x.out)),(4,.cells (bsA x.S)),(6,.cells [.stk 7 x.es x.st.length]),(7,.stk x.es 2 (spsA (x.st ++ x.J)))])
  ⟨(List.replicate c.ins.length false).set 0 true,[(0,nxC c 0)],[],0,1,[]⟩ (by simp (maxSteps:=4000000) (disch:=first | (intros; contradiction) | omega) only [go_sem] <;> rfl) hw0 ?_
 rintro ⟨S,st,out,eo,es,J⟩ w1 next ih
 clear hL h0 hw0
 simp only at w1 ih ⊢
 rcases List.eq_nil_or_concat st with rfl | ⟨T,⟨a,l⟩,rfl⟩
 ·refine ⟨S,out,eo,w1,?_⟩
  simp (maxSteps:=4000000) (disch:=first | (intros; contradiction) | omega) only [go_sem]
 ·rw [List.concat_eq_append] at *
  have hsl:(T ++ [(a,l)]).length = T.length + 1:=by simp
  have hcnt:=w1.cnt
  rw [hsl] at hcnt
  have hpos:0 < ((T.length + 1:Nat):Int):=by omega
  have hsub:((T.length + 1:Nat):Int) - 1 = (T.length:Int):=by omega
  have hi0:0 ≤ (T.length:Int):=by omega
  have hi1:(T.length:Int) < ((T.length + 1:Nat):Int):=by omega
  have hi2:(T.length:Int) ≤ ((T.length + 1:Nat):Int):=by omega
  have hass:T ++ [(a,l)] ++ J = T ++ (a,l) :: J:=by simp
  rw [hsl,hass]
  simp (maxSteps:=4000000) (disch:=first | (intros; contradiction) | omega) only [go_sem,hpos,hsub,hi0,hi1,wrap64]
  generalize hL:loopA _ _ _ = L
  apply loop_upd hL (by simp (maxSteps:=4000000) (disch:=first | (intros; contradiction) | omega) only [go_sem] <;> rfl) (α:=List Int) (fun x=>WkOk (nxC c) c.ins.length S (T ++ [(a,x)]) out∧x.length ≤ l.length) (fun x=>x.length) (fun _=>[])
   (fun x=>[(7,.stk es 2 (spsA (T ++ (a,x) :: J)))]) l (by simp (maxSteps:=4000000) (disch:=first | (intros; contradiction) | omega) only [go_sem] <;> rfl) ⟨w1,Nat.le_refl _⟩ ?_
  rintro l' ⟨v1,v3⟩ next2 ih2
  clear hL w1
  obtain ⟨t1,t2,t3⟩:=sps_top (T:=T) (J:=J) (a:=a) (l:=l')
  have hout:out.length ≤ 1000000:=by omega
  have hT:T.length ≤ 1000000:=by omega
  cases l' with
  | nil=>
   clear ih2
   replace t2:_ = some (AV.d (.sl [])):=t2
   have hlf:=left_e hx.toTX (a:Int) out hout eo (isA out) rfl
   have hla:(out ++ [(a:Int)]).length = out.length + 1:=by simp
   simp (maxSteps:=4000000) (disch:=first | (intros; contradiction) | omega) only [go_sem,t1,t2,hlf,hsub,hi0,hi1,hi2,wrap64]
   exact ih ⟨S,T,out ++ [(a:Int)],eo + 1,es,(a,[]) :: J⟩ _ v1.pop (by unfold wkM; simp; omega) (by simp (maxSteps:=4000000) (disch:=first | (intros; contradiction) | omega) only [go_sem,hla] <;> rfl)
  | cons y q=>
   replace t2:_ = some (AV.d (.sl (rowI y :: q.map rowI))):=t2
   simp only [rowI] at t2
   obtain ⟨h1,h2,h3,h4⟩:=v1.sts (a,y :: q) (by simp)
   obtain ⟨y1,y2⟩:=hr a h1 y (h4 y (.head _))
   have hS:=v1.len
   have hyl:y.toNat < S.length:=by omega
   have hg:S[y.toNat]? = some S[y.toNat]:=List.getElem?_eq_getElem hyl
   have hb:=bs_at hg
   have hq0:0 < (((q.map rowI).length + 1:Nat):Int):=by omega
   have hq1:1 ≤ (((q.map rowI).length + 1:Nat):Int):=by omega
   have hput:List.take (T.length * 2 + 1) (spsA (T ++ (a,y :: q) :: J)) ++ [AV.d (.sl (q.map rowI))] ++ List.drop (T.length * 2 + 1 + 1) (spsA (T ++ (a,y :: q) :: J)) = spsA (T ++ (a,q) :: J):=sps_put
   have hfit:fits 1 (q.map rowI):=by intro row h; obtain ⟨x,_,rfl⟩:=List.mem_map.1 h; rfl
   cases hc:S[y.toNat] with
   | true=>
    rw [hc] at hb hg
    simp (maxSteps:=4000000) (disch:=first | (intros; contradiction) | omega) only [go_sem,t1,t2,t3,y1,y2,hb,Nat.mul_one,hq0,hq1,hput,hfit]
    exact ih2 q _ ⟨v1.drop hg,by simp at v3; omega⟩ (by simp) (by simp (maxSteps:=4000000) (disch:=first | (intros; contradiction) | omega) only [go_sem] <;> rfl)
   | false=>
    rw [hc] at hb hg
    have hsl2:(T ++ [(a,q)]).length = T.length + 1:=by simp
    have hass2:T ++ [(a,q)] ++ J = T ++ (a,q) :: J:=by simp
    have he:=enter2 hx c y.toNat (by omega) hk hr S hS (T ++ [(a,q)]) (by omega) es (spsA (T ++ (a,q) :: J)) (by rw [← hass2]; exact sps_take _ _)
    rw [hsl2,Int.toNat_of_nonneg y1] at he
    simp only [cC] at he
    have hpu:=v1.push hr hg
    have hcs:=count_set hg
    have hla:(T ++ [(a,q)] ++ [(y.toNat,nxC c y.toNat)]).length = T.length + 1 + 1:=by simp
    have hmu:wkM (S.set y.toNat true) (T ++ [(a,q)] ++ [(y.toNat,nxC c y.toNat)]) < wkM S (T ++ [(a,l)]):=by
     unfold wkM
     have:=hnl y.toNat
     simp at v3 ⊢
     omega
    simp (maxSteps:=4000000) (disch:=first | (intros; contradiction) | omega) only [go_sem,t1,t2,t3,y1,y2,hb,Nat.mul_one,hq0,hq1,hput,hfit,he]
    exact ih ⟨S.set y.toNat true,T ++ [(a,q)] ++ [(y.toNat,nxC c y.toNat)],out,eo,es + 1,[]⟩ _ hpu hmu (by simp (maxSteps:=4000000) (disch:=first | (intros; contradiction) | omega) only [go_sem,hla,List.append_nil] <;> rfl)
end Go.Proofs.YticliodhjfednaaGreat
