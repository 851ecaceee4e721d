/- Moves, plain: what tables say, by ways. Conditions: none. -/
import Derived.Test.YticliodhjfednaaGreatG3
set_option linter.unusedSimpArgs false
set_option linter.unusedVariables false
namespace Go.Proofs.YticliodhjfednaaGreat
def trI (i:In1) (v:Nat) (b:Bool):Bool:=if hasD i.op = true∧i.d = v then true else if (v:Int) ∈ awayI i then false else b
inductive Rch (c:Cd1):Nat→Prop
 | zero:Rch c 0
 | step {k y:Nat} {i:In1} (h:Rch c k) (hi:c.ins[k]? = some i) (hy:(y:Int) ∈ nxC c k):Rch c y
inductive Can (c:Cd1) (v:Nat):Nat→Bool→Prop
 | zero:Can c v 0 (decide (v < c.params.toNat))
 | step {k y:Nat} {i:In1} {b:Bool} (h:Can c v k b) (hi:c.ins[k]? = some i) (hy:(y:Int) ∈ nxC c k):Can c v y (trI i v b)
theorem clr_bit (w:BitVec 64) (k i:Nat) (hi:i < 64):(clrW w k).getLsbD i = (if k = i then false else w.getLsbD i):=by
 unfold clrW
 rw [BitVec.getLsbD_and,BitVec.getLsbD_not,BitVec.getLsbD_shiftLeft]
 by_cases h:k = i
 ·subst h; simp [hi]
 ·rw [if_neg h]
  by_cases h2:i < k
  ·simp [hi,h2]
  ·have:(1#64).getLsbD (i - k) = false:=by rw [BitVec.getLsbD_one]; simp; omega
   simp [hi,h2,this]
theorem set_bit (w:BitVec 64) (k i:Nat) (hi:i < 64):(setW w k).getLsbD i = (if k = i then true else w.getLsbD i):=by
 unfold setW
 rw [BitVec.getLsbD_or,BitVec.getLsbD_shiftLeft]
 by_cases h:k = i
 ·subst h; simp [hi]
 ·rw [if_neg h]
  by_cases h2:i < k
  ·simp [hi,h2]
  ·have:(1#64).getLsbD (i - k) = false:=by rw [BitVec.getLsbD_one]; simp; omega
   simp [hi,h2,this]
theorem has_put {r:Rw} {u v:Nat} {b:Bool} (hu:u < 64 * r.length):hasQ (putB r u b) v = if u = v then b else hasQ r v:=by
 unfold hasQ putB
 have hul:u / 64 < r.length:=by omega
 rw [getD_set hul]
 by_cases h1:u / 64 = v / 64
 ·rw [if_pos h1,h1]
  have hm:v % 64 < 64:=Nat.mod_lt _ (by omega)
  cases b with
  | false=>
   rw [if_neg (by decide),clr_bit _ _ _ hm]
   by_cases h2:u = v
   ·subst h2; simp
   ·rw [if_neg h2,if_neg (by omega)]
  | true=>
   rw [if_pos rfl,set_bit _ _ _ hm,clr_bit _ _ _ hm]
   by_cases h2:u = v
   ·subst h2; simp
   ·rw [if_neg h2,if_neg (by omega),if_neg (by omega)]
 ·rw [if_neg h1,if_neg (by omega)]
theorem has_clrs {v:Nat}:∀ (l:List Int) (r:Rw),(∀ u,u ∈ l→0 ≤ u∧u < 64 * (r.length:Int))→hasQ (clrs r l) v = if (v:Int) ∈ l then false else hasQ r v
 | [],r,_=>by simp [clrs]
 | u :: l,r,h=>by
  obtain ⟨u0,u1⟩:=h u (.head _)
  rw [clrs,has_clrs l _ (fun w hw=>by rw [putB_len]; exact h w (.tail _ hw)),has_put (by omega)]
  by_cases h1:(v:Int) ∈ l
  ·rw [if_pos h1,if_pos (.tail _ h1)]
  ·rw [if_neg h1]
   by_cases h2:u.toNat = v
   ·rw [if_pos h2,if_pos (by rw [show (v:Int) = u by omega]; exact .head _)]
   ·rw [if_neg h2,if_neg]
    intro hm
    rcases List.mem_cons.1 hm with e | e
    ·omega
    ·exact h1 e
theorem has_beh {r:Rw} {i:In1} {v:Nat} (ha:∀ u,u ∈ awayI i→0 ≤ u∧u < 64 * (r.length:Int)) (hd:hasD i.op = true→0 ≤ i.d∧i.d < 64 * (r.length:Int)):hasQ (behB i (awayI i) r) v = trI i v (hasQ r v):=by
 unfold behB trI
 cases h:hasD i.op with
 | false=>simp [has_clrs _ _ ha]
 | true=>
  obtain ⟨d0,d1⟩:=hd h
  rw [if_pos rfl,has_put (by rw [clrs_len]; omega),has_clrs _ _ ha]
  by_cases e:i.d = v
  ·rw [if_pos (by omega),if_pos ⟨rfl,e⟩]
  ·have hne:¬ (true = true∧i.d = (v:Int)):=fun q=>e q.2
   rw [if_neg (show ¬ i.d.toNat = v by omega),if_neg hne]
theorem has_and {a b:Rw} {v:Nat} (h:b.length = a.length) (hv:v < 64 * a.length):hasQ (andL a b) v = (hasQ a v && hasQ b v):=by
 unfold hasQ andL
 rw [zip_getD (by omega) (by omega),BitVec.getLsbD_and]
theorem has_or {a b:Rw} {v:Nat} (h:b.length = a.length) (hv:v < 64 * a.length):hasQ (orL a b) v = (hasQ a v || hasQ b v):=by
 unfold hasQ orL
 rw [zip_getD (by omega) (by omega),BitVec.getLsbD_or]
theorem has_par (W v:Nat):∀ k,k ≤ 64 * W→hasQ (parB W k) v = decide (v < k)
 | 0,_=>by
  unfold hasQ parB
  rw [List.getD_eq_getElem?_getD,List.getElem?_replicate]
  split <;> simp
 | k + 1,h=>by
  rw [parB,has_put (by rw [parB_len]; omega),has_par W v k (by omega)]
  by_cases e:k = v
  ·subst e; simp
  ·rw [if_neg e,decide_eq_decide]; omega
structure Cd0 (c:Cd1):Prop where
 n:0 < c.ins.length
 inr:inrC c
 par:c.params.toNat ≤ 64 * wOf c
 ins:∀ (k:Nat) (i:In1),c.ins[k]? = some i→(∀ v,v ∈ awayI i→0 ≤ v∧v < 64 * (wOf c:Int))∧(hasD i.op = true→0 ≤ i.d∧i.d < 64 * (wOf c:Int))
theorem rv_len {c:Cd1} {V:Val} (h:Rv c V):V.length = c.ins.length∧∀ (k:Nat) (x:Rw × Rw),V[k]? = some (some x)→x.1.length = wOf c∧x.2.length = wOf c:=by
 induction h with
 | zero=>
  refine ⟨by simp [of0],fun k x hk=>?_⟩
  unfold of0 at hk
  rw [List.getElem?_set] at hk
  split at hk
  ·split at hk
   ·simp at hk; subst hk; exact ⟨parB_len _ _,parB_len _ _⟩
   ·cases hk
  ·rw [List.getElem?_replicate] at hk
   split at hk <;> simp at hk
 | step hv hi hx hy ih=>
  rename_i V k y i x
  obtain ⟨l1,l2⟩:=ih
  refine ⟨by rw [step_len]; exact l1,fun k' z hk'=>?_⟩
  obtain ⟨x1,x2⟩:=l2 k x hx
  unfold stepV at hk'
  split at hk'
  ·rename_i z0 hz
   obtain ⟨z1,z2⟩:=l2 y z0 hz
   simp only [List.getElem?_set] at hk'
   split at hk'
   ·split at hk'
    ·simp at hk'
     subst hk'
     exact ⟨by rw [andL_len (by rw [behB_len]; omega)]; exact z1,by rw [orL_len (by rw [behB_len]; omega)]; exact z2⟩
    ·cases hk'
   ·exact l2 k' z hk'
  ·simp only [List.getElem?_set] at hk'
   split at hk'
   ·split at hk'
    ·simp at hk'
     subst hk'
     exact ⟨by rw [behB_len]; exact x1,by rw [behB_len]; exact x2⟩
    ·cases hk'
   ·exact l2 k' z hk'
theorem can_ex {c:Cd1} {v k:Nat} (h:Rch c k):∃ b,Can c v k b:=by
 induction h with
 | zero=>exact ⟨_,.zero⟩
 | step h hi hy ih=>
  obtain ⟨b,hb⟩:=ih
  exact ⟨_,.step hb hi hy⟩
theorem can_tr {c:Cd1} {v k y:Nat} {i:In1} (hr:Rch c k) (hi:c.ins[k]? = some i) (hy:(y:Int) ∈ nxC c k) {B b:Bool} (h:trI i v B = b) (hc:B = b→Can c v k b):Can c v y b:=by
 obtain ⟨b0,hb0⟩:=can_ex (v:=v) hr
 have h0:=Can.step hb0 hi hy
 unfold trI at h
 by_cases h1:hasD i.op = true∧i.d = (v:Int)
 ·rw [if_pos h1] at h
  have e:trI i v b0 = true:=by unfold trI; rw [if_pos h1]
  rw [e] at h0
  rw [← h]; exact h0
 ·rw [if_neg h1] at h
  by_cases h2:(v:Int) ∈ awayI i
  ·rw [if_pos h2] at h
   have e:trI i v b0 = false:=by unfold trI; rw [if_neg h1,if_pos h2]
   rw [e] at h0
   rw [← h]; exact h0
  ·rw [if_neg h2] at h
   have h3:=Can.step (hc h) hi hy
   have e:trI i v b = b:=by unfold trI; rw [if_neg h1,if_neg h2]
   rw [e] at h3
   exact h3
theorem rv_sound {c:Cd1} (h0:Cd0 c) {V:Val} (h:Rv c V):∀ (k:Nat) (x:Rw × Rw),V[k]? = some (some x)→Rch c k∧∀ v,v < 64 * wOf c→(hasQ x.2 v = true→Can c v k true)∧(hasQ x.1 v = false→Can c v k false):=by
 induction h with
 | zero=>
  intro k x hk
  unfold of0 at hk
  rw [List.getElem?_set] at hk
  split at hk
  ·split at hk
   ·simp at hk
    subst hk
    rename_i e _
    subst e
    refine ⟨.zero,fun v hv=>⟨fun q=>?_,fun q=>?_⟩⟩
    ·rw [has_par _ _ _ h0.par] at q
     rw [← q]; exact .zero
    ·rw [has_par _ _ _ h0.par] at q
     rw [← q]; exact .zero
   ·cases hk
  ·rw [List.getElem?_replicate] at hk
   split at hk <;> simp at hk
 | step hv hi hx hy ih=>
  rename_i V k y i x
  obtain ⟨i1,i2⟩:=h0.ins k i hi
  obtain ⟨l1,l2⟩:=rv_len hv
  obtain ⟨x1,x2⟩:=l2 k x hx
  obtain ⟨r1,r2⟩:=ih k x hx
  have hbe:∀ v,v < 64 * wOf c→(hasQ (behB i (awayI i) x.2) v = true→Can c v y true)∧(hasQ (behB i (awayI i) x.1) v = false→Can c v y false):=fun v hv=>by
   refine ⟨fun q=>?_,fun q=>?_⟩
   ·rw [has_beh (by rw [x2]; exact i1) (by rw [x2]; exact i2)] at q
    exact can_tr r1 hi hy q (r2 v hv).1
   ·rw [has_beh (by rw [x1]; exact i1) (by rw [x1]; exact i2)] at q
    exact can_tr r1 hi hy q (r2 v hv).2
  intro k' z hk'
  unfold stepV at hk'
  split at hk'
  ·rename_i z0 hz
   obtain ⟨z1,z2⟩:=l2 y z0 hz
   simp only [List.getElem?_set] at hk'
   split at hk'
   ·rename_i e
    subst e
    split at hk'
    ·simp at hk'
     subst hk'
     refine ⟨.step r1 hi hy,fun v hv=>?_⟩
     obtain ⟨_,s2⟩:=ih y z0 hz
     simp only
     rw [has_or (by rw [behB_len]; omega) (by omega),has_and (by rw [behB_len]; omega) (by omega)]
     refine ⟨fun q=>?_,fun q=>?_⟩
     ·rw [Bool.or_eq_true] at q
      exact q.elim (s2 v hv).1 (hbe v hv).1
     ·rw [Bool.and_eq_false_iff] at q
      exact q.elim (s2 v hv).2 (hbe v hv).2
    ·cases hk'
   ·exact ih k' z hk'
  ·simp only [List.getElem?_set] at hk'
   split at hk'
   ·rename_i e
    subst e
    split at hk'
    ·simp at hk'
     subst hk'
     exact ⟨.step r1 hi hy,hbe⟩
    ·cases hk'
   ·exact ih k' z hk'
theorem rv_zero {c:Cd1} (h0:Cd0 c) {V:Val} (h:Rv c V):∃ x,V[0]? = some (some x)∧∀ v,v < 64 * wOf c→(v < c.params.toNat→hasQ x.2 v = true)∧(¬ v < c.params.toNat→hasQ x.1 v = false):=by
 induction h with
 | zero=>
  have:=h0.n
  refine ⟨_,by unfold of0; exact List.getElem?_set_self (by simpa using this),fun v hv=>?_⟩
  simp only
  rw [has_par _ _ _ h0.par]
  simp
 | step hv hi hx hy ih=>
  rename_i V k y i x
  obtain ⟨u,hu,h1⟩:=ih
  obtain ⟨l1,l2⟩:=rv_len hv
  obtain ⟨x1,x2⟩:=l2 k x hx
  obtain ⟨u1,u2⟩:=l2 0 u hu
  have hl0:=(List.getElem?_eq_some_iff.1 hu).1
  by_cases e:y = 0
  ·subst e
   refine ⟨_,by unfold stepV; rw [hu]; exact List.getElem?_set_self hl0,fun v hv=>?_⟩
   simp only
   rw [has_or (by rw [behB_len]; omega) (by omega),has_and (by rw [behB_len]; omega) (by omega)]
   exact ⟨fun q=>by rw [(h1 v hv).1 q]; rfl,fun q=>by rw [(h1 v hv).2 q]; rfl⟩
  ·refine ⟨u,?_,h1⟩
   unfold stepV
   split <;> (simp only; rw [List.getElem?_set_ne e]; exact hu)
theorem fix_step {c:Cd1} (h0:Cd0 c) {V:Val} (hr:Rv c V) (hf:Fix c V) {k y:Nat} {i:In1} {x:Rw × Rw} (hi:c.ins[k]? = some i) (hx:V[k]? = some (some x)) (hy:(y:Int) ∈ nxC c k) :
  ∃ z,V[y]? = some (some z)∧∀ v,v < 64 * wOf c→(trI i v (hasQ x.2 v) = true→hasQ z.2 v = true)∧(trI i v (hasQ x.1 v) = false→hasQ z.1 v = false):=by
 obtain ⟨h1,z,hz⟩:=hf.2 k i x y hi hx hy
 obtain ⟨l1,l2⟩:=rv_len hr
 obtain ⟨x1,x2⟩:=l2 k x hx
 obtain ⟨z1,z2⟩:=l2 y z hz
 obtain ⟨i1,i2⟩:=h0.ins k i hi
 unfold stepV at h1
 rw [hz] at h1
 obtain ⟨m1,m2⟩:=meet_same (by rw [behB_len]; omega) (by omega) (by rw [behB_len]; omega) h1
 refine ⟨z,hz,fun v hv=>?_⟩
 have e1:=has_and (a:=z.1) (b:=behB i (awayI i) x.1) (v:=v) (by rw [behB_len]; omega) (by omega)
 have e2:=has_or (a:=z.2) (b:=behB i (awayI i) x.2) (v:=v) (by rw [behB_len]; omega) (by omega)
 rw [m1,has_beh (by rw [x1]; exact i1) (by rw [x1]; exact i2)] at e1
 rw [m2,has_beh (by rw [x2]; exact i1) (by rw [x2]; exact i2)] at e2
 refine ⟨fun q=>?_,fun q=>?_⟩
 ·rw [q] at e2; rw [e2]; simp
 ·rw [q] at e1; rw [e1]; simp
theorem fix_all {c:Cd1} (h0:Cd0 c) {V:Val} (hr:Rv c V) (hf:Fix c V) {k:Nat} (h:Rch c k):∃ x,V[k]? = some (some x):=by
 induction h with
 | zero=>exact hf.1
 | step h hi hy ih=>
  obtain ⟨x,hx⟩:=ih
  exact (hf.2 _ _ x _ hi hx hy).2
theorem fix_can {c:Cd1} (h0:Cd0 c) {V:Val} (hr:Rv c V) (hf:Fix c V) {v k:Nat} {b:Bool} (hv:v < 64 * wOf c) (h:Can c v k b):∃ x,V[k]? = some (some x)∧(b = true→hasQ x.2 v = true)∧(b = false→hasQ x.1 v = false):=by
 induction h with
 | zero=>
  obtain ⟨x,hx,h1⟩:=rv_zero h0 hr
  refine ⟨x,hx,fun e=>(h1 v hv).1 (by simpa using e),fun e=>(h1 v hv).2 (by simpa using e)⟩
 | step h hi hy ih=>
  rename_i k y i b
  obtain ⟨x,hx,h1,h2⟩:=ih
  obtain ⟨z,hz,h3⟩:=fix_step h0 hr hf hi hx hy
  refine ⟨z,hz,fun e=>(h3 v hv).1 ?_,fun e=>(h3 v hv).2 ?_⟩
  ·unfold trI at e ⊢
   split
   ·rfl
   ·rename_i g1
    rw [if_neg g1] at e
    split
    ·rename_i g2; rw [if_pos g2] at e; exact e
    ·rename_i g2; rw [if_neg g2] at e; exact h1 e
  ·unfold trI at e ⊢
   split
   ·rename_i g1; rw [if_pos g1] at e; exact e
   ·rename_i g1
    rw [if_neg g1] at e
    split
    ·rfl
    ·rename_i g2; rw [if_neg g2] at e; exact h2 e
theorem tab_says {c:Cd1} (h0:Cd0 c) {V:Val} (hr:Rv c V) (hf:Fix c V) (k:Nat):((∃ x,V[k]? = some (some x)) ↔ Rch c k)∧∀ (x:Rw × Rw),V[k]? = some (some x)→∀ v,v < 64 * wOf c→(hasQ x.2 v = true ↔ Can c v k true)∧(hasQ x.1 v = false ↔ Can c v k false):=by
 refine ⟨⟨fun ⟨x,hx⟩=>(rv_sound h0 hr k x hx).1,fix_all h0 hr hf⟩,fun x hx v hv=>?_⟩
 have hs:=(rv_sound h0 hr k x hx).2 v hv
 refine ⟨⟨hs.1,fun q=>?_⟩,⟨hs.2,fun q=>?_⟩⟩
 ·obtain ⟨z,hz,h1,_⟩:=fix_can h0 hr hf hv q
  rw [hx] at hz; cases hz; exact h1 rfl
 ·obtain ⟨z,hz,_,h2⟩:=fix_can h0 hr hf hv q
  rw [hx] at hz; cases hz; exact h2 rfl
end Go.Proofs.YticliodhjfednaaGreat
