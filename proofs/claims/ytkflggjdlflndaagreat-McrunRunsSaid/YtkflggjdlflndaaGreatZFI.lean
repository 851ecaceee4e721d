/- The machine goes right: pointers and fields; The machine goes right: a step; The machine goes right: each step is as it should be; A run of a right module. Conditions: none. -/
import Derived.Test.YtkflggjdlflndaaGreatZCE
set_option linter.unusedSimpArgs false
set_option linter.unusedVariables false
namespace Go.Proofs.YtkflggjdlflndaaGreat
open Go Go.Ab
theorem names_nodup {m:Md1} (h:twiceP m = false):(m.structs.map (·.name)).Nodup:=by
 unfold twiceP at h
 simp only [Bool.or_eq_false_iff] at h
 have:=h.2.1
 unfold dbl at this
 simpa using this
theorem structAt_ix {m:Md1} (hn:(m.structs.map (·.name)).Nodup) {f:Nat} (h:f < m.structs.length):structAt m m.structs[f].name = m.structs[f]:=by
 have hany:m.structs.any (fun s=>decide (s.name = m.structs[f].name)) = true:=List.any_eq_true.2 ⟨m.structs[f],List.getElem_mem h,by simp⟩
 rw [← idxP_any] at hany
 unfold structAt structIx idxN
 cases hi:idxP (fun s:Sc1=>decide (s.name = m.structs[f].name)) m.structs with
 | none=>rw [hi] at hany; cases hany
 | some i=>
  obtain ⟨hlt,hp⟩:=idxP_some hi
  have hpi:=hp _ (List.getElem?_eq_getElem hlt)
  simp only [decide_eq_true_eq] at hpi
  have hif:i = f:=by
   rcases Nat.lt_trichotomy i f with h1 | h1 | h1
   ·exact absurd (by rw [List.getElem_map,List.getElem_map]; exact hpi) (List.pairwise_iff_getElem.1 hn i f (by simpa using hlt) (by simpa using h) h1)
   ·exact h1
   ·exact absurd (by rw [List.getElem_map,List.getElem_map]; exact hpi.symm) (List.pairwise_iff_getElem.1 hn f i (by simpa using h) (by simpa using hlt) h1)
  subst hif
  simp only [Int.toNat_natCast]
  rw [List.getElem?_eq_getElem hlt]
  rfl
theorem fresh_wf {s:Mc} {T:Nat→Option (List UInt8)} {V:Nat→List Ty1} (w:Wf s T V) {f:Int} (h0:0 ≤ f) (h1:f < s.m.structs.length) :
  ∃ T' V',Wf (freshP s (nFields s.m f)).2 T' V'∧vOk (freshP s (nFields s.m f)).2.reg T' ⟨true,((s.m.structs[f.toNat]?).map (·.name)).getD []⟩ (freshP s (nFields s.m f)).1∧(∀ j l,s.reg[j]? = some (.vs l)→V' j = V j):=by
 unfold freshP
 split
 ·exact ⟨T,V,⟨w.right,w.heap,w.chain,w.cells,w.go⟩,vOk_null _ _ _,fun _ _ _=>rfl⟩
 ·have hlt:f.toNat < s.m.structs.length:=by omega
  have hat:=structAt_ix (names_nodup (right_parts w.right).once) hlt
  have hnf:nFields s.m f = s.m.structs[f.toNat].fields.length:=by unfold nFields; rw [List.getElem?_eq_getElem hlt]; rfl
  have hname:((s.m.structs[f.toNat]?).map (·.name)).getD [] = s.m.structs[f.toNat].name:=by rw [List.getElem?_eq_getElem hlt]; rfl
  rw [hname,hnf]
  generalize s.m.structs[f.toNat] = sc at hat
  obtain ⟨T',hT'⟩:∃ T':Nat→Option (List UInt8),T' = fun k=>if k = s.reg.length then some sc.name else T k:=⟨_,rfl⟩
  obtain ⟨V',hV'⟩:∃ V':Nat→List Ty1,V' = fun j=>if j = s.reg.length + 1 then fieldTys s.m sc.name else V j:=⟨_,rfl⟩
  have hft:fieldTys s.m sc.name = sc.fields.map (·.t):=by unfold fieldTys; rw [hat]
  have hold:∀ {j:Nat} {x:Blk},s.reg[j]? = some x→j < s.reg.length:=fun h=>(List.getElem?_eq_some_iff.1 h).1
  have hVo:∀ j l,s.reg[j]? = some (.vs l)→V' j = V j:=fun j l h=>by
   have:=hold h
   rw [hV']; simp only; rw [if_neg (by omega)]
  have hTo:∀ k,isCe s.reg[k]?→T' k = T k:=fun k h=>by
   cases hb:s.reg[k]? with
   | none=>rw [hb] at h; exact h.elim
   | some x=>have:=hold hb; rw [hT']; simp only; rw [if_neg (by omega)]
  have hm:∀ b,Mv s.reg (s.reg ++ [.ce true (s.reg.length + 1) sc.fields.length,.vs (List.replicate sc.fields.length (0,none))]) b:=fun b=>mv_app _ _ b
  have hn0:(s.reg ++ [.ce true (s.reg.length + 1) sc.fields.length,.vs (List.replicate sc.fields.length (0,none))])[s.reg.length]? = some (.ce true (s.reg.length + 1) sc.fields.length):=by
   rw [List.getElem?_append_right (Nat.le_refl _)]; simp
  have hn1:(s.reg ++ [.ce true (s.reg.length + 1) sc.fields.length,.vs (List.replicate sc.fields.length (0,none))])[s.reg.length + 1]? = some (.vs (List.replicate sc.fields.length (0,none))):=by
   rw [List.getElem?_append_right (by omega)]; simp
  have hcases:∀ {j:Nat} {x:Blk},(s.reg ++ [Blk.ce true (s.reg.length + 1) sc.fields.length,.vs (List.replicate sc.fields.length (0,none))])[j]? = some x→s.reg[j]? = some x ∨ (j = s.reg.length∧x = .ce true (s.reg.length + 1) sc.fields.length) ∨ (j = s.reg.length + 1∧x = .vs (List.replicate sc.fields.length (0,none))):=by
   intro j x h
   rcases Nat.lt_or_ge j s.reg.length with hj | hj
   ·rw [List.getElem?_append_left hj] at h; exact .inl h
   ·rcases Nat.lt_or_ge j (s.reg.length + 1) with hj2 | hj2
    ·have:j = s.reg.length:=by omega
     subst this
     rw [hn0] at h; cases h; exact .inr (.inl ⟨rfl,rfl⟩)
    ·rcases Nat.lt_or_ge j (s.reg.length + 2) with hj3 | hj3
     ·have:j = s.reg.length + 1:=by omega
      subst this
      rw [hn1] at h; cases h; exact .inr (.inr ⟨rfl,rfl⟩)
     ·rw [List.getElem?_eq_none (by simp; omega)] at h; cases h
  refine ⟨T',V',⟨w.right,⟨fun j l hj=>?_,fun k al fk fn nm hk hnm=>?_⟩,?_,fun k hk=>?_,w.go⟩,?_,hVo⟩
  ·rcases hcases hj with h | ⟨_,h⟩ | ⟨e,h⟩
   ·rw [hVo j l h]
    exact (w.heap.vs j l h).mv (hm 0) hTo
   ·cases h
   ·cases h
    have e2:V' j = sc.fields.map (·.t):=by rw [hV',e]; simp only [if_true]; exact hft
    rw [e2]
    refine ⟨by simp,fun i t v _ hv=>?_⟩
    have:v = (0,none):=by
     have:=List.mem_of_getElem? hv
     exact (List.mem_replicate.1 this).2
    rw [this]
    exact vOk_null _ _ _
  ·rcases hcases hk with h | ⟨e,h⟩ | ⟨_,h⟩
   ·rw [hTo k (by rw [h]; trivial)] at hnm
    obtain ⟨⟨fl,h2,h3⟩,h4⟩:=w.heap.ce k al fk fn nm h hnm
    refine ⟨⟨fl,app_lt h2 _,h3⟩,?_⟩
    rw [hVo fk fl h2]
    exact h4
   ·cases h
    refine ⟨⟨_,hn1,by simp⟩,?_⟩
    rw [hT',e] at hnm
    simp only [if_true,Option.some.injEq] at hnm
    rw [hV',← hnm]
    simp only [if_true]
   ·cases h
  ·show Chain s.m _ V' s.top
   cases ht:s.top with
   | none=>exact Chain.nil
   | some k=>
    have hc:=w.chain
    rw [ht] at hc
    exact hc.mv (hm (k + 1)) (fun q hq=>by cases hq; omega) hVo
  ·rcases List.mem_append.1 hk with hk | hk
   ·exact (hm 0).isCe (w.cells k hk)
   ·rw [List.mem_singleton] at hk
    subst hk
    show isCe (s.reg ++ _)[s.reg.length]?
    rw [hn0]
    trivial
  ·refine ⟨fun _=>⟨rfl,fun k hk=>?_⟩,fun h=>(by cases h)⟩
   cases hk
   refine ⟨?_,?_⟩
   ·show isCe (s.reg ++ _)[s.reg.length]?
    rw [hn0]
    trivial
   ·rw [hT']; simp
theorem plain9 {m:Md1} {c:Cd1} {i:In1} (h:plainP m c i = 0) (ho:i.op = 9):varT c i.a = varT c i.d:=by
 unfold plainP at h
 rw [if_neg (by omega),if_neg (by omega),if_neg (by omega),if_neg (by omega),if_neg (by omega),if_neg (by omega),if_neg (by omega),if_pos ho] at h
 have:=unl_zero (by decide) h
 simp only [Bool.and_eq_true,decide_eq_true_eq] at this
 exact this.2
theorem plain13 {m:Md1} {c:Cd1} {i:In1} (h:plainP m c i = 0) (ho:i.op = 13):(varT c i.a).ptr = true:=by
 unfold plainP at h
 rw [if_neg (by omega),if_neg (by omega),if_neg (by omega),if_neg (by omega),if_neg (by omega),if_pos ho] at h
 exact unl_zero (by decide) h
theorem plain12 {m:Md1} {c:Cd1} {i:In1} (h:plainP m c i = 0) (ho:i.op = 12):0 ≤ i.f∧i.f < m.structs.length∧varT c i.d = ⟨true,((m.structs[i.f.toNat]?).map (·.name)).getD []⟩:=by
 unfold plainP at h
 rw [if_neg (by omega),if_neg (by omega),if_neg (by omega),if_neg (by omega),if_neg (by omega),if_neg (by omega),if_neg (by omega),if_neg (by omega),if_neg (by omega),if_neg (by omega)] at h
 split at h
 ·cases h
 ·rename_i h2
  exact ⟨by omega,by omega,by simpa using unl_zero (by decide) h⟩
theorem heap_zero {m:Md1} {c:Cd1} {i:In1} {o:Int} {p:Bool} (h:heapP m c i o p = 0):(varT c i.a).ptr = true∧0 ≤ i.f∧i.f < ((fieldTys m (varT c i.a).to).length:Nat)∧(fieldTys m (varT c i.a).to)[i.f.toNat]? = some (varT c o):=by
 unfold heapP at h
 split at h
 ·rename_i h1
  have h2:=unl_zero (by decide) h
  simp only [Bool.and_eq_true,decide_eq_true_eq] at h2
  have h3:=h2.1
  unfold fieldP at h1 h3
  split at h1
  ·rename_i hp
   rw [if_pos hp] at h3
   split at h1
   ·cases h1
   ·rename_i hr
    rw [if_neg hr] at h3
    have hlt:i.f.toNat < (structAt m (varT c i.a).to).fields.length:=by omega
    refine ⟨hp,by omega,by unfold fieldTys; rw [List.length_map]; omega,?_⟩
    unfold fieldTys
    rw [List.getElem?_map,List.getElem?_eq_getElem hlt]
    rw [List.getElem?_eq_getElem hlt] at h3
    simp only [Option.map_some,Option.getD_some] at h3 ⊢
    rw [h3]
  ·cases h1
 ·contradiction
theorem plain7 {m:Md1} {c:Cd1} {i:In1} (h:plainP m c i = 0) (ho:i.op = 7 ∨ i.op = 10):(varT c i.a).ptr = true∧0 ≤ i.f∧i.f < ((fieldTys m (varT c i.a).to).length:Nat)∧(fieldTys m (varT c i.a).to)[i.f.toNat]? = some (varT c i.d):=by
 unfold plainP at h
 rw [if_neg (by omega),if_neg (by omega),if_neg (by omega),if_neg (by omega),if_neg (by omega),if_neg (by omega),if_neg (by omega),if_neg (by omega),if_pos ho] at h
 exact heap_zero h
theorem plain8 {m:Md1} {c:Cd1} {i:In1} (h:plainP m c i = 0) (ho:i.op = 8 ∨ i.op = 11):(varT c i.a).ptr = true∧0 ≤ i.f∧i.f < ((fieldTys m (varT c i.a).to).length:Nat)∧(fieldTys m (varT c i.a).to)[i.f.toNat]? = some (varT c i.b):=by
 unfold plainP at h
 rw [if_neg (by omega),if_neg (by omega),if_neg (by omega),if_neg (by omega),if_neg (by omega),if_neg (by omega),if_neg (by omega),if_neg (by omega),if_neg (by omega),if_pos ho] at h
 exact heap_zero h
theorem cell_ok {s:Mc} {T:Nat→Option (List UInt8)} {V:Nat→List Ty1} (w:Wf s T V) {t:Ty1} {v:Vl} (hv:vOk s.reg T t v) (hp:t.ptr = true) {f:Int} (h0:0 ≤ f) (h1:f < ((fieldTys s.m t.to).length:Nat)):CellOk s.reg f v.2∧∀ fk fl,fieldOf s.reg v.2 = some (fk,fl)→s.reg[fk]? = some (.vs fl)∧V fk = fieldTys s.m t.to:=by
 cases hk:v.2 with
 | none=>exact ⟨trivial,fun fk fl h=>by cases h⟩
 | some k=>
  obtain ⟨k1,k2⟩:=(hv.1 hp).2 k hk
  cases hb:s.reg[k]? with
  | none=>rw [hb] at k1; exact k1.elim
  | some b=>
   rw [hb] at k1
   cases b with
   | ce al fk fn=>
    obtain ⟨⟨fl,h2,h3⟩,h4⟩:=w.heap.ce k al fk fn _ hb k2
    have hlen:=(w.heap.vs fk fl h2).1
    rw [h4] at hlen
    refine ⟨⟨al,fk,fl,by rw [hb,h3],h2,h0,by omega⟩,fun fk' fl' h=>?_⟩
    simp only [fieldOf,hb] at h
    cases al with
    | true=>
     simp only [h2] at h
     cases h
     exact ⟨h2,h4⟩
    | false=>cases h
   | _=>exact k1.elim
theorem fields_short {m:Md1} (hl:LightM m) (f:Int):nFields m f ≤ 1000:=by
 unfold nFields
 cases h:m.structs[f.toNat]? with
 | none=>simp
 | some sc=>have:=(hl.fields sc (List.mem_of_getElem? h)).1; simp; omega
theorem heap_wf {s:Mc} {T:Nat→Option (List UInt8)} {V:Nat→List Ty1} (w:Wf s T V) (hl:LightM s.m) {c:Cd1} {vk:Nat} {l:List Vl} (hv:Vk s V c vk l) {i:In1} (hi:InsOk s.m c i) (ho:i.op ≤ 14) (h1:s.cells.length ≤ 100000) (h2:0 ≤ s.asked) (h3:s.asked ≤ 1000000) :
  HeapOk s i vk l∧∃ T' V',Wf (heapM s i vk l).2 T' V':=by
 have hp:=hi.plain ho
 refine ⟨⟨hv.num hi.vars,fun e=>?_,fun e=>?_,fun e k hk=>?_⟩,?_⟩
 ·obtain ⟨q1,q2,_⟩:=plain12 hp e
  exact ⟨q1,q2,fields_short hl _,h1,h2,h3⟩
 ·have ha:=hi.vars.a (by rcases e with e | e | e | e <;> rw [e] <;> rfl)
  rcases e with e | e | e | e
  ·obtain ⟨q1,q2,q3,_⟩:=plain7 hp (.inl e); exact (cell_ok w (hv.val w ha) q1 q2 q3).1
  ·obtain ⟨q1,q2,q3,_⟩:=plain7 hp (.inr e); exact (cell_ok w (hv.val w ha) q1 q2 q3).1
  ·obtain ⟨q1,q2,q3,_⟩:=plain8 hp (.inl e); exact (cell_ok w (hv.val w ha) q1 q2 q3).1
  ·obtain ⟨q1,q2,q3,_⟩:=plain8 hp (.inr e); exact (cell_ok w (hv.val w ha) q1 q2 q3).1
 ·have ha:=hi.vars.a (by rw [e]; rfl)
  exact (((hv.val w ha).1 (plain13 hp e)).2 k hk).1
 ·unfold heapM
  by_cases c2:i.op = 2
  ·rw [if_pos c2]
   have hd:=hi.vars.d (by rw [c2]; rfl)
   exact ⟨T,V,wf_put w hv.at_ (hv.t hd) (vOk_null _ _ _)⟩
  rw [if_neg c2]
  by_cases c3:i.op = 3 ∨ i.op = 9
  ·rw [if_pos c3]
   have hd:=hi.vars.d (by rcases c3 with e | e <;> rw [e] <;> rfl)
   have ha:=hi.vars.a (by rcases c3 with e | e <;> rw [e] <;> rfl)
   refine ⟨T,V,wf_put w hv.at_ (hv.t hd) ?_⟩
   rcases c3 with e | e
   ·exact ⟨fun h=>(by rw [num_dst hp (.inr (.inr (.inr (.inr e))))] at h; cases h),fun _=>(hv.val w ha).2 (num_src hp e)⟩
   ·rw [← plain9 hp e]; exact hv.val w ha
  rw [if_neg c3]
  by_cases c12:i.op = 12
  ·rw [if_pos c12]
   have hd:=hi.vars.d (by rw [c12]; rfl)
   obtain ⟨q1,q2,q3⟩:=plain12 hp c12
   obtain ⟨T',V',w',k1,k2⟩:=fresh_wf w q1 q2
   refine ⟨T',V',wf_put w' (fresh_at s _ vk hv.at_) (t:=varT c i.d) ?_ (by rw [q3]; exact k1)⟩
   rw [k2 vk l hv.at_]
   exact hv.t hd
  rw [if_neg c12]
  by_cases c13:i.op = 13
  ·rw [if_pos c13]
   refine ⟨T,V,?_⟩
   cases hk:(nthV l i.a).2 with
   | none=>simp only [freeP]; exact w
   | some k=>
    simp only [freeP]
    cases hb:s.reg[k]? with
    | none=>exact w
    | some b=>
     cases b with
     | ce al fk fn=>
      cases al with
      | false=>exact w
      | true=>
       simp only
       have hm:=fun b=>mv_ce hb false b
       refine ⟨w.right,w.heap.free hb false,?_,fun j hj=>(hm 0).isCe (w.cells j hj),w.go⟩
       show Chain s.m (s.reg.set k (.ce false fk fn)) V s.top
       cases ht:s.top with
       | none=>exact Chain.nil
       | some q=>
        have hc:=w.chain
        rw [ht] at hc
        exact hc.mv (hm (q + 1)) (fun z hz=>by cases hz; omega) (fun _ _ _=>rfl)
     | _=>exact w
  rw [if_neg c13]
  by_cases c7:i.op = 7 ∨ i.op = 10
  ·rw [if_pos c7]
   have hd:=hi.vars.d (by rcases c7 with e | e <;> rw [e] <;> rfl)
   have ha:=hi.vars.a (by rcases c7 with e | e <;> rw [e] <;> rfl)
   obtain ⟨q1,q2,q3,q4⟩:=plain7 hp c7
   obtain ⟨_,k2⟩:=cell_ok w (hv.val w ha) q1 q2 q3
   refine ⟨T,V,?_⟩
   cases hf:fieldOf s.reg (nthV l i.a).2 with
   | none=>exact w
   | some x=>
    obtain ⟨fk,fl⟩:=x
    obtain ⟨k3,k4⟩:=k2 fk fl hf
    simp only
    have hvs:=w.heap.vs fk fl k3
    rw [k4] at hvs
    refine wf_put w hv.at_ (hv.t hd) (hvs.2 i.f.toNat _ _ q4 ?_)
    unfold nthV
    rw [List.getElem?_eq_getElem (by have:=hvs.1; omega)]
    rfl
  rw [if_neg c7]
  by_cases c8:i.op = 8 ∨ i.op = 11
  ·rw [if_pos c8]
   have hb:=hi.vars.b (by rcases c8 with e | e <;> rw [e] <;> rfl)
   have ha:=hi.vars.a (by rcases c8 with e | e <;> rw [e] <;> rfl)
   obtain ⟨q1,q2,q3,q4⟩:=plain8 hp c8
   obtain ⟨_,k2⟩:=cell_ok w (hv.val w ha) q1 q2 q3
   refine ⟨T,V,?_⟩
   cases hf:fieldOf s.reg (nthV l i.a).2 with
   | none=>exact w
   | some x=>
    obtain ⟨fk,fl⟩:=x
    obtain ⟨k3,k4⟩:=k2 fk fl hf
    simp only
    exact wf_put w k3 (by rw [k4]; exact q4) (hv.val w hb)
  rw [if_neg c8]
  exact ⟨T,V,w⟩
end Go.Proofs.YtkflggjdlflndaaGreat
namespace Go.Proofs.YtkflggjdlflndaaGreat
open Go Go.Ab
variable {ext:Sem'}
theorem Cnt.more {s:Mc} {n k:Int} (h:Cnt s n) (hk:n ≤ k):Cnt s k:=⟨h.as0,by have:=h.as1; omega,by have:=h.ce1; omega,by have:=h.ou1; omega⟩
theorem cnt_num {s:Mc} {n:Int} (h:Cnt s n) (i:In1) (vk:Nat) (l:List Vl):Cnt (numbersP s i vk l).2 (n + 1)∧(numbersP s i vk l).2.m = s.m∧(numbersP s i vk l).2.fails = s.fails∧(numbersP s i vk l).2.steps = s.steps:=by
 obtain ⟨h1,h2,h3,h4⟩:=h
 unfold numbersP
 split
 ·exact ⟨⟨h1,by show s.asked ≤ _; omega,by show (s.cells.length:Int) ≤ _; omega,by show (s.out.length:Int) ≤ _; omega⟩,rfl,rfl,rfl⟩
 split
 ·exact ⟨⟨h1,by show s.asked ≤ _; omega,by show (s.cells.length:Int) ≤ _; omega,by show (s.out.length:Int) ≤ _; omega⟩,rfl,rfl,rfl⟩
 split
 ·unfold getP
  split
  ·exact ⟨⟨h1,by show s.asked ≤ _; omega,by show (s.cells.length:Int) ≤ _; omega,by show (s.out.length:Int) ≤ _; omega⟩,rfl,rfl,rfl⟩
  ·exact ⟨⟨h1,by show s.asked ≤ _; omega,by show (s.cells.length:Int) ≤ _; omega,by show (s.out.length:Int) ≤ _; omega⟩,rfl,rfl,rfl⟩
 split
 ·exact ⟨⟨h1,by show s.asked ≤ _; omega,by show (s.cells.length:Int) ≤ _; omega,by show ((s.out ++ [_]).length:Int) ≤ _; rw [List.length_append]; simp; omega⟩,rfl,rfl,rfl⟩
 split
 ·exact ⟨⟨h1,by show s.asked ≤ _; omega,by show (s.cells.length:Int) ≤ _; omega,by show (s.out.length:Int) ≤ _; omega⟩,rfl,rfl,rfl⟩
 ·exact ⟨⟨h1,by show s.asked ≤ _; omega,by show (s.cells.length:Int) ≤ _; omega,by show (s.out.length:Int) ≤ _; omega⟩,rfl,rfl,rfl⟩
theorem cnt_fresh {s:Mc} {n:Int} (h:Cnt s n) (hn:n ≤ 1000000) (nf:Nat):Cnt (freshP s nf).2 (n + 1)∧(freshP s nf).2.m = s.m∧(freshP s nf).2.fails = s.fails∧(freshP s nf).2.steps = s.steps:=by
 obtain ⟨h1,h2,h3,h4⟩:=h
 have e:IntKind.wrap .i64 (s.asked + 1) = s.asked + 1:=wrap64 (by omega) (by omega)
 unfold freshP
 rw [e]
 split
 ·exact ⟨⟨by show 0 ≤ s.asked + 1; omega,by show s.asked + 1 ≤ _; omega,by show (s.cells.length:Int) ≤ _; omega,by show (s.out.length:Int) ≤ _; omega⟩,rfl,rfl,rfl⟩
 ·exact ⟨⟨by show 0 ≤ s.asked + 1; omega,by show s.asked + 1 ≤ _; omega,by show ((s.cells ++ [_]).length:Int) ≤ _; rw [List.length_append]; simp; omega,by show (s.out.length:Int) ≤ _; omega⟩,rfl,rfl,rfl⟩
theorem cnt_heap {s:Mc} {n:Int} (h:Cnt s n) (hn:n ≤ 1000000) (i:In1) (vk:Nat) (l:List Vl):Cnt (heapM s i vk l).2 (n + 1)∧(heapM s i vk l).2.m = s.m∧(heapM s i vk l).2.fails = s.fails∧(heapM s i vk l).2.steps = s.steps:=by
 have hf:=cnt_fresh h hn (nFields s.m i.f)
 obtain ⟨h1,h2,h3,h4⟩:=h
 have hs:∀ t:Mc,t.asked = s.asked→t.cells = s.cells→t.out = s.out→Cnt t (n + 1):=fun t e1 e2 e3=>⟨by rw [e1]; exact h1,by rw [e1]; omega,by rw [e2]; omega,by rw [e3]; omega⟩
 unfold heapM
 split
 ·exact ⟨hs _ rfl rfl rfl,rfl,rfl,rfl⟩
 split
 ·exact ⟨hs _ rfl rfl rfl,rfl,rfl,rfl⟩
 split
 ·obtain ⟨⟨a1,a2,a3,a4⟩,b1,b2,b3⟩:=hf
  exact ⟨⟨a1,a2,a3,a4⟩,b1,b2,b3⟩
 split
 ·exact ⟨hs _ rfl rfl rfl,rfl,rfl,rfl⟩
 split
 ·split
  ·exact ⟨hs _ rfl rfl rfl,rfl,rfl,rfl⟩
  ·exact ⟨hs _ rfl rfl rfl,rfl,rfl,rfl⟩
 split
 ·split
  ·exact ⟨hs _ rfl rfl rfl,rfl,rfl,rfl⟩
  ·exact ⟨hs _ rfl rfl rfl,rfl,rfl,rfl⟩
 ·exact ⟨hs _ rfl rfl rfl,rfl,rfl,rfl⟩
theorem args_types {c:Cd1}:∀ {l:List Int} {vs:List Vr1},argsP c l vs = true→∀ (j:Nat) (a:Int) (v:Vr1),l[j]? = some a→vs[j]? = some v→varT c a = v.t
 | [],_,_,j,a,v,h,_=>by simp at h
 | _ :: _,[],_,j,a,v,_,h=>by simp at h
 | a :: l,v :: vs,h,0,a',v',h1,h2=>by
  simp only [argsP,Bool.and_eq_true,decide_eq_true_eq] at h
  simp only [List.getElem?_cons_zero,Option.some.injEq] at h1 h2
  rw [← h1,← h2]; exact h.1
 | a :: l,v :: vs,h,j + 1,a',v',h1,h2=>by
  simp only [argsP,Bool.and_eq_true,decide_eq_true_eq] at h
  rw [List.getElem?_cons_succ] at h1 h2
  exact args_types h.2 j a' v' h1 h2
theorem call_parts {m:Md1} {c:Cd1} {i:In1} (h:callP m c i = 0):∃ g,0 ≤ i.f∧m.funcs[i.f.toNat]? = some g∧i.args.length ≤ g.vars.length∧argsP c i.args g.vars = true∧varT c i.d = g.ret.t:=by
 unfold callP at h
 split at h
 ·cases h
 ·split at h
  ·cases h
  ·rename_i h1 g hg
   split at h
   ·cases h
   ·split at h
    ·cases h
    ·rename_i h2 h3
     refine ⟨g,by omega,hg,by omega,by simpa using h3,by simpa using unl_zero (by decide) h⟩
theorem enter_wf {s:Mc} {T:Nat→Option (List UInt8)} {V:Nat→List Ty1} (w:Wf s T V) {g:Cd1} (hg:g ∈ s.m.funcs) {args:List Vl} (hlen:args.length ≤ g.vars.length) (hty:∀ (j:Nat) (v:Vl) (x:Vr1),args[j]? = some v→g.vars[j]? = some x→vOk s.reg T x.t v) {tv:Int}
  (hup:∀ u,s.top = some u→∃ (c2:Cd1) (pc2:Int) (vk2 vn2:Nat) (up2:Option Nat) (tv2:Int),s.reg[u]? = some (.fr c2 pc2 vk2 vn2 up2 tv2)∧inV c2 tv = true∧varT c2 tv = g.ret.t):∃ V',Wf (enterP s g args tv) T V':=by
 have hins:=(code_parts ((right_parts w.right).code g hg)).2.1
 obtain ⟨V',hV'⟩:∃ V':Nat→List Ty1,V' = fun j=>if j = s.reg.length + 1 then g.vars.map (·.t) else V j:=⟨_,rfl⟩
 obtain ⟨zs,hzs⟩:∃ zs:List Vl,zs = args ++ List.replicate (g.vars.length - args.length) (0,none):=⟨_,rfl⟩
 have hzl:zs.length = g.vars.length:=by rw [hzs,List.length_append,List.length_replicate]; omega
 have hold:∀ {j:Nat} {x:Blk},s.reg[j]? = some x→j < s.reg.length:=fun h=>(List.getElem?_eq_some_iff.1 h).1
 have hVo:∀ j l,s.reg[j]? = some (.vs l)→V' j = V j:=fun j l h=>by
  have:=hold h
  rw [hV']; simp only; rw [if_neg (by omega)]
 obtain ⟨X,hX⟩:∃ X:List Blk,X = [.fr g 0 (s.reg.length + 1) g.vars.length s.top tv,.vs zs]:=⟨_,rfl⟩
 have hm:∀ b,Mv s.reg (s.reg ++ X) b:=fun b=>mv_app _ _ b
 have hn0:(s.reg ++ X)[s.reg.length]? = some (.fr g 0 (s.reg.length + 1) g.vars.length s.top tv):=by rw [List.getElem?_append_right (Nat.le_refl _),hX]; simp
 have hn1:(s.reg ++ X)[s.reg.length + 1]? = some (.vs zs):=by rw [List.getElem?_append_right (by omega),hX]; simp
 have hcases:∀ {j:Nat} {x:Blk},(s.reg ++ X)[j]? = some x→s.reg[j]? = some x ∨ (j = s.reg.length∧x = .fr g 0 (s.reg.length + 1) g.vars.length s.top tv) ∨ (j = s.reg.length + 1∧x = .vs zs):=by
  intro j x h
  rcases Nat.lt_or_ge j s.reg.length with hj | hj
  ·rw [List.getElem?_append_left hj] at h; exact .inl h
  ·rcases Nat.lt_or_ge j (s.reg.length + 1) with hj2 | hj2
   ·have:j = s.reg.length:=by omega
    subst this
    rw [hn0] at h; cases h; exact .inr (.inl ⟨rfl,rfl⟩)
   ·rcases Nat.lt_or_ge j (s.reg.length + 2) with hj3 | hj3
    ·have:j = s.reg.length + 1:=by omega
     subst this
     rw [hn1] at h; cases h; exact .inr (.inr ⟨rfl,rfl⟩)
    ·rw [List.getElem?_eq_none (by rw [hX]; simp; omega)] at h; cases h
 have he:enterP s g args tv = { s with top:=some s.reg.length,reg:=s.reg ++ X }:=by unfold enterP; rw [hX,hzs]
 rw [he]
 refine ⟨V',⟨w.right,⟨fun j l hj=>?_,fun k al fk fn nm hk hnm=>?_⟩,?_,fun k hk=>(hm 0).isCe (w.cells k hk),fun _=>by simp⟩⟩
 ·rcases hcases hj with h | ⟨_,h⟩ | ⟨e,h⟩
  ·rw [hVo j l h]
   exact (w.heap.vs j l h).mv (hm 0) (fun _ _=>rfl)
  ·cases h
  ·cases h
   have e2:V' j = g.vars.map (·.t):=by rw [hV',e]; simp only [if_true]
   rw [e2]
   refine ⟨by rw [List.length_map,hzl],fun i t v ht hv=>?_⟩
   rw [List.getElem?_map] at ht
   cases hx:g.vars[i]? with
   | none=>rw [hx] at ht; cases ht
   | some x=>
    rw [hx] at ht
    cases ht
    rw [hzs] at hv
    rcases Nat.lt_or_ge i args.length with hi | hi
    ·rw [List.getElem?_append_left hi] at hv
     exact (hty i v x hv hx).mv (hm 0) (fun _ _=>rfl)
    ·rw [List.getElem?_append_right hi] at hv
     have:=(List.mem_replicate.1 (List.mem_of_getElem? hv)).2
     rw [this]
     exact vOk_null _ _ _
 ·rcases hcases hk with h | ⟨_,h⟩ | ⟨_,h⟩
  ·obtain ⟨⟨fl,h2,h3⟩,h4⟩:=w.heap.ce k al fk fn nm h hnm
   exact ⟨⟨fl,app_lt h2 _,h3⟩,(hVo fk fl h2).trans h4⟩
  ·cases h
  ·cases h
 ·show Chain s.m (s.reg ++ X) V' (some s.reg.length)
  have hlow:∀ u,s.top = some u→u < s.reg.length:=fun u hu=>by
   obtain ⟨c2,pc2,vk2,vn2,up2,tv2,h1,_⟩:=hup u hu
   exact hold h1
  refine .cons (c:=g) (pc:=0) (vk:=s.reg.length + 1) (vn:=g.vars.length) (up:=s.top) (tv:=tv) ⟨hn0,⟨zs,hn1,hzl⟩,hg,Int.le_refl _,by omega,by rw [hV']; simp only [if_true],fun u hu=>?_⟩ (w.chain.mv (hm s.reg.length) hlow hVo)
  obtain ⟨c2,pc2,vk2,vn2,up2,tv2,h1,h2,h3⟩:=hup u hu
  exact ⟨hlow u hu,c2,pc2,vk2,vn2,up2,tv2,app_lt h1 _,h2,h3⟩
end Go.Proofs.YtkflggjdlflndaaGreat
namespace Go.Proofs.YtkflggjdlflndaaGreat
open Go Go.Ab
variable {ext:Sem'}
theorem stepM_at {s:Mc} {T:Nat→Option (List UInt8)} {V:Nat→List Ty1} {k:Nat} {c:Cd1} {pc:Int} {vk:Nat} {l:List Vl} {up:Option Nat} {tv:Int} {i:In1} (x:Cx s T V k c pc vk l up tv i):stepM s =
  (if i.op = 16 then s.at k c i.to vk l.length up tv
     else if i.op = 17 then s.at k c (if (nthV l i.a).1 ≠ 0 then i.to else i.els) vk l.length up tv
     else if i.op = 15 then (match s.m.funcs[i.f.toNat]? with
      | some c2=>enterP (s.next k c pc vk l.length up tv) c2 (i.args.map (nthV l)) i.d
      | none=>s)
     else if i.op = 18 then leaveP (s.next k c pc vk l.length up tv) (nthV l i.a)
     else if (numbersP (s.next k c pc vk l.length up tv) i vk l).1 then
      (if (heapM (numbersP (s.next k c pc vk l.length up tv) i vk l).2 i vk l).1 then (heapM (numbersP (s.next k c pc vk l.length up tv) i vk l).2 i vk l).2
       else { (heapM (numbersP (s.next k c pc vk l.length up tv) i vk l).2 i vk l).2 with kind:=2 })
     else { (numbersP (s.next k c pc vk l.length up tv) i vk l).2 with kind:=2 }):=by
 unfold stepM
 rw [x.f.top]
 simp only
 rw [x.f.fr]
 simp only
 rw [x.f.vs]
 simp only
 rw [x.f.ins]
 rfl
structure Stp (ext:Sem') (s:Mc) (n:Int):Prop where
 run:G ext 16 [.ptr 1 0] s.H = some (.ret (.d (.bool true)),(stepM s).H)
 wf:∃ T' V',Wf (stepM s) T' V'
 cnt:Cnt (stepM s) (n + 2)
 m:(stepM s).m = s.m
 fails:(stepM s).fails = s.fails
 steps:(stepM s).steps = IntKind.wrap .i64 (s.steps + 1)
theorem cnt_at {s:Mc} {n:Int} (h:Cnt s n) (k:Nat) (c:Cd1) (pc:Int) (vk vn:Nat) (up:Option Nat) (tv:Int):Cnt (s.at k c pc vk vn up tv) n:=⟨h.as0,h.as1,h.ce1,h.ou1⟩
theorem line_in {c:Cd1} {n:Int} (h:lineIn c n = true):0 ≤ n∧n < (c.ins.length:Nat):=by unfold lineIn at h; simpa using h
theorem wf_kind {s:Mc} {T:Nat→Option (List UInt8)} {V:Nat→List Ty1} (w:Wf s T V):Wf { s with kind:=2 } T V:=⟨w.right,w.heap,w.chain,w.cells,fun h=>by cases h⟩
theorem leaveP_keep (s:Mc) (v:Vl):(leaveP s v).m = s.m∧(leaveP s v).fails = s.fails∧(leaveP s v).steps = s.steps∧(leaveP s v).asked = s.asked∧(leaveP s v).cells = s.cells∧(leaveP s v).out = s.out:=by
 unfold leaveP
 split
 ·exact ⟨rfl,rfl,rfl,rfl,rfl,rfl⟩
 ·split
  ·exact ⟨rfl,rfl,rfl,rfl,rfl,rfl⟩
  ·split
   ·split
    ·exact ⟨rfl,rfl,rfl,rfl,rfl,rfl⟩
    ·exact ⟨rfl,rfl,rfl,rfl,rfl,rfl⟩
   ·exact ⟨rfl,rfl,rfl,rfl,rfl,rfl⟩
  ·exact ⟨rfl,rfl,rfl,rfl,rfl,rfl⟩
theorem leave_ok {s:Mc} {T:Nat→Option (List UInt8)} {V:Nat→List Ty1} (w:Wf s T V) {k:Nat} {c:Cd1} {pc:Int} {vk:Nat} {l:List Vl} {up:Option Nat} {tv:Int} {i:In1} (x:Cx s T V k c pc vk l up tv i) {v:Vl} (hv:vOk s.reg T c.ret.t v) :
  LeaveOk (s.next k c pc vk l.length up tv)∧Wf (leaveP (s.next k c pc vk l.length up tv) v) T V:=by
 have hm:=mv_fr x.f.fr (IntKind.wrap .i64 (pc + 1))
 have hk1:(s.next k c pc vk l.length up tv).reg[k]? = some (.fr c (IntKind.wrap .i64 (pc + 1)) vk l.length up tv):=set_at x.f.fr _
 have ht1:(s.next k c pc vk l.length up tv).top = some k:=x.f.top
 have hh:Heap s.m (s.next k c pc vk l.length up tv).reg T V:=w.heap.fr x.f.fr _
 have hce:∀ j,j ∈ s.cells→isCe (s.next k c pc vk l.length up tv).reg[j]?:=fun j hj=>hm.isCe (w.cells j hj)
 have hch:Chain s.m (s.next k c pc vk l.length up tv).reg V up:=x.ch.mv hm (fun u hu=>(x.ok.below u hu).1) (fun _ _ _=>rfl)
 cases up with
 | none=>
  refine ⟨.last k c _ vk l.length tv ht1 hk1,?_⟩
  unfold leaveP
  rw [ht1]
  simp only
  rw [hk1]
  exact ⟨w.right,hh,Chain.nil,hce,fun h=>by cases h⟩
 | some u=>
  obtain ⟨hlt,c2,pc2,vk2,vn2,up2,tv2,hu,hin,hret⟩:=x.ok.below u rfl
  have hu1:=hm.fr u _ _ _ _ _ _ hlt hu
  cases hch with
  | cons hf ht=>
   rename_i c3 pc3 vk3 vn3 up3 tv3
   have e:=hf.fr
   have e2:(s.next k c pc vk l.length (some u) tv).reg[u]? = some (.fr c2 pc2 vk2 vn2 up2 tv2):=hu1
   rw [e] at e2
   cases e2
   obtain ⟨l2,hl2,hn2⟩:=hf.vs
   subst hn2
   have hln:l2.length = c2.vars.length:=by
    have:=(hh.vs vk2 l2 hl2).1
    rw [hf.vars,List.length_map] at this
    exact this
   have hin':=inV_iff.1 hin
   refine ⟨.more k c _ vk l.length tv u c2 pc2 vk2 up2 tv2 l2 ht1 hk1 e hl2 hin'.1 (by omega),?_⟩
   unfold leaveP
   rw [ht1]
   simp only
   rw [hk1]
   simp only
   rw [e]
   simp only
   rw [hl2]
   have w2:Wf { s.next k c pc vk l.length (some u) tv with top:=some u } T V:=⟨w.right,hh,.cons hf ht,hce,fun _=>by simp⟩
   refine wf_put w2 hl2 (t:=varT c2 tv) (by rw [hf.vars]; exact tys_at hin) ?_
   rw [hret]
   exact hv.mv hm (fun _ _=>rfl)
set_option maxHeartbeats 4000000 in
theorem step_wf (hx:T3 ext) {s:Mc} {T:Nat→Option (List UInt8)} {V:Nat→List Ty1} (w:Wf s T V) (hl:LightM s.m) (hk:s.kind = 4) {n:Int} (hc:Cnt s n) (hn:n ≤ 100000):Stp ext s n:=by
 obtain ⟨k,c,pc,vk,l,up,tv,i,x⟩:=cx_of w hk
 have e:=stepM_at x
 have hi:=ins_parts x.ins
 have hv:Vk s V c vk l:=⟨x.f.vs,x.ok.vars,x.len⟩
 have hpc:IntKind.wrap .i64 (pc + 1) = pc + 1:=by
  have h1:=x.ok.pc1
  have h2:=(hl.vars c x.ok.code).2.1
  have h3:=x.ok.pc0
  exact wrap64 (by omega) (by omega)
 have hv1:Vk (s.next k c pc vk l.length up tv) V c vk l:=⟨set_ne x.f.vs (Ne.symm x.kv),x.ok.vars,x.len⟩
 have hlow:=hi.lo
 have hhi:=hi.hi
 by_cases c16:i.op = 16
 ·rw [if_pos c16] at e
  obtain ⟨q0,q1⟩:=line_in (hi.jump c16)
  exact ⟨by rw [e]; exact step_jump hx s x.f c16,⟨T,V,by rw [e]; exact wf_at w x q0 q1⟩,by rw [e]; exact (cnt_at hc _ _ _ _ _ _ _).more (by omega),by rw [e]; rfl,by rw [e]; rfl,by rw [e]; rfl⟩
 rw [if_neg c16] at e
 by_cases c17:i.op = 17
 ·rw [if_pos c17] at e
  obtain ⟨j1,j2⟩:=hi.branch c17
  obtain ⟨p0,p1⟩:=line_in j1
  obtain ⟨q0,q1⟩:=line_in j2
  have ha:=inV_iff.1 (hi.vars.a (by rw [c17]; rfl))
  have hlen:=x.len
  exact ⟨by rw [e]; exact step_branch hx s x.f c17 ⟨ha.1,by omega⟩ x.kv,⟨T,V,by rw [e]; exact wf_at w x (by split <;> assumption) (by split <;> assumption)⟩,by rw [e]; exact (cnt_at hc _ _ _ _ _ _ _).more (by omega),by rw [e]; rfl,by rw [e]; rfl,by rw [e]; rfl⟩
 rw [if_neg c17] at e
 by_cases c15:i.op = 15
 ·rw [if_pos c15] at e
  have w1:Wf (s.next k c pc vk l.length up tv) T V:=wf_at w x (by rw [hpc]; have:=x.ok.pc0; omega) (by rw [hpc]; exact next_in x.f.pc0 x.f.ins x.last (by omega))
  obtain ⟨g,f0,hg,hfew,hat,hret⟩:=call_parts (hi.call c15)
  rw [hg] at e
  simp only at e
  have hgm:=List.mem_of_getElem? hg
  have hargs:=hi.args c15
  have hlen:=x.len
  have hd:=hi.vars.d (by rw [c15]; rfl)
  have hok:CallOk (s.next k c pc vk l.length up tv) i vk l g:=⟨hv1.at_,f0,hg,by have:=(hl.vars g hgm).1; omega,hfew,fun a ha=>by have:=inV_iff.1 (hargs a ha); exact ⟨this.1,by omega⟩⟩
  obtain ⟨V',w2⟩:=enter_wf w1 hgm (args:=i.args.map (nthV l)) (by rw [List.length_map]; exact hfew) (fun j v y h1 h2=>by
   rw [List.getElem?_map] at h1
   cases ha:i.args[j]? with
   | none=>rw [ha] at h1; cases h1
   | some a=>
    rw [ha] at h1
    cases h1
    rw [← args_types hat j a y ha h2]
    exact hv1.val w1 (hargs a (List.mem_of_getElem? ha))) (tv:=i.d) (fun u hu=>by
   have:u = k:=by
    have h2:(s.next k c pc vk l.length up tv).top = some k:=x.f.top
    rw [h2] at hu
    exact (Option.some.inj hu).symm
   subst this
   exact ⟨c,_,vk,l.length,up,tv,set_at x.f.fr _,hd,hret⟩)
  exact ⟨by rw [e]; exact step_call hx s x.f c15 _ (call_m hx _ i vk l g hok),⟨T,V',by rw [e]; exact w2⟩,by rw [e]; exact ⟨hc.as0,by show s.asked ≤ _; have:=hc.as1; omega,by show (s.cells.length:Int) ≤ _; have:=hc.ce1; omega,by show (s.out.length:Int) ≤ _; have:=hc.ou1; omega⟩,by rw [e]; rfl,by rw [e]; rfl,by rw [e]; rfl⟩
 rw [if_neg c15] at e
 by_cases c18:i.op = 18
 ·rw [if_pos c18] at e
  have ha:=hi.vars.a (by rw [c18]; rfl)
  have hr:=hi.ret c18
  obtain ⟨k1,k2⟩:=leave_ok w x (v:=nthV l i.a) (by rw [← hr]; exact hv.val w ha)
  obtain ⟨m1,m2,m3,m4,m5,m6⟩:=leaveP_keep (s.next k c pc vk l.length up tv) (nthV l i.a)
  have ha':=inV_iff.1 ha
  have hlen:=x.len
  exact ⟨by rw [e]; exact step_ret hx s x.f c18 ⟨ha'.1,by omega⟩ x.kv _ (leave_m hx _ _ k1),⟨T,V,by rw [e]; exact k2⟩,by
   rw [e]
   refine ⟨by rw [m4]; exact hc.as0,by rw [m4]; show s.asked ≤ _; have:=hc.as1; omega,by rw [m5]; show (s.cells.length:Int) ≤ _; have:=hc.ce1; omega,by rw [m6]; show (s.out.length:Int) ≤ _; have:=hc.ou1; omega⟩,by rw [e,m1]; rfl,by rw [e,m2]; rfl,by rw [e,m3]; rfl⟩
 rw [if_neg c18] at e
 have ho:i.op ≤ 14:=by omega
 have w1:Wf (s.next k c pc vk l.length up tv) T V:=wf_at w x (by rw [hpc]; have:=x.ok.pc0; omega) (by rw [hpc]; exact next_in x.f.pc0 x.f.ins x.last (by omega))
 have hc1:Cnt (s.next k c pc vk l.length up tv) n:=cnt_at hc _ _ _ _ _ _ _
 have hi1:InsOk (s.next k c pc vk l.length up tv).m c i:=hi
 have hnum:=numbers_m hx.toT1 (s.next k c pc vk l.length up tv) i vk l (hv1.num hi.vars) (by have:=hc1.ou1; omega)
 have w2:=num_wf w1 hv1 hi1 ho
 obtain ⟨c2,m2,f2,t2⟩:=cnt_num hc1 i vk l
 have hk2:(numbersP (s.next k c pc vk l.length up tv) i vk l).2.reg[k]? = some (.fr c (IntKind.wrap .i64 (pc + 1)) vk l.length up tv):=by
  have h0:(s.next k c pc vk l.length up tv).reg[k]? = some (.fr c (IntKind.wrap .i64 (pc + 1)) vk l.length up tv):=set_at x.f.fr _
  have hgr:(getP (s.next k c pc vk l.length up tv)).2.reg = (s.next k c pc vk l.length up tv).reg:=by unfold getP; split <;> rfl
  unfold numbersP
  split
  ·exact set_ne h0 x.kv
  split
  ·exact set_ne h0 x.kv
  split
  ·show ((getP (s.next k c pc vk l.length up tv)).2.reg.set vk _)[k]? = _
   rw [hgr]; exact set_ne h0 x.kv
  split
  ·exact h0
  split
  ·exact set_ne h0 x.kv
  ·exact h0
 have hhp:∃ b2 s3,G ext 29 [.ptr 1 0,i.av,.rs vk 0 l.length 2] (numbersP (s.next k c pc vk l.length up tv) i vk l).2.H = some (.ret (.d (.bool b2)),s3.H)∧b2 = (heapM (numbersP (s.next k c pc vk l.length up tv) i vk l).2 i vk l).1∧s3 = (heapM (numbersP (s.next k c pc vk l.length up tv) i vk l).2 i vk l).2∧∃ T' V',Wf s3 T' V':=by
  by_cases hnb:i.op = 1 ∨ i.op = 4 ∨ i.op = 5 ∨ i.op = 6 ∨ i.op = 14
  ·have hs:=heap_skip hx (numbersP (s.next k c pc vk l.length up tv) i vk l).2 i vk l.length (by omega)
   have hz:heapM (numbersP (s.next k c pc vk l.length up tv) i vk l).2 i vk l = (true,(numbersP (s.next k c pc vk l.length up tv) i vk l).2):=by
    unfold heapM
    rw [if_neg (by omega),if_neg (by omega),if_neg (by omega),if_neg (by omega),if_neg (by omega),if_neg (by omega)]
   exact ⟨true,_,hs,by rw [hz],by rw [hz],T,V,w2⟩
  ·have hz:numbersP (s.next k c pc vk l.length up tv) i vk l = (true,s.next k c pc vk l.length up tv):=by
    unfold numbersP
    rw [if_neg (by omega),if_neg (by omega),if_neg (by omega),if_neg (by omega),if_neg (by omega)]
   rw [hz]
   simp only
   obtain ⟨k1,T',V',k2⟩:=heap_wf w1 (show LightM s.m from hl) hv1 hi1 ho (by have:=hc1.ce1; omega) hc1.as0 (by have:=hc1.as1; omega)
   exact ⟨_,_,heap_m hx.toT2 _ i vk l k1,rfl,rfl,T',V',k2⟩
 obtain ⟨b2,s3,h1,h2,h3,T',V',h4⟩:=hhp
 have hst:=step_else hx s x.f c15 c16 c17 c18 _ b2 _ s3 hnum hk2 h1
 obtain ⟨c3,m3,f3,t3⟩:=cnt_heap c2 (by omega) i vk l
 rw [← h2,← h3] at e
 rw [← h3] at c3 m3 f3 t3
 have hc3:Cnt s3 (n + 2):=c3.more (by omega)
 have hc2:Cnt (numbersP (s.next k c pc vk l.length up tv) i vk l).2 (n + 2):=c2.more (by omega)
 generalize numbersP (s.next k c pc vk l.length up tv) i vk l = q at *
 obtain ⟨b1,s2⟩:=q
 simp only at e hst hc2 m2 f2 t2 m3 f3 t3 w2
 cases b1 with
 | false=>
  simp only [Bool.false_eq_true,if_false] at e hst
  exact ⟨by rw [e]; exact hst,⟨T,V,by rw [e]; exact wf_kind w2⟩,by rw [e]; exact ⟨hc2.as0,hc2.as1,hc2.ce1,hc2.ou1⟩,by rw [e]; exact m2,by rw [e]; exact f2,by rw [e]; exact t2⟩
 | true=>
  cases b2 with
  | false=>
   simp only [Bool.false_eq_true,if_false,if_true] at e hst
   exact ⟨by rw [e]; exact hst,⟨T',V',by rw [e]; exact wf_kind h4⟩,by rw [e]; exact ⟨hc3.as0,hc3.as1,hc3.ce1,hc3.ou1⟩,by rw [e]; exact m3.trans m2,by rw [e]; exact f3.trans f2,by rw [e]; exact t3.trans t2⟩
  | true=>
   simp only [if_true] at e hst
   exact ⟨by rw [e]; exact hst,⟨T',V',by rw [e]; exact h4⟩,by rw [e]; exact hc3,by rw [e]; exact m3.trans m2,by rw [e]; exact f3.trans f2,by rw [e]; exact t3.trans t2⟩
end Go.Proofs.YtkflggjdlflndaaGreat
namespace Go.Proofs.YtkflggjdlflndaaGreat
open Go Go.Ab
variable {ext:Sem'}
def mainC (m:Md1):Cd1:=(m.funcs[(mainIx m).toNat]?).getD ⟨[],0,[],⟨⟨false,[]⟩,0⟩,[],[]⟩
def mc0 (m:Md1) (inp:List Int) (fails:List Bool) (R:List Blk):Mc:=enterP (Mc.start m inp fails R) (mainC m) [] 0
theorem main_parts {m:Md1} (h:rightP m = 0):0 ≤ mainIx m∧m.funcs[(mainIx m).toNat]? = some (mainC m)∧mainC m ∈ m.funcs:=by
 have hm:=(right_parts h).main
 unfold mainP at hm
 unfold mainC mainIx
 cases hc:m.funcs[(funcIx m [109,97,105,110]).toNat]? with
 | none=>rw [hc] at hm; cases hm
 | some c=>
  rw [hc] at hm
  have:=unl_zero (by decide) hm
  simp only [Bool.and_eq_true,decide_eq_true_eq] at this
  exact ⟨this.1,rfl,List.mem_of_getElem? hc⟩
theorem start_wf {m:Md1} (h:rightP m = 0) (inp:List Int) (fails:List Bool) (R:List Blk) (hR:R = []:=by rfl):∃ T V,Wf (mc0 m inp fails R) T V:=by
 subst hR
 obtain ⟨h0,h1,h2⟩:=main_parts h
 have w0:Wf { Mc.start m inp fails [] with kind:=0 } (fun _=>none) (fun _=>[]):=by
  refine ⟨h,⟨fun j l hj=>(by simp [Mc.start] at hj),fun k al fk fn nm hk hn=>by cases hn⟩,Chain.nil,(fun k hk=>by cases hk),(fun hk=>by cases hk)⟩
 obtain ⟨V',w⟩:=enter_wf w0 (g:=mainC m) h2 (args:=[]) (Nat.zero_le _) (fun j v x hv=>by simp at hv) (tv:=0) (fun u hu=>by cases hu)
 exact ⟨_,V',w.right,w.heap,w.chain,w.cells,fun _=>by simp [mc0,enterP]⟩
structure Gd (m:Md1) (fails:List Bool) (s:Mc) (j:Nat):Prop where
 wf:∃ T V,Wf s T V
 cnt:Cnt s (2 * j)
 m:s.m = m
 fails:s.fails = fails
 st0:0 ≤ s.steps
 st1:s.steps ≤ j
 st2:s.kind = 4→s.steps = j
theorem go_all (hx:T3 ext) {m:Md1} (hl:LightM m) (h:rightP m = 0) (inp:List Int) (fails:List Bool) (R:List Blk) (hR:R = []:=by rfl):∀ j:Nat,j ≤ 20000→Gd m fails (runM j (mc0 m inp fails R)) j:=by
 intro j
 induction j with
 | zero=>
  intro _
  exact ⟨start_wf h inp fails R hR,⟨Int.le_refl _,Int.le_refl _,Int.le_refl _,Int.le_refl _⟩,rfl,rfl,Int.le_refl _,Int.le_refl _,fun _=>rfl⟩
 | succ j ih=>
  intro hj
  obtain ⟨⟨T,V,w⟩,hc,hm,hf,s0,s1,s2⟩:=ih (by omega)
  rw [runM_succ]
  by_cases hk:(runM j (mc0 m inp fails R)).kind = 4
  ·rw [if_pos hk]
   have hs:=step_wf hx w (by rw [hm]; exact hl) hk hc (by omega)
   have e:IntKind.wrap .i64 ((runM j (mc0 m inp fails R)).steps + 1) = (runM j (mc0 m inp fails R)).steps + 1:=wrap64 (by omega) (by omega)
   have e2:=s2 hk
   exact ⟨hs.wf,hs.cnt.more (by omega),hs.m.trans hm,hs.fails.trans hf,by rw [hs.steps,e]; omega,by rw [hs.steps,e]; omega,fun _=>by rw [hs.steps,e]; omega⟩
  ·rw [if_neg hk]
   exact ⟨⟨T,V,w⟩,hc.more (by omega),hm,hf,s0,by omega,fun h=>absurd h hk⟩
theorem run_right (hx:T3 ext) (he:∀ xs H,ext 11 xs H = none) {m:Md1} (hl:LightM m) (h:rightP m = 0) (inp:List Int) (fails:List Bool) (R:List Blk) (hR:R = []) (hi:inp.length ≤ 1000) (hf:fails.length ≤ 1000) {fuel:Int} (h0:0 ≤ fuel) (h1:fuel ≤ 20000) :
  G ext 11 [m.av,.d (.sl (inp.map rowU)),.d (.sl (fails.map rowT)),.d (.int .i64 fuel)] [.reg (rgA R)] = some (.ret (outA (runM fuel.toNat (mc0 m inp fails R))),[.reg (rgA (runM fuel.toNat (mc0 m inp fails R)).reg)]):=by
 obtain ⟨k0,k1,k2⟩:=main_parts h
 refine run_m hx he m inp fails fuel R (mc0 m inp fails R) (new_m hx m hl inp fails R (mainC m) h hi hf k0 k1 (by have:=(hl.vars _ k2).1; omega)) h0 (by omega) (fun j hj hk=>?_) ?_
 ·have g:=go_all hx hl h inp fails R hR j (by omega)
  obtain ⟨T,V,w⟩:=g.wf
  exact (step_wf hx w (by rw [g.m]; exact hl) hk g.cnt (by omega)).run
 ·have g:=go_all hx hl h inp fails R hR fuel.toNat (by omega)
  obtain ⟨T,V,w⟩:=g.wf
  exact outcome_m hx _ w.cells (by have:=g.cnt.ce1; omega) (by have:=g.cnt.ou1; omega)
end Go.Proofs.YtkflggjdlflndaaGreat
