/- Law 23: MovesWays answers true. Conditions: none. -/
import Derived.Test.YticliodhjfednaaGreatG7
import Derived.Test.YticliodhjfednaaGreatU1
import Derived.Test.YticliodhjfednaaGreatL1
set_option linter.unusedSimpArgs false
set_option linter.unusedVariables false
namespace Go.Proofs.YticliodhjfednaaGreat
open Go Go.Ab
variable {ext:Sem'}
structure TL (ext:Sem'):Prop extends TM ext where
 check:∀ m:Md1,LightM m→(∀ s,s ∈ m.structs→∀ f,f ∈ s.fields→f.name.length ≤ 9223372036854775807)→ext 16 [m.av] [] = some (.ret (mcheckA m),[])
def rowT (b:Bool):List Dt:=[.bool b]
theorem badK_none {c:Cd1}:∀ {l:List In1} {k:Nat},badK c l k = none→∀ (j:Nat) (i:In1),l[j]? = some i→okI c (k + j) i
 | [],k,h,j,i,hj=>by simp at hj
 | x :: l,k,h,j,i,hj=>by
  simp only [badK] at h
  split at h
  ·rename_i hx
   cases j with
   | zero=>simp at hj; subst hj; exact hx
   | succ j=>have:=badK_none h j i (by simpa using hj); rw [show k + (j + 1) = k + 1 + j by omega]; exact this
  ·cases h
theorem badF_none:∀ {l:List Cd1} {f:Nat},badF l f = none→∀ c,c ∈ l→badK c c.ins 0 = none
 | [],f,h,c,hc=>by cases hc
 | x :: l,f,h,c,hc=>by
  simp only [badF] at h
  cases hb:badK x x.ins 0 with
  | some k=>rw [hb] at h; cases h
  | none=>
   rw [hb] at h
   rcases List.mem_cons.1 hc with rfl | hc
   ·exact hb
   ·exact badF_none h c hc
theorem mcheck_ok {m:Md1}:(∃ s a b d:Int,mcheckA m = .agg [.d (.int .i64 s),.d (.int .i64 a),.d (.int .i64 b),.d (.int .i64 d)]∧a ≠ 0) ∨ (mcheckA m = .agg [.d (.int .i64 0),.d (.int .i64 0),.d (.int .i64 0),.d (.int .i64 0)]∧formedP m = 0∧badF m.funcs 0 = none):=by
 unfold mcheckA
 by_cases h1:formedP m = 0∧badC m m.funcs 0 = none
 ·rw [if_pos h1]
  cases hb:badF m.funcs 0 with
  | none=>exact .inr ⟨rfl,h1.1,rfl⟩
  | some x=>exact .inl ⟨23,11,_,_,rfl,by decide⟩
 ·rw [if_neg h1]
  unfold checkA
  by_cases h2:formedP m = 0
  ·rw [if_pos h2]
   cases hb:badC m m.funcs 0 with
   | none=>exact absurd ⟨h2,hb⟩ h1
   | some x=>exact .inl ⟨22,7,_,_,rfl,by decide⟩
  ·rw [if_neg h2]
   exact .inl ⟨22,formedP m,0,0,rfl,h2⟩
theorem gives_app:∀ a b:List (Int × Int),givesL (a ++ b) = givesL a ++ givesL b
 | [],b=>rfl
 | (v,k) :: a,b=>by
  have h:=gives_app a b
  simp only [List.cons_append,givesL]
  split <;> simp [h]
theorem there_set {B B1:List Bool} {i:In1} {n:Nat} (h1:B1.length = n) (h2:∀ v,v < n→B1[v]? = if (v:Int) ∈ awayI i then some false else B[v]?) {v:Nat} {b:Bool} (hv:v < n) (hb:B[v]? = some b) (hd:hasD i.op = true→0 ≤ i.d) :
  (if hasD i.op = true then B1.set i.d.toNat true else B1)[v]? = some (trI i v b):=by
 unfold trI
 cases h:hasD i.op with
 | true=>
  have:=hd h
  rw [if_pos rfl,List.getElem?_set]
  by_cases e:i.d = v
  ·rw [if_pos (by omega),if_pos (by omega),if_pos ⟨rfl,e⟩]
  ·have hne:¬ (true = true∧i.d = (v:Int)):=fun q=>e q.2
   rw [if_neg (by omega),if_neg hne,h2 v hv]
   split
   ·rfl
   ·exact hb
 | false=>
  have hne:¬ (false = true∧i.d = (v:Int)):=fun q=>by cases q.1
  rw [if_neg (by decide),if_neg hne,h2 v hv]
  split
  ·rfl
  ·exact hb
set_option maxHeartbeats 8000000 in
theorem ways_e (hx:TL ext) (ha:G ext 8 [] [] = some (.ret (.d (.bool true)),[])) (m:Md1) (f:Int) (way:List Bool) (hnm:∀ s,s ∈ m.structs→∀ f,f ∈ s.fields→f.name.length ≤ 9223372036854775807) :
  G ext 5 [m.av,.d (.int .i64 f),.d (.sl (way.map rowT))] [] = some (.ret (.d (.bool true)),[]):=by
 have hcl:(m.funcs.map Cd1.row).length = m.funcs.length:=List.length_map _
 have hwl:(way.map rowT).length = way.length:=List.length_map _
 obtain ⟨b,hb,hb2⟩:=l17_e hx.toTX m hnm
 rw [G_body hx.clear rfl Tryz.func5 rfl Tryz.results5 hv_5 rfl]
 simp only [Md1.av,Md1.sr,Md1.fr] at hb ⊢
 cases b with
 | false=>
  simp (maxSteps:=4000000) (disch:=first | (intros; contradiction) | omega) only [go_sem,hb,ha]
 | true=>
  have hm:=(hb2 rfl).1
  have hck:=G_ext (hx.check m hm hnm)
  simp only [Md1.av,Md1.sr,Md1.fr] at hck
  by_cases h1:(200:Int) < ((way.map rowT).length:Int)
  ·simp (maxSteps:=4000000) (disch:=first | (intros; contradiction) | omega) only [go_sem,hb,ha,h1]
  ·by_cases h2:f < 0
   ·simp (maxSteps:=4000000) (disch:=first | (intros; contradiction) | omega) only [go_sem,hb,ha,h1,h2]
   ·by_cases h3:((m.funcs.map Cd1.row).length:Int) ≤ f
    ·simp (maxSteps:=4000000) (disch:=first | (intros; contradiction) | omega) only [go_sem,hb,ha,h1,h2,h3]
    ·rcases mcheck_ok (m:=m) with ⟨s,a,b,d,e,hne⟩ | ⟨e,hfo,hbf⟩
     ·rw [e] at hck
      have hne:=eq_false hne
      simp (maxSteps:=4000000) (disch:=first | (intros; contradiction) | omega) only [go_sem,hb,ha,h1,h2,h3,hck,hne]
     ·rw [e] at hck
      obtain ⟨fn,rfl⟩:∃ fn:Nat,f = (fn:Int):=⟨f.toNat,by omega⟩
      have hfl:fn < m.funcs.length:=by omega
      have hget:m.funcs[fn]? = some m.funcs[fn]:=List.getElem?_eq_getElem hfl
      have hcm:m.funcs[fn] ∈ m.funcs:=List.getElem_mem hfl
      generalize m.funcs[fn] = c at hget hcm
      have hcr:(m.funcs.map Cd1.row)[fn]? = some c.row:=by rw [List.getElem?_map,hget]; rfl
      have h4:(fn:Int) < ((m.funcs.map Cd1.row).length:Int):=by omega
      have h5:0 ≤ (fn:Int):=by omega
      have hcd:=cd_ok hx.toTX hm hfo hcm
      have hbk:=badK_none (badF_none hbf c hcm)
      have hvl:(c.vars.map Vr1.row).length = c.vars.length:=List.length_map _
      have hil:(c.ins.map In1.row).length = c.ins.length:=List.length_map _
      have hv6:=hcd.v
      have hnl:=hcd.nl
      have hrm:room c.vars.length 1:=by unfold room; simp; omega
      have h01:0 ≤ (c.vars.length:Int):=by omega
      have hle:=Int.le_refl (c.vars.length:Int)
      have hfl2:(List.replicate c.vars.length [AV.d (.bool false)]).flatten = bsA (List.replicate c.vars.length false):=by
       generalize c.vars.length = n
       induction n with
       | zero=>rfl
       | succ n ih=>simp only [List.replicate_succ,List.flatten_cons,ih]; rfl
      simp only [Cd1.row] at hcr
      simp (maxSteps:=4000000) (disch:=first | (intros; contradiction) | omega) only [go_sem,hb,h1,h2,h3,hck,hcr,h4,h5,hvl,hrm,h01,hle,hfl2]
      generalize hL:loopA _ _ _ = L
      apply loop_upd hL (by simp (maxSteps:=4000000) (disch:=first | (intros; contradiction) | omega) only [go_sem] <;> rfl) (α:=Nat × List Bool) (fun x=>x.1 ≤ c.params.toNat∧x.2.length = c.vars.length∧∀ v,v < c.vars.length→x.2[v]? = some (decide (v < x.1))) (fun x=>c.params.toNat - x.1) (fun x=>[(9,.d (.int .i64 x.1))]) (fun x=>[(2,.cells (bsA x.2))])
       (0,List.replicate c.vars.length false) (by simp (maxSteps:=4000000) (disch:=first | (intros; contradiction) | omega) only [go_sem] <;> rfl) ⟨Nat.zero_le _,by simp,fun v hv=>by rw [List.getElem?_replicate,if_pos hv]; simp⟩ ?_
      rintro ⟨p,B⟩ ⟨q1,q2,q3⟩ next ih
      clear hL
      simp only at q1 q2 q3 ih ⊢
      have hp0:=hcd.p0
      have hp1:=hcd.p1
      by_cases hpc:(p:Int) < c.params
      ·have hpl:p < B.length:=by omega
       have hset:=bs_set hpl true
       have hbl:p + 1 ≤ (bsA B).length:=by rw [bs_len]; omega
       have hp2:(p:Int) < (c.vars.length:Int):=by omega
       have hp3:0 ≤ (p:Int):=by omega
       simp (maxSteps:=4000000) (disch:=first | (intros; contradiction) | omega) only [go_sem,hpc,hset,hbl,hp2,hp3,Nat.mul_one,wrap64]
       exact ih (p + 1,B.set p true) _ ⟨by simp only; omega,by simp only; rw [List.length_set]; exact q2,fun v hv=>by
        simp only
        rw [List.getElem?_set]
        by_cases e:p = v
        ·subst e; rw [if_pos rfl,if_pos hpl]; simp
        ·rw [if_neg e,q3 v hv]; congr 1; rw [decide_eq_decide]; omega⟩ (by simp only; omega) (by simp (maxSteps:=4000000) (disch:=first | (intros; contradiction) | omega) only [go_sem] <;> rfl)
      ·have hpp:p = c.params.toNat:=by omega
       subst hpp
       clear ih
       simp (maxSteps:=4000000) (disch:=first | (intros; contradiction) | omega) only [go_sem,hpc]
       generalize hL:loopA _ _ _ = L
       have hst:∀ v,v < c.vars.length→∃ b,B[v]? = some b∧Can c v 0 b:=fun v hv=>⟨_,q3 v hv,.zero⟩
       clear q3 q1
       apply loop_upd hL (by simp (maxSteps:=4000000) (disch:=first | (intros; contradiction) | omega) only [go_sem] <;> rfl) (α:=Nat × Nat × List Bool) (fun x=>x.1 ≤ way.length∧x.2.1 < c.ins.length∧Rch c x.2.1∧x.2.2.length = c.vars.length∧∀ v,v < c.vars.length→∃ b,x.2.2[v]? = some b∧Can c v x.2.1 b) (fun x=>way.length - x.1)
        (fun x=>[(10,.d (.int .i64 x.2.1)),(11,.d (.int .i64 x.1))]) (fun x=>[(2,.cells (bsA x.2.2))]) (0,0,B) (by simp (maxSteps:=4000000) (disch:=first | (intros; contradiction) | omega) only [go_sem] <;> rfl) ⟨Nat.zero_le _,hcd.n,.zero,q2,hst⟩ ?_
       clear hst q2
       rintro ⟨n,k,B⟩ ⟨w1,w2,w3,w4,w5⟩ next ih
       clear hL
       simp only at w1 w2 w3 w4 w5 ih ⊢
       by_cases hn:(n:Int) < ((way.map rowT).length:Int)
       ·have hki:c.ins[k]? = some c.ins[k]:=List.getElem?_eq_getElem w2
        have hmem:=List.getElem_mem w2
        generalize c.ins[k] = i at hki hmem
        obtain ⟨a1,a2,_⟩:=hm.ins c hcm i hmem
        obtain ⟨f1,f2⟩:=formed_in hfo hcm hmem
        have hok:=hbk k i hki
        rw [Nat.zero_add] at hok
        obtain ⟨_,hok⟩:=hok w3
        have hrd:=rreads_e hx.toTX i (by omega)
        have hin:=rinstr22_e hx.toTX m c i f1 f2 (by omega)
        have hwr:=rwrites_e hx.toTX i
        have hnn:nxC c k = nxtI i k:=by unfold nxC; rw [hki]
        have hnx:=rnx08_e hx.toTX c k hki (by omega) (fun y hy=>hcd.inr k w2 y (by rw [hnn]; exact hy))
        rw [← hnn] at hnx
        rw [show ints (readsP i) = .sl ((readsP i).map rowI) from rfl] at hrd
        rw [show ints (nxC c k) = .sl ((nxC c k).map rowI) from rfl] at hnx
        have hki2:(c.ins.map In1.row)[k]? = some i.row:=by rw [List.getElem?_map,hki]; rfl
        have hkl:(k:Int) < ((c.ins.map In1.row).length:Int):=by rw [hil]; omega
        have hk0:0 ≤ (k:Int):=by omega
        have hwn:∃ wb,way[n]? = some wb:=⟨_,List.getElem?_eq_getElem (by omega)⟩
        obtain ⟨wb,hwn⟩:=hwn
        have hwr2:(way.map rowT)[n]? = some [.bool wb]:=by rw [List.getElem?_map,hwn]; rfl
        have hn0:0 ≤ (n:Int):=by omega
        have hrl:=reads_len i
        have hrl2:((readsP i).map rowI).length = (readsP i).length:=List.length_map _
        simp only [In1.av] at hrd hwr
        simp only [In1.av,Cd1.av] at hin
        simp only [Cd1.av] at hnx
        simp only [In1.row] at hki2
        simp (maxSteps:=4000000) (disch:=first | (intros; contradiction) | omega) only [go_sem,hn,hki2,hkl,hk0,hrd]
        generalize hL:loopA _ _ _ = L
        apply range_upd hL (by simp (maxSteps:=4000000) (disch:=first | (intros; contradiction) | omega) only [go_sem] <;> rfl) (readsP i) rowI (α:=Unit) (fun rest _ _=>∀ v,v ∈ rest→v ∈ readsP i) (fun q _=>[(14,.d (.int .i64 q))]) (fun _ _=>[]) () (by simp (maxSteps:=4000000) (disch:=first | (intros; contradiction) | omega) only [go_sem] <;> rfl) (fun v hv=>hv) ?_ ?_
        ·rintro v rest q _ r1 hlt2 hr2 hget2 hq _ next2 ih2
         clear hL ih
         obtain ⟨v0,v1,v2⟩:=hok v (r1 v (.head _))
         obtain ⟨b,hb1,hb2⟩:=w5 v.toNat (by omega)
         have hbt:b = true:=by cases b with
          | true=>rfl
          | false=>exact absurd hb2 v2
         rw [hbt] at hb1
         have hbs:=bs_at hb1
         simp only [rowI] at hr2
         simp (maxSteps:=4000000) (disch:=first | (intros; contradiction) | omega) only [go_sem,hlt2,hr2,v0,v1,hbs,Nat.mul_one,wrap64]
         exact ih2 () _ (fun u hu=>r1 u (.tail _ hu)) (by simp (maxSteps:=4000000) (disch:=first | (intros; contradiction) | omega) only [go_sem] <;> rfl)
        ·rintro q _ r1 hlt2 hq next2
         clear hL
         simp (maxSteps:=4000000) (disch:=first | (intros; contradiction) | omega) only [go_sem,hlt2,hin]
         generalize hL:loopA _ _ _ = L
         apply range_upd hL (by simp (maxSteps:=4000000) (disch:=first | (intros; contradiction) | omega) only [go_sem] <;> rfl) (usesL i) useRow (α:=List Bool) (fun rest _ B1=>∃ done,usesL i = done ++ rest∧B1.length = c.vars.length∧∀ v,v < c.vars.length→B1[v]? = if (v:Int) ∈ givesL done then some false else B[v]?) (fun q _=>[(16,.d (.int .i64 q))]) (fun _ B1=>[(2,.cells (bsA B1))]) B (by simp (maxSteps:=4000000) (disch:=first | (intros; contradiction) | omega) only [go_sem] <;> rfl)
          ⟨[],rfl,w4,fun v hv=>by rw [if_neg (by simp [givesL])]⟩ ?_ ?_
         ·rintro ⟨v,kd⟩ rest q3 B1 ⟨done,r2,r3,r4⟩ hlt3 hr3 hget3 hq3 _ next3 ih3
          clear hL ih
          simp only [useRow] at hr3
          have hvin:=use_in f1 f2 (u:=(v,kd)) (by rw [r2]; simp)
          unfold inV at hvin
          simp at hvin
          obtain ⟨v0,v1⟩:=hvin
          have hull:=usesL_len i
          have hdone:usesL i = (done ++ [(v,kd)]) ++ rest:=by rw [r2]; simp
          by_cases h3:kd = 3
          ·subst h3
           have hset:=bs_set (l:=B1) (i:=v.toNat) (by omega) false
           have hbl:v.toNat + 1 ≤ (bsA B1).length:=by rw [bs_len]; omega
           simp (maxSteps:=4000000) (disch:=first | (intros; contradiction) | omega) only [go_sem,hlt3,hr3,hset,hbl,v0,v1,Nat.mul_one,wrap64]
           exact ih3 (B1.set v.toNat false) _ ⟨_,hdone,by rw [List.length_set]; exact r3,fun u hu=>by
            rw [List.getElem?_set,gives_app]
            by_cases e:v.toNat = u
            ·rw [if_pos e,if_pos (by omega),if_pos (by simp [givesL]; omega)]
            ·rw [if_neg e,r4 u hu]
             have:((u:Int) ∈ givesL done ++ givesL [(v,3)]) ↔ ((u:Int) ∈ givesL done):=by
              simp [givesL]; omega
             simp only [this]⟩ (by simp (maxSteps:=4000000) (disch:=first | (intros; contradiction) | omega) only [go_sem] <;> rfl)
          ·have h3':=eq_false h3
           simp (maxSteps:=4000000) (disch:=first | (intros; contradiction) | omega) only [go_sem,hlt3,hr3,h3',wrap64]
           exact ih3 B1 _ ⟨_,hdone,r3,fun u hu=>by
            rw [r4 u hu,gives_app]
            have:givesL [(v,kd)] = []:=by simp [givesL,h3]
            rw [this,List.append_nil]⟩ (by simp (maxSteps:=4000000) (disch:=first | (intros; contradiction) | omega) only [go_sem] <;> rfl)
         ·rintro q3 B1 ⟨done,r2,r3,r4⟩ hlt3 hq3 next3
          clear hL
          rw [List.append_nil] at r2
          subst r2
          have hdn:hasD i.op = true→0 ≤ i.d∧i.d < c.vars.length:=fun hd=>by
           have:=(uses_vars (instr_uses f1).2).d hd
           unfold inV at this
           simpa using this
          have hB2:=fun v b (hv:v < c.vars.length) (hb:B[v]? = some b)=>there_set (B:=B) (B1:=B1) (i:=i) r3 r4 hv hb (fun hd=>(hdn hd).1)
          cases hD:hasD i.op with
          | true=>
           rw [hD] at hwr hB2
           simp only [if_true] at hB2
           obtain ⟨d0,d1⟩:=hdn hD
           have hwd:writesP i = i.d:=by unfold writesP; rw [hD]; rfl
           rw [hwd] at hwr
           have hset:=bs_set (l:=B1) (i:=i.d.toNat) (by omega) true
           have hbl:i.d.toNat + 1 ≤ (bsA B1).length:=by rw [bs_len]; omega
           rcases hnx0:nxC c k with _ | ⟨y,_ | ⟨z,tl⟩⟩
           ·rw [hnx0] at hnx
            simp only [List.map_nil] at hnx
            simp (maxSteps:=4000000) (disch:=first | (intros; contradiction) | omega) only [go_sem,hlt3,hwr,hset,hbl,d0,d1,Nat.mul_one,hnx,ha]
           ·rw [hnx0] at hnx
            simp only [List.map_cons,List.map_nil,rowI] at hnx
            obtain ⟨y0,y1⟩:=hcd.inr k w2 y (by rw [hnx0]; simp)
            obtain ⟨yn,rfl⟩:∃ yn:Nat,y = (yn:Int):=⟨y.toNat,by omega⟩
            cases wb with
            | true=>
             simp (maxSteps:=4000000) (disch:=first | (intros; contradiction) | omega) only [go_sem,hlt3,hwr,hset,hbl,d0,d1,Nat.mul_one,hnx,hwr2,hn,hn0,wrap64]
             exact ih (n + 1,yn,B1.set i.d.toNat true) _ ⟨by simp only; omega,by simp only; omega,.step w3 hki (by rw [hnx0]; simp),by simp only; rw [List.length_set]; exact r3,fun v hv=>by
             obtain ⟨b,hb1,hb2⟩:=w5 v hv
             exact ⟨_,hB2 v b hv hb1,.step hb2 hki (by rw [hnx0]; simp)⟩⟩ (by simp only; omega) (by simp (maxSteps:=4000000) (disch:=first | (intros; contradiction) | omega) only [go_sem] <;> rfl)
            | false=>
             simp (maxSteps:=4000000) (disch:=first | (intros; contradiction) | omega) only [go_sem,hlt3,hwr,hset,hbl,d0,d1,Nat.mul_one,hnx,hwr2,hn,hn0,wrap64]
             exact ih (n + 1,yn,B1.set i.d.toNat true) _ ⟨by simp only; omega,by simp only; omega,.step w3 hki (by rw [hnx0]; simp),by simp only; rw [List.length_set]; exact r3,fun v hv=>by
             obtain ⟨b,hb1,hb2⟩:=w5 v hv
             exact ⟨_,hB2 v b hv hb1,.step hb2 hki (by rw [hnx0]; simp)⟩⟩ (by simp only; omega) (by simp (maxSteps:=4000000) (disch:=first | (intros; contradiction) | omega) only [go_sem] <;> rfl)
           ·have htl:tl = []:=by
             have:=nxtI_len i k
             rw [← hnn,hnx0] at this
             cases tl with
             | nil=>rfl
             | cons a b=>simp at this
            subst htl
            rw [hnx0] at hnx
            simp only [List.map_cons,List.map_nil,rowI] at hnx
            obtain ⟨y0,y1⟩:=hcd.inr k w2 y (by rw [hnx0]; simp)
            obtain ⟨z0,z1⟩:=hcd.inr k w2 z (by rw [hnx0]; simp)
            obtain ⟨yn,rfl⟩:∃ yn:Nat,y = (yn:Int):=⟨y.toNat,by omega⟩
            obtain ⟨zn,rfl⟩:∃ zn:Nat,z = (zn:Int):=⟨z.toNat,by omega⟩
            cases wb with
            | true=>
             simp (maxSteps:=4000000) (disch:=first | (intros; contradiction) | omega) only [go_sem,hlt3,hwr,hset,hbl,d0,d1,Nat.mul_one,hnx,hwr2,hn,hn0,wrap64]
             exact ih (n + 1,zn,B1.set i.d.toNat true) _ ⟨by simp only; omega,by simp only; omega,.step w3 hki (by rw [hnx0]; simp),by simp only; rw [List.length_set]; exact r3,fun v hv=>by
             obtain ⟨b,hb1,hb2⟩:=w5 v hv
             exact ⟨_,hB2 v b hv hb1,.step hb2 hki (by rw [hnx0]; simp)⟩⟩ (by simp only; omega) (by simp (maxSteps:=4000000) (disch:=first | (intros; contradiction) | omega) only [go_sem] <;> rfl)
            | false=>
             simp (maxSteps:=4000000) (disch:=first | (intros; contradiction) | omega) only [go_sem,hlt3,hwr,hset,hbl,d0,d1,Nat.mul_one,hnx,hwr2,hn,hn0,wrap64]
             exact ih (n + 1,yn,B1.set i.d.toNat true) _ ⟨by simp only; omega,by simp only; omega,.step w3 hki (by rw [hnx0]; simp),by simp only; rw [List.length_set]; exact r3,fun v hv=>by
             obtain ⟨b,hb1,hb2⟩:=w5 v hv
             exact ⟨_,hB2 v b hv hb1,.step hb2 hki (by rw [hnx0]; simp)⟩⟩ (by simp only; omega) (by simp (maxSteps:=4000000) (disch:=first | (intros; contradiction) | omega) only [go_sem] <;> rfl)
          | false=>
           rw [hD] at hwr hB2
           simp only [Bool.false_eq_true,if_false] at hB2
           rcases hnx0:nxC c k with _ | ⟨y,_ | ⟨z,tl⟩⟩
           ·rw [hnx0] at hnx
            simp only [List.map_nil] at hnx
            simp (maxSteps:=4000000) (disch:=first | (intros; contradiction) | omega) only [go_sem,hlt3,hwr,Nat.mul_one,hnx,ha]
           ·rw [hnx0] at hnx
            simp only [List.map_cons,List.map_nil,rowI] at hnx
            obtain ⟨y0,y1⟩:=hcd.inr k w2 y (by rw [hnx0]; simp)
            obtain ⟨yn,rfl⟩:∃ yn:Nat,y = (yn:Int):=⟨y.toNat,by omega⟩
            cases wb with
            | true=>
             simp (maxSteps:=4000000) (disch:=first | (intros; contradiction) | omega) only [go_sem,hlt3,hwr,Nat.mul_one,hnx,hwr2,hn,hn0,wrap64]
             exact ih (n + 1,yn,B1) _ ⟨by simp only; omega,by simp only; omega,.step w3 hki (by rw [hnx0]; simp),by simp only; exact r3,fun v hv=>by
             obtain ⟨b,hb1,hb2⟩:=w5 v hv
             exact ⟨_,hB2 v b hv hb1,.step hb2 hki (by rw [hnx0]; simp)⟩⟩ (by simp only; omega) (by simp (maxSteps:=4000000) (disch:=first | (intros; contradiction) | omega) only [go_sem] <;> rfl)
            | false=>
             simp (maxSteps:=4000000) (disch:=first | (intros; contradiction) | omega) only [go_sem,hlt3,hwr,Nat.mul_one,hnx,hwr2,hn,hn0,wrap64]
             exact ih (n + 1,yn,B1) _ ⟨by simp only; omega,by simp only; omega,.step w3 hki (by rw [hnx0]; simp),by simp only; exact r3,fun v hv=>by
             obtain ⟨b,hb1,hb2⟩:=w5 v hv
             exact ⟨_,hB2 v b hv hb1,.step hb2 hki (by rw [hnx0]; simp)⟩⟩ (by simp only; omega) (by simp (maxSteps:=4000000) (disch:=first | (intros; contradiction) | omega) only [go_sem] <;> rfl)
           ·have htl:tl = []:=by
             have:=nxtI_len i k
             rw [← hnn,hnx0] at this
             cases tl with
             | nil=>rfl
             | cons a b=>simp at this
            subst htl
            rw [hnx0] at hnx
            simp only [List.map_cons,List.map_nil,rowI] at hnx
            obtain ⟨y0,y1⟩:=hcd.inr k w2 y (by rw [hnx0]; simp)
            obtain ⟨z0,z1⟩:=hcd.inr k w2 z (by rw [hnx0]; simp)
            obtain ⟨yn,rfl⟩:∃ yn:Nat,y = (yn:Int):=⟨y.toNat,by omega⟩
            obtain ⟨zn,rfl⟩:∃ zn:Nat,z = (zn:Int):=⟨z.toNat,by omega⟩
            cases wb with
            | true=>
             simp (maxSteps:=4000000) (disch:=first | (intros; contradiction) | omega) only [go_sem,hlt3,hwr,Nat.mul_one,hnx,hwr2,hn,hn0,wrap64]
             exact ih (n + 1,zn,B1) _ ⟨by simp only; omega,by simp only; omega,.step w3 hki (by rw [hnx0]; simp),by simp only; exact r3,fun v hv=>by
             obtain ⟨b,hb1,hb2⟩:=w5 v hv
             exact ⟨_,hB2 v b hv hb1,.step hb2 hki (by rw [hnx0]; simp)⟩⟩ (by simp only; omega) (by simp (maxSteps:=4000000) (disch:=first | (intros; contradiction) | omega) only [go_sem] <;> rfl)
            | false=>
             simp (maxSteps:=4000000) (disch:=first | (intros; contradiction) | omega) only [go_sem,hlt3,hwr,Nat.mul_one,hnx,hwr2,hn,hn0,wrap64]
             exact ih (n + 1,yn,B1) _ ⟨by simp only; omega,by simp only; omega,.step w3 hki (by rw [hnx0]; simp),by simp only; exact r3,fun v hv=>by
             obtain ⟨b,hb1,hb2⟩:=w5 v hv
             exact ⟨_,hB2 v b hv hb1,.step hb2 hki (by rw [hnx0]; simp)⟩⟩ (by simp only; omega) (by simp (maxSteps:=4000000) (disch:=first | (intros; contradiction) | omega) only [go_sem] <;> rfl)
       ·simp (maxSteps:=4000000) (disch:=first | (intros; contradiction) | omega) only [go_sem,hn,ha]
end Go.Proofs.YticliodhjfednaaGreat
