/- Moves: functions of formed programs; Check. Conditions: none. -/
import Derived.Test.YticliodhjfednaaGreatG4
import Derived.Test.YticliodhjfednaaGreatP22
set_option linter.unusedSimpArgs false
set_option linter.unusedVariables false
namespace Go.Proofs.YticliodhjfednaaGreat
open Go Go.Ab
variable {ext:Sem'}
theorem usesL_len (i:In1):(usesL i).length ≤ 2 + i.mode.length + i.args.length:=by
 have h1:=byAll_len i.a i.mode
 have h2:=zipBy_len (i.args.zip i.mode)
 rw [List.length_zip] at h2
 have h3:=byP_len (modeAt i 0) 2 i.a
 unfold usesL
 repeat' split
 all_goals (try simp only [List.length_cons,List.length_nil])
 all_goals omega
theorem gives_mem:∀ {l:List (Int × Int)} {v:Int},v ∈ givesL l→(v,(3:Int)) ∈ l
 | (u,k) :: l,v,h=>by
  unfold givesL at h
  split at h
  ·rename_i e
   subst e
   rcases List.mem_cons.1 h with rfl | h
   ·exact .head _
   ·exact .tail _ (gives_mem h)
  ·exact .tail _ (gives_mem h)
theorem code_last {m:Md1} {c:Cd1} (h:codeP m c = 0):16 ≤ lastOp c:=by
 unfold codeP at h
 split at h
 ·cases h
 ·split at h
  ·cases h
  ·split at h
   ·unfold unlessP at h
    split at h
    ·rename_i h5; simpa using h5
    ·cases h
   ·rename_i h4; exact absurd h h4
theorem nx_in {m:Md1} {c:Cd1} (h:codeP m c = 0):inrC c:=by
 obtain ⟨_,_,h1,h2⟩:=code_ins h
 have hlast:=code_last h
 intro a ha y hy
 have hg:c.ins[a]? = some c.ins[a]:=List.getElem?_eq_getElem ha
 have hi:=h2 c.ins[a] (List.getElem_mem ha)
 unfold nxC at hy
 rw [hg] at hy
 simp only at hy
 generalize c.ins[a] = i at hi hy hg
 obtain ⟨⟨o1,o2⟩,_⟩:=instr_uses hi
 unfold nxtI at hy
 unfold instrP at hi
 split at hi
 ·cases hi
 ·split at hi
  ·cases hi
  ·split at hi
   ·rename_i e
    rw [if_neg (by omega),if_neg (by omega),if_neg (by omega)] at hy
    simp at hy
    refine ⟨by omega,?_⟩
    by_cases hl:a = c.ins.length - 1
    ·unfold lastOp at hlast
     rw [← hl,hg] at hlast
     simp at hlast
     omega
    ·omega
   ·split at hi
    ·rename_i e
     rw [if_pos e] at hy
     simp at hy
     subst hy
     unfold unlessP at hi
     split at hi
     ·rename_i hq; simpa [lineIn] using hq
     ·cases hi
    ·split at hi
     ·rename_i e
      rw [if_neg (by omega),if_pos e] at hy
      split at hi
      ·cases hi
      ·rename_i hq
       simp [lineIn] at hq
       split at hy
       ·simp at hy; subst hy; omega
       ·simp at hy; rcases hy with rfl | rfl <;> omega
     ·split at hi
      ·rename_i e
       rw [if_neg (by omega),if_neg (by omega),if_pos e] at hy
       cases hy
      ·rename_i e1 e2 e3
       rw [if_neg (by omega),if_neg (by omega),if_neg (by omega)] at hy
       simp at hy
       refine ⟨by omega,?_⟩
       by_cases hl:a = c.ins.length - 1
       ·unfold lastOp at hlast
        rw [← hl,hg] at hlast
        simp at hlast
        omega
       ·omega
theorem cd_ok (hx:TX ext) {m:Md1} (hm:LightM m) (h:formedP m = 0) {c:Cd1} (hc:c ∈ m.funcs):CkF ext c:=by
 obtain ⟨hri,_,hforms⟩:=formedP_zero h
 obtain ⟨_,_,hcodes⟩:=right_codes hri
 have hco:=hcodes c hc
 obtain ⟨k1,k2,k3,k4⟩:=code_ins hco
 obtain ⟨l1,l2,_,_⟩:=hm.vars c hc
 have hw:(c.vars.length:Int) ≤ 64 * (wOf c:Int):=by unfold wOf; omega
 refine ⟨by omega,by omega,by omega,k1,k2,nx_in hco,fun k i hi=>?_⟩
 have hmem:=List.mem_of_getElem? hi
 obtain ⟨a1,a2,_⟩:=hm.ins c hc i hmem
 obtain ⟨f1,f2⟩:=formed_in h hc hmem
 refine ⟨by have:=usesL_len i; omega,tInstr_e hx m hm h hc hmem,fun v hv=>?_,fun hd=>?_⟩
 ·have:=use_in f1 f2 (gives_mem hv)
  unfold inV at this
  simp at this
  omega
 ·have:=(uses_vars (instr_uses f1).2).d hd
  unfold inV at this
  simp at this
  omega
theorem CkF.cd0 {c:Cd1} (h:CkF ext c):Cd0 c:=by
 have h1:=h.p0
 have h2:=h.p1
 have hw:c.vars.length ≤ 64 * wOf c:=by unfold wOf; omega
 exact ⟨h.n,h.inr,by omega,fun k i hi=>(h.ins k i hi).2.2⟩
def okI (c:Cd1) (k:Nat) (i:In1):Prop:=Rch c k→(∀ v,v ∈ awayI i→dupAt (readsP i) v = false)∧∀ v,v ∈ readsP i→0 ≤ v∧v < c.vars.length∧¬ Can c v.toNat k false
theorem ok_right {c:Cd1} (h0:Cd0 c) {V:Val} (hr:Rv c V) (hf:Fix c V) {k:Nat} {i:In1} (hi:c.ins[k]? = some i) {x:Rw × Rw} (hx:V[k]? = some (some x)):rightT c V k i = true ↔ okI c k i:=by
 have hk:=(List.getElem?_eq_some_iff.1 hi).1
 obtain ⟨t1,t2⟩:=tab_says h0 hr hf k
 have hrch:=t1.1 ⟨x,hx⟩
 have hw:c.vars.length ≤ 64 * wOf c:=by unfold wOf; omega
 have hth:∀ v:Int,thereT c V k v = true ↔ 0 ≤ v∧v < c.vars.length∧¬ Can c v.toNat k false:=by
  intro v
  unfold thereT inT
  by_cases h1:0 ≤ v∧v < c.vars.length
  ·rw [if_pos ⟨by omega,by omega,h1.1,h1.2⟩,Int.toNat_natCast,hx]
   simp only [Option.getD_some]
   have:=(t2 x hx v.toNat (by omega)).2
   rw [← this]
   simp [h1]
  ·rw [if_neg (fun q=>h1 ⟨q.2.2.1,q.2.2.2⟩)]
   simp only [Bool.false_eq_true,false_iff]
   exact fun q=>h1 ⟨q.1,q.2.1⟩
 unfold rightT okI
 rw [Bool.and_eq_true,List.all_eq_true,List.all_eq_true]
 constructor
 ·rintro ⟨q1,q2⟩ _
  exact ⟨fun v hv=>by have:=q1 v hv; simpa using this,fun v hv=>(hth v).1 (q2 v hv)⟩
 ·intro q
  obtain ⟨q1,q2⟩:=q hrch
  exact ⟨fun v hv=>by rw [q1 v hv]; rfl,fun v hv=>(hth v).2 (q2 v hv)⟩
end Go.Proofs.YticliodhjfednaaGreat
