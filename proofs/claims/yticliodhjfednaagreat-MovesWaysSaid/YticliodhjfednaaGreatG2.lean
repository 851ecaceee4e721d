/- Moves: asking a table. Conditions: none. -/
import Derived.Test.YticliodhjfednaaGreatG1
set_option linter.unusedSimpArgs false
set_option linter.unusedVariables false
namespace Go.Proofs.YticliodhjfednaaGreat
open Go Go.Ab
variable {ext:Sem'}
def inT (c:Cd1) (V:Val) (a v:Int):Option (Rw × Rw):=if 0 ≤ a∧a < c.ins.length∧0 ≤ v∧v < c.vars.length then (V[a.toNat]?).getD none else none
def thereT (c:Cd1) (V:Val) (a v:Int):Bool:=match inT c V a v with
 | some x=>hasQ x.1 v.toNat
 | none=>false
def perT (c:Cd1) (V:Val) (a v:Int):Bool:=match inT c V a v with
 | some x=>hasQ x.2 v.toNat
 | none=>false
def isS {α:Type}:Option α→Bool
 | some _=>true
 | none=>false
section
variable {c:Cd1} {R:List Rw} {E P:List (Option Nat)} {V:Val}
theorem in_nil (hx:TX ext) (R:List Rw) (a v:Int):G ext 28 [.d .nilp,.d (.int .i64 a),.d (.int .i64 v)] [.reg (rgB R)] = some (.ret (.d (.bool false)),[.reg (rgB R)]):=by
 rw [G_body hx.clear rfl Tryz.func28 rfl Tryz.results28 hv_28 rfl]
 simp (maxSteps:=4000000) (disch:=first | (intros; contradiction) | omega) only [go_sem]
theorem there_nil (hx:TX ext) (R:List Rw) (a v:Int):G ext 11 [.d .nilp,.d (.int .i64 a),.d (.int .i64 v)] [.reg (rgB R)] = some (.ret (.d (.bool false)),[.reg (rgB R)]):=by
 have h:=in_nil hx R a v
 rw [G_body hx.clear rfl Tryz.func11 rfl Tryz.results11 hv_11 rfl]
 simp (maxSteps:=4000000) (disch:=first | (intros; contradiction) | omega) only [go_sem,h]
theorem per_nil (hx:TX ext) (R:List Rw) (a v:Int):G ext 12 [.d .nilp,.d (.int .i64 a),.d (.int .i64 v)] [.reg (rgB R)] = some (.ret (.d (.bool false)),[.reg (rgB R)]):=by
 have h:=in_nil hx R a v
 rw [G_body hx.clear rfl Tryz.func12 rfl Tryz.results12 hv_12 rfl]
 simp (maxSteps:=4000000) (disch:=first | (intros; contradiction) | omega) only [go_sem,h]
theorem gone_nil (hx:TX ext) (R:List Rw) (a:Int):G ext 13 [.d .nilp,.d (.int .i64 a)] [.reg (rgB R)] = some (.ret (.d (.sl [])),[.reg (rgB R)]):=by
 rw [G_body hx.clear rfl Tryz.func13 rfl Tryz.results13 hv_13 rfl]
 simp (maxSteps:=4000000) (disch:=first | (intros; contradiction) | omega) only [go_sem]
set_option maxHeartbeats 2000000 in
theorem in_e2 (hx:TX ext) (hn:c.ins.length ≤ 100000) (hv:c.vars.length ≤ 60000) (hr:Rel (wOf c) c.ins.length R E P V) (a v:Int) :
  G ext 28 [.ptr 1 0,.d (.int .i64 a),.d (.int .i64 v)] (tbH R c c.ins.length (wOf c) E P) = some (.ret (.d (.bool (isS (inT c V a v)))),tbH R c c.ins.length (wOf c) E P):=by
 have hvl:(c.vars.map Vr1.row).length = c.vars.length:=List.length_map _
 rw [G_body hx.clear rfl Tryz.func28 rfl Tryz.results28 hv_28 rfl]
 simp only [tbH,tbC]
 unfold inT
 by_cases h1:0 ≤ a
 ·by_cases h2:a < c.ins.length
  ·have hal:a.toNat < V.length:=by rw [hr.lV]; omega
   cases hz:V[a.toNat]? with
   | none=>rw [List.getElem?_eq_getElem hal] at hz; cases hz
   | some z=>
    cases z with
    | none=>
     have e1:=rws_at (W:=wOf c) (hr.none_ _ hz)
     simp only [rwV] at e1
     have hq:isS (if 0 ≤ a∧a < (c.ins.length:Int)∧0 ≤ v∧v < (c.vars.length:Int) then (some (none:Option (Rw × Rw))).getD none else none) = false:=by split <;> rfl
     rw [hq]
     simp (maxSteps:=4000000) (disch:=first | (intros; contradiction) | omega) only [go_sem,h1,h2,hvl,e1,Nat.mul_one]
    | some z=>
     obtain ⟨i,j,p1,p2,_⟩:=hr.some_ _ z hz
     have e1:=rws_at (W:=wOf c) p1
     simp only [rwV] at e1
     by_cases h3:0 ≤ v
     ·by_cases h4:v < c.vars.length
      ·rw [if_pos ⟨h1,h2,h3,h4⟩]
       simp (maxSteps:=4000000) (disch:=first | (intros; contradiction) | omega) only [go_sem,h1,h2,h3,h4,hvl,e1,Nat.mul_one]
       rfl
      ·rw [if_neg (fun h=>h4 h.2.2.2)]
       have h4:=eq_false h4
       simp (maxSteps:=4000000) (disch:=first | (intros; contradiction) | omega) only [go_sem,h1,h2,h3,h4,hvl,e1,Nat.mul_one]
       rfl
     ·rw [if_neg (fun h=>h3 h.2.2.1)]
      have h3:=eq_false h3
      simp (maxSteps:=4000000) (disch:=first | (intros; contradiction) | omega) only [go_sem,h1,h2,h3,hvl,e1,Nat.mul_one]
      rfl
  ·rw [if_neg (fun h=>h2 h.2.1)]
   have h2:=eq_false h2
   simp (maxSteps:=4000000) (disch:=first | (intros; contradiction) | omega) only [go_sem,h1,h2,hvl]
   rfl
 ·rw [if_neg (fun h=>h1 h.1)]
  have h1:=eq_false h1
  simp (maxSteps:=4000000) (disch:=first | (intros; contradiction) | omega) only [go_sem,h1,hvl]
  rfl
theorem there_e2 (hx:TX ext) (hn:c.ins.length ≤ 100000) (hv:c.vars.length ≤ 60000) (hr:Rel (wOf c) c.ins.length R E P V) (a v:Int) :
  G ext 11 [.ptr 1 0,.d (.int .i64 a),.d (.int .i64 v)] (tbH R c c.ins.length (wOf c) E P) = some (.ret (.d (.bool (thereT c V a v))),tbH R c c.ins.length (wOf c) E P):=by
 have h:=in_e2 hx hn hv hr a v
 unfold thereT
 rw [G_body hx.clear rfl Tryz.func11 rfl Tryz.results11 hv_11 rfl]
 simp only [tbH,tbC] at h ⊢
 cases hz:inT c V a v with
 | none=>
  rw [hz] at h
  simp only [isS] at h
  simp (maxSteps:=4000000) (disch:=first | (intros; contradiction) | omega) only [go_sem,h]
 | some x=>
  rw [hz] at h
  simp only [isS] at h
  unfold inT at hz
  split at hz
  ·rename_i hc
   obtain ⟨c1,c2,c3,c4⟩:=hc
   have hal:a.toNat < V.length:=by rw [hr.lV]; omega
   rw [List.getElem?_eq_getElem hal] at hz
   have hz:V[a.toNat]? = some (some x):=by rw [List.getElem?_eq_getElem hal]; exact congrArg some hz
   obtain ⟨i,j,p1,p2,p3,p4,p5,p6⟩:=hr.some_ _ x hz
   have e1:=rws_at (W:=wOf c) p1
   simp only [rwV] at e1
   have hwv:c.vars.length ≤ 64 * wOf c:=by unfold wOf; omega
   have hwl:wOf c ≤ 1000:=by unfold wOf; omega
   have hh:=has_e hx p3 v.toNat (by omega) (by omega) (by omega)
   rw [p5,Int.toNat_of_nonneg c3] at hh
   simp (maxSteps:=4000000) (disch:=first | (intros; contradiction) | omega) only [go_sem,h,c1,c2,e1,hh,Nat.mul_one]
  ·cases hz
theorem per_e2 (hx:TX ext) (hn:c.ins.length ≤ 100000) (hv:c.vars.length ≤ 60000) (hr:Rel (wOf c) c.ins.length R E P V) (a v:Int) :
  G ext 12 [.ptr 1 0,.d (.int .i64 a),.d (.int .i64 v)] (tbH R c c.ins.length (wOf c) E P) = some (.ret (.d (.bool (perT c V a v))),tbH R c c.ins.length (wOf c) E P):=by
 have h:=in_e2 hx hn hv hr a v
 unfold perT
 rw [G_body hx.clear rfl Tryz.func12 rfl Tryz.results12 hv_12 rfl]
 simp only [tbH,tbC] at h ⊢
 cases hz:inT c V a v with
 | none=>
  rw [hz] at h
  simp only [isS] at h
  simp (maxSteps:=4000000) (disch:=first | (intros; contradiction) | omega) only [go_sem,h]
 | some x=>
  rw [hz] at h
  simp only [isS] at h
  unfold inT at hz
  split at hz
  ·rename_i hc
   obtain ⟨c1,c2,c3,c4⟩:=hc
   have hal:a.toNat < V.length:=by rw [hr.lV]; omega
   rw [List.getElem?_eq_getElem hal] at hz
   have hz:V[a.toNat]? = some (some x):=by rw [List.getElem?_eq_getElem hal]; exact congrArg some hz
   obtain ⟨i,j,p1,p2,p3,p4,p5,p6⟩:=hr.some_ _ x hz
   have e1:=rws_at (W:=wOf c) p2
   simp only [rwV] at e1
   have hwv:c.vars.length ≤ 64 * wOf c:=by unfold wOf; omega
   have hwl:wOf c ≤ 1000:=by unfold wOf; omega
   have hh:=has_e hx p4 v.toNat (by omega) (by omega) (by omega)
   rw [p6,Int.toNat_of_nonneg c3] at hh
   simp (maxSteps:=4000000) (disch:=first | (intros; contradiction) | omega) only [go_sem,h,c1,c2,e1,hh,Nat.mul_one]
  ·cases hz
end
end Go.Proofs.YticliodhjfednaaGreat
