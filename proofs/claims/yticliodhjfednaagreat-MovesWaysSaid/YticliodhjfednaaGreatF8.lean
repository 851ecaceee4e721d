/- Moves: what an instruction gives away. Conditions: none. -/
import Derived.Test.YticliodhjfednaaGreatF2
import Derived.Test.YticliodhjfednaaGreatF7
import Derived.Test.YticliodhjfednaaGreatM18
set_option linter.unusedSimpArgs false
set_option linter.unusedVariables false
namespace Go.Proofs.YticliodhjfednaaGreat
open Go Go.Ab
variable {ext:Sem'}
def givesL (l:List (Int × Int)):List Int:=match l with
 | []=>[]
 | (v,k) :: l=>if k = 3 then v :: givesL l else givesL l
def awayI (i:In1):List Int:=givesL (usesL i)
theorem gives_len:∀ l:List (Int × Int),(givesL l).length ≤ l.length
 | []=>Nat.le_refl _
 | (v,k) :: l=>by
  have:=gives_len l
  unfold givesL
  split <;> simp <;> omega
theorem away_e (hx:TF ext) (R:List Rw) (c:Cd1) (n W:Nat) (E P:List (Option Nat)) (k:Nat) {i:In1} (hi:c.ins[k]? = some i) (hk:c.ins.length ≤ 1000000) (hul:(usesL i).length ≤ 1000)
  (hti:G ext 85 [c.av,i.av] [] = some (.ret (.d (.sl ((usesL i).map useRow))),[])) :
  G ext 46 [.ptr 1 0,.d (.int .i64 k)] (tbH R c n W E P) = some (.ret (.d (ints (awayI i))),tbH R c n W E P):=by
 have hlt:=(List.getElem?_eq_some_iff.1 hi).1
 have hi2:(c.ins.map In1.row)[k]? = some i.row:=by rw [List.getElem?_map,hi]; rfl
 have hl2:(k:Int) < ((c.ins.map In1.row).length:Int):=by rw [List.length_map]; omega
 have hul2:((usesL i).map useRow).length = (usesL i).length:=List.length_map _
 simp only [Cd1.av,In1.av] at hti
 simp only [In1.row] at hi2
 rw [G_body hx.clear rfl Tryz.func46 rfl Tryz.results46 hv_46 rfl]
 simp only [tbH,tbC]
 simp (maxSteps:=4000000) (disch:=first | (intros; contradiction) | omega) only [go_sem,hi2,hl2,hti]
 generalize hL:loopA _ _ _ = L
 apply range_upd hL (by simp (maxSteps:=4000000) (disch:=first | (intros; contradiction) | omega) only [go_sem] <;> rfl) (usesL i) useRow (α:=List Int × Nat) (fun rest q x=>x.1 ++ givesL rest = awayI i∧x.1.length ≤ q) (fun q x=>[(4,.grow 4 x.2 (x.1.map rowI)),(21,.d (.int .i64 q))]) (fun _ x=>[(4,.grow x.2 1)]) ([],0) (by simp (maxSteps:=4000000) (disch:=first | (intros; contradiction) | omega) only [go_sem] <;> rfl) ⟨rfl,Nat.le_refl _⟩ ?_ ?_
 ·rintro ⟨v,kd⟩ rest q ⟨acc,e⟩ ⟨q1,q2⟩ hlt2 hr2 hget hq _ next ih
  clear hL
  simp only at q1 q2 ih ⊢
  simp only [useRow] at hr2
  have hal:(acc.map rowI).length = acc.length:=List.length_map _
  have hrm:room ((acc.map rowI).length + 1) 8:=by unfold room; simp; omega
  have hf1:fits 1 (acc.map rowI):=by intro row h; obtain ⟨x,_,rfl⟩:=List.mem_map.1 h; rfl
  have hap:acc.map rowI ++ [[Dt.int .i64 v]] = (acc ++ [v]).map rowI:=by simp [rowI]
  by_cases h3:kd = 3
  ·subst h3
   simp (maxSteps:=4000000) (disch:=first | (intros; contradiction) | omega) only [go_sem,hlt2,hr2,hrm,hf1,hap,wrap64]
   have hal2:(acc ++ [v]).length = acc.length + 1:=by simp
   exact ih (acc ++ [v],e + 1) _ ⟨by rw [← q1]; simp [givesL],by show (acc ++ [v]).length ≤ q + 1; omega⟩ (by simp (maxSteps:=4000000) (disch:=first | (intros; contradiction) | omega) only [go_sem] <;> rfl)
  ·have h3':=eq_false h3
   simp (maxSteps:=4000000) (disch:=first | (intros; contradiction) | omega) only [go_sem,hlt2,hr2,h3',wrap64]
   exact ih (acc,e) _ ⟨by rw [← q1]; simp [givesL,h3],by show acc.length ≤ q + 1; omega⟩ (by simp (maxSteps:=4000000) (disch:=first | (intros; contradiction) | omega) only [go_sem] <;> rfl)
 ·rintro q ⟨acc,e⟩ ⟨q1,q2⟩ hlt2 hq next
  clear hL
  have q1:acc = awayI i:=by rw [← q1]; simp [givesL]
  subst q1
  have hii:ints (awayI i) = .sl ((awayI i).map rowI):=rfl
  simp (maxSteps:=4000000) (disch:=first | (intros; contradiction) | omega) only [go_sem,hlt2,hii]
end Go.Proofs.YticliodhjfednaaGreat
