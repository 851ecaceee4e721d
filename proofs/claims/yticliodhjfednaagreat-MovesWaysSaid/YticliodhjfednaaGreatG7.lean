/- The document's flow: where an instruction goes. Conditions: none. -/
import Derived.Test.YticliodhjfednaaGreatG6
import Derived.Test.YticliodhjfednaaGreatR1
set_option linter.unusedSimpArgs false
set_option linter.unusedVariables false
namespace Go.Proofs.YticliodhjfednaaGreat
open Go Go.Ab
variable {ext:Sem'}
theorem rnx_e (hx:TX ext) (i:In1) (k:Int) (h0:0 ≤ k) (h1:k ≤ 1000000):G ext 37 [i.av,.d (.int .i64 k)] [] = some (.ret (.d (ints (nxtI i k))),[]):=by
 rw [G_body hx.clear rfl Tryz.func37 rfl Tryz.results37 hv_37 rfl]
 unfold nxtI
 simp only [In1.av,ints]
 by_cases o1:i.op = 16
 ·rw [if_pos o1]
  simp (maxSteps:=4000000) (disch:=first | (intros; contradiction) | omega) only [go_sem,o1,List.map_cons,List.map_nil,rowI]
 ·rw [if_neg o1]
  by_cases o2:i.op = 17
  ·rw [if_pos o2]
   by_cases ho:i.to = i.els
   ·rw [if_pos ho]
    have o1:=eq_false o1
    simp (maxSteps:=4000000) (disch:=first | (intros; contradiction) | omega) only [go_sem,o1,o2,ho,List.map_cons,List.map_nil,rowI]
   ·rw [if_neg ho]
    have o1:=eq_false o1
    have ho:=eq_false ho
    simp (maxSteps:=4000000) (disch:=first | (intros; contradiction) | omega) only [go_sem,o1,o2,ho,List.map_cons,List.map_nil,rowI]
  ·rw [if_neg o2]
   by_cases o3:i.op = 18
   ·rw [if_pos o3]
    have o1:=eq_false o1
    have o2:=eq_false o2
    simp (maxSteps:=4000000) (disch:=first | (intros; contradiction) | omega) only [go_sem,o1,o2,o3,List.map_cons,List.map_nil,rowI]
   ·rw [if_neg o3]
    have o1:=eq_false o1
    have o2:=eq_false o2
    have o3:=eq_false o3
    simp (maxSteps:=4000000) (disch:=first | (intros; contradiction) | omega) only [go_sem,o1,o2,o3,wrap64,List.map_cons,List.map_nil,rowI]
theorem rnx08_e (hx:TX ext) (c:Cd1) (k:Nat) {i:In1} (hi:c.ins[k]? = some i) (hk:c.ins.length ≤ 100000) (hin:∀ y,y ∈ nxtI i k→0 ≤ y∧y < c.ins.length):G ext 21 [c.av,.d (.int .i64 k)] [] = some (.ret (.d (ints (nxtI i k))),[]):=by
 have hlt:=(List.getElem?_eq_some_iff.1 hi).1
 have h1:=rnx_e hx i k (by omega) (by omega)
 have hi2:(c.ins.map In1.row)[k]? = some i.row:=by rw [List.getElem?_map,hi]; rfl
 have hl2:(k:Int) < ((c.ins.map In1.row).length:Int):=by rw [List.length_map]; omega
 have hil:(c.ins.map In1.row).length = c.ins.length:=List.length_map _
 have hn2:=nxtI_len i k
 have hll:((nxtI i k).map rowI).length = (nxtI i k).length:=List.length_map _
 simp only [In1.av] at h1
 simp only [In1.row] at hi2
 rw [show ints (nxtI i k) = .sl ((nxtI i k).map rowI) from rfl] at h1 ⊢
 rw [G_body hx.clear rfl Tryz.func21 rfl Tryz.results21 hv_21 rfl]
 simp only [Cd1.av]
 simp (maxSteps:=4000000) (disch:=first | (intros; contradiction) | omega) only [go_sem,hi2,hl2,h1]
 generalize hL:loopA _ _ _ = L
 apply range_upd hL (by simp (maxSteps:=4000000) (disch:=first | (intros; contradiction) | omega) only [go_sem] <;> rfl) (nxtI i k) rowI (α:=List Int × Nat) (fun rest q x=>x.1 ++ rest = nxtI i k) (fun q x=>[(5,.grow 2 x.2 (x.1.map rowI)),(7,.d (.int .i64 q))]) (fun _ x=>[(2,.grow x.2 1)]) ([],0) (by simp (maxSteps:=4000000) (disch:=first | (intros; contradiction) | omega) only [go_sem] <;> rfl) rfl ?_ ?_
 ·rintro y rest q ⟨acc,e⟩ q1 hlt3 hr3 hget hq _ next ih
  clear hL
  have q1:acc ++ y :: rest = nxtI i k:=q1
  obtain ⟨y0,y1⟩:=hin y (by rw [← q1]; simp)
  simp only [rowI] at hr3
  have hql:q < 2:=by omega
  have hal:acc.length ≤ 2:=by have:=congrArg List.length q1; simp at this; omega
  have hrm:room ((acc.map rowI).length + 1) 8:=by unfold room; simp; omega
  have hf1:fits 1 (acc.map rowI):=by intro row h; obtain ⟨x,_,rfl⟩:=List.mem_map.1 h; rfl
  have hap:acc.map rowI ++ [[Dt.int .i64 y]] = (acc ++ [y]).map rowI:=by simp [rowI]
  have y1':y < ((c.ins.map In1.row).length:Int):=by rw [hil]; exact y1
  simp (maxSteps:=4000000) (disch:=first | (intros; contradiction) | omega) only [go_sem,hlt3,hr3,y0,y1',hrm,hf1,hap,wrap64]
  exact ih (acc ++ [y],e + 1) _ (by show acc ++ [y] ++ rest = _; rw [← q1]; simp) (by simp (maxSteps:=4000000) (disch:=first | (intros; contradiction) | omega) only [go_sem] <;> rfl)
 ·rintro q ⟨acc,e⟩ q1 hlt3 hq next
  clear hL
  have q1:acc ++ [] = nxtI i k:=q1
  rw [List.append_nil] at q1
  subst q1
  simp (maxSteps:=4000000) (disch:=first | (intros; contradiction) | omega) only [go_sem,hlt3]
end Go.Proofs.YticliodhjfednaaGreat
