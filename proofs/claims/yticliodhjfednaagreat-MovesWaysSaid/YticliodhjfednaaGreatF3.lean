/- ir.Next, flow.next. Conditions: none. -/
import Derived.Test.YticliodhjfednaaGreatF1
set_option linter.unusedSimpArgs false
set_option linter.unusedVariables false
namespace Go.Proofs.YticliodhjfednaaGreat
open Go Go.Ab
variable {ext:Sem'}
def nxtI (i:In1) (k:Int):List Int:=if i.op = 16 then [i.to] else if i.op = 17 then (if i.to = i.els then [i.to] else [i.to,i.els]) else if i.op = 18 then [] else [k + 1]
theorem nxtI_len (i:In1) (k:Int):(nxtI i k).length ≤ 2:=by unfold nxtI; split <;> (try split) <;> (try split) <;> simp
theorem cpt2 (hx:TX ext) (a b:Int) (h:¬ a = b):G ext 87 [.d (.sl [[.int .i64 a],[.int .i64 b]])] [] = some (.ret (.d (.sl [[.int .i64 a],[.int .i64 b]])),[]):=by
 have h2:¬ b = a:=fun e=>h e.symm
 have h:=eq_false h
 have h2:=eq_false h2
 rw [G_body hx.clear rfl Tryz.func87 rfl Tryz.results87 hv_87 rfl]
 simp (maxSteps:=4000000) (disch:=first | (intros; contradiction) | omega) only [go_sem,h,h2]
 generalize hL:loopA _ _ _ = L
 apply loop_upd hL (by simp (maxSteps:=4000000) (disch:=first | (intros; contradiction) | omega) only [go_sem] <;> rfl) (α:=Nat) (fun k=>k = 1 ∨ k = 2) (fun k=>2 - k) (fun k=>[(3,.d (.int .i64 k))]) (fun _=>[]) 1 (by simp (maxSteps:=4000000) (disch:=first | (intros; contradiction) | omega) only [go_sem] <;> rfl) (.inl rfl) ?_
 rintro k hk next ih
 clear hL
 rcases hk with rfl | rfl
 ·simp (maxSteps:=4000000) (disch:=first | (intros; contradiction) | omega) only [go_sem,h,h2,wrap64]
  exact ih 2 _ (.inr rfl) (by omega) (by simp (maxSteps:=4000000) (disch:=first | (intros; contradiction) | omega) only [go_sem] <;> rfl)
 ·clear ih
  simp (maxSteps:=4000000) (disch:=first | (intros; contradiction) | omega) only [go_sem,h,h2,wrap64]
theorem G_bodyF {f:Nat} {F:Func} {c:Code} {xs:List AV} {H:List AObj} {rs:List ResultVar} {V:List Nat} (he:ext f xs H = none) (h:Tryz.prog.funcs[f]? = some F) (hb:F.body = some c) (hr:F.results = ⟨rs⟩) (hV:hv f = V) (hl:Nat.ble xs.length F.ntmps = true) :
  G ext f xs H = finish Tryz.prog rs H.length (evC Tryz.prog (G ext) (hd f) (hf f) 0 c (.go (Go.Ab.start xs V H))):=
 callA_body he h hb hr hV (Nat.le_of_ble_eq_true hl)
theorem next_e (hx:TF ext) (i:In1) (k:Int) (h0:0 ≤ k) (h1:k ≤ 1000000):G ext 48 [i.av,.d (.int .i64 k)] [] = some (.ret (.d (ints (nxtI i k))),[]):=by
 by_cases hs:i.op = 17∧i.to = i.els
 ·obtain ⟨o2,ho⟩:=hs
  unfold nxtI
  rw [if_neg (by omega),if_pos o2,if_pos ho]
  exact G_ext (hx.next i k o2 ho)
 ·have hn:=hx.nextN i k hs
  rw [G_bodyF hn Tryz.func48 rfl Tryz.results48 hv_48 rfl]
  unfold nxtI
  simp only [In1.av,ints]
  by_cases o1:i.op = 16
  ·rw [if_pos o1]
   simp (maxSteps:=4000000) (disch:=first | (intros; contradiction) | omega) only [go_sem,o1,List.map_cons,List.map_nil,rowI]
  ·rw [if_neg o1]
   by_cases o2:i.op = 17
   ·have ho:¬ i.to = i.els:=fun h=>hs ⟨o2,h⟩
    rw [if_pos o2,if_neg ho]
    have hc:=cpt2 hx.toTX i.to i.els ho
    have o1:=eq_false o1
    simp (maxSteps:=4000000) (disch:=first | (intros; contradiction) | omega) only [go_sem,o1,o2,hc,List.map_cons,List.map_nil,rowI]
   ·rw [if_neg o2]
    by_cases o3:i.op = 18
    ·rw [if_pos o3]
     simp (maxSteps:=4000000) (disch:=first | (intros; contradiction) | omega) only [go_sem,o1,o2,o3,List.map_cons,List.map_nil,rowI]
    ·rw [if_neg o3]
     simp (maxSteps:=4000000) (disch:=first | (intros; contradiction) | omega) only [go_sem,o1,o2,o3,wrap64,List.map_cons,List.map_nil,rowI]
def offP (n:Nat) (x:Int):Bool:=decide (x < 0) || decide ((n:Int) ≤ x)
theorem off_e (hx:TX ext) (c:Cd1) (x:Int):G ext 140 ([avI x] ++ [.ptr 0 0]) [.cells [.d (.str c.name),.d (.int .i64 c.params),.d (.sl (c.vars.map Vr1.row)),.d (.bool c.ret.t.ptr),.d (.str c.ret.t.to),.d (.int .i64 c.ret.cls),.d (ints c.frm),.d (.sl (c.ins.map In1.row))]] = some (.ret (.d (.bool (offP c.ins.length x))),[.cells [.d (.str c.name),.d (.int .i64 c.params),.d (.sl (c.vars.map Vr1.row)),.d (.bool c.ret.t.ptr),.d (.str c.ret.t.to),.d (.int .i64 c.ret.cls),.d (ints c.frm),.d (.sl (c.ins.map In1.row))]]):=by
 have hl:(c.ins.map In1.row).length = c.ins.length:=List.length_map _
 simp only [avI,List.cons_append,List.nil_append]
 rw [G_body hx.clear rfl Tryz.func140 rfl Tryz.results140 hv_140 rfl]
 unfold offP
 by_cases h:x < 0
 ·simp (maxSteps:=4000000) (disch:=first | (intros; contradiction) | omega) only [go_sem,h,hl]
  simp [h]
 ·have h':=eq_false h
  simp (maxSteps:=4000000) (disch:=first | (intros; contradiction) | omega) only [go_sem,h',hl]
theorem idxN_none {p:Int→Bool}:∀ {l:List Int},(∀ x,x ∈ l→p x = false)→idxN p l = -1:=by
 intro l h
 have e:idxP p l = none:=by
  induction l with
  | nil=>rfl
  | cons x l ih=>rw [idxP,h x (.head _),ih (fun y hy=>h y (.tail _ hy))]; rfl
 unfold idxN
 rw [e]
theorem del_e (hx:TX ext) (c:Cd1) (l:List Int) (hl:l.length ≤ 1000) (hr:∀ x,x ∈ l→offP c.ins.length x = false):G ext 139 [.d (ints l),.fn 140 [] [.ptr 0 0]] [.cells [.d (.str c.name),.d (.int .i64 c.params),.d (.sl (c.vars.map Vr1.row)),.d (.bool c.ret.t.ptr),.d (.str c.ret.t.to),.d (.int .i64 c.ret.cls),.d (ints c.frm),.d (.sl (c.ins.map In1.row))]] = some (.ret (.d (ints l)),[.cells [.d (.str c.name),.d (.int .i64 c.params),.d (.sl (c.vars.map Vr1.row)),.d (.bool c.ret.t.ptr),.d (.str c.ret.t.to),.d (.int .i64 c.ret.cls),.d (ints c.frm),.d (.sl (c.ins.map In1.row))]]):=by
 have hi:=indexInt1_e hx 140 (offP c.ins.length) _ (by rfl) (fun f=>by rfl) l (by omega) (fun x _=>off_e hx c x)
 rw [idxN_none hr] at hi
 rw [G_body hx.clear rfl Tryz.func139 rfl Tryz.results139 hv_139 rfl]
 simp only [ints] at hi ⊢
 simp (maxSteps:=4000000) (disch:=first | (intros; contradiction) | omega) only [go_sem,hi]
theorem fnext_e (hx:TF ext) (c:Cd1) {i:In1} (k:Nat) (hi:c.ins[k]? = some i) (hk:c.ins.length ≤ 1000000) (hr:∀ x,x ∈ nxtI i k→offP c.ins.length x = false):G ext 118 [c.av,.d (.int .i64 k)] [] = some (.ret (.d (ints (nxtI i k))),[]):=by
 have hlt:=(List.getElem?_eq_some_iff.1 hi).1
 have h1:=next_e hx i k (by omega) (by omega)
 have h2:=del_e hx.toTX c (nxtI i k) (by have:=nxtI_len i k; omega) hr
 have hi2:(c.ins.map In1.row)[k]? = some i.row:=by rw [List.getElem?_map,hi]; rfl
 have hl2:(k:Int) < ((c.ins.map In1.row).length:Int):=by rw [List.length_map]; omega
 rw [G_body hx.clear rfl Tryz.func118 rfl Tryz.results118 hv_118 rfl]
 simp only [Cd1.av]
 simp only [In1.row] at hi2
 simp only [In1.av] at h1
 simp (maxSteps:=4000000) (disch:=first | (intros; contradiction) | omega) only [go_sem,hi2,hl2,h1,h2]
end Go.Proofs.YticliodhjfednaaGreat
