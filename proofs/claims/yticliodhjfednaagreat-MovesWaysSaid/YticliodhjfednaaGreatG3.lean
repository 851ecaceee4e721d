/- Moves: what is right. Conditions: none. -/
import Derived.Test.YticliodhjfednaaGreatG2
set_option linter.unusedSimpArgs false
set_option linter.unusedVariables false
namespace Go.Proofs.YticliodhjfednaaGreat
open Go Go.Ab
variable {ext:Sem'}
theorem ix_e (hx:TX ext) (l:List Int) (v:Int) (hl:l.length ≤ 1000000):G ext 58 [.d (.sl (l.map rowI)),.d (.int .i64 v)] [] = some (.ret (.d (.int .i64 (idxN (fun x=>decide (v = x)) l))),[]):=by
 have hll:(l.map rowI).length = l.length:=List.length_map _
 rw [G_body hx.clear rfl Tryz.func58 rfl Tryz.results58 hv_58 rfl]
 simp (maxSteps:=4000000) (disch:=first | (intros; contradiction) | omega) only [go_sem]
 generalize hL:loopA _ _ _ = L
 apply range_upd hL (by simp (maxSteps:=4000000) (disch:=first | (intros; contradiction) | omega) only [go_sem] <;> rfl) l rowI (α:=Unit) (fun rest k _=>idxP (fun x=>decide (v = x)) l = (idxP (fun x=>decide (v = x)) rest).map (· + k)) (fun k _=>[(8,.d (.int .i64 k))]) (fun _ _=>[]) () (by simp (maxSteps:=4000000) (disch:=first | (intros; contradiction) | omega) only [go_sem] <;> rfl) (by simp) ?_ ?_
 ·rintro x rest k _ q1 hlt hr hget hk _ next ih
  clear hL
  simp only [rowI] at hr
  by_cases e:x = v
  ·subst e
   have hi:idxN (fun y=>decide (x = y)) l = k:=by unfold idxN; rw [q1]; simp [idxP]
   simp (maxSteps:=4000000) (disch:=first | (intros; contradiction) | omega) only [go_sem,hlt,hr,hi]
  ·have e':=eq_false e
   have e2:¬ v = x:=fun h=>e h.symm
   have e2':=eq_false e2
   simp (maxSteps:=4000000) (disch:=first | (intros; contradiction) | omega) only [go_sem,hlt,hr,e',e2',wrap64]
   exact ih () _ (by rw [q1]; simp [idxP,e2,Function.comp_def]; congr 1; funext n; omega) (by simp (maxSteps:=4000000) (disch:=first | (intros; contradiction) | omega) only [go_sem] <;> rfl)
 ·rintro k _ q1 hlt hk next
  clear hL
  have hi:idxN (fun x=>decide (v = x)) l = -1:=by unfold idxN; rw [q1]; simp [idxP]
  simp (maxSteps:=4000000) (disch:=first | (intros; contradiction) | omega) only [go_sem,hlt,hi]
theorem ct_e (hx:TX ext) (l:List Int) (v:Int) (hl:l.length ≤ 1000000):G ext 59 [.d (.sl (l.map rowI)),.d (.int .i64 v)] [] = some (.ret (.d (.bool (l.any fun x=>decide (v = x)))),[]):=by
 have h:=ix_e hx l v hl
 rw [← idxN_any]
 rw [G_body hx.clear rfl Tryz.func59 rfl Tryz.results59 hv_59 rfl]
 simp (maxSteps:=4000000) (disch:=first | (intros; contradiction) | omega) only [go_sem,h]
theorem idxN_bound (p:Int→Bool) (l:List Int):-1 ≤ idxN p l∧idxN p l < (l.length:Int) ∨ l = []∧idxN p l = -1:=by
 unfold idxN
 cases h:idxP p l with
 | none=>cases l with
  | nil=>exact .inr ⟨rfl,rfl⟩
  | cons x l=>exact .inl ⟨Int.le_refl _,by simp only [List.length_cons]; omega⟩
 | some i=>have:=(idxP_some h).1; exact .inl ⟨by show (-1:Int) ≤ (i:Int); omega,by show (i:Int) < _; omega⟩
section
variable {c:Cd1} {R:List Rw} {E P:List (Option Nat)} {V:Val}
def dupAt (rs:List Int) (v:Int):Bool:=(rs.drop (idxN (fun x=>decide (v = x)) rs + 1).toNat).any fun x=>decide (v = x)
def rightT (c:Cd1) (V:Val) (k:Nat) (i:In1):Bool:=(awayI i).all (fun v=>!dupAt (readsP i) v) && (readsP i).all fun v=>thereT c V k v
def tbD (c:Cd1) (n i j:Nat):List AV:=[.d (.str c.name),.d (.int .i64 c.params),.d (.sl (c.vars.map Vr1.row)),.d (.bool c.ret.t.ptr),.d (.str c.ret.t.to),.d (.int .i64 c.ret.cls),.d (ints c.frm),.d (.sl (c.ins.map In1.row)),.arr i 0 n 1,.arr j 0 n 1]
theorem rt1_e (hx:TF ext) (h:CkF ext c) (hr:Rel (wOf c) c.ins.length R E P V) (k v:Int) :
  G ext 57 [.d (.int .i64 v),.ptr 1 0,.ptr 5 0] [.reg (rgB R),.cells [.ptr 2 0],.cells (tbD c c.ins.length 3 4),.cells (rws (wOf c) E),.cells (rws (wOf c) P),.cells [.d (.int .i64 k)]]
   = some (.ret (.d (.bool (thereT c V k v))),[.reg (rgB R),.cells [.ptr 2 0],.cells (tbD c c.ins.length 3 4),.cells (rws (wOf c) E),.cells (rws (wOf c) P),.cells [.d (.int .i64 k)]]):=by
 have ht:=there_e2 hx.toTX h.nl h.v hr k v
 simp only [tbH,tbC] at ht
 rw [G_body hx.clear rfl Tryz.func57 rfl Tryz.results57 hv_57 rfl]
 simp only [tbD]
 simp (maxSteps:=4000000) (disch:=first | (intros; contradiction) | omega) only [go_sem,ht]
def rtH (c:Cd1) (R:List Rw) (E P:List (Option Nat)) (k:Int):List AObj:=[.reg (rgB R),.cells [.fn 57 [] [.ptr 2 0,.ptr 6 0]],.cells [.ptr 3 0],.cells (tbD c c.ins.length 4 5),.cells (rws (wOf c) E),.cells (rws (wOf c) P),.cells [.d (.int .i64 k)]]
theorem rt2_e (hx:TF ext) (h:CkF ext c) (hr:Rel (wOf c) c.ins.length R E P V) (k v:Int) :
  G ext 61 [.d (.int .i64 v),.ptr 1 0] (rtH c R E P k) = some (.ret (.d (.bool (!thereT c V k v))),rtH c R E P k):=by
 have ht:=rt1_e hx h hr k v
 simp only [tbD] at ht
 rw [G_body hx.clear rfl Tryz.func61 rfl Tryz.results61 hv_61 rfl]
 simp only [rtH,tbD]
 simp (maxSteps:=4000000) (disch:=first | (intros; contradiction) | omega) only [go_sem,ht]
theorem rtx_e (hx:TF ext) (h:CkF ext c) (hr:Rel (wOf c) c.ins.length R E P V) (k:Int) (l:List Int) (hl:l.length ≤ 1000000) :
  G ext 101 [.d (.sl (l.map rowI)),.fn 61 [] [.ptr 1 0]] (rtH c R E P k) = some (.ret (.d (.int .i64 (idxN (fun v=>!thereT c V k v) l))),rtH c R E P k):=by
 have hll:(l.map rowI).length = l.length:=List.length_map _
 have ht:=fun v=>rt2_e hx h hr k v
 simp only [rtH,tbD] at ht
 rw [G_body hx.clear rfl Tryz.func101 rfl Tryz.results101 hv_101 rfl]
 simp only [rtH,tbD]
 simp (maxSteps:=4000000) (disch:=first | (intros; contradiction) | omega) only [go_sem]
 generalize hL:loopA _ _ _ = L
 apply range_upd hL (by simp (maxSteps:=4000000) (disch:=first | (intros; contradiction) | omega) only [go_sem] <;> rfl) l rowI (α:=Unit) (fun rest q _=>idxP (fun v=>!thereT c V k v) l = (idxP (fun v=>!thereT c V k v) rest).map (· + q)) (fun q _=>[(8,.d (.int .i64 q))]) (fun _ _=>[]) () (by simp (maxSteps:=4000000) (disch:=first | (intros; contradiction) | omega) only [go_sem] <;> rfl) (by simp) ?_ ?_
 ·rintro x rest q _ q1 hlt hr2 hget hk _ next ih
  clear hL
  simp only [rowI] at hr2
  have ht:=ht x
  cases e:thereT c V k x with
  | false=>
   rw [e] at ht
   have hi:idxN (fun v=>!thereT c V k v) l = q:=by unfold idxN; rw [q1]; simp [idxP,e]
   simp (maxSteps:=4000000) (disch:=first | (intros; contradiction) | omega) only [go_sem,hlt,hr2,hi,ht]
  | true=>
   rw [e] at ht
   simp (maxSteps:=4000000) (disch:=first | (intros; contradiction) | omega) only [go_sem,hlt,hr2,ht,wrap64]
   exact ih () _ (by rw [q1]; simp [idxP,e,Function.comp_def]; congr 1; funext n; omega) (by simp (maxSteps:=4000000) (disch:=first | (intros; contradiction) | omega) only [go_sem] <;> rfl)
 ·rintro q _ q1 hlt hk next
  clear hL
  have hi:idxN (fun v=>!thereT c V k v) l = -1:=by unfold idxN; rw [q1]; simp [idxP]
  simp (maxSteps:=4000000) (disch:=first | (intros; contradiction) | omega) only [go_sem,hlt,hi]
theorem rtc_e (hx:TF ext) (h:CkF ext c) (hr:Rel (wOf c) c.ins.length R E P V) (k:Int) (l:List Int) (hl:l.length ≤ 1000000) :
  G ext 60 [.d (.sl (l.map rowI)),.fn 61 [] [.ptr 1 0]] (rtH c R E P k) = some (.ret (.d (.bool (l.any fun v=>!thereT c V k v))),rtH c R E P k):=by
 have ht:=rtx_e hx h hr k l hl
 rw [← idxN_any]
 simp only [rtH,tbD] at ht
 rw [G_body hx.clear rfl Tryz.func60 rfl Tryz.results60 hv_60 rfl]
 simp only [rtH,tbD]
 simp (maxSteps:=4000000) (disch:=first | (intros; contradiction) | omega) only [go_sem,ht]
theorem mright_e (hx:TF ext) (h:CkF ext c) (hr:Rel (wOf c) c.ins.length R E P V) (k:Nat) {i:In1} (hi:c.ins[k]? = some i) (hrl:i.args.length ≤ 1000) :
  G ext 32 [.ptr 1 0,.d (.int .i64 k)] (tbH R c c.ins.length (wOf c) E P) = some (.ret (.d (.bool (rightT c V k i))),tbH R c c.ins.length (wOf c) E P):=by
 have hn:=h.nl
 have hv:=h.v
 obtain ⟨u1,u2,u3,u4⟩:=h.ins k i hi
 have hrd:=reads_e hx.toTX i hrl
 have haw:=away_e hx R c c.ins.length (wOf c) E P k hi (by omega) u1 u2
 rw [show ints (awayI i) = .sl ((awayI i).map rowI) from rfl] at haw
 have hi2:(c.ins.map In1.row)[k]? = some i.row:=by rw [List.getElem?_map,hi]; rfl
 have hl2:(k:Int) < ((c.ins.map In1.row).length:Int):=by rw [List.length_map]; have:=(List.getElem?_eq_some_iff.1 hi).1; omega
 simp only [tbH,tbC] at haw
 simp only [In1.av] at hrd
 simp only [In1.row] at hi2
 rw [G_body hx.clear rfl Tryz.func32 rfl Tryz.results32 hv_32 rfl]
 simp only [tbH,tbC]
 have hc:=rtc_e hx h hr k (readsP i) (by have:=reads_len i; omega)
 simp only [rtH,tbD] at hc
 have hrl2:(readsP i).length ≤ 1002:=by have:=reads_len i; omega
 have hrl3:((readsP i).map rowI).length = (readsP i).length:=List.length_map _
 have hal:(awayI i).length ≤ 1000:=by have:=gives_len (usesL i); unfold awayI; omega
 have hal2:((awayI i).map rowI).length = (awayI i).length:=List.length_map _
 simp (maxSteps:=4000000) (disch:=first | (intros; contradiction) | omega) only [go_sem,hi2,hl2,hrd,haw]
 generalize hL:loopA _ _ _ = L
 apply range_upd hL (by simp (maxSteps:=4000000) (disch:=first | (intros; contradiction) | omega) only [go_sem] <;> rfl) (awayI i) rowI (α:=Unit) (fun rest q _=>(awayI i).all (fun v=>!dupAt (readsP i) v) = rest.all fun v=>!dupAt (readsP i) v) (fun q _=>[(24,.d (.int .i64 q))]) (fun _ _=>[]) () (by simp (maxSteps:=4000000) (disch:=first | (intros; contradiction) | omega) only [go_sem] <;> rfl) rfl ?_ ?_
 ·rintro v rest q _ q1 hlt hr2 hget hk _ next ih
  clear hL
  simp only [rowI] at hr2
  have hix:=ix_e hx.toTX (readsP i) v (by omega)
  have hb:=idxN_bound (fun x=>decide (v = x)) (readsP i)
  generalize hj:idxN (fun x=>decide (v = x)) (readsP i) = j at hix hb
  have j1:0 ≤ j + 1:=by omega
  have j2:j + 1 ≤ ((readsP i).length:Int):=by omega
  have hct:=ct_e hx.toTX ((readsP i).drop (j + 1).toNat) v (by simp; omega)
  have hdm:((readsP i).map rowI).drop (j + 1).toNat = ((readsP i).drop (j + 1).toNat).map rowI:=List.map_drop.symm
  have hfi:fits 1 ((readsP i).map rowI):=by intro row h; obtain ⟨x,_,rfl⟩:=List.mem_map.1 h; rfl
  have hdu:dupAt (readsP i) v = ((readsP i).drop (j + 1).toNat).any fun x=>decide (v = x):=by unfold dupAt; rw [hj]
  rw [← hdu] at hct
  cases hd:dupAt (readsP i) v with
  | true=>
   have hre:rightT c V k i = false:=by unfold rightT; rw [q1]; simp [hd]
   rw [hd] at hct
   simp (maxSteps:=4000000) (disch:=first | (intros; contradiction) | omega) only [go_sem,hlt,hr2,hix,j1,j2,hdm,hfi,hct,hre,hrl3,wrap64]
  | false=>
   rw [hd] at hct
   simp (maxSteps:=4000000) (disch:=first | (intros; contradiction) | omega) only [go_sem,hlt,hr2,hix,j1,j2,hdm,hfi,hct,hrl3,wrap64]
   exact ih () _ (by rw [q1]; simp [hd]) (by simp (maxSteps:=4000000) (disch:=first | (intros; contradiction) | omega) only [go_sem] <;> rfl)
 ·rintro q _ q1 hlt hk next
  clear hL
  have hre:rightT c V k i = !((readsP i).any fun v=>!thereT c V k v):=by
   unfold rightT
   rw [q1]
   simp [List.all_eq_not_any_not]
  simp (maxSteps:=4000000) (disch:=first | (intros; contradiction) | omega) only [go_sem,hlt,hc,hre]
end
end Go.Proofs.YticliodhjfednaaGreat
