/- The document's ir: names, uses, fields. Conditions: none. -/
import Derived.Test.YtkflggjdlflndaaGreatM4
import Derived.Test.YtkflggjdlflndaaGreatLp
set_option linter.unusedSimpArgs false
set_option linter.unusedVariables false
namespace Go.Proofs.YtkflggjdlflndaaGreat
open Go Go.Ab
variable {ext:Sem'}
theorem idx_step {α:Type} {p:α→Bool} {l rest:List α} {x:α} {k:Nat} (h:idxP p l = (idxP p (x :: rest)).map (k + ·)) (hx:p x = false):idxP p l = (idxP p rest).map (k + 1 + ·):=by
 rw [h]
 simp only [idxP,hx,Bool.false_eq_true,if_false,Option.map_map]
 congr 1
 funext n
 simp only [Function.comp]
 omega
theorem idx_here {α:Type} {p:α→Bool} {l rest:List α} {x:α} {k:Nat} (h:idxP p l = (idxP p (x :: rest)).map (k + ·)) (hx:p x = true):idxN p l = k:=by
 unfold idxN
 rw [h]
 simp [idxP,hx]
theorem idx_none {α:Type} {p:α→Bool} {l:List α} {k:Nat} (h:idxP p l = (idxP p []).map (k + ·)):idxN p l = -1:=by
 unfold idxN
 rw [h]
 rfl
theorem s05_e (hx:TX ext) (m:Md1) (n:List UInt8) (hl:m.structs.length ≤ 1000000):G ext 56 [m.av,.d (.str n)] [] = some (.ret (.d (.int .i64 (structIx m n))),[]):=by
 have hll:(m.structs.map Sc1.row).length = m.structs.length:=List.length_map _
 rw [G_body hx.clear rfl Tryz.func56 rfl Tryz.results56 hv_56 rfl]
 simp only [Md1.av,Md1.sr,Md1.fr]
 unfold structIx
 simp (maxSteps:=4000000) (disch:=first | (intros; contradiction) | omega) only [go_sem]
 generalize hL:loopA _ _ _ = L
 apply range_upd hL (by simp (maxSteps:=4000000) (disch:=first | (intros; contradiction) | omega) only [go_sem] <;> rfl) m.structs Sc1.row (α:=Unit) (fun rest k _=>idxP (fun s:Sc1=>decide (s.name = n)) m.structs = (idxP (fun s:Sc1=>decide (s.name = n)) rest).map (k + ·)) (fun k _=>[(5,.d (.int .i64 k))]) (fun _ _=>[]) () (by simp (maxSteps:=4000000) (disch:=first | (intros; contradiction) | omega) only [go_sem] <;> rfl) (by simp) ?_ ?_
 ·intro x rest k _ hi hlt hr hxx hk _ next ih
  clear hL
  simp only [Sc1.row] at hr
  have hwk:IntKind.wrap .i64 ((k:Int) + 1) = ((k + 1:Nat):Int):=by rw [wrap64 (by omega) (by omega)]; omega
  by_cases hn:x.name = n
  ·rw [idx_here hi (decide_eq_true hn)]
   simp (maxSteps:=4000000) (disch:=first | (intros; contradiction) | omega) only [go_sem,hlt,hr,hn]
   done
  ·have hi2:=idx_step hi (decide_eq_false hn)
   simp (maxSteps:=4000000) (disch:=first | (intros; contradiction) | omega) only [go_sem,hlt,hr,hn,hwk]
   exact ih () _ hi2 (by simp (maxSteps:=4000000) (disch:=first | (intros; contradiction) | omega) only [go_sem] <;> rfl)
 ·intro k _ hi hlt hk next
  clear hL
  rw [idx_none hi]
  simp (maxSteps:=4000000) (disch:=first | (intros; contradiction) | omega) only [go_sem,hlt]
  done
theorem f05_e (hx:TX ext) (m:Md1) (n:List UInt8) (hl:m.funcs.length ≤ 1000000):G ext 19 [m.av,.d (.str n)] [] = some (.ret (.d (.int .i64 (funcIx m n))),[]):=by
 have hll:(m.funcs.map Cd1.row).length = m.funcs.length:=List.length_map _
 rw [G_body hx.clear rfl Tryz.func19 rfl Tryz.results19 hv_19 rfl]
 simp only [Md1.av,Md1.sr,Md1.fr]
 unfold funcIx
 simp (maxSteps:=4000000) (disch:=first | (intros; contradiction) | omega) only [go_sem]
 generalize hL:loopA _ _ _ = L
 apply range_upd hL (by simp (maxSteps:=4000000) (disch:=first | (intros; contradiction) | omega) only [go_sem] <;> rfl) m.funcs Cd1.row (α:=Unit) (fun rest k _=>idxP (fun s:Cd1=>decide (s.name = n)) m.funcs = (idxP (fun s:Cd1=>decide (s.name = n)) rest).map (k + ·)) (fun k _=>[(5,.d (.int .i64 k))]) (fun _ _=>[]) () (by simp (maxSteps:=4000000) (disch:=first | (intros; contradiction) | omega) only [go_sem] <;> rfl) (by simp) ?_ ?_
 ·intro x rest k _ hi hlt hr hxx hk _ next ih
  clear hL
  simp only [Cd1.row] at hr
  have hwk:IntKind.wrap .i64 ((k:Int) + 1) = ((k + 1:Nat):Int):=by rw [wrap64 (by omega) (by omega)]; omega
  by_cases hn:x.name = n
  ·rw [idx_here hi (decide_eq_true hn)]
   simp (maxSteps:=4000000) (disch:=first | (intros; contradiction) | omega) only [go_sem,hlt,hr,hn]
   done
  ·have hi2:=idx_step hi (decide_eq_false hn)
   simp (maxSteps:=4000000) (disch:=first | (intros; contradiction) | omega) only [go_sem,hlt,hr,hn,hwk]
   exact ih () _ hi2 (by simp (maxSteps:=4000000) (disch:=first | (intros; contradiction) | omega) only [go_sem] <;> rfl)
 ·intro k _ hi hlt hk next
  clear hL
  rw [idx_none hi]
  simp (maxSteps:=4000000) (disch:=first | (intros; contradiction) | omega) only [go_sem,hlt]
  done
theorem in_e (hx:TX ext) (n:Int) (l:List Int) (hl:l.length ≤ 1000000):G ext 91 [.d (.int .i64 n),.d (.sl (l.map rowI))] [] = some (.ret (.d (.bool (decide (n ∈ l)))),[]):=by
 have hll:(l.map rowI).length = l.length:=List.length_map _
 rw [G_body hx.clear rfl Tryz.func91 rfl Tryz.results91 hv_91 rfl]
 simp (maxSteps:=4000000) (disch:=first | (intros; contradiction) | omega) only [go_sem]
 generalize hL:loopA _ _ _ = L
 apply range_upd hL (by simp (maxSteps:=4000000) (disch:=first | (intros; contradiction) | omega) only [go_sem] <;> rfl) l rowI (α:=Unit) (fun rest k _=>n ∈ l ↔ n ∈ rest) (fun k _=>[(5,.d (.int .i64 k))]) (fun _ _=>[]) () (by simp (maxSteps:=4000000) (disch:=first | (intros; contradiction) | omega) only [go_sem] <;> rfl) Iff.rfl ?_ ?_
 ·intro x rest k _ hi hlt hr hxx hk _ next ih
  clear hL
  simp only [rowI] at hr
  have hwk:IntKind.wrap .i64 ((k:Int) + 1) = ((k + 1:Nat):Int):=by rw [wrap64 (by omega) (by omega)]; omega
  by_cases hn:x = n
  ·rw [decide_eq_true (hi.2 (by rw [hn]; exact List.mem_cons_self))]
   simp (maxSteps:=4000000) (disch:=first | (intros; contradiction) | omega) only [go_sem,hlt,hr,hn]
   done
  ·simp (maxSteps:=4000000) (disch:=first | (intros; contradiction) | omega) only [go_sem,hlt,hr,hn,hwk]
   refine ih () _ (hi.trans ?_) (by simp (maxSteps:=4000000) (disch:=first | (intros; contradiction) | omega) only [go_sem] <;> rfl)
   rw [List.mem_cons]
   exact ⟨fun h=>h.resolve_left (fun e=>hn e.symm),.inr⟩
 ·intro k _ hi hlt hk next
  clear hL
  rw [decide_eq_false (by rw [hi]; simp)]
  simp (maxSteps:=4000000) (disch:=first | (intros; contradiction) | omega) only [go_sem,hlt]
  done
theorem has_e (hx:TX ext) (c:Cd1) (l:List Int) (hl:l.length ≤ 1000000):G ext 59 [c.av,.d (.sl (l.map rowI))] [] = some (.ret (.d (.bool (l.all (inV c)))),[]):=by
 have hll:(l.map rowI).length = l.length:=List.length_map _
 have hvl:(c.vars.map Vr1.row).length = c.vars.length:=List.length_map _
 rw [G_body hx.clear rfl Tryz.func59 rfl Tryz.results59 hv_59 rfl]
 simp only [Cd1.av,ints]
 simp (maxSteps:=4000000) (disch:=first | (intros; contradiction) | omega) only [go_sem]
 generalize hL:loopA _ _ _ = L
 apply range_upd hL (by simp (maxSteps:=4000000) (disch:=first | (intros; contradiction) | omega) only [go_sem] <;> rfl) l rowI (α:=Unit) (fun rest k _=>l.all (inV c) = rest.all (inV c)) (fun k _=>[(5,.d (.int .i64 k))]) (fun _ _=>[]) () (by simp (maxSteps:=4000000) (disch:=first | (intros; contradiction) | omega) only [go_sem] <;> rfl) rfl ?_ ?_
 ·intro x rest k _ hi hlt hr hxx hk _ next ih
  clear hL
  simp only [rowI] at hr
  have hwk:IntKind.wrap .i64 ((k:Int) + 1) = ((k + 1:Nat):Int):=by rw [wrap64 (by omega) (by omega)]; omega
  by_cases h1:x < 0
  ·have e:l.all (inV c) = false:=by rw [hi,List.all_cons,show inV c x = false by unfold inV; exact decide_eq_false (by omega)]; rfl
   rw [e]
   have h1:=eq_true h1
   simp (maxSteps:=4000000) (disch:=first | (intros; contradiction) | omega) only [go_sem,hlt,hr,h1]
   done
  ·by_cases h2:x < (c.vars.length:Int)
   ·have e:inV c x = true:=by unfold inV; exact decide_eq_true (by omega)
    have h3:¬ (c.vars.length:Int) ≤ x:=by omega
    simp (maxSteps:=4000000) (disch:=first | (intros; contradiction) | omega) only [go_sem,hlt,hr,h1,hvl,h3,hwk]
    exact ih () _ (by rw [hi,List.all_cons,e]; rfl) (by simp (maxSteps:=4000000) (disch:=first | (intros; contradiction) | omega) only [go_sem] <;> rfl)
   ·have e:l.all (inV c) = false:=by rw [hi,List.all_cons,show inV c x = false by unfold inV; exact decide_eq_false (by omega)]; rfl
    have h3:(c.vars.length:Int) ≤ x:=by omega
    have h3:=eq_true h3
    rw [e]
    simp (maxSteps:=4000000) (disch:=first | (intros; contradiction) | omega) only [go_sem,hlt,hr,h1,hvl,h3]
    done
 ·intro k _ hi hlt hk next
  clear hL
  rw [hi]
  simp (maxSteps:=4000000) (disch:=first | (intros; contradiction) | omega) only [go_sem,hlt,List.all_nil]
  done
theorem w05_e (hx:TX ext) (i:In1):G ext 58 [i.av] [] = some (.ret (.tuple [.d (.int .i64 (writesP i)),.d (.bool (hasD i.op))]),[]):=by
 have h:=in_e hx i.op [1,2,3,4,5,7,9,10,12,14,15] (by decide)
 have e:decide (i.op ∈ [1,2,3,4,5,7,9,10,12,14,15]) = hasD i.op:=by
  unfold hasD
  congr 1
  simp only [List.mem_cons,List.not_mem_nil,or_false]
  exact propext (by omega)
 rw [e] at h
 unfold writesP
 rw [G_body hx.clear rfl Tryz.func58 rfl Tryz.results58 hv_58 rfl]
 simp only [In1.av,ints,List.map_cons,List.map_nil,rowI] at h ⊢
 cases hD:hasD i.op <;> rw [hD] at h <;> simp (maxSteps:=4000000) (disch:=first | (intros; contradiction) | omega) only [go_sem,h]
theorem r05_e (hx:TX ext) (i:In1) (hl:i.args.length ≤ 900):G ext 60 [i.av] [] = some (.ret (.d (.sl ((readsP i).map rowI))),[]):=by
 have h:=in_e hx i.op [3,4,6,7,8,9,10,11,13,14,17,18] (by decide)
 have h2:=in_e hx i.op [4,8,11] (by decide)
 have e:decide (i.op ∈ [3,4,6,7,8,9,10,11,13,14,17,18]) = hasA i.op:=by
  unfold hasA
  congr 1
  simp only [List.mem_cons,List.not_mem_nil,or_false]
  exact propext (by omega)
 have e2:decide (i.op ∈ [4,8,11]) = hasB i.op:=rfl
 rw [e] at h
 rw [e2] at h2
 have hfa:=fits_rowI i.args
 have hfx:=fun x:Int=>fits_rowI [x]
 have hal:(i.args.map rowI).length = i.args.length:=List.length_map _
 have q1:room (i.args.map rowI).length 8:=room_ints (by omega)
 have q2:room (1 + (i.args.map rowI).length) 8:=room_ints (by omega)
 have q3:room (2 + (i.args.map rowI).length) 8:=room_ints (by omega)
 unfold readsP
 rw [G_body hx.clear rfl Tryz.func60 rfl Tryz.results60 hv_60 rfl]
 simp only [In1.av,ints,List.map_cons,List.map_nil,rowI] at h h2 hfx ⊢
 cases hA:hasA i.op <;> rw [hA] at h
 all_goals cases hB:hasB i.op <;> rw [hB] at h2
 all_goals by_cases h15:i.op = 15
 all_goals simp only [h15,if_true,Bool.false_eq_true,if_false,List.append_nil,List.nil_append,List.cons_append,List.map_cons,List.map_nil,rowI,Nat.zero_add,Nat.add_zero] at h h2 ⊢
 all_goals simp (maxSteps:=4000000) (disch:=first | (intros; contradiction) | omega) only [go_sem,h,h2,h15,hfa,hfx,q1,q2,q3,room_ints]
 all_goals done
end Go.Proofs.YtkflggjdlflndaaGreat
