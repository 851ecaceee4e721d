/- The document's ir: types, fields, calls. Conditions: none. -/
import Derived.Test.YtkflggjdlflndaaGreatVR1
import Derived.Test.YtkflggjdlflndaaGreatM6
set_option linter.unusedSimpArgs false
set_option linter.unusedVariables false
namespace Go.Proofs.YtkflggjdlflndaaGreat
open Go Go.Ab
variable {ext:Sem'}
theorem one05_e (hx:TX ext) (b:Bool) (f:Int):G ext 35 [.d (.bool b),.d (.int .i64 f)] [] = some (.ret (.d (.int .i64 (unlessP (!b) f))),[]):=by
 unfold unlessP
 rw [G_body hx.clear rfl Tryz.func35 rfl Tryz.results35 hv_35 rfl]
 cases b <;> simp (maxSteps:=4000000) (disch:=first | (intros; contradiction) | omega) only [go_sem,Bool.not_true,Bool.not_false,if_true,if_false,Bool.false_eq_true]
 all_goals done
theorem k05_e (hx:TX ext) (m:Md1) (hm:m.structs.length ≤ 1000000) (t:Ty1):G ext 57 [m.av,t.av] [] = some (.ret (.d (.bool (knownP m t))),[]):=by
 have hs:=s05_e hx m t.to hm
 unfold knownP
 obtain ⟨p,n⟩:=t
 simp only at hs ⊢
 rw [G_body hx.clear rfl Tryz.func57 rfl Tryz.results57 hv_57 rfl]
 simp only [Md1.av,Md1.sr,Md1.fr,Ty1.av] at hs ⊢
 cases p with
 | true=>
  simp only [if_true]
  by_cases h:0 ≤ structIx m n
  ·rw [decide_eq_true h]
   have h:=eq_true h
   simp (maxSteps:=4000000) (disch:=first | (intros; contradiction) | omega) only [go_sem,hs,h]
   done
  ·rw [decide_eq_false h]
   simp (maxSteps:=4000000) (disch:=first | (intros; contradiction) | omega) only [go_sem,hs,h]
   done
 | false=>
  simp only [Bool.false_eq_true,if_false]
  by_cases h:n = []
  ·rw [decide_eq_true h]
   have h:=eq_true h
   simp (maxSteps:=4000000) (disch:=first | (intros; contradiction) | omega) only [go_sem,h]
   done
  ·rw [decide_eq_false h]
   simp (maxSteps:=4000000) (disch:=first | (intros; contradiction) | omega) only [go_sem,h]
   done
theorem sg05_e (hx:TX ext) (s:List UInt8):G ext 61 [.d (.str s)] [] = some (.ret (.d (.bool (decide (s ∈ signs11)))),[]):=by
 rw [G_body hx.clear rfl Tryz.func61 rfl Tryz.results61 hv_61 rfl]
 simp (maxSteps:=4000000) (disch:=first | (intros; contradiction) | omega) only [go_sem]
 generalize hL:loopA _ _ _ = L
 apply range_upd hL (by simp (maxSteps:=4000000) (disch:=first | (intros; contradiction) | omega) only [go_sem] <;> rfl) signs11 (fun x=>[.str x]) (α:=Unit) (fun rest k _=>s ∈ signs11 ↔ s ∈ rest) (fun k _=>[(4,.d (.int .i64 k))]) (fun _ _=>[]) () (by simp (maxSteps:=4000000) (disch:=first | (intros; contradiction) | omega) only [go_sem] <;> rfl) Iff.rfl ?_ ?_
 ·intro x rest k _ hi hlt hr hxx hk _ next ih
  clear hL
  have hk11:k < 11:=hk
  have hwk:IntKind.wrap .i64 ((k:Int) + 1) = ((k + 1:Nat):Int):=by rw [wrap64 (by omega) (by omega)]; omega
  simp only [signs11,List.map_cons,List.map_nil] at hr
  have hlt:(k:Int) < 11:=by omega
  by_cases hn:x = s
  ·rw [decide_eq_true (hi.2 (by rw [hn]; exact List.mem_cons_self))]
   simp (maxSteps:=4000000) (disch:=first | (intros; contradiction) | omega) only [go_sem,hlt,hr,hn]
   done
  ·simp (maxSteps:=4000000) (disch:=first | (intros; contradiction) | omega) only [go_sem,hlt,hr,hn,hwk]
   refine ih () _ (hi.trans ?_) (by simp (maxSteps:=4000000) (disch:=first | (intros; contradiction) | omega) only [go_sem] <;> rfl)
   rw [List.mem_cons]
   exact ⟨fun h=>h.resolve_left (fun e=>hn e.symm),.inr⟩
 ·intro k _ hi hlt hk next
  clear hL
  rw [decide_eq_false (by rw [hi]; simp)]
  have hlt:¬ (k:Int) < 11:=by have:k = 11:=hk; omega
  simp (maxSteps:=4000000) (disch:=first | (intros; contradiction) | omega) only [go_sem,hlt]
  done
theorem fd05_e (hx:TX ext) (m:Md1) (hm:m.structs.length ≤ 1000000) (c:Cd1) (v f:Int) (h:inV c v = true) (hk:knownT m (varT c v)):G ext 92 [m.av,c.av,.d (.int .i64 v),.d (.int .i64 f)] [] = some (.ret (.tuple [(fieldP m c v f).1.av,.d (.int .i64 (fieldP m c v f).2)]),[]):=by
 have hv:=inV_iff.1 h
 have ht:=varT_at hv
 have h0:=hv.1
 have hs:=s05_e hx m (varT c v).to hm
 generalize (c.vars[v.toNat]'(by have:=hv.2; omega)).cls = cls at ht
 rw [G_body hx.clear rfl Tryz.func92 rfl Tryz.results92 hv_92 rfl]
 unfold fieldP
 simp only [Cd1.av,ints,Ty1.av,Md1.av,Md1.sr,Md1.fr] at ht hs ⊢
 cases hp:(varT c v).ptr with
 | false=>
  rw [hp] at ht
  simp only [Bool.false_eq_true,if_false]
  simp (maxSteps:=4000000) (disch:=first | (intros; contradiction) | omega) only [go_sem,ht,h0]
  done
 | true=>
  have hk:=hk hp
  have hr:=structAt_row hk
  have hfl:((structAt m (varT c v).to).fields.map Fd1.row).length = (structAt m (varT c v).to).fields.length:=List.length_map _
  rw [hp] at ht
  simp only [if_true]
  by_cases h1:f < 0
  ·rw [if_pos (.inl h1)]
   have h1:=eq_true h1
   simp (maxSteps:=4000000) (disch:=first | (intros; contradiction) | omega) only [go_sem,ht,h0,hs,hk,hr,h1]
   done
  ·by_cases h2:(((structAt m (varT c v).to).fields.map Fd1.row).length:Int) ≤ f
   ·rw [if_pos (.inr (by omega))]
    have h2:=eq_true h2
    simp (maxSteps:=4000000) (disch:=first | (intros; contradiction) | omega) only [go_sem,ht,h0,hs,hk,hr,h1,h2]
    done
   ·rw [if_neg (by omega)]
    have h3:0 ≤ f:=by omega
    have hlt:f.toNat < (structAt m (varT c v).to).fields.length:=by omega
    have hrf:=map_at (f:=Fd1.row) hlt
    rw [List.getElem?_eq_getElem hlt]
    simp only [Fd1.row,Option.map_some,Option.getD_some] at hrf ⊢
    simp (maxSteps:=4000000) (disch:=first | (intros; contradiction) | omega) only [go_sem,ht,h0,hs,hk,hr,h1,h2,h3,hrf]
    done
theorem varT_ex {c:Cd1} {v:Int} (h:inV c v = true):∃ cls,(c.vars.map Vr1.row)[v.toNat]? = some [.bool (varT c v).ptr,.str (varT c v).to,.int .i64 cls]:=⟨_,varT_at (inV_iff.1 h)⟩
set_option maxHeartbeats 4000000 in
theorem hp05_e (hx:TX ext) (m:Md1) (hm:m.structs.length ≤ 1000000) (c:Cd1) (i:In1) (other:Int) (ptr:Bool) (hop:(i.op = 7∧other = i.d∧ptr = false) ∨ (i.op = 10∧other = i.d∧ptr = true) ∨ (i.op = 8∧other = i.b∧ptr = false) ∨ (i.op = 11∧other = i.b∧ptr = true)) (h:inV c i.a = true) (ho:inV c other = true) (hk:knownT m (varT c i.a)) :
  G ext 62 [m.av,c.av,i.av] [] = some (.ret (.d (.int .i64 (heapP m c i other ptr))),[]):=by
 obtain ⟨ca,ha⟩:=varT_ex h
 obtain ⟨co,ht⟩:=varT_ex ho
 have ha0:=(inV_iff.1 h).1
 have ho0:=(inV_iff.1 ho).1
 have hf:=fd05_e hx m hm c i.a i.f h hk
 have hu1:=one05_e hx true 7
 have hu2:=one05_e hx false 7
 simp only [Bool.not_true,Bool.not_false] at hu1 hu2
 rw [G_body hx.clear rfl Tryz.func62 rfl Tryz.results62 hv_62 rfl]
 unfold heapP
 simp only [Cd1.av,In1.av,Ty1.av,ints,Md1.av,Md1.sr,Md1.fr] at ht hf ⊢
 generalize varT c i.a = ta at ha
 generalize fieldP m c i.a i.f = q at hf ⊢
 obtain ⟨⟨p,to'⟩,g⟩:=q
 simp only at hf ⊢
 generalize varT c other = t at ht ⊢
 obtain ⟨p2,to2⟩:=t
 simp only at ht ⊢
 obtain ⟨op,d,a,b,f,n,sign,args,mode,dest,els,pos⟩:=i
 simp only at hop ha ha0 hf ⊢
 by_cases hg:g = 0
 ·subst hg
  rw [if_pos rfl]
  simp only [Ty1.mk.injEq]
  rcases hop with ⟨rfl,rfl,rfl⟩ | ⟨rfl,rfl,rfl⟩ | ⟨rfl,rfl,rfl⟩ | ⟨rfl,rfl,rfl⟩
  all_goals by_cases e1:p = p2
  all_goals by_cases e2:to' = to2
  iterate 4
   ·rw [decide_eq_true (show p = p2∧to' = to2 from ⟨e1,e2⟩)]
    subst e1 e2
    cases p
    ·simp (maxSteps:=4000000) (disch:=first | (intros; contradiction) | omega) only [go_sem,hf,ha,ha0,ht,ho0,hu1,hu2,decide_true,Bool.true_and]
     done
    ·simp (maxSteps:=4000000) (disch:=first | (intros; contradiction) | omega) only [go_sem,hf,ha,ha0,ht,ho0,hu1,hu2,decide_true,Bool.true_and]
     done
   ·rw [decide_eq_false (show ¬ (p = p2∧to' = to2) from fun hh=>e2 hh.2)]
    subst e1
    simp (maxSteps:=4000000) (disch:=first | (intros; contradiction) | omega) only [go_sem,hf,ha,ha0,ht,ho0,hu1,hu2,e2,Bool.false_and]
    done
   ·rw [decide_eq_false (show ¬ (p = p2∧to' = to2) from fun hh=>e1 hh.1)]
    simp (maxSteps:=4000000) (disch:=first | (intros; contradiction) | omega) only [go_sem,hf,ha,ha0,ht,ho0,hu1,hu2,e1,Bool.false_and]
    done
   ·rw [decide_eq_false (show ¬ (p = p2∧to' = to2) from fun hh=>e1 hh.1)]
    simp (maxSteps:=4000000) (disch:=first | (intros; contradiction) | omega) only [go_sem,hf,ha,ha0,ht,ho0,hu1,hu2,e1,Bool.false_and]
    done
 ·rw [if_neg hg]
  simp (maxSteps:=4000000) (disch:=first | (intros; contradiction) | omega) only [go_sem,hf,hg]
  done
end Go.Proofs.YtkflggjdlflndaaGreat
