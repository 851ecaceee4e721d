/- The document's ir: calls; what is wrong with an instruction. Conditions: none. -/
import Derived.Test.YtkflggjdlflndaaGreatVR2
set_option linter.unusedSimpArgs false
set_option linter.unusedVariables false
namespace Go.Proofs.YtkflggjdlflndaaGreat
open Go Go.Ab
variable {ext:Sem'}
set_option maxHeartbeats 4000000 in
theorem call05_e (hx:TX ext) (m:Md1) (c:Cd1) (i:In1) (hl:i.args.length ≤ 1000) (hd:inV c i.d = true) (ha:∀ v,v ∈ i.args→inV c v = true):G ext 63 [m.av,c.av,i.av] [] = some (.ret (.d (.int .i64 (callP m c i))),[]):=by
 have hfl:(m.funcs.map Cd1.row).length = m.funcs.length:=List.length_map _
 have hal:(i.args.map rowI).length = i.args.length:=List.length_map _
 obtain ⟨cd,hdr⟩:=varT_ex hd
 have hd0:=(inV_iff.1 hd).1
 have hu1:=one05_e hx true 7
 have hu2:=one05_e hx false 7
 simp only [Bool.not_true,Bool.not_false] at hu1 hu2
 rw [G_body hx.clear rfl Tryz.func63 rfl Tryz.results63 hv_63 rfl]
 unfold callP
 simp only [Cd1.av,In1.av,Md1.av,Md1.sr,Md1.fr,ints]
 by_cases h1:i.f < 0
 ·rw [if_pos (.inl h1)]
  have h1:=eq_true h1
  simp (maxSteps:=4000000) (disch:=first | (intros; contradiction) | omega) only [go_sem,h1]
  done
 by_cases h2:((m.funcs.map Cd1.row).length:Int) ≤ i.f
 ·rw [if_pos (.inr (by omega))]
  have h2:=eq_true h2
  simp (maxSteps:=4000000) (disch:=first | (intros; contradiction) | omega) only [go_sem,h1,h2]
  done
 rw [if_neg (by omega)]
 have h3:0 ≤ i.f:=by omega
 have hlt:i.f.toNat < m.funcs.length:=by omega
 have hr:=map_at (f:=Cd1.row) hlt
 rw [List.getElem?_eq_getElem hlt]
 generalize m.funcs[i.f.toNat] = g at hr ⊢
 simp only [Cd1.row,ints] at hr
 simp only
 have hvl:(g.vars.map Vr1.row).length = g.vars.length:=List.length_map _
 by_cases h4:((i.args.map rowI).length:Int) = g.params
 ·by_cases h5:((g.vars.map Vr1.row).length:Int) < g.params
  ·rw [if_pos (.inr (by omega))]
   have h5:=eq_true h5
   have h4:=eq_true h4
   simp (maxSteps:=4000000) (disch:=first | (intros; contradiction) | omega) only [go_sem,h1,h2,h3,hr,h4,h5]
   done
  ·rw [if_neg (by omega)]
   have h4':=eq_true h4
   simp (maxSteps:=4000000) (disch:=first | (intros; contradiction) | omega) only [go_sem,h1,h2,h3,hr,h4',h5]
   generalize hL:loopA _ _ _ = L
   apply range_upd hL (by simp (maxSteps:=4000000) (disch:=first | (intros; contradiction) | omega) only [go_sem] <;> rfl) i.args rowI (α:=Unit) (fun rest k _=>argsP c i.args g.vars = argsP c rest (g.vars.drop k)) (fun k _=>[(8,.d (.int .i64 k))]) (fun _ _=>[]) () (by simp (maxSteps:=4000000) (disch:=first | (intros; contradiction) | omega) only [go_sem] <;> rfl) rfl ?_ ?_
   ·intro z rest k _ hi hltk hrz hxz hk _ next ih
    clear hL
    simp only [rowI] at hrz
    have hkv:k < g.vars.length:=by omega
    have hrv:=map_at (f:=Vr1.row) hkv
    have hina:=ha z (List.mem_of_getElem? hxz)
    obtain ⟨cz,hz⟩:=varT_ex hina
    have hz0:=(inV_iff.1 hina).1
    have hk0:(0:Int) ≤ (k:Int):=by omega
    have hwk:IntKind.wrap .i64 ((k:Int) + 1) = ((k + 1:Nat):Int):=by rw [wrap64 (by omega) (by omega)]; omega
    rw [List.drop_eq_getElem_cons hkv] at hi
    simp only [argsP] at hi
    generalize g.vars[k] = w at hrv hi
    simp only [Vr1.row] at hrv
    obtain ⟨⟨vp,vt⟩,vc⟩:=w
    generalize varT c z = q at hz hi
    obtain ⟨qp,qt⟩:=q
    simp only [Ty1.mk.injEq] at hz hi hrv
    by_cases e1:qp = vp
    ·by_cases e2:qt = vt
     ·subst e1 e2
      simp only [and_self,decide_true,Bool.true_and] at hi
      simp (maxSteps:=4000000) (disch:=first | (intros; contradiction) | omega) only [go_sem,hltk,hrz,hz,hz0,hk0,hrv,hwk,decide_true,Bool.and_self]
      exact ih () _ hi (by simp (maxSteps:=4000000) (disch:=first | (intros; contradiction) | omega) only [go_sem] <;> rfl)
     ·subst e1
      simp only [e2,and_false,decide_false,Bool.false_and] at hi
      rw [if_pos hi]
      simp (maxSteps:=4000000) (disch:=first | (intros; contradiction) | omega) only [go_sem,hltk,hrz,hz,hz0,hk0,hrv,e2]
      done
    ·simp only [e1,false_and,decide_false,Bool.false_and] at hi
     rw [if_pos hi]
     simp (maxSteps:=4000000) (disch:=first | (intros; contradiction) | omega) only [go_sem,hltk,hrz,hz,hz0,hk0,hrv,e1]
     done
   ·intro k _ hi hltk hk next
    clear hL
    simp only [argsP] at hi
    rw [if_neg (by rw [hi]; decide)]
    generalize varT c i.d = q at hdr ⊢
    obtain ⟨qp,qt⟩:=q
    obtain ⟨gn,gpar,gvars,⟨⟨vp,vt⟩,vc⟩,gf,gi⟩:=g
    simp only [Ty1.mk.injEq] at *
    by_cases e1:qp = vp
    ·by_cases e2:qt = vt
     ·rw [decide_eq_true (show qp = vp∧qt = vt from ⟨e1,e2⟩)]
      subst e1 e2
      simp (maxSteps:=4000000) (disch:=first | (intros; contradiction) | omega) only [go_sem,hltk,hdr,hd0,hu2,decide_true,Bool.and_self]
      done
     ·rw [decide_eq_false (show ¬ (qp = vp∧qt = vt) from fun h=>e2 h.2)]
      subst e1
      simp (maxSteps:=4000000) (disch:=first | (intros; contradiction) | omega) only [go_sem,hltk,hdr,hd0,hu1,e2]
      done
    ·rw [decide_eq_false (show ¬ (qp = vp∧qt = vt) from fun h=>e1 h.1)]
     simp (maxSteps:=4000000) (disch:=first | (intros; contradiction) | omega) only [go_sem,hltk,hdr,hd0,hu1,e1]
     done
 ·rw [if_pos (.inl (by omega))]
  simp (maxSteps:=4000000) (disch:=first | (intros; contradiction) | omega) only [go_sem,h1,h2,h3,hr,h4]
  done
end Go.Proofs.YtkflggjdlflndaaGreat
