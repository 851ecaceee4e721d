/- The document's answer for bl: From, modes, which programs are formed. Conditions: none. -/
import Derived.Test.YticliodhjfednaaGreatR6
set_option linter.unusedSimpArgs false
set_option linter.unusedVariables false
namespace Go.Proofs.YticliodhjfednaaGreat
open Go Go.Ab
variable {ext:Sem'}
set_option maxHeartbeats 2000000 in
theorem rfrom_e(hx:TX ext)(c:Cd1)(hl:c.frm.length≤1000)(hp:c.params≤c.vars.length):G ext 52 [c.av] []=some (.ret (.d (.bool (fromP c))),[]):=by
 have hfl:(c.frm.map rowI).length=c.frm.length:=List.length_map _
 have hle:=fun v=>rlent_e hx v
 rw[G_body hx.clear rfl Tryz.func52 rfl Tryz.results52 hv_52 rfl];simp only[Cd1.av,ints,Vr1.av]at hle ⊢;unfold fromP;simp(maxSteps:=9^9)(disch:=first|(intros;contradiction)|omega)only[go_sem]
 generalize hL:loopA _ _ _=L;apply range_upd hL (by simp(maxSteps:=9^9)(disch:=first|(intros;contradiction)|omega)only[go_sem]<;>rfl) c.frm rowI (α:=Int) (fun rest k last=>fromL c c.frm (-1)=fromL c rest last∧-1≤last∧(k=0→last=-1)∧(0<k→c.frm[k-1]?=some last∧0≤last)) (fun k _=>[(3,.d (.int .i64 k))]) (fun _ _=>[]) (-1) (by simp(maxSteps:=9^9)(disch:=first|(intros;contradiction)|omega)only[go_sem]<;>rfl) ⟨rfl,by decide,by simp,by simp⟩ ?_ ?_
 ·rintro n rest k last ⟨i1,i2,i3,i4⟩ hlt hr hget hk _ next ih
  clear hL;simp only[rowI]at hr;by_cases g1:n<0
  ·rw[fromL,if_pos (.inl (by omega))]at i1
   rw[i1];simp(maxSteps:=9^9)(disch:=first|(intros;contradiction)|omega)only[go_sem,hlt,hr,g1]<;>rfl
  ·by_cases g2:c.params≤n
   ·rw[fromL,if_pos (.inr g2)]at i1;rw[i1];simp(maxSteps:=9^9)(disch:=first|(intros;contradiction)|omega)only[go_sem,hlt,hr,g1,g2]<;>rfl
   ·have hlv:n.toNat<c.vars.length:=by omega
    have hrv:=map_at (f:=Vr1.row) hlv
    have hl1:=hle c.vars[n.toNat]
    have g0:0≤n:=by omega
    have hnext:¬n≤last→lentP c.vars[n.toNat]=true→fromL c c.frm (-1)=fromL c rest n:=by
     intro h1 h2;rw[i1,fromL,if_neg (by omega),List.getElem?_eq_getElem hlv,Option.getD_some,h2,if_neg (by decide)]
    have hbad:n≤last∨lentP c.vars[n.toNat]=false→fromL c c.frm (-1)=false:=by
     intro h;rw[i1,fromL];split
     ·rfl
     ·rw[List.getElem?_eq_getElem hlv,Option.getD_some]
      rcases h with h|h
      ·omega
      ·rw[if_pos h]
    have hgn:c.frm[k+1-1]?=some n:=by simpa using hget
    generalize c.vars[n.toNat]=v at hrv hl1 hnext hbad;simp only[Vr1.row]at hrv;by_cases k0:k=0
    ·have i3:=i3 k0
     subst i3;have g3:¬(0:Int)<(k:Int):=by omega
     cases hb:lentP v with
     | false=>
      rw[hb]at hl1;rw[hbad (.inr hb)];simp(maxSteps:=9^9)(disch:=first|(intros;contradiction)|omega)only[go_sem,hlt,hr,g1,g2,g0,g3,hrv,hl1]<;>rfl
     | true=>
      rw[hb]at hl1;simp(maxSteps:=9^9)(disch:=first|(intros;contradiction)|omega)only[go_sem,hlt,hr,g1,g2,g0,g3,hrv,hl1,wrap64]
      exact ih n _ ⟨hnext (by omega) hb,by omega,by omega,fun _=>⟨hgn,g0⟩⟩ (by simp(maxSteps:=9^9)(disch:=first|(intros;contradiction)|omega)only[go_sem]<;>rfl)
    ·obtain⟨i5,i6⟩:=i4 (by omega)
     have g3:(0:Int)<(k:Int):=by omega
     have hkk:k-1<c.frm.length:=by omega
     have hr2:(c.frm.map rowI)[k-1]?=some [.int .i64 last]:=by rw[List.getElem?_map,i5];rfl
     have hx1:((k:Int)-1).toNat=k-1:=by omega
     have hx2:(0:Int)≤(k:Int)-1:=by omega
     by_cases g4:n≤last
     ·rw[hbad (.inl g4)];simp(maxSteps:=9^9)(disch:=first|(intros;contradiction)|omega)only[go_sem,hlt,hr,g1,g2,g0,g3,g4,hx1,hx2,hr2,wrap64]<;>rfl
     ·cases hb:lentP v with
      | false=>
       rw[hb]at hl1;rw[hbad (.inr hb)];simp(maxSteps:=9^9)(disch:=first|(intros;contradiction)|omega)only[go_sem,hlt,hr,g1,g2,g0,g3,g4,hx1,hx2,hr2,hrv,hl1,wrap64]<;>rfl
      | true=>
       rw[hb]at hl1;simp(maxSteps:=9^9)(disch:=first|(intros;contradiction)|omega)only[go_sem,hlt,hr,g1,g2,g0,g3,g4,hx1,hx2,hr2,hrv,hl1,wrap64]
       exact ih n _ ⟨hnext g4 hb,by omega,by omega,fun _=>⟨hgn,g0⟩⟩ (by simp(maxSteps:=9^9)(disch:=first|(intros;contradiction)|omega)only[go_sem]<;>rfl)
 ·rintro k last ⟨i1,i2,i3,i4⟩ hlt hk next
  clear hL;have i1:fromL c c.frm (-1)=true:=i1
  have hl2:=hle c.ret
  rw[i1];by_cases g1:((c.frm.map rowI).length:Int)=0
  ·have e:decide (c.frm=[])=true:=by rw[decide_eq_true_eq];exact List.eq_nil_of_length_eq_zero (by omega)
   rw[e];have g1:=eq_true g1
   simp(maxSteps:=9^9)(disch:=first|(intros;contradiction)|omega)only[go_sem,hlt,g1]<;>rfl
  ·have e:decide (c.frm=[])=false:=by rw[decide_eq_false_iff_not];intro h;apply g1;rw[h];rfl
   rw[e];simp(maxSteps:=9^9)(disch:=first|(intros;contradiction)|omega)only[go_sem,hlt,g1,hl2,Bool.false_or,Bool.true_and]
theorem modeOk_len2:∀ {l:List Ty1} {m:List Int},modeOk l m=true→l.length=m.length
 | [],[],_=>rfl
 | [],_::_,h=>by cases h
 | _::_,[],h=>by cases h
 | t::l,x::m,h=>by simp only[modeOk,Bool.and_eq_true]at h;simp[modeOk_len2 h.2]
set_option maxHeartbeats 4000000 in
theorem rmoded_e(hx:TX ext)(c:Cd1)(i:In1)(hl:i.args.length≤1000)(hv:(usesP i).all (inV c)=true):G ext 53 [c.av,i.av] []=some (.ret (.d (.bool (modeOk (modesP c i) i.mode))),[]):=by
 have hal:(i.args.map rowI).length=i.args.length:=List.length_map _
 have hml:(i.mode.map rowI).length=i.mode.length:=List.length_map _
 rw[G_body hx.clear rfl Tryz.func53 rfl Tryz.results53 hv_53 rfl];simp only[Cd1.av,In1.av,ints];by_cases h9:i.op=9∨i.op=10
 ·have hm:modesP c i=[varT c i.d]:=by unfold modesP;rw[if_pos h9]
  have hd:inV c i.d=true:=by
   refine(uses_vars hv).d ?_
   rcases h9 with h|h<;>rw[h]<;>decide
  have hr1:=varT_at (inV_iff.1 hd)
  have h0:=(inV_iff.1 hd).1
  have hroom:room 1 24:=room_tys (by decide)
  rw[hm];rcases h9 with h9|h9
  ·have h9:=eq_true h9
   have hT:[[.bool (varT c i.d).ptr,.str (varT c i.d).to]]=[varT c i.d].map Ty1.row:=rfl
   by_cases hlen:(1:Int)=((i.mode.map rowI).length:Int)
   ·obtain⟨x,hx1⟩:∃ x,i.mode=[x]:=List.length_eq_one_iff.1 (by omega)
    have hr2:(i.mode.map rowI)[0]?=some [.int .i64 x]:=by rw[hx1];rfl
    have hc:=rclassed_e hx (varT c i.d) x
    have e:modeOk [varT c i.d] i.mode=classedP (varT c i.d) x:=by rw[hx1];simp[modeOk]
    rw[e];have hlen:=eq_true hlen
    skip
    simp(maxSteps:=9^9)(disch:=first|(intros;contradiction)|omega)only[go_sem,h9,h0,hr1,hroom,hlen,List.nil_append]
    rw[loopA_eq]
    cases hb:classedP (varT c i.d) x with
    | false=>
     rw[hb]at hc;simp(maxSteps:=9^9)(disch:=first|(intros;contradiction)|omega)only[go_sem,hr2,hc,wkR]
    | true=>
     rw[hb]at hc;simp(maxSteps:=9^9)(disch:=first|(intros;contradiction)|omega)only[go_sem,hr2,hc,wkR]
     rw[loopA_eq];simp(maxSteps:=9^9)(disch:=first|(intros;contradiction)|omega)only[go_sem,wkR,wrap64]
   ·have hf:modeOk [varT c i.d] i.mode=false:=by
     cases h:modeOk [varT c i.d] i.mode with
     | false=>rfl
     | true=>have:=modeOk_len2 h;simp only[List.length_cons,List.length_nil]at this;exact absurd this (by omega)
    rw[hf];simp(maxSteps:=9^9)(disch:=first|(intros;contradiction)|omega)only[go_sem,h9,h0,hr1,hroom,hlen,List.nil_append]
  ·have h8:(i.op=9)=False:=by rw[eq_iff_iff,iff_false];omega
   have h9:=eq_true h9
   have hT:[[.bool (varT c i.d).ptr,.str (varT c i.d).to]]=[varT c i.d].map Ty1.row:=rfl
   by_cases hlen:(1:Int)=((i.mode.map rowI).length:Int)
   ·obtain⟨x,hx1⟩:∃ x,i.mode=[x]:=List.length_eq_one_iff.1 (by omega)
    have hr2:(i.mode.map rowI)[0]?=some [.int .i64 x]:=by rw[hx1];rfl
    have hc:=rclassed_e hx (varT c i.d) x
    have e:modeOk [varT c i.d] i.mode=classedP (varT c i.d) x:=by rw[hx1];simp[modeOk]
    rw[e];have hlen:=eq_true hlen
    skip
    simp(maxSteps:=9^9)(disch:=first|(intros;contradiction)|omega)only[go_sem,h8,h9,h0,hr1,hroom,hlen,List.nil_append]
    rw[loopA_eq]
    cases hb:classedP (varT c i.d) x with
    | false=>
     rw[hb]at hc;simp(maxSteps:=9^9)(disch:=first|(intros;contradiction)|omega)only[go_sem,hr2,hc,wkR]
    | true=>
     rw[hb]at hc;simp(maxSteps:=9^9)(disch:=first|(intros;contradiction)|omega)only[go_sem,hr2,hc,wkR]
     rw[loopA_eq];simp(maxSteps:=9^9)(disch:=first|(intros;contradiction)|omega)only[go_sem,wkR,wrap64]
   ·have hf:modeOk [varT c i.d] i.mode=false:=by
     cases h:modeOk [varT c i.d] i.mode with
     | false=>rfl
     | true=>have:=modeOk_len2 h;simp only[List.length_cons,List.length_nil]at this;exact absurd this (by omega)
    rw[hf];simp(maxSteps:=9^9)(disch:=first|(intros;contradiction)|omega)only[go_sem,h8,h9,h0,hr1,hroom,hlen,List.nil_append]
 ·have h8:(i.op=9)=False:=by rw[eq_iff_iff,iff_false];omega
  have h10:(i.op=10)=False:=by rw[eq_iff_iff,iff_false];omega
  by_cases h18:i.op=18
  ·have hm:modesP c i=if c.ret.t.ptr then [c.ret.t]else []:=by unfold modesP;rw[if_neg h9,if_pos h18]
   have h18:=eq_true h18
   have hroom:room 1 24:=room_tys (by decide)
   rw[hm]
   cases hp:c.ret.t.ptr with
   | true=>
    rw[if_pos rfl];have hT:[[.bool (c.ret.t).ptr,.str (c.ret.t).to]]=[c.ret.t].map Ty1.row:=rfl
    by_cases hlen:(1:Int)=((i.mode.map rowI).length:Int)
    ·obtain⟨x,hx1⟩:∃ x,i.mode=[x]:=List.length_eq_one_iff.1 (by omega)
     have hr2:(i.mode.map rowI)[0]?=some [.int .i64 x]:=by rw[hx1];rfl
     have hc:=rclassed_e hx (c.ret.t) x
     have e:modeOk [c.ret.t] i.mode=classedP (c.ret.t) x:=by rw[hx1];simp[modeOk]
     rw[e];have hlen:=eq_true hlen
     rw[hp]at hc;simp(maxSteps:=9^9)(disch:=first|(intros;contradiction)|omega)only[go_sem,h8,h10,h18,hp,hroom,hlen,List.nil_append]
     rw[loopA_eq]
     cases hb:classedP (c.ret.t) x with
     | false=>
      rw[hb]at hc;simp(maxSteps:=9^9)(disch:=first|(intros;contradiction)|omega)only[go_sem,hr2,hc,wkR]
     | true=>
      rw[hb]at hc;simp(maxSteps:=9^9)(disch:=first|(intros;contradiction)|omega)only[go_sem,hr2,hc,wkR]
      rw[loopA_eq];simp(maxSteps:=9^9)(disch:=first|(intros;contradiction)|omega)only[go_sem,wkR,wrap64]
    ·have hf:modeOk [c.ret.t] i.mode=false:=by
      cases h:modeOk [c.ret.t] i.mode with
      | false=>rfl
      | true=>have:=modeOk_len2 h;simp only[List.length_cons,List.length_nil]at this;exact absurd this (by omega)
     rw[hf];simp(maxSteps:=9^9)(disch:=first|(intros;contradiction)|omega)only[go_sem,h8,h10,h18,hp,hroom,hlen,List.nil_append]
   | false=>
    rw[if_neg (by decide)]
    by_cases hlen:(0:Int)=((i.mode.map rowI).length:Int)
    ·have e:modeOk [] i.mode=true:=by rw[List.eq_nil_of_length_eq_zero (show i.mode.length=0 by omega)];rfl
     rw[e];have hlen:=eq_true hlen
     simp(maxSteps:=9^9)(disch:=first|(intros;contradiction)|omega)only[go_sem,h8,h10,h18,hp,hlen]
     rw[loopA_eq];simp(maxSteps:=9^9)(disch:=first|(intros;contradiction)|omega)only[go_sem,wkR]
    ·have hf:modeOk [] i.mode=false:=by
      cases h:modeOk [] i.mode with
      | false=>rfl
      | true=>have:=modeOk_len2 h;simp only[List.length_nil]at this;exact absurd this (by omega)
     rw[hf];simp(maxSteps:=9^9)(disch:=first|(intros;contradiction)|omega)only[go_sem,h8,h10,h18,hp,hlen]
  ·have h18':(i.op=18)=False:=by rw[eq_iff_iff,iff_false];exact h18
   by_cases h15:i.op=15
   ·have hm:modesP c i=i.args.map (varT c):=by unfold modesP;rw[if_neg h9,if_neg h18,if_pos h15]
    have hargs:=uses_args h15 hv
    have h15:=eq_true h15
    rw[hm];simp(maxSteps:=9^9)(disch:=first|(intros;contradiction)|omega)only[go_sem,h8,h10,h18',h15]
    generalize hL:loopA _ _ _=L;apply range_upd hL (by simp(maxSteps:=9^9)(disch:=first|(intros;contradiction)|omega)only[go_sem]<;>rfl) i.args rowI (α:=Unit) (fun _ _ _=>True) (fun k _=>[(5,.grow 2 k (((i.args.take k).map (varT c)).map Ty1.row)),(6,.d (.int .i64 k))]) (fun k _=>[(2,.grow k 2)]) () (by simp(maxSteps:=9^9)(disch:=first|(intros;contradiction)|omega)only[go_sem]<;>rfl) trivial ?_ ?_
    ·rintro v rest k _ _ hlt hr hget hk _ next ih
     clear hL;have hin:=inV_iff.1 (hargs v (List.mem_of_getElem? hget))
     have hr2:=varT_at hin
     have h0:=hin.1
     have hsn:(((i.args.take (k+1)).map (varT c)).map Ty1.row)=(((i.args.take k).map (varT c)).map Ty1.row)++[[.bool (varT c v).ptr,.str (varT c v).to]]:=by
      rw[List.take_add_one,hget];simp[Ty1.row]
     have hroom:room ((((i.args.take k).map (varT c)).map Ty1.row).length+1) 24:=room_tys (by simp;omega)
     simp only[rowI]at hr;simp(maxSteps:=9^9)(disch:=first|(intros;contradiction)|omega)only[go_sem,hlt,hr,h0,hr2,hroom,wrap64]
     exact ih () _ trivial (by rw[hsn];simp(maxSteps:=9^9)(disch:=first|(intros;contradiction)|omega)only[go_sem]<;>rfl)
    ·rintro k _ _ hlt hk next
     clear hL;subst hk;rw[List.take_length];generalize hO:i.args.map (varT c)=O;have hOn:O.length≤1000:=by rw[←hO,List.length_map];exact hl
     have hOl:((O).map Ty1.row).length=(O).length:=List.length_map _
     by_cases hlen:(((O).map Ty1.row).length:Int)=((i.mode.map rowI).length:Int)
     ·have hlen2:((i.mode.map rowI).length:Int)=(((O).map Ty1.row).length:Int):=hlen.symm
      simp(maxSteps:=9^9)(disch:=first|(intros;contradiction)|omega)only[go_sem,hlt,hlen]
      generalize hL:loopA _ _ _=L;apply range_upd hL (by simp(maxSteps:=9^9)(disch:=first|(intros;contradiction)|omega)only[go_sem]<;>rfl) (O) Ty1.row (α:=Unit) (fun rest k _=>modeOk (O) i.mode=modeOk rest (i.mode.drop k)) (fun k _=>[(7,.d (.int .i64 k))]) (fun _ _=>[]) () (by simp(maxSteps:=9^9)(disch:=first|(intros;contradiction)|omega)only[go_sem]<;>rfl) (by simp) ?_ ?_
      ·rintro t rest k _ i1 hlt hr hget hk _ next ih
       clear hL;have hkm:k<i.mode.length:=by omega
       have hr2:=map_at (f:=rowI) hkm
       rw[List.drop_eq_getElem_cons hkm,modeOk]at i1;have hc:=rclassed_e hx t i.mode[k]
       generalize i.mode[k]=x at hr2 hc i1;simp only[Ty1.row,rowI]at hr hr2;rw[hlen2]at *
       cases hb:classedP t x with
       | true=>
        rw[hb,Bool.true_and]at i1;rw[hb]at hc;simp(maxSteps:=9^9)(disch:=first|(intros;contradiction)|omega)only[go_sem,hlt,hr,hr2,hc,wrap64]
        exact ih () _ i1 (by simp(maxSteps:=9^9)(disch:=first|(intros;contradiction)|omega)only[go_sem]<;>rfl)
       | false=>
        rw[hb,Bool.false_and]at i1;rw[hb]at hc;rw[i1];simp(maxSteps:=9^9)(disch:=first|(intros;contradiction)|omega)only[go_sem,hlt,hr,hr2,hc]
      ·rintro k _ i1 hlt hk next
       clear hL;rw[List.drop_eq_nil_of_le (by omega)]at i1
       rw[i1];rw[hlen2]at *;simp(maxSteps:=9^9)(disch:=first|(intros;contradiction)|omega)only[go_sem,hlt,modeOk]
     ·have hf:modeOk (O) i.mode=false:=by
       cases h:modeOk (O) i.mode with
       | false=>rfl
       | true=>exact absurd (modeOk_len2 h) (by omega)
      rw[hf];simp(maxSteps:=9^9)(disch:=first|(intros;contradiction)|omega)only[go_sem,hlt,hlen]
   ·have hm:modesP c i=[]:=by unfold modesP;rw[if_neg h9,if_neg h18,if_neg h15]
    have h15:(i.op=15)=False:=by rw[eq_iff_iff,iff_false];exact h15
    rw[hm];by_cases hlen:(0:Int)=((i.mode.map rowI).length:Int)
    ·have e:modeOk [] i.mode=true:=by rw[List.eq_nil_of_length_eq_zero (show i.mode.length=0 by omega)];rfl
     rw[e];have hlen:=eq_true hlen
     simp(maxSteps:=9^9)(disch:=first|(intros;contradiction)|omega)only[go_sem,h8,h10,h18',h15,hlen]
     rw[loopA_eq];simp(maxSteps:=9^9)(disch:=first|(intros;contradiction)|omega)only[go_sem,wkR]
    ·have hf:modeOk [] i.mode=false:=by
      cases h:modeOk [] i.mode with
      | false=>rfl
      | true=>have:=modeOk_len2 h;simp only[List.length_nil]at this;exact absurd this (by omega)
     rw[hf];simp(maxSteps:=9^9)(disch:=first|(intros;contradiction)|omega)only[go_sem,h8,h10,h18',h15,hlen]
end Go.Proofs.YticliodhjfednaaGreat
