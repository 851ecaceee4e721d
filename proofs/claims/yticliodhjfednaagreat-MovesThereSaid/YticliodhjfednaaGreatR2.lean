/- The document's answer for ir: fields, calls, instructions. Conditions: none. -/
import Derived.Test.YticliodhjfednaaGreatR1
set_option linter.unusedSimpArgs false
set_option linter.unusedVariables false
namespace Go.Proofs.YticliodhjfednaaGreat
open Go Go.Ab
variable {ext:Sem'}
theorem rone1(hx:TX ext)(f:Int):G ext 92 [.d (.bool true),.d (.int .i64 f)] []=some (.ret (.d (.int .i64 f)),[]):=rone_e hx true f
theorem rone0(hx:TX ext)(f:Int):G ext 92 [.d (.bool false),.d (.int .i64 f)] []=some (.ret (.d (.int .i64 0)),[]):=rone_e hx false f
theorem tyEq(a c:Bool)(b d:List UInt8):binA Tryz.prog .eql 36 (.agg [.d (.bool a),.d (.str b)]) (.agg [.d (.bool c),.d (.str d)])=some (.d (.bool (decide ((⟨a,b⟩:Ty1)=⟨c,d⟩)))):=by
 have e:decide ((⟨a,b⟩:Ty1)=⟨c,d⟩)=(decide (a=c)&&decide (b=d)):=by simp
 rw[e];by_cases h1:a=c<;>by_cases h2:b=d<;>simp(maxSteps:=9^9)(disch:=first|(intros;contradiction)|omega)only[go_sem,h1,h2]
theorem tyNe(a c:Bool)(b d:List UInt8):binA Tryz.prog .neq 36 (.agg [.d (.bool a),.d (.str b)]) (.agg [.d (.bool c),.d (.str d)])=some (.d (.bool (!decide ((⟨a,b⟩:Ty1)=⟨c,d⟩)))):=by
 have e:decide ((⟨a,b⟩:Ty1)=⟨c,d⟩)=(decide (a=c)&&decide (b=d)):=by simp
 rw[e];by_cases h1:a=c<;>by_cases h2:b=d<;>simp(maxSteps:=9^9)(disch:=first|(intros;contradiction)|omega)only[go_sem,h1,h2]
attribute [go_sem high] tyEq tyNe
set_option maxHeartbeats 4000000 in
theorem rheap_e(hx:TX ext)(m:Md1)(hm:m.structs.length≤1000000)(c:Cd1)(i:In1)(other:Int)(numbers:Bool)
  (hop:(i.op=7∧other=i.d∧numbers=true)∨(i.op=10∧other=i.d∧numbers=false)∨(i.op=8∧other=i.b∧numbers=true)∨(i.op=11∧other=i.b∧numbers=false))
  (h:inV c i.a=true) (ho:inV c other=true) (hk:knownT m (varT c i.a)):G ext 125 [m.av,c.av,i.av] []=some (.ret (.d (.int .i64 (heapP m c i other (!numbers)))),[]):=by
 have hf:=rfield_e hx m hm c i.a i.f h hk
 have ha:=varT_at (inV_iff.1 h)
 have ha0:=(inV_iff.1 h).1
 have hb:=varT_at (inV_iff.1 ho)
 have hb0:=(inV_iff.1 ho).1
 have u1:=rone1 hx 7
 have u0:=rone0 hx 7
 rw[G_body hx.clear rfl Tryz.func125 rfl Tryz.results125 hv_125 rfl];unfold heapP;simp only[Md1.av,Cd1.av,In1.av,Ty1.av,ints,Md1.sr,Md1.fr]at hf ⊢;generalize fieldP m c i.a i.f=q at hf ⊢;generalize varT c i.a=ta at ha;obtain⟨⟨p,to'⟩,g⟩:=q
 generalize varT c other=t at hb ⊢;obtain⟨p2,to2⟩:=t
 obtain⟨op,d,a,b,f,n,sign,args,mode,dest,els,pos⟩:=i
 simp only at *
 by_cases hg:g=0
 ·subst hg;rw[if_pos rfl]
  cases hc:decide ((⟨p,to'⟩:Ty1)=⟨p2,to2⟩)<;>rcases hop with⟨rfl,rfl,rfl⟩|⟨rfl,rfl,rfl⟩|⟨rfl,rfl,rfl⟩|⟨rfl,rfl,rfl⟩<;>cases p<;>simp(maxSteps:=9^9)(disch:=first|(intros;contradiction)|omega)only[go_sem,hf,ha,ha0,hb,hb0,u1,u0,hc,Bool.true_eq_false,Bool.false_eq_true]<;>rfl
 ·rw[if_neg hg];simp(maxSteps:=9^9)(disch:=first|(intros;contradiction)|omega)only[go_sem,hf,hg]
set_option maxHeartbeats 4000000 in
theorem rcall_e(hx:TX ext)(m:Md1)(c:Cd1)(i:In1)(hl:i.args.length≤1000)(hd:inV c i.d=true)(ha:∀ v,v∈i.args→inV c v=true):G ext 126 [m.av,c.av,i.av] []=some (.ret (.d (.int .i64 (callP m c i))),[]):=by
 have hcl:(m.funcs.map Cd1.row).length=m.funcs.length:=List.length_map _
 have hal:(i.args.map rowI).length=i.args.length:=List.length_map _
 have hD:=varT_at (inV_iff.1 hd)
 have hD0:=(inV_iff.1 hd).1
 have u1:=rone1 hx 7
 have u0:=rone0 hx 7
 rw[G_body hx.clear rfl Tryz.func126 rfl Tryz.results126 hv_126 rfl];unfold callP;simp only[Md1.av,Cd1.av,In1.av,ints,Md1.sr,Md1.fr];by_cases h1:i.f<0
 ·rw[if_pos (.inl h1)];simp(maxSteps:=9^9)(disch:=first|(intros;contradiction)|omega)only[go_sem,h1]
 ·by_cases h2:((m.funcs.map Cd1.row).length:Int)≤i.f
  ·rw[if_pos (.inr (by omega))]
   simp(maxSteps:=9^9)(disch:=first|(intros;contradiction)|omega)only[go_sem,h1,h2]
  ·rw[if_neg (by omega)]
   have hlt:i.f.toNat<m.funcs.length:=by omega
   have hr:=map_at (f:=Cd1.row) hlt
   have h0:0≤i.f:=by omega
   rw[List.getElem?_eq_getElem hlt]
   generalize m.funcs[i.f.toNat]=g at hr ⊢;simp only[Cd1.row]at hr;simp only
   have hvl:(g.vars.map Vr1.row).length=g.vars.length:=List.length_map _
   by_cases h3:((i.args.map rowI).length:Int)=g.params
   ·by_cases h4:((g.vars.map Vr1.row).length:Int)<g.params
    ·rw[if_pos (.inr (by omega))]
     simp(maxSteps:=9^9)(disch:=first|(intros;contradiction)|omega)only[go_sem,h1,h2,h0,hr,h3,h4]
    ·rw[if_neg (by omega)]
     have h3':=eq_true h3
     simp(maxSteps:=9^9)(disch:=first|(intros;contradiction)|omega)only[go_sem,h1,h2,h0,hr,h3',h4]
     generalize hL:loopA _ _ _=L;apply range_upd hL (by simp(maxSteps:=9^9)(disch:=first|(intros;contradiction)|omega)only[go_sem]<;>rfl) i.args rowI (α:=Unit) (fun rest k _=>argsP c i.args g.vars=argsP c rest (g.vars.drop k)) (fun k _=>[(8,.d (.int .i64 k))]) (fun _ _=>[]) () (by simp(maxSteps:=9^9)(disch:=first|(intros;contradiction)|omega)only[go_sem]<;>rfl) (by simp) ?_ ?_
     ·intro x rest k _ hi hlt2 hr2 hx1 hk _ next ih;have hkv:k<g.vars.length:=by omega
      have hrv:=map_at (f:=Vr1.row) hkv
      rw[List.drop_eq_getElem_cons hkv]at hi;generalize g.vars[k]=v at hrv hi;have hin:=ha x (List.mem_of_getElem? hx1)
      have hX:=varT_at (inV_iff.1 hin)
      have hX0:=(inV_iff.1 hin).1
      simp only[argsP]at hi;obtain⟨⟨vp,vt⟩,vc⟩:=v
      generalize varT c x=q at hi hX;obtain⟨qp,qt⟩:=q
      simp only[Vr1.row,rowI]at hrv hr2 hi hX
      cases hc:decide ((⟨qp,qt⟩:Ty1)=⟨vp,vt⟩)with
      | true=>
       rw[hc,Bool.true_and]at hi;simp(maxSteps:=9^9)(disch:=first|(intros;contradiction)|omega)only[go_sem,hlt2,hr2,hrv,hX,hX0,hc,wrap64]
       exact ih () _ hi (by simp(maxSteps:=9^9)(disch:=first|(intros;contradiction)|omega)only[go_sem]<;>rfl)
      | false=>
       rw[hc,Bool.false_and]at hi;rw[if_pos hi];simp(maxSteps:=9^9)(disch:=first|(intros;contradiction)|omega)only[go_sem,hlt2,hr2,hrv,hX,hX0,hc]
     ·intro k _ hi hlt2 hk next;have hi:argsP c i.args g.vars=true:=hi
      rw[if_neg (by rw[hi];decide)]
      obtain⟨gn,gp,gv,⟨⟨vp,vt⟩,vc⟩,gf,gi⟩:=g
      generalize varT c i.d=q at hD ⊢;obtain⟨qp,qt⟩:=q
      simp only at hD hr ⊢
      cases hc:decide ((⟨qp,qt⟩:Ty1)=⟨vp,vt⟩)<;>simp(maxSteps:=9^9)(disch:=first|(intros;contradiction)|omega)only[go_sem,hlt2,hD,hD0,u0,u1,hc]<;>rfl
   ·rw[if_pos (.inl (by omega))]
    simp(maxSteps:=9^9)(disch:=first|(intros;contradiction)|omega)only[go_sem,h1,h2,h0,hr,h3]
end Go.Proofs.YticliodhjfednaaGreat
