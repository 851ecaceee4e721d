/- The laws' bounds on programs. Conditions: none. -/
import Derived.Test.YticliodhjfednaaGreatM9
import Derived.Test.YticliodhjfednaaGreatLp
set_option linter.unusedSimpArgs false
set_option linter.unusedVariables false
namespace Go.Proofs.YticliodhjfednaaGreat
open Go Go.Ab
variable {ext:Sem'}
set_option maxHeartbeats 4000000 in
theorem l05_e(hx:TX ext)(m:Md1)(hn:∀ s,s∈m.structs→∀ f,f∈s.fields→f.name.length≤9223372036854775807):∃ b,G ext 38 [m.av] []=some (.ret (.d (.bool b)),[])∧(b=true→LightM m):=by
 have hsl:(m.structs.map Sc1.row).length=m.structs.length:=List.length_map _
 have hcl:(m.funcs.map Cd1.row).length=m.funcs.length:=List.length_map _
 rw[G_body hx.clear rfl Tryz.func38 rfl Tryz.results38 hv_38 rfl];simp only[Md1.av,Md1.sr,Md1.fr];by_cases h1:(40:Int)<((m.structs.map Sc1.row).length:Int)
 ·exact⟨false,by simp(maxSteps:=9^9)(disch:=first|(intros;contradiction)|omega)only[go_sem,h1],by simp⟩
 ·by_cases h2:(70:Int)<((m.funcs.map Cd1.row).length:Int)
  ·exact⟨false,by simp(maxSteps:=9^9)(disch:=first|(intros;contradiction)|omega)only[go_sem,h1,h2],by simp⟩
  ·simp(maxSteps:=9^9)(disch:=first|(intros;contradiction)|omega)only[go_sem,h1,h2]
   generalize hL:loopA _ _ _=L;apply range_upd hL (by simp(maxSteps:=9^9)(disch:=first|(intros;contradiction)|omega)only[go_sem]<;>rfl) m.structs Sc1.row (α:=Unit) (fun rest k _=>∀ s,s∈m.structs→s∈rest∨(s.fields.length≤40∧s.name.length≤60)) (fun k _=>[(4,.d (.int .i64 k))]) (fun _ _=>[]) () (by simp(maxSteps:=9^9)(disch:=first|(intros;contradiction)|omega)only[go_sem]<;>rfl) (fun s hs=>.inl hs) ?_ ?_
   ·rintro s rest k _ i1 hlt hr hget hk _ next ih
    clear hL;have hfll:(s.fields.map Fd1.row).length=s.fields.length:=List.length_map _
    simp only[Sc1.row]at hr;by_cases g1:(40:Int)<((s.fields.map Fd1.row).length:Int)
    ·exact⟨false,by simp(maxSteps:=9^9)(disch:=first|(intros;contradiction)|omega)only[go_sem,hlt,hr,g1],by simp⟩
    ·by_cases g2:(60:Int)<(s.name.length:Int)
     ·exact⟨false,by simp(maxSteps:=9^9)(disch:=first|(intros;contradiction)|omega)only[go_sem,hlt,hr,g1,g2],by simp⟩
     ·simp(maxSteps:=9^9)(disch:=first|(intros;contradiction)|omega)only[go_sem,hlt,hr,g1,g2,wrap64]
      refine ih () _ (fun t ht=>?_) (by simp(maxSteps:=9^9)(disch:=first|(intros;contradiction)|omega)only[go_sem]<;>rfl)
      rcases i1 t ht with h|h
      ·rcases List.mem_cons.1 h with rfl|h
       ·exact .inr ⟨by omega,by omega⟩
       ·exact .inl h
      ·exact .inr h
   ·rintro k _ i1 hlt hk next
    clear hL;have i1:∀ s,s∈m.structs→(s.fields.length≤40∧s.name.length≤60):=fun s hs=>(i1 s hs).resolve_left (by simp)
    simp(maxSteps:=9^9)(disch:=first|(intros;contradiction)|omega)only[go_sem,hlt]
    generalize hL:loopA _ _ _=L;apply range_upd hL (by simp(maxSteps:=9^9)(disch:=first|(intros;contradiction)|omega)only[go_sem]<;>rfl) m.funcs Cd1.row (α:=Int) (fun rest k _=>∀ c,c∈m.funcs→c∈rest∨((c.vars.length≤400∧c.ins.length≤400∧c.name.length≤60∧c.frm.length≤40)∧∀ i,i∈c.ins→i.args.length≤40∧i.mode.length≤40∧i.sign.length≤20)) (fun k n=>[(3,.d (.int .i64 n)),(5,.d (.int .i64 k))]) (fun _ _=>[]) 0 (by simp(maxSteps:=9^9)(disch:=first|(intros;contradiction)|omega)only[go_sem]<;>rfl) (fun s hs=>.inl hs) ?_ ?_
    ·rintro c rest k n j1 hlt hr hget hk _ next ih
     clear hL;have hvl:(c.vars.map Vr1.row).length=c.vars.length:=List.length_map _
     have hil:(c.ins.map In1.row).length=c.ins.length:=List.length_map _
     have hfl:(c.frm.map rowI).length=c.frm.length:=List.length_map _
     simp only[Cd1.row,ints]at hr;by_cases g1:(400:Int)<((c.ins.map In1.row).length:Int)
     ·exact⟨false,by simp(maxSteps:=9^9)(disch:=first|(intros;contradiction)|omega)only[go_sem,hlt,hr,g1],by simp⟩
     ·by_cases g2:(400:Int)<((c.vars.map Vr1.row).length:Int)
      ·exact⟨false,by simp(maxSteps:=9^9)(disch:=first|(intros;contradiction)|omega)only[go_sem,hlt,hr,g1,g2],by simp⟩
      ·by_cases g3:(60:Int)<(c.name.length:Int)
       ·exact⟨false,by simp(maxSteps:=9^9)(disch:=first|(intros;contradiction)|omega)only[go_sem,hlt,hr,g1,g2,g3],by simp⟩
       ·by_cases g4:(40:Int)<((c.frm.map rowI).length:Int)
        ·exact⟨false,by simp(maxSteps:=9^9)(disch:=first|(intros;contradiction)|omega)only[go_sem,hlt,hr,g1,g2,g3,g4],by simp⟩
        ·by_cases g5:(1200:Int)<IntKind.wrap .i64 (IntKind.wrap .i64 (n+((c.ins.map In1.row).length:Int))+((c.vars.map Vr1.row).length:Int))
         ·exact⟨false,by simp(maxSteps:=9^9)(disch:=first|(intros;contradiction)|omega)only[go_sem,hlt,hr,g1,g2,g3,g4,g5],by simp⟩
         ·simp(maxSteps:=9^9)(disch:=first|(intros;contradiction)|omega)only[go_sem,hlt,hr,g1,g2,g3,g4,g5]
          generalize IntKind.wrap .i64 (IntKind.wrap .i64 (n+((c.ins.map In1.row).length:Int))+((c.vars.map Vr1.row).length:Int))=n2 at *;generalize hL:loopA _ _ _=L;apply range_upd hL (by simp(maxSteps:=9^9)(disch:=first|(intros;contradiction)|omega)only[go_sem]<;>rfl) c.ins In1.row (α:=Unit) (fun rest j _=>∀ i,i∈c.ins→i∈rest∨(i.args.length≤40∧i.mode.length≤40∧i.sign.length≤20)) (fun j _=>[(7,.d (.int .i64 j))]) (fun _ _=>[]) () (by simp(maxSteps:=9^9)(disch:=first|(intros;contradiction)|omega)only[go_sem]<;>rfl) (fun s hs=>.inl hs) ?_ ?_
          ·rintro i rest2 j _ q1 hlt2 hr2 hget2 hj _ next2 ih2
           clear hL;have hal:(i.args.map rowI).length=i.args.length:=List.length_map _
           have hml:(i.mode.map rowI).length=i.mode.length:=List.length_map _
           simp only[In1.row,ints]at hr2;by_cases e1:(40:Int)<((i.args.map rowI).length:Int)
           ·exact⟨false,by simp(maxSteps:=9^9)(disch:=first|(intros;contradiction)|omega)only[go_sem,hlt2,hr2,e1],by simp⟩
           ·by_cases e2:(40:Int)<((i.mode.map rowI).length:Int)
            ·exact⟨false,by simp(maxSteps:=9^9)(disch:=first|(intros;contradiction)|omega)only[go_sem,hlt2,hr2,e1,e2],by simp⟩
            ·by_cases e3:(20:Int)<(i.sign.length:Int)
             ·exact⟨false,by simp(maxSteps:=9^9)(disch:=first|(intros;contradiction)|omega)only[go_sem,hlt2,hr2,e1,e2,e3],by simp⟩
             ·simp(maxSteps:=9^9)(disch:=first|(intros;contradiction)|omega)only[go_sem,hlt2,hr2,e1,e2,e3,wrap64]
              refine ih2 () _ (fun t ht=>?_) (by simp(maxSteps:=9^9)(disch:=first|(intros;contradiction)|omega)only[go_sem]<;>rfl)
              rcases q1 t ht with h|h
              ·rcases List.mem_cons.1 h with rfl|h
               ·exact .inr ⟨by omega,by omega,by omega⟩
               ·exact .inl h
              ·exact .inr h
          ·rintro j _ q1 hlt2 hj next2
           clear hL;simp(maxSteps:=9^9)(disch:=first|(intros;contradiction)|omega)only[go_sem,hlt2,wrap64]
           refine ih n2 _ (fun t ht=>?_) (by simp(maxSteps:=9^9)(disch:=first|(intros;contradiction)|omega)only[go_sem]<;>rfl)
           rcases j1 t ht with h|h
           ·rcases List.mem_cons.1 h with rfl|h
            ·exact .inr ⟨⟨by omega,by omega,by omega,by omega⟩,fun i hi=>(q1 i hi).resolve_left (by simp)⟩
            ·exact .inl h
           ·exact .inr h
    ·rintro k n j1 hlt hk next
     clear hL;refine⟨true,by simp(maxSteps:=9^9)(disch:=first|(intros;contradiction)|omega)only[go_sem,hlt],fun _=>⟨by omega,by omega,fun s hs=>⟨(i1 s hs).1,(i1 s hs).2,hn s hs⟩,fun c hc=>((j1 c hc).resolve_left (by simp)).1,fun c hc=>((j1 c hc).resolve_left (by simp)).2⟩⟩
set_option maxHeartbeats 4000000 in
theorem l12_e(hx:TX ext)(m:Md1)(hn:∀ s,s∈m.structs→∀ f,f∈s.fields→f.name.length≤9223372036854775807):∃ b,G ext 23 [m.av] []=some (.ret (.d (.bool b)),[])∧(b=true→LightM m∧m.funcs.length≤12):=by
 have hcl:(m.funcs.map Cd1.row).length=m.funcs.length:=List.length_map _
 obtain⟨b,hb,hb2⟩:=l05_e hx m hn
 rw[G_body hx.clear rfl Tryz.func23 rfl Tryz.results23 hv_23 rfl];simp only[Md1.av,Md1.sr,Md1.fr]at hb ⊢;simp(maxSteps:=9^9)(disch:=first|(intros;contradiction)|omega)only[go_sem]
 generalize hL:loopA _ _ _=L;apply loop_upd hL (by simp(maxSteps:=9^9)(disch:=first|(intros;contradiction)|omega)only[go_sem]<;>rfl) (fun x:Nat×Int=>x.1≤m.funcs.length) (fun x=>m.funcs.length-x.1) (fun x=>[(3,.d (.int .i64 x.2)),(4,.d (.int .i64 x.1))]) (fun _=>[]) (0,0) (by simp(maxSteps:=9^9)(disch:=first|(intros;contradiction)|omega)only[go_sem]<;>rfl) (Nat.zero_le _) ?_
 clear hL;rintro⟨k,n⟩ hk next ih
 simp only at hk ih ⊢
 by_cases g:k<m.funcs.length∧k<20
 ·have g1:(k:Int)<((m.funcs.map Cd1.row).length:Int):=by omega
  have g2:(k:Int)<20:=by omega
  have hr:=map_at (f:=Cd1.row) g.1
  simp only[Cd1.row]at hr;simp(maxSteps:=9^9)(disch:=first|(intros;contradiction)|omega)only[go_sem,g1,g2,hr,wrap64]
  exact ih (k+1,IntKind.wrap .i64 (n+((m.funcs[k].ins.map In1.row).length:Int))) _ g.1 (by simp only;omega) (by simp(maxSteps:=9^9)(disch:=first|(intros;contradiction)|omega)only[go_sem]<;>rfl)
 ·have key:(¬(k:Int)<((m.funcs.map Cd1.row).length:Int))∨((k:Int)<((m.funcs.map Cd1.row).length:Int)∧¬(k:Int)<20):=by omega
  rcases key with g1|⟨g1,g2⟩
  ·by_cases e1:((m.funcs.map Cd1.row).length:Int)≤12
   ·by_cases e2:n≤400
    ·exact⟨b,by simp(maxSteps:=9^9)(disch:=first|(intros;contradiction)|omega)only[go_sem,g1,e1,e2,hb],fun h=>⟨hb2 h,by omega⟩⟩
    ·exact⟨false,by simp(maxSteps:=9^9)(disch:=first|(intros;contradiction)|omega)only[go_sem,g1,e1,e2],by simp⟩
   ·exact⟨false,by simp(maxSteps:=9^9)(disch:=first|(intros;contradiction)|omega)only[go_sem,g1,e1],by simp⟩
  ·exact⟨false,by simp(maxSteps:=9^9)(disch:=first|(intros;contradiction)|omega)only[go_sem,g1,g2,show ¬((m.funcs.map Cd1.row).length:Int)≤12 by omega],by simp⟩
set_option maxHeartbeats 4000000 in
theorem l17_e(hx:TX ext)(m:Md1)(hn:∀ s,s∈m.structs→∀ f,f∈s.fields→f.name.length≤9223372036854775807):∃ b,G ext 7 [m.av] []=some (.ret (.d (.bool b)),[])∧(b=true→LightM m∧m.funcs.length≤12):=by
 have hcl:(m.funcs.map Cd1.row).length=m.funcs.length:=List.length_map _
 obtain⟨b,hb,hb2⟩:=l12_e hx m hn
 rw[G_body hx.clear rfl Tryz.func7 rfl Tryz.results7 hv_7 rfl];simp only[Md1.av,Md1.sr,Md1.fr]at hb ⊢;simp(maxSteps:=9^9)(disch:=first|(intros;contradiction)|omega)only[go_sem]
 generalize hL:loopA _ _ _=L;apply loop_upd hL (by simp(maxSteps:=9^9)(disch:=first|(intros;contradiction)|omega)only[go_sem]<;>rfl) (fun x:Nat×Int=>x.1≤m.funcs.length) (fun x=>m.funcs.length-x.1) (fun x=>[(3,.d (.int .i64 x.2)),(4,.d (.int .i64 x.1))]) (fun _=>[]) (0,0) (by simp(maxSteps:=9^9)(disch:=first|(intros;contradiction)|omega)only[go_sem]<;>rfl) (Nat.zero_le _) ?_
 clear hL;rintro⟨k,n⟩ hk next ih
 simp only at hk ih ⊢
 by_cases g:k<m.funcs.length∧k<20
 ·have g1:(k:Int)<((m.funcs.map Cd1.row).length:Int):=by omega
  have g2:(k:Int)<20:=by omega
  have hr:=map_at (f:=Cd1.row) g.1
  simp only[Cd1.row]at hr;simp(maxSteps:=9^9)(disch:=first|(intros;contradiction)|omega)only[go_sem,g1,g2,hr,wrap64]
  exact ih (k+1,IntKind.wrap .i64 (n+((m.funcs[k].vars.map Vr1.row).length:Int))) _ g.1 (by simp only;omega) (by simp(maxSteps:=9^9)(disch:=first|(intros;contradiction)|omega)only[go_sem]<;>rfl)
 ·have key:(¬(k:Int)<((m.funcs.map Cd1.row).length:Int))∨((k:Int)<((m.funcs.map Cd1.row).length:Int)∧¬(k:Int)<20):=by omega
  rcases key with g1|⟨g1,g2⟩
  ·by_cases e2:n≤200
   ·exact⟨b,by simp(maxSteps:=9^9)(disch:=first|(intros;contradiction)|omega)only[go_sem,g1,e2,hb],hb2⟩
   ·exact⟨false,by simp(maxSteps:=9^9)(disch:=first|(intros;contradiction)|omega)only[go_sem,g1,e2],by simp⟩
  ·by_cases e2:n≤200
   ·exact⟨b,by simp(maxSteps:=9^9)(disch:=first|(intros;contradiction)|omega)only[go_sem,g1,g2,e2,hb],hb2⟩
   ·exact⟨false,by simp(maxSteps:=9^9)(disch:=first|(intros;contradiction)|omega)only[go_sem,g1,g2,e2],by simp⟩
end Go.Proofs.YticliodhjfednaaGreat
