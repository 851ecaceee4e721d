/- ir: which programs are right. Conditions: none. -/
import Derived.Test.YticliodhjfednaaGreatM8
set_option linter.unusedSimpArgs false
set_option linter.unusedVariables false
namespace Go.Proofs.YticliodhjfednaaGreat
open Go Go.Ab
variable {ext:Sem'}
structure LightM(m:Md1):Prop where
 structs:m.structs.length≤40
 funcs:m.funcs.length≤70
 fields:∀ s,s∈m.structs→s.fields.length≤40∧s.name.length≤60∧∀ f,f∈s.fields→f.name.length≤9223372036854775807
 vars:∀ c,c∈m.funcs→c.vars.length≤400∧c.ins.length≤400∧c.name.length≤60∧c.frm.length≤40
 ins:∀ c,c∈m.funcs→∀ i,i∈c.ins→i.args.length≤40∧i.mode.length≤40∧i.sign.length≤20
def mainP(m:Md1):Int:=match m.funcs[(funcIx m [109,97,105,110]).toNat]? with
 | some c=>unlessP (decide (0≤funcIx m [109,97,105,110])&&(decide (c.params=0)&&!c.ret.t.ptr)) 9
 | none=>9
def rightP(m:Md1):Int:=
 if 30<m.structs.length∨60<m.funcs.length then 2
 else if twiceP m then 6
 else if(typesL m).all (knownP m)=false then 5
 else if firstP (codeP m) m.funcs=0 then mainP m else firstP (codeP m) m.funcs
theorem known_all{m:Md1}(h:(typesL m).all (knownP m)=true){c:Cd1}(hc:c∈m.funcs):∀ v,inV c v=true→knownT m (varT c v):=by
 intro v hv hp;have hv':=inV_iff.1 hv
 have hlt:v.toNat<c.vars.length:=by omega
 have hm:varT c v∈typesL m:=by
  unfold typesL typesC;rw[List.mem_append];right
  rw[List.mem_flatMap];refine⟨c,hc,List.mem_cons_of_mem _ ?_⟩
  rw[List.mem_map];exact⟨c.vars[v.toNat],List.getElem_mem hlt,by unfold varT;rw[List.getElem?_eq_getElem hlt];rfl⟩
 have:=List.all_eq_true.1 h _ hm
 unfold knownP at this;rw[hp]at this;simpa using this
def cd0:Cd1:=⟨[],0,[],⟨⟨false,[]⟩,0⟩,[],[]⟩
def jtP(m:Md1):Nat→List AV
 | 0=>[.d (.str []),.d (.int .i64 0),.grow 3 0 [],.d (.bool false),.d (.str []),.d (.int .i64 0),.grow 4 0 [],.grow 5 0 []]
 | k+1=>codC ((m.funcs[k]?).getD cd0)
theorem funcIx_at{m:Md1}{name:List UInt8}(h:0≤funcIx m name):(funcIx m name).toNat<m.funcs.length:=by
 unfold funcIx idxN at h ⊢
 cases hi:idxP (fun s:Cd1=>decide (s.name=name)) m.funcs with
 | none=>rw[hi]at h;simp at h
 | some i=>have:=(idxP_some hi).1;simpa using this
set_option maxHeartbeats 4000000 in
theorem right_e(hx:TM ext)(m:Md1)(hm:LightM m):G ext 39 [m.av] []=some (.ret (.d (.int .i64 (rightP m))),[]):=by
 have hsl:(m.structs.map Sc1.row).length=m.structs.length:=List.length_map _
 have hcl:(m.funcs.map Cd1.row).length=m.funcs.length:=List.length_map _
 have hs40:=hm.structs
 have hf70:=hm.funcs
 have htw:=twice_e hx.toTX m hm.structs hm.funcs (fun s hs=>by have:=(hm.fields s hs).1;omega)
 have hty:=types_e hx.toTX m
 rw[G_body hx.clear rfl Tryz.func39 rfl Tryz.results39 hv_39 rfl];simp only[Md1.av,Md1.sr,Md1.fr]at htw hty ⊢;by_cases h1:(30:Int)<((m.structs.map Sc1.row).length:Int)
 ·have e:rightP m=2:=by unfold rightP;rw[if_pos (by omega)]
  rw[e];simp(maxSteps:=9^9)(disch:=first|(intros;contradiction)|omega)only[go_sem,h1]
 ·by_cases h2:(60:Int)<((m.funcs.map Cd1.row).length:Int)
  ·have e:rightP m=2:=by unfold rightP;rw[if_pos (by omega)]
   rw[e];simp(maxSteps:=9^9)(disch:=first|(intros;contradiction)|omega)only[go_sem,h1,h2]
  ·cases h3:twiceP m with
   | true=>
    rw[h3]at htw;have e:rightP m=6:=by unfold rightP;rw[if_neg (by omega),h3];rfl
    rw[e];simp(maxSteps:=9^9)(disch:=first|(intros;contradiction)|omega)only[go_sem,h1,h2,htw]
   | false=>
    rw[h3]at htw;obtain⟨g1,g2,g3⟩:=gen3 (Hs:=[.cells [.d m.sr,.d m.fr]]) (tyI_plain (typesL m)) (fun o o' hl ho=>types1_e hx.toTX m hm.structs hm.funcs (fun s hs=>by have:=(hm.fields s hs).1;omega) (fun c hc=>by have:=(hm.vars c hc).1;omega) o o' hl ho)
    simp only[List.cons_append,List.nil_append,Md1.sr,Md1.fr]at g1 g2 g3;simp(maxSteps:=9^9)(disch:=first|(intros;contradiction)|omega)only[go_sem,h1,h2,htw,hty,g1]
    generalize hR:rfFold _ _ _ _ _ _=R
    have hst:=rfFold_stop hR (fun i=>[.cells [.d (.sl (m.structs.map Sc1.row)),.d (.sl (m.funcs.map Cd1.row))],.cells [.d (.int .i64 0)],.cells [.d (.sl (m.structs.map Sc1.row)),.d (.sl (m.funcs.map Cd1.row)),.d (.str []),.d (.int .i64 0),.grow 3 0 [],.d (.bool false),.d (.str []),.d (.int .i64 0),.grow 4 0 [],.grow 5 0 []],.grow 0 3,.grow 0 1,.grow 0 13,.no]) rfl
     (fun i=>((typesL m)[i]?.map (knownP m))=some false) .ret
     (fun i=>[.cells [.d (.sl (m.structs.map Sc1.row)),.d (.sl (m.funcs.map Cd1.row))],.cells [.d (.int .i64 5)],.cells [.d (.sl (m.structs.map Sc1.row)),.d (.sl (m.funcs.map Cd1.row)),.d (.str []),.d (.int .i64 0),.grow 3 0 [],.d (.bool false),.d (.str []),.d (.int .i64 0),.grow 4 0 [],.grow 5 0 []],.grow 0 3,.grow 0 1,.grow 0 13,.no]) (fun i x next hxi=>by
      unfold tyI at hxi;rw[List.getElem?_map]at hxi
      cases hti:(typesL m)[i]? with
      | none=>rw[hti]at hxi;cases hxi
      | some t=>
       rw[hti]at hxi
       cases hxi;have hk:=known_e hx.toTX m (by omega) cd0 t
       simp only[judgeA,cd0,ints,List.map_nil,Md1.sr,Md1.fr,Ty1.av]at hk ⊢;simp only[Option.map_some,Option.some.injEq]
       cases hkt:knownP m t with
       | true=>
        rw[hkt]at hk;rw[if_neg (show ¬true=false by decide)]
        simp(maxSteps:=9^9)(disch:=first|(intros;contradiction)|omega)only[go_sem,hk]
       | false=>
        rw[hkt]at hk;rw[if_pos rfl];simp(maxSteps:=9^9)(disch:=first|(intros;contradiction)|omega)only[go_sem,hk])
    clear hR;rcases hst with⟨rfl,hno⟩|⟨i,hi,hc,_,rfl⟩
    ·have hall:(typesL m).all (knownP m)=true:=by
      rw[List.all_eq_true];intro t ht;obtain⟨i,hi,rfl⟩:=List.getElem_of_mem ht
      have:=hno i (by unfold tyI;rw[List.length_map];exact hi)
      rw[List.getElem?_eq_getElem hi]at this
      simpa using this
     have e:rightP m=if firstP (codeP m) m.funcs=0 then mainP m else firstP (codeP m) m.funcs:=by
      unfold rightP;rw[if_neg (by omega),h3,hall];rfl
     rw[e];simp(maxSteps:=9^9)(disch:=first|(intros;contradiction)|omega)only[go_sem,g2]
     generalize hL:loopA _ _ _=L
     apply loop_post hL (fun k:Nat=>k≤m.funcs.length∧firstP (codeP m) m.funcs=firstP (codeP m) (m.funcs.drop k)) (fun k=>m.funcs.length-k)
      (fun k=>⟨[(0,.agg [.d (.sl (m.structs.map Sc1.row)),.d (.sl (m.funcs.map Cd1.row))]),(1,.ptr 0 0),(2,.ptr 1 0),(3,.ptr 2 0),(4,.tuple []),(6,.any),(7,.tuple []),(26,.tuple []),(32,.d (.sl (m.funcs.map Cd1.row))),(33,.d (.int .i64 (m.funcs.map Cd1.row).length)),(34,.d (.int .i64 k))],[],[.cells [.d (.sl (m.structs.map Sc1.row)),.d (.sl (m.funcs.map Cd1.row))],.cells [.d (.int .i64 0)],.cells ([.d (.sl (m.structs.map Sc1.row)),.d (.sl (m.funcs.map Cd1.row))]++jtP m k),.grow 0 3,.grow 0 1,.grow 0 13,.cells [.d (.sl (m.structs.map Sc1.row)),.d (.sl (m.funcs.map Cd1.row))]]⟩)
      0 (by simp only[jtP,List.cons_append,List.nil_append];simp(maxSteps:=9^9)(disch:=first|(intros;contradiction)|omega)only[go_sem]<;>rfl) ⟨Nat.zero_le _,by simp⟩
     clear hL;rintro k ⟨k1,k2⟩ next ih
     by_cases hk:k<m.funcs.length
     ·have hlt:(k:Int)<((m.funcs.map Cd1.row).length:Int):=by omega
      have hr:=map_at (f:=Cd1.row) hk
      have hmem:=List.getElem_mem hk
      have hce:=code_e hx m (by omega) m.funcs[k] (fun i hi=>by have:=(hm.ins _ hmem i hi).1;omega) (known_all hall hmem)
      have hjt:jtP m (k+1)=codC m.funcs[k]:=by simp only[jtP];rw[List.getElem?_eq_getElem hk];rfl
      rw[firstP_drop hk]at k2;clear hmem;generalize m.funcs[k]=c at hr hce hjt k2;simp only[Cd1.row]at hr;simp only[judgeA,Md1.sr,Md1.fr]at hce;by_cases hz:codeP m c=0
      ·rw[if_pos hz]at k2;rw[hz]at hce
       cases k with
       | zero=>
        have hlt0:(0:Int)<((m.funcs.map Cd1.row).length:Int):=by omega
        simp only[jtP,List.cons_append,List.nil_append];simp(maxSteps:=9^9)(disch:=first|(intros;contradiction)|omega)only[go_sem,hlt0,hr,hce,wrap64]
        exact ih (0+1) _ ⟨hk,k2⟩ (by omega) (by rw[hjt];simp only[codC,List.cons_append,List.nil_append];simp(maxSteps:=9^9)(disch:=first|(intros;contradiction)|omega)only[go_sem]<;>rfl)
       | succ k=>
        simp only[jtP,codC,List.cons_append,List.nil_append];simp(maxSteps:=9^9)(disch:=first|(intros;contradiction)|omega)only[go_sem,hlt,hr,hce,wrap64]
        exact ih (k+1+1) _ ⟨hk,k2⟩ (by omega) (by rw[hjt];simp only[codC,List.cons_append,List.nil_append];simp(maxSteps:=9^9)(disch:=first|(intros;contradiction)|omega)only[go_sem]<;>rfl)
      ·rw[if_neg hz]at k2;rw[if_neg (by rw[k2];exact hz),k2]
       cases k with
       | zero=>
        have hlt0:(0:Int)<((m.funcs.map Cd1.row).length:Int):=by omega
        simp only[jtP,List.cons_append,List.nil_append];simp(maxSteps:=9^9)(disch:=first|(intros;contradiction)|omega)only[go_sem,hlt0,hr,hce,hz]
       | succ k=>
        simp only[jtP,codC,List.cons_append,List.nil_append];simp(maxSteps:=9^9)(disch:=first|(intros;contradiction)|omega)only[go_sem,hlt,hr,hce,hz]
     ·have hlt:¬(k:Int)<((m.funcs.map Cd1.row).length:Int):=by omega
      rw[List.drop_eq_nil_of_le (by omega)]at k2
      have k2:firstP (codeP m) m.funcs=0:=k2
      rw[if_pos k2];have hfx:=func_e hx.toTX m (by omega) [109,97,105,110]
      have hu1:=unless_e hx.toTX true 9
      have hu2:=unless_e hx.toTX false 9
      simp only[Md1.av,Md1.sr,Md1.fr]at hfx;have hmain:∀ (jt:List AV),jt.length=8→True:=fun _ _=>trivial
      clear hmain ih;by_cases q1:0≤funcIx m [109,97,105,110]
      ·have hat:=funcIx_at q1
       have hr:=map_at (f:=Cd1.row) hat
       have e:mainP m=unlessP (decide (m.funcs[(funcIx m [109,97,105,110]).toNat].params=0)&&!m.funcs[(funcIx m [109,97,105,110]).toNat].ret.t.ptr) 9:=by
        unfold mainP;rw[List.getElem?_eq_getElem hat,decide_eq_true q1];rfl
       rw[e];generalize m.funcs[(funcIx m [109,97,105,110]).toNat]=c at hr ⊢;simp only[Cd1.row]at hr
       have hjt:∃ a1 a2 a3 a4 a5 a6 a7 a8,jtP m k=[a1,a2,a3,a4,a5,a6,a7,a8]:=by
        cases k with
        | zero=>exact⟨_,_,_,_,_,_,_,_,rfl⟩
        | succ k=>exact⟨_,_,_,_,_,_,_,_,rfl⟩
       obtain⟨a1,a2,a3,a4,a5,a6,a7,a8,hjt⟩:=hjt
       rw[hjt];simp only[List.cons_append,List.nil_append];by_cases q2:c.params=0
       ·rw[decide_eq_true q2];have q2:=eq_true q2
        cases q3:c.ret.t.ptr with
        | true=>
         rw[q3]at hr;simp(maxSteps:=9^9)(disch:=first|(intros;contradiction)|omega)only[go_sem,hlt,hfx,q1,q2,hr,hu2,Bool.true_and,decide_true]
        | false=>
         rw[q3]at hr;simp(maxSteps:=9^9)(disch:=first|(intros;contradiction)|omega)only[go_sem,hlt,hfx,q1,q2,hr,hu1,Bool.true_and,decide_true]
       ·rw[decide_eq_false q2];simp(maxSteps:=9^9)(disch:=first|(intros;contradiction)|omega)only[go_sem,hlt,hfx,q1,q2,hr,hu2,Bool.false_and,decide_false]
      ·have e:mainP m=unlessP false 9:=by
        unfold mainP;rw[decide_eq_false q1]
        cases m.funcs[(funcIx m [109,97,105,110]).toNat]?<;>rfl
       rw[e]
       have hjt:∃ a1 a2 a3 a4 a5 a6 a7 a8,jtP m k=[a1,a2,a3,a4,a5,a6,a7,a8]:=by
        cases k with
        | zero=>exact⟨_,_,_,_,_,_,_,_,rfl⟩
        | succ k=>exact⟨_,_,_,_,_,_,_,_,rfl⟩
       obtain⟨a1,a2,a3,a4,a5,a6,a7,a8,hjt⟩:=hjt
       rw[hjt];simp only[List.cons_append,List.nil_append];simp(maxSteps:=9^9)(disch:=first|(intros;contradiction)|omega)only[go_sem,hlt,hfx,q1,hu2]
    ·have h3':=g3 i hi
     have e:rightP m=5:=by
      unfold rightP;rw[if_neg (by omega),h3,if_neg (by decide),if_pos]
      ·rw[List.all_eq_false]
       cases hti:(typesL m)[i]? with
       | none=>rw[hti]at hc;cases hc
       | some t=>
        rw[hti]at hc;simp at hc;exact⟨t,List.mem_of_getElem? hti,by simp[hc]⟩
     rw[e];simp(maxSteps:=9^9)(disch:=first|(intros;contradiction)|omega)only[go_sem,h3']
end Go.Proofs.YticliodhjfednaaGreat
