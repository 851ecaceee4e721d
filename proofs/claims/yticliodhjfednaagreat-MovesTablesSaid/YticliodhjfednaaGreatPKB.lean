/- Moves: Of, Gone; what a table says, by the document's states; Moves: the laws about tables begin with an empty region; Law 23: MovesTables answers true; MovesTables answers true for all arguments, and leaves them as they read. Conditions: none. -/
import Derived.Test.YticliodhjfednaaGreatPK2
import Derived.Test.YticliodhjfednaaGreatR8
import Derived.Test.YticliodhjfednaaGreatRows
import Derived.Test.YticliodhjfednaaGreatAbX4
set_option linter.unusedSimpArgs false
set_option linter.unusedVariables false
namespace Go.Proofs.YticliodhjfednaaGreat
open Go Go.Ab
variable {ext:Sem'}
theorem rch_can{c:Cd1}{v k:Nat}{b:Bool}(h:Can c v k b):Rch c k:=by
 induction h with
 | zero=>exact .zero
 | step h hi hy ih=>exact .step ih hi hy
theorem there_iff{c:Cd1}(h0:Cd0 c){V:Val}(hr:Rv c V)(hf:Fix c V){k v:Nat}(hk:k<c.ins.length)(hv:v<c.vars.length):(thereT c V k v=true↔Rch c k∧¬Can c v k false)∧(perT c V k v=true↔Can c v k true):=by
 obtain⟨t1,t2⟩:=tab_says h0 hr hf k
 have hw:c.vars.length≤64*wOf c:=by unfold wOf;omega
 unfold thereT perT inT;rw[if_pos ⟨by omega,by omega,by omega,by omega⟩,Int.toNat_natCast]
 have hkV:k<V.length:=by rw[(rv_len hr).1];exact hk
 have hcan:∀ b,Can c v k b→Rch c k:=fun b h=>rch_can h
 cases hz:V[k]? with
 | none=>rw[List.getElem?_eq_getElem hkV]at hz;cases hz
 | some z=>
  cases z with
  | none=>
   have hnr:¬Rch c k:=fun h=>by
    obtain⟨x,hx⟩:=t1.2 h
    rw[hz]at hx
    cases hx
   simp only[Option.getD_some,Bool.false_eq_true,false_iff];exact⟨fun h=>hnr h.1,fun h=>hnr (hcan _ h)⟩
  | some x=>
   simp only[Option.getD_some,Int.toNat_natCast];obtain⟨s1,s2⟩:=t2 x hz v (by omega)
   have hrc:=t1.1 ⟨x,hz⟩
   refine⟨?_,s1⟩
   rw[←s2];simp[hrc]
theorem tab_bb{c:Cd1}(h0:Cd0 c){V:Val}(hr:Rv c V)(hf:Fix c V){T:List (List Bb)}(hT:TbOk c T){k v:Nat}(hk:k<c.ins.length)(hv:v<c.vars.length){l:List Bb}{x:Bb}(hl:T[v]?=some l)(hx:l[k]?=some x) :
  thereT c V k v=decide ((bbN x:Int)=1)∧perT c V k v=x.1∧(x=(true,true)↔perT c V k v=true∧thereT c V k v=false):=by
 obtain⟨h1,h2⟩:=there_iff h0 hr hf hk hv
 have hs:=(hT.ok v l hl).says k x hx
 have s1:=hs true
 have s2:=hs false
 have hex:Rch c k→∃ b,Can c v k b:=can_ex
 have e1:perT c V k v=x.1:=by
  rw[Bool.eq_iff_iff,h2,←s1];rfl
 have e2:thereT c V k v=decide ((bbN x:Int)=1):=by
  rw[Bool.eq_iff_iff,h1,←s2];rcases x with⟨_|_,_|_⟩
  ·simp[bbH,bbN];intro hrc;obtain⟨b,hb⟩:=hex hrc
   have:=(hs b).2 hb
   cases b<;>simp[bbH]at this
  ·simp[bbH,bbN]
  ·simp[bbH,bbN];exact rch_can (s1.1 rfl)
  ·simp[bbH,bbN]
 refine⟨e2,e1,?_⟩
 rw[e1,e2];rcases x with⟨_|_,_|_⟩<;>simp[bbN]
theorem mof_e(hx:TLF ext)(m:Md1)(hm:LightM m)(hnm:∀ s,s∈m.structs→∀ f,f∈s.fields→f.name.length≤9223372036854775807)(R:List Rw)(f:Nat){c:Cd1}(hc:m.funcs[f]?=some c)(h1:formedP m=0) :
  ∃ R' E P V,Rel (wOf c) c.ins.length R' E P V∧Rv c V∧Fix c V∧G ext 9 [m.av,.d (.int .i64 f)] [.reg (rgB R)]=some (.ret (.ptr 1 0),tbH R' c c.ins.length (wOf c) E P):=by
 have hck:=cd_ok hx.toTX hm h1 (List.mem_of_getElem? hc)
 obtain⟨R',E,P,V,rel,rv,fix,hof⟩:=of1_e hx.tf c hck R
 refine⟨R',E,P,V,rel,rv,fix,?_⟩
 have hfo:=bformed_e hx.toTM m hm hnm
 have hr:(m.funcs.map Cd1.row)[f]?=some c.row:=by rw[List.getElem?_map,hc];rfl
 have hfl:=(List.getElem?_eq_some_iff.1 hc).1
 have hcl:(m.funcs.map Cd1.row).length=m.funcs.length:=List.length_map _
 have hf0:0≤(f:Int):=by omega
 have hf1:(f:Int)<(m.funcs.length:Int):=by omega
 have hf2:¬(f:Int)<0:=by omega
 have hf3:¬(m.funcs.length:Int)≤(f:Int):=by omega
 rw[h1]at hfo;rw[G_body hx.clear rfl Tryz.func9 rfl Tryz.results9 hv_9 rfl];simp only[Md1.av,Md1.fr,tbH,tbC,Cd1.av]at hfo hof ⊢;simp only[Cd1.row]at hr;simp(maxSteps:=9^9)(disch:=first|(intros;contradiction)|omega)only[go_sem,hfo,hcl,hf2,hf3,hf0,hf1,hr,hof,Bool.true_or]
theorem mof_nil(hx:TLF ext)(m:Md1)(hm:LightM m)(hnm:∀ s,s∈m.structs→∀ f,f∈s.fields→f.name.length≤9223372036854775807)(R:List Rw)(f:Int)(h:¬(formedP m=0∧0≤f∧f<m.funcs.length)) :
  G ext 9 [m.av,.d (.int .i64 f)] [.reg (rgB R)]=some (.ret (.d .nilp),[.reg (rgB R)]):=by
 have hfo:=bformed_e hx.toTM m hm hnm
 have hcl:(m.funcs.map Cd1.row).length=m.funcs.length:=List.length_map _
 rw[G_body hx.clear rfl Tryz.func9 rfl Tryz.results9 hv_9 rfl];simp only[Md1.av,Md1.fr]at hfo ⊢;by_cases h1:formedP m=0
 ·rw[h1]at hfo;by_cases h2:0≤f
  ·have h3:¬f<(m.funcs.length:Int):=fun q=>h ⟨h1,h2,q⟩
   have h2':¬f<0:=by omega
   have h3':(m.funcs.length:Int)≤f:=by omega
   simp(maxSteps:=9^9)(disch:=first|(intros;contradiction)|omega)only[go_sem,hfo,hcl,h2',h3',h3]
  ·have h2':f<0:=by omega
   simp(maxSteps:=9^9)(disch:=first|(intros;contradiction)|omega)only[go_sem,hfo,hcl,h2']
 ·have h1:=eq_false h1
  simp(maxSteps:=9^9)(disch:=first|(intros;contradiction)|omega)only[go_sem,hfo,h1]
def goneL(c:Cd1)(V:Val)(k:Int):Nat→List Int
 | 0=>[]
 | n+1=>goneL c V k n++if perT c V k n&&!thereT c V k n then [(n:Int)]else []
theorem gone_e(hx:TX ext){c:Cd1}{R:List Rw}{E P:List (Option Nat)}{V:Val}(hn:c.ins.length≤100000)(hv:c.vars.length≤60000)(hr:Rel (wOf c) c.ins.length R E P V)(k:Int) :
  G ext 13 [.ptr 1 0,.d (.int .i64 k)] (tbH R c c.ins.length (wOf c) E P)=some (.ret (.d (ints (goneL c V k c.vars.length))),tbH R c c.ins.length (wOf c) E P):=by
 have hvl:(c.vars.map Vr1.row).length=c.vars.length:=List.length_map _
 have hth:=fun v=>there_e2 hx hn hv hr k v
 have hpe:=fun v=>per_e2 hx hn hv hr k v
 rw[G_body hx.clear rfl Tryz.func13 rfl Tryz.results13 hv_13 rfl];simp only[tbH,tbC]at hth hpe ⊢;simp(maxSteps:=9^9)(disch:=first|(intros;contradiction)|omega)only[go_sem]
 generalize hL:loopA _ _ _=L;apply range_upd hL (by simp(maxSteps:=9^9)(disch:=first|(intros;contradiction)|omega)only[go_sem]<;>rfl) c.vars Vr1.row (α:=List Int×Nat) (fun rest q a=>a.1=goneL c V k q∧a.1.length≤q) (fun q a=>[(4,.grow 4 a.2 (a.1.map rowI)),(14,.d (.int .i64 (q:Int)))]) (fun _ a=>[(4,.grow a.2 1)]) ([],0) (by simp(maxSteps:=9^9)(disch:=first|(intros;contradiction)|omega)only[go_sem]<;>rfl) ⟨rfl,Nat.le_refl _⟩ ?_ ?_
 ·rintro x rest q ⟨acc,e⟩ ⟨q1,q2⟩ hlt3 hr3 hget hq hrest next ih
  clear hL;simp only at q1 q2 ih ⊢
  have hp:=hpe q
  have ht:=hth q
  clear hpe hth
  cases hb1:perT c V k q with
  | false=>
   rw[hb1]at hp;simp(maxSteps:=9^9)(disch:=first|(intros;contradiction)|omega)only[go_sem,hlt3,hp,wrap64]
   exact ih (acc,e) _ ⟨by simp only[goneL,hb1];simp[q1],by simp only;omega⟩ (by simp(maxSteps:=9^9)(disch:=first|(intros;contradiction)|omega)only[go_sem]<;>rfl)
  | true=>
   rw[hb1]at hp
   cases hb2:thereT c V k q with
   | true=>
    rw[hb2]at ht;simp(maxSteps:=9^9)(disch:=first|(intros;contradiction)|omega)only[go_sem,hlt3,hp,ht,wrap64]
    exact ih (acc,e) _ ⟨by simp only[goneL,hb1,hb2];simp[q1],by simp only;omega⟩ (by simp(maxSteps:=9^9)(disch:=first|(intros;contradiction)|omega)only[go_sem]<;>rfl)
   | false=>
    rw[hb2]at ht;have hal:(acc.map rowI).length=acc.length:=List.length_map _
    have hrm:room ((acc.map rowI).length+1) 8:=by unfold room;simp;omega
    have hf1:fits 1 (acc.map rowI):=by intro row h;obtain⟨x,_,rfl⟩:=List.mem_map.1 h;rfl
    have hap:acc.map rowI++[[Dt.int .i64 (q:Int)]]=(acc++[(q:Int)]).map rowI:=by simp[rowI]
    simp(maxSteps:=9^9)(disch:=first|(intros;contradiction)|omega)only[go_sem,hlt3,hp,ht,hrm,hf1,hap,wrap64]
    exact ih (acc++[(q:Int)],e+1) _ ⟨by simp only[goneL,hb1,hb2];simp[q1],by simp;omega⟩ (by simp(maxSteps:=9^9)(disch:=first|(intros;contradiction)|omega)only[go_sem]<;>rfl)
 ·rintro q ⟨acc,e⟩ ⟨q1,q2⟩ hlt3 hq next
  clear hL hpe hth;simp only at q1 q2 ⊢
  subst hq;rw[←q1];have hii:ints acc=.sl (acc.map rowI):=rfl
  simp(maxSteps:=9^9)(disch:=first|(intros;contradiction)|omega)only[go_sem,hlt3,hii]
theorem nums05_e(hx:TX ext)(a b:List Int)(hl:a.length≤1000000):G ext 15 [.d (.sl (a.map rowI)),.d (.sl (b.map rowI))] []=some (.ret (.d (.bool (decide (a=b)))),[]):=by
 have hal:(a.map rowI).length=a.length:=List.length_map _
 have hbl:(b.map rowI).length=b.length:=List.length_map _
 rw[G_body hx.clear rfl Tryz.func15 rfl Tryz.results15 hv_15 rfl];by_cases h:((a.map rowI).length:Int)=((b.map rowI).length:Int)
 ·have h':=eq_true h
  simp(maxSteps:=9^9)(disch:=first|(intros;contradiction)|omega)only[go_sem,h']
  generalize hL:loopA _ _ _=L;apply range_upd hL (by simp(maxSteps:=9^9)(disch:=first|(intros;contradiction)|omega)only[go_sem]<;>rfl) a rowI (α:=Unit) (fun rest k _=>a.take k=b.take k) (fun k _=>[(5,.d (.int .i64 k))]) (fun _ _=>[]) () (by simp(maxSteps:=9^9)(disch:=first|(intros;contradiction)|omega)only[go_sem]<;>rfl) rfl ?_ ?_
  ·intro x rest k _ hi hlt hr hxx hk _ next ih;clear hL;have hkb:k<b.length:=by omega
   have hrb:=map_at (f:=rowI) hkb
   have htb:=List.take_succ_eq_append_getElem hkb
   have hta:=List.take_succ_eq_append_getElem hk
   have hgb:=List.getElem?_eq_getElem hkb
   generalize b[k]=y at hrb htb hgb;have hxa:a[k]=x:=by rw[List.getElem?_eq_getElem hk]at hxx;simpa using hxx
   rw[hxa]at hta;simp only[rowI]at hr hrb;by_cases hxy:x=y
   ·have e:=eq_true hxy
    simp(maxSteps:=9^9)(disch:=first|(intros;contradiction)|omega)only[go_sem,hlt,hr,hrb,e,wrap64]
    exact ih () _ (by rw[hta,htb,hi,hxy]) (by simp(maxSteps:=9^9)(disch:=first|(intros;contradiction)|omega)only[go_sem]<;>rfl)
   ·have hne:¬a=b:=by
     intro e;rw[e,hgb]at hxx;exact hxy (by simpa using hxx.symm)
    rw[decide_eq_false hne];simp(maxSteps:=9^9)(disch:=first|(intros;contradiction)|omega)only[go_sem,hlt,hr,hrb,hxy,wrap64]
  ·intro k _ hi hlt hk next;clear hL
   have e:a=b:=by
    have h1:=List.take_of_length_le (show a.length≤k by omega)
    have h2:=List.take_of_length_le (show b.length≤k by omega)
    rw[←h1,hi,h2]
   rw[decide_eq_true e];simp(maxSteps:=9^9)(disch:=first|(intros;contradiction)|omega)only[go_sem,hlt]
 ·have hne:¬a=b:=by intro e;rw[e]at h;exact h rfl
  rw[decide_eq_false hne];simp(maxSteps:=9^9)(disch:=first|(intros;contradiction)|omega)only[go_sem,h]
theorem right23_e(hx:TX ext)(m:Md1)(hm:LightM m)(f:Int):G ext 10 [m.av,.d (.int .i64 f)] []=some (.ret (.d (.bool (decide (formedP m=0∧0≤f∧f<m.funcs.length)))),[]):=by
 have hcl:(m.funcs.map Cd1.row).length=m.funcs.length:=List.length_map _
 have hfo:=rformed_e hx m hm
 rw[G_body hx.clear rfl Tryz.func10 rfl Tryz.results10 hv_10 rfl];simp only[Md1.av,Md1.fr]at hfo ⊢;by_cases h1:formedP m=0
 ·rw[h1]at hfo;by_cases h2:0≤f
  ·by_cases h3:f<(m.funcs.length:Int)
   ·rw[decide_eq_true ⟨h1,h2,h3⟩];simp(maxSteps:=9^9)(disch:=first|(intros;contradiction)|omega)only[go_sem,hfo,hcl,h2,h3]
   ·rw[decide_eq_false (fun q=>h3 q.2.2)]
    simp(maxSteps:=9^9)(disch:=first|(intros;contradiction)|omega)only[go_sem,hfo,hcl,h2,h3]
  ·rw[decide_eq_false (fun q=>h2 q.2.1)]
   simp(maxSteps:=9^9)(disch:=first|(intros;contradiction)|omega)only[go_sem,hfo,hcl,h2]
 ·rw[decide_eq_false (fun q=>h1 q.1)]
  have h1:=eq_false h1
  simp(maxSteps:=9^9)(disch:=first|(intros;contradiction)|omega)only[go_sem,hfo,h1]
end Go.Proofs.YticliodhjfednaaGreat
namespace Go.Proofs.YticliodhjfednaaGreat
open Go Go.Ab
noncomputable def extD:Sem':=fun f as0 H=>if f=6∨f=3 then dropR (G extL) f as0 H else extL f as0 H
theorem extD_ok:Sound Tryz.prog extD:=by
 intro f as0 H out H' h;unfold extD at h;split at h
 ·exact dropR_ok rfl (G_ok extL_ok) f as0 H out H' h
 ·exact extL_ok f as0 H out H' h
theorem extL_none(f:Nat)(hf:f=6∨f=3):∀ xs H,extL f xs H=none:=by
 intro xs H;have h0:extL f xs H=extF f xs H:=if_neg (by rcases hf with rfl|rfl<;>decide)
 rw[h0];unfold extF;rw[if_neg (by rcases hf with rfl|rfl<;>decide)]
 unfold extF0;rw[if_neg (by rcases hf with rfl|rfl<;>decide),if_neg (by rcases hf with rfl|rfl<;>decide),if_neg (by rcases hf with rfl|rfl<;>decide),if_neg (by rcases hf with rfl|rfl<;>decide)]
end Go.Proofs.YticliodhjfednaaGreat
namespace Go.Proofs.YticliodhjfednaaGreat
open Go Go.Ab
variable {ext:Sem'}
set_option maxHeartbeats 8000000 in
theorem mtables_e(hx:TLF ext)(he:∀ xs H,ext 3 xs H=none)(m:Md1)(f:Int)(hnm:∀ s,s∈m.structs→∀ f,f∈s.fields→f.name.length≤9223372036854775807) :
  ∃ H',G ext 3 [m.av,.d (.int .i64 f)] [.reg (rgB [])]=some (.ret (.d (.bool true)),H'):=by
 obtain⟨b,hb,hb2⟩:=l17_e hx.toTX m hnm
 have ha:=malive_e hx.toTL
 suffices hs:∃ r,G ext 3 [m.av,.d (.int .i64 f)] [.reg (rgB [])]=r∧∃ H',r=some (.ret (.d (.bool true)),H')by
  obtain⟨r,h1,H',h2⟩:=hs
  exact⟨H',h1.trans h2⟩
 refine⟨_,rfl,?_⟩
 cases b with
 | false=>
  rw[G_bodyF (he _ _) Tryz.func3 rfl Tryz.results3 hv_3 rfl];simp only[Md1.av,Md1.sr,Md1.fr]at hb ⊢;simp(maxSteps:=9^9)(disch:=first|(intros;contradiction)|omega)only[go_sem,hb,ha]
  exact⟨_,rfl⟩
 | true=>
  obtain⟨hm,_⟩:=hb2 rfl
  have hrt:=right23_e hx.toTX m hm f
  by_cases h1:formedP m=0∧0≤f∧f<m.funcs.length
  ·rw[decide_eq_true h1]at hrt;obtain⟨h1,h2,h3⟩:=h1
   obtain⟨fn,rfl⟩:∃ fn:Nat,f=(fn:Int):=⟨f.toNat,by omega⟩
   have hfn:fn<m.funcs.length:=by omega
   obtain⟨c,hc⟩:∃ c,m.funcs[fn]?=some c:=⟨m.funcs[fn],List.getElem?_eq_getElem hfn⟩
   have hmem:=List.mem_of_getElem? hc
   obtain⟨R',E,P,V,rel,rv,fix,hof⟩:=mof_e hx m hm hnm [] fn hc h1
   have hck:=ckr_ok hx.toTX hm h1 hmem
   have h0:=hck.toCkF.cd0
   obtain⟨T,hT,htb⟩:=table_e hx.tf c hck
   have hr:(m.funcs.map Cd1.row)[fn]?=some c.row:=by rw[List.getElem?_map,hc];rfl
   have hcl:(m.funcs.map Cd1.row).length=m.funcs.length:=List.length_map _
   have hil:(c.ins.map In1.row).length=c.ins.length:=List.length_map _
   have hvl:(c.vars.map Vr1.row).length=c.vars.length:=List.length_map _
   have hf0:0≤(fn:Int):=by omega
   have hnl:=hck.nl
   have hv6:=hck.v
   rw[G_bodyF (he _ _) Tryz.func3 rfl Tryz.results3 hv_3 rfl];simp only[Cd1.row]at hr;simp only[Md1.av,Md1.sr,Md1.fr,Cd1.av,tbH,tbC]at hb hrt hof htb ⊢;simp(maxSteps:=9^9)(disch:=first|(intros;contradiction)|omega)only[go_sem,hb,hrt,hof,hcl,hf0,h3,hr,htb]
   generalize hL:loopA _ _ _=L;have hTl:(T.map rowTb).length=c.vars.length:=by rw[List.length_map,hT.len]
   apply range_upd hL (by simp(maxSteps:=9^9)(disch:=first|(intros;contradiction)|omega)only[go_sem]<;>rfl) c.ins In1.row (α:=Unit) (fun _ _ _=>True) (fun q _=>[(8,.d (.int .i64 (q:Int)))]) (fun _ _=>[]) () (by simp(maxSteps:=9^9)(disch:=first|(intros;contradiction)|omega)only[go_sem]<;>rfl) trivial ?_ ?_
   ·rintro i rest q _ _ hlt2 hr2 hget2 hq _ next ih
    clear hL hb hrt hof htb hr;have hth:=fun v=>there_e2 hx.toTX hnl hv6 rel q v
    have hpe:=fun v=>per_e2 hx.toTX hnl hv6 rel q v
    have hgo:=gone_e hx.toTX hnl hv6 rel q
    simp only[tbH,tbC]at hth hpe hgo;have hlt2':(q:Int)<(c.ins.length:Int):=by omega
    have hq0:0≤(q:Int):=by omega
    simp(maxSteps:=9^9)(disch:=first|(intros;contradiction)|omega)only[go_sem,hil,hlt2',hq0]
    generalize hL:loopA _ _ _=L;apply range_upd hL (by simp(maxSteps:=9^9)(disch:=first|(intros;contradiction)|omega)only[go_sem]<;>rfl) c.vars Vr1.row (α:=List Int×Nat) (fun rest v a=>a.1=goneL c V q v∧a.1.length≤v) (fun v a=>[(9,.grow 6 a.2 (a.1.map rowI)),(10,.d (.int .i64 (v:Int)))]) (fun _ a=>[(6,.grow a.2 1)]) ([],0) (by simp(maxSteps:=9^9)(disch:=first|(intros;contradiction)|omega)only[go_sem]<;>rfl) ⟨rfl,Nat.le_refl _⟩ ?_ ?_
    ·rintro x0 rest3 v ⟨acc,e⟩ ⟨q1,q2⟩ hlt4 hr4 hget4 hv4 _ next4 ih4
     clear hL ih hgo;simp only at q1 q2 ih4 ⊢
     have hvt:=hth v
     have hvp:=hpe v
     clear hth hpe;have hvT:v<T.length:=by rw[hT.len];exact hv4
     have hl:=hT.ok v _ (List.getElem?_eq_getElem hvT)
     have hTr:(T.map rowTb)[v]?=some [.sl (T[v].map rowX)]:=by rw[List.getElem?_map,List.getElem?_eq_getElem hvT];rfl
     obtain⟨x,hx0⟩:∃ x,T[v][q]?=some x:=⟨T[v][q]'(by rw[hl.len];exact hq),List.getElem?_eq_getElem _⟩
     obtain⟨y1,y2,y3⟩:=tab_bb h0 rv fix hT hq hv4 (List.getElem?_eq_getElem hvT) hx0
     have hxr:(T[v].map rowX)[q]?=some [.int .i64 (bbN x:Int)]:=by rw[List.getElem?_map,hx0];rfl
     have hTvl:(T[v].map rowX).length=c.ins.length:=by rw[List.length_map,hl.len]
     have hgl:goneL c V q (v+1)=goneL c V q v++if perT c V q v&&!thereT c V q v then [(v:Int)]else []:=rfl
     rw[y1]at hvt hgl;rw[y2]at hvp hgl;generalize T[v]=l at hTr hxr hTvl;have hlv:(v:Int)<(c.vars.length:Int):=by omega
     have hv0:0≤(v:Int):=by omega
     have hal:(acc.map rowI).length=acc.length:=List.length_map _
     have hrm:room ((acc.map rowI).length+1) 8:=by unfold room;simp;omega
     have hf1:fits 1 (acc.map rowI):=by intro row h;obtain⟨x,_,rfl⟩:=List.mem_map.1 h;rfl
     have hap:acc.map rowI++[[Dt.int .i64 (v:Int)]]=(acc++[(v:Int)]).map rowI:=by simp[rowI]
     have a0:andI .i64 0 1=0:=by decide
     have a1:andI .i64 1 1=1:=by decide
     have a2:andI .i64 2 1=0:=by decide
     have a3:andI .i64 3 1=1:=by decide
     clear y1 y2 y3 hl hx0;rcases x with⟨_|_,_|_⟩
     ·rw[show((bbN (false,false):Nat):Int)=0 from rfl]at hvt hgl hxr
      rw[show decide ((0:Int)=1)=false from rfl]at hvt hgl
      simp(maxSteps:=9^9)(disch:=first|(intros;contradiction)|omega)only[go_sem,hvl,hil,hlv,hv0,hlt2',hq0,hTl,hTr,hTvl,hxr,hvt,hvp,a0,wrap64]
      exact ih4 (acc,e) _ ⟨by rw[hgl];simpa using q1,by simp only;omega⟩ (by simp(maxSteps:=9^9)(disch:=first|(intros;contradiction)|omega)only[go_sem]<;>rfl)
     ·rw[show((bbN (false,true):Nat):Int)=2 from rfl]at hvt hgl hxr
      rw[show decide ((2:Int)=1)=false from rfl]at hvt hgl
      simp(maxSteps:=9^9)(disch:=first|(intros;contradiction)|omega)only[go_sem,hvl,hil,hlv,hv0,hlt2',hq0,hTl,hTr,hTvl,hxr,hvt,hvp,a2,wrap64]
      exact ih4 (acc,e) _ ⟨by rw[hgl];simpa using q1,by simp only;omega⟩ (by simp(maxSteps:=9^9)(disch:=first|(intros;contradiction)|omega)only[go_sem]<;>rfl)
     ·rw[show((bbN (true,false):Nat):Int)=1 from rfl]at hvt hgl hxr
      rw[show decide ((1:Int)=1)=true from rfl]at hvt hgl
      simp(maxSteps:=9^9)(disch:=first|(intros;contradiction)|omega)only[go_sem,hvl,hil,hlv,hv0,hlt2',hq0,hTl,hTr,hTvl,hxr,hvt,hvp,a1,wrap64]
      exact ih4 (acc,e) _ ⟨by rw[hgl];simpa using q1,by simp only;omega⟩ (by simp(maxSteps:=9^9)(disch:=first|(intros;contradiction)|omega)only[go_sem]<;>rfl)
     ·rw[show((bbN (true,true):Nat):Int)=3 from rfl]at hvt hgl hxr
      rw[show decide ((3:Int)=1)=false from rfl]at hvt hgl
      simp(maxSteps:=9^9)(disch:=first|(intros;contradiction)|omega)only[go_sem,hvl,hil,hlv,hv0,hlt2',hq0,hTl,hTr,hTvl,hxr,hvt,hvp,a3,hrm,hf1,hap,wrap64]
      exact ih4 (acc++[(v:Int)],e+1) _ ⟨by rw[hgl,←q1];simp,by simp;omega⟩ (by simp(maxSteps:=9^9)(disch:=first|(intros;contradiction)|omega)only[go_sem]<;>rfl)
    ·rintro v ⟨acc,e⟩ ⟨q1,q2⟩ hlt4 hv4 next4
     clear hL hth hpe;simp only at q1 q2 ⊢
     subst hv4;have hlv:¬(c.vars.length:Int)<(c.vars.length:Int):=by omega
     have hnu:=nums05_e hx.toTX (goneL c V q c.vars.length) acc (by rw[←q1];omega)
     rw[decide_eq_true q1.symm]at hnu;rw[show ints (goneL c V q c.vars.length)=.sl ((goneL c V q c.vars.length).map rowI)from rfl]at hgo
     simp(maxSteps:=9^9)(disch:=first|(intros;contradiction)|omega)only[go_sem,hvl,hlv,hgo,hnu,wrap64]
     exact ih () _ trivial (by simp(maxSteps:=9^9)(disch:=first|(intros;contradiction)|omega)only[go_sem]<;>rfl)
   ·rintro q _ _ hlt2 hq next
    clear hL hb hrt hof htb hr;have hlt2':¬(q:Int)<(c.ins.length:Int):=by omega
    have t1:=there_e2 hx.toTX hnl hv6 rel (-1) 0
    have t2:=there_e2 hx.toTX hnl hv6 rel c.ins.length 0
    have t3:=per_e2 hx.toTX hnl hv6 rel 0 c.vars.length
    have t4:=there_e2 hx.toTX hnl hv6 rel 0 (-1)
    have u1:thereT c V (-1) 0=false:=by unfold thereT inT;rw[if_neg (by omega)]
    have u2:thereT c V c.ins.length 0=false:=by unfold thereT inT;rw[if_neg (by omega)]
    have u3:perT c V 0 c.vars.length=false:=by unfold perT inT;rw[if_neg (by omega)]
    have u4:thereT c V 0 (-1)=false:=by unfold thereT inT;rw[if_neg (by omega)]
    rw[u1]at t1;rw[u2]at t2;rw[u3]at t3;rw[u4]at t4;simp only[tbH,tbC]at t1 t2 t3 t4;simp(maxSteps:=9^9)(disch:=first|(intros;contradiction)|omega)only[go_sem,hil,hvl,hlt2',ha,t1,t2,t3,t4]
    exact⟨_,rfl⟩
  ·rw[decide_eq_false h1]at hrt;have hof:=mof_nil hx m hm hnm [] f h1
   have n1:=there_nil hx.toTX [] 0 0
   have n2:=per_nil hx.toTX [] 0 0
   have n3:=gone_nil hx.toTX [] 0
   rw[G_bodyF (he _ _) Tryz.func3 rfl Tryz.results3 hv_3 rfl];simp only[Md1.av,Md1.sr,Md1.fr]at hb hrt hof ⊢;simp(maxSteps:=9^9)(disch:=first|(intros;contradiction)|omega)only[go_sem,hb,hrt,hof,ha,n1,n2,n3]
   exact⟨_,rfl⟩
end Go.Proofs.YticliodhjfednaaGreat
namespace Go.Proofs.YticliodhjfednaaGreat
open Go Go.Ab Go.ChangeShapes Go.WideShapes Go.ChangeAt Go.RowKit
theorem tables_d(m:Md1)(f:Int)(hnm:∀ s,s∈m.structs→∀ f,f∈s.fields→f.name.length≤9223372036854775807):G extD 3 [m.av,.d (.int .i64 f)] []=some (.ret (.d (.bool true)),[]):=by
 refine G_ext ?_
 unfold extD;rw[if_pos (.inr rfl)];obtain⟨H',h⟩:=mtables_e extL_tlf (extL_none _ (.inr rfl)) m f hnm
 show dropK (G extL 3 _ [.reg []])=_
 rw[show(AObj.reg [])=.reg (rgB [])from rfl,h]
 exact drop_plain ⟨rfl,rfl⟩
theorem movesTables_own:ownKnob Tryz.prog.godebug=none:=by kernel_rfl
theorem movesTables_laidOut:laidOutB Tryz.prog=true:=by kernel_rfl
theorem movesTables_reads{l:List AV}(h:Reads [modT,.int .i64] l):G extD 3 l []=some (.ret (.d (.bool true)),[]):=by
 obtain⟨x0,l0,h0,rfl,x1,l1,h1,rfl,rfl⟩:=h
 obtain⟨m,e,hm⟩:=mod_wf h0
 obtain⟨f,e1,_⟩:=int_arg h1
 rw[e,e1];exact tables_d m f hm.names
set_option maxRecDepth 100000 in
theorem movesTables_lifted(os:Os)(started:os.Started)(H:Type)(enc:TypeId×Value→H) :
  ReturnsInHanded {} Tryz.checked os 3 .any (Rows.movesTablesSpec.pre6 enc Tryz.prog Tryz.f3 Rows.movesTablesRow.domain false) (Rows.movesTablesSpec.post enc Tryz.prog Tryz.f3 false true false false):=by
 refine returnsInHanded_of_change (C:=Tryz.checked) movesTables_own started (by kernel_rfl) Tryz.func3
  (ChangeSpec.witness6 (enc:=enc) (C:=Tryz.checked) false ⟨#[],#[.agg ⟨[.slice none 0 0,.slice none 0 0]⟩,.int .i64 0],[]⟩ 8 (by kernel_rfl) (by kernel_rfl) (by kernel_rfl) (by kernel_rfl)) ?_
 intro W base args ds gs before hval hW _ _;refine law_contract movesTables_laidOut (G_ok extD_ok) (Ts:=[modT,.int .i64]) (by rw[Tryz.params3];kernel_rfl) rfl ?_ (by kernel_rfl) Tryz.underlying4 (by rw[Tryz.params3];decide +kernel) (fun l hl=>movesTables_reads hl) W base args ds gs before hval hW
 intro ds hl;match ds,hl with
 | [d0,d1],_=>exact⟨rfl,rfl,rfl⟩
theorem movesTables_holds:Rows.MovesTablesSaid:=
 OpenClaim.holds_of_wide 3 Tryz.f3 rfl rfl rfl rfl rfl rfl rfl ⟨rfl,rfl,rfl,rfl,rfl⟩ rfl rfl rfl rfl rfl (by kernel_rfl) Tryz.func3 (by kernel_rfl)
  (of_decide_eq_true (by kernel_rfl)) (by unfold Func.isWrapper;first|(rw[if_pos (by decide +kernel)];kernel_rfl)|(rw[if_neg (by decide +kernel)];exact⟨rfl,rfl⟩))
  (fun os started H enc _=>movesTables_lifted os started H enc)
end Go.Proofs.YticliodhjfednaaGreat
