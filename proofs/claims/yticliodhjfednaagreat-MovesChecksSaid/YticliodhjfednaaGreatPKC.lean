/- The document's Check of bltype, and of moves; Law 23: MovesChecks answers true; MovesChecks answers true for all arguments, and leaves them as they read. Conditions: none. -/
import Derived.Test.YticliodhjfednaaGreatH3
import Derived.Test.YticliodhjfednaaGreatPK2
import Derived.Test.YticliodhjfednaaGreatRows
import Derived.Test.YticliodhjfednaaGreatAbX4
set_option linter.unusedSimpArgs false
set_option linter.unusedVariables false
namespace Go.Proofs.YticliodhjfednaaGreat
open Go Go.Ab
variable {ext:Sem'}
set_option maxHeartbeats 4000000 in
theorem rcheck22_e(hx:TX ext)(m:Md1)(hm:LightM m):G ext 33 [m.av] []=some (.ret (checkA m),[]):=by
 have hcl:(m.funcs.map Cd1.row).length=m.funcs.length:=List.length_map _
 have hf70:=hm.funcs
 have hfo:=rformed_e hx m hm
 rw[G_body hx.clear rfl Tryz.func33 rfl Tryz.results33 hv_33 rfl];unfold checkA;simp only[Md1.av,Md1.fr]at hfo ⊢;by_cases h1:formedP m=0
 ·rw[if_pos h1];rw[h1]at hfo;obtain⟨hri,_,hforms⟩:=formedP_zero h1
  obtain⟨_,_,hcodes⟩:=right_codes hri
  simp(maxSteps:=9^9)(disch:=first|(intros;contradiction)|omega)only[go_sem,hfo]
  generalize hL:loopA _ _ _=L;apply range_upd hL (by simp(maxSteps:=9^9)(disch:=first|(intros;contradiction)|omega)only[go_sem]<;>rfl) m.funcs Cd1.row (α:=Unit) (fun rest q _=>badC m m.funcs 0=badC m rest q) (fun q _=>[(4,.d (.int .i64 (q:Int)))]) (fun _ _=>[]) () (by simp(maxSteps:=9^9)(disch:=first|(intros;contradiction)|omega)only[go_sem]<;>rfl) rfl ?_ ?_
  ·rintro c rest f _ q1 hlt hr hget hf _ next ih
   clear hL;have hmem:=List.mem_of_getElem? hget
   simp only[badC]at q1;have hil:(c.ins.map In1.row).length=c.ins.length:=List.length_map _
   have hb:=(hm.vars c hmem).2.1
   have hins:∀ i,i∈c.ins→G ext 62 [m.av,c.av,i.av] []=some (.ret (.d (.bool (tinstrP m c i))),[]):=fun i hi=>rholds_e hx m c i (by have:=(hm.ins c hmem i hi).1;omega) ((code_ins (hcodes c hmem)).2.2.2 i hi) ((formedC_zero (hforms c hmem)).2.2 i hi)
   simp only[Cd1.row]at hr;have hfl:(f:Int)<(m.funcs.length:Int):=by omega
   have hf0:0≤(f:Int):=by omega
   simp(maxSteps:=9^9)(disch:=first|(intros;contradiction)|omega)only[go_sem,hlt,hr,hcl,hfl,hf0]
   generalize hL:loopA _ _ _=L;apply range_upd hL (by simp(maxSteps:=9^9)(disch:=first|(intros;contradiction)|omega)only[go_sem]<;>rfl) c.ins In1.row (α:=Unit) (fun rest2 q _=>badI m c c.ins 0=badI m c rest2 q) (fun q _=>[(5,.d (.int .i64 (q:Int)))]) (fun _ _=>[]) () (by simp(maxSteps:=9^9)(disch:=first|(intros;contradiction)|omega)only[go_sem]<;>rfl) rfl ?_ ?_
   ·rintro i rest2 q _ p1 hlt2 hr2 hget2 hq _ next2 ih2
    clear hL;have hi:=hins i (List.mem_of_getElem? hget2)
    simp only[In1.row]at hr2;simp only[Md1.av,Cd1.av,In1.av,Md1.fr]at hi;simp only[badI]at p1;have hq0:0≤(q:Int):=by omega
    have hql:(q:Int)<(c.ins.length:Int):=by omega
    cases ht:tinstrP m c i with
    | true=>
     rw[ht]at p1 hi;rw[if_pos rfl]at p1;simp(maxSteps:=9^9)(disch:=first|(intros;contradiction)|omega)only[go_sem,hlt,hr,hcl,hfl,hf0,hlt2,hr2,hil,hql,hq0,hi,wrap64]
     exact ih2 () _ p1 (by simp(maxSteps:=9^9)(disch:=first|(intros;contradiction)|omega)only[go_sem]<;>rfl)
    | false=>
     rw[ht]at p1 hi;rw[if_neg (by decide)]at p1
     rw[p1]at q1;rw[q1];simp only[diagA];simp(maxSteps:=9^9)(disch:=first|(intros;contradiction)|omega)only[go_sem,hlt,hr,hcl,hfl,hf0,hlt2,hr2,hil,hql,hq0,hi,wrap64]
     simp
   ·rintro q _ p1 hlt2 hq next2
    clear hL;have p1:badI m c c.ins 0=none:=by rw[p1];rfl
    rw[p1]at q1;have hlt2':¬(q:Int)<(c.ins.length:Int):=by omega
    simp(maxSteps:=9^9)(disch:=first|(intros;contradiction)|omega)only[go_sem,hlt,hr,hcl,hfl,hf0,hlt2',hil,wrap64]
    exact ih () _ q1 (by simp(maxSteps:=9^9)(disch:=first|(intros;contradiction)|omega)only[go_sem]<;>rfl)
  ·rintro f _ q1 hlt hf next
   clear hL;have q1:badC m m.funcs 0=none:=by rw[q1];rfl
   rw[q1];simp only[diagA];simp(maxSteps:=9^9)(disch:=first|(intros;contradiction)|omega)only[go_sem,hlt]
 ·rw[if_neg h1];have h1:=eq_false h1
  simp(maxSteps:=9^9)(disch:=first|(intros;contradiction)|omega)only[go_sem,hfo,h1]
theorem checkA_bad{m:Md1}(h1:¬(formedP m=0∧badC m m.funcs 0=none)):∃ s a b d:Int,checkA m=.agg [.d (.int .i64 s),.d (.int .i64 a),.d (.int .i64 b),.d (.int .i64 d)]∧a≠0:=by
 unfold checkA;by_cases h2:formedP m=0
 ·rw[if_pos h2]
  cases hb:badC m m.funcs 0 with
  | none=>exact absurd ⟨h2,hb⟩ h1
  | some x=>exact⟨22,7,_,_,rfl,by decide⟩
 ·rw[if_neg h2];exact⟨22,formedP m,0,0,rfl,h2⟩
def one3(T:List (List Bb))(k:Nat)(v:Int):Bool:=decide (((T[v.toNat]?).getD [])[k]?=some (true,false))
theorem ok_iff{c:Cd1}{T:List (List Bb)}(hT:TbOk c T){k:Nat}{i:In1}(hk:k<c.ins.length)(hr:∀ v,v∈readsP i→0≤v∧v<c.vars.length)(hrc:Rch c k)(tw:Bool)(htw:tw=true↔Twice i) :
  okI c k i↔(tw||(readsP i).any fun v=>!one3 T k v)=false:=by
 have key:∀ v,v∈readsP i→(one3 T k v=true↔¬Can c v.toNat k false):=fun v hv=>by
  obtain⟨v0,v1⟩:=hr v hv
  have hvl:v.toNat<T.length:=by rw[hT.len];omega
  have hl:=hT.ok v.toNat _ (List.getElem?_eq_getElem hvl)
  unfold one3;rw[List.getElem?_eq_getElem hvl]
  generalize T[v.toNat]=l at hl;simp only[Option.getD_some,decide_eq_true_eq];have hkl:k<l.length:=by rw[hl.len];exact hk
  rw[List.getElem?_eq_getElem hkl]
  have hs:=hl.says k _ (List.getElem?_eq_getElem hkl)
  generalize l[k]=x at hs;have h1:=hs true
  have h2:=hs false
  obtain⟨b,hb⟩:=can_ex (v:=v.toNat) hrc
  have h3:=(hs b).2 hb
  rw[←h2];rcases x with⟨_|_,_|_⟩<;>cases b<;>simp[bbH]at h3 ⊢
 rw[Bool.or_eq_false_iff,List.any_eq_false];constructor
 ·intro h;obtain⟨h1,h2⟩:=h hrc
  refine⟨?_,fun v hv=>?_⟩
  ·cases ht:tw with
   | false=>rfl
   | true=>
    obtain⟨v,hv,hd⟩:=(twice_iff i).1 (htw.1 ht)
    rw[h1 v hv]at hd
    cases hd
  ·rw[(key v hv).2 (h2 v hv).2.2];decide
 ·rintro⟨h1,h2⟩ _
  refine⟨fun v hv=>?_,fun v hv=>?_⟩
  ·cases hd:dupAt (readsP i) v with
   | false=>rfl
   | true=>
    have:=htw.2 ((twice_iff i).2 ⟨v,hv,hd⟩)
    rw[h1]at this
    cases this
  ·obtain⟨v0,v1⟩:=hr v hv
   refine⟨v0,v1,(key v hv).1 ?_⟩
   have:=h2 v hv
   simpa using this
theorem one3_at{c:Cd1}{T:List (List Bb)}(hT:TbOk c T){k:Nat}(hk:k<c.ins.length){v:Int}(h0:0≤v)(h1:v<c.vars.length):∃ (l:List Bb) (x:Bb),(T.map rowTb)[v.toNat]?=some [.sl (l.map rowX)]∧l.length=c.ins.length∧(l.map rowX)[k]?=some [.int .i64 (bbN x:Int)]∧((bbN x:Int)=1)=(one3 T k v=true):=by
 have hvl:v.toNat<T.length:=by rw[hT.len];omega
 have hl:=hT.ok v.toNat _ (List.getElem?_eq_getElem hvl)
 have hkl:k<T[v.toNat].length:=by rw[hl.len];exact hk
 refine⟨T[v.toNat],T[v.toNat][k],?_,hl.len,?_,?_⟩
 ·rw[List.getElem?_map,List.getElem?_eq_getElem hvl];rfl
 ·rw[List.getElem?_map,List.getElem?_eq_getElem hkl];rfl
 ·unfold one3;rw[List.getElem?_eq_getElem hvl]
  simp only[Option.getD_some,decide_eq_true_eq];rw[List.getElem?_eq_getElem hkl]
  generalize T[v.toNat][k]=x;rcases x with⟨_|_,_|_⟩<;>simp[bbN]
set_option maxHeartbeats 4000000 in
theorem rcheck23_e(hx:TF ext)(m:Md1)(hm:LightM m):G ext 17 [m.av] []=some (.ret (mcheckA m),[]):=by
 have hcl:(m.funcs.map Cd1.row).length=m.funcs.length:=List.length_map _
 have hf70:=hm.funcs
 have hch:=rcheck22_e hx.toTX m hm
 rw[G_body hx.clear rfl Tryz.func17 rfl Tryz.results17 hv_17 rfl];unfold mcheckA;by_cases h1:formedP m=0∧badC m m.funcs 0=none
 ·rw[if_pos h1];have hd:checkA m=.agg [.d (.int .i64 0),.d (.int .i64 0),.d (.int .i64 0),.d (.int .i64 0)]:=by unfold checkA;rw[if_pos h1.1,h1.2];rfl
  rw[hd]at hch;simp only[Md1.av,Md1.fr]at hch ⊢;simp(maxSteps:=9^9)(disch:=first|(intros;contradiction)|omega)only[go_sem,hch]
  generalize hL:loopA _ _ _=L;apply range_upd hL (by simp(maxSteps:=9^9)(disch:=first|(intros;contradiction)|omega)only[go_sem]<;>rfl) m.funcs Cd1.row (α:=Unit) (fun rest q _=>badF m.funcs 0=badF rest q) (fun q _=>[(4,.d (.int .i64 (q:Int)))]) (fun _ _=>[]) () (by simp(maxSteps:=9^9)(disch:=first|(intros;contradiction)|omega)only[go_sem]<;>rfl) rfl ?_ ?_
  ·rintro c rest f _ q1 hlt hr hget hf _ next ih
   clear hL;have hmem:=List.mem_of_getElem? hget
   simp only[badF]at q1;have hck:=ckr_ok hx.toTX hm h1.1 hmem
   have hil:(c.ins.map In1.row).length=c.ins.length:=List.length_map _
   have hnl:=hck.nl
   obtain⟨T,hT,htb⟩:=table_e hx c hck
   obtain⟨rc,hrl,hrc,hre⟩:=reach_e hx c hck.toCkF
   simp only[Cd1.av]at htb hre;simp only[Cd1.row]at hr;have hfl:(f:Int)<(m.funcs.length:Int):=by omega
   have hf0:0≤(f:Int):=by omega
   simp(maxSteps:=9^9)(disch:=first|(intros;contradiction)|omega)only[go_sem,hlt,hr,hcl,hfl,hf0,htb,hre]
   generalize hL:loopA _ _ _=L;have hTl:(T.map rowTb).length=c.vars.length:=by rw[List.length_map,hT.len]
   have hrcl:(rc.map fun b=>[Dt.bool b]).length=c.ins.length:=by rw[List.length_map,hrl]
   apply range_upd hL (by simp(maxSteps:=9^9)(disch:=first|(intros;contradiction)|omega)only[go_sem]<;>rfl) c.ins In1.row (α:=Unit) (fun rest2 q _=>badK c c.ins 0=badK c rest2 q) (fun q _=>[(8,.d (.int .i64 (q:Int)))]) (fun _ _=>[]) () (by simp(maxSteps:=9^9)(disch:=first|(intros;contradiction)|omega)only[go_sem]<;>rfl) rfl ?_ ?_
   ·rintro i rest2 q _ p1 hlt2 hr2 hget2 hq _ next2 ih2
    clear hL htb hre hr ih;have him:=List.mem_of_getElem? hget2
    have hga:=hm.ins c hmem i him
    obtain⟨tw,htw,htwe⟩:=rtw23_e hx c i (by omega) (hck.ins q i hget2).1 (hck.r22 q i hget2)
    have hrd:=rreads_e hx.toTX i (by omega)
    have hrr:=ckr_reads hx.toTX h1.1 hmem him
    have hrdl:((readsP i).map rowI).length=(readsP i).length:=List.length_map _
    have hrlen:=reads_len i
    simp only[In1.row]at hr2;simp only[Cd1.av,In1.av]at htwe hrd;rw[show ints (readsP i)=.sl ((readsP i).map rowI)from rfl]at hrd
    simp only[badK]at p1;have hlt2':(q:Int)<(c.ins.length:Int):=by omega
    have hq0:0≤(q:Int):=by omega
    obtain⟨rb,hrb⟩:∃ b,rc[q]?=some b:=⟨rc[q]'(by omega),List.getElem?_eq_getElem (by omega)⟩
    have hrb2:(rc.map fun b=>[Dt.bool b])[q]?=some [.bool rb]:=by rw[List.getElem?_map,hrb];rfl
    have hrq:=hrc q hq
    rw[hrb]at hrq;simp(maxSteps:=9^9)(disch:=first|(intros;contradiction)|omega)only[go_sem,hil,hlt2',hq0,hr2,hrd,htwe]
    generalize hL:loopA _ _ _=L;apply range_upd hL (by simp(maxSteps:=9^9)(disch:=first|(intros;contradiction)|omega)only[go_sem]<;>rfl) (readsP i) rowI (α:=Bool) (fun rest3 _ bad=>(bad||rest3.any fun v=>!one3 T q v)=(tw||(readsP i).any fun v=>!one3 T q v)) (fun z bad=>[(10,.d (.bool bad)),(11,.d (.int .i64 (z:Int)))]) (fun _ _=>[]) tw (by simp(maxSteps:=9^9)(disch:=first|(intros;contradiction)|omega)only[go_sem]<;>rfl) rfl ?_ ?_
    ·rintro v rest3 z bad s1 hlt3 hr3 hget3 hz _ next3 ih3
     clear hL ih2 hrd htwe;simp only[rowI]at hr3;obtain⟨v0,v1⟩:=hrr v (List.mem_of_getElem? hget3)
     cases bad with
     | true=>
      simp(maxSteps:=9^9)(disch:=first|(intros;contradiction)|omega)only[go_sem,hlt3,hr3,wrap64]
      exact ih3 true _ (by rw[←s1];simp) (by simp(maxSteps:=9^9)(disch:=first|(intros;contradiction)|omega)only[go_sem]<;>rfl)
     | false=>
      obtain⟨l,x,e1,e2,e3,e4⟩:=one3_at hT hq v0 v1
      have hll:((l.map rowX).length:Int)=(c.ins.length:Int):=by rw[List.length_map,e2]
      cases ho:one3 T q v with
      | true=>
       rw[ho]at e4;have e5:=e4.trans (eq_true rfl)
       simp(maxSteps:=9^9)(disch:=first|(intros;contradiction)|omega)only[go_sem,hlt3,hr3,hTl,v0,v1,e1,hll,hq0,hlt2',e3,e5,wrap64]
       exact ih3 false _ (by rw[←s1];simp[ho]) (by simp(maxSteps:=9^9)(disch:=first|(intros;contradiction)|omega)only[go_sem]<;>rfl)
      | false=>
       rw[ho]at e4;have e5:=e4.trans (eq_false (by decide))
       simp(maxSteps:=9^9)(disch:=first|(intros;contradiction)|omega)only[go_sem,hlt3,hr3,hTl,v0,v1,e1,hll,hq0,hlt2',e3,e5,wrap64]
       exact ih3 true _ (by rw[←s1];simp[ho]) (by simp(maxSteps:=9^9)(disch:=first|(intros;contradiction)|omega)only[go_sem]<;>rfl)
    ·rintro z bad s1 hlt3 hz next3
     clear hL hrd htwe;simp only[List.any_nil,Bool.or_false]at s1
     cases rb with
     | false=>
      have hnr:¬Rch c q:=fun h=>by have:=hrq.2 h;simp at this
      have hok:okI c q i:=fun h=>absurd h hnr
      rw[if_pos hok]at p1;simp(maxSteps:=9^9)(disch:=first|(intros;contradiction)|omega)only[go_sem,hlt3,hrcl,hrb2,hlt2',hq0,wrap64]
      exact ih2 () _ p1 (by simp(maxSteps:=9^9)(disch:=first|(intros;contradiction)|omega)only[go_sem]<;>rfl)
     | true=>
      have hyr:=hrq.1 rfl
      have hoi:=ok_iff hT hq hrr hyr tw htw
      rw[←s1]at hoi
      cases bad with
      | false=>
       rw[if_pos (hoi.2 rfl)]at p1;simp(maxSteps:=9^9)(disch:=first|(intros;contradiction)|omega)only[go_sem,hlt3,hrcl,hrb2,hlt2',hq0,wrap64]
       exact ih2 () _ p1 (by simp(maxSteps:=9^9)(disch:=first|(intros;contradiction)|omega)only[go_sem]<;>rfl)
      | true=>
       rw[if_neg (fun h=>by have:=hoi.1 h;cases this)]at p1
       rw[p1]at q1;rw[q1];simp only[diag23];simp(maxSteps:=9^9)(disch:=first|(intros;contradiction)|omega)only[go_sem,hlt3,hrcl,hrb2,hlt2',hq0,wrap64]
   ·rintro q _ p1 hlt2 hq next2
    clear hL htb hre hr;have p1:badK c c.ins 0=none:=by rw[p1];rfl
    rw[p1]at q1;have hlt2':¬(q:Int)<(c.ins.length:Int):=by omega
    simp(maxSteps:=9^9)(disch:=first|(intros;contradiction)|omega)only[go_sem,hil,hlt2',wrap64]
    exact ih () _ q1 (by simp(maxSteps:=9^9)(disch:=first|(intros;contradiction)|omega)only[go_sem]<;>rfl)
  ·rintro f _ q1 hlt hf next
   clear hL;have q1:badF m.funcs 0=none:=by rw[q1];rfl
   rw[q1];simp only[diag23];simp(maxSteps:=9^9)(disch:=first|(intros;contradiction)|omega)only[go_sem,hlt]
 ·rw[if_neg h1];obtain⟨s,a,b,d,hd,ha⟩:=checkA_bad h1
  rw[hd]at hch ⊢;simp only[Md1.av,Md1.fr]at hch ⊢;have ha:=eq_false ha
  simp(maxSteps:=9^9)(disch:=first|(intros;contradiction)|omega)only[go_sem,hch,ha]
end Go.Proofs.YticliodhjfednaaGreat
namespace Go.Proofs.YticliodhjfednaaGreat
open Go Go.Ab
variable {ext:Sem'}
theorem mchecks_e(hx:TLF ext)(m:Md1)(hnm:∀ s,s∈m.structs→∀ f,f∈s.fields→f.name.length≤9223372036854775807) :
  G ext 4 [m.av] []=some (.ret (.d (.bool true)),[]):=by
 obtain⟨b,hb,hb2⟩:=l17_e hx.toTX m hnm
 have ha:=malive_e hx.toTL
 cases b with
 | false=>
  rw[G_body hx.clear rfl Tryz.func4 rfl Tryz.results4 hv_4 rfl];simp only[Md1.av,Md1.sr,Md1.fr]at hb ⊢;simp(maxSteps:=9^9)(disch:=first|(intros;contradiction)|omega)only[go_sem,hb,ha]
 | true=>
  obtain⟨hm,_⟩:=hb2 rfl
  have h1:=G_ext (hx.check m hm hnm)
  have h2:=rcheck23_e hx.tf m hm
  rw[G_body hx.clear rfl Tryz.func4 rfl Tryz.results4 hv_4 rfl];rcases mcheck_ok (m:=m)with⟨s,a,b,d,h,_⟩|⟨h,_⟩
  ·rw[h]at h1 h2;simp only[Md1.av,Md1.sr,Md1.fr]at hb h1 h2 ⊢;simp(maxSteps:=9^9)(disch:=first|(intros;contradiction)|omega)only[go_sem,hb,ha,h1,h2]
  ·rw[h]at h1 h2;simp only[Md1.av,Md1.sr,Md1.fr]at hb h1 h2 ⊢;simp(maxSteps:=9^9)(disch:=first|(intros;contradiction)|omega)only[go_sem,hb,ha,h1,h2]
end Go.Proofs.YticliodhjfednaaGreat
namespace Go.Proofs.YticliodhjfednaaGreat
open Go Go.Ab Go.ChangeShapes Go.WideShapes Go.ChangeAt Go.RowKit
theorem movesChecks_own:ownKnob Tryz.prog.godebug=none:=by kernel_rfl
theorem movesChecks_laidOut:laidOutB Tryz.prog=true:=by kernel_rfl
theorem movesChecks_reads{l:List AV}(h:Reads [modT] l):G extL 4 l []=some (.ret (.d (.bool true)),[]):=by
 obtain⟨x0,l0,h0,rfl,rfl⟩:=h
 obtain⟨m,e,hm⟩:=mod_wf h0
 rw[e];exact mchecks_e extL_tlf m hm.names
set_option maxRecDepth 100000 in
theorem movesChecks_lifted(os:Os)(started:os.Started)(H:Type)(enc:TypeId×Value→H) :
  ReturnsInHanded {} Tryz.checked os 4 .any (Rows.movesChecksSpec.pre6 enc Tryz.prog Tryz.f4 Rows.movesChecksRow.domain false) (Rows.movesChecksSpec.post enc Tryz.prog Tryz.f4 false true false false):=by
 refine returnsInHanded_of_change (C:=Tryz.checked) movesChecks_own started (by kernel_rfl) Tryz.func4
  (ChangeSpec.witness6 (enc:=enc) (C:=Tryz.checked) false ⟨#[],#[.agg ⟨[.slice none 0 0,.slice none 0 0]⟩],[]⟩ 8 (by kernel_rfl) (by kernel_rfl) (by kernel_rfl) (by kernel_rfl)) ?_
 intro W base args ds gs before hval hW _ _;refine law_contract movesChecks_laidOut (G_ok extL_ok) (Ts:=[modT]) (by rw[Tryz.params4];kernel_rfl) rfl ?_ (by kernel_rfl) Tryz.underlying4 (by rw[Tryz.params4];decide +kernel) (fun l hl=>movesChecks_reads hl) W base args ds gs before hval hW
 intro ds hl;match ds,hl with
 | [d0],_=>exact⟨rfl,rfl,rfl⟩
theorem movesChecks_holds:Rows.MovesChecksSaid:=
 OpenClaim.holds_of_wide 4 Tryz.f4 rfl rfl rfl rfl rfl rfl rfl ⟨rfl,rfl,rfl,rfl,rfl⟩ rfl rfl rfl rfl rfl (by kernel_rfl) Tryz.func4 (by kernel_rfl)
  (of_decide_eq_true (by kernel_rfl)) (by unfold Func.isWrapper;first|(rw[if_pos (by decide +kernel)];kernel_rfl)|(rw[if_neg (by decide +kernel)];exact⟨rfl,rfl⟩))
  (fun os started H enc _=>movesChecks_lifted os started H enc)
end Go.Proofs.YticliodhjfednaaGreat
