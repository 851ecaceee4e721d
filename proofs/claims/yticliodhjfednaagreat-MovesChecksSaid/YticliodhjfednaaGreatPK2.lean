/- Law 23: MovesWays answers true; Law 23: the example; Ways, plain: what a worklist that is worked off says; The document's flow: what is reached; The document's moves: what an instruction gives away; states of a variable; The document's moves: the table of all variables; what is read twice; Moves: what is known of a formed program's functions; of the library; Moves: what is known of the library, and of ir.Next of a branch to one place, is right; Moves: what is known, for the laws about tables. Conditions: none. -/
import Derived.Test.YticliodhjfednaaGreatPK1
import Derived.Test.YticliodhjfednaaGreatU1
import Derived.Test.YticliodhjfednaaGreatL1
import Derived.Test.YticliodhjfednaaGreatNxS
set_option linter.unusedSimpArgs false
set_option linter.unusedVariables false
namespace Go.Proofs.YticliodhjfednaaGreat
open Go Go.Ab
variable {ext:Sem'}
structure TL(ext:Sem'):Prop extends TM ext where
 check:∀ m:Md1,LightM m→(∀ s,s∈m.structs→∀ f,f∈s.fields→f.name.length≤9223372036854775807)→ext 16 [m.av] []=some (.ret (mcheckA m),[])
def rowT(b:Bool):List Dt:=[.bool b]
theorem badK_none{c:Cd1}:∀ {l:List In1} {k:Nat},badK c l k=none→∀ (j:Nat) (i:In1),l[j]?=some i→okI c (k+j) i
 | [],k,h,j,i,hj=>by simp at hj
 | x::l,k,h,j,i,hj=>by
  simp only[badK]at h;split at h
  ·rename_i hx
   cases j with
   | zero=>simp at hj;subst hj;exact hx
   | succ j=>have:=badK_none h j i (by simpa using hj);rw[show k+(j+1)=k+1+j by omega];exact this
  ·cases h
theorem badF_none:∀ {l:List Cd1} {f:Nat},badF l f=none→∀ c,c∈l→badK c c.ins 0=none
 | [],f,h,c,hc=>by cases hc
 | x::l,f,h,c,hc=>by
  simp only[badF]at h
  cases hb:badK x x.ins 0 with
  | some k=>rw[hb]at h;cases h
  | none=>
   rw[hb]at h;rcases List.mem_cons.1 hc with rfl|hc
   ·exact hb
   ·exact badF_none h c hc
theorem mcheck_ok{m:Md1}:(∃ s a b d:Int,mcheckA m=.agg [.d (.int .i64 s),.d (.int .i64 a),.d (.int .i64 b),.d (.int .i64 d)]∧a≠0)∨(mcheckA m=.agg [.d (.int .i64 0),.d (.int .i64 0),.d (.int .i64 0),.d (.int .i64 0)]∧formedP m=0∧badF m.funcs 0=none):=by
 unfold mcheckA;by_cases h1:formedP m=0∧badC m m.funcs 0=none
 ·rw[if_pos h1]
  cases hb:badF m.funcs 0 with
  | none=>exact .inr ⟨rfl,h1.1,rfl⟩
  | some x=>exact .inl ⟨23,11,_,_,rfl,by decide⟩
 ·rw[if_neg h1];unfold checkA;by_cases h2:formedP m=0
  ·rw[if_pos h2]
   cases hb:badC m m.funcs 0 with
   | none=>exact absurd ⟨h2,hb⟩ h1
   | some x=>exact .inl ⟨22,7,_,_,rfl,by decide⟩
  ·rw[if_neg h2];exact .inl ⟨22,formedP m,0,0,rfl,h2⟩
end Go.Proofs.YticliodhjfednaaGreat
namespace Go.Proofs.YticliodhjfednaaGreat
open Go Go.Ab
variable {ext:Sem'}
def fI(op d a:Int):In1:=⟨op,d,a,0,0,0,[],[],[],0,0,(0,0)⟩
def fC(l:List In1):Cd1:=⟨[109,97,105,110],0,[⟨⟨true,[83]⟩,1⟩,⟨⟨false,[]⟩,0⟩],⟨⟨false,[]⟩,0⟩,[],l⟩
def fC1:Cd1:=fC [fI 12 0 0,fI 13 0 0,fI 1 1 0,fI 18 0 1]
def fC2:Cd1:=fC [fI 12 0 0,fI 13 0 0,fI 13 0 0,fI 1 1 0,fI 18 0 1]
def fM(c:Cd1):Md1:=⟨[⟨[83],[],(0,0)⟩],[c]⟩
theorem fM1_formed:formedP (fM fC1)=0∧badC (fM fC1) (fM fC1).funcs 0=none:=by constructor<;>kernel_rfl
theorem fM2_formed:formedP (fM fC2)=0∧badC (fM fC2) (fM fC2).funcs 0=none:=by constructor<;>kernel_rfl
theorem frees_e(hx:TL ext):G ext 24 [.d (.int .i64 1)] []=some (.ret (fM fC1).av,[])∧G ext 24 [.d (.int .i64 2)] []=some (.ret (fM fC2).av,[]):=by
 constructor
 ·exact G_run hx.clear 20 20 (by kernel_rfl)
 ·exact G_run hx.clear 20 20 (by kernel_rfl)
theorem can1{v k:Nat}{b:Bool}(h:Can fC1 v k b):v<2→k<4∧b=decide ((v=0∧k=1)∨(v=1∧k=3)):=by
 induction h with
 | zero=>
  intro hv;exact⟨by omega,by simp[fC1,fC]⟩
 | step h hi hy ih=>
  rename_i k y i b;intro hv;obtain⟨h1,h2⟩:=ih hv
  have hk:k=0∨k=1∨k=2∨k=3:=by omega
  have hv':v=0∨v=1:=by omega
  rcases hk with rfl|rfl|rfl|rfl
  ·simp[fC1,fC,fI]at hi;subst hi;simp[nxC,nxtI,fC1,fC,fI]at hy;have hy2:y=1:=by omega
   subst hy2;subst h2;rcases hv' with rfl|rfl<;>simp[trI,hasD,awayI,usesL,givesL]
  ·simp[fC1,fC,fI]at hi;subst hi;simp[nxC,nxtI,fC1,fC,fI]at hy;have hy2:y=2:=by omega
   subst hy2;subst h2;rcases hv' with rfl|rfl<;>simp[trI,hasD,awayI,usesL,givesL]
  ·simp[fC1,fC,fI]at hi;subst hi;simp[nxC,nxtI,fC1,fC,fI]at hy;have hy2:y=3:=by omega
   subst hy2;subst h2;rcases hv' with rfl|rfl<;>simp[trI,hasD,awayI,usesL,givesL]
  ·simp[nxC,nxtI,fC1,fC,fI]at hy
theorem can2{v k:Nat}{b:Bool}(h:Can fC2 v k b):v<2→k<5∧b=decide ((v=0∧k=1)∨(v=1∧k=4)):=by
 induction h with
 | zero=>
  intro hv;exact⟨by omega,by simp[fC2,fC]⟩
 | step h hi hy ih=>
  rename_i k y i b;intro hv;obtain⟨h1,h2⟩:=ih hv
  have hk:k=0∨k=1∨k=2∨k=3∨k=4:=by omega
  have hv':v=0∨v=1:=by omega
  rcases hk with rfl|rfl|rfl|rfl|rfl
  ·simp[fC2,fC,fI]at hi;subst hi;simp[nxC,nxtI,fC2,fC,fI]at hy;have hy2:y=1:=by omega
   subst hy2;subst h2;rcases hv' with rfl|rfl<;>simp[trI,hasD,awayI,usesL,givesL]
  ·simp[fC2,fC,fI]at hi;subst hi;simp[nxC,nxtI,fC2,fC,fI]at hy;have hy2:y=2:=by omega
   subst hy2;subst h2;rcases hv' with rfl|rfl<;>simp[trI,hasD,awayI,usesL,givesL]
  ·simp[fC2,fC,fI]at hi;subst hi;simp[nxC,nxtI,fC2,fC,fI]at hy;have hy2:y=3:=by omega
   subst hy2;subst h2;rcases hv' with rfl|rfl<;>simp[trI,hasD,awayI,usesL,givesL]
  ·simp[fC2,fC,fI]at hi;subst hi;simp[nxC,nxtI,fC2,fC,fI]at hy;have hy2:y=4:=by omega
   subst hy2;subst h2;rcases hv' with rfl|rfl<;>simp[trI,hasD,awayI,usesL,givesL]
  ·simp[nxC,nxtI,fC2,fC,fI]at hy
theorem bad1:badF (fM fC1).funcs 0=none:=by
 have n1:¬Can fC1 0 1 false:=fun h=>by have:=(can1 h (by decide)).2;simp at this
 have n2:¬Can fC1 1 3 false:=fun h=>by have:=(can1 h (by decide)).2;simp at this
 have o0:okI fC1 0 (fI 12 0 0):=fun _=>⟨by simp[awayI,usesL,givesL,fI],by simp[readsP,hasA,hasB,fI]⟩
 have o1:okI fC1 1 (fI 13 0 0):=fun _=>⟨by simp[awayI,usesL,givesL,fI,dupAt,readsP,hasA,hasB,idxN,idxP],by simp[readsP,hasA,hasB,fI];exact⟨by simp[fC1,fC],n1⟩⟩
 have o2:okI fC1 2 (fI 1 1 0):=fun _=>⟨by simp[awayI,usesL,givesL,fI],by simp[readsP,hasA,hasB,fI]⟩
 have o3:okI fC1 3 (fI 18 0 1):=fun _=>⟨by simp[awayI,usesL,givesL,fI],by simp[readsP,hasA,hasB,fI];exact⟨by simp[fC1,fC],n2⟩⟩
 show(match badK fC1 [fI 12 0 0,fI 13 0 0,fI 1 1 0,fI 18 0 1] 0 with|some k=>some (0,k)|none=>badF [] 1)=none
 simp only[badK,if_pos o0,if_pos o1,if_pos o2,if_pos o3,badF]
theorem bad2:badF (fM fC2).funcs 0=some (0,2):=by
 have n1:¬Can fC2 0 1 false:=fun h=>by have:=(can2 h (by decide)).2;simp at this
 have o0:okI fC2 0 (fI 12 0 0):=fun _=>⟨by simp[awayI,usesL,givesL,fI],by simp[readsP,hasA,hasB,fI]⟩
 have o1:okI fC2 1 (fI 13 0 0):=fun _=>⟨by simp[awayI,usesL,givesL,fI,dupAt,readsP,hasA,hasB,idxN,idxP],by simp[readsP,hasA,hasB,fI];exact⟨by simp[fC2,fC],n1⟩⟩
 have r1:Rch fC2 1:=.step .zero (i:=fI 12 0 0) rfl (by simp[nxC,nxtI,fC2,fC,fI])
 have r2:Rch fC2 2:=.step r1 (i:=fI 13 0 0) rfl (by simp[nxC,nxtI,fC2,fC,fI])
 obtain⟨b,hb⟩:=can_ex (v:=0) r2
 have hb2:=(can2 hb (by decide)).2
 have hbf:b=false:=by rw[hb2];simp
 subst hbf;have o2:¬okI fC2 2 (fI 13 0 0):=fun h=>((h r2).2 0 (by simp[readsP,hasA,hasB,fI])).2.2 hb
 show(match badK fC2 [fI 12 0 0,fI 13 0 0,fI 13 0 0,fI 1 1 0,fI 18 0 1] 0 with|some k=>some (0,k)|none=>badF [] 1)=some (0,2)
 simp only[badK,if_pos o0,if_pos o1,if_neg o2]
theorem chk1:mcheckA (fM fC1)=.agg [.d (.int .i64 0),.d (.int .i64 0),.d (.int .i64 0),.d (.int .i64 0)]:=by
 unfold mcheckA;rw[if_pos fM1_formed,bad1];rfl
theorem chk2:mcheckA (fM fC2)=.agg [.d (.int .i64 23),.d (.int .i64 11),.d (.int .i64 1),.d (.int .i64 3)]:=by
 unfold mcheckA;rw[if_pos fM2_formed,bad2];rfl
theorem fM_light(l:List In1)(h1:l.length≤400)(h2:∀ i,i∈l→i.args.length≤40∧i.mode.length≤40∧i.sign.length≤20):LightM (fM (fC l)):=by
 refine⟨by simp[fM],by simp[fM],fun s hs=>?_,fun c hc=>?_,fun c hc i hi=>?_⟩
 ·simp[fM]at hs;subst hs;simp
 ·simp[fM]at hc;subst hc;simp[fC];omega
 ·simp[fM]at hc;subst hc;exact h2 i hi
theorem fM_names(c:Cd1):∀ s,s∈(fM c).structs→∀ f,f∈s.fields→f.name.length≤9223372036854775807:=by
 intro s hs f hf;simp[fM]at hs;subst hs
 cases hf
theorem malive_e(hx:TL ext):G ext 8 [] []=some (.ret (.d (.bool true)),[]):=by
 obtain⟨e1,e2⟩:=frees_e hx
 have c1:=G_ext (hx.check (fM fC1) (fM_light _ (by decide) (by decide)) (fM_names _))
 have c2:=G_ext (hx.check (fM fC2) (fM_light _ (by decide) (by decide)) (fM_names _))
 rw[chk1]at c1;rw[chk2]at c2;rw[G_body hx.clear rfl Tryz.func8 rfl Tryz.results8 hv_8 rfl];simp only[Md1.av,Md1.sr,Md1.fr]at e1 e2 c1 c2;simp(maxSteps:=9^9)(disch:=first|(intros;contradiction)|omega)only[go_sem,e1,e2,c1,c2]
end Go.Proofs.YticliodhjfednaaGreat
namespace Go.Proofs.YticliodhjfednaaGreat
theorem nodup_len:∀ (n:Nat) (l:List Nat),l.Nodup→(∀ k,k∈l→k<n)→l.length≤n
 | 0,[],_,_=>Nat.le_refl _
 | 0,k::l,_,h=>absurd (h k (.head _)) (by omega)
 | n+1,l,hn,h=>by
  have h1:=nodup_len n (l.erase n) (hn.erase n) fun k hk=>by
   have h2:=h k (List.mem_of_mem_erase hk)
   have h3:k≠n:=fun e=>by subst e;exact(List.Nodup.not_mem_erase hn) hk
   omega
  have h2:=List.length_erase (a:=n) (l:=l)
  split at h2<;>omega
structure RI(c:Cd1)(out:List Bool)(todo:List Nat)(i:Nat):Prop where
 lo:out.length=c.ins.length
 mem:∀ k,k<c.ins.length→(out[k]?=some true↔k∈todo)
 nd:todo.Nodup
 lt:∀ k,k∈todo→k<c.ins.length
 rch:∀ k,k∈todo→Rch c k
 z:0∈todo
 cl:∀ (j k y:Nat),j<i→todo[j]?=some k→(y:Int)∈nxC c k→y∈todo
theorem RI.len{c:Cd1}{out:List Bool}{todo:List Nat}{i:Nat}(h:RI c out todo i):todo.length≤c.ins.length:=nodup_len _ _ h.nd h.lt
theorem RI.zero{c:Cd1}(h:0<c.ins.length):RI c ((List.replicate c.ins.length false).set 0 true) [0] 0:=by
 refine⟨by simp,fun k hk=>?_,by simp,fun k hk=>?_,fun k hk=>?_,.head _,fun j k y hj=>absurd hj (by omega)⟩
 ·rw[List.getElem?_set]
  by_cases e:k=0
  ·subst e;simp[h]
  ·rw[if_neg (by omega),List.getElem?_replicate,if_pos hk];simp[e]
 ·simp at hk;subst hk;exact h
 ·simp at hk;subst hk;exact .zero
theorem RI.add{c:Cd1}{out:List Bool}{todo:List Nat}{i k y:Nat}{x:In1}(h:RI c out todo i)(hi:i≤todo.length)(hk:k∈todo)(hx:c.ins[k]?=some x)(hy:(y:Int)∈nxC c k)(hyn:y<c.ins.length)(ho:out[y]?=some false):RI c (out.set y true) (todo++[y]) i:=by
 have hny:y∉todo:=fun q=>by rw[(h.mem y hyn).2 q]at ho;cases ho
 refine⟨by rw[List.length_set];exact h.lo,fun q hq=>?_,?_,fun q hq=>?_,fun q hq=>?_,List.mem_append_left _ h.z,fun j k2 y2 hj hk2 hy2=>?_⟩
 ·rw[List.getElem?_set]
  by_cases e:y=q
  ·subst e;rw[if_pos rfl,if_pos (by rw[h.lo];exact hq)]
   simp
  ·rw[if_neg e,h.mem q hq];simp[Ne.symm e]
 ·refine List.nodup_append.2 ⟨h.nd,by simp,fun a ha b hb e=>?_⟩
  simp at hb;subst hb;subst e;exact hny ha
 ·rcases List.mem_append.1 hq with hq|hq
  ·exact h.lt q hq
  ·simp at hq;subst hq;exact hyn
 ·rcases List.mem_append.1 hq with hq|hq
  ·exact h.rch q hq
  ·simp at hq;subst hq;exact .step (h.rch k hk) hx hy
 ·rw[List.getElem?_append_left (by omega)]at hk2
  exact List.mem_append_left _ (h.cl j k2 y2 hj hk2 hy2)
theorem RI.next{c:Cd1}{out:List Bool}{todo:List Nat}{i k:Nat}(h:RI c out todo i)(hk:todo[i]?=some k)(hy:∀ y:Nat,(y:Int)∈nxC c k→y∈todo):RI c out todo (i+1):=by
 refine⟨h.lo,h.mem,h.nd,h.lt,h.rch,h.z,fun j k2 y hj hk2 hy2=>?_⟩
 rcases Nat.lt_or_ge j i with hj2|hj2
 ·exact h.cl j k2 y hj2 hk2 hy2
 ·have:j=i:=by omega
  subst this;rw[hk]at hk2
  cases hk2;exact hy y hy2
theorem RI.all{c:Cd1}{out:List Bool}{todo:List Nat}{i:Nat}(h:RI c out todo i)(hi:todo.length≤i){k:Nat}(hr:Rch c k):k∈todo:=by
 induction hr with
 | zero=>exact h.z
 | step hr hx hy ih=>
  obtain⟨j,hj⟩:=List.getElem?_of_mem ih
  have:=(List.getElem?_eq_some_iff.1 hj).1
  exact h.cl j _ _ (by omega) hj hy
theorem RI.says{c:Cd1}{out:List Bool}{todo:List Nat}{i:Nat}(h:RI c out todo i)(hi:todo.length≤i)(k:Nat)(hk:k<c.ins.length):out[k]?=some true↔Rch c k:=by
 rw[h.mem k hk];exact⟨h.rch k,h.all hi⟩
abbrev Bb:=Bool×Bool
def bbN(x:Bb):Nat:=(if x.1 then 1 else 0)+(if x.2 then 2 else 0)
def bbO(x y:Bb):Bb:=(x.1||y.1,x.2||y.2)
def bbH(x:Bb)(b:Bool):Bool:=if b then x.1 else x.2
def bbOf(b:Bool):Bb:=(b,!b)
def bbW(x:Bb):Nat:=(if x.1 then 1 else 0)+(if x.2 then 1 else 0)
def bbT(i:In1)(v:Nat)(x:Bb):Bb:=if hasD i.op=true∧i.d=v then(true,false)else if(v:Int)∈awayI i then(false,true)else x
def bbS(l:List Bb):Nat:=(l.map bbW).sum
theorem bbN_inj{x y:Bb}(h:bbN x=bbN y):x=y:=by
 rcases x with⟨_|_,_|_⟩<;>rcases y with⟨_|_,_|_⟩<;>simp[bbN]at h ⊢
theorem bbH_O(x y:Bb)(b:Bool):bbH (bbO x y) b=(bbH x b||bbH y b):=by cases b<;>rfl
theorem bbW_O{x y:Bb}(h:bbO x y≠x):bbW x+1≤bbW (bbO x y):=by
 rcases x with⟨_|_,_|_⟩<;>rcases y with⟨_|_,_|_⟩<;>first|decide|exact absurd rfl h
theorem bbS_set{l:List Bb}{k:Nat}{x y:Bb}(h:l[k]?=some x):bbS (l.set k y)+bbW x=bbS l+bbW y:=by
 induction l generalizing k with
 | nil=>simp at h
 | cons a l ih=>
  cases k with
  | zero=>
   simp at h;subst h;simp only[List.set_cons_zero,bbS,List.map_cons,List.sum_cons];omega
  | succ k=>
   have:=ih (k:=k) (by simpa using h)
   simp only[List.set_cons_succ,bbS,List.map_cons,List.sum_cons]at this ⊢;omega
theorem bbS_le:∀ l:List Bb,bbS l≤2*l.length
 | []=>by simp[bbS]
 | x::l=>by
  have h1:=bbS_le l
  have h2:bbW x≤2:=by rcases x with⟨_|_,_|_⟩<;>decide
  simp only[bbS,List.map_cons,List.sum_cons,List.length_cons]at h1 ⊢;omega
structure SI(c:Cd1)(v:Nat)(out:List Bb)(todo:List Nat)(i:Nat):Prop where
 lo:out.length=c.ins.length
 lt:∀ k,k∈todo→k<c.ins.length
 bits:todo.length≤bbS out
 some_:∀ k,k∈todo→out[k]?≠some (false,false)
 can:∀ (k:Nat) (x:Bb) (b:Bool),out[k]?=some x→bbH x b=true→Can c v k b
 z:∃ x,out[0]?=some x∧bbH x (decide (v<c.params.toNat))=true
def ShutX(c:Cd1)(v:Nat)(out:List Bb)(k:Nat):Prop:=∀ (ins:In1) (x:Bb) (y:Nat) (b:Bool),c.ins[k]?=some ins→out[k]?=some x→bbH x b=true→(y:Int)∈nxC c k→∃ z,out[y]?=some z∧bbH z (trI ins v b)=true
def Pend(todo:List Nat)(i k:Nat):Prop:=∃ j,i≤j∧todo[j]?=some k
def SC(c:Cd1)(v:Nat)(out:List Bb)(todo:List Nat)(i:Nat):Prop:=∀ k,k<c.ins.length→Pend todo i k∨ShutX c v out k
theorem SI.len{c:Cd1}{v:Nat}{out:List Bb}{todo:List Nat}{i:Nat}(h:SI c v out todo i):todo.length≤2*c.ins.length:=Nat.le_trans h.bits (by have:=bbS_le out;rw[h.lo]at this;exact this)
theorem bbT_H{ins:In1}{v:Nat}{x:Bb}{b:Bool}(h:bbH (bbT ins v x) b=true)(hx:x≠(false,false)):∃ b0,bbH x b0=true∧trI ins v b0=b:=by
 have hb:∃ b0,bbH x b0=true:=by
  rcases x with⟨_|_,_|_⟩
  ·exact absurd rfl hx
  ·exact⟨false,rfl⟩
  ·exact⟨true,rfl⟩
  ·exact⟨true,rfl⟩
 unfold bbT at h;unfold trI;split at h
 ·rename_i h1;obtain⟨b0,hb0⟩:=hb
  refine⟨b0,hb0,?_⟩
  rw[if_pos h1]
  cases b<;>simp[bbH]at h ⊢
 ·rename_i h1;split at h
  ·rename_i h2;obtain⟨b0,hb0⟩:=hb
   refine⟨b0,hb0,?_⟩
   rw[if_neg h1,if_pos h2]
   cases b<;>simp[bbH]at h ⊢
  ·rename_i h2;exact⟨b,h,by rw[if_neg h1,if_neg h2]⟩
theorem bbH_T{ins:In1}{v:Nat}{x:Bb}{b:Bool}(h:bbH x b=true):bbH (bbT ins v x) (trI ins v b)=true:=by
 unfold bbT trI;split
 ·rfl
 ·split
  ·rfl
  ·exact h
theorem SI.zero{c:Cd1}{v:Nat}(h:0<c.ins.length):SI c v ((List.replicate c.ins.length (false,false)).set 0 (bbOf (decide (v<c.params.toNat)))) [0] 0∧SC c v ((List.replicate c.ins.length (false,false)).set 0 (bbOf (decide (v<c.params.toNat)))) [0] 0:=by
 have hat:∀ (k:Nat) (x:Bb),((List.replicate c.ins.length ((false,false):Bb)).set 0 (bbOf (decide (v<c.params.toNat))))[k]?=some x→(k=0∧x=bbOf (decide (v<c.params.toNat)))∨x=(false,false):=fun k x hk=>by
  rw[List.getElem?_set]at hk
  split at hk
  ·rename_i e;split at hk
   ·cases hk;exact .inl ⟨e.symm,rfl⟩
   ·cases hk
  ·rw[List.getElem?_replicate]at hk
   split at hk
   ·cases hk;exact .inr rfl
   ·cases hk
 have h0:((List.replicate c.ins.length ((false,false):Bb)).set 0 (bbOf (decide (v<c.params.toNat))))[0]?=some (bbOf (decide (v<c.params.toNat))):=List.getElem?_set_self (by simpa using h)
 refine⟨⟨by simp,fun k hk=>?_,?_,fun k hk=>?_,fun k x b hk hb=>?_,⟨_,h0,?_⟩⟩,fun k hk=>?_⟩
 ·simp at hk;subst hk;exact h
 ·have h1:=bbS_set (l:=List.replicate c.ins.length ((false,false):Bb)) (k:=0) (x:=(false,false)) (y:=bbOf (decide (v<c.params.toNat))) (by rw[List.getElem?_replicate,if_pos h])
  have h2:bbW (bbOf (decide (v<c.params.toNat)))=1:=by cases decide (v<c.params.toNat)<;>rfl
  have h3:bbW (false,false)=0:=rfl
  simp only[List.length_singleton];omega
 ·simp at hk;subst hk;rw[h0]
  cases decide (v<c.params.toNat)<;>simp[bbOf]
 ·rcases hat k x hk with⟨rfl,rfl⟩|rfl
  ·have hb2:b=decide (v<c.params.toNat):=by
    cases hq:decide (v<c.params.toNat)<;>rw[hq]at hb<;>cases b<;>simp[bbH,bbOf]at hb ⊢
   rw[hb2];exact .zero
  ·cases b<;>simp[bbH]at hb
 ·cases decide (v<c.params.toNat)<;>rfl
 ·by_cases e:k=0
  ·subst e;exact .inl ⟨0,Nat.le_refl _,rfl⟩
  ·refine .inr fun ins x y b hi hx hb hy=>?_
   rcases hat k x hx with⟨e2,_⟩|rfl
   ·exact absurd e2 e
   ·cases b<;>simp[bbH]at hb
structure SM(c:Cd1)(v:Nat)(i k:Nat)(x0:Bb)(rest:List Int)(out:List Bb)(todo:List Nat):Prop where
 si:SI c v out todo i
 at_:todo[i]?=some k
 oth:∀ k2,k2<c.ins.length→k2≠k→Pend todo (i+1) k2∨ShutX c v out k2
 own:Pend todo (i+1) k∨(out[k]?=some x0∧∀ (ins:In1) (y:Nat),c.ins[k]?=some ins→(y:Int)∈nxC c k→(y:Int)∈rest∨∃ z,out[y]?=some z∧bbO z (bbT ins v x0)=z)
theorem bbO_same{z s:Bb}(h:bbO z s=z){b:Bool}(hb:bbH s b=true):bbH z b=true:=by
 have:=bbH_O z s b
 rw[h,hb]at this;simpa using this
theorem SM.begin{c:Cd1}{v i k:Nat}{x0:Bb}{out:List Bb}{todo:List Nat}(h:SI c v out todo i)(hc:SC c v out todo i)(hk:todo[i]?=some k)(hx:out[k]?=some x0):SM c v i k x0 (nxC c k) out todo:=by
 refine⟨h,hk,fun k2 hk2 hne=>?_,.inr ⟨hx,fun ins y _ hy=>.inl hy⟩⟩
 rcases hc k2 hk2 with⟨j,hj,hj2⟩|hs
 ·refine .inl ⟨j,?_,hj2⟩
  rcases Nat.lt_or_ge i j with q|q
  ·omega
  ·have:j=i:=by omega
   subst this;rw[hk]at hj2
   cases hj2;exact absurd rfl hne
 ·exact .inr hs
theorem pend_app{todo:List Nat}{i k y:Nat}(h:Pend todo i k):Pend (todo++[y]) i k:=by
 obtain⟨j,h1,h2⟩:=h
 exact⟨j,h1,by rw[List.getElem?_append_left (List.getElem?_eq_some_iff.1 h2).1];exact h2⟩
theorem SM.same{c:Cd1}{v i k:Nat}{x0 z:Bb}{y:Int}{rest:List Int}{out:List Bb}{todo:List Nat}{ins:In1}(h:SM c v i k x0 (y::rest) out todo)(hi:c.ins[k]?=some ins)(hz:out[y.toNat]?=some z)(hs:bbO z (bbT ins v x0)=z):SM c v i k x0 rest out todo:=by
 refine⟨h.si,h.at_,h.oth,?_⟩
 rcases h.own with q|⟨q1,q2⟩
 ·exact .inl q
 ·refine .inr ⟨q1,fun ins2 y2 hi2 hy2=>?_⟩
  rw[hi]at hi2
  cases hi2;rcases q2 ins y2 hi hy2 with m|m
  ·rcases List.mem_cons.1 m with e|m
   ·have:y.toNat=y2:=by omega
    rw[this]at hz;exact .inr ⟨z,hz,hs⟩
   ·exact .inl m
  ·exact .inr m
theorem SM.more{c:Cd1}{v i k:Nat}{x0 z:Bb}{y:Int}{rest:List Int}{out:List Bb}{todo:List Nat}{ins:In1}(h:SM c v i k x0 (y::rest) out todo)(hi:c.ins[k]?=some ins)(hx0:x0≠(false,false))(hcan:∀ b,bbH x0 b=true→Can c v k b)
  (hy0:0≤y) (hyn:y.toNat<c.ins.length) (hy:y∈nxC c k) (hz:out[y.toNat]?=some z) (hs:bbO z (bbT ins v x0)≠z):SM c v i k x0 rest (out.set y.toNat (bbO z (bbT ins v x0))) (todo++[y.toNat]):=by
 have hol:=(List.getElem?_eq_some_iff.1 hz).1
 have hil:=(List.getElem?_eq_some_iff.1 h.at_).1
 have hyy:((y.toNat:Nat):Int)=y:=by omega
 have hnew:Pend (todo++[y.toNat]) (i+1) y.toNat:=⟨todo.length,by omega,by rw[List.getElem?_append_right (Nat.le_refl _),Nat.sub_self];rfl⟩
 have hget:∀ (q:Nat),(out.set y.toNat (bbO z (bbT ins v x0)))[q]?=if y.toNat=q then some (bbO z (bbT ins v x0))else out[q]?:=fun q=>by
  rw[List.getElem?_set]
  by_cases e:y.toNat=q
  ·rw[if_pos e,if_pos (by omega),if_pos e]
  ·rw[if_neg e,if_neg e]
 have hup:∀ (q:Nat) (x:Bb),out[q]?=some x→∃ x',(out.set y.toNat (bbO z (bbT ins v x0)))[q]?=some x'∧∀ b,bbH x b=true→bbH x' b=true:=fun q x hq=>by
  rw[hget];by_cases e:y.toNat=q
  ·subst e;rw[if_pos rfl];rw[hz]at hq
   cases hq;exact⟨_,rfl,fun b hb=>by rw[bbH_O,hb];rfl⟩
  ·rw[if_neg e];exact⟨x,hq,fun _ hb=>hb⟩
 refine⟨⟨by rw[List.length_set];exact h.si.lo,fun q hq=>?_,?_,fun q hq=>?_,fun q x b hq hb=>?_,?_⟩,by rw[List.getElem?_append_left hil];exact h.at_,fun k2 hk2 hne=>?_,?_⟩
 ·rcases List.mem_append.1 hq with hq|hq
  ·exact h.si.lt q hq
  ·simp at hq;subst hq;exact hyn
 ·have h1:=bbS_set (y:=bbO z (bbT ins v x0)) hz
  have h2:=bbW_O hs
  have h3:=h.si.bits
  rw[List.length_append,List.length_singleton];omega
 ·rw[hget];split
  ·intro e;simp only[Option.some.injEq]at e;have h1:=bbW_O hs
   rw[e]at h1;have:bbW (false,false)=0:=rfl
   omega
  ·rcases List.mem_append.1 hq with hq|hq
   ·exact h.si.some_ q hq
   ·simp at hq;rename_i hne;exact absurd hq.symm hne
 ·rw[hget]at hq;split at hq
  ·rename_i e;simp only[Option.some.injEq]at hq;subst hq;rw[bbH_O,Bool.or_eq_true]at hb;rcases hb with hb|hb
   ·exact h.si.can q z b (by rw[←e];exact hz) hb
   ·obtain⟨b0,hb0,rfl⟩:=bbT_H hb hx0
    exact .step (hcan b0 hb0) hi (by rw[←e,hyy];exact hy)
  ·exact h.si.can q x b hq hb
 ·obtain⟨x,hx,hb⟩:=h.si.z
  obtain⟨x',hx',hb'⟩:=hup 0 x hx
  exact⟨x',hx',hb' _ hb⟩
 ·by_cases e:y.toNat=k2
  ·exact .inl (e▸hnew)
  ·rcases h.oth k2 hk2 hne with q|q
   ·exact .inl (pend_app q)
   ·refine .inr fun ins2 x y2 b hi2 hx hb hy2=>?_
    rw[hget,if_neg e]at hx;obtain⟨z2,hz2,hb2⟩:=q ins2 x y2 b hi2 hx hb hy2
    obtain⟨z3,hz3,hb3⟩:=hup y2 z2 hz2
    exact⟨z3,hz3,hb3 _ hb2⟩
 ·by_cases e:y.toNat=k
  ·exact .inl (e▸hnew)
  ·rcases h.own with q|⟨q1,q2⟩
   ·exact .inl (pend_app q)
   ·refine .inr ⟨by rw[hget,if_neg e];exact q1,fun ins2 y2 hi2 hy2=>?_⟩
    rw[hi]at hi2
    cases hi2;rw[hget]
    by_cases e2:y.toNat=y2
    ·rw[if_pos e2];refine .inr ⟨_,rfl,?_⟩
     generalize bbT ins v x0=s;rcases z with⟨_|_,_|_⟩<;>rcases s with⟨_|_,_|_⟩<;>rfl
    ·rw[if_neg e2];rcases q2 ins y2 hi hy2 with m|m
     ·rcases List.mem_cons.1 m with e3|m
      ·exact absurd (by omega) e2
      ·exact .inl m
     ·exact .inr m
theorem SM.done{c:Cd1}{v i k:Nat}{x0:Bb}{out:List Bb}{todo:List Nat}(h:SM c v i k x0 [] out todo):SI c v out todo (i+1)∧SC c v out todo (i+1):=by
 refine⟨⟨h.si.lo,h.si.lt,h.si.bits,h.si.some_,h.si.can,h.si.z⟩,fun k2 hk2=>?_⟩
 by_cases e:k2=k
 ·subst e;rcases h.own with q|⟨q1,q2⟩
  ·exact .inl q
  ·refine .inr fun ins x y b hi hx hb hy=>?_
   rw[q1]at hx
   cases hx;rcases q2 ins y hi hy with m|⟨z,hz,hs⟩
   ·cases m
   ·exact⟨z,hz,bbO_same hs (bbH_T hb)⟩
 ·exact h.oth k2 hk2 e
theorem SI.all{c:Cd1}{v i:Nat}{out:List Bb}{todo:List Nat}(h:SI c v out todo i)(hc:SC c v out todo i)(hi:todo.length≤i){k:Nat}{b:Bool}(hr:Can c v k b):∃ x,out[k]?=some x∧bbH x b=true:=by
 induction hr with
 | zero=>exact h.z
 | step hr hx hy ih=>
  obtain⟨x,h1,h2⟩:=ih
  have hk:=(List.getElem?_eq_some_iff.1 h1).1
  rw[h.lo]at hk;rcases hc _ hk with⟨j,hj,hj2⟩|q
  ·have:=(List.getElem?_eq_some_iff.1 hj2).1
   omega
  ·exact q _ x _ _ hx h1 h2 hy
theorem SI.says{c:Cd1}{v i:Nat}{out:List Bb}{todo:List Nat}(h:SI c v out todo i)(hc:SC c v out todo i)(hi:todo.length≤i){k:Nat}{x:Bb}(hk:out[k]?=some x)(b:Bool):bbH x b=true↔Can c v k b:=by
 refine⟨h.can k x b hk,fun q=>?_⟩
 obtain⟨x',h1,h2⟩:=h.all hc hi q
 rw[hk]at h1
 cases h1;exact h2
end Go.Proofs.YticliodhjfednaaGreat
namespace Go.Proofs.YticliodhjfednaaGreat
open Go Go.Ab
variable {ext:Sem'}
def rowN(k:Nat):List Dt:=[.int .i64 (k:Int)]
theorem bsData(l:List Bool):dataAs (bsA l)=some (l.map Dt.bool):=by
 induction l with
 | nil=>rfl
 | cons x l ih=>show(match some (Dt.bool x),dataAs (bsA l)with|some x,some xs=>some (x::xs)|_,_=>none)=_;rw[ih];rfl
theorem bsChunk(l:List Bool):chunk 1 l.length (l.map Dt.bool)=l.map fun b=>[Dt.bool b]:=by
 induction l with
 | nil=>rfl
 | cons x l ih=>show [Dt.bool x]::chunk 1 l.length (l.map Dt.bool)=_;rw[ih];rfl
theorem bsArr{n:Nat}{l:List Bool}(h:l.length=n):arrV n 1 (if n*1≤(bsA l).length then dataAs (List.take (n*1) (bsA l))else none)=some (.d (.sl (l.map fun b=>[.bool b]))):=by
 subst h;rw[Nat.mul_one,bs_len,if_pos (Nat.le_refl _),List.take_of_length_le (by rw[bs_len];exact Nat.le_refl _),bsData]
 show some (AV.d (.sl (chunk 1 l.length (l.map Dt.bool))))=_
 rw[bsChunk]
theorem reach_e(hx:TF ext)(c:Cd1)(hc:CkF ext c):∃ out:List Bool,out.length=c.ins.length∧(∀ k,k<c.ins.length→(out[k]?=some true↔Rch c k))∧G ext 22 [c.av] []=some (.ret (.d (.sl (out.map fun b=>[.bool b]))),[]):=by
 have hil:(c.ins.map In1.row).length=c.ins.length:=List.length_map _
 have hn:=hc.n
 have hnl:=hc.nl
 have hrm:room c.ins.length 1:=by unfold room;simp;omega
 have hrep:List.replicate c.ins.length (AV.d (.bool false))=bsA (List.replicate c.ins.length false):=by unfold bsA;rw[List.map_replicate];rfl
 have h01:0≤(c.ins.length:Int):=by omega
 have hn0:((c.ins.length:Int)=0)=False:=eq_false (by omega)
 have hlt0:(0:Int)<(c.ins.length:Int):=by omega
 have hle:=Int.le_refl (c.ins.length:Int)
 have hfl:(List.replicate c.ins.length [AV.d (.bool false)]).flatten=bsA (List.replicate c.ins.length false):=by
  rw[←hrep];generalize c.ins.length=n;induction n with
  | zero=>rfl
  | succ n ih=>simp only[List.replicate_succ,List.flatten_cons,ih];rfl
 have hl1:1≤(bsA (List.replicate c.ins.length false)).length:=by rw[bs_len];simp;omega
 have hs0:(AV.d (.bool true))::List.drop 1 (bsA (List.replicate c.ins.length false))=bsA ((List.replicate c.ins.length false).set 0 true):=by
  have h:=bs_set (l:=List.replicate c.ins.length false) (i:=0) (by simpa using hn) true
  simpa using h
 suffices hs:∃ r,G ext 22 [c.av] []=r∧∃ out:List Bool,out.length=c.ins.length∧(∀ k,k<c.ins.length→(out[k]?=some true↔Rch c k))∧r=some (.ret (.d (.sl (out.map fun b=>[.bool b]))),[])by
  obtain⟨r,h1,out,h2,h3,h4⟩:=hs
  exact⟨out,h2,h3,h1.trans h4⟩
 refine⟨_,rfl,?_⟩
 rw[G_body hx.clear rfl Tryz.func22 rfl Tryz.results22 hv_22 rfl];simp only[Cd1.av];simp(maxSteps:=9^9)(disch:=first|(intros;contradiction)|omega)only[go_sem,hil,hrm,h01,hle,hfl,hn0,hlt0,Nat.mul_one,hl1,hs0]
 generalize hL:loopA _ _ _=L;have hI0:=RI.zero (c:=c) hn
 apply loop_upd hL (by simp(maxSteps:=9^9)(disch:=first|(intros;contradiction)|omega)only[go_sem]<;>rfl) (α:=List Bool×List Nat×Nat×Nat) (fun x=>RI c x.1 x.2.1 x.2.2.1∧x.2.2.1≤x.2.1.length) (fun x=>c.ins.length-x.2.2.1) (fun x=>[(5,.grow 3 x.2.2.2 (x.2.1.map rowN)),(6,.d (.int .i64 (x.2.2.1:Int)))]) (fun x=>[(2,.cells (bsA x.1)),(3,.grow x.2.2.2 1)])
  ((List.replicate c.ins.length false).set 0 true,[0],0,0) (by simp(maxSteps:=9^9)(disch:=first|(intros;contradiction)|omega)only[go_sem]<;>rfl) ⟨hI0,Nat.zero_le _⟩ ?_
 rintro⟨out,todo,i,e⟩ ⟨ri,hi⟩ next ih
 clear hL hI0 hs0 hfl hrep hl1;simp only at ri hi ih ⊢
 have htl:(todo.map rowN).length=todo.length:=List.length_map _
 have hlen:=ri.len
 have hbl:=bs_len out
 have hol:=ri.lo
 rcases Nat.lt_or_ge i todo.length with hi2|hi2
 ·obtain⟨k,hk⟩:∃ k,todo[i]?=some k:=⟨todo[i],List.getElem?_eq_getElem hi2⟩
  have hkm:=List.mem_of_getElem? hk
  have hkn:=ri.lt k hkm
  obtain⟨x,hx2⟩:∃ x,c.ins[k]?=some x:=⟨c.ins[k],List.getElem?_eq_getElem hkn⟩
  have hnx:nxC c k=nxtI x k:=by unfold nxC;rw[hx2]
  have hin:∀ y,y∈nxC c k→0≤y∧y<c.ins.length:=hc.inr k hkn
  have hnx2:=rnx08_e hx.toTX c k hx2 hnl (by rw[←hnx];exact hin)
  rw[←hnx]at hnx2;have hr1:(todo.map rowN)[i]?=some [.int .i64 (k:Int)]:=by rw[List.getElem?_map,hk];rfl
  have hlt:(i:Int)<(todo.length:Int):=by omega
  simp only[Cd1.av]at hnx2;rw[show ints (nxC c k)=.sl ((nxC c k).map rowI)from rfl]at hnx2
  simp(maxSteps:=9^9)(disch:=first|(intros;contradiction)|omega)only[go_sem,htl,hlt,hr1,hnx2]
  generalize hL:loopA _ _ _=L;apply range_upd hL (by simp(maxSteps:=9^9)(disch:=first|(intros;contradiction)|omega)only[go_sem]<;>rfl) (nxC c k) rowI (α:=List Bool×List Nat×Nat) (fun rest q a=>RI c a.1 a.2.1 i∧i<a.2.1.length∧a.2.1[i]?=some k∧∀ y:Nat,(y:Int)∈nxC c k→(y:Int)∈rest∨y∈a.2.1) (fun q a=>[(5,.grow 3 a.2.2 (a.2.1.map rowN)),(8,.d (.int .i64 (q:Int)))]) (fun _ a=>[(2,.cells (bsA a.1)),(3,.grow a.2.2 1)]) (out,todo,e) (by simp(maxSteps:=9^9)(disch:=first|(intros;contradiction)|omega)only[go_sem]<;>rfl) ⟨ri,hi2,hk,fun y hy=>.inl hy⟩ ?_ ?_
  ·rintro y rest q ⟨out2,todo2,e2⟩ ⟨r2,hi3,hk2,hy2⟩ hlt3 hr3 hget hq hrest next2 ih2
   clear hL ih hnx2;simp only at r2 hi3 hk2 hy2 ih2 ⊢
   obtain⟨y0,y1⟩:=hin y (List.mem_of_getElem? hget)
   obtain⟨yn,rfl⟩:∃ yn:Nat,y=(yn:Int):=⟨y.toNat,by omega⟩
   have hol2:=r2.lo
   have hq2:q<2:=by
    have:=nxtI_len x k
    rw[←hnx]at this;omega
   have hyn:yn<c.ins.length:=by omega
   have hb:∃ b,out2[yn]?=some b:=⟨out2[yn]'(by omega),List.getElem?_eq_getElem (by omega)⟩
   obtain⟨b,hb⟩:=hb
   have hba:=bs_at hb
   simp only[rowI]at hr3
   cases b with
   | true=>
    have hm:=(r2.mem yn hyn).1 hb
    simp(maxSteps:=9^9)(disch:=first|(intros;contradiction)|omega)only[go_sem,hlt3,hr3,y0,y1,hba,Nat.mul_one,wrap64]
    exact ih2 (out2,todo2,e2) _ ⟨r2,hi3,hk2,fun z hz=>by
     rcases hy2 z hz with h|h
     ·rcases List.mem_cons.1 h with h|h
      ·have:z=yn:=by omega
       subst this;exact .inr hm
      ·exact .inl h
     ·exact .inr h⟩ (by simp(maxSteps:=9^9)(disch:=first|(intros;contradiction)|omega)only[go_sem]<;>rfl)
   | false=>
    have hlen2:=r2.len
    have hrm2:room ((todo2.map rowN).length+1) 8:=by unfold room;simp;omega
    have hf1:fits 1 (todo2.map rowN):=by intro row h;obtain⟨x,_,rfl⟩:=List.mem_map.1 h;rfl
    have hap:todo2.map rowN++[[Dt.int .i64 (yn:Int)]]=(todo2++[yn]).map rowN:=by simp[rowN]
    have hbl2:=bs_len out2
    have hst:=bs_set (l:=out2) (i:=yn) (by omega) true
    have hspl:yn+1≤(bsA out2).length:=by omega
    simp(maxSteps:=9^9)(disch:=first|(intros;contradiction)|omega)only[go_sem,hlt3,hr3,y0,y1,hba,Nat.mul_one,wrap64,hrm2,hf1,hap,hst,hspl]
    exact ih2 (out2.set yn true,todo2++[yn],e2+1) _ ⟨r2.add (by omega) (List.mem_of_getElem? hk2) hx2 (List.mem_of_getElem? hget) hyn hb,by simp;omega,by rw[List.getElem?_append_left hi3];exact hk2,fun z hz=>by
     rcases hy2 z hz with h|h
     ·rcases List.mem_cons.1 h with h|h
      ·have:z=yn:=by omega
       subst this;exact .inr (by simp)
      ·exact .inl h
     ·exact .inr (List.mem_append_left _ h)⟩ (by simp(maxSteps:=9^9)(disch:=first|(intros;contradiction)|omega)only[go_sem]<;>rfl)
  ·rintro q ⟨out2,todo2,e2⟩ ⟨r2,hi3,hk2,hy2⟩ hlt3 hq next2
   clear hL hnx2;simp only at r2 hi3 hk2 hy2 ⊢
   simp(maxSteps:=9^9)(disch:=first|(intros;contradiction)|omega)only[go_sem,hlt3,wrap64]
   exact ih (out2,todo2,i+1,e2) _ ⟨r2.next hk2 fun y hy=>(hy2 y hy).elim (fun h=>by cases h) id,by simp only;omega⟩ (by simp only;omega) (by simp(maxSteps:=9^9)(disch:=first|(intros;contradiction)|omega)only[go_sem]<;>rfl)
 ·have hge:¬((i:Int)<(todo.length:Int)):=by omega
  simp(maxSteps:=9^9)(disch:=first|(intros;contradiction)|omega)only[go_sem,htl,hge]
  refine⟨out,ri.lo,fun k hk=>ri.says hi2 k hk,?_⟩
  rw[bsArr hol];simp(maxSteps:=9^9)(disch:=first|(intros;contradiction)|omega)only[go_sem]
end Go.Proofs.YticliodhjfednaaGreat
namespace Go.Proofs.YticliodhjfednaaGreat
open Go Go.Ab
variable {ext:Sem'}
structure CkR(ext:Sem')(c:Cd1):Prop extends CkF ext c where
 r22:∀ (k:Nat) (i:In1),c.ins[k]?=some i→G ext 19 [c.av,i.av] []=some (.ret (.d (.sl ((usesL i).map useRow))),[])
theorem raway_e(hx:TF ext)(c:Cd1)(i:In1)(v:Int)(hl:(usesL i).length≤1000)(h22:G ext 19 [c.av,i.av] []=some (.ret (.d (.sl ((usesL i).map useRow))),[])) :
  G ext 54 [c.av,i.av,.d (.int .i64 v)] []=some (.ret (.d (.bool (decide (v∈awayI i)))),[]):=by
 have hul:((usesL i).map useRow).length=(usesL i).length:=List.length_map _
 rw[G_body hx.clear rfl Tryz.func54 rfl Tryz.results54 hv_54 rfl];simp only[Cd1.av,In1.av]at h22 ⊢;simp(maxSteps:=9^9)(disch:=first|(intros;contradiction)|omega)only[go_sem,h22]
 generalize hL:loopA _ _ _=L;unfold awayI;apply range_upd hL (by simp(maxSteps:=9^9)(disch:=first|(intros;contradiction)|omega)only[go_sem]<;>rfl) (usesL i) useRow (α:=Unit) (fun rest q a=>decide (v∈givesL (usesL i))=decide (v∈givesL rest)) (fun q a=>[(8,.d (.int .i64 (q:Int)))]) (fun _ a=>[]) () (by simp(maxSteps:=9^9)(disch:=first|(intros;contradiction)|omega)only[go_sem]<;>rfl) rfl ?_ ?_
 ·rintro⟨w,kd⟩ rest q _ q1 hlt hr hget hq hrest next ih
  clear hL h22;simp only[useRow]at hr;by_cases h1:w=v
  ·by_cases h2:kd=3
   ·subst h1 h2;have hd:decide (w∈givesL ((w,3)::rest))=true:=by simp[givesL]
    rw[q1,hd];simp(maxSteps:=9^9)(disch:=first|(intros;contradiction)|omega)only[go_sem,hlt,hr]
   ·have hd:decide (v∈givesL ((w,kd)::rest))=decide (v∈givesL rest):=by simp[givesL,h2]
    rw[hd]at q1;have h2:=eq_false h2
    simp(maxSteps:=9^9)(disch:=first|(intros;contradiction)|omega)only[go_sem,hlt,hr,h1,h2,wrap64]
    exact ih () _ q1 (by simp(maxSteps:=9^9)(disch:=first|(intros;contradiction)|omega)only[go_sem]<;>rfl)
  ·have hd:decide (v∈givesL ((w,kd)::rest))=decide (v∈givesL rest):=by
    simp only[givesL];split
    ·simp[Ne.symm h1]
    ·rfl
   rw[hd]at q1;have h1:=eq_false h1
   simp(maxSteps:=9^9)(disch:=first|(intros;contradiction)|omega)only[go_sem,hlt,hr,h1,wrap64]
   exact ih () _ q1 (by simp(maxSteps:=9^9)(disch:=first|(intros;contradiction)|omega)only[go_sem]<;>rfl)
 ·rintro q _ q1 hlt hq next
  clear hL h22;have hd:decide (v∈givesL [])=false:=by simp[givesL]
  rw[hd]at q1;rw[q1];simp(maxSteps:=9^9)(disch:=first|(intros;contradiction)|omega)only[go_sem,hlt]
def bnA(l:List Bb):List AV:=l.map fun x=>.d (.int .i64 (bbN x:Int))
theorem bn_refs(l:List Bb):((bnA l).map refs).flatten=[]:=by
 induction l with
 | nil=>rfl
 | cons k l ih=>show refs (AV.d (.int .i64 (bbN k:Int)))++((bnA l).map refs).flatten=[];rw[ih];rfl
theorem bn_ren(f:Nat→Nat)(l:List Bb):(bnA l).map (ren f)=bnA l:=by
 induction l with
 | nil=>rfl
 | cons k l ih=>show ren f (AV.d (.int .i64 (bbN k:Int)))::(bnA l).map (ren f)=_::bnA l;rw[ih];rfl
theorem bn_rp:∀ l:List Bb,hasRpL (bnA l)=false
 | []=>rfl
 | b::l=>by show(hasRp (AV.d (.int .i64 (bbN b:Int)))||hasRpL (bnA l))=false;rw[bn_rp l];rfl
attribute [go_sem] bn_refs bn_ren bn_rp
theorem bn_len(l:List Bb):(bnA l).length=l.length:=List.length_map _
theorem bn_at{l:List Bb}{i:Nat}{b:Bb}(h:l[i]?=some b):(bnA l)[i]?=some (.d (.int .i64 (bbN b:Int))):=by unfold bnA;rw[List.getElem?_map,h];rfl
theorem bn_set{l:List Bb}{i:Nat}(h:i<l.length)(b:Bb):List.take i (bnA l)++[.d (.int .i64 (bbN b:Int))]++List.drop (i+1) (bnA l)=bnA (l.set i b):=by
 unfold bnA;rw[List.set_eq_take_append_cons_drop,if_pos h];simp
theorem bn_or(x y:Bb):orI .i64 (bbN x:Int) (bbN y:Int)=(bbN (bbO x y):Int):=by
 rcases x with⟨_|_,_|_⟩<;>rcases y with⟨_|_,_|_⟩<;>decide
theorem bnData(l:List Bb):dataAs (bnA l)=some (l.map fun x=>Dt.int .i64 (bbN x:Int)):=by
 induction l with
 | nil=>rfl
 | cons x l ih=>show(match some (Dt.int .i64 (bbN x:Int)),dataAs (bnA l)with|some x,some xs=>some (x::xs)|_,_=>none)=_;rw[ih];rfl
def rowX(x:Bb):List Dt:=[.int .i64 (bbN x:Int)]
theorem bnChunk(l:List Bb):chunk 1 l.length (l.map fun x=>Dt.int .i64 (bbN x:Int))=l.map rowX:=by
 induction l with
 | nil=>rfl
 | cons x l ih=>show rowX x::chunk 1 l.length (l.map fun x=>Dt.int .i64 (bbN x:Int))=_;rw[ih];rfl
theorem bnArr{n:Nat}{l:List Bb}(h:l.length=n):arrV n 1 (if n*1≤(bnA l).length then dataAs (List.take (n*1) (bnA l))else none)=some (.d (.sl (l.map rowX))):=by
 subst h;rw[Nat.mul_one,bn_len,if_pos (Nat.le_refl _),List.take_of_length_le (by rw[bn_len];exact Nat.le_refl _),bnData]
 show some (AV.d (.sl (chunk 1 l.length _)))=_
 rw[bnChunk]
structure StOk(c:Cd1)(v:Nat)(out:List Bb):Prop where
 len:out.length=c.ins.length
 says:∀ (k:Nat) (x:Bb),out[k]?=some x→∀ b,bbH x b=true↔Can c v k b
set_option maxHeartbeats 20000000 in
theorem states_e(hx:TF ext)(c:Cd1)(hc:CkR ext c)(v:Nat)(hv:v≤100000):∃ out:List Bb,StOk c v out∧G ext 30 [c.av,.d (.int .i64 v)] []=some (.ret (.d (.sl (out.map rowX))),[]):=by
 have hil:(c.ins.map In1.row).length=c.ins.length:=List.length_map _
 have hn:=hc.n
 have hnl:=hc.nl
 have hrm:room c.ins.length 8:=by unfold room;simp;omega
 have hrep:List.replicate c.ins.length (AV.d (.int .i64 0))=bnA (List.replicate c.ins.length (false,false)):=by unfold bnA;rw[List.map_replicate];rfl
 have h01:0≤(c.ins.length:Int):=by omega
 have hlt0:(0:Int)<(c.ins.length:Int):=by omega
 have hle:=Int.le_refl (c.ins.length:Int)
 have hfl:(List.replicate c.ins.length [AV.d (.int .i64 0)]).flatten=bnA (List.replicate c.ins.length (false,false)):=by
  rw[←hrep];generalize c.ins.length=n;induction n with
  | zero=>rfl
  | succ n ih=>simp only[List.replicate_succ,List.flatten_cons,ih];rfl
 have hl1:1≤(bnA (List.replicate c.ins.length ((false,false):Bb))).length:=by rw[bn_len];simp;omega
 have hs0:∀ b:Bb,(AV.d (.int .i64 (bbN b:Int)))::List.drop 1 (bnA (List.replicate c.ins.length (false,false)))=bnA ((List.replicate c.ins.length (false,false)).set 0 b):=fun b=>by
  have h:=bn_set (l:=List.replicate c.ins.length ((false,false):Bb)) (i:=0) (by simpa using hn) b
  simpa using h
 suffices hs:∃ r,G ext 30 [c.av,.d (.int .i64 v)] []=r∧∃ out:List Bb,StOk c v out∧r=some (.ret (.d (.sl (out.map rowX))),[])by
  obtain⟨r,h1,out,h2,h3⟩:=hs
  exact⟨out,h2,h1.trans h3⟩
 refine⟨_,rfl,?_⟩
 obtain⟨hI0,hC0⟩:=SI.zero (c:=c) (v:=v) hn
 obtain⟨x0,hx0⟩:∃ x0,x0=bbOf (decide (v<c.params.toNat)):=⟨_,rfl⟩
 rw[←hx0]at hI0 hC0;have hl2:1≤(bnA ((List.replicate c.ins.length ((false,false):Bb)).set 0 (false,true))).length:=by rw[bn_len];simp;omega
 rw[G_body hx.clear rfl Tryz.func30 rfl Tryz.results30 hv_30 rfl];simp only[Cd1.av];by_cases hp:(v:Int)<c.params
 case' pos=>
  have hp2:decide (v<c.params.toNat)=true:=by simp;omega
  rw[hp2]at hx0;have hs2:=hs0 (false,true)
  rw[show((bbN (false,true):Nat):Int)=2 from rfl]at hs2
  have hs3:(AV.d (.int .i64 1))::List.drop 1 (bnA ((List.replicate c.ins.length (false,false)).set 0 (false,true)))=bnA ((List.replicate c.ins.length (false,false)).set 0 x0):=by
   have h:=bn_set (l:=(List.replicate c.ins.length ((false,false):Bb)).set 0 (false,true)) (i:=0) (by simpa using hn) x0
   rw[List.set_set]at h;rw[hx0]at h ⊢;rw[show((bbN (bbOf true):Nat):Int)=1 from rfl]at h
   simpa using h
  clear hs0 hx0 hp2;simp(maxSteps:=9^9)(disch:=first|(intros;contradiction)|omega)only[go_sem,hil,hrm,h01,hle,hfl,hlt0,Nat.mul_one,hl1,hl2,hs2,hs3,hp]
  clear hs2 hs3 hp;generalize hL:loopA _ _ _=L
 case' neg=>
  have hp2:decide (v<c.params.toNat)=false:=by simp;omega
  rw[hp2]at hx0;have hs2:=hs0 x0
  rw[hx0,show((bbN (bbOf false):Nat):Int)=2 from rfl,←hx0]at hs2
  clear hs0 hx0 hp2;simp(maxSteps:=9^9)(disch:=first|(intros;contradiction)|omega)only[go_sem,hil,hrm,h01,hle,hfl,hlt0,Nat.mul_one,hl1,hs2,hp]
  clear hs2 hp;generalize hL:loopA _ _ _=L
 all_goals
  apply loop_upd hL (by simp(maxSteps:=9^9)(disch:=first|(intros;contradiction)|omega)only[go_sem]<;>rfl) (α:=List Bb×List Nat×Nat×Nat) (fun x=>SI c v x.1 x.2.1 x.2.2.1∧SC c v x.1 x.2.1 x.2.2.1∧x.2.2.1≤x.2.1.length) (fun x=>2*c.ins.length-x.2.2.1) (fun x=>[(7,.grow 3 x.2.2.2 (x.2.1.map rowN)),(8,.d (.int .i64 (x.2.2.1:Int)))]) (fun x=>[(2,.cells (bnA x.1)),(3,.grow x.2.2.2 1)])
   ((List.replicate c.ins.length (false,false)).set 0 x0,[0],0,0) (by simp(maxSteps:=9^9)(disch:=first|(intros;contradiction)|omega)only[go_sem]<;>rfl) ⟨hI0,hC0,Nat.zero_le _⟩ ?_
  rintro⟨out,todo,i,e⟩ ⟨si,sc,hi⟩ next ih
  clear hL hI0 hC0 hfl hrep hl1 hl2;simp only at si sc hi ih ⊢
  have htl:(todo.map rowN).length=todo.length:=List.length_map _
  have hlen:=si.len
  have hbl:=bn_len out
  have hol:=si.lo
  rcases Nat.lt_or_ge i todo.length with hi2|hi2
  ·obtain⟨k,hk⟩:∃ k,todo[i]?=some k:=⟨todo[i],List.getElem?_eq_getElem hi2⟩
   have hkm:=List.mem_of_getElem? hk
   have hkn:=si.lt k hkm
   obtain⟨ins,hins⟩:∃ x,c.ins[k]?=some x:=⟨c.ins[k],List.getElem?_eq_getElem hkn⟩
   obtain⟨x,hxo⟩:∃ x,out[k]?=some x:=⟨out[k]'(by omega),List.getElem?_eq_getElem (by omega)⟩
   have hxn:x≠(false,false):=fun q=>si.some_ k hkm (by rw[hxo,q])
   have hcan:∀ b,bbH x b=true→Can c v k b:=fun b hb=>si.can k x b hxo hb
   have hnx:nxC c k=nxtI ins k:=by unfold nxC;rw[hins]
   have hin:∀ y,y∈nxC c k→0≤y∧y<c.ins.length:=hc.inr k hkn
   have hnx2:=rnx08_e hx.toTX c k hins hnl (by rw[←hnx];exact hin)
   rw[←hnx]at hnx2;have hr1:(todo.map rowN)[i]?=some [.int .i64 (k:Int)]:=by rw[List.getElem?_map,hk];rfl
   have hlt:(i:Int)<(todo.length:Int):=by omega
   have hir:(c.ins.map In1.row)[k]?=some ins.row:=by rw[List.getElem?_map,hins];rfl
   have hoa:=bn_at hxo
   have haw:=raway_e hx c ins v (hc.ins k ins hins).1 (hc.r22 k ins hins)
   have hwr:=rwrites_e hx.toTX ins
   have hk0:0≤(k:Int):=by omega
   have hk1:(k:Int)<(c.ins.length:Int):=by omega
   have hsm:=SM.begin si sc hk hxo
   have hnl2:(nxC c k).length≤2:=by rw[hnx];exact nxtI_len ins k
   simp only[Cd1.av,In1.av]at hnx2 haw hwr;simp only[In1.row]at hir;rw[show ints (nxC c k)=.sl ((nxC c k).map rowI)from rfl]at hnx2
   obtain⟨s,hs⟩:∃ s,s=bbT ins v x:=⟨_,rfl⟩
   by_cases hD:hasD ins.op=true
   case' pos=>
    have hwp:writesP ins=ins.d:=by unfold writesP;rw[hD];rfl
    rw[hD,hwp]at hwr;rcases Decidable.em (ins.d=(v:Int))with hd|hd
    case' inl=>
     have hdt:=eq_true hd
     have hs1:s=(true,false):=by rw[hs];unfold bbT;rw[if_pos ⟨hD,hd⟩]
     cases ha:decide ((v:Int)∈awayI ins)
     case' true=>
      rw[ha]at haw;simp(maxSteps:=9^9)(disch:=first|(intros;contradiction)|omega)only[go_sem,htl,hil,hlt,hr1,hk0,hk1,hoa,hir,haw,hwr,hdt,hnx2,Nat.mul_one]
      generalize hL:loopA _ _ _=L
     case' false=>
      rw[ha]at haw;simp(maxSteps:=9^9)(disch:=first|(intros;contradiction)|omega)only[go_sem,htl,hil,hlt,hr1,hk0,hk1,hoa,hir,haw,hwr,hdt,hnx2,Nat.mul_one]
      generalize hL:loopA _ _ _=L
    case' inr=>
     have hdn:=eq_false hd
     cases ha:decide ((v:Int)∈awayI ins)
     case' true=>
      have hs1:s=(false,true):=by rw[hs];unfold bbT;rw[if_neg (fun q=>hd q.2),if_pos (by simpa using ha)]
      rw[ha]at haw;simp(maxSteps:=9^9)(disch:=first|(intros;contradiction)|omega)only[go_sem,htl,hil,hlt,hr1,hk0,hk1,hoa,hir,haw,hwr,hdn,hnx2,Nat.mul_one]
      generalize hL:loopA _ _ _=L
     case' false=>
      have hs1:s=x:=by rw[hs];unfold bbT;rw[if_neg (fun q=>hd q.2),if_neg (by simpa using ha)]
      rw[ha]at haw;simp(maxSteps:=9^9)(disch:=first|(intros;contradiction)|omega)only[go_sem,htl,hil,hlt,hr1,hk0,hk1,hoa,hir,haw,hwr,hdn,hnx2,Nat.mul_one]
      generalize hL:loopA _ _ _=L
   case' neg=>
    have hD:hasD ins.op=false:=by simpa using hD
    rw[hD]at hwr
    cases ha:decide ((v:Int)∈awayI ins)
    case' true=>
     have hs1:s=(false,true):=by rw[hs];unfold bbT;rw[if_neg (by rw[hD];simp),if_pos (by simpa using ha)]
     rw[ha]at haw;simp(maxSteps:=9^9)(disch:=first|(intros;contradiction)|omega)only[go_sem,htl,hil,hlt,hr1,hk0,hk1,hoa,hir,haw,hwr,hnx2,Nat.mul_one]
     generalize hL:loopA _ _ _=L
    case' false=>
     have hs1:s=x:=by rw[hs];unfold bbT;rw[if_neg (by rw[hD];simp),if_neg (by simpa using ha)]
     rw[ha]at haw;simp(maxSteps:=9^9)(disch:=first|(intros;contradiction)|omega)only[go_sem,htl,hil,hlt,hr1,hk0,hk1,hoa,hir,haw,hwr,hnx2,Nat.mul_one]
     generalize hL:loopA _ _ _=L
   all_goals
    apply range_upd hL (by simp(maxSteps:=9^9)(disch:=first|(intros;contradiction)|omega)only[go_sem]<;>rfl) (nxC c k) rowI (α:=List Bb×List Nat×Nat) (fun rest q a=>SM c v i k x rest a.1 a.2.1) (fun q a=>[(7,.grow 3 a.2.2 (a.2.1.map rowN)),(10,.d (.int .i64 (bbN s:Int))),(14,.d (.int .i64 (q:Int)))]) (fun _ a=>[(2,.cells (bnA a.1)),(3,.grow a.2.2 1)]) (out,todo,e) (by rw[hs1];simp(maxSteps:=9^9)(disch:=first|(intros;contradiction)|omega)only[go_sem]<;>rfl) hsm ?_ ?_
    ·rintro y rest q ⟨out2,todo2,e2⟩ sm hlt3 hr3 hget hq hrest next2 ih2
     clear hL ih hnx2 haw hwr hs1 hir hr1 hoa hsm;simp only at sm ih2 ⊢
     have hym:=List.mem_of_getElem? hget
     obtain⟨y0,y1⟩:=hin y hym
     obtain⟨yn,rfl⟩:∃ yn:Nat,y=(yn:Int):=⟨y.toNat,by omega⟩
     have hyn:yn<c.ins.length:=by omega
     have hol2:=sm.si.lo
     obtain⟨z,hz⟩:∃ z,out2[yn]?=some z:=⟨out2[yn]'(by omega),List.getElem?_eq_getElem (by omega)⟩
     have hza:=bn_at hz
     have hor:=bn_or z s
     have hq2:q<2:=by omega
     have hzt:out2[((yn:Nat):Int).toNat]?=some z:=by rw[Int.toNat_natCast];exact hz
     simp only[rowI]at hr3;by_cases he:bbO z s=z
     ·have heq:((bbN (bbO z s):Int)=(bbN z:Int))=True:=eq_true (by rw[he])
      have hnext:=sm.same hins hzt (by rw[←hs];exact he)
      simp(maxSteps:=9^9)(disch:=first|(intros;contradiction)|omega)only[go_sem,hlt3,hr3,y0,y1,hza,hor,heq,Nat.mul_one,wrap64]
      exact ih2 (out2,todo2,e2) _ hnext (by simp(maxSteps:=9^9)(disch:=first|(intros;contradiction)|omega)only[go_sem]<;>rfl)
     ·have heq:((bbN (bbO z s):Int)=(bbN z:Int))=False:=eq_false (fun q=>he (bbN_inj (by omega)))
      have hnext:=sm.more hins hxn hcan (by omega) (by rw[Int.toNat_natCast];exact hyn) hym hzt (by rw[←hs];exact he)
      rw[Int.toNat_natCast,←hs]at hnext;have hlen2:=sm.si.len
      have hrm2:room ((todo2.map rowN).length+1) 8:=by unfold room;simp;omega
      have hf1:fits 1 (todo2.map rowN):=by intro row h;obtain⟨x,_,rfl⟩:=List.mem_map.1 h;rfl
      have hap:todo2.map rowN++[[Dt.int .i64 (yn:Int)]]=(todo2++[yn]).map rowN:=by simp[rowN]
      have hbl2:=bn_len out2
      have hst:=bn_set (l:=out2) (i:=yn) (by omega) (bbO z s)
      have hspl:yn+1≤(bnA out2).length:=by omega
      simp(maxSteps:=9^9)(disch:=first|(intros;contradiction)|omega)only[go_sem,hlt3,hr3,y0,y1,hza,hor,heq,Nat.mul_one,wrap64,hrm2,hf1,hap,hst,hspl]
      exact ih2 (out2.set yn (bbO z s),todo2++[yn],e2+1) _ hnext (by simp(maxSteps:=9^9)(disch:=first|(intros;contradiction)|omega)only[go_sem]<;>rfl)
    ·rintro q ⟨out2,todo2,e2⟩ sm hlt3 hq next2
     clear hL hnx2 haw hwr hs1 hir hr1 hoa hsm;simp only at sm ⊢
     obtain⟨si2,sc2⟩:=sm.done
     have hil2:=(List.getElem?_eq_some_iff.1 sm.at_).1
     have hlen2:=si2.len
     simp(maxSteps:=9^9)(disch:=first|(intros;contradiction)|omega)only[go_sem,hlt3,wrap64]
     exact ih (out2,todo2,i+1,e2) _ ⟨si2,sc2,by simp only;omega⟩ (by simp only;omega) (by simp(maxSteps:=9^9)(disch:=first|(intros;contradiction)|omega)only[go_sem]<;>rfl)
  ·have hge:¬((i:Int)<(todo.length:Int)):=by omega
   simp(maxSteps:=9^9)(disch:=first|(intros;contradiction)|omega)only[go_sem,htl,hge]
   refine⟨out,⟨si.lo,fun k x hk b=>si.says sc hi2 hk b⟩,?_⟩
   rw[bnArr hol];simp(maxSteps:=9^9)(disch:=first|(intros;contradiction)|omega)only[go_sem]
end Go.Proofs.YticliodhjfednaaGreat
namespace Go.Proofs.YticliodhjfednaaGreat
open Go Go.Ab
variable {ext:Sem'}
theorem dup_cons(x v:Int)(l:List Int):dupAt (x::l) v=if v=x then l.any (fun y=>decide (v=y))else dupAt l v:=by
 unfold dupAt idxN;simp only[idxP];by_cases h:v=x
 ·rw[if_pos h,if_pos (by simpa using h)]
  simp
 ·rw[if_neg h,if_neg (by simpa using h)]
  cases hq:idxP (fun y=>decide (v=y)) l with
  | none=>simp[h]
  | some n=>
   simp only[Option.map_some];have e1:(((n+1:Nat):Int)+1).toNat=n+1+1:=by omega
   have e2:((n:Int)+1).toNat=n+1:=by omega
   rw[e1,e2,List.drop_succ_cons]
theorem dup_iff(v:Int):∀ l:List Int,dupAt l v=true↔∃ b a:Nat,b<a∧l[b]?=some v∧l[a]?=some v
 | []=>by
  constructor
  ·intro h;simp[dupAt]at h
  ·rintro⟨b,a,_,h,_⟩;simp at h
 | x::l=>by
  rw[dup_cons];by_cases h:v=x
  ·subst h;rw[if_pos rfl];constructor
   ·intro hq;obtain⟨y,hy,e⟩:=List.any_eq_true.1 hq
    have e:v=y:=by simpa using e
    subst e;obtain⟨a,ha⟩:=List.getElem?_of_mem hy
    exact⟨0,a+1,by omega,rfl,by simpa using ha⟩
   ·rintro⟨b,a,hlt,hb,ha⟩
    obtain⟨a,rfl⟩:∃ a',a=a'+1:=⟨a-1,by omega⟩
    exact List.any_eq_true.2 ⟨v,List.mem_of_getElem? (by simpa using ha),by simp⟩
  ·rw[if_neg h,dup_iff v l];constructor
   ·rintro⟨b,a,hlt,hb,ha⟩
    exact⟨b+1,a+1,by omega,by simpa using hb,by simpa using ha⟩
   ·rintro⟨b,a,hlt,hb,ha⟩
    obtain⟨a,rfl⟩:∃ a',a=a'+1:=⟨a-1,by omega⟩
    cases b with
    | zero=>simp at hb;exact absurd hb.symm h
    | succ b=>exact⟨b,a,by omega,by simpa using hb,by simpa using ha⟩
def Twice(i:In1):Prop:=∃ b a:Nat,b<a∧∃ v,(readsP i)[b]?=some v∧(readsP i)[a]?=some v∧v∈awayI i
theorem twice_iff(i:In1):Twice i↔∃ v,v∈awayI i∧dupAt (readsP i) v=true:=by
 constructor
 ·rintro⟨b,a,h,v,h1,h2,h3⟩
  exact⟨v,h3,(dup_iff v _).2 ⟨b,a,h,h1,h2⟩⟩
 ·rintro⟨v,h3,h4⟩
  obtain⟨b,a,h,h1,h2⟩:=(dup_iff v _).1 h4
  exact⟨b,a,h,v,h1,h2,h3⟩
theorem rtw23_e(hx:TF ext)(c:Cd1)(i:In1)(hl:i.args.length≤1000)(hul:(usesL i).length≤1000)(h22:G ext 19 [c.av,i.av] []=some (.ret (.d (.sl ((usesL i).map useRow))),[])) :
  ∃ b:Bool,(b=true↔Twice i)∧G ext 34 [c.av,i.av] []=some (.ret (.d (.bool b)),[]):=by
 have hrd:=rreads_e hx.toTX i hl
 have haw:=fun v=>raway_e hx c i v hul h22
 have hrl:((readsP i).map rowI).length=(readsP i).length:=List.length_map _
 suffices hs:∃ r,G ext 34 [c.av,i.av] []=r∧∃ b:Bool,(b=true↔Twice i)∧r=some (.ret (.d (.bool b)),[])by
  obtain⟨r,h1,b,h2,h3⟩:=hs
  exact⟨b,h2,h1.trans h3⟩
 refine⟨_,rfl,?_⟩
 rw[G_body hx.clear rfl Tryz.func34 rfl Tryz.results34 hv_34 rfl];simp only[Cd1.av,In1.av]at hrd haw ⊢;rw[show ints (readsP i)=.sl ((readsP i).map rowI)from rfl]at hrd
 simp(maxSteps:=9^9)(disch:=first|(intros;contradiction)|omega)only[go_sem,hrd]
 clear h22 hrd;generalize hL:loopA _ _ _=L
 have hrl2:(readsP i).length≤1002:=by
  have:=reads_len i
  omega
 apply range_upd hL (by simp(maxSteps:=9^9)(disch:=first|(intros;contradiction)|omega)only[go_sem]<;>rfl) (readsP i) rowI (α:=Unit) (fun rest q _=>∀ (b a:Nat) (v:Int),b<a→a<q→(readsP i)[b]?=some v→(readsP i)[a]?=some v→v∉awayI i) (fun q _=>[(6,.d (.int .i64 (q:Int)))]) (fun _ _=>[]) () (by simp(maxSteps:=9^9)(disch:=first|(intros;contradiction)|omega)only[go_sem]<;>rfl) (fun b a v _ h=>absurd h (by omega)) ?_ ?_
 ·rintro x rest q _ q1 hlt3 hr3 hget hq hrest next ih
  clear hL;simp only[rowI]at hr3;simp(maxSteps:=9^9)(disch:=first|(intros;contradiction)|omega)only[go_sem,hlt3,hr3]
  generalize hL:loopA _ _ _=L;apply loop_upd hL (by simp(maxSteps:=9^9)(disch:=first|(intros;contradiction)|omega)only[go_sem]<;>rfl) (α:=Nat) (fun b=>b≤q∧∀ (b':Nat) (v:Int),b'<b→(readsP i)[b']?=some v→(readsP i)[q]?=some v→v∉awayI i) (fun b=>q-b) (fun b=>[(7,.d (.int .i64 (b:Int)))]) (fun _=>[]) 0 (by simp(maxSteps:=9^9)(disch:=first|(intros;contradiction)|omega)only[go_sem]<;>rfl) ⟨Nat.zero_le _,fun b' v h=>absurd h (by omega)⟩ ?_
  rintro b ⟨b1,b2⟩ next2 ih2
  clear hL;rcases Nat.lt_or_ge b q with hb|hb
  ·obtain⟨y,hy⟩:∃ y,(readsP i)[b]?=some y:=⟨(readsP i)[b]'(by omega),List.getElem?_eq_getElem (by omega)⟩
   have hyr:((readsP i).map rowI)[b]?=some [.int .i64 y]:=by rw[List.getElem?_map,hy];rfl
   have hbq:(b:Int)<(q:Int):=by omega
   have hbl:(b:Int)<(((readsP i).map rowI).length:Int):=by omega
   have hx3:=haw x
   by_cases e:x=y
   ·subst e
    cases ha:decide (x∈awayI i)with
    | true=>
     rw[ha]at hx3;simp(maxSteps:=9^9)(disch:=first|(intros;contradiction)|omega)only[go_sem,hlt3,hr3,hyr,hbq,hbl,hx3]
     exact⟨true,iff_of_true rfl ⟨b,q,hb,x,hy,hget,by simpa using ha⟩,rfl⟩
    | false=>
     rw[ha]at hx3;simp(maxSteps:=9^9)(disch:=first|(intros;contradiction)|omega)only[go_sem,hlt3,hr3,hyr,hbq,hbl,hx3,wrap64]
     refine ih2 (b+1) _ ⟨by omega,fun b' v hb' h1 h2=>?_⟩ (by omega) (by simp(maxSteps:=9^9)(disch:=first|(intros;contradiction)|omega)only[go_sem]<;>rfl)
     rcases Nat.lt_or_ge b' b with h3|h3
     ·exact b2 b' v h3 h1 h2
     ·rw[hget]at h2
      cases h2;simpa using ha
   ·have e':=eq_false e
    simp(maxSteps:=9^9)(disch:=first|(intros;contradiction)|omega)only[go_sem,hlt3,hr3,hyr,hbq,hbl,e',wrap64]
    refine ih2 (b+1) _ ⟨by omega,fun b' v hb' h1 h2=>?_⟩ (by omega) (by simp(maxSteps:=9^9)(disch:=first|(intros;contradiction)|omega)only[go_sem]<;>rfl)
    rcases Nat.lt_or_ge b' b with h3|h3
    ·exact b2 b' v h3 h1 h2
    ·have:b'=b:=by omega
     subst this;rw[hget]at h2;rw[hy]at h1
     cases h1
     cases h2;exact absurd rfl e
  ·have hbq:¬(b:Int)<(q:Int):=by omega
   simp(maxSteps:=9^9)(disch:=first|(intros;contradiction)|omega)only[go_sem,hbq,wrap64]
   refine ih () _ (fun b' a v h1 h2 h3 h4=>?_) (by simp(maxSteps:=9^9)(disch:=first|(intros;contradiction)|omega)only[go_sem]<;>rfl)
   rcases Nat.lt_or_ge a q with h5|h5
   ·exact q1 b' a v h1 h5 h3 h4
   ·have:a=q:=by omega
    subst this;exact b2 b' v (by omega) h3 h4
 ·rintro q _ q1 hlt3 hq next
  clear hL;simp(maxSteps:=9^9)(disch:=first|(intros;contradiction)|omega)only[go_sem,hlt3]
  refine⟨false,iff_of_false (by decide) ?_,rfl⟩
  rintro⟨b,a,h1,v,h2,h3,h4⟩
  exact q1 b a v h1 (by have:=(List.getElem?_eq_some_iff.1 h3).1;omega) h2 h3 h4
def rowTb(l:List Bb):List Dt:=[.sl (l.map rowX)]
structure TbOk(c:Cd1)(T:List (List Bb)):Prop where
 len:T.length=c.vars.length
 ok:∀ (v:Nat) (l:List Bb),T[v]?=some l→StOk c v l
theorem table_e(hx:TF ext)(c:Cd1)(hc:CkR ext c):∃ T,TbOk c T∧G ext 14 [c.av] []=some (.ret (.d (.sl (T.map rowTb))),[]):=by
 have hv:=hc.v
 suffices hs:∃ r,G ext 14 [c.av] []=r∧∃ T,TbOk c T∧r=some (.ret (.d (.sl (T.map rowTb))),[])by
  obtain⟨r,h1,T,h2,h3⟩:=hs
  exact⟨T,h2,h1.trans h3⟩
 refine⟨_,rfl,?_⟩
 rw[G_body hx.clear rfl Tryz.func14 rfl Tryz.results14 hv_14 rfl];simp only[Cd1.av];simp(maxSteps:=9^9)(disch:=first|(intros;contradiction)|omega)only[go_sem]
 generalize hL:loopA _ _ _=L;apply range_upd hL (by simp(maxSteps:=9^9)(disch:=first|(intros;contradiction)|omega)only[go_sem]<;>rfl) c.vars Vr1.row (α:=List (List Bb)×Nat) (fun rest q a=>a.1.length=q∧∀ (v:Nat) (l:List Bb),a.1[v]?=some l→StOk c v l) (fun q a=>[(3,.grow 2 a.2 (a.1.map rowTb)),(4,.d (.int .i64 (q:Int)))]) (fun _ a=>[(2,.grow a.2 1)]) ([],0) (by simp(maxSteps:=9^9)(disch:=first|(intros;contradiction)|omega)only[go_sem]<;>rfl) ⟨rfl,fun v l h=>by simp at h⟩ ?_ ?_
 ·rintro x rest q ⟨T,e⟩ ⟨q1,q2⟩ hlt3 hr3 hget hq hrest next ih
  clear hL;simp only at q1 q2 ih ⊢
  obtain⟨out,ho,hst⟩:=states_e hx c hc q (by omega)
  simp only[Cd1.av]at hst;have hTl:(T.map rowTb).length=T.length:=List.length_map _
  have hrm:room ((T.map rowTb).length+1) 24:=by unfold room;simp;omega
  have hf1:fits 1 (T.map rowTb):=by intro row h;obtain⟨x,_,rfl⟩:=List.mem_map.1 h;rfl
  have hap:T.map rowTb++[[Dt.sl (out.map rowX)]]=(T++[out]).map rowTb:=by simp[rowTb]
  simp(maxSteps:=9^9)(disch:=first|(intros;contradiction)|omega)only[go_sem,hlt3,hst,hrm,hf1,hap,wrap64]
  refine ih (T++[out],e+1) _ ⟨by simp;omega,fun v l h=>?_⟩ (by simp(maxSteps:=9^9)(disch:=first|(intros;contradiction)|omega)only[go_sem]<;>rfl)
  rcases Nat.lt_or_ge v T.length with h1|h1
  ·rw[List.getElem?_append_left h1]at h
   exact q2 v l h
  ·rw[List.getElem?_append_right h1]at h
   have hv0:v-T.length=0:=by
    have:=(List.getElem?_eq_some_iff.1 h).1
    simp at this;exact this
   rw[hv0]at h;simp at h;subst h;rw[show v=q by omega]
   exact ho
 ·rintro q ⟨T,e⟩ ⟨q1,q2⟩ hlt3 hq next
  clear hL;simp only at q1 q2 ⊢
  simp(maxSteps:=9^9)(disch:=first|(intros;contradiction)|omega)only[go_sem,hlt3]
  exact⟨T,⟨by omega,q2⟩,rfl⟩
end Go.Proofs.YticliodhjfednaaGreat
namespace Go.Proofs.YticliodhjfednaaGreat
open Go Go.Ab
variable {ext:Sem'}
structure TLF(ext:Sem'):Prop extends TL ext where
 tf:TF ext
theorem ckr_ok(hx:TX ext){m:Md1}(hm:LightM m)(h:formedP m=0){c:Cd1}(hc:c∈m.funcs):CkR ext c:=by
 refine⟨cd_ok hx hm h hc,fun k i hi=>?_⟩
 have him:=List.mem_of_getElem? hi
 obtain⟨h1,h2⟩:=formed_in h hc him
 exact rinstr22_e hx m c i h1 h2 (by have:=(hm.ins c hc i him).1;omega)
theorem ckr_reads(hx:TX ext){m:Md1}(h:formedP m=0){c:Cd1}(hc:c∈m.funcs){i:In1}(hi:i∈c.ins):∀ v,v∈readsP i→0≤v∧v<c.vars.length:=by
 intro v hv;obtain⟨h1,h2⟩:=formed_in h hc hi
 obtain⟨_,hu⟩:=instr_uses h1
 have:=List.all_eq_true.1 hu v (List.mem_append_left _ hv)
 have:=inV_iff.1 this
 exact⟨this.1,this.2⟩
end Go.Proofs.YticliodhjfednaaGreat
namespace Go.Proofs.YticliodhjfednaaGreat
open Go Go.Ab Go.RowKit
theorem two_gh{α:Type}{x y z:α}{r:Nat}(h:[x,z][r]?=some y):(r=0∧y=x)∨(r=1∧y=z):=by
 rcases r with _|_|r
 ·simp at h;exact .inl ⟨rfl,h.symm⟩
 ·simp at h;exact .inr ⟨rfl,h.symm⟩
 ·simp at h
def isU(c:AV):Bool:=match c with
 | .d (.int .u64 _)=>true
 | _=>false
theorem isU_of{c:AV}(h:isU c=true):∃ z,c=.d (.int .u64 z):=by
 unfold isU at h;split at h
 ·exact⟨_,rfl⟩
 ·cases h
theorem new_post{P:Program}{w w':World}{Im:Imm}{x:Gh}{bs:List (List AV)}{cs:List AV}{gb cap:Nat}{cur:Array Value}{t:TypeId}(hH:HR P w Im [x] [.reg bs])(hu:∀ c,c∈cs→isU c=true)(hbase:w.heap.size≤gb)(hblk:w'.heap[gb]?=some (.cells cur t (0,0)))
  (hcap:cs.length≤cap) (hsz:cs.length≤cur.size) (hrep:∀ (i:Nat) (v:Value) (c:AV),cur.toList[i]?=some v→cs[i]?=some c→∃ z,v=.int .u64 z∧c=.d (.int .u64 z)) (hone:∀ u,u∈cur.toList→u.oneCell'=true) (hb:Below w.heap.size w w') :
  CallPost P w Im [x] (.ret (.arr 1 0 cs.length 1)) [.reg bs,.cells cs] (.returned (.slice (some ⟨gb,0,none⟩) cs.length cap)) w':=by
 have hIm:=hH.im
 have hglt:gb<w'.heap.size:=(Array.getElem?_eq_some_iff.1 hblk).1
 have keep:∀ (b o:Nat),Im b o→w'.cell? ⟨b,o,none⟩=w.cell? ⟨b,o,none⟩:=fun b o h=>by unfold World.cell?;rw[hb.block b (hIm b o h)]
 have e:Ext w Im [x] w' Im ([x]++[.cell gb]):=⟨hb.os,hb.tape,hb.output,hb.size,fun _ _ h=>h,keep,fun k hk _=>hb.block k hk,fun _ _ h=>.inl h,fun k hk=>by
  obtain⟨r,y,h1,h2⟩:=hk
  rcases two_gh h1 with⟨rfl,rfl⟩|⟨rfl,rfl⟩
  ·exact .inl ⟨0,y,rfl,h2⟩
  ·exact .inr (by rw[←show gb=k from h2];exact hbase),gle_more _ _⟩
 refine⟨Im,[x,.cell gb],hH.go e rfl (fun r=>r=1) (fun r h=>?_) (fun r y k h hx ho=>?_) (fun r cs2 h hc=>?_) (fun r ep s h hc=>?_) (fun r es h hc=>?_) (fun r a b c h hc=>?_) (fun r acc h hc=>?_) (fun r r' k y y' h hne h1 h2 ho=>?_) (fun r k y h h1 h2=>?_) (fun b o h=>Nat.lt_of_lt_of_le (hIm b o h) hb.size),e,_,rfl,.arr (b:=gb) rfl (.inl rfl) hcap⟩
 ·rcases r with _|_|r
  ·exact⟨rfl,rfl⟩
  ·exact absurd rfl h
  ·exact⟨rfl,rfl⟩
 ·have hl:=hH.lt k ⟨r,y,hx,ho⟩
  exact⟨hb.block k hl,fun _ h=>h⟩
 ·subst h;simp only[List.getElem?_cons_succ,List.getElem?_cons_zero,Option.some.injEq,AObj.cells.injEq]at hc
  subst hc;refine⟨gb,rfl,cur.toList,t,hblk,by simpa using hsz,fun i v c hv hc=>?_,hone,fun o ho=>?_⟩
  ·obtain⟨z,rfl,rfl⟩:=hrep i v c hv hc
   exact .d (.int _ _)
  ·have:=hIm _ _ ho;omega
 ·subst h;cases hc
 ·subst h;cases hc
 ·subst h;cases hc
 ·subst h;cases hc
 ·subst h;simp only[List.getElem?_cons_succ,List.getElem?_cons_zero,Option.some.injEq]at h1
  subst h1;have hk:gb=k:=ho
  subst hk;rcases two_gh h2 with⟨rfl,rfl⟩|⟨rfl,rfl⟩
  ·intro ho2;have:=hH.lt gb ⟨0,_,rfl,ho2⟩
   omega
  ·exact absurd rfl hne
 ·subst h;simp only[List.getElem?_cons_succ,List.getElem?_cons_zero,Option.some.injEq]at h1
  subst h1;have hk:gb=k:=h2
  omega
def rcloneX:List AV→List AObj→Option (Out×List AObj)
 | [.rs k 0 n 1],[.reg bs]=>match bs[k]? with
  | some cs=>if cs.length=n∧n≤1000∧cs.all isU=true then some (.ret (.arr 1 0 n 1),[.reg bs,.cells cs])else none
  | none=>none
 | _,_=>none
theorem rclone_sound(as0:List AV)(H:List AObj)(out:Out)(H':List AObj)(h:rcloneX as0 H=some (out,H')):(∀ args w,(callFunc 44 args).run Tryz.prog w=.ok (.enter 44 args) w)∧H.length≤H'.length ∧
  ∀ (w:World) (Im:Imm) (g:List Gh) (vs:List Value),HR Tryz.prog w Im g H→RepAs w Im g vs as0→Calls Tryz.prog 44 ⟨vs⟩ w (CallPost Tryz.prog w Im g out H'):=by
 unfold rcloneX at h;split at h
 ·rename_i k n bs;split at h
  ·rename_i cs hk;split at h
   ·rename_i hc;obtain⟨rfl,hn,hu⟩:=hc
    cases h;refine⟨enter_of Tryz.func44 (by kernel_rfl) rfl,by simp,fun w Im g vs hH hr=>?_⟩
    have hu2:∀ c,c∈cs→isU c=true:=fun c hc=>List.all_eq_true.1 hu c hc
    match g,hH.len with
    | [x],_=>
     obtain⟨hl,hr⟩:=hr
     match vs,hl with
     | [v],_=>
      have hv:=hr 0 v _ rfl rfl
      cases hv with
      | rs hg0 hk0 ho hc0=>
       rename_i off' b cap blks _;obtain⟨blks',q1,q2,q3,q4⟩:=hH.rg.at_ bs rfl
       rw[hg0]at q1
       cases q1;obtain⟨us,t,j1,j2,j3,j4,j5⟩:=q4 k b cs hk0 hk
       rcases Nat.eq_zero_or_pos cs.length with hz|hz
       ·have hcs:cs=[]:=List.length_eq_zero_iff.1 hz
        subst hcs;refine(cloneU_none ⟨b,off',none⟩ cap w).mono ?_
        rintro e w' ⟨gb,cap2,cur,rfl,hcl⟩
        exact new_post (cs:=[]) hH hu2 hcl.base hcl.block (Nat.zero_le _) (Nat.zero_le _) (fun i v c _ h=>by simp at h) hcl.one hcl.below
       ·have ho':off'=0:=by omega
        subst ho';have htl:(us.take cs.length).length=cs.length:=by rw[List.length_take];omega
        refine(cloneU_some ⟨b,0,none⟩ cs.length cap (us.take cs.length) w htl hz (by omega) (fun j u hj=>?_) (fun u hm=>?_)).mono ?_
        ·have hj2:=(List.getElem?_eq_some_iff.1 hj).1
         rw[List.getElem?_take,if_pos (by omega)]at hj
         rw[add_none,Nat.zero_add,cell_of_row w b j _ t (0,0) j1];simpa using hj
        ·exact j4 u (List.mem_of_mem_take hm)
        ·rintro e w' ⟨gb,cap2,cur,rfl,hcl⟩
         refine new_post hH hu2 hcl.base hcl.block hcl.fit (by have:=hcl.size;have:=hcl.fit;omega) (fun i v c hv hc=>?_) hcl.one hcl.below
         have hi:=(List.getElem?_eq_some_iff.1 hc).1
         have h1:(cur.toList.take cs.length)[i]?=some v:=by rw[List.getElem?_take,if_pos hi];exact hv
         rw[hcl.take,List.getElem?_take,if_pos hi]at h1
         have h2:=j3 i v c h1 hc
         obtain⟨z,rfl⟩:=isU_of (hu2 c (List.mem_of_getElem? hc))
         exact⟨z,repA_int h2,rfl⟩
   ·cases h
  ·cases h
 ·cases h
theorem frz_post{P:Program}{w w':World}{Im:Imm}{rows:List (List Dt)}{sz:Nat}{e:Ending}(h:CallPost P w Im [] (.ret (.grow 0 0 rows)) [.grow 0 sz] e w'):CallPost P w Im [] (.ret (.d (.sl rows))) [] e w':=by
 obtain⟨Im',g',j1,j2,v,rfl,j3⟩:=h
 have noOwn:∀ k,¬Owns [] k:=by
  rintro k ⟨r,x,h,hk⟩
  simp at h
 refine⟨Im',[],⟨rfl,fun r cs hr=>by simp at hr,fun r e sz hr=>by simp at hr,fun r e sz cs hr=>by simp at hr,fun r es hr=>by simp at hr,fun r s n q hr=>by simp at hr,fun r a hr=>by simp at hr,fun r r' k x x' _ hr=>by simp at hr,fun k hk=>by obtain⟨r,x,hr,_⟩:=hk;simp at hr,j1.im,j1.tab,fun r t cs hr=>by simp at hr,.none (fun r bs hr=>by simp at hr) (fun r x hr=>by simp at hr)⟩,⟨j2.os,j2.tape,j2.output,j2.size,j2.mono,j2.keep,fun k hk _=>j2.frame k hk (noOwn k),j2.new,fun k hk=>by obtain⟨r,x,hr,_⟩:=hk;simp at hr,GLe.refl _⟩,v,rfl,?_⟩
 cases j3 with
 | grow h hg hsz hle he=>exact .d h
def nextX:List AV→List AObj→Option (Out×List AObj)
 | [.agg [.d (.int .i64 op),.d (.int .i64 _),.d (.int .i64 _),.d (.int .i64 _),.d (.int .i64 _),.d (.int .i64 _),.d (.str _),.d _,.d _,.d (.int .i64 t),.d (.int .i64 els),.d (.int .i64 _),.d (.int .i64 _)],.d (.int .i64 _)],[]=>if op=17∧t=els then some (.ret (.d (.sl [[.int .i64 t]])),[])else none
 | _,_=>none
theorem next_sound(as0:List AV)(H:List AObj)(out:Out)(H':List AObj)(h:nextX as0 H=some (out,H')):(∀ args w,(callFunc 48 args).run Tryz.prog w=.ok (.enter 48 args) w)∧H.length≤H'.length ∧
  ∀ (w:World) (Im:Imm) (g:List Gh) (vs:List Value),HR Tryz.prog w Im g H→RepAs w Im g vs as0→Calls Tryz.prog 48 ⟨vs⟩ w (CallPost Tryz.prog w Im g out H'):=by
 unfold nextX at h;split at h
 ·rename_i op d a b f n s x7 x8 t els p q k;split at h
  ·rename_i hc;obtain⟨rfl,rfl⟩:=hc
   cases h;refine⟨enter_of Tryz.func48 (by kernel_rfl) rfl,Nat.le_refl _,fun w Im g vs hH hr=>?_⟩
   have hg:g=[]:=List.length_eq_zero_iff.1 hH.len
   subst hg;obtain⟨v0,v1,rfl,h0,h1⟩:=repAs_two hr
   rw[repA_int h1]
   cases h0 with
   | agg us cs hl ho hh=>
    match us,hl with
    | [u0,u1,u2,u3,u4,u5,u6,u7,u8,u9,u10,u11,u12],_=>
     have e0:=repA_int (hh 0 _ _ rfl rfl)
     have e1:=repA_int (hh 1 _ _ rfl rfl)
     have e2:=repA_int (hh 2 _ _ rfl rfl)
     have e3:=repA_int (hh 3 _ _ rfl rfl)
     have e4:=repA_int (hh 4 _ _ rfl rfl)
     have e5:=repA_int (hh 5 _ _ rfl rfl)
     have e6:=repA_str (hh 6 _ _ rfl rfl)
     have e9:=repA_int (hh 9 _ _ rfl rfl)
     have e10:=repA_int (hh 10 _ _ rfl rfl)
     have e11:=repA_int (hh 11 _ _ rfl rfl)
     have e12:=repA_int (hh 12 _ _ rfl rfl)
     subst e0 e1 e2 e3 e4 e5 e6 e9 e10 e11 e12;refine(next_same d a b f n p q k ⟨⟨s⟩⟩ u7 u8 (ho _ (by simp)) (ho _ (by simp)) t w).mono ?_
     rintro e w' ⟨v',rfl,ho2,hb⟩
     refine frz_post (sz:=1) (own_post (rows:=[[.int .i64 t]]) hH (fun row hrow=>by simp at hrow;subst hrow;rfl) (fun k u x h hx=>?_) ho2 hb)
     cases k with
     | zero=>
      simp at h hx;subst h hx;exact .int _ _
     | succ k=>simp at h
  ·cases h
 ·cases h
noncomputable def extF0:Sem':=fun f as0 H=>if f=131 then wordX as0 H else if f=76 then cloneX as0 H else if f=44 then rcloneX as0 H else if f=48 then nextX as0 H else none
theorem extF0_ok:Sound Tryz.prog extF0:=by
 intro f as0 H out H' h;unfold extF0 at h;split at h
 ·subst f;exact word_sound as0 H out H' h
 ·split at h
  ·subst f;exact clone_sound as0 H out H' h
  ·split at h
   ·subst f;exact rclone_sound as0 H out H' h
   ·split at h
    ·subst f;exact next_sound as0 H out H' h
    ·cases h
def isRcl(f:Nat):Bool:=f==44
noncomputable def extF:Sem':=fun f as0 H=>if isRcl f=true then absS extF0 isRcl f as0 H else extF0 f as0 H
theorem extF_ok:Sound Tryz.prog extF:=by
 intro f as0 H out H' h;unfold extF at h;split at h
 ·exact absS_ok extF0_ok isRcl f as0 H out H' h
 ·exact extF0_ok f as0 H out H' h
theorem rowB_isU(r:Rw):(rowB r).all isU=true:=by
 unfold rowB;rw[List.all_map,List.all_eq_true];intro x _;rfl
theorem mv_row(m:Nat)(r:Rw):(rowB r).map (mvA 1 m)=rowB r:=by
 unfold rowB;rw[List.map_map];exact List.map_congr_left fun x _=>rfl
theorem extF_tg:TG extF:=by
 have hne:∀ f xs H,f≠131→f≠76→f≠44→f≠48→extF f xs H=none:=by
  intro f xs H h1 h2 h3 h4;unfold extF;rw[if_neg (by unfold isRcl;simpa using h3)]
  unfold extF0;rw[if_neg h1,if_neg h2,if_neg h3,if_neg h4]
 have hcl:Clear extF:=fun f xs H h=>hne f xs H (by rintro rfl;cases h) (by rintro rfl;cases h) (by rintro rfl;cases h) (by rintro rfl;cases h)
 refine⟨⟨⟨hcl⟩,fun R k r hk hr=>?_,fun i k h1 h2=>?_,fun i k h=>?_⟩,⟨⟨hcl⟩,fun op=>?_,fun l hl=>?_⟩,fun xs H=>hne _ xs H (by decide) (by decide) (by decide) (by decide)⟩
 ·unfold extF;rw[if_pos (by decide)]
  unfold absS;rw[if_pos (by decide)]
  unfold extF0;rw[if_neg (by decide),if_neg (by decide),if_pos rfl]
  have hk2:(rgB R)[k]?=some (rowB r):=by unfold rgB;rw[List.getElem?_map,hk];rfl
  unfold rcloneX;simp only[hk2];rw[if_pos ⟨rowB_len r,hr,rowB_isU r⟩];show absorbK 1 _ _ _=_
  unfold absorbK;rw[if_pos]
  ·show some (Out.ret (.rs ((rgB R).length+0) 0 r.length 1),[AObj.reg (rgB R++[mvL 1 (rgB R).length (rowB r)])])=_
   rw[mvL_map,mv_row,rgB_one,rgB_len];rfl
  ·refine⟨by decide,Nat.zero_le _,fun o ho=>?_,fun o ho=>by simp at ho,fun q hq=>?_⟩
   ·simp at ho;subst ho;intro c hc;unfold rowB at hc;obtain⟨x,_,rfl⟩:=List.mem_map.1 hc
    rfl
   ·simp[outC,mvA,refs]at hq
 ·unfold extF;rw[if_neg (by decide)]
  unfold extF0;rw[if_neg (by decide),if_neg (by decide),if_neg (by decide),if_pos rfl]
  unfold nextX In1.av;simp only[h1,h2];simp[ints,rowI]
 ·unfold extF;rw[if_neg (by decide)]
  unfold extF0;rw[if_neg (by decide),if_neg (by decide),if_neg (by decide),if_pos rfl]
  unfold nextX In1.av;simp only
  rw[if_neg h]
 ·unfold extF;rw[if_neg (by decide)]
  unfold extF0;rw[if_pos rfl];rfl
 ·unfold extF;rw[if_neg (by decide)]
  unfold extF0;rw[if_neg (by decide),if_pos rfl]
  unfold cloneX;simp only
  rw[if_pos ⟨by simpa using hl,rows3_map l⟩]
noncomputable def extL:Sem':=fun f as0 H=>if f=16 then dropR (G extF) f as0 H else extF f as0 H
theorem extL_ok:Sound Tryz.prog extL:=by
 intro f as0 H out H' h;unfold extL at h;split at h
 ·exact dropR_ok rfl (G_ok extF_ok) f as0 H out H' h
 ·exact extF_ok f as0 H out H' h
theorem drop_plain{c:AV}{H:List AObj}(h:refs c=[]∧hasRp c=false):dropK (some (.ret c,H))=some (.ret c,[]):=by
 unfold dropK;exact if_pos h
theorem mcheckA_plain(m:Md1):refs (mcheckA m)=[]∧hasRp (mcheckA m)=false:=by
 rcases mcheck_ok (m:=m)with⟨s,a,b,d,h,_⟩|⟨h,_⟩
 ·rw[h];constructor<;>simp[refs,refsAL,hasRp,hasRpL]
 ·rw[h];constructor<;>simp[refs,refsAL,hasRp,hasRpL]
theorem extL_tl:TL extL:=by
 have hw:=extF_tg
 have key:∀ f xs H,f≠16→extL f xs H=extF f xs H:=fun f xs H h=>if_neg h
 refine⟨⟨⟨fun f xs H h=>?_⟩,fun op=>?_,fun l hl=>?_⟩,fun m hm hnm=>?_⟩
 ·rw[key f xs H (by rintro rfl;cases h)]
  exact hw.tm.toTX.clear f xs H h
 ·rw[key _ _ _ (by decide)];exact hw.tm.word op
 ·rw[key _ _ _ (by decide)];exact hw.tm.clone l hl
 ·unfold extL;rw[if_pos rfl];obtain⟨H',h⟩:=mcheck_e hw m hm hnm
  show dropK (G extF 16 _ [.reg []])=_
  rw[h];exact drop_plain (mcheckA_plain m)
end Go.Proofs.YticliodhjfednaaGreat
namespace Go.Proofs.YticliodhjfednaaGreat
open Go Go.Ab
theorem extL_tlf:TLF extL:=by
 have hw:=extF_tg
 have key:∀ f xs H,f≠16→extL f xs H=extF f xs H:=fun f xs H h=>if_neg h
 refine⟨extL_tl,⟨⟨extL_tl.toTM.toTX.clear⟩,fun R k r h1 h2=>?_,fun i k h1 h2=>?_,fun i k h=>?_⟩⟩
 ·rw[key _ _ _ (by decide)];exact hw.clone R k r h1 h2
 ·rw[key _ _ _ (by decide)];exact hw.next i k h1 h2
 ·rw[key _ _ _ (by decide)];exact hw.nextN i k h
end Go.Proofs.YticliodhjfednaaGreat
