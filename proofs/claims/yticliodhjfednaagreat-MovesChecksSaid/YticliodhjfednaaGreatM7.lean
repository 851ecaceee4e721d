/- ir: functions, names that are there twice, types. Conditions: none. -/
import Derived.Test.YticliodhjfednaaGreatM6
set_option linter.unusedSimpArgs false
set_option linter.unusedVariables false
namespace Go.Proofs.YticliodhjfednaaGreat
open Go Go.Ab
variable {ext:Sem'}
def firstP{α:Type}(f:α→Int):List α→Int
 | []=>0
 | x::l=>if f x=0 then firstP f l else f x
theorem firstP_drop{α:Type}{f:α→Int}{l:List α}{i:Nat}(h:i<l.length):firstP f (l.drop i)=if f l[i]=0 then firstP f (l.drop (i+1))else f l[i]:=by
 rw[List.drop_eq_getElem_cons h];rfl
def lastOp(c:Cd1):Int:=((c.ins[c.ins.length-1]?).map (·.op)).getD 0
def codeP(m:Md1)(c:Cd1):Int:=
 if 300<c.vars.length∨c.ins.length<1∨3000<c.ins.length then 2
 else if c.params<0∨(c.vars.length:Int)<c.params then 15
 else if firstP (instrP m c) c.ins=0 then unlessP (decide (16≤lastOp c)) 15 else firstP (instrP m c) c.ins
set_option maxHeartbeats 4000000 in
theorem code_e(hx:TM ext)(m:Md1)(hm:m.structs.length≤1000000)(c:Cd1)(hl:∀ i,i∈c.ins→i.args.length≤900)(hk:∀ v,inV c v=true→knownT m (varT c v)):G ext 66 [judgeA m c] []=some (.ret (.d (.int .i64 (codeP m c))),[]):=by
 have hvl:(c.vars.map Vr1.row).length=c.vars.length:=List.length_map _
 have hil:(c.ins.map In1.row).length=c.ins.length:=List.length_map _
 rw[G_body hx.clear rfl Tryz.func66 rfl Tryz.results66 hv_66 rfl];by_cases h1:(300:Int)<((c.vars.map Vr1.row).length:Int)
 ·have e:codeP m c=2:=by unfold codeP;rw[if_pos (by omega)]
  rw[e];simp only[judgeA];simp(maxSteps:=9^9)(disch:=first|(intros;contradiction)|omega)only[go_sem,h1]
 ·by_cases h2:((c.ins.map In1.row).length:Int)<1
  ·have e:codeP m c=2:=by unfold codeP;rw[if_pos (by omega)]
   rw[e];simp only[judgeA];simp(maxSteps:=9^9)(disch:=first|(intros;contradiction)|omega)only[go_sem,h1,h2]
  ·by_cases h3:(3000:Int)<((c.ins.map In1.row).length:Int)
   ·have e:codeP m c=2:=by unfold codeP;rw[if_pos (by omega)]
    rw[e];simp only[judgeA];simp(maxSteps:=9^9)(disch:=first|(intros;contradiction)|omega)only[go_sem,h1,h2,h3]
   ·by_cases h4:c.params<0
    ·have e:codeP m c=15:=by unfold codeP;rw[if_neg (by omega),if_pos (by omega)]
     rw[e];simp only[judgeA];simp(maxSteps:=9^9)(disch:=first|(intros;contradiction)|omega)only[go_sem,h1,h2,h3,h4]
    ·by_cases h5:((c.vars.map Vr1.row).length:Int)<c.params
     ·have e:codeP m c=15:=by unfold codeP;rw[if_neg (by omega),if_pos (by omega)]
      rw[e];simp only[judgeA];simp(maxSteps:=9^9)(disch:=first|(intros;contradiction)|omega)only[go_sem,h1,h2,h3,h4,h5]
     ·have e:codeP m c=if firstP (instrP m c) c.ins=0 then unlessP (decide (16≤lastOp c)) 15 else firstP (instrP m c) c.ins:=by unfold codeP;rw[if_neg (by omega),if_neg (by omega)]
      rw[e];simp only[judgeA];simp(maxSteps:=9^9)(disch:=first|(intros;contradiction)|omega)only[go_sem,h1,h2,h3,h4,h5]
      generalize hL:loopA _ _ _=L
      apply loop_post hL (fun k:Nat=>k≤c.ins.length∧firstP (instrP m c) c.ins=firstP (instrP m c) (c.ins.drop k)) (fun k=>c.ins.length-k)
       (fun k=>⟨[(0,judgeA m c),(1,.ptr 0 0),(2,.d (.int .i64 0)),(3,.d (.int .i64 (c.ins.map In1.row).length)),(4,.fn 107 [judgeA m c] []),(6,.any),(7,.any),(45,.d (.sl (c.ins.map In1.row))),(46,.d (.int .i64 (c.ins.map In1.row).length)),(47,.d (.int .i64 k))],[],[.cells (judgeC m c)]⟩)
       0 (by simp only[judgeA,judgeC];simp(maxSteps:=9^9)(disch:=first|(intros;contradiction)|omega)only[go_sem]<;>rfl) ⟨Nat.zero_le _,by simp⟩
      clear hL;rintro k ⟨k1,k2⟩ next ih
      simp only[judgeA,judgeC]at ih ⊢;by_cases hkl:k<c.ins.length
      ·have hlt:(k:Int)<((c.ins.map In1.row).length:Int):=by omega
       have hr:=map_at (f:=In1.row) hkl
       have hie:=instr_e hx m hm c c.ins[k] (hl _ (List.getElem_mem hkl)) hk
       rw[firstP_drop hkl]at k2;generalize c.ins[k]=i at hr hie k2;simp only[In1.row]at hr;simp only[judgeA,In1.av]at hie;by_cases hz:instrP m c i=0
       ·rw[if_pos hz]at k2;rw[hz]at hie;simp(maxSteps:=9^9)(disch:=first|(intros;contradiction)|omega)only[go_sem,hlt,hr,hie,wrap64]
        exact ih (k+1) _ ⟨hkl,k2⟩ (by omega) (by simp(maxSteps:=9^9)(disch:=first|(intros;contradiction)|omega)only[go_sem]<;>rfl)
       ·rw[if_neg hz]at k2;rw[if_neg (by rw[k2];exact hz),k2]
        simp(maxSteps:=9^9)(disch:=first|(intros;contradiction)|omega)only[go_sem,hlt,hr,hie,hz]
      ·have hlt:¬(k:Int)<((c.ins.map In1.row).length:Int):=by omega
       rw[List.drop_eq_nil_of_le (by omega)]at k2
       have k2:firstP (instrP m c) c.ins=0:=k2
       rw[if_pos k2];have hn:c.ins.length-1<c.ins.length:=by omega
       have hr:=map_at (f:=In1.row) hn
       have hu:=unless_e hx.toTX (decide (16≤lastOp c)) 15
       have hlo:lastOp c=c.ins[c.ins.length-1].op:=by unfold lastOp;rw[List.getElem?_eq_getElem hn];rfl
       generalize c.ins[c.ins.length-1]=i at hr hlo;simp only[In1.row]at hr;have hx1:(((c.ins.map In1.row).length:Int)-1).toNat=c.ins.length-1:=by omega
       have hx2:(0:Int)≤((c.ins.map In1.row).length:Int)-1:=by omega
       rw[hlo]at hu ⊢;simp(maxSteps:=9^9)(disch:=first|(intros;contradiction)|omega)only[go_sem,hlt,hx1,hx2,hr,hu,wrap64]
def dbl(l:List (List UInt8)):Bool:=decide (¬l.Nodup)
def mE(l:List (List UInt8)):List (AV×AV):=l.map fun x=>(.d (.str x),.d (.bool true))
theorem refsM_mE(l:List (List UInt8)):refsM (mE l)=[]:=by
 induction l with
 | nil=>rfl
 | cons x l ih=>simp only[mE,List.map_cons,refsM]at ih ⊢;rw[ih];rfl
theorem findM_mE(x:List UInt8)(l:List (List UInt8)):findM .str (.d (.str x)) (mE l)=some (if x∈l then some (.d (.bool true))else none):=by
 induction l with
 | nil=>simp[mE,findM,keyEq]
 | cons y l ih=>
  simp only[mE,List.map_cons,findM,keyEq]at ih ⊢;by_cases h:x=y
  ·simp[h]
  ·simp only[h,decide_false];rw[ih];simp[h]
theorem setM_mE(x:List UInt8)(l:List (List UInt8))(h:x∉l):setM .str (.d (.str x)) (.d (.bool true)) (mE l)=some (mE (l++[x])):=by
 induction l with
 | nil=>simp[mE,setM,keyEq]
 | cons y l ih=>
  have h1:¬x=y:=fun e=>h (by simp[e])
  have h2:x∉l:=fun e=>h (by simp[e])
  have ih:=ih h2
  simp only[mE,List.map_cons,setM,keyEq,List.cons_append]at ih ⊢;simp only[h1,decide_false];rw[ih]
theorem dbl_take{l:List (List UInt8)}{k:Nat}{x:List UInt8}(hx:l[k]?=some x)(hn:(l.take k).Nodup):(l.take (k+1)).Nodup↔x∉l.take k:=by
 rw[List.take_add_one,hx];simp only[Option.toList,List.nodup_append];constructor
 ·rintro⟨_,_,h⟩ hm
  exact h x hm x (by simp) rfl
 ·intro h;refine⟨hn,by simp,?_⟩
  intro a ha b hb e;simp at hb;subst hb e;exact h ha
theorem doubled_e(hx:TX ext)(l:List (List UInt8))(hl:l.length≤1000):G ext 104 [.d (strs l)] []=some (.ret (.d (.bool (dbl l))),[]):=by
 have hll:(l.map fun x=>([.str x]:List Dt)).length=l.length:=List.length_map _
 rw[G_body hx.clear rfl Tryz.func104 rfl Tryz.results104 hv_104 rfl];simp only[strs];simp(maxSteps:=9^9)(disch:=first|(intros;contradiction)|omega)only[go_sem]
 generalize hL:loopA _ _ _=L
 apply loop_post hL (fun k:Nat=>k≤l.length∧(l.take k).Nodup) (fun k=>l.length-k)
  (fun k=>⟨[(0,.d (.sl (l.map fun x=>[.str x]))),(2,.d (.bool false)),(3,.mp 0),(5,.any),(7,.d (.sl (l.map fun x=>[.str x]))),(8,.d (.int .i64 (l.map fun x=>([.str x]:List Dt)).length)),(9,.d (.int .i64 k))],[],[.mapo (mE (l.take k))]⟩)
  0 (by simp only[List.take_zero,mE,List.map_nil];simp(maxSteps:=9^9)(disch:=first|(intros;contradiction)|omega)only[go_sem]<;>rfl) ⟨Nat.zero_le _,by simp⟩
 clear hL;rintro k ⟨k1,k2⟩ next ih
 by_cases h:k<l.length
 ·have hlt:(k:Int)<((l.map fun x=>([.str x]:List Dt)).length:Int):=by omega
  have hr:=strs_at l k h
  have hget:l[k]?=some l[k]:=List.getElem?_eq_getElem h
  generalize l[k]=x at hr hget;have hf:=findM_mE x (l.take k)
  by_cases hm:x∈l.take k
  ·rw[if_pos hm]at hf
   have hd:dbl l=true:=by
    unfold dbl;rw[decide_eq_true_eq];intro hn;have:(l.take (k+1)).Nodup:=hn.sublist (List.take_sublist _ _)
    exact(dbl_take hget k2).1 this hm
   rw[hd];simp(maxSteps:=9^9)(disch:=first|(intros;contradiction)|omega)only[go_sem,hlt,hr,hf]
  ·rw[if_neg hm]at hf;have hs:=setM_mE x (l.take k) hm
   have ht:l.take (k+1)=l.take k++[x]:=by rw[List.take_add_one,hget];rfl
   simp(maxSteps:=9^9)(disch:=first|(intros;contradiction)|omega)only[go_sem,hlt,hr,hf,hs,wrap64]
   exact ih (k+1) _ ⟨h,(dbl_take hget k2).2 hm⟩ (by omega) (by rw[ht];simp(maxSteps:=9^9)(disch:=first|(intros;contradiction)|omega)only[go_sem,refsM_mE]<;>rfl)
 ·have hlt:¬(k:Int)<((l.map fun x=>([.str x]:List Dt)).length:Int):=by omega
  have hd:dbl l=false:=by
   unfold dbl;rw[decide_eq_false_iff_not,Classical.not_not];rw[List.take_of_length_le (by omega)]at k2
   exact k2
  rw[hd];simp(maxSteps:=9^9)(disch:=first|(intros;contradiction)|omega)only[go_sem,hlt]
end Go.Proofs.YticliodhjfednaaGreat
