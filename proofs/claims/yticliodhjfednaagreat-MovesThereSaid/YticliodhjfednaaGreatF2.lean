/- Moves: behind, meet. Conditions: none. -/
import Derived.Test.YticliodhjfednaaGreatF1
set_option linter.unusedSimpArgs false
set_option linter.unusedVariables false
namespace Go.Proofs.YticliodhjfednaaGreat
open Go Go.Ab
variable {ext:Sem'}{n:Nat}
theorem behind_e(hx:TF ext){R:List Rw}{k:Nat}{r:Rw}(hk:R[k]?=some r)(hl:r.length≤1000)(c:Cd1)(n:Nat)(E P:List (Option Nat))(at':Nat){i:In1}(hi:c.ins[at']?=some i)(hil:c.ins.length≤1000000)(aw:List Int)(hal:aw.length≤1000)
  (haw:∀ v,v∈aw→0≤v∧v<64*(r.length:Int)) (hd:hasD i.op=true→0≤i.d∧i.d<64*(r.length:Int)) :
  G ext 47 [.ptr 1 0,.rs k 0 r.length 1,.d (.int .i64 at'),.d (ints aw)] (tbH R c n r.length E P)=some (.ret (.rs (cIx R k r) 0 r.length 1),tbH ((cRg R r).set (cIx R k r) (behB i aw r)) c n r.length E P):=by
 have hcl:=G_ext (hx.clone R k r hk hl)
 have hat:=cl_at hk
 generalize hj:cIx R k r=j at hcl hat;generalize hR:cRg R r=R1 at hcl hat;have hil2:(c.ins.map In1.row)[at']?=some i.row:=by rw[List.getElem?_map,hi];rfl
 have hlt:(at':Int)<((c.ins.map In1.row).length:Int):=by rw[List.length_map];have:=(List.getElem?_eq_some_iff.1 hi).1;omega
 have hwr:=writes_e hx.toTX i
 rw[G_body hx.clear rfl Tryz.func47 rfl Tryz.results47 hv_47 rfl];simp only[tbH,tbC,ints];have hjl:=(List.getElem?_eq_some_iff.1 hat).1
 have hs0:R1.set j r=R1:=by
  obtain⟨h1,h2⟩:=List.getElem?_eq_some_iff.1 hat
  rw[←h2];exact List.set_getElem_self h1
 simp(maxSteps:=9^9)(disch:=first|(intros;contradiction)|omega)only[go_sem,hcl]
 generalize hL:loopA _ _ _=L;apply range_upd hL (by simp(maxSteps:=9^9)(disch:=first|(intros;contradiction)|omega)only[go_sem]<;>rfl) aw rowI (α:=Rw) (fun rest _ x=>x.length=r.length∧clrs x rest=clrs r aw∧∀ v,v∈rest→0≤v∧v<64*(r.length:Int)) (fun q _=>[(18,.d (.int .i64 q))]) (fun _ x=>[(0,.reg (rgB (R1.set j x)))]) r (by simp(maxSteps:=9^9)(disch:=first|(intros;contradiction)|omega)only[go_sem,hs0]<;>rfl) ⟨rfl,rfl,haw⟩ ?_ ?_
 ·rintro v rest q x ⟨q1,q2,q3⟩ hlt2 hr2 hget hq _ next ih
  clear hL;obtain⟨v1,v2⟩:=q3 v (.head _)
  have hp:=put_e hx.toTX (List.getElem?_set_self hjl:(R1.set j x)[j]?=some x) v.toNat false (by omega) (by omega) (by omega)
  rw[List.set_set,Int.toNat_of_nonneg v1,q1]at hp;simp only[rowI]at hr2;have hql:q<aw.length:=hq
  simp(maxSteps:=9^9)(disch:=first|(intros;contradiction)|omega)only[go_sem,hlt2,hr2,hp,wrap64]
  exact ih (putB x v.toNat false) _ ⟨by rw[putB_len];exact q1,q2,fun u hu=>q3 u (.tail _ hu)⟩ (by simp(maxSteps:=9^9)(disch:=first|(intros;contradiction)|omega)only[go_sem]<;>rfl)
 ·rintro q x ⟨q1,q2,_⟩ hlt2 hq next
  clear hL;have q2:x=clrs r aw:=q2
  unfold behB;simp only[In1.row]at hil2;simp only[In1.av]at hwr
  cases hD:hasD i.op with
  | false=>
   rw[hD]at hwr;simp(maxSteps:=9^9)(disch:=first|(intros;contradiction)|omega)only[go_sem,hlt2,hil2,hlt,hwr]
   rw[q2]
  | true=>
   rw[hD]at hwr;obtain⟨d1,d2⟩:=hd hD
   have hp:=put_e hx.toTX (List.getElem?_set_self hjl:(R1.set j x)[j]?=some x) i.d.toNat true (by omega) (by omega) (by omega)
   rw[List.set_set,Int.toNat_of_nonneg d1,q1]at hp;have hwd:writesP i=i.d:=by unfold writesP;rw[hD];rfl
   rw[hwd]at hwr;simp(maxSteps:=9^9)(disch:=first|(intros;contradiction)|omega)only[go_sem,hlt2,hil2,hlt,hwr,hp]
   rw[q2]
def andL(a b:Rw):Rw:=List.zipWith (·&&&·) a b
def orL(a b:Rw):Rw:=List.zipWith (·|||·) a b
def chgAt(ra r1 rb r2:Rw)(i:Nat):Bool:=decide (ra.getD i 0#64&&&~~~(r1.getD i 0#64)≠0#64)||decide (r2.getD i 0#64&&&~~~(rb.getD i 0#64)≠0#64)
def chgL(ra r1 rb r2:Rw):Bool:=(List.range ra.length).any (chgAt ra r1 rb r2)
theorem meet_new(hx:TF ext)(R:List Rw)(c:Cd1)(W:Nat){E P:List (Option Nat)}(at' k1 k2:Nat)(hE:E[at']?=some none)(hP:at'<P.length)(hn:E.length=n)(hn2:P.length=n)(hnl:n≤1000000) :
  G ext 43 [.ptr 1 0,.d (.int .i64 at'),.rs k1 0 W 1,.rs k2 0 W 1] (tbH R c n W E P)=some (.ret (.d (.bool true)),tbH R c n W (E.set at' (some k1)) (P.set at' (some k2))):=by
 have h1:=rws_at (W:=W) hE
 have hl:=(List.getElem?_eq_some_iff.1 hE).1
 have s1:List.take at' (rws W E)++[.rs k1 0 W 1]++List.drop (at'+1) (rws W E)=_:=rws_set (W:=W) hl k1
 have s2:List.take at' (rws W P)++[.rs k2 0 W 1]++List.drop (at'+1) (rws W P)=_:=rws_set (W:=W) hP k2
 have hlt:(at':Int)<(n:Int):=by omega
 simp only[rwV]at h1;have l1:at'+1≤(rws W E).length:=by rw[rws_len];omega
 have l2:at'+1≤(rws W P).length:=by rw[rws_len];omega
 rw[G_body hx.clear rfl Tryz.func43 rfl Tryz.results43 hv_43 rfl];simp only[tbH,tbC];simp(maxSteps:=9^9)(disch:=first|(intros;contradiction)|omega)only[go_sem,h1,hlt,Nat.mul_one,s1,s2,l1,l2]
theorem getD_set{A:Rw}{i j:Nat}{x:BitVec 64}(h:i<A.length):(A.set i x).getD j 0#64=if i=j then x else A.getD j 0#64:=by
 rw[List.getD_eq_getElem?_getD,List.getD_eq_getElem?_getD,List.getElem?_set]
 split
 ·subst_vars;simp[h]
 ·rfl
theorem ext_getD{A B:Rw}(h:A.length=B.length)(hj:∀ j,j<B.length→A.getD j 0#64=B.getD j 0#64):A=B:=by
 apply List.ext_getElem h
 intro j h1 h2;have:=hj j h2
 rw[List.getD_eq_getElem?_getD,List.getD_eq_getElem?_getD,List.getElem?_eq_getElem h1,List.getElem?_eq_getElem h2]at this
 exact this
theorem zip_getD{f:BitVec 64→BitVec 64→BitVec 64}{A B:Rw}{j:Nat}(h1:j<A.length)(h2:j<B.length):(List.zipWith f A B).getD j 0#64=f (A.getD j 0#64) (B.getD j 0#64):=by
 simp only[List.getD_eq_getElem?_getD]
 rw[List.getElem?_zipWith,List.getElem?_eq_getElem h1,List.getElem?_eq_getElem h2]
 rfl
set_option maxHeartbeats 4000000 in
theorem meet_old(hx:TF ext){R:List Rw}(c:Cd1){W:Nat}{E P:List (Option Nat)}(at' k1 k2 a b:Nat)(hE:E[at']?=some (some a))(hP:P[at']?=some (some b))(hn:E.length=n)(hn2:P.length=n)(hnl:n≤1000000)(hWl:W≤1000){ra rb r1 r2:Rw}
  (ha:R[a]?=some ra) (hb:R[b]?=some rb) (h1:R[k1]?=some r1) (h2:R[k2]?=some r2) (la:ra.length=W) (lb:rb.length=W) (l1:r1.length=W) (l2:r2.length=W) (hne:0<W→a≠b∧a≠k1∧a≠k2∧b≠k1∧b≠k2) :
  G ext 43 [.ptr 1 0,.d (.int .i64 at'),.rs k1 0 W 1,.rs k2 0 W 1] (tbH R c n W E P)=some (.ret (.d (.bool (chgL ra r1 rb r2))),tbH ((R.set a (andL ra r1)).set b (orL rb r2)) c n W E P):=by
 have e1:=rws_at (W:=W) hE
 have e2:=rws_at (W:=W) hP
 have hl:=(List.getElem?_eq_some_iff.1 hE).1
 have hlt:(at':Int)<(n:Int):=by omega
 simp only[rwV]at e1 e2;rw[G_body hx.clear rfl Tryz.func43 rfl Tryz.results43 hv_43 rfl];simp only[tbH,tbC];simp(maxSteps:=9^9)(disch:=first|(intros;contradiction)|omega)only[go_sem,e1,e2,hlt,Nat.mul_one]
 have rset0:(R.set a ra).set b rb=R:=by
  obtain⟨q1,q2⟩:=List.getElem?_eq_some_iff.1 ha
  have e:R.set a ra=R:=by rw[←q2];exact List.set_getElem_self q1
  rw[e];obtain⟨q1,q2⟩:=List.getElem?_eq_some_iff.1 hb
  rw[←q2];exact List.set_getElem_self q1
 have hal:=(List.getElem?_eq_some_iff.1 ha).1
 have hbl:=(List.getElem?_eq_some_iff.1 hb).1
 generalize hL:loopA _ _ _=L
 apply loop_upd hL (by simp(maxSteps:=9^9)(disch:=first|(intros;contradiction)|omega)only[go_sem]<;>rfl) (α:=Nat×Bool×Rw×Rw) (fun x=>x.1≤W∧x.2.2.1.length=W∧x.2.2.2.length=W∧(∀ j,x.2.2.1.getD j 0#64=if j<x.1 then ra.getD j 0#64&&&r1.getD j 0#64 else ra.getD j 0#64)∧(∀ j,x.2.2.2.getD j 0#64=if j<x.1 then rb.getD j 0#64|||r2.getD j 0#64 else rb.getD j 0#64)∧x.2.1=(List.range x.1).any (chgAt ra r1 rb r2))
  (fun x=>W-x.1) (fun x=>[(9,.d (.bool x.2.1)),(35,.d (.int .i64 x.1))]) (fun x=>[(0,.reg (rgB ((R.set a x.2.2.1).set b x.2.2.2)))]) (0,false,ra,rb) (by simp(maxSteps:=9^9)(disch:=first|(intros;contradiction)|omega)only[go_sem,rset0]<;>rfl) ⟨Nat.zero_le _,la,lb,fun j=>by simp,fun j=>by simp,rfl⟩ ?_
 rintro⟨i,q,A,B⟩ ⟨q1,q2,q3,q4,q5,q6⟩ next ih
 clear hL;simp only at q1 q2 q3 q4 q5 q6 ih ⊢
 by_cases hi:i<W
 ·obtain⟨n1,n2,n3,n4,n5⟩:=hne (by omega)
  have hlt2:(i:Int)<(W:Int):=by omega
  have ga:∀ A B:Rw,regGet (rgB ((R.set a A).set b B)) a=some (rowB A):=fun A B=>getb (by rw[List.getElem?_set_ne (Ne.symm n1),List.getElem?_set_self hal])
  have gb:∀ A B:Rw,regGet (rgB ((R.set a A).set b B)) b=some (rowB B):=fun A B=>getb (by rw[List.getElem?_set_self (by rw[List.length_set];exact hbl)])
  have g1:∀ A B:Rw,regGet (rgB ((R.set a A).set b B)) k1=some (rowB r1):=fun A B=>getb (by rw[List.getElem?_set_ne n4,List.getElem?_set_ne n2];exact h1)
  have g2:∀ A B:Rw,regGet (rgB ((R.set a A).set b B)) k2=some (rowB r2):=fun A B=>getb (by rw[List.getElem?_set_ne n5,List.getElem?_set_ne n3];exact h2)
  have aA:=rowB_at (r:=A) (i:=i) (by omega)
  have aB:=rowB_at (r:=B) (i:=i) (by omega)
  have a1:=rowB_at (r:=r1) (i:=i) (by omega)
  have a2:=rowB_at (r:=r2) (i:=i) (by omega)
  have vA:=q4 i
  have vB:=q5 i
  rw[if_neg (Nat.lt_irrefl i)]at vA vB;rw[vA]at aA;rw[vB]at aB;have hch:(List.range (i+1)).any (chgAt ra r1 rb r2)=(q||chgAt ra r1 rb r2 i):=by rw[List.range_succ,List.any_append,←q6];simp
  have hI:∀ q',q'=(q||chgAt ra r1 rb r2 i)→i+1≤W∧(A.set i (ra.getD i 0#64&&&r1.getD i 0#64)).length=W∧(B.set i (rb.getD i 0#64|||r2.getD i 0#64)).length=W∧(∀ j,(A.set i (ra.getD i 0#64&&&r1.getD i 0#64)).getD j 0#64=if j<i+1 then ra.getD j 0#64&&&r1.getD j 0#64 else ra.getD j 0#64)∧(∀ j,(B.set i (rb.getD i 0#64|||r2.getD i 0#64)).getD j 0#64=if j<i+1 then rb.getD j 0#64|||r2.getD j 0#64 else rb.getD j 0#64)∧q'=(List.range (i+1)).any (chgAt ra r1 rb r2):=by
   intro q' hq';refine⟨by omega,by rw[List.length_set];exact q2,by rw[List.length_set];exact q3,fun j=>?_,fun j=>?_,by rw[hch];exact hq'⟩
   ·rw[getD_set (by omega),q4 j]
    by_cases hj:i=j
    ·subst hj;simp
    ·by_cases hj2:j<i
     ·rw[if_neg hj,if_pos hj2,if_pos (by omega)]
     ·rw[if_neg hj,if_neg hj2,if_neg (by omega)]
   ·rw[getD_set (by omega),q5 j]
    by_cases hj:i=j
    ·subst hj;simp
    ·by_cases hj2:j<i
     ·rw[if_neg hj,if_pos hj2,if_pos (by omega)]
     ·rw[if_neg hj,if_neg hj2,if_neg (by omega)]
  unfold chgAt at hI;generalize hx0:ra.getD i 0#64=x at *;generalize hy0:r1.getD i 0#64=y at *;generalize hu0:r2.getD i 0#64=u at *;generalize hz0:rb.getD i 0#64=z at *;have wn1:=notW x y
  have wn2:=notW u z
  have wa:=andW x y
  have wo:=orW z u
  have sA:regSet (rgB ((R.set a A).set b B)) a i [.d (.int .u64 ((x&&&y).toNat:Int))]=some (rgB ((R.set a (A.set i (x&&&y))).set b B)):=by
   rw[setb (r:=A) (by rw[List.getElem?_set_ne (Ne.symm n1),List.getElem?_set_self hal]) (by omega),List.set_comm _ _ (Ne.symm n1),List.set_set]
  have sB:regSet (rgB ((R.set a (A.set i (x&&&y))).set b B)) b i [.d (.int .u64 ((z|||u).toNat:Int))]=some (rgB ((R.set a (A.set i (x&&&y))).set b (B.set i (z|||u)))):=by
   rw[setb (r:=B) (by rw[List.getElem?_set_self (by rw[List.length_set];exact hbl)]) (by omega),List.set_set]
  have z1:∀ w:BitVec 64,((w.toNat:Int)=0)=(w=0#64):=fun w=>propext ⟨fun h=>BitVec.eq_of_toNat_eq (by simpa using h),fun h=>by subst h;rfl⟩
  cases q with
  | true=>
   have hI1:=hI true (by simp)
   clear hI q4 q5 q6 hch vA vB z1 hne h1 h2;simp(maxSteps:=9^9)(disch:=first|(intros;contradiction)|omega)only[go_sem,hlt2,Nat.mul_one,e1,e2,hlt,ga,gb,g1,g2,aA,aB,a1,a2,wa,wo,sA,sB,wrap64]
   exact ih (i+1,true,_,_) _ hI1 (by simp only;omega) (by simp(maxSteps:=9^9)(disch:=first|(intros;contradiction)|omega)only[go_sem]<;>rfl)
  | false=>
   by_cases c1:x&&&~~~y=0#64
   ·by_cases c2:u&&&~~~z=0#64
    ·have d1:=eq_true c1
     have d2:=eq_true c2
     rw[←z1]at d1 d2;have hI1:=hI false (by simp[c1,c2])
     clear c1 c2;clear hI q4 q5 q6 hch vA vB z1 hne h1 h2;simp(maxSteps:=9^9)(disch:=first|(intros;contradiction)|omega)only[go_sem,hlt2,Nat.mul_one,e1,e2,hlt,ga,gb,g1,g2,aA,aB,a1,a2,wa,wo,wn1,wn2,d1,d2,sA,sB,wrap64]
     exact ih (i+1,false,_,_) _ hI1 (by simp only;omega) (by simp(maxSteps:=9^9)(disch:=first|(intros;contradiction)|omega)only[go_sem]<;>rfl)
    ·have d1:=eq_true c1
     have d2:=eq_false c2
     rw[←z1]at d1 d2;have hI1:=hI true (by simp[c1,c2])
     clear c1 c2;clear hI q4 q5 q6 hch vA vB z1 hne h1 h2;simp(maxSteps:=9^9)(disch:=first|(intros;contradiction)|omega)only[go_sem,hlt2,Nat.mul_one,e1,e2,hlt,ga,gb,g1,g2,aA,aB,a1,a2,wa,wo,wn1,wn2,d1,d2,sA,sB,wrap64]
     exact ih (i+1,true,_,_) _ hI1 (by simp only;omega) (by simp(maxSteps:=9^9)(disch:=first|(intros;contradiction)|omega)only[go_sem]<;>rfl)
   ·have d1:=eq_false c1
    rw[←z1]at d1;have hI1:=hI true (by simp[c1])
    clear c1;clear hI q4 q5 q6 hch vA vB z1 hne h1 h2;simp(maxSteps:=9^9)(disch:=first|(intros;contradiction)|omega)only[go_sem,hlt2,Nat.mul_one,e1,e2,hlt,ga,gb,g1,g2,aA,aB,a1,a2,wa,wo,wn1,wn2,d1,sA,sB,wrap64]
    exact ih (i+1,true,_,_) _ hI1 (by simp only;omega) (by simp(maxSteps:=9^9)(disch:=first|(intros;contradiction)|omega)only[go_sem]<;>rfl)
 ·have hlt2:¬(i:Int)<(W:Int):=by omega
  have hiw:i=W:=by omega
  subst hiw
  have eA:A=andL ra r1:=ext_getD (by unfold andL;simp;omega) fun j hj=>by
   have hj':j<ra.length:=by unfold andL at hj;simp at hj;omega
   rw[q4 j,if_pos (by omega)]
   exact(zip_getD hj' (by omega)).symm
  have eB:B=orL rb r2:=ext_getD (by unfold orL;simp;omega) fun j hj=>by
   have hj':j<rb.length:=by unfold orL at hj;simp at hj;omega
   rw[q5 j,if_pos (by omega)]
   exact(zip_getD hj' (by omega)).symm
  have eq':q=chgL ra r1 rb r2:=by unfold chgL;rw[la];exact q6
  simp(maxSteps:=9^9)(disch:=first|(intros;contradiction)|omega)only[go_sem,hlt2]
  rw[eA,eB,eq']
end Go.Proofs.YticliodhjfednaaGreat
