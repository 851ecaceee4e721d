/- Functions of the library that ask a list by a function. Conditions: none. -/
import Derived.Test.YticliodhjfednaaGreatM1
set_option linter.unusedSimpArgs false
set_option linter.unusedVariables false
namespace Go.Proofs.YticliodhjfednaaGreat
open Go Go.Ab
variable {ext:Sem'}
def idxP{α:Type}(p:α→Bool):List α→Option Nat
 | []=>none
 | x::l=>if p x then some 0 else(idxP p l).map (·+1)
def idxN{α:Type}(p:α→Bool)(l:List α):Int:=match idxP p l with
 | some i=>i
 | none=>-1
theorem idxP_some{α:Type}{p:α→Bool}:∀ {l:List α} {i:Nat},idxP p l=some i→i<l.length∧∀ x,l[i]?=some x→p x=true
 | [],_,h=>by cases h
 | x::l,i,h=>by
  unfold idxP at h;split at h
  ·rename_i hp;cases h;exact⟨by simp,fun y hy=>by simp at hy;subst hy;exact hp⟩
  ·cases hl:idxP p l with
   | none=>rw[hl]at h;cases h
   | some j=>
    rw[hl]at h
    cases h;obtain⟨h1,h2⟩:=idxP_some hl
    exact⟨by simp;omega,fun y hy=>h2 y (by simpa using hy)⟩
theorem idxP_any{α:Type}{p:α→Bool}:∀ {l:List α},(idxP p l).isSome=l.any p
 | []=>rfl
 | x::l=>by
  unfold idxP;split
  ·rename_i h;simp[h]
  ·rename_i h;simp[h,idxP_any]
theorem idxN_any{α:Type}{p:α→Bool}{l:List α}:decide (0≤idxN p l)=l.any p:=by
 rw[←idxP_any];unfold idxN
 cases idxP p l with
 | none=>rfl
 | some i=>simp
theorem idxP_drop{α:Type}{p:α→Bool}{l:List α}{i:Nat}(h:i<l.length):idxP p (l.drop i)=if p l[i]then some 0 else(idxP p (l.drop (i+1))).map (·+1):=by
 rw[List.drop_eq_getElem_cons h];rfl
theorem indexCd10_e(hx:TX ext)(F:Nat)(p:Cd1→Bool)(l:List Cd1)(hl:l.length≤1000000)(hp:∀ x,x∈l→G ext F ([Cd1.av x]++[]) []=some (.ret (.d (.bool (p x))),[]))(hF:rgF F=false:=by rfl) :
  G ext 108 [.d (.sl (l.map Cd1.row)),.fn F [] []] []=some (.ret (.d (.int .i64 (idxN p l))),[]):=by
 have hll:(l.map Cd1.row).length=l.length:=List.length_map _
 rw[G_body hx.clear rfl Tryz.func108 rfl Tryz.results108 hv_108 rfl];simp(maxSteps:=9^9)(disch:=first|(intros;contradiction)|omega)only[go_sem,hF]
 generalize hL:loopA _ _ _=L
 apply loop_post hL (fun i:Nat=>i≤l.length∧(idxP p l=(idxP p (l.drop i)).map (·+i))) (fun i=>l.length-i)
  (fun i=>⟨[(0,.d (.sl (l.map Cd1.row))),(1,.fn F [] []),(4,.d (.int .i64 0)),(5,.any),(7,.d (.int .i64 (l.map Cd1.row).length)),(8,.d (.int .i64 i))],[],[]⟩)
  0 (by simp(maxSteps:=9^9)(disch:=first|(intros;contradiction)|omega)only[go_sem,hF]<;>rfl) ⟨Nat.zero_le _,by simp⟩
 rintro i ⟨hi,hs⟩ next ih
 by_cases h:i<l.length
 ·have hlt:(i:Int)<((l.map Cd1.row).length:Int):=by omega
  have hr:=map_at (f:=Cd1.row) h
  have hd:=idxP_drop (p:=p) h
  have hc:=hp l[i] (List.getElem_mem h)
  generalize l[i]=x at hr hd hc;simp only[Cd1.row,Cd1.av,List.cons_append,List.nil_append]at hr hc
  cases hpx:p x with
  | true=>
   rw[hpx]at hd hc;rw[hd]at hs;simp(maxSteps:=9^9)(disch:=first|(intros;contradiction)|omega)only[go_sem,hF,hlt,hr,hc,idxN,hs,Option.map_some,Nat.zero_add]
  | false=>
   rw[hpx]at hd hc;simp(maxSteps:=9^9)(disch:=first|(intros;contradiction)|omega)only[go_sem,hF,hlt,hr,hc,wrap64]
   exact ih (i+1) _ ⟨h,by rw[hs,hd];simp only[Bool.false_eq_true,if_false,Option.map_map];congr 1;funext n;simp only[Function.comp];omega⟩ (by omega) (by simp(maxSteps:=9^9)(disch:=first|(intros;contradiction)|omega)only[go_sem,hF]<;>rfl)
 ·have hlt:¬(i:Int)<((l.map Cd1.row).length:Int):=by omega
  rw[List.drop_eq_nil_of_le (by omega)]at hs
  simp(maxSteps:=9^9)(disch:=first|(intros;contradiction)|omega)only[go_sem,hF,hlt,idxN,hs,idxP,Option.map_none]
theorem containsCd10_e(hx:TX ext)(F:Nat)(p:Cd1→Bool)(l:List Cd1)(hl:l.length≤1000000)(hp:∀ x,x∈l→G ext F ([Cd1.av x]++[]) []=some (.ret (.d (.bool (p x))),[]))(hF:rgF F=false:=by rfl) :
  G ext 75 [.d (.sl (l.map Cd1.row)),.fn F [] []] []=some (.ret (.d (.bool (l.any p))),[]):=by
 have hi:=indexCd10_e hx F p l hl hp (hF:=hF)
 rw[←idxN_any];rw[G_body hx.clear rfl Tryz.func75 rfl Tryz.results75 hv_75 rfl];simp(maxSteps:=9^9)(disch:=first|(intros;contradiction)|omega)only[go_sem,hF,hi]
theorem indexCd11_e(hx:TX ext)(F:Nat)(p:Cd1→Bool)(cs:List AV)(k1:(cs.map refs).flatten=[])(k2:∀ f,cs.map (ren f)=cs)(l:List Cd1)(hl:l.length≤1000000)(hp:∀ x,x∈l→G ext F ([Cd1.av x]++[.ptr 0 0]) [.cells cs]=some (.ret (.d (.bool (p x))),[.cells cs]))(hF:rgF F=false:=by rfl)(k4:hasRpL cs=false:=by rfl) :
  G ext 108 [.d (.sl (l.map Cd1.row)),.fn F [] [.ptr 0 0]] [.cells cs]=some (.ret (.d (.int .i64 (idxN p l))),[.cells cs]):=by
 have hll:(l.map Cd1.row).length=l.length:=List.length_map _
 rw[G_body hx.clear rfl Tryz.func108 rfl Tryz.results108 hv_108 rfl];simp(maxSteps:=9^9)(disch:=first|(intros;contradiction)|omega)only[go_sem,hF,k4]
 generalize hL:loopA _ _ _=L
 apply loop_post hL (fun i:Nat=>i≤l.length∧(idxP p l=(idxP p (l.drop i)).map (·+i))) (fun i=>l.length-i)
  (fun i=>⟨[(0,.d (.sl (l.map Cd1.row))),(1,.fn F [] [.ptr 0 0]),(4,.d (.int .i64 0)),(5,.any),(7,.d (.int .i64 (l.map Cd1.row).length)),(8,.d (.int .i64 i))],[],[.cells cs]⟩)
  0 (by simp(maxSteps:=9^9)(disch:=first|(intros;contradiction)|omega)only[go_sem,hF,k4,k1]<;>rfl) ⟨Nat.zero_le _,by simp⟩
 rintro i ⟨hi,hs⟩ next ih
 by_cases h:i<l.length
 ·have hlt:(i:Int)<((l.map Cd1.row).length:Int):=by omega
  have hr:=map_at (f:=Cd1.row) h
  have hd:=idxP_drop (p:=p) h
  have hc:=hp l[i] (List.getElem_mem h)
  generalize l[i]=x at hr hd hc;simp only[Cd1.row,Cd1.av,List.cons_append,List.nil_append]at hr hc
  cases hpx:p x with
  | true=>
   rw[hpx]at hd hc;rw[hd]at hs;simp(maxSteps:=9^9)(disch:=first|(intros;contradiction)|omega)only[go_sem,hF,k4,k1,k2,hlt,hr,hc,idxN,hs,Option.map_some,Nat.zero_add]
  | false=>
   rw[hpx]at hd hc;simp(maxSteps:=9^9)(disch:=first|(intros;contradiction)|omega)only[go_sem,hF,k4,k1,k2,hlt,hr,hc,wrap64]
   exact ih (i+1) _ ⟨h,by rw[hs,hd];simp only[Bool.false_eq_true,if_false,Option.map_map];congr 1;funext n;simp only[Function.comp];omega⟩ (by omega) (by simp(maxSteps:=9^9)(disch:=first|(intros;contradiction)|omega)only[go_sem,hF,k4,k1]<;>rfl)
 ·have hlt:¬(i:Int)<((l.map Cd1.row).length:Int):=by omega
  rw[List.drop_eq_nil_of_le (by omega)]at hs
  simp(maxSteps:=9^9)(disch:=first|(intros;contradiction)|omega)only[go_sem,hF,k4,k1,hlt,idxN,hs,idxP,Option.map_none]
theorem indexFd10_e(hx:TX ext)(F:Nat)(p:Fd1→Bool)(l:List Fd1)(hl:l.length≤1000000)(hp:∀ x,x∈l→G ext F ([Fd1.av x]++[]) []=some (.ret (.d (.bool (p x))),[]))(hF:rgF F=false:=by rfl) :
  G ext 114 [.d (.sl (l.map Fd1.row)),.fn F [] []] []=some (.ret (.d (.int .i64 (idxN p l))),[]):=by
 have hll:(l.map Fd1.row).length=l.length:=List.length_map _
 rw[G_body hx.clear rfl Tryz.func114 rfl Tryz.results114 hv_114 rfl];simp(maxSteps:=9^9)(disch:=first|(intros;contradiction)|omega)only[go_sem,hF]
 generalize hL:loopA _ _ _=L
 apply loop_post hL (fun i:Nat=>i≤l.length∧(idxP p l=(idxP p (l.drop i)).map (·+i))) (fun i=>l.length-i)
  (fun i=>⟨[(0,.d (.sl (l.map Fd1.row))),(1,.fn F [] []),(4,.d (.int .i64 0)),(5,.any),(7,.d (.int .i64 (l.map Fd1.row).length)),(8,.d (.int .i64 i))],[],[]⟩)
  0 (by simp(maxSteps:=9^9)(disch:=first|(intros;contradiction)|omega)only[go_sem,hF]<;>rfl) ⟨Nat.zero_le _,by simp⟩
 rintro i ⟨hi,hs⟩ next ih
 by_cases h:i<l.length
 ·have hlt:(i:Int)<((l.map Fd1.row).length:Int):=by omega
  have hr:=map_at (f:=Fd1.row) h
  have hd:=idxP_drop (p:=p) h
  have hc:=hp l[i] (List.getElem_mem h)
  generalize l[i]=x at hr hd hc;simp only[Fd1.row,Fd1.av,List.cons_append,List.nil_append]at hr hc
  cases hpx:p x with
  | true=>
   rw[hpx]at hd hc;rw[hd]at hs;simp(maxSteps:=9^9)(disch:=first|(intros;contradiction)|omega)only[go_sem,hF,hlt,hr,hc,idxN,hs,Option.map_some,Nat.zero_add]
  | false=>
   rw[hpx]at hd hc;simp(maxSteps:=9^9)(disch:=first|(intros;contradiction)|omega)only[go_sem,hF,hlt,hr,hc,wrap64]
   exact ih (i+1) _ ⟨h,by rw[hs,hd];simp only[Bool.false_eq_true,if_false,Option.map_map];congr 1;funext n;simp only[Function.comp];omega⟩ (by omega) (by simp(maxSteps:=9^9)(disch:=first|(intros;contradiction)|omega)only[go_sem,hF]<;>rfl)
 ·have hlt:¬(i:Int)<((l.map Fd1.row).length:Int):=by omega
  rw[List.drop_eq_nil_of_le (by omega)]at hs
  simp(maxSteps:=9^9)(disch:=first|(intros;contradiction)|omega)only[go_sem,hF,hlt,idxN,hs,idxP,Option.map_none]
theorem containsFd10_e(hx:TX ext)(F:Nat)(p:Fd1→Bool)(l:List Fd1)(hl:l.length≤1000000)(hp:∀ x,x∈l→G ext F ([Fd1.av x]++[]) []=some (.ret (.d (.bool (p x))),[]))(hF:rgF F=false:=by rfl) :
  G ext 72 [.d (.sl (l.map Fd1.row)),.fn F [] []] []=some (.ret (.d (.bool (l.any p))),[]):=by
 have hi:=indexFd10_e hx F p l hl hp (hF:=hF)
 rw[←idxN_any];rw[G_body hx.clear rfl Tryz.func72 rfl Tryz.results72 hv_72 rfl];simp(maxSteps:=9^9)(disch:=first|(intros;contradiction)|omega)only[go_sem,hF,hi]
theorem indexSc11_e(hx:TX ext)(F:Nat)(p:Sc1→Bool)(cs:List AV)(k1:(cs.map refs).flatten=[])(k2:∀ f,cs.map (ren f)=cs)(l:List Sc1)(hl:l.length≤1000000)(hp:∀ x,x∈l→G ext F ([Sc1.av x]++[.ptr 0 0]) [.cells cs]=some (.ret (.d (.bool (p x))),[.cells cs]))(hF:rgF F=false:=by rfl)(k4:hasRpL cs=false:=by rfl) :
  G ext 115 [.d (.sl (l.map Sc1.row)),.fn F [] [.ptr 0 0]] [.cells cs]=some (.ret (.d (.int .i64 (idxN p l))),[.cells cs]):=by
 have hll:(l.map Sc1.row).length=l.length:=List.length_map _
 rw[G_body hx.clear rfl Tryz.func115 rfl Tryz.results115 hv_115 rfl];simp(maxSteps:=9^9)(disch:=first|(intros;contradiction)|omega)only[go_sem,hF,k4]
 generalize hL:loopA _ _ _=L
 apply loop_post hL (fun i:Nat=>i≤l.length∧(idxP p l=(idxP p (l.drop i)).map (·+i))) (fun i=>l.length-i)
  (fun i=>⟨[(0,.d (.sl (l.map Sc1.row))),(1,.fn F [] [.ptr 0 0]),(4,.d (.int .i64 0)),(5,.any),(7,.d (.int .i64 (l.map Sc1.row).length)),(8,.d (.int .i64 i))],[],[.cells cs]⟩)
  0 (by simp(maxSteps:=9^9)(disch:=first|(intros;contradiction)|omega)only[go_sem,hF,k4,k1]<;>rfl) ⟨Nat.zero_le _,by simp⟩
 rintro i ⟨hi,hs⟩ next ih
 by_cases h:i<l.length
 ·have hlt:(i:Int)<((l.map Sc1.row).length:Int):=by omega
  have hr:=map_at (f:=Sc1.row) h
  have hd:=idxP_drop (p:=p) h
  have hc:=hp l[i] (List.getElem_mem h)
  generalize l[i]=x at hr hd hc;simp only[Sc1.row,Sc1.av,List.cons_append,List.nil_append]at hr hc
  cases hpx:p x with
  | true=>
   rw[hpx]at hd hc;rw[hd]at hs;simp(maxSteps:=9^9)(disch:=first|(intros;contradiction)|omega)only[go_sem,hF,k4,k1,k2,hlt,hr,hc,idxN,hs,Option.map_some,Nat.zero_add]
  | false=>
   rw[hpx]at hd hc;simp(maxSteps:=9^9)(disch:=first|(intros;contradiction)|omega)only[go_sem,hF,k4,k1,k2,hlt,hr,hc,wrap64]
   exact ih (i+1) _ ⟨h,by rw[hs,hd];simp only[Bool.false_eq_true,if_false,Option.map_map];congr 1;funext n;simp only[Function.comp];omega⟩ (by omega) (by simp(maxSteps:=9^9)(disch:=first|(intros;contradiction)|omega)only[go_sem,hF,k4,k1]<;>rfl)
 ·have hlt:¬(i:Int)<((l.map Sc1.row).length:Int):=by omega
  rw[List.drop_eq_nil_of_le (by omega)]at hs
  simp(maxSteps:=9^9)(disch:=first|(intros;contradiction)|omega)only[go_sem,hF,k4,k1,hlt,idxN,hs,idxP,Option.map_none]
theorem containsSc11_e(hx:TX ext)(F:Nat)(p:Sc1→Bool)(cs:List AV)(k1:(cs.map refs).flatten=[])(k2:∀ f,cs.map (ren f)=cs)(l:List Sc1)(hl:l.length≤1000000)(hp:∀ x,x∈l→G ext F ([Sc1.av x]++[.ptr 0 0]) [.cells cs]=some (.ret (.d (.bool (p x))),[.cells cs]))(hF:rgF F=false:=by rfl)(k4:hasRpL cs=false:=by rfl) :
  G ext 74 [.d (.sl (l.map Sc1.row)),.fn F [] [.ptr 0 0]] [.cells cs]=some (.ret (.d (.bool (l.any p))),[.cells cs]):=by
 have hi:=indexSc11_e hx F p cs k1 k2 l hl hp (hF:=hF) (k4:=k4)
 rw[←idxN_any];rw[G_body hx.clear rfl Tryz.func74 rfl Tryz.results74 hv_74 rfl];simp(maxSteps:=9^9)(disch:=first|(intros;contradiction)|omega)only[go_sem,hF,k4,k1,k2,hi]
theorem indexInt1_e(hx:TX ext)(F:Nat)(p:Int→Bool)(cs:List AV)(k1:(cs.map refs).flatten=[])(k2:∀ f,cs.map (ren f)=cs)(l:List Int)(hl:l.length≤1000000)(hp:∀ x,x∈l→G ext F ([avI x]++[.ptr 0 0]) [.cells cs]=some (.ret (.d (.bool (p x))),[.cells cs]))(hF:rgF F=false:=by rfl)(k4:hasRpL cs=false:=by rfl) :
  G ext 101 [.d (.sl (l.map rowI)),.fn F [] [.ptr 0 0]] [.cells cs]=some (.ret (.d (.int .i64 (idxN p l))),[.cells cs]):=by
 have hll:(l.map rowI).length=l.length:=List.length_map _
 rw[G_body hx.clear rfl Tryz.func101 rfl Tryz.results101 hv_101 rfl];simp(maxSteps:=9^9)(disch:=first|(intros;contradiction)|omega)only[go_sem,hF,k4]
 generalize hL:loopA _ _ _=L
 apply loop_post hL (fun i:Nat=>i≤l.length∧(idxP p l=(idxP p (l.drop i)).map (·+i))) (fun i=>l.length-i)
  (fun i=>⟨[(0,.d (.sl (l.map rowI))),(1,.fn F [] [.ptr 0 0]),(4,.d (.int .i64 0)),(5,.any),(7,.d (.int .i64 (l.map rowI).length)),(8,.d (.int .i64 i))],[],[.cells cs]⟩)
  0 (by simp(maxSteps:=9^9)(disch:=first|(intros;contradiction)|omega)only[go_sem,hF,k4,k1]<;>rfl) ⟨Nat.zero_le _,by simp⟩
 rintro i ⟨hi,hs⟩ next ih
 by_cases h:i<l.length
 ·have hlt:(i:Int)<((l.map rowI).length:Int):=by omega
  have hr:=map_at (f:=rowI) h
  have hd:=idxP_drop (p:=p) h
  have hc:=hp l[i] (List.getElem_mem h)
  generalize l[i]=x at hr hd hc;simp only[rowI,avI,List.cons_append,List.nil_append]at hr hc
  cases hpx:p x with
  | true=>
   rw[hpx]at hd hc;rw[hd]at hs;simp(maxSteps:=9^9)(disch:=first|(intros;contradiction)|omega)only[go_sem,hF,k4,k1,k2,hlt,hr,hc,idxN,hs,Option.map_some,Nat.zero_add]
  | false=>
   rw[hpx]at hd hc;simp(maxSteps:=9^9)(disch:=first|(intros;contradiction)|omega)only[go_sem,hF,k4,k1,k2,hlt,hr,hc,wrap64]
   exact ih (i+1) _ ⟨h,by rw[hs,hd];simp only[Bool.false_eq_true,if_false,Option.map_map];congr 1;funext n;simp only[Function.comp];omega⟩ (by omega) (by simp(maxSteps:=9^9)(disch:=first|(intros;contradiction)|omega)only[go_sem,hF,k4,k1]<;>rfl)
 ·have hlt:¬(i:Int)<((l.map rowI).length:Int):=by omega
  rw[List.drop_eq_nil_of_le (by omega)]at hs
  simp(maxSteps:=9^9)(disch:=first|(intros;contradiction)|omega)only[go_sem,hF,k4,k1,hlt,idxN,hs,idxP,Option.map_none]
theorem containsInt1_e(hx:TX ext)(F:Nat)(p:Int→Bool)(cs:List AV)(k1:(cs.map refs).flatten=[])(k2:∀ f,cs.map (ren f)=cs)(l:List Int)(hl:l.length≤1000000)(hp:∀ x,x∈l→G ext F ([avI x]++[.ptr 0 0]) [.cells cs]=some (.ret (.d (.bool (p x))),[.cells cs]))(hF:rgF F=false:=by rfl)(k4:hasRpL cs=false:=by rfl) :
  G ext 60 [.d (.sl (l.map rowI)),.fn F [] [.ptr 0 0]] [.cells cs]=some (.ret (.d (.bool (l.any p))),[.cells cs]):=by
 have hi:=indexInt1_e hx F p cs k1 k2 l hl hp (hF:=hF) (k4:=k4)
 rw[←idxN_any];rw[G_body hx.clear rfl Tryz.func60 rfl Tryz.results60 hv_60 rfl];simp(maxSteps:=9^9)(disch:=first|(intros;contradiction)|omega)only[go_sem,hF,k4,k1,k2,hi]
end Go.Proofs.YticliodhjfednaaGreat
