/- The evaluator is right of regions. Conditions: none. -/
import Derived.Test.YticliodhjfednaaGreatAbX2
import Derived.OrdersIn
/- The abstract evaluator sees no more of a heap than it needs. Conditions: none. -/
namespace Go.Ab
open Go

structure HLe(H H':List AObj):Prop where
 len:H.length=H'.length
 at':∀ r,isObj (H.getD r .no)=true→H'.getD r .no=H.getD r .no

theorem getD_no{H:List AObj}{r:Nat}(h:H.length≤r):H.getD r .no=.no:=by rw[List.getD_eq_getElem?_getD,List.getElem?_eq_none h];rfl
theorem getD_setO(H:List AObj)(r:Nat)(o:AObj)(q:Nat):(setO H r o).getD q .no=if q=r then o else H.getD q .no:=by
 unfold setO;split
 ·rename_i hr;simp only[List.getD_eq_getElem?_getD,List.getElem?_set]
  by_cases hq:q=r
  ·subst hq;simp[hr]
  ·simp[hq,Ne.symm hq]
 ·rename_i hr;simp only[List.getD_eq_getElem?_getD]
  by_cases hq:q=r
  ·subst hq;rw[List.getElem?_append_right (by simp;omega)]
   simp[show H.length+(q-H.length)=q by omega]
  ·rw[if_neg hq];by_cases h1:q<H.length
   ·rw[List.append_assoc,List.getElem?_append_left h1]
   ·rw[List.getElem?_eq_none (by omega:H.length≤q)]
    by_cases h2:q<r
    ·rw[List.getElem?_append_left (by simp;omega),List.getElem?_append_right (by omega),List.getElem?_replicate,if_pos (by omega)];rfl
    ·rw[List.getElem?_eq_none (by simp;omega)]
theorem len_setO(H:List AObj)(r:Nat)(o:AObj):(setO H r o).length=max H.length (r+1):=by
 unfold setO;split
 ·simp;omega
 ·simp;omega
theorem len_setOs:∀ (ws:List (Nat×AObj)) (H:List AObj),H.length≤(setOs H ws).length
 | [],H=>Nat.le_refl _
 | (r,o)::ws,H=>by
  have:=len_setOs ws (setO H r o)
  rw[len_setO]at this;simp only[setOs];omega
theorem getD_setOs_not:∀ (ws:List (Nat×AObj)) (H:List AObj) (q:Nat),(∀ x,x∈ws→x.1≠q)→(setOs H ws).getD q .no=H.getD q .no
 | [],H,q,_=>rfl
 | (r,o)::ws,H,q,h=>by
  simp only[setOs];rw[getD_setOs_not ws _ q (fun x hx=>h x (by simp[hx])),getD_setO,if_neg (fun e=>h (r,o) (by simp) e.symm)]
theorem setOs_same:∀ (ws:List (Nat×AObj)) (H H':List AObj) (q:Nat),(∃ x,x∈ws∧x.1=q)→(setOs H ws).getD q .no=(setOs H' ws).getD q .no
 | [],H,H',q,h=>by simp at h
 | (r,o)::ws,H,H',q,h=>by
  simp only[setOs];by_cases hw:∃ x,x∈ws∧x.1=q
  ·exact setOs_same ws _ _ q hw
  ·have hr:r=q:=by
    obtain⟨x,hx,hq⟩:=h
    rcases List.mem_cons.1 hx with rfl|hx
    ·exact hq
    ·exact absurd ⟨x,hx,hq⟩ hw
   have hn:∀ x,x∈ws→x.1≠q:=fun x hx e=>hw ⟨x,hx,e⟩
   rw[getD_setOs_not ws _ q hn,getD_setOs_not ws _ q hn,getD_setO,getD_setO,if_pos hr.symm,if_pos hr.symm]
theorem len_setOs_same:∀ (ws:List (Nat×AObj)) (H H':List AObj),H.length=H'.length→(setOs H ws).length=(setOs H' ws).length
 | [],H,H',h=>h
 | (r,o)::ws,H,H',h=>by
  simp only[setOs];exact len_setOs_same ws _ _ (by rw[len_setO,len_setO,h])
theorem len_setOs_lt:∀ (ws:List (Nat×AObj)) (H:List AObj),(∀ x,x∈ws→x.1<H.length)→(setOs H ws).length=H.length
 | [],H,_=>rfl
 | (r,o)::ws,H,h=>by
  have hr:r<H.length:=h (r,o) (by simp)
  have hl:(setO H r o).length=H.length:=by rw[len_setO];omega
  simp only[setOs];rw[len_setOs_lt ws (setO H r o) (fun x hx=>by rw[hl];exact h x (by simp[hx])),hl]

theorem HLe.setO{H H':List AObj}(h:HLe H H')(r:Nat)(o:AObj):HLe (setO H r o) (setO H' r o):=by
 refine⟨by rw[len_setO,len_setO,h.len],fun q hq=>?_⟩
 rw[getD_setO]at hq ⊢;rw[getD_setO];split
 ·rfl
 ·rename_i hne;rw[if_neg hne]at hq;exact h.at' q hq
theorem HLe.setOs:∀ (ws:List (Nat×AObj)) {H H':List AObj},HLe H H'→HLe (setOs H ws) (setOs H' ws)
 | [],_,_,h=>h
 | (r,o)::ws,_,_,h=>HLe.setOs ws (h.setO r o)

section
variable {P:Program}{Γ:Sem'}{H H':List AObj}

theorem isObj_cells{o:AObj}{cs:List AV}(h:cellsOf o=some cs):isObj o=true:=by cases o<;>simp_all [cellsOf,isObj]

theorem isObj_stk{e:Nat}{o:AObj}{cs:List AV}(h:stkOf e o=some cs):isObj o=true:=by cases o<;>simp_all [stkOf,isObj]
theorem isObj_reg{o:AObj}{bs:List (List AV)}(h:regC o=some bs):isObj o=true:=by cases o<;>simp_all [regC,isObj]
theorem regC_mono(h:HLe H H'){bs:List (List AV)}(hb:regC (H.getD 0 .no)=some bs):regC (H'.getD 0 .no)=some bs:=by rw[h.at' 0 (isObj_reg hb)];exact hb
theorem loadA_mono(h:HLe H H'){t:TypeId}{x v:AV}(hl:loadA P t H x=some v):loadA P t H' x=some v:=by
 unfold loadA at hl ⊢;split at hl
 ·rename_i r off;unfold loadK at hl;split at hl
  ·rename_i cs hc;rw[h.at' r (isObj_cells hc),hc];exact hl
  ·cases hl
 ·exact hl
 ·rename_i r e off;unfold loadK at hl;split at hl
  ·rename_i cs hc;rw[h.at' r (isObj_stk hc),hc];exact hl
  ·cases hl
 ·rename_i k off
  cases hc:regC (H.getD 0 .no)with
  | none=>rw[hc]at hl;simp[regCell,loadK]at hl
  | some bs=>rw[regC_mono h hc];rw[hc]at hl;exact hl
 ·cases hl
theorem storeA_mono(h:HLe H H'){t:TypeId}{x y:AV}{v:ORes}(hl:storeA P t H x y=some v):storeA P t H' x y=some v:=by
 unfold storeA storeT at hl ⊢;split at hl
 ·rename_i r off n hn
  cases hc:cellsOf (H.getD r .no)with
  | none=>rw[hc]at hl;simp[storeK]at hl
  | some cs=>rw[h.at' r (isObj_cells hc)];exact hl
 ·rename_i r e off n hn
  have:isObj (H.getD r .no)=true:=by
   cases hc:H.getD r .no with
   | no=>rw[hc]at hl;simp[storeS]at hl
   | _=>rfl
  rw[h.at' r this];exact hl
 ·rename_i k off n hn
  cases hc:regC (H.getD 0 .no)with
  | none=>rw[hc]at hl;simp[storeR]at hl
  | some bs=>rw[regC_mono h hc];rw[hc]at hl;exact hl
 ·cases hl
theorem cpySrc_mono(h:HLe H H'){s:Nat}{x:AV}{z:Nat×List AV}(hl:cpySrc H s x=some z):cpySrc H' s x=some z:=by
 unfold cpySrc at hl ⊢;split at hl
 ·exact hl
 ·exact hl
 ·exact hl
 ·rename_i r e n
  cases hc:stkOf e (H.getD r .no)with
  | none=>rw[hc]at hl;simp[cpyCells]at hl
  | some cs=>rw[h.at' r (isObj_stk hc)];exact hl
 ·exact hl
 ·cases hl
theorem cpyB_mono(h:HLe H H'){ts:List TypeId}{as:List AV}{v:ORes}(hl:cpyB P H ts as=some v):cpyB P H' ts as=some v:=by
 unfold cpyB at hl ⊢;split at hl
 ·rename_i t t' d x;split at hl
  ·rename_i ht;rw[if_pos ht];generalize elemT P t=E at hl ⊢
   cases E with
   | none=>cases hl
   | some e=>
    simp only[cpyT]at hl ⊢;generalize szZ P e=S at hl ⊢
    cases S with
    | none=>cases hl
    | some s=>
     simp only[cpyK]at hl ⊢;unfold cpyD at hl ⊢;split at hl
     ·rename_i r off len esz;split at hl
      ·rename_i he;rw[if_pos he]
       cases hc:cellsOf (H.getD r .no)with
       | none=>rw[hc]at hl;simp[cpyW]at hl
       | some cs=>
        cases hs:cpySrc H s x with
        | none=>rw[hc,hs]at hl;simp[cpyW]at hl
        | some z=>
         rw[h.at' r (isObj_cells hc),cpySrc_mono h hs];rw[hs]at hl;exact hl
      ·cases hl
     ·cases hl
  ·cases hl
 ·cases hl
theorem clearA_mono(h:HLe H H'){t:TypeId}{x:AV}{v:ORes}(hl:clearA P H t x=some v):clearA P H' t x=some v:=by
 unfold clearA at hl ⊢;generalize elemT P t=e at hl ⊢
 cases e with
 | none=>cases hl
 | some e=>
  simp only[clearT]at hl ⊢;generalize szZ P e=S at hl ⊢;generalize zeroOf P e=Z at hl ⊢;generalize unO x=X at hl ⊢;unfold clearK at hl;split at hl
  ·rename_i r off len esz s z;simp only[clearK]
   cases hc:cellsOf (H.getD r .no)with
   | none=>rw[hc]at hl;simp[clearC]at hl
   | some cs=>rw[h.at' r (isObj_cells hc)];exact hl
  ·exact hl
  ·cases hl
theorem appendA_mono(h:HLe H H'){p:Nat}{t:TypeId}{x y:AV}{v:ORes}(hl:appendA P p t H x y=some v):appendA P p t H' x y=some v:=by
 unfold appendA appendT at hl ⊢;split at hl
 ·rename_i e he;unfold appendX at hl ⊢;split at hl
  ·unfold appendV at hl ⊢;split at hl
   ·rename_i r e' n s b _ _
    have:isObj (H.getD r .no)=true:=by
     cases hc:H.getD r .no with
     | no=>rw[hc]at hl;simp[stkAppV]at hl
     | _=>rfl
    rw[h.at' r this];exact hl
   ·cases hl
  unfold appendK at hl ⊢;split at hl
  ·rename_i r ep rows sz b xs _ _ _
   have:isObj (H.getD r .no)=true:=by
    cases hc:H.getD r .no with
    | no=>rw[hc]at hl;simp[growK]at hl
    | cells cs=>rfl
    | _=>rfl
   rw[h.at' r this];exact hl
  ·rename_i r e n sz b xs _ _ _
   have:isObj (H.getD r .no)=true:=by
    cases hc:H.getD r .no with
    | no=>rw[hc]at hl;cases xs<;>simp[stkApp]at hl
    | _=>rfl
   rw[h.at' r this];exact hl
  ·exact hl
  ·cases hl
 ·cases hl

theorem isObj_ents{o:AObj}{es:List (AV×AV)}(h:entsO o=some es):isObj o=true:=by cases o<;>simp_all [entsO,isObj]
theorem entsA_mono(h:HLe H H'){m:AV}{es:List (AV×AV)}(he:entsA H m=some es):entsA H' m=some es:=by
 unfold entsA at he ⊢;split at he
 ·rename_i r;rw[h.at' r (isObj_ents he)];exact he
 ·exact he
 ·cases he
theorem lookA_mono(h:HLe H H'){t:TypeId}{m k v:AV}{ok:Bool}(hl:lookA P t H m k ok=some v):lookA P t H' m k ok=some v:=by
 unfold lookA lookT at hl ⊢;split at hl
 ·cases he:entsA H m with
  | none=>rw[he]at hl;simp[lookE]at hl
  | some es=>rw[entsA_mono h he];rw[he]at hl;exact hl
 ·cases hl
theorem updA_mono(h:HLe H H'){t:TypeId}{m k x:AV}{v:ORes}(hl:updA P t H m k x=some v):updA P t H' m k x=some v:=by
 unfold updA updT at hl ⊢;split at hl
 ·rename_i r kt et ht
  cases he:entsO (H.getD r .no)with
  | none=>rw[he]at hl;simp[updE]at hl
  | some es=>rw[h.at' r (isObj_ents he)];exact hl
 ·cases hl
theorem delA_mono(h:HLe H H'){t:TypeId}{m k:AV}{v:ORes}(hl:delA P t H m k=some v):delA P t H' m k=some v:=by
 unfold delA delT at hl ⊢;split at hl
 ·rename_i r kt et ht
  cases he:entsO (H.getD r .no)with
  | none=>rw[he]at hl;simp[delE]at hl
  | some es=>rw[h.at' r (isObj_ents he)];exact hl
 ·cases hl

theorem give0_mono{kn:Bool}(h:HLe H H'){c x:AV}(hg:give0 kn H c=some x):give0 kn H' c=some x:=by
 unfold give0 at hg ⊢;split at hg
 ·exact hg
 ·exact hg
 ·rename_i r off len esz
  cases hc:cellsOf (H.getD r .no)with
  | none=>rw[hc]at hg;simp[arrV,arrD]at hg
  | some cs=>rw[h.at' r (isObj_cells hc)];exact hg
 ·cases hg
 ·cases hg
 ·cases hg;rfl
theorem giveL_mono{f f':AV→Option AV}(h:∀ c x,f c=some x→f' c=some x):∀ {cs xs:List AV},giveL f cs=some xs→giveL f' cs=some xs
 | [],xs,hg=>hg
 | c::cs,xs,hg=>by
  simp only[giveL]at hg ⊢;split at hg
  ·rename_i y ys h1 h2;rw[h c y h1,giveL_mono h h2];exact hg
  ·cases hg
theorem give1_mono{kn:Bool}(h:HLe H H'){c x:AV}(hg:give1 kn H c=some x):give1 kn H' c=some x:=by
 unfold give1 at hg ⊢;split at hg
 ·unfold aggO at hg ⊢;split at hg
  ·rename_i hh;rw[giveL_mono (fun c x=>give0_mono h) hh];exact hg
  ·cases hg
 ·exact give0_mono h hg

theorem reach_acc:∀ (n:Nat) (todo acc:List Nat) (r:Nat),r∈acc→r∈reach H n todo acc
 | 0,_,_,_,h=>by simpa[reach]using h
 | _+1,[],_,_,h=>by simpa[reach]using h
 | n+1,q::todo,acc,r,h=>by
  simp only[reach];split
  ·exact reach_acc n _ _ r h
  ·exact reach_acc n _ _ r (by simp[h])
theorem reach_mono(h:HLe H H'):∀ (n:Nat) (todo acc:List Nat),(∀ r,r∈reach H n todo acc→isObj (H.getD r .no)=true)→reach H' n todo acc=reach H n todo acc
 | 0,_,_,_=>rfl
 | _+1,[],_,_=>rfl
 | n+1,q::todo,acc,ho=>by
  simp only[reach]at ho ⊢;split
  ·rename_i hq;rw[if_pos hq]at ho;exact reach_mono h n _ _ ho
  ·rename_i hq;rw[if_neg hq]at ho;have:=ho q (reach_acc n _ _ q (by simp))
   rw[h.at' q this];exact reach_mono h n _ _ ho
theorem closed_mono(h:HLe H H'){ρ:List Nat}{as:List AV}(hc:closed H ρ as=true):closed H' ρ as=true∧∀ r,r∈ρ→H'.getD r .no=H.getD r .no:=by
 obtain⟨_,_,h3,_⟩:=closed_inv hc
 have hr:∀ r,r∈ρ→H'.getD r .no=H.getD r .no:=fun r hr=>h.at' r (h3 r hr).1
 refine⟨?_,hr⟩
 unfold closed at hc ⊢;have e1:(ρ.map fun r=>refsO (H'.getD r .no))=ρ.map fun r=>refsO (H.getD r .no):=List.map_congr_left fun r hm=>by rw[hr r hm]
 have e2:(ρ.all fun r=>isObj (H'.getD r .no))=ρ.all fun r=>isObj (H.getD r .no):=by
  rw[Bool.eq_iff_iff];simp only[List.all_eq_true];constructor
  ·intro k r hm;rw[←hr r hm];exact k r hm
  ·intro k r hm;rw[hr r hm];exact k r hm
 rw[e1,e2];exact hc

theorem rgH_mono(h:HLe H H'){f:Nat}(hs:rgSure H (rgF f)=true):rgH f H'=rgH f H∧rgSure H' (rgF f)=true:=by
 unfold rgH
 cases hf:rgF f with
 | false=>exact⟨rfl,rfl⟩
 | true=>
  rw[hf]at hs
  have key:isObj (H.getD 0 .no)=true→rgHas H'=rgHas H:=by
   intro hi;unfold rgHas;rw[h.at' 0 hi]
  simp only[rgSure,Bool.or_eq_true]at hs ⊢;rcases hs with hs|hs
  ·have hi:isObj (H.getD 0 .no)=true:=by
    unfold rgHas at hs
    cases he:H.getD 0 .no with
    | no=>rw[he]at hs;simp[regC,isReg]at hs
    | _=>rfl
   have e:=key hi
   exact⟨by rw[e],.inl (by rw[e];exact hs)⟩
  ·cases H with
   | nil=>
    have hl:=h.len
    cases H' with
    | nil=>exact⟨rfl,.inr rfl⟩
    | cons a l=>simp at hl
   | cons o l=>
    have hs:isObj o=true:=hs
    have e:=key hs
    have e2:=h.at' 0 hs
    cases H' with
    | nil=>
     have hl:=h.len
     simp at hl
    | cons a l'=>
     have e2:a=o:=e2
     subst e2;exact⟨by rw[e],.inr hs⟩
theorem rgOk_mono(h:HLe H H'){f:Nat}{ρ:List Nat}{as:List AV}(hr:∀ r,r∈ρ→H'.getD r .no=H.getD r .no)(hk:rgOk f H ρ as=true):rgOk f H' ρ as=true:=by
 unfold rgOk at hk ⊢;rw[Bool.and_eq_true]at hk ⊢;obtain⟨hs,hk⟩:=hk
 obtain⟨e,hs'⟩:=rgH_mono h hs
 refine⟨hs',?_⟩
 generalize hasReg=b at hk ⊢
 cases b with
 | false=>rfl
 | true=>
  unfold rgOk1 at hk ⊢;simp only at hk ⊢
  rw[e];generalize rgH f H=b at hk ⊢
  cases b with
  | true=>
   simp only[rgIn,Bool.and_eq_true,decide_eq_true_eq]at hk ⊢
   have h0:0∈ρ:=by
    cases ρ with
    | nil=>simp at hk
    | cons a l=>simp at hk;simp[hk.2]
   rw[hr 0 h0];exact hk
  | false=>
   have e:(ρ.map fun r=>H'.getD r .no)=ρ.map fun r=>H.getD r .no:=List.map_congr_left fun r hm=>hr r hm
   simp only[rgIn]at hk ⊢;rw[e];exact hk
theorem evCall_mono(h:HLe H H'){f:Nat}{as:List AV}{r:ORes}(hc:evCall Γ f as H=some r):evCall Γ f as H'=some r:=by
 unfold evCall callG at hc ⊢;split at hc
 ·rename_i as' hg;rw[giveL_mono (fun c x=>give1_mono h) hg]
  simp only
  have h2:=HLe.setOs (noes (refsL arrs1 as)) h
  unfold callR at hc ⊢;unfold callH at hc;split at hc
  ·rename_i hcl;rw[Bool.and_eq_true]at hcl;obtain⟨hcl,hrk⟩:=hcl
   have ho:=(closed_inv hcl).2.2.1
   have hre:=reach_mono h2 _ _ _ (fun r hr=>(ho r hr).1)
   obtain⟨k1,k2⟩:=closed_mono h2 hcl
   have hsu:rgSure (setOs H (noes (refsL arrs1 as))) (rgF f)=true:=by
    unfold rgOk at hrk;rw[Bool.and_eq_true]at hrk;exact hrk.1
   rw[(rgH_mono h2 hsu).1,←h.len,hre,k1,rgOk_mono h2 k2 hrk];simp only[Bool.and_true,callH];rw[(rgH_mono h2 hsu).1,←h2.len];have e:∀ g:Nat→Nat,((reach (setOs H (noes (refsL arrs1 as))) (2*H.length+8) (rgRoot (rgH f (setOs H (noes (refsL arrs1 as))))++(as'.map refs).flatten) []).map fun r=>renO g ((setOs H' (noes (refsL arrs1 as))).getD r .no))=(reach (setOs H (noes (refsL arrs1 as))) (2*H.length+8) (rgRoot (rgH f (setOs H (noes (refsL arrs1 as))))++(as'.map refs).flatten) []).map fun r=>renO g ((setOs H (noes (refsL arrs1 as))).getD r .no):=fun g=>List.map_congr_left fun r hm=>by rw[k2 r hm]
   rw[e];exact hc
  ·cases hc
 ·cases hc

theorem yieldA_mono(h:HLe H H'){as:List AV}{r:Nat}{v:ORes}(hc:yieldA as H r=some v):yieldA as H' r=some v:=by
 unfold yieldA yieldG at hc ⊢;split at hc
 ·rename_i as' hg;rw[giveL_mono (fun c x=>give1_mono h) hg]
  simp only
  have ho:isObj (H.getD r .no)=true:=by
   cases hr:H.getD r .no with
   | no=>rw[hr]at hc;simp[yieldK]at hc
   | _=>rfl
  rw[h.at' r ho];exact hc
 ·cases hc

theorem opV_mono{p:Nat}{st:St}{ty:TypeId}{op:Op}{r:ORes}{H':List AObj}(h:HLe st.H H')(hc:opV P Γ p st ty op=some r):opV P Γ p ⟨st.vs,st.ts,H'⟩ ty op=some r:=by
 have ha:∀ x,evArg ⟨st.vs,st.ts,H'⟩ x=evArg st x:=fun x=>by cases x<;>rfl
 have hb:∀ xs,argsA ⟨st.vs,st.ts,H'⟩ xs=argsA st xs:=fun xs=>by
  induction xs with
  | nil=>rfl
  | cons x xs ih=>simp only[argsA,ih,ha]
 have hp:∀ xs,partsA ⟨st.vs,st.ts,H'⟩ xs=partsA st xs:=fun xs=>by
  induction xs with
  | nil=>rfl
  | cons x xs ih=>simp only[partsA,ih,ha]
 have ho:∀ x,argO ⟨st.vs,st.ts,H'⟩ x=argO st x:=fun x=>by
  cases x with
  | none=>rfl
  | some x=>simp only[argO,ha]
 have hbs:∀ t n ps,bsA P p ⟨st.vs,st.ts,H'⟩ t n ps=bsA P p st t n ps:=fun t n ps=>by
  cases n<;>cases ps<;>simp only[bsA,hp]
 cases op<;>simp only[opV,ha,hb,hp,ho,hbs]at hc ⊢<;>try exact hc
 case load t x=>
  cases hl:loadA P t st.H (evArg st x)with
  | none=>rw[hl]at hc;simp[vO]at hc
  | some v=>rw[loadA_mono h hl];rw[hl]at hc;exact hc
 case store t x y=>exact storeA_mono h hc
 case makeSlice t x y=>
  cases hr:rgT t with
  | false=>rw[hr]at hc;exact hc
  | true=>
   rw[hr]at hc;simp only[makeRA]at hc ⊢
   cases hb:regC (st.H.getD 0 .no)with
   | none=>
    rw[hb]at hc;unfold makeRG at hc;split at hc
    ·rename_i h2;cases h2
    ·cases hc
   | some bs=>rw[regC_mono h hb];rw[hb]at hc;exact hc
 case insert t m k x=>exact updA_mono h hc
 case mapUpdate t m k x=>exact updA_mono h hc
 case lookup t m k ok=>
  cases hl:lookA P t st.H (evArg st m) (evArg st k) ok with
  | none=>rw[hl]at hc;simp[vO]at hc
  | some v=>rw[lookA_mono h hl];rw[hl]at hc;exact hc
 case makeFunc fn first captured=>
  cases fn
  ·exact hc
  all_goals cases hc
 case call c=>
  split at hc
  ·rename_i b hb';unfold builtinA at hc ⊢;split at hc
   ·unfold delB at hc ⊢;split at hc
    ·exact delA_mono h hc
    ·cases hc
   ·exact hc
   ·unfold appB at hc ⊢;split at hc
    ·split at hc
     ·rename_i ht;rw[if_pos ht];exact appendA_mono h hc
     ·rename_i ht;rw[if_neg ht];unfold appS at hc ⊢;split at hc
      ·exact appendA_mono h hc
      ·exact appendA_mono h hc
      ·exact appendA_mono h hc
      ·cases hc
    ·cases hc
   ·exact hc
   ·exact hc
   ·unfold clrB at hc ⊢;split at hc
    ·exact clearA_mono h hc
    ·cases hc
   ·exact cpyB_mono h hc
   ·cases hc
  ·rename_i f hf;unfold callV at hc ⊢;split at hc
   ·exact evCall_mono h hc
   ·exact yieldA_mono h hc
   ·cases hc
  ·cases hc

theorem opV_congr{p:Nat}{st st':St}{ty:TypeId}{op:Op}(hH:st.H=st'.H)(h:∀ x,x∈op.operands→evArg st x=evArg st' x):opV P Γ p st ty op=opV P Γ p st' ty op:=by
 have hb:∀ xs:List Operand,(∀ x,x∈xs→evArg st x=evArg st' x)→argsA st xs=argsA st' xs:=fun xs=>by
  induction xs with
  | nil=>intro _;rfl
  | cons x xs ih=>intro h;simp only[argsA];rw[ih (fun y hy=>h y (by simp[hy])),h x (by simp)]
 have hp:∀ xs:List (Nat×Operand),(∀ x,x∈xs→evArg st x.2=evArg st' x.2)→partsA st xs=partsA st' xs:=fun xs=>by
  induction xs with
  | nil=>intro _;rfl
  | cons x xs ih=>intro h;simp only[partsA];rw[ih (fun y hy=>h y (by simp[hy])),h x (by simp)]
 have hp':∀ ps:Array (Nat×Operand),(∀ x,x∈ps.map (·.2)→evArg st x=evArg st' x)→partsA st ps.toList=partsA st' ps.toList:=fun ps h=>hp _ fun x hx=>h x.2 (Array.mem_map.2 ⟨x,by simpa using hx,rfl⟩)
 cases op<;>simp only[Op.operands]at h<;>simp only[opV]<;>try rfl
 case build t ps=>rw[hp' ps (by simpa using h)]
 case buildSlice t n ps=>
  have:=hp' ps (by simpa using h)
  cases n<;>cases hps:ps.toList<;>rw[hps]at this<;>simp only[bsA,this]
 case makeFunc fn first captured=>
  cases fn with
  | func f=>
   simp only
   rw[hb _ (fun x hx=>h x (by simp at hx ⊢;exact .inl hx)),hb captured.toList (fun x hx=>h x (by simp at hx ⊢;exact .inr hx))]
  | _=>rfl
 case slice t x lo hi mx=>
  have hx:=h x (by simp)
  cases lo<;>cases hi<;>cases mx<;>simp only[argO,hx]<;>simp_all
 case call c=>
  have hargs:argsA st c.args.toList=argsA st' c.args.toList:=hb _ fun x hx=>h x (by
   simp only[Call.operands]
   cases c.callee<;>simp_all)
  cases hc:c.callee with
  | value f=>have hf:evArg st f=evArg st' f:=h f (by simp[Call.operands,hc]);simp only[hargs,hf,hH]
  | invoke r m=>rfl
  | builtin b=>simp only[hargs,hH]
 all_goals simp_all
end
end Go.Ab
/- What an operation writes,and what of a region's order is fixed. Conditions: none. -/
namespace Go.Ab
open Go

def loudB:Op→Bool
 | .call c=>match c.callee with
  | .builtin .append=>true
  | .builtin .delete=>true
  | .builtin .clear=>true
  | .builtin .copy=>true
  | .builtin _=>false
  | _=>true
 | .lookup _ _ _ _=>true
 | .mapUpdate _ _ _ _=>true
 | .insert _ _ _ _=>true
 | .store _ _ _=>true
 | .panic _=>true
 | .makeSlice t _ _=>rgT t
 | _=>false
theorem panOp_loud{o:Op}(h:panOp o=true):loudB o=true:=by
 cases o with
 | call c=>unfold panOp at h;unfold loudB;simp only at h ⊢;split at h<;>simp_all
 | panic x=>rfl
 | _=>cases h
def isLoad:Op→Bool
 | .load _ _=>true
 | _=>false

section
variable {P:Program}{Γ:Sem'}

theorem vO_ws{c:Option AV}{v:AV}{ws:List (Nat×AObj)}(h:vO c=some (.val v ws)):ws=[]∧c=some v:=by
 unfold vO at h;split at h
 ·cases h;exact⟨rfl,rfl⟩
 ·cases h
theorem emptyA_ws{p:Nat}{t:TypeId}{v:AV}{ws:List (Nat×AObj)}(h:emptyA P p t=some (.val v ws)):∀ q,q∈ws→q.1=p:=by
 unfold emptyA emptyT at h;split at h
 ·unfold emptyK at h;split at h
  ·cases h;intro q hq;simp at hq;rw[hq]
  ·cases h
 ·cases h
theorem nilA_ws{p:Nat}{t:TypeId}{b:Bool}{v:AV}{ws:List (Nat×AObj)}(h:nilA P p t b=some (.val v ws)):∀ q,q∈ws→q.1=p:=by
 unfold nilA at h;split at h
 ·unfold nilStkT at h;split at h
  ·unfold nilStkK at h;split at h
   ·cases h;intro q hq;simp at hq;rw[hq]
   ·cases h
  ·cases h
 ·exact emptyA_ws h
theorem newB_ws{p:Nat}{t:TypeId}{c:List AV}{v:AV}{ws:List (Nat×AObj)}(h:newB P p t c=some (.val v ws)):∀ q,q∈ws→q.1=p:=by
 unfold newB at h;split at h
 ·split at h
  ·cases h;intro q hq;simp at hq;rw[hq]
  ·cases h
 ·cases h
theorem newT_ws{p:Nat}{t:TypeId}{b:Bool}{c:Option (List AV)}{v:AV}{ws:List (Nat×AObj)}(h:newT P p t b c=some (.val v ws)):∀ q,q∈ws→q.1=p:=by
 unfold newT at h;split at h
 ·exact newB_ws h
 ·cases h;intro q hq;simp at hq;rw[hq]
 ·cases h
theorem newA_ws{p:Nat}{c:Option (List AV)}{v:AV}{ws:List (Nat×AObj)}(h:newA p c=some (.val v ws)):∀ q,q∈ws→q.1=p:=by
 unfold newA at h;split at h
 ·cases h;intro q hq;simp at hq;rw[hq]
 ·cases h
theorem makeSliceA_ws{p:Nat}{t:TypeId}{x y v:AV}{ws:List (Nat×AObj)}(h:makeSliceA P p t x y=some (.val v ws)):∀ q,q∈ws→q.1=p:=by
 unfold makeSliceA makeT at h;split at h
 ·unfold makeK at h;split at h
  ·split at h
   ·split at h
    ·cases h;intro q hq;simp at hq;rw[hq]
    ·split at h
     ·cases h;intro q hq;simp at hq;rw[hq]
     ·cases h
   ·cases h
  ·cases h
 ·cases h

theorem bsK_ws{n:Nat}{t:TypeId}{ps:List (Nat×AV)}{c:Option (List (List Dt))}{v:AV}{ws:List (Nat×AObj)}(h:bsK P t n ps c=some (.val v ws)):ws=[]:=by
 unfold bsK at h;split at h
 ·cases h;rfl
 ·unfold avlT at h;split at h
  ·unfold avlS at h;split at h
   ·split at h
    ·unfold avlK at h;split at h
     ·cases h;rfl
     ·cases h
    ·cases h
   ·cases h
  ·cases h
theorem cpyB_ws{H:List AObj}{ts:List TypeId}{as:List AV}{v:AV}{ws:List (Nat×AObj)}(h:cpyB P H ts as=some (.val v ws)):∀ q,q∈ws→isObj (H.getD q.1 .no)=true:=by
 unfold cpyB at h;split at h
 ·split at h
  ·unfold cpyT at h;split at h
   ·unfold cpyK at h;split at h
    ·unfold cpyD at h;split at h
     ·split at h
      ·unfold cpyW at h;split at h
       ·rename_i hc _;split at h
        ·cases h;intro q hq
         simp at hq;subst hq;exact isObj_cells hc
        ·cases h
       ·cases h
      ·cases h
     ·cases h
    ·cases h
   ·cases h
  ·cases h
 ·cases h
theorem quiet_ws{p:Nat}{st:St}{o:Oper}{v:AV}{ws:List (Nat×AObj)}(hl:loudB o.op=false)(h:opV P Γ p st o.type o.op=some (.val v ws)):(∀ q,q∈ws→q.1=p)∧(creates o=0→ws=[]):=by
 have hnil:∀ {w:List (Nat×AObj)},w=[]→(∀ q,q∈w→q.1=p)∧(creates o=0→w=[]):=fun hw=>by subst hw;exact⟨fun q hq=>by simp at hq,fun _=>rfl⟩
 unfold creates
 cases hop:o.op with
 | alloc t=>rw[hop]at h;exact⟨newT_ws h,fun hc=>by simp at hc⟩
 | box t x=>rw[hop]at h;exact⟨newA_ws h,fun hc=>by simp at hc⟩
 | makeSlice t x y=>
  rw[hop]at h hl;simp only[loudB]at hl;simp only[opV,hl,makeRA]at h;exact⟨makeSliceA_ws h,fun hc=>by simp at hc⟩
 | buildSlice t n ps=>
  rw[hop]at h
  cases n with
  | zero=>
   refine⟨?_,fun hc=>by simp at hc⟩
   simp only[opV]at h;generalize ps.toList=l at h
   cases l with
   | nil=>simp only[bsA]at h;exact emptyA_ws h
   | cons x l=>simp only[bsA]at h;cases h
  | succ n=>
   simp only[opV]at h;simp only[bsA]at h;have:ws=[]:=bsK_ws h
   subst this;exact⟨fun q hq=>by simp at hq,fun _=>rfl⟩
 | assign x=>
  rw[hop]at h;simp only[opV]at h;unfold assignA at h;split at h
  ·cases h;exact⟨fun q hq=>by simp at hq,fun _=>rfl⟩
  ·rename_i hn;refine⟨nilA_ws h,fun hc=>?_⟩
   simp[hn]at hc
 | call c=>
  rw[hop]at h hl;simp only[opV,loudB]at h hl;split at h
  ·rename_i b hb;rw[hb]at hl;unfold builtinA at h;split at h
   ·simp at hl
   ·unfold lenB at h;split at h
    ·rw[(vO_ws h).1];exact⟨fun q hq=>by simp at hq,fun _=>rfl⟩
    ·cases h
   ·simp at hl
   ·rw[(vO_ws h).1];exact⟨fun q hq=>by simp at hq,fun _=>rfl⟩
   ·rw[(vO_ws h).1];exact⟨fun q hq=>by simp at hq,fun _=>rfl⟩
   ·simp at hl
   ·simp at hl
   ·cases h
  ·rename_i f hf;rw[hf]at hl;simp at hl
  ·cases h
 | store t x y=>rw[hop]at hl;simp[loudB]at hl
 | panic x=>rw[hop]at hl;simp[loudB]at hl
 | lookup t m k ok=>rw[hop]at hl;simp[loudB]at hl
 | mapUpdate t m k x=>rw[hop]at hl;simp[loudB]at hl
 | insert t m k x=>rw[hop]at hl;simp[loudB]at hl
 | makeMap t r=>
  rw[hop]at h
  cases r with
  | some x=>cases h
  | none=>
   simp only[opV,makeM]at h
   cases h;exact⟨fun q hq=>by simp at hq;rw[hq],fun hc=>by simp at hc⟩
 | makeFunc fn a b=>
  rw[hop]at h
  cases fn with
  | func f=>simp only[opV]at h;cases h;exact⟨fun q hq=>by simp at hq,fun _=>rfl⟩
  | _=>cases h
 | slice t x lo hi mx=>
  rw[hop]at h
  cases mx with
  | none=>simp only[opV]at h;rw[(vO_ws h).1];exact⟨fun q hq=>by simp at hq,fun _=>rfl⟩
  | some m=>cases h
 | move x=>rw[hop]at h;simp only[opV]at h;cases h;exact⟨fun q hq=>by simp at hq,fun _=>rfl⟩
 | _=>
  rw[hop]at h
  first
   | (simp only[opV]at h;rw[(vO_ws h).1];exact⟨fun q hq=>by simp at hq,fun _=>rfl⟩)
   | (simp[opV]at h;done)

theorem give_objs{kn:Bool}{H:List AObj}{as as':List AV}(hg:giveL (give1 kn H) as=some as'):∀ r,r∈refsL arrs1 as→isObj (H.getD r .no)=true:=by
 have h0:∀ (c x:AV),give0 kn H c=some x→∀ r,r∈arrs0 c→isObj (H.getD r .no)=true:=by
  intro c x hg r hr
  cases c<;>simp[arrs0]at hr
  subst hr;simp only[give0]at hg
  cases hc:cellsOf (H.getD r .no)with
  | none=>rw[hc]at hg;simp[arrD,arrV]at hg
  | some cs=>exact isObj_cells hc
 have hL:∀ (fn:AV→Option AV) (ar:AV→List Nat),(∀ c x,fn c=some x→∀ r,r∈ar c→isObj (H.getD r .no)=true)→∀ (cs xs:List AV),giveL fn cs=some xs→∀ r,r∈refsL ar cs→isObj (H.getD r .no)=true:=by
  intro fn ar hfn cs;induction cs with
  | nil=>intro xs _ r hr;simp[refsL]at hr
  | cons c cs ih=>
   intro xs hg r hr;simp only[giveL]at hg;split at hg
   ·rename_i y ys h1 h2;simp only[refsL,List.mem_append]at hr;rcases hr with hr|hr
    ·exact hfn c y h1 r hr
    ·exact ih ys h2 r hr
   ·cases hg
 refine hL _ _ (fun c x hg r hr=>?_) as as' hg
 unfold give1 at hg;split at hg
 ·rename_i cs;unfold aggO at hg;split at hg
  ·rename_i hh;exact hL _ _ h0 cs _ hh r (by simpa[arrs1]using hr)
  ·cases hg
 ·rename_i hne;refine h0 c x hg r ?_
  unfold arrs1 at hr;split at hr
  ·exact absurd rfl (hne _)
  ·exact hr
theorem mem_noes:∀ (F:List Nat) (q:Nat×AObj),q∈noes F→q.1∈F∧q.2=.no:=by
 intro F;induction F with
 | nil=>intro q hq;simp[noes]at hq
 | cons r F ih=>
  intro q hq;simp only[noes,List.mem_cons]at hq;rcases hq with rfl|hq
  ·exact⟨by simp,rfl⟩
  ·exact⟨by simp[(ih q hq).1],(ih q hq).2⟩
theorem yieldA_ws{H:List AObj}{as:List AV}{r:Nat}{v:AV}{ws:List (Nat×AObj)}(h:yieldA as H r=some (.val v ws)):∀ q,q∈ws→isObj (H.getD q.1 .no)=true∨H.length≤q.1:=by
 unfold yieldA yieldG at h;split at h
 ·rename_i as' hg;have hF:=give_objs hg
  intro q hq;unfold yieldK at h;split at h
  ·rename_i stop n x rest ho;split at h
   ·cases h;rcases List.mem_append.1 hq with hq|hq
    ·exact .inl (hF _ (mem_noes _ q hq).1)
    ·simp at hq;subst hq;exact .inl (by rw[ho];rfl)
   ·cases h
  ·rename_i acc ho
   cases h;rcases List.mem_append.1 hq with hq|hq
   ·exact .inl (hF _ (mem_noes _ q hq).1)
   ·simp at hq;subst hq;exact .inl (by rw[ho];rfl)
  ·cases h
 ·cases h
theorem updA_ws{t:TypeId}{H:List AObj}{m k x v:AV}{ws:List (Nat×AObj)}(h:updA P t H m k x=some (.val v ws)):∀ q,q∈ws→isObj (H.getD q.1 .no)=true:=by
 unfold updA updT at h;split at h
 ·unfold updE at h;split at h
  ·rename_i es he;unfold putM at h;split at h
   ·cases h;intro q hq
    simp at hq;subst hq;exact isObj_ents he
   ·cases h
  ·cases h
 ·cases h
theorem clearA_ws{t:TypeId}{H:List AObj}{x v:AV}{ws:List (Nat×AObj)}(h:clearA P H t x=some (.val v ws)):∀ q,q∈ws→isObj (H.getD q.1 .no)=true:=by
 unfold clearA clearT at h;split at h
 ·unfold clearK at h;split at h
  ·split at h
   ·unfold clearC at h;split at h
    ·rename_i cs hc;split at h
     ·cases h;intro q hq;simp at hq
     ·split at h
      ·cases h;intro q hq
       simp at hq;subst hq;exact isObj_cells hc
      ·cases h
    ·cases h
   ·cases h
  ·cases h;intro q hq;simp at hq
  ·cases h
 ·cases h
theorem delA_ws{t:TypeId}{H:List AObj}{m k v:AV}{ws:List (Nat×AObj)}(h:delA P t H m k=some (.val v ws)):∀ q,q∈ws→isObj (H.getD q.1 .no)=true:=by
 unfold delA delT at h;split at h
 ·unfold delE at h;split at h
  ·rename_i es he;unfold putM at h;split at h
   ·cases h;intro q hq
    simp at hq;subst hq;exact isObj_ents he
   ·cases h
  ·cases h
 ·cases h

theorem evCall_ws{H:List AObj}{f:Nat}{as:List AV}{v:AV}{ws:List (Nat×AObj)}(h:evCall Γ f as H=some (.val v ws)):∀ q,q∈ws→isObj (H.getD q.1 .no)=true∨H.length≤q.1:=by
 unfold evCall callG at h;split at h
 ·rename_i as' hg;unfold callR callH at h;split at h
  ·rename_i hcl;rw[Bool.and_eq_true]at hcl;obtain⟨hcl,_⟩:=hcl
   obtain⟨_,_,h3,_⟩:=closed_inv hcl
   have hlen:H.length≤(setOs H (noes (refsL arrs1 as))).length:=len_setOs _ _
   have hF:∀ r,r∈refsL arrs1 as→isObj (H.getD r .no)=true:=give_objs hg
   have hno:∀ q,q∈noes (refsL arrs1 as)→q.1∈refsL arrs1 as∧q.2=.no:=mem_noes _
   have hsub:∀ r,isObj ((setOs H (noes (refsL arrs1 as))).getD r .no)=true→isObj (H.getD r .no)=true:=by
    intro r hr;by_cases hm:∃ x,x∈noes (refsL arrs1 as)∧x.1=r
    ·obtain⟨x,hx,rfl⟩:=hm
     exact hF _ (hno x hx).1
    ·rw[getD_setOs_not _ _ _ (fun x hx e=>hm ⟨x,hx,e⟩)]at hr
     exact hr
   have hback:∀ (os:List AObj) (i:Nat) (ρ:List Nat) (q:Nat×AObj),(∀ r,r∈ρ→isObj ((setOs H (noes (refsL arrs1 as))).getD r .no)=true)→q∈backWs ρ (setOs H (noes (refsL arrs1 as))).length i os→isObj (H.getD q.1 .no)=true∨H.length≤q.1:=by
    intro os;induction os with
    | nil=>intro i ρ q _ hq;simp[backWs]at hq
    | cons o os ih=>
     intro i ρ q hρ hq;simp only[backWs,List.mem_cons]at hq;rcases hq with rfl|hq
     ·simp only
      unfold back;split
      ·rename_i hi;left
       refine hsub _ (hρ _ ?_)
       rw[List.getD_eq_getElem?_getD,List.getElem?_eq_getElem hi]
       exact List.getElem_mem hi
      ·right;omega
     ·exact ih (i+1) ρ q hρ hq
   intro q hq;generalize Γ f _ _=res at h
   cases res with
   | none=>simp[callK,callC]at h
   | some z=>
    obtain⟨out,H'⟩:=z
    have hi:=(callK_inv h).2
    cases out with
    | pan v=>cases hi
    | ret v=>
     cases hi;rcases List.mem_append.1 hq with hq|hq
     ·exact .inl (hF _ (hno q hq).1)
     ·exact hback _ 0 _ q (fun r hr=>(h3 r hr).1) hq
  ·cases h
 ·cases h

theorem appendA_ws{p:Nat}{t:TypeId}{H:List AObj}{s x v:AV}{ws:List (Nat×AObj)}(h:appendA P p t H s x=some (.val v ws)):∀ q,q∈ws→q.1=p∨isObj (H.getD q.1 .no)=true:=by
 intro q hq;unfold appendA appendT at h;split at h
 ·unfold appendX at h;split at h
  ·unfold appendV at h;split at h
   ·unfold stkAppV at h;split at h
    ·rename_i hg;split at h
     ·cases h;simp at hq;subst hq
      simp only
      exact .inr (by rw[hg];rfl)
     ·cases h
    ·cases h
   ·cases h
  unfold appendK at h;split at h
  ·rename_i r ep rows sz b' xs _ _ _;unfold growK at h;split at h
   ·rename_i hg;split at h
    ·cases h;simp at hq;subst hq
     simp only
     exact .inr (by rw[hg];rfl)
    ·cases h
   ·cases h
  ·unfold stkApp at h;split at h
   ·rename_i hg _;split at h
    ·cases h;simp at hq;subst hq
     simp only
     exact .inr (by first|(rw[hg];rfl)|simp_all [isObj])
    ·cases h
   ·cases h
  ·split at h
   ·cases h;simp at hq;subst hq
    exact .inl rfl
   ·cases h
  ·cases h
 ·cases h
theorem opV_ws{p:Nat}{st:St}{o:Oper}{v:AV}{ws:List (Nat×AObj)}(h:opV P Γ p st o.type o.op=some (.val v ws)):∀ q,q∈ws→(q.1=p∧creates o=1)∨isObj (st.H.getD q.1 .no)=true∨st.H.length≤q.1:=by
 intro q hq
 cases hl:loudB o.op with
 | false=>
  obtain⟨h1,h2⟩:=quiet_ws hl h
  refine .inl ⟨h1 q hq,?_⟩
  have:=creates_le o
  by_cases hc:creates o=0
  ·rw[h2 hc]at hq;simp at hq
  ·omega
 | true=>
  cases hop:o.op with
  | call c=>
   rw[hop]at h hl;simp only[opV]at h;split at h
   ·rename_i b hb;simp only[loudB,hb]at hl;unfold builtinA at h;split at h
    ·unfold delB at h;split at h
     ·exact .inr (.inl (delA_ws h q hq))
     ·cases h
    ·simp at hl
    ·unfold appB at h;split at h
     ·split at h
      ·rcases appendA_ws h q hq with e|e
       ·exact .inl ⟨e,by simp[creates,hop,hb]⟩
       ·exact .inr (.inl e)
      ·unfold appS at h;split at h
       ·rcases appendA_ws h q hq with e|e
        ·exact .inl ⟨e,by simp[creates,hop,hb]⟩
        ·exact .inr (.inl e)
       ·rcases appendA_ws h q hq with e|e
        ·exact .inl ⟨e,by simp[creates,hop,hb]⟩
        ·exact .inr (.inl e)
       ·rcases appendA_ws h q hq with e|e
        ·exact .inl ⟨e,by simp[creates,hop,hb]⟩
        ·exact .inr (.inl e)
       ·cases h
     ·cases h
    ·simp at hl
    ·simp at hl
    ·unfold clrB at h;split at h
     ·exact .inr (.inl (clearA_ws h q hq))
     ·cases h
    ·exact .inr (.inl (cpyB_ws h q hq))
    ·cases h
   ·rename_i f hf;unfold callV at h;split at h
    ·exact .inr (evCall_ws h q hq)
    ·exact .inr (yieldA_ws h q hq)
    ·cases h
   ·cases h
  | store t x y=>
   rw[hop]at h;simp only[opV]at h;unfold storeA storeT at h;split at h
   ·rename_i r off n _ _;unfold storeK at h;split at h
    ·rename_i cs new hc hn;split at h
     ·cases h;simp at hq;subst hq
      exact .inr (.inl (isObj_cells hc))
     ·cases h
    ·cases h
   ·unfold storeS at h;split at h
    ·rename_i hc hn;split at h
     ·cases h;simp at hq;subst hq
      exact .inr (.inl (by rw[hc];rfl))
     ·cases h
    ·cases h
   ·unfold storeR at h;split at h
    ·rename_i hc hn;split at h
     ·unfold storeRK at h;split at h
      ·cases h;simp at hq;subst hq
       exact .inr (.inl (isObj_reg hc))
      ·cases h
     ·cases h
    ·cases h
   ·cases h
  | panic x=>
   rw[hop]at h;simp only[opV]at h;unfold panA at h;split at h<;>cases h
  | lookup t m k ok=>
   rw[hop]at h;simp only[opV]at h;rw[(vO_ws h).1]at hq;simp at hq
  | mapUpdate t m k x=>
   rw[hop]at h;simp only[opV]at h;exact .inr (.inl (updA_ws h q hq))
  | insert t m k x=>
   rw[hop]at h;simp only[opV]at h;exact .inr (.inl (updA_ws h q hq))
  | makeSlice t x y=>
   rw[hop]at h hl;simp only[loudB]at hl;simp only[opV,hl,makeRA]at h;unfold makeRG at h;split at h
   ·rename_i hc;split at h
    ·cases h;simp at hq;subst hq
     exact .inr (.inl (isObj_reg hc))
    ·cases h
   ·cases h
  | _=>rw[hop]at hl;simp[loudB]at hl

theorem opV_noH{p:Nat}{st:St}{ty:TypeId}{op:Op}(hl:loudB op=false)(hi:isLoad op=false)(H':List AObj):opV P Γ p ⟨st.vs,st.ts,H'⟩ ty op=opV P Γ p st ty op:=by
 have ha:∀ x,evArg ⟨st.vs,st.ts,H'⟩ x=evArg st x:=fun x=>by cases x<;>rfl
 have hb:∀ xs,argsA ⟨st.vs,st.ts,H'⟩ xs=argsA st xs:=fun xs=>by
  induction xs with
  | nil=>rfl
  | cons x xs ih=>simp only[argsA,ih,ha]
 have hp:∀ xs,partsA ⟨st.vs,st.ts,H'⟩ xs=partsA st xs:=fun xs=>by
  induction xs with
  | nil=>rfl
  | cons x xs ih=>simp only[partsA,ih,ha]
 have ho:∀ x,argO ⟨st.vs,st.ts,H'⟩ x=argO st x:=fun x=>by
  cases x with
  | none=>rfl
  | some x=>simp only[argO,ha]
 have hbs:∀ t n ps,bsA P p ⟨st.vs,st.ts,H'⟩ t n ps=bsA P p st t n ps:=fun t n ps=>by
  cases n<;>cases ps<;>simp only[bsA,hp]
 cases op<;>simp only[opV,ha,hb,hp,ho,hbs]
 case load=>simp[isLoad]at hi
 case store=>simp[loudB]at hl
 case makeSlice=>simp only[loudB]at hl;rw[hl];rfl
 case lookup=>simp[loudB]at hl
 case mapUpdate=>simp[loudB]at hl
 case insert=>simp[loudB]at hl
 case makeFunc fn a b=>cases fn<;>simp only
 case call c=>
  split
  ·rename_i b hb';simp only[loudB,hb']at hl
   cases b<;>simp_all [builtinA]
  ·rename_i f hf;simp[loudB,hf]at hl
  ·rfl
end

def maskOf(acc:List Nat):List Edge→Nat
 | []=>0
 | e::es=>if Region.binds .any e then(2^e.on|||acc.getD e.on 0)|||maskOf acc es else maskOf acc es
def masks:List Oper→List Nat→List Nat
 | [],acc=>acc
 | o::os,acc=>masks os (acc++[maskOf acc o.after.toList])
def befB(ops:Array Oper)(k i:Nat):Bool:=((masks ops.toList []).getD i 0).testBit k

theorem maskOf_bit{acc:List Nat}{k:Nat}:∀ {es:List Edge},(maskOf acc es).testBit k=true→∃ e,e∈es∧Region.binds .any e=true∧(k=e.on∨(acc.getD e.on 0).testBit k=true)
 | [],h=>by simp[maskOf]at h
 | e::es,h=>by
  simp only[maskOf]at h;split at h
  ·rename_i hb;simp only[Nat.testBit_or,Bool.or_eq_true,Nat.testBit_two_pow,decide_eq_true_eq]at h;rcases h with(h|h)|h
   ·exact⟨e,by simp,hb,.inl h.symm⟩
   ·exact⟨e,by simp,hb,.inr h⟩
   ·obtain⟨e',h1,h2,h3⟩:=maskOf_bit h
    exact⟨e',by simp[h1],h2,h3⟩
  ·obtain⟨e',h1,h2,h3⟩:=maskOf_bit h
   exact⟨e',by simp[h1],h2,h3⟩
theorem masks_spec:∀ (l:List Oper) (acc:List Nat),(masks l acc).take acc.length=acc∧(masks l acc).length=acc.length+l.length∧∀ (j:Nat) (o:Oper),l[j]?=some o→(masks l acc)[acc.length+j]?=some (maskOf ((masks l acc).take (acc.length+j)) o.after.toList)
 | [],acc=>⟨by simp[masks],by simp[masks],fun j o h=>by simp at h⟩
 | o::l,acc=>by
  obtain⟨h1,h2,h3⟩:=masks_spec l (acc++[maskOf acc o.after.toList])
  simp only[masks];simp only[List.length_append,List.length_cons,List.length_nil,Nat.zero_add]at h1 h2 h3
  have h4:(masks l (acc++[maskOf acc o.after.toList])).take acc.length=acc:=by
   have:=congrArg (List.take acc.length) h1
   rw[List.take_take,Nat.min_eq_left (by omega)]at this
   rw[this];simp
  refine⟨h4,by simp;omega,fun j o' ho=>?_⟩
  cases j with
  | zero=>
   simp at ho;subst ho;have h5:((masks l (acc++[maskOf acc o.after.toList])).take (acc.length+1))[acc.length]?=some (maskOf acc o.after.toList):=by rw[h1];simp
   rw[List.getElem?_take,if_pos (by omega)]at h5
   simp only[Nat.add_zero];rw[h5,h4]
  | succ j=>
   have:=h3 j o' (by simpa using ho)
   rw[show acc.length+(j+1)=acc.length+1+j by omega]
   exact this
theorem befB_step{ops:Array Oper}{k i:Nat}{o:Oper}(ho:ops[i]?=some o)(h:befB ops k i=true):∃ e,e∈o.after∧Region.binds .any e=true∧(k=e.on∨(e.on<i∧befB ops k e.on=true)):=by
 obtain⟨_,_,h3⟩:=masks_spec ops.toList []
 have h4:=h3 i o (by rw[Array.getElem?_toList];exact ho)
 simp only[List.length_nil,Nat.zero_add]at h4;unfold befB at h;rw[List.getD_eq_getElem?_getD,h4,Option.getD_some]at h
 obtain⟨e,he,hb,hk⟩:=maskOf_bit h
 refine⟨e,by simpa using he,hb,hk.imp id fun hk=>?_⟩
 rw[List.getD_eq_getElem?_getD,List.getElem?_take]at hk
 split at hk
 ·rename_i hlt;exact⟨hlt,by unfold befB;rw[List.getD_eq_getElem?_getD];exact hk⟩
 ·simp at hk
theorem befB_closed{ops:Array Oper}{L:Nat→Prop}(hL:∀ (i:Nat) (o:Oper),L i→ops[i]?=some o→∀ e,e∈o.after→Region.binds .any e=true→L e.on) :
  ∀ (i:Nat) (o:Oper),ops[i]?=some o→(∀ e,e∈o.after→Region.binds .any e=true→L e.on)→∀ k,befB ops k i=true→L k:=by
 intro i;induction i using Nat.strongRecOn with
 | _ i ih=>
  intro o ho hp k hk;obtain⟨e,he,hb,hk⟩:=befB_step ho hk
  have hLe:=hp e he hb
  rcases hk with rfl|⟨hlt,hk⟩
  ·exact hLe
  ·have hsz:e.on<ops.size:=Nat.lt_trans hlt (Array.getElem?_eq_some_iff.1 ho).1
   have ho':ops[e.on]?=some ops[e.on]:=Array.getElem?_eq_getElem hsz
   exact ih e.on hlt ops[e.on] ho' (fun e' he' hb'=>hL e.on _ hLe ho' e' he' hb') k hk

def noHt:Ht:=⟨[],[],false,[]⟩
def pairOk(ops:Array Oper)(hts:List Ht)(k i:Nat)(a b:Oper):Bool:=
 a.apart ops b&&!(loudB a.op&&loudB b.op) &&
 (!(decide (creates a=1)&&!loudB a.op&&(loudB b.op||isLoad b.op))||(hts.getD i noHt).ms.contains (posOf ops k)) &&
 (!((isLoad a.op&&loudB b.op)||(loudB a.op&&isLoad b.op))||((hts.getD i noHt).qs.contains k&&(hts.getD k noHt).rc))
def drawOk(hts:List Ht)(ops:Array Oper):Bool:=
 (List.range ops.size).all fun i=>match ops[i]? with
  | some b=>b.after.toList.all (fun e=>!Region.binds .any e||decide (e.on<i))&&(List.range i).all fun k=>befB ops k i||match ops[k]? with
   | some a=>pairOk ops hts k i a b
   | none=>true
  | none=>true

theorem drawOk_spec{hts:List Ht}{ops:Array Oper}(h:drawOk hts ops=true) :
  (∀ (i:Nat) (o:Oper),ops[i]?=some o→∀ e,e∈o.after→Region.binds .any e=true→e.on<i) ∧
  ∀ (k i:Nat) (a b:Oper),k<i→ops[k]?=some a→ops[i]?=some b→befB ops k i=true∨pairOk ops hts k i a b=true:=by
 unfold drawOk at h;rw[List.all_eq_true]at h;constructor
 ·intro i o ho e he hb;have:=h i (List.mem_range.2 (Array.getElem?_eq_some_iff.1 ho).1)
  rw[ho]at this;simp only[Bool.and_eq_true,List.all_eq_true]at this;have:=this.1 e (by simpa using he)
  simpa[hb]using this
 ·intro k i a b hk ha hb;have:=h i (List.mem_range.2 (Array.getElem?_eq_some_iff.1 hb).1)
  rw[hb]at this;simp only[Bool.and_eq_true,List.all_eq_true]at this;have:=this.2 k (List.mem_range.2 hk)
  rw[ha]at this;simpa using this
end Go.Ab
/- A region whose order is drawn: the run in the text's order,what is seen on it,and what every order has in common with it. Conditions: none. -/
namespace Go.Ab
open Go

def Agr(n:Nat)(L:Nat→Prop){α:Type}(f:Nat→α)(x:α):Prop:=
 ∃ c,c≤n∧x=f c∧(∀ m,m<c→f (m+1)≠f m→L m)∧∀ m,c≤m→m<n→f (m+1)≠f m→¬L m

section
variable {α β:Type}{n:Nat}{L L':Nat→Prop}

theorem steps_eq{f:Nat→α}{a:Nat}:∀ b,a≤b→(∀ m,a≤m→m<b→f (m+1)=f m)→f b=f a:=by
 intro b;induction b with
 | zero=>intro h _;rw[Nat.le_zero.1 h]
 | succ b ih=>
  intro h hs;by_cases e:a=b+1
  ·rw[e]
  ·rw[hs b (by omega) (by omega),ih (by omega) (fun m h1 h2=>hs m h1 (by omega))]

theorem Agr.eq'{f:Nat→α}{F:Nat→β}{x:α}(h:Agr n L f x){i:Nat}(hi:i≤n)(ht:∀ m,m<n→f (m+1)≠f m→((m<i→L m)∧(i≤m→¬L m))∨F (m+1)=F m)(hF:∀ a b,f a=f b→F a=F b):∃ c,c≤n∧x=f c∧F c=F i:=by
 obtain⟨c,hc,hx,h1,h2⟩:=h
 refine⟨c,hc,hx,?_⟩
 rcases Nat.le_total c i with hle|hle
 ·refine(steps_eq i hle fun m hm hm'=>?_).symm
  by_cases e:f (m+1)=f m
  ·exact hF _ _ e
  ·rcases ht m (by omega) e with h|h
   ·exact absurd (h.1 hm') (h2 m hm (by omega) e)
   ·exact h
 ·refine steps_eq c hle fun m hm hm'=>?_
  by_cases e:f (m+1)=f m
  ·exact hF _ _ e
  ·rcases ht m (by omega) e with h|h
   ·exact absurd (h1 m hm' e) (h.2 hm)
   ·exact h
theorem Agr.eq{f:Nat→α}{x:α}(h:Agr n L f x){i:Nat}(hi:i≤n)(ht:∀ m,m<n→f (m+1)≠f m→(m<i→L m)∧(i≤m→¬L m)):x=f i:=by
 obtain⟨c,_,hx,hf⟩:=h.eq' (F:=f) hi (fun m hm e=>.inl (ht m hm e)) (fun _ _ e=>e)
 rw[hx,hf]
theorem Agr.keep{f:Nat→α}{x:α}(h:Agr n L f x){i:Nat}(hi:f (i+1)=f i)(hL:∀ m,L' m↔L m∨m=i):Agr n L' f x:=by
 obtain⟨c,hc,hx,h1,h2⟩:=h
 refine⟨c,hc,hx,fun m hm e=>(hL m).2 (.inl (h1 m hm e)),fun m hm hm' e hl=>?_⟩
 rcases(hL m).1 hl with hl|rfl
 ·exact h2 m hm hm' e hl
 ·exact e hi
theorem Agr.new{f:Nat→α}{i:Nat}(hi:i<n)(ht:∀ m,m<n→m≠i→f (m+1)≠f m→(m<i→L m)∧(i≤m→¬L m))(hL:∀ m,L' m↔L m∨m=i):Agr n L' f (f (i+1)):=by
 refine⟨i+1,hi,rfl,fun m hm e=>?_,fun m hm hm' e hl=>?_⟩
 ·by_cases hmi:m=i
  ·exact(hL m).2 (.inr hmi)
  ·exact(hL m).2 (.inl ((ht m (by omega) hmi e).1 (by omega)))
 ·rcases(hL m).1 hl with hl|rfl
  ·exact(ht m hm' (by omega) e).2 (by omega) hl
  ·omega
end

theorem getD_maskH{n0:Nat}:∀ (ms:List Nat) (H:List AObj) (q:Nat),(maskH n0 ms H).getD q .no=if ∃ k,k∈ms∧q=n0+k then .no else H.getD q .no
 | [],H,q=>by simp[maskH]
 | k::ks,H,q=>by
  simp only[maskH];rw[getD_maskH ks];by_cases h1:∃ k',k'∈ks∧q=n0+k'
  ·rw[if_pos h1,if_pos (by obtain⟨k',hk,hq⟩:=h1;exact⟨k',by simp[hk],hq⟩)]
  ·rw[if_neg h1];simp only[List.getD_eq_getElem?_getD,List.getElem?_set]
   by_cases h2:q=n0+k
   ·have h3:∃ k',k'∈k::ks∧q=n0+k':=⟨k,by simp,h2⟩
    rw[if_pos h2.symm,if_pos h3];split<;>rfl
   ·rw[if_neg (Ne.symm h2),if_neg];rintro⟨k',hk,hq⟩
    rcases List.mem_cons.1 hk with rfl|hk
    ·exact h2 hq
    ·exact h1 ⟨k',hk,hq⟩
theorem len_maskH{n0:Nat}:∀ (ms:List Nat) (H:List AObj),(maskH n0 ms H).length=H.length
 | [],H=>rfl
 | k::ks,H=>by simp only[maskH];rw[len_maskH ks];simp
theorem maskH_le{n0:Nat}(ms:List Nat)(H:List AObj):HLe (maskH n0 ms H) H:=by
 refine⟨len_maskH ms H,fun r hr=>?_⟩
 rw[getD_maskH]at hr ⊢;split
 ·rename_i h;rw[if_pos h]at hr;cases hr
 ·rfl

section
variable (P:Program)(Γ:Sem')(ops:Array Oper)(hts:List Ht)(st0:St)

noncomputable def dAt:Nat→DS
 | 0=>.run (st0.ready (countC ops.toList)) []
 | i+1=>match ops[i]? with
  | some o=>stepD P Γ ops st0.H.length (st0.H.length+posOf ops i) i (hts.getD i noHt) o (dAt i)
  | none=>dAt i

theorem headH_drop(hts:List Ht)(i:Nat):headH (hts.drop i)=hts.getD i noHt:=by
 rw[List.getD_eq_getElem?_getD]
 rw[←List.head?_drop]
 cases hts.drop i<;>rfl
theorem tailH_drop(hts:List Ht)(i:Nat):tailH (hts.drop i)=hts.drop (i+1):=by
 rw[←List.tail_drop]
 cases hts.drop i<;>rfl

theorem evD_dAt:∀ (l:List Oper) (i:Nat),ops.toList.drop i=l→evD P Γ ops st0.H.length l (hts.drop i) i (st0.H.length+posOf ops i) (dAt P Γ ops hts st0 i)=dAt P Γ ops hts st0 (i+l.length):=by
 intro l;induction l with
 | nil=>intro i _;rfl
 | cons o l ih=>
  intro i h
  have hk:i<ops.toList.length:=by
   apply Nat.lt_of_not_le
   intro hle;rw[List.drop_of_length_le hle]at h
   cases h
  rw[List.drop_eq_getElem_cons hk]at h;simp only[List.cons.injEq]at h
  have hget:ops[i]?=some o:=by
   rw[←Array.getElem?_toList,List.getElem?_eq_getElem hk,h.1]
  simp only[evD];rw[headH_drop,tailH_drop]
  have hs:dAt P Γ ops hts st0 (i+1)=stepD P Γ ops st0.H.length (st0.H.length+posOf ops i) i (hts.getD i noHt) o (dAt P Γ ops hts st0 i):=by
   simp only[dAt,hget]
  rw[←hs,Nat.add_assoc,←posOf_succ hget,ih (i+1) h.2,List.length_cons];congr 1
  omega

noncomputable def sAt(i:Nat):St:=match dAt P Γ ops hts st0 i with
 | .run st _=>st
 | .pan st _ _ _ _=>st
 | .stuck=>st0
noncomputable def eAt(i:Nat):List (Nat×Ev):=match dAt P Γ ops hts st0 i with
 | .run _ hs=>hs
 | .pan _ hs _ _ _=>hs
 | .stuck=>[]
noncomputable def deadAt(i:Nat):List Nat:=match dAt P Γ ops hts st0 i with
 | .pan _ _ dead _ _=>dead
 | _=>[]

inductive Stp (D:Nat→Prop) (i:Nat) (o:Oper) (st:St) (hs:List (Nat×Ev)) (st':St) (hs':List (Nat×Ev)):Prop
 | off (hg:D i∨guardA ops st o.guard=some false) (h1:st'=st.putO o.dst (.tuple [])) (h2:hs'=keepE i .off hs (hts.getD i noHt).rc)
 | on (v:AV) (ws:List (Nat×AObj)) (hg:guardA ops st o.guard=some true) (hop:opV P Γ (st0.H.length+posOf ops i) (maskS st0.H.length (hts.getD i noHt).ms st) o.type o.op=some (.val v ws))
   (hh:held P hs (hts.getD i noHt).qs (evOf st (setOs st.H ws) o.op)) (h1:st'=(st.setH ws).putO o.dst v) (h2:hs'=keepE i (evOf st (setOs st.H ws) o.op) hs (hts.getD i noHt).rc)

variable {P Γ ops hts st0}

inductive At:DS→St→List (Nat×Ev)→List Nat→Prop
 | run (st hs):At (.run st hs) st hs []
 | pan (st hs dead v H):At (.pan st hs dead v H) st hs dead
theorem dAt_ns{n:Nat}(h:dAt P Γ ops hts st0 n≠.stuck):∀ i,i≤n→dAt P Γ ops hts st0 i≠.stuck:=by
 intro i hi hs
 have:∀ k,dAt P Γ ops hts st0 (i+k)=.stuck:=by
  intro k;induction k with
  | zero=>exact hs
  | succ k ih=>
   show dAt P Γ ops hts st0 (i+k+1)=.stuck
   simp only[dAt];split
   ·rw[ih];rfl
   ·exact ih
 exact h (by rw[show n=i+(n-i)by omega];exact this _)
theorem dOp_cases{D:Nat→Prop}{i:Nat}{o:Oper}{st:St}{hs:List (Nat×Ev)}{r:DS}(h:dOp P Γ st0.H.length (st0.H.length+posOf ops i) i (hts.getD i noHt) hs o st (guardA ops st o.guard)=r)(hns:r≠.stuck) :
  (∃ st' hs',r=.run st' hs'∧Stp P Γ ops hts st0 D i o st hs st' hs')∨(∃ v ws,r=.pan (st.putO o.dst (.tuple [])) (keepE i .off hs (hts.getD i noHt).rc) [i] v (setOs st.H ws)∧panOp o.op=true∧guardA ops st o.guard=some true ∧
   opV P Γ (st0.H.length+posOf ops i) (maskS st0.H.length (hts.getD i noHt).ms st) o.type o.op=some (.pan v ws)):=by
 cases hg:guardA ops st o.guard with
 | none=>rw[hg]at h;simp only[dOp]at h;exact absurd h.symm hns
 | some b=>
  rw[hg]at h
  cases b with
  | false=>
   simp only[dOp]at h;exact .inl ⟨_,_,h.symm,.off (.inr hg) rfl rfl⟩
  | true=>
   simp only[dOp]at h
   cases hop:opV P Γ (st0.H.length+posOf ops i) (maskS st0.H.length (hts.getD i noHt).ms st) o.type o.op with
   | none=>rw[hop]at h;simp only[dRes]at h;exact absurd h.symm hns
   | some x=>
    rw[hop]at h
    cases x with
    | pan v ws=>
     simp only[dRes]at h
     cases hp:panOp o.op with
     | false=>rw[hp]at h;simp only[dPan]at h;exact absurd h.symm hns
     | true=>rw[hp]at h;simp only[dPan]at h;exact .inr ⟨v,ws,h.symm,rfl,rfl,rfl⟩
    | val v ws=>
     simp only[dRes,dHeld]at h;split at h
     ·rename_i hh;exact .inl ⟨_,_,h.symm,.on v ws hg hop hh rfl rfl⟩
     ·exact absurd h.symm hns
theorem memN_iff{k:Nat}:∀ {l:List Nat},memN k l=true↔k∈l
 | []=>by simp[memN]
 | j::l=>by
  simp only[memN];split
  ·rename_i h;subst h;simp
  ·rename_i h;rw[memN_iff];simp[h]
theorem bindsG_ok(e:Edge):Region.binds .any e=bindsG e.ground:=by
 unfold Region.binds bindsG
 cases e.ground<;>rfl
theorem deadL_spec{dead:List Nat}:∀ {es:List Edge},deadL dead es=true→∃ e,e∈es∧Region.binds .any e=true∧e.on∈dead
 | [],h=>by simp[deadL]at h
 | e::es,h=>by
  simp only[deadL,Bool.or_eq_true,Bool.and_eq_true]at h;rcases h with⟨h1,h2⟩|h
  ·exact⟨e,List.mem_cons_self,by rw[bindsG_ok];exact h1,memN_iff.1 h2⟩
  ·obtain⟨e',h1,h2,h3⟩:=deadL_spec h
   exact⟨e',List.mem_cons_of_mem _ h1,h2,h3⟩
def DeadOk(dead:List Nat)(v:AV)(H:List AObj):Prop:=
 ∃ k,k∈dead∧(∃ o ws,ops[k]?=some o∧panOp o.op=true∧guardA ops (sAt P Γ ops hts st0 k) o.guard=some true ∧
  opV P Γ (st0.H.length+posOf ops k) (maskS st0.H.length (hts.getD k noHt).ms (sAt P Γ ops hts st0 k)) o.type o.op=some (.pan v ws)∧H=setOs (sAt P Γ ops hts st0 k).H ws) ∧
  ∀ j,j∈dead→j≠k→∃ o e,ops[j]?=some o∧e∈o.after∧Region.binds .any e=true∧e.on∈dead
theorem dAt_one{D:Nat→Prop}{i:Nat}{o:Oper}(ho:ops[i]?=some o)(h:dAt P Γ ops hts st0 (i+1)≠.stuck)(hD:∀ j,j∈deadAt P Γ ops hts st0 (i+1)→D j) :
  Stp P Γ ops hts st0 D i o (sAt P Γ ops hts st0 i) (eAt P Γ ops hts st0 i) (sAt P Γ ops hts st0 (i+1)) (eAt P Γ ops hts st0 (i+1))∧(∀ j,j∈deadAt P Γ ops hts st0 i→j∈deadAt P Γ ops hts st0 (i+1)) ∧
  ((∀ st hs dead v H,dAt P Γ ops hts st0 i=.pan st hs dead v H→DeadOk (P:=P) (Γ:=Γ) (ops:=ops) (hts:=hts) (st0:=st0) dead v H)→∀ st hs dead v H,dAt P Γ ops hts st0 (i+1)=.pan st hs dead v H→DeadOk (P:=P) (Γ:=Γ) (ops:=ops) (hts:=hts) (st0:=st0) dead v H):=by
 have h0:=dAt_ns h i (by omega)
 have hstep:dAt P Γ ops hts st0 (i+1)=stepD P Γ ops st0.H.length (st0.H.length+posOf ops i) i (hts.getD i noHt) o (dAt P Γ ops hts st0 i):=by simp only[dAt,ho]
 cases hd:dAt P Γ ops hts st0 i with
 | stuck=>exact absurd hd h0
 | run st hs=>
  have hs0:sAt P Γ ops hts st0 i=st:=by unfold sAt;rw[hd]
  have he0:eAt P Γ ops hts st0 i=hs:=by unfold eAt;rw[hd]
  have hd0:deadAt P Γ ops hts st0 i=[]:=by unfold deadAt;rw[hd]
  rw[hd]at hstep;simp only[stepD]at hstep;rcases dOp_cases (D:=D) hstep.symm h with⟨st',hs',e,hst⟩|⟨v,ws,e,q1,q2,q3⟩
  ·have hs1:sAt P Γ ops hts st0 (i+1)=st':=by unfold sAt;rw[e]
   have he1:eAt P Γ ops hts st0 (i+1)=hs':=by unfold eAt;rw[e]
   rw[hs0,he0,hs1,he1,hd0];exact⟨hst,fun j hj=>by simp at hj,fun _ st hs dead v H e'=>by rw[e]at e';cases e'⟩
  ·have hs1:sAt P Γ ops hts st0 (i+1)=st.putO o.dst (.tuple []):=by unfold sAt;rw[e]
   have he1:eAt P Γ ops hts st0 (i+1)=keepE i .off hs (hts.getD i noHt).rc:=by unfold eAt;rw[e]
   have hd1:deadAt P Γ ops hts st0 (i+1)=[i]:=by unfold deadAt;rw[e]
   rw[hs0,he0,hs1,he1,hd0];refine⟨.off (.inl (hD i (by rw[hd1];simp))) rfl rfl,fun j hj=>by simp at hj,fun _ st2 hs2 dead v2 H2 e'=>?_⟩
   rw[e]at e'
   cases e';refine⟨i,by simp,⟨o,ws,ho,q1,by rw[hs0];exact q2,by rw[hs0];exact q3,by rw[hs0]⟩,fun j hj hne=>?_⟩
   simp only[List.mem_singleton]at hj;exact absurd hj hne
 | pan st hs dead v H=>
  have hs0:sAt P Γ ops hts st0 i=st:=by unfold sAt;rw[hd]
  have he0:eAt P Γ ops hts st0 i=hs:=by unfold eAt;rw[hd]
  have hd0:deadAt P Γ ops hts st0 i=dead:=by unfold deadAt;rw[hd]
  rw[hd]at hstep;simp only[stepD]at hstep
  cases hdl:deadL dead o.after.toList with
  | true=>
   rw[hdl]at hstep;simp only[stepP]at hstep;have hs1:sAt P Γ ops hts st0 (i+1)=st.putO o.dst (.tuple []):=by unfold sAt;rw[hstep]
   have he1:eAt P Γ ops hts st0 (i+1)=keepE i .off hs (hts.getD i noHt).rc:=by unfold eAt;rw[hstep]
   have hd1:deadAt P Γ ops hts st0 (i+1)=i::dead:=by unfold deadAt;rw[hstep]
   rw[hs0,he0,hs1,he1,hd0,hd1];refine⟨.off (.inl (hD i (by rw[hd1];simp))) rfl rfl,fun j hj=>List.mem_cons_of_mem _ hj,fun hok st2 hs2 dead2 v2 H2 e'=>?_⟩
   rw[hstep]at e'
   cases e';obtain⟨k,k1,k2,k3⟩:=hok _ _ _ _ _ rfl
   refine⟨k,List.mem_cons_of_mem _ k1,k2,fun j hj hne=>?_⟩
   rcases List.mem_cons.1 hj with rfl|hj
   ·obtain⟨e,e1,e2,e3⟩:=deadL_spec hdl
    exact⟨o,e,ho,Array.mem_toList_iff.1 e1,e2,List.mem_cons_of_mem _ e3⟩
   ·obtain⟨o',e,e1,e2,e3,e4⟩:=k3 j hj hne
    exact⟨o',e,e1,e2,e3,List.mem_cons_of_mem _ e4⟩
  | false=>
   rw[hdl]at hstep;simp only[stepP]at hstep;generalize hr:dOp P Γ st0.H.length (st0.H.length+posOf ops i) i (hts.getD i noHt) hs o st (guardA ops st o.guard)=r at hstep;have hns:r≠.stuck:=by rintro rfl;simp only[panK]at hstep;exact h hstep
   rcases dOp_cases (D:=D) hr hns with⟨st',hs',e,hst⟩|⟨v',ws,e,_⟩
   ·rw[e]at hstep;simp only[panK]at hstep;have hs1:sAt P Γ ops hts st0 (i+1)=st':=by unfold sAt;rw[hstep]
    have he1:eAt P Γ ops hts st0 (i+1)=hs':=by unfold eAt;rw[hstep]
    have hd1:deadAt P Γ ops hts st0 (i+1)=dead:=by unfold deadAt;rw[hstep]
    rw[hs0,he0,hs1,he1,hd0,hd1];refine⟨hst,fun j hj=>hj,fun hok st2 hs2 dead2 v2 H2 e'=>?_⟩
    rw[hstep]at e'
    cases e';exact hok _ _ _ _ _ rfl
   ·rw[e]at hstep;simp only[panK]at hstep;exact absurd hstep h
theorem dead_mono(h:dAt P Γ ops hts st0 ops.size≠.stuck):∀ (m i:Nat),i+m≤ops.size→∀ j,j∈deadAt P Γ ops hts st0 i→j∈deadAt P Γ ops hts st0 (i+m)
 | 0,i,_,j,hj=>hj
 | m+1,i,hi,j,hj=>by
  have h1:=(dAt_one (D:=fun _=>True) (i:=i) (o:=ops[i]) (Array.getElem?_eq_getElem (by omega)) (dAt_ns h (i+1) (by omega)) (fun _ _=>trivial)).2.1 j hj
  have:=dead_mono h m (i+1) (by omega) j h1
  rw[show i+(m+1)=i+1+m by omega]
  exact this
theorem dAt_step(h:dAt P Γ ops hts st0 ops.size≠.stuck){i:Nat}{o:Oper}(ho:ops[i]?=some o) :
  Stp P Γ ops hts st0 (fun j=>j∈deadAt P Γ ops hts st0 ops.size) i o (sAt P Γ ops hts st0 i) (eAt P Γ ops hts st0 i) (sAt P Γ ops hts st0 (i+1)) (eAt P Γ ops hts st0 (i+1)):=by
 have hi:i<ops.size:=(Array.getElem?_eq_some_iff.1 ho).1
 refine(dAt_one ho (dAt_ns h (i+1) (by omega)) (fun j hj=>?_)).1
 have:=dead_mono h (ops.size-(i+1)) (i+1) (by omega) j hj
 rwa[show i+1+(ops.size-(i+1))=ops.size by omega]at this
theorem dAt_dead(h:dAt P Γ ops hts st0 ops.size≠.stuck):∀ i,i≤ops.size→∀ st hs dead v H,dAt P Γ ops hts st0 i=.pan st hs dead v H→DeadOk (P:=P) (Γ:=Γ) (ops:=ops) (hts:=hts) (st0:=st0) dead v H:=by
 intro i;induction i with
 | zero=>intro _ st hs dead v H e;simp only[dAt]at e;cases e
 | succ i ih=>
  intro hi;exact(dAt_one (D:=fun _=>True) (i:=i) (o:=ops[i]) (Array.getElem?_eq_getElem (by omega)) (dAt_ns h (i+1) (by omega)) (fun _ _=>trivial)).2.2 (ih (by omega))
end

theorem putO_H(st:St)(d:Option Nat)(v:AV):(st.putO d v).H=st.H:=by
 cases d with
 | none=>rfl
 | some d=>
  simp only[St.putO,St.put]
  cases has d st.vs<;>rfl
theorem putO_get(st:St)(d:Option Nat)(v:AV)(k:Nat):(st.putO d v).get k=if d=some k then v else st.get k:=by
 cases d with
 | none=>simp[St.putO]
 | some d=>
  simp only[St.putO,get_put,Option.some.injEq];by_cases h:k=d
  ·subst h;simp
  ·simp[h,Ne.symm h]
theorem maskS_arg(n0:Nat)(ms:List Nat)(st:St)(x:Operand):evArg (maskS n0 ms st) x=evArg st x:=by cases x<;>rfl
theorem arg_congr{st st':St}{x:Operand}(h:∀ k,x=.tmp k→st.get k=st'.get k):evArg st x=evArg st' x:=by
 cases x with
 | tmp k=>exact h k rfl
 | _=>rfl

structure Run(P:Program)(Γ:Sem')(ops:Array Oper)(hts:List Ht)(st0:St)(D:Nat→Prop)(S:Nat→St)(E:Nat→List (Nat×Ev)):Prop where
 zero:S 0=st0.ready (countC ops.toList)
 step:∀ (i:Nat) (o:Oper),ops[i]?=some o→Stp P Γ ops hts st0 D i o (S i) (E i) (S (i+1)) (E (i+1))

theorem dAt_Run{P:Program}{Γ:Sem'}{ops:Array Oper}{hts:List Ht}{st0:St}(hns:dAt P Γ ops hts st0 ops.size≠.stuck):Run P Γ ops hts st0 (fun j=>j∈deadAt P Γ ops hts st0 ops.size) (sAt P Γ ops hts st0) (eAt P Γ ops hts st0):=by
 refine⟨?_,fun i o ho=>dAt_step hns ho⟩
 unfold sAt;simp only[dAt]

section
variable {P:Program}{Γ:Sem'}{ops:Array Oper}{hts:List Ht}{st0:St}{D:Nat→Prop}{S:Nat→St}{E:Nat→List (Nat×Ev)}

theorem Run.get(h:Run P Γ ops hts st0 D S E){i k:Nat}{o:Oper}(ho:ops[i]?=some o)(hd:o.dst≠some k):(S (i+1)).get k=(S i).get k:=by
 cases h.step i o ho with
 | off hg h1 h2=>rw[h1,putO_get,if_neg hd]
 | on v ws hg hop hh h1 h2=>rw[h1,putO_get,if_neg hd];rfl

theorem Run.H(h:Run P Γ ops hts st0 D S E){i:Nat}{o:Oper}(ho:ops[i]?=some o):∃ ws,(S (i+1)).H=setOs (S i).H ws ∧
  (ws=[]∨∃ v,opV P Γ (st0.H.length+posOf ops i) (maskS st0.H.length (hts.getD i noHt).ms (S i)) o.type o.op=some (.val v ws)):=by
 cases h.step i o ho with
 | off hg h1 h2=>exact⟨[],by rw[h1,putO_H];rfl,.inl rfl⟩
 | on v ws hg hop hh h1 h2=>exact⟨ws,by rw[h1,putO_H];rfl,.inr ⟨v,hop⟩⟩

theorem Run.len(h:Run P Γ ops hts st0 D S E):∀ i,i≤ops.size→st0.H.length+countC ops.toList≤(S i).H.length:=by
 intro i;induction i with
 | zero=>intro _;rw[h.zero];simp[St.ready]
 | succ i ih=>
  intro hi;obtain⟨ws,h1,_⟩:=h.H (i:=i) (o:=ops[i]) (Array.getElem?_eq_getElem (by omega))
  have:=ih (by omega)
  have:=len_setOs ws (S i).H
  rw[h1];omega

theorem Run.fresh(h:Run P Γ ops hts st0 D S E){k:Nat}{ok:Oper}(hk:ops[k]?=some ok)(hc:creates ok=1):∀ i,i≤k→(S i).H.getD (st0.H.length+posOf ops k) .no=.no:=by
 have hpos:=posOf_lt hk hc
 have hks:k<ops.size:=(Array.getElem?_eq_some_iff.1 hk).1
 intro i;induction i with
 | zero=>
  intro _;rw[h.zero];simp only[St.ready];rw[List.getD_eq_getElem?_getD,List.getElem?_append_right (by omega),List.getElem?_replicate]
  split<;>rfl
 | succ i ih=>
  intro hi;have hlt:i<ops.size:=by omega
  have ho:ops[i]?=some ops[i]:=Array.getElem?_eq_getElem hlt
  obtain⟨ws,h1,h2⟩:=h.H ho
  have hih:=ih (by omega)
  by_cases hm:∃ x,x∈ws∧x.1=st0.H.length+posOf ops k
  ·obtain⟨x,hx,hxe⟩:=hm
   rcases h2 with rfl|⟨v,hop⟩
   ·simp at hx
   ·exfalso
    rcases opV_ws hop x hx with⟨hp,hci⟩|hob|hle
    ·have:=posOf_ne ho hk (by omega) hci hc
     omega
    ·have:=(maskH_le (hts.getD i noHt).ms (S i).H).at' x.1 hob
     rw[hxe]at this hob;simp only[maskS]at hob;rw[←this,hih]at hob
     cases hob
    ·simp only[maskS,len_maskH]at hle;have:=h.len i (by omega)
     omega
  ·rw[h1,getD_setOs_not _ _ _ (fun x hx e=>hm ⟨x,hx,e⟩)]
   exact hih

theorem Run.apart(h:Run P Γ ops hts st0 D S E){k i:Nat}{a b:Oper}(hki:k<i)(hk:ops[k]?=some a)(hi:ops[i]?=some b)(hp:pairOk ops hts k i a b=true)
  {va vb:AV} {wa wb:List (Nat×AObj)} (ha:opV P Γ (st0.H.length+posOf ops k) (maskS st0.H.length (hts.getD k noHt).ms (S k)) a.type a.op=some (.val va wa))
  (hb:opV P Γ (st0.H.length+posOf ops i) (maskS st0.H.length (hts.getD i noHt).ms (S i)) b.type b.op=some (.val vb wb)) {r:Nat} (hra:∃ x,x∈wa∧x.1=r) (hrb:∃ x,x∈wb∧x.1=r):False:=by
 obtain⟨x,hx,rfl⟩:=hra
 obtain⟨y,hy,hyx⟩:=hrb
 simp only[pairOk,Bool.and_eq_true,Bool.or_eq_true,Bool.not_eq_true']at hp;obtain⟨⟨⟨_,hll⟩,hms⟩,_⟩:=hp
 have hks:k<ops.size:=(Array.getElem?_eq_some_iff.1 hk).1
 have his:i<ops.size:=(Array.getElem?_eq_some_iff.1 hi).1
 have hne:=fun h1 h2=>posOf_ne hk hi (by omega) h1 h2
 cases hla:loudB a.op with
 | false=>
  obtain⟨q1,q2⟩:=quiet_ws hla ha
  have hxp:=q1 x hx
  have hca:creates a=1:=by
   have:=creates_le a
   by_cases hz:creates a=0
   ·rw[q2 hz]at hx;simp at hx
   ·omega
  have hpos:=posOf_lt hk hca
  rcases opV_ws hb y hy with⟨hyp,hcb⟩|hob|hle
  ·have:=hne hca hcb
   omega
  ·cases hlb:loudB b.op with
   | true=>
    have hm:posOf ops k∈(hts.getD i noHt).ms:=by
     rcases hms with hms|hms
     ·simp[hca,hla,hlb]at hms
     ·simpa using hms
    simp only[maskS]at hob;rw[getD_maskH,if_pos ⟨posOf ops k,hm,by omega⟩]at hob
    cases hob
   | false=>
    obtain⟨r1,r2⟩:=quiet_ws hlb hb
    have hyp:=r1 y hy
    have hcb:creates b=1:=by
     have:=creates_le b
     by_cases hz:creates b=0
     ·rw[r2 hz]at hy;simp at hy
     ·omega
    have:=hne hca hcb
    omega
  ·simp only[maskS,len_maskH]at hle;have:=h.len i (by omega)
   omega
 | true=>
  have hlb:loudB b.op=false:=by simpa[hla]using hll
  obtain⟨r1,r2⟩:=quiet_ws hlb hb
  have hyp:=r1 y hy
  have hcb:creates b=1:=by
   have:=creates_le b
   by_cases hz:creates b=0
   ·rw[r2 hz]at hy;simp at hy
   ·omega
  have hpos:=posOf_lt hi hcb
  rcases opV_ws ha x hx with⟨hxp,hca⟩|hob|hle
  ·have:=hne hca hcb
   omega
  ·have hf:=h.fresh hi hcb k (by omega)
   have:=(maskH_le (hts.getD k noHt).ms (S k).H).at' x.1 hob
   rw[show x.1=st0.H.length+posOf ops i by omega]at this hob
   simp only[maskS]at hob;rw[←this,hf]at hob
   cases hob
  ·simp only[maskS,len_maskH]at hle;have:=h.len k (by omega)
   omega

theorem Run.found(h:Run P Γ ops hts st0 D S E){k:Nat}{e:Ev}(he:E (k+1)=(k,e)::E k):∀ i,k<i→i≤ops.size→getEv k (E i)=some e:=by
 intro i;induction i with
 | zero=>intro h;omega
 | succ i ih=>
  intro hk hi;by_cases hki:k=i
  ·subst hki;rw[he];simp[getEv]
  ·have hih:=ih (by omega) (by omega)
   have ho:ops[i]?=some ops[i]:=Array.getElem?_eq_getElem (by omega)
   have hkeep:∀ (e':Ev) (b:Bool),getEv k (keepE i e' (E i) b)=some e:=by
    intro e' b
    cases b
    ·exact hih
    ·simp only[keepE,getEv];rw[if_neg (by omega)];exact hih
   cases h.step i _ ho with
   | off hg h1 h2=>rw[h2];exact hkeep _ _
   | on v ws hg hop hh h1 h2=>rw[h2];exact hkeep _ _

theorem heldL_at{t:TypeId}{x:AV}{hs:List (Nat×Ev)}:∀ {qs:List Nat} {k:Nat},heldL P t x hs qs→k∈qs→heldL1 P t x (getEv k hs)
 | q::qs,k,h,hk=>by
  rcases List.mem_cons.1 hk with rfl|hk
  ·exact h.1
  ·exact heldL_at h.2 hk
theorem heldH_at{H H':List AObj}{hs:List (Nat×Ev)}:∀ {qs:List Nat} {k:Nat},heldH P H H' hs qs→k∈qs→heldH1 P H H' (getEv k hs)
 | q::qs,k,h,hk=>by
  rcases List.mem_cons.1 hk with rfl|hk
  ·exact h.1
  ·exact heldH_at h.2 hk

theorem Run.load(h:Run P Γ ops hts st0 D S E){i m:Nat}{o b:Oper}{t:TypeId}{x:Operand}(hi:ops[i]?=some o)(hop:o.op=.load t x)(hDi:¬D i)(hgi:guardA ops (S i) o.guard=some true)(hm:ops[m]?=some b)(hlb:loudB b.op=true)(hne:m≠i)
  (hp:(m<i→pairOk ops hts m i b o=true)∧(i<m→pairOk ops hts i m o b=true)):loadA P t (S (m+1)).H (evArg (S i) x)=loadA P t (S m).H (evArg (S i) x):=by
 have hms:m<ops.size:=(Array.getElem?_eq_some_iff.1 hm).1
 have his:i<ops.size:=(Array.getElem?_eq_some_iff.1 hi).1
 have hev:∀ H',evOf (S m) H' b.op=.hp (S m).H H':=by
  intro H'
  cases hb:b.op<;>first|rfl|(rw[hb]at hlb;simp[loudB]at hlb)
 rcases Nat.lt_or_gt_of_ne hne with hlt|hlt
 ·have hpk:=hp.1 hlt
  simp only[pairOk,Bool.and_eq_true,Bool.or_eq_true,Bool.not_eq_true']at hpk;obtain⟨hq,hrc⟩:=hpk.2.resolve_left (by simp[hop,isLoad,hlb])
  have hq':m∈(hts.getD i noHt).qs:=by simpa using hq
  cases h.step m b hm with
  | off hg h1 h2=>rw[h1,putO_H]
  | on v ws hg hopm hh h1 h2=>
   rw[hrc,hev]at h2;have hf:=h.found h2 i hlt (by omega)
   cases h.step i o hi with
   | off hg' _ _=>have hg':=hg'.resolve_left hDi;rw[hgi]at hg';cases hg'
   | on v' ws' hg' hopi hh' h1' h2'=>
    rw[hop]at hh';have hk:=heldL_at hh' hq'
    rw[hf]at hk;have:(S (m+1)).H=setOs (S m).H ws:=by rw[h1,putO_H];rfl
    rw[this];exact hk.symm
 ·have hpk:=hp.2 hlt
  simp only[pairOk,Bool.and_eq_true,Bool.or_eq_true,Bool.not_eq_true']at hpk;obtain⟨hq,hrc⟩:=hpk.2.resolve_left (by simp[hop,isLoad,hlb])
  have hq':i∈(hts.getD m noHt).qs:=by simpa using hq
  cases h.step m b hm with
  | off hg h1 h2=>rw[h1,putO_H]
  | on v ws hg hopm hh h1 h2=>
   rw[hev]at hh
   cases h.step i o hi with
   | off hg' _ _=>have hg':=hg'.resolve_left hDi;rw[hgi]at hg';cases hg'
   | on v' ws' hg' hopi hh' h1' h2'=>
    rw[hrc,hop]at h2';have hf:=h.found h2' m hlt (by omega)
    have hk:=heldH_at hh hq'
    rw[hf]at hk;have:(S (m+1)).H=setOs (S m).H ws:=by rw[h1,putO_H];rfl
    rw[this];exact hk.symm
end
end Go.Ab
/- A region whose order is drawn comes to what it comes to in the text's order. Conditions: the functions that are called are right. -/
namespace Go.Ab
open Go

structure Inv(n:Nat)(L:Nat→Prop)(S:Nat→St)(st:St):Prop where
 s:∀ k,Agr n L (fun m=>(S m).get k) (st.get k)
 p:∀ r,Agr n L (fun m=>(S m).H.getD r .no) (st.H.getD r .no)
 l:Agr n L (fun m=>(S m).H.length) st.H.length

section
variable {P:Program}{Γ:Sem'}{ops:Array Oper}{hts:List Ht}{st0:St}{D:Nat→Prop}{S:Nat→St}{E:Nat→List (Nat×Ev)}

structure Turn(ops:Array Oper)(hts:List Ht)(L:Nat→Prop)(i:Nat)(o:Oper):Prop where
 op:ops[i]?=some o
 not:¬L i
 cmp:∀ (m:Nat) (b:Oper),m≠i→ops[m]?=some b→((m<i→L m)∧(i≤m→¬L m))∨((m<i→pairOk ops hts m i b o=true)∧(i<m→pairOk ops hts i m o b=true))

theorem pairOk_apart{k i:Nat}{a b:Oper}(h:pairOk ops hts k i a b=true):a.apart ops b=true:=by
 simp only[pairOk,Bool.and_eq_true]at h;exact h.1.1.1

theorem Turn.apart{L:Nat→Prop}{i m:Nat}{o b:Oper}(h:Turn ops hts L i o)(hm:ops[m]?=some b)(hne:m≠i):((m<i→L m)∧(i≤m→¬L m))∨((∀ d,b.dst=some d→d∉o.looksAt ops)∧(∀ d,b.dst=some d→o.dst≠some d)):=by
 rcases h.cmp m b hne hm with h|⟨h1,h2⟩
 ·exact .inl h
 ·refine .inr ?_
  rcases Nat.lt_or_gt_of_ne hne with hlt|hlt
  ·obtain⟨q1,q2,q3⟩:=Oper.apart_spec (pairOk_apart (h1 hlt))
   exact⟨q1,q2⟩
  ·obtain⟨q1,q2,q3⟩:=Oper.apart_spec (pairOk_apart (h2 hlt))
   exact⟨q3,fun d hd ho=>q2 d ho hd⟩

theorem op_of_lt{m:Nat}(h:m<ops.size):ops[m]?=some ops[m]:=Array.getElem?_eq_getElem h

theorem slot_eq(hR:Run P Γ ops hts st0 D S E){L:Nat→Prop}{i:Nat}{o:Oper}(hT:Turn ops hts L i o){st:St}(hI:Inv ops.size L S st){k:Nat}(hk:k∈o.looksAt ops):st.get k=(S i).get k:=by
 have hi:=(Array.getElem?_eq_some_iff.1 hT.op).1
 refine(hI.s k).eq (by omega) fun m hm ht=>?_
 by_cases hmi:m=i
 ·subst hmi;exact⟨fun h=>by omega,fun _=>hT.not⟩
 ·rcases hT.apart (op_of_lt hm) hmi with h|⟨h,_⟩
  ·exact h
  ·exfalso
   by_cases hd:ops[m].dst=some k
   ·exact h k hd hk
   ·exact ht (hR.get (op_of_lt hm) hd)

theorem guard_eq(hR:Run P Γ ops hts st0 D S E){L:Nat→Prop}{i:Nat}{o:Oper}(hT:Turn ops hts L i o){st:St}(hI:Inv ops.size L S st):guardA ops st o.guard=guardA ops (S i) o.guard:=by
 cases hg:o.guard with
 | none=>rfl
 | some gw=>
  obtain⟨j,want⟩:=gw
  simp only[guardA]
  cases hj:(ops[j]?).bind (·.dst)with
  | none=>rfl
  | some d=>
   simp only[gD];rw[slot_eq hR hT hI (k:=d) (by simp[Oper.looksAt,hg,hj])]

theorem arg_eq(hR:Run P Γ ops hts st0 D S E){L:Nat→Prop}{i:Nat}{o:Oper}(hT:Turn ops hts L i o){st:St}(hI:Inv ops.size L S st):∀ x,x∈o.op.operands→evArg st x=evArg (S i) x:=by
 intro x hx;refine arg_congr fun k hk=>?_
 subst hk;exact slot_eq hR hT hI (List.mem_append_left _ (List.mem_filterMap.2 ⟨.tmp k,by simpa using hx,rfl⟩))

theorem touch(hR:Run P Γ ops hts st0 D S E){m r:Nat}{b:Oper}(hm:ops[m]?=some b)(ht:(S (m+1)).H.getD r .no≠(S m).H.getD r .no) :
  ∃ v ws,opV P Γ (st0.H.length+posOf ops m) (maskS st0.H.length (hts.getD m noHt).ms (S m)) b.type b.op=some (.val v ws)∧(S (m+1)).H=setOs (S m).H ws∧∃ x,x∈ws∧x.1=r:=by
 obtain⟨ws,h1,h2⟩:=hR.H hm
 have hx:∃ x,x∈ws∧x.1=r:=by
  apply Classical.byContradiction
  intro hn;exact ht (by rw[h1,getD_setOs_not _ _ _ (fun x hx e=>hn ⟨x,hx,e⟩)])
 rcases h2 with rfl|⟨v,hop⟩
 ·obtain⟨x,hx,_⟩:=hx
  simp at hx
 ·exact⟨v,ws,hop,h1,hx⟩
theorem touchL(hR:Run P Γ ops hts st0 D S E){m:Nat}{b:Oper}(hm:ops[m]?=some b)(ht:(S (m+1)).H.length≠(S m).H.length):loudB b.op=true:=by
 cases hl:loudB b.op with
 | true=>rfl
 | false=>
  exfalso
  obtain⟨ws,h1,h2⟩:=hR.H hm
  refine ht ?_
  rw[h1];rcases h2 with rfl|⟨v,hop⟩
  ·rfl
  ·obtain⟨q1,q2⟩:=quiet_ws hl hop
   refine len_setOs_lt ws _ fun x hx=>?_
   have hc:creates b=1:=by
    have:=creates_le b
    by_cases hz:creates b=0
    ·rw[q2 hz]at hx;simp at hx
    ·omega
   have:=posOf_lt hm hc
   have:=hR.len m (by have:=(Array.getElem?_eq_some_iff.1 hm).1;omega)
   rw[q1 x hx];omega

theorem loud_pair{k i:Nat}{a b:Oper}(h:pairOk ops hts k i a b=true):¬(loudB a.op=true∧loudB b.op=true):=by
 simp only[pairOk,Bool.and_eq_true,Bool.not_eq_true']at h;rintro⟨h1,h2⟩
 have:=h.1.1.2
 simp[h1,h2]at this
theorem mask_pair{k i:Nat}{a b:Oper}(h:pairOk ops hts k i a b=true)(hc:creates a=1)(hl:loudB a.op=false)(hs:(loudB b.op||isLoad b.op)=true):posOf ops k∈(hts.getD i noHt).ms:=by
 simp only[pairOk,Bool.and_eq_true,Bool.or_eq_true,Bool.not_eq_true']at h;rcases h.1.2 with h|h
 ·simp only[Bool.or_eq_true]at hs;simp[hc,hl]at h;rcases hs with hs|hs
  ·rw[hs]at h;simp at h
  ·rw[hs]at h;simp at h
 ·simpa using h

theorem place_ord(hR:Run P Γ ops hts st0 D S E){L:Nat→Prop}{i:Nat}{o:Oper}(hT:Turn ops hts L i o)(hs:(loudB o.op||isLoad o.op)=true){r:Nat}(hr:isObj ((maskH st0.H.length (hts.getD i noHt).ms (S i).H).getD r .no)=true){m:Nat}(hm:m<ops.size)(ht:(S (m+1)).H.getD r .no≠(S m).H.getD r .no) :
  ((m<i→L m)∧(i≤m→¬L m))∨(loudB o.op=false∧loudB ops[m].op=true∧m≠i∧(m<i→pairOk ops hts m i ops[m] o=true)∧(i<m→pairOk ops hts i m o ops[m]=true)):=by
 have hi:=(Array.getElem?_eq_some_iff.1 hT.op).1
 by_cases hmi:m=i
 ·subst hmi;exact .inl ⟨fun h=>by omega,fun _=>hT.not⟩
 rcases hT.cmp m _ hmi (op_of_lt hm)with h|⟨h1,h2⟩
 ·exact .inl h
 cases hl:loudB ops[m].op with
 | true=>
  refine .inr ⟨?_,rfl,hmi,h1,h2⟩
  cases hlo:loudB o.op with
  | false=>rfl
  | true=>
   exfalso
   rcases Nat.lt_or_gt_of_ne hmi with hlt|hlt
   ·exact loud_pair (h1 hlt) ⟨hl,hlo⟩
   ·exact loud_pair (h2 hlt) ⟨hlo,hl⟩
 | false=>
  exfalso
  obtain⟨v,ws,hop,hH,x,hx,hxr⟩:=touch hR (op_of_lt hm) ht
  obtain⟨q1,q2⟩:=quiet_ws hl hop
  have hc:creates ops[m]=1:=by
   have:=creates_le ops[m]
   by_cases hz:creates ops[m]=0
   ·rw[q2 hz]at hx;simp at hx
   ·omega
  have hxp:=q1 x hx
  rcases Nat.lt_or_gt_of_ne hmi with hlt|hlt
  ·have:=mask_pair (h1 hlt) hc hl hs
   rw[getD_maskH,if_pos ⟨posOf ops m,this,by omega⟩]at hr
   cases hr
  ·have hf:=hR.fresh (op_of_lt hm) hc i (by omega)
   have:=(maskH_le (n0:=st0.H.length) (hts.getD i noHt).ms (S i).H).at' r hr
   rw[←this,show r=st0.H.length+posOf ops m by omega,hf]at hr
   cases hr

theorem same_loud(hR:Run P Γ ops hts st0 D S E){L:Nat→Prop}{i:Nat}{o:Oper}(hT:Turn ops hts L i o){st:St}(hI:Inv ops.size L S st)(hlo:loudB o.op=true){r:ORes}
  (hop:opV P Γ (st0.H.length+posOf ops i) (maskS st0.H.length (hts.getD i noHt).ms (S i)) o.type o.op=some r):opV P Γ (st0.H.length+posOf ops i) st o.type o.op=some r:=by
 have hi:=(Array.getElem?_eq_some_iff.1 hT.op).1
 have harg:=arg_eq hR hT hI
 have hle:HLe (maskH st0.H.length (hts.getD i noHt).ms (S i).H) st.H:=by
  refine⟨?_,fun r hr=>?_⟩
  ·rw[len_maskH];refine((hI.l).eq (i:=i) (by omega) fun m hm ht=>?_).symm
   by_cases hmi:m=i
   ·subst hmi;exact⟨fun h=>by omega,fun _=>hT.not⟩
   ·have hlm:=touchL hR (op_of_lt hm) ht
    rcases hT.cmp m _ hmi (op_of_lt hm)with h|⟨h1,h2⟩
    ·exact h
    ·exfalso
     rcases Nat.lt_or_gt_of_ne hmi with hlt|hlt
     ·exact loud_pair (h1 hlt) ⟨hlm,hlo⟩
     ·exact loud_pair (h2 hlt) ⟨hlo,hlm⟩
  ·have h1:=(maskH_le (n0:=st0.H.length) (hts.getD i noHt).ms (S i).H).at' r hr
   rw[←h1];refine(hI.p r).eq (i:=i) (by omega) fun m hm ht=>?_
   rcases place_ord hR hT (by rw[hlo];simp) hr hm ht with h|⟨h,_⟩
   ·exact h
   ·rw[hlo]at h;cases h
 have h1:opV P Γ (st0.H.length+posOf ops i) (maskS st0.H.length (hts.getD i noHt).ms (S i)) o.type o.op=opV P Γ (st0.H.length+posOf ops i) ⟨st.vs,st.ts,maskH st0.H.length (hts.getD i noHt).ms (S i).H⟩ o.type o.op:=by
  refine opV_congr rfl fun x hx=>?_
  rw[maskS_arg];have:evArg ⟨st.vs,st.ts,maskH st0.H.length (hts.getD i noHt).ms (S i).H⟩ x=evArg st x:=by cases x<;>rfl
  rw[this];exact(harg x hx).symm
 rw[h1]at hop;exact opV_mono (st:=⟨st.vs,st.ts,maskH st0.H.length (hts.getD i noHt).ms (S i).H⟩) hle hop
theorem same_op(hR:Run P Γ ops hts st0 D S E){L:Nat→Prop}{i:Nat}{o:Oper}(hT:Turn ops hts L i o){st:St}(hI:Inv ops.size L S st)(hDi:¬D i)(hg:guardA ops (S i) o.guard=some true){v:AV}{ws:List (Nat×AObj)}
  (hop:opV P Γ (st0.H.length+posOf ops i) (maskS st0.H.length (hts.getD i noHt).ms (S i)) o.type o.op=some (.val v ws)):opV P Γ (st0.H.length+posOf ops i) st o.type o.op=some (.val v ws):=by
 have hi:=(Array.getElem?_eq_some_iff.1 hT.op).1
 have harg:=arg_eq hR hT hI
 cases hld:isLoad o.op with
 | true=>
  cases hopo:o.op with
  | load t x=>
   rw[hopo]at hop harg;simp only[opV]at hop ⊢;obtain⟨hws,hl⟩:=vO_ws hop
   subst hws;rw[maskS_arg]at hl;rw[harg x (by simp[Op.operands])]
   have hgoal:loadA P t st.H (evArg (S i) x)=some v:=by
    cases hx:evArg (S i) x with
    | ptr r off=>
     rw[hx]at hl
     have hob:isObj ((maskH st0.H.length (hts.getD i noHt).ms (S i).H).getD r .no)=true:=by
      simp only[loadA,maskS]at hl
      cases hc:cellsOf ((maskH st0.H.length (hts.getD i noHt).ms (S i).H).getD r .no)with
      | none=>rw[hc]at hl;simp[loadK]at hl
      | some cs=>exact isObj_cells hc
     obtain⟨c,_,hc1,hc2⟩:=(hI.p r).eq' (F:=fun m=>loadA P t (S m).H (.ptr r off)) (i:=i) (by omega) (fun m hm ht=>by
      rcases place_ord hR hT (by rw[hld];simp) hob hm ht with h|⟨_,hlm,hmi,h1,h2⟩
      ·exact .inl h
      ·refine .inr ?_
       have:=hR.load hT.op hopo hDi hg (op_of_lt hm) hlm hmi ⟨h1,h2⟩
       rw[hx]at this;exact this) (fun a b hab=>by simp only[loadA];rw[hab])
     have h1:loadA P t st.H (.ptr r off)=loadA P t (S c).H (.ptr r off):=by simp only[loadA];rw[hc1]
     rw[h1,hc2];exact loadA_mono (maskH_le _ _) hl
    | sp r e off=>
     rw[hx]at hl
     have hob:isObj ((maskH st0.H.length (hts.getD i noHt).ms (S i).H).getD r .no)=true:=by
      simp only[loadA,maskS]at hl
      cases hc:stkOf e ((maskH st0.H.length (hts.getD i noHt).ms (S i).H).getD r .no)with
      | none=>rw[hc]at hl;simp[loadK]at hl
      | some cs=>exact isObj_stk hc
     obtain⟨c,_,hc1,hc2⟩:=(hI.p r).eq' (F:=fun m=>loadA P t (S m).H (.sp r e off)) (i:=i) (by omega) (fun m hm ht=>by
      rcases place_ord hR hT (by rw[hld];simp) hob hm ht with h|⟨_,hlm,hmi,h1,h2⟩
      ·exact .inl h
      ·refine .inr ?_
       have:=hR.load hT.op hopo hDi hg (op_of_lt hm) hlm hmi ⟨h1,h2⟩
       rw[hx]at this;exact this) (fun a b hab=>by simp only[loadA];rw[hab])
     have h1:loadA P t st.H (.sp r e off)=loadA P t (S c).H (.sp r e off):=by simp only[loadA];rw[hc1]
     rw[h1,hc2];exact loadA_mono (maskH_le _ _) hl
    | rp k off=>
     rw[hx]at hl
     have hob:isObj ((maskH st0.H.length (hts.getD i noHt).ms (S i).H).getD 0 .no)=true:=by
      simp only[loadA,maskS]at hl
      cases hc:regC ((maskH st0.H.length (hts.getD i noHt).ms (S i).H).getD 0 .no)with
      | none=>rw[hc]at hl;simp[regCell,loadK]at hl
      | some cs=>exact isObj_reg hc
     obtain⟨c,_,hc1,hc2⟩:=(hI.p 0).eq' (F:=fun m=>loadA P t (S m).H (.rp k off)) (i:=i) (by omega) (fun m hm ht=>by
      rcases place_ord hR hT (by rw[hld];simp) hob hm ht with h|⟨_,hlm,hmi,h1,h2⟩
      ·exact .inl h
      ·refine .inr ?_
       have:=hR.load hT.op hopo hDi hg (op_of_lt hm) hlm hmi ⟨h1,h2⟩
       rw[hx]at this;exact this) (fun a b hab=>by simp only[loadA];rw[hab])
     have h1:loadA P t st.H (.rp k off)=loadA P t (S c).H (.rp k off):=by simp only[loadA];rw[hc1]
     rw[h1,hc2];exact loadA_mono (maskH_le _ _) hl
    | dp cs=>rw[hx]at hl;exact hl
    | _=>rw[hx]at hl;simp[loadA]at hl
   rw[hgoal];rfl
  | _=>rw[hopo]at hld;simp[isLoad]at hld
 | false=>
  cases hlo:loudB o.op with
  | false=>
   have h1:opV P Γ (st0.H.length+posOf ops i) (S i) o.type o.op=some (.val v ws):=by
    have:=opV_noH (P:=P) (Γ:=Γ) (p:=st0.H.length+posOf ops i) (st:=S i) (ty:=o.type) hlo hld (maskH st0.H.length (hts.getD i noHt).ms (S i).H)
    rw[←this];exact hop
   have h2:=opV_noH (P:=P) (Γ:=Γ) (p:=st0.H.length+posOf ops i) (st:=st) (ty:=o.type) hlo hld (S i).H
   rw[←h2,←h1]
   exact opV_congr rfl (fun x hx=>by
    have:evArg ⟨st.vs,st.ts,(S i).H⟩ x=evArg st x:=by cases x<;>rfl
    rw[this];exact harg x hx)
  | true=>
   exact same_loud hR hT hI hlo hop

theorem inv_off(hR:Run P Γ ops hts st0 D S E){L L':Nat→Prop}{i:Nat}{o:Oper}(hT:Turn ops hts L i o){st:St}(hI:Inv ops.size L S st)(hL:∀ m,L' m↔L m∨m=i)(h1:S (i+1)=(S i).putO o.dst (.tuple [])):Inv ops.size L' S (st.putO o.dst (.tuple [])):=by
 have hi:=(Array.getElem?_eq_some_iff.1 hT.op).1
 refine⟨fun k=>?_,fun r=>?_,?_⟩
 ·rw[putO_get];by_cases hd:o.dst=some k
  ·rw[if_pos hd];have hv:(S (i+1)).get k=.tuple []:=by rw[h1,putO_get,if_pos hd]
   rw[←hv];refine Agr.new (f:=fun m=>(S m).get k) hi (fun m hm hmi ht=>?_) hL
   rcases hT.apart (op_of_lt hm) hmi with h|⟨_,h⟩
   ·exact h
   ·exfalso
    by_cases hd':ops[m].dst=some k
    ·exact h k hd' hd
    ·exact ht (hR.get (op_of_lt hm) hd')
  ·rw[if_neg hd];exact(hI.s k).keep (hR.get hT.op hd) hL
 ·rw[putO_H];exact(hI.p r).keep (by rw[h1,putO_H]) hL
 ·rw[putO_H];exact(hI.l).keep (by rw[h1,putO_H]) hL

theorem inv_on(hR:Run P Γ ops hts st0 D S E){L L':Nat→Prop}{i:Nat}{o:Oper}(hT:Turn ops hts L i o){st:St}(hI:Inv ops.size L S st)(hL:∀ m,L' m↔L m∨m=i){v:AV}{ws:List (Nat×AObj)}
  (hop:opV P Γ (st0.H.length+posOf ops i) (maskS st0.H.length (hts.getD i noHt).ms (S i)) o.type o.op=some (.val v ws)) (h1:S (i+1)=((S i).setH ws).putO o.dst v):Inv ops.size L' S ((st.setH ws).putO o.dst v):=by
 have hi:=(Array.getElem?_eq_some_iff.1 hT.op).1
 have hH:(S (i+1)).H=setOs (S i).H ws:=by rw[h1,putO_H];rfl
 refine⟨fun k=>?_,fun r=>?_,?_⟩
 ·rw[putO_get];by_cases hd:o.dst=some k
  ·rw[if_pos hd];have hv:(S (i+1)).get k=v:=by rw[h1,putO_get,if_pos hd]
   rw[←hv];refine Agr.new (f:=fun m=>(S m).get k) hi (fun m hm hmi ht=>?_) hL
   rcases hT.apart (op_of_lt hm) hmi with h|⟨_,h⟩
   ·exact h
   ·exfalso
    by_cases hd':ops[m].dst=some k
    ·exact h k hd' hd
    ·exact ht (hR.get (op_of_lt hm) hd')
  ·rw[if_neg hd];exact(hI.s k).keep (hR.get hT.op hd) hL
 ·rw[putO_H];show Agr ops.size L' _ ((setOs st.H ws).getD r .no)
  by_cases hr:∃ x,x∈ws∧x.1=r
  ·have hv:(S (i+1)).H.getD r .no=(setOs st.H ws).getD r .no:=by rw[hH];exact setOs_same ws _ _ r hr
   rw[←hv];refine Agr.new (f:=fun m=>(S m).H.getD r .no) hi (fun m hm hmi ht=>?_) hL
   obtain⟨v',ws',hop',_,hx⟩:=touch hR (op_of_lt hm) ht
   rcases hT.cmp m _ hmi (op_of_lt hm)with h|⟨q1,q2⟩
   ·exact h
   ·exfalso
    rcases Nat.lt_or_gt_of_ne hmi with hlt|hlt
    ·exact hR.apart hlt (op_of_lt hm) hT.op (q1 hlt) hop' hop hx hr
    ·exact hR.apart hlt hT.op (op_of_lt hm) (q2 hlt) hop hop' hr hx
  ·rw[getD_setOs_not _ _ _ (fun x hx e=>hr ⟨x,hx,e⟩)]
   exact(hI.p r).keep (by rw[hH,getD_setOs_not _ _ _ (fun x hx e=>hr ⟨x,hx,e⟩)]) hL
 ·rw[putO_H];show Agr ops.size L' _ (setOs st.H ws).length
  cases hlo:loudB o.op with
  | true=>
   have hord:∀ m,m<ops.size→m≠i→(S (m+1)).H.length≠(S m).H.length→(m<i→L m)∧(i≤m→¬L m):=by
    intro m hm hmi ht;have hlm:=touchL hR (op_of_lt hm) ht
    rcases hT.cmp m _ hmi (op_of_lt hm)with h|⟨q1,q2⟩
    ·exact h
    ·exfalso
     rcases Nat.lt_or_gt_of_ne hmi with hlt|hlt
     ·exact loud_pair (q1 hlt) ⟨hlm,hlo⟩
     ·exact loud_pair (q2 hlt) ⟨hlo,hlm⟩
   have hst:st.H.length=(S i).H.length:=(hI.l).eq (i:=i) (by omega) fun m hm ht=>by
    by_cases hmi:m=i
    ·subst hmi;exact⟨fun h=>by omega,fun _=>hT.not⟩
    ·exact hord m hm hmi ht
   have hv:(S (i+1)).H.length=(setOs st.H ws).length:=by rw[hH];exact len_setOs_same ws _ _ hst.symm
   rw[←hv];exact Agr.new (f:=fun m=>(S m).H.length) hi hord hL
  | false=>
   obtain⟨q1,q2⟩:=quiet_ws hlo hop
   have hlt:∀ H:List AObj,st0.H.length+countC ops.toList≤H.length→(setOs H ws).length=H.length:=by
    intro H hl;refine len_setOs_lt ws _ fun x hx=>?_
    have hc:creates o=1:=by
     have:=creates_le o
     by_cases hz:creates o=0
     ·rw[q2 hz]at hx;simp at hx
     ·omega
    have:=posOf_lt hT.op hc
    rw[q1 x hx];omega
   have hstl:st0.H.length+countC ops.toList≤st.H.length:=by
    obtain⟨c,hc,hx,_⟩:=hI.l
    rw[hx];exact hR.len c hc
   rw[hlt _ hstl];exact(hI.l).keep (by rw[hH];exact hlt _ (hR.len i (by omega))) hL

theorem inv_end{L:Nat→Prop}{st:St}(hI:Inv ops.size L S st)(hL:∀ m,m<ops.size→L m):(∀ k,st.get k=(S ops.size).get k)∧st.H=(S ops.size).H:=by
 refine⟨fun k=>(hI.s k).eq (Nat.le_refl _) fun m hm _=>⟨fun _=>hL m hm,fun h=>by omega⟩,?_⟩
 have hl:=(hI.l).eq (Nat.le_refl _) fun m hm _=>⟨fun _=>hL m hm,fun h=>by omega⟩
 refine List.ext_getElem? fun r=>?_
 have hp:=(hI.p r).eq (Nat.le_refl _) fun m hm _=>⟨fun _=>hL m hm,fun h=>by omega⟩
 by_cases hr:r<st.H.length
 ·rw[List.getD_eq_getElem?_getD,List.getD_eq_getElem?_getD,List.getElem?_eq_getElem hr,List.getElem?_eq_getElem (by omega)]at hp
  rw[List.getElem?_eq_getElem hr,List.getElem?_eq_getElem (by omega)]
  exact congrArg some hp
 ·rw[List.getElem?_eq_none (by omega),List.getElem?_eq_none (by omega)]

theorem inv_start:Inv ops.size (fun _=>False) S (S 0):=
 ⟨fun _=>⟨0,Nat.zero_le _,rfl,fun m h=>by omega,fun _ _ _ _ h=>h⟩,fun _=>⟨0,Nat.zero_le _,rfl,fun m h=>by omega,fun _ _ _ _ h=>h⟩,⟨0,Nat.zero_le _,rfl,fun m h=>by omega,fun _ _ _ _ h=>h⟩⟩
end
end Go.Ab
/- Regions are right,drawn ones too. Conditions: the functions that are called are right;the program's orders are mixed. -/
namespace Go.Ab
open Go

section
variable {P:Program}{Γ:Sem'}{ops:Array Oper}{hts:List Ht}{st0:St}{D:Nat→Prop}{S:Nat→St}{E:Nat→List (Nat×Ev)}

theorem SRel.congr{w:World}{Im:Imm}{g:List Gh}{st st':St}{a:Act}{nt:Nat}(h:SRel P w Im g st a nt)(hg:∀ k,st.get k=st'.get k)(hH:st.H=st'.H):SRel P w Im g st' a nt:=
 ⟨h.size,fun k=>by rw[←hg k];exact h.fr k,by rw[←hH];exact h.hr⟩

theorem listed_set{listed:Array Bool}{i:Nat}(hi:i<listed.size)(m:Nat):(listed.setIfInBounds i true).getD m false=true↔listed.getD m false=true∨m=i:=by
 by_cases hm:m=i
 ·subst hm;simp[hi]
 ·rw[getD_set_ne false (Ne.symm hm)];simp[hm]
theorem listed_not{listed:Array Bool}{i:Nat}(hi:i<listed.size)(h:listed.getD i true=false):¬listed.getD i false=true:=by
 rw[Array.getD_eq_getD_getElem?,Array.getElem?_eq_getElem hi]at h ⊢
 simpa using h

theorem len_keepTo:∀ (n:Nat) (H:List AObj),(keepTo n H).length=H.length
 | 0,[]=>rfl
 | _+1,[]=>rfl
 | 0,_::l=>by simp only[keepTo,List.length_cons,len_keepTo 0 l]
 | n+1,_::l=>by simp only[keepTo,List.length_cons,len_keepTo n l]
theorem get_keepTo:∀ (n:Nat) (H:List AObj) (r:Nat) (o:AObj),(keepTo n H)[r]?=some o→o=.no∨H[r]?=some o
 | 0,[],r,o,h=>by simp[keepTo]at h
 | _+1,[],r,o,h=>by simp[keepTo]at h
 | 0,x::l,r,o,h=>by
  simp only[keepTo]at h
  cases r with
  | zero=>simp only[List.getElem?_cons_zero,Option.some.injEq]at h;exact .inl h.symm
  | succ r=>simp only[List.getElem?_cons_succ]at h ⊢;exact get_keepTo 0 l r o h
 | n+1,x::l,r,o,h=>by
  simp only[keepTo]at h
  cases r with
  | zero=>exact .inr h
  | succ r=>simp only[List.getElem?_cons_succ]at h ⊢;exact get_keepTo n l r o h
theorem keepTo_congr:∀ (n:Nat) (H H':List AObj),H.length=H'.length→(∀ r,r<n→H.getD r .no=H'.getD r .no)→keepTo n H=keepTo n H'
 | n,[],H',h,_=>by
  cases H' with
  | nil=>rfl
  | cons _ _=>simp at h
 | n,_::_,[],h,_=>by simp at h
 | 0,x::l,y::l',h,_=>by
  simp only[keepTo];rw[keepTo_congr 0 l l' (by simpa using h) (fun r hr=>by omega)]
 | n+1,x::l,y::l',h,hg=>by
  simp only[keepTo];have h0:=hg 0 (by omega)
  simp only[List.getD_cons_zero]at h0;rw[h0,keepTo_congr n l l' (by simpa using h) (fun r hr=>by have:=hg (r+1) (by omega);simpa using this)]
theorem hr_keep{w:World}{Im:Imm}{g:List Gh}{H:List AObj}(h:HR P w Im g H)(n:Nat)(hn:hasReg=true→0<n):HR P w Im g (keepTo n H):=by
 have hk:∀ (r:Nat) (o:AObj),(keepTo n H)[r]?=some o→o≠AObj.no→H[r]?=some o:=fun r (o:AObj) hr hn=>(get_keepTo n H r o hr).resolve_left hn
 refine⟨by rw[h.len,len_keepTo],fun r cs hr=>h.cells r cs (hk _ _ hr (by simp)),fun r e sz hr=>h.grow r e sz (hk _ _ hr (by simp)),fun r e sz cs hr=>h.stk r e sz cs (hk _ _ hr (by simp)),fun r es hr=>h.mapo r es (hk _ _ hr (by simp)),fun r s m rest hr=>h.log r s m rest (hk _ _ hr (by simp)),fun r acc hr=>h.gen r acc (hk _ _ hr (by simp)),h.sep,h.lt,h.im,h.tab,fun r t cs hr=>h.box r t cs (hk _ _ hr (by simp)),?_⟩
 refine h.rg.go (Ext.refl _ _ _) (fun r bs hr=>hk _ _ hr (by simp)) (fun _ _ h=>h) (fun _ h=>h) (fun bs hb=>?_) (fun _ _ _ _=>⟨rfl,fun _ h=>h⟩)
 obtain⟨blks,hg0,_⟩:=h.rg.at_ bs hb
 have hnp:0<n:=hn (by
  cases hr:hasReg with
  | true=>rfl
  | false=>exact absurd hg0 (h.rg.off hr 0 blks))
 cases H with
 | nil=>simp at hb
 | cons x l=>
  obtain⟨m,rfl⟩:∃ m,n=m+1:=⟨n-1,by omega⟩
  simp only[keepTo];simpa using hb
theorem mem_dstK{d:Nat}{k:Option Nat}{l:List Nat}(h:k=some d∨d∈l):d∈dstK k l:=by
 cases k with
 | none=>
  rcases h with h|h
  ·cases h
  ·exact h
 | some j=>
  rcases h with h|h
  ·cases h;exact List.mem_cons_self
  ·exact List.mem_cons_of_mem _ h
theorem mem_dstL{o:Oper}{d:Nat}(hd:o.dst=some d)(l:List Oper):o∈l→d∈dstL l:=by
 induction l with
 | nil=>intro h;exact absurd h List.not_mem_nil
 | cons x l ih=>
  intro h;show d∈dstK x.dst (dstL l)
  cases List.mem_cons.1 h with
  | inl h=>subst h;exact mem_dstK (.inl hd)
  | inr h=>exact mem_dstK (.inr (ih h))
theorem look_forget2{fs:List Nat}{k:Nat}:∀ {vs:List (Nat×AV)},look k (forget fs vs)=none∨look k (forget fs vs)=some .any∨(k∉fs∧look k (forget fs vs)=look k vs)
 | []=>.inl rfl
 | (j,u)::vs=>by
  simp only[forget,look];split
  ·rename_i hj;subst hj;by_cases hm:j∈fs
   ·rw[if_pos hm];exact .inr (.inl rfl)
   ·rw[if_neg hm];exact .inr (.inr ⟨hm,rfl⟩)
  ·exact look_forget2
def PanAt(P:Program)(Γ:Sem')(ops:Array Oper)(hts:List Ht)(st0:St)(S:Nat→St)(i:Nat)(v:AV)(ws:List (Nat×AObj)):Prop:=
 ∃ o,ops[i]?=some o∧panOp o.op=true∧guardA ops (S i) o.guard=some true∧opV P Γ (st0.H.length+posOf ops i) (maskS st0.H.length (hts.getD i noHt).ms (S i)) o.type o.op=some (.pan v ws)
theorem blur_ok(hR:Run P Γ ops hts st0 D S E){L:Nat→Prop}{i:Nat}{o:Oper}(hT:Turn ops hts L i o){st:St}(hI:Inv ops.size L S st)(hlo:loudB o.op=true)(ws:List (Nat×AObj)) :
  keepTo st0.H.length (setOs st.H ws)=keepTo st0.H.length (setOs (S i).H ws)∧∀ k,(⟨forget (dstL ops.toList) st0.vs,[],keepTo st0.H.length (setOs (S i).H ws)⟩:St).get k=.any∨(⟨forget (dstL ops.toList) st0.vs,[],keepTo st0.H.length (setOs (S i).H ws)⟩:St).get k=st.get k:=by
 have hi:=(Array.getElem?_eq_some_iff.1 hT.op).1
 refine⟨?_,fun k=>?_⟩
 ·have hl:st.H.length=(S i).H.length:=(hI.l).eq (i:=i) (by omega) fun m hm ht=>by
   by_cases hmi:m=i
   ·subst hmi;exact⟨fun h=>by omega,fun _=>hT.not⟩
   ·have hlm:=touchL hR (op_of_lt hm) ht
    rcases hT.cmp m _ hmi (op_of_lt hm)with h|⟨h1,h2⟩
    ·exact h
    ·exfalso
     rcases Nat.lt_or_gt_of_ne hmi with hlt|hlt
     ·exact loud_pair (h1 hlt) ⟨hlm,hlo⟩
     ·exact loud_pair (h2 hlt) ⟨hlo,hlm⟩
  refine keepTo_congr _ _ _ (len_setOs_same ws _ _ hl) fun r hr=>?_
  by_cases hw:∃ x,x∈ws∧x.1=r
  ·exact setOs_same ws _ _ r hw
  ·have hn:∀ x,x∈ws→x.1≠r:=fun x hx e=>hw ⟨x,hx,e⟩
   rw[getD_setOs_not ws _ r hn,getD_setOs_not ws _ r hn];refine(hI.p r).eq (i:=i) (by omega) fun m hm ht=>?_
   by_cases hmi:m=i
   ·subst hmi;exact⟨fun h=>by omega,fun _=>hT.not⟩
   ·rcases hT.cmp m _ hmi (op_of_lt hm)with h|⟨h1,h2⟩
    ·exact h
    ·exfalso
     cases hlm:loudB ops[m].op with
     | true=>
      rcases Nat.lt_or_gt_of_ne hmi with hlt|hlt
      ·exact loud_pair (h1 hlt) ⟨hlm,hlo⟩
      ·exact loud_pair (h2 hlt) ⟨hlo,hlm⟩
     | false=>
      obtain⟨v,ws',hop,hH,x,hx,hxr⟩:=touch hR (op_of_lt hm) ht
      obtain⟨q1,q2⟩:=quiet_ws hlm hop
      have:=q1 x hx
      omega
 ·have hvs:∀ m,m≤ops.size→k∉dstL ops.toList→(S m).get k=(S 0).get k:=by
   intro m;induction m with
   | zero=>intro _ _;rfl
   | succ m ih=>
    intro hm hk;have ho:=op_of_lt (ops:=ops) (m:=m) (by omega)
    rw[hR.get ho (fun e=>hk (mem_dstL e _ (by simp[Array.mem_toList_iff]))),ih (by omega) hk]
  rcases look_forget2 (fs:=dstL ops.toList) (k:=k) (vs:=st0.vs)with h|h|⟨h1,h2⟩
  ·left;unfold St.get;simp only;rw[h];rfl
  ·left;unfold St.get;simp only;rw[h];rfl
  ·have h0:st.get k=(S 0).get k:=by
    obtain⟨c,hc,hx,_,_⟩:=hI.s k
    rw[hx];exact hvs c hc h1
   rw[h0,hR.zero]
   cases hl:look k st0.vs with
   | none=>left;unfold St.get;simp only;rw[h2,hl];rfl
   | some v=>right;unfold St.get St.ready;simp only;rw[h2,hl]
theorem any_wp{K:Nat→AV→List (Nat×AObj)→Prop}(hΓ:Sound P Γ){ro:Option Nat}(hok:drawOk hts ops=true)(hR:Run P Γ ops hts st0 D S E)(hdead:∀ i,D i→(∃ o e,ops[i]?=some o∧e∈o.after∧Region.binds .any e=true∧D e.on)∨∃ v ws,K i v ws)(hK:∀ i v ws,K i v ws→PanAt P Γ ops hts st0 S i v ws)(hKn:∀ i v ws,K i v ws→hasReg=true→0<st0.H.length){nt:Nat}(hd:∀ (i:Nat) (o:Oper) (d:Nat),ops[i]?=some o→o.dst=some d→d<nt){Q:Exit→Act→World→Prop} :
  ∀ (fuel:Nat) (U:List Nat) (listed:Array Bool) (st:St) (a:Act) (w:World) (Im:Imm) (g:List Gh),listed.size=ops.size→U.length=fuel→(∀ j,j<ops.size→¬listed.getD j false=true→j∈U) →
  (∀ (i:Nat) (o:Oper),listed.getD i false=true→ops[i]?=some o→∀ e,e∈o.after→Region.binds .any e=true→listed.getD e.on false=true) →
  Inv ops.size (fun m=>listed.getD m false=true) S st→SRel P w Im g st a nt→(∀ (i:Nat) (o:Oper),¬listed.getD i false=true→ops[i]?=some o→creates o=1→g[st0.H.length+posOf ops i]?=some Gh.no) →
  (∀ m,listed.getD m false=true→¬D m) →
  ((∀ m,m<ops.size→¬D m)→∀ a' w' Im' g',SRel P w' Im' g' (S ops.size) a' nt→a'.defers=a.defers→Ext w Im g w' Im' g'→Q .normal a' w') →
  (∀ i v ws,K i v ws→∀ u a' w' Im' g',RepA w' Im' g' u v→SRel P w' Im' g' ⟨forget (dstL ops.toList) st0.vs,[],keepTo st0.H.length (setOs (S i).H ws)⟩ a' nt→a'.defers=a.defers→Ext w Im g w' Im' g'→Q (.panic [{ v:=u,recovered:=false }]) a' w')→wpAnyIn (fen ro) 0 P .any ops Q fuel listed a w:=by
 obtain⟨hedge,hpair⟩:=drawOk_spec hok
 have hall:∀ (listed:Array Bool),listed.size=ops.size→Region.ready .any ops listed=[]→∀ m,m<ops.size→listed.getD m false=true:=by
  intro listed hsz hr m;induction m using Nat.strongRecOn with
  | _ m ih=>
   intro hm;apply Classical.byContradiction
   intro hn
   have hmr:m∈Region.ready .any ops listed:=by
    rw[mem_ready];refine⟨?_,ops[m],op_of_lt hm,fun e he hb=>?_⟩
    ·rw[Array.getD_eq_getD_getElem?,Array.getElem?_eq_getElem (by omega)]at hn ⊢
     simpa using hn
    ·have:=hedge m _ (op_of_lt hm) e he hb
     exact ih e.on this (by omega)
   rw[hr]at hmr
   cases hmr
 have hend:∀ (listed:Array Bool) (st:St) (a:Act) (w:World) (Im:Imm) (g:List Gh),listed.size=ops.size→Region.ready .any ops listed=[]→Inv ops.size (fun m=>listed.getD m false=true) S st→SRel P w Im g st a nt →
   (∀ m,listed.getD m false=true→¬D m)→((∀ m,m<ops.size→¬D m)→∀ a' w' Im' g',SRel P w' Im' g' (S ops.size) a' nt→a'.defers=a.defers→Ext w Im g w' Im' g'→Q .normal a' w')→Q .normal a w:=by
  intro listed st a w Im g hsz hr hI hs hnD hQ;obtain⟨h1,h2⟩:=inv_end hI (hall listed hsz hr)
  exact hQ (fun m hm=>hnD m (hall listed hsz hr m hm)) a w Im g (hs.congr h1 h2) rfl (Ext.refl _ _ _)
 intro fuel;induction fuel with
 | zero=>
  intro U listed st a w Im g hsz hU hin _ hI hs _ hnD hQ _
  have hr:Region.ready .any ops listed=[]:=by
   apply List.eq_nil_iff_forall_not_mem.2
   intro j hj;obtain⟨h1,o,ho,_⟩:=mem_ready.1 hj
   have hj':=(Array.getElem?_eq_some_iff.1 ho).1
   have:=hin j hj' (listed_not (by omega) h1)
   rw[List.length_eq_zero_iff.1 hU]at this;simp at this
  exact⟨hr,hend listed st a w Im g hsz hr hI hs hnD hQ⟩
 | succ fuel ih=>
  intro U listed st a w Im g hsz hU hin hcl hI hs hgh hnD hQ hP;refine⟨fun hr=>hend listed st a w Im g hsz hr hI hs hnD hQ,fun i hi=>?_⟩
  obtain⟨hun,o,ho,hpre⟩:=mem_ready.1 hi
  have hlt:=(Array.getElem?_eq_some_iff.1 ho).1
  have hnot:=listed_not (by omega) hun
  have hT:Turn ops hts (fun m=>listed.getD m false=true) i o:=by
   refine⟨ho,hnot,fun m b hne hm=>?_⟩
   have hm':=(Array.getElem?_eq_some_iff.1 hm).1
   rcases Nat.lt_or_gt_of_ne hne with hlt'|hlt'
   ·rcases hpair m i b o hlt' hm ho with h|h
    ·refine .inl ⟨fun _=>?_,fun h=>by omega⟩
     exact befB_closed (L:=fun m=>listed.getD m false=true) hcl i o ho hpre m h
    ·exact .inr ⟨fun _=>h,fun h'=>by omega⟩
   ·rcases hpair i m o b hlt' ho hm with h|h
    ·refine .inl ⟨fun h=>by omega,fun _ hLm=>hnot ?_⟩
     exact befB_closed (L:=fun m=>listed.getD m false=true) hcl m b hm (fun e he hb=>hcl m b hLm hm e he hb) i h
    ·exact .inr ⟨fun h'=>by omega,fun _=>h⟩
  have hL:∀ m,(listed.setIfInBounds i true).getD m false=true↔listed.getD m false=true∨m=i:=listed_set (by omega)
  have hcl':∀ (j:Nat) (o':Oper),(listed.setIfInBounds i true).getD j false=true→ops[j]?=some o'→∀ e,e∈o'.after→Region.binds .any e=true→(listed.setIfInBounds i true).getD e.on false=true:=by
   intro j o' hj ho' e he hb;rcases(hL j).1 hj with hj|rfl
   ·exact(hL _).2 (.inl (hcl j o' hj ho' e he hb))
   ·rw[ho]at ho';cases ho';exact(hL _).2 (.inl (hpre e he hb))
  have hU':(U.erase i).length=fuel:=by rw[List.length_erase_of_mem (hin i hlt hnot)];omega
  have hin':∀ j,j<ops.size→¬(listed.setIfInBounds i true).getD j false=true→j∈U.erase i:=by
   intro j hj hn;have h1:¬listed.getD j false=true:=fun h=>hn ((hL j).2 (.inl h))
   have h2:j≠i:=fun h=>hn ((hL j).2 (.inr h))
   exact(List.mem_erase_of_ne h2).2 (hin j hj h1)
  have hgd:=guard_eq hR hT hI
  unfold wpOpIn;rw[ho];simp only
  by_cases hDi:D i
  ·rcases hdead i hDi with⟨o',e,e1,e2,e3,e4⟩|⟨v,ws,hKi⟩
   ·rw[ho]at e1;cases e1;exact absurd e4 (hnD _ (hpre e e2 e3))
   ·obtain⟨o',e1,e2,e3,e4⟩:=hK i v ws hKi
    rw[ho]at e1;cases e1;have hlo:=panOp_loud e2
    have hg':=e3
    rw[←hgd]at e3;have hw:=wanted_ok hs.fr e3
    simp only[hw,if_true];have hop':=same_loud hR hT hI hlo e4
    refine op_wp hΓ hs.fr hs.hr (fun hc=>hgh i o hnot ho hc) hop' (fun av ws' u w' Im' g' he=>by cases he) ?_
    rintro av ws' u w' Im' g' he hL'
    cases he;obtain⟨b1,b2⟩:=blur_ok hR hT hI hlo ws
    refine hP i v ws hKi u a w' Im' g' hL'.rep ⟨hs.size,fun k=>?_,?_⟩ rfl hL'.ext
    ·rcases b2 k with hb|hb
     ·rw[hb];exact .any _
     ·rw[hb];exact(hs.fr k).ext hL'.ext
    ·show HR P w' Im' g' (keepTo st0.H.length (setOs (S i).H ws))
     rw[←b1];exact hr_keep hL'.hr _ (hKn i v ws hKi)
  have hnD':∀ m,(listed.setIfInBounds i true).getD m false=true→¬D m:=fun m hm=>by
   rcases(hL m).1 hm with hm|rfl
   ·exact hnD m hm
   ·exact hDi
  cases hR.step i o ho with
  | off hg h1 h2=>
   have hg:=hg.resolve_left hDi
   rw[←hgd]at hg;have hw:=wanted_ok hs.fr hg
   simp only[hw,Bool.false_eq_true,if_false];have hI':=inv_off hR hT hI hL h1
   have hs':SRel P w Im g (st.putO o.dst (.tuple [])) (a.put o.dst undef) nt:=by
    cases hdst:o.dst with
    | none=>exact hs
    | some d=>
     refine⟨by simp[Act.put,hs.size],?_,?_⟩
     ·exact frame_put hs.fr (by rw[hs.size];exact hd i o d ho hdst) (.tuple [] [] rfl (fun _ _ _ h=>by simp at h))
     ·rw[putO_H];exact hs.hr
   refine⟨fun f _=>fen_fn ro f,ih (U.erase i) _ _ _ w Im g (by simp[hsz]) hU' hin' hcl' hI' hs' (fun j o' hj ho' hc=>hgh j o' (fun h=>hj ((hL j).2 (.inl h))) ho' hc) hnD' (fun k0 a' w' Im' g' k1 k2 k3=>hQ k0 a' w' Im' g' k1 (k2.trans ?_) k3) (fun i v ws k0 u a' w' Im' g' k1 k2 k3 k4=>hP i v ws k0 u a' w' Im' g' k1 k2 (k3.trans ?_) k4)⟩
   all_goals cases o.dst<;>rfl
  | on v ws hg hop hh h1 h2=>
   have hg':=hg
   rw[←hgd]at hg;have hw:=wanted_ok hs.fr hg
   simp only[hw,if_true];have hop':=same_op hR hT hI hDi hg' hop
   refine op_wp hΓ hs.fr hs.hr (fun hc=>hgh i o hnot ho hc) hop' ?_ (fun av ws' u w' Im' g' he=>by cases he)
   rintro av ws' u w' Im' g' he hL'
   cases he;have hI':=inv_on hR hT hI hL hop h1
   have hs':SRel P w' Im' g' ((st.setH ws).putO o.dst v) (a.put o.dst u) nt:=by
    have hf':FrameRep w' Im' g' (st.setH ws) a.tmps:=hs.fr.ext hL'.ext
    cases hdst:o.dst with
    | none=>exact⟨hs.size,hf',hL'.hr⟩
    | some d=>
     refine⟨by simp[Act.put,hs.size],?_,?_⟩
     ·exact frame_put hf' (by rw[hs.size];exact hd i o d ho hdst) hL'.rep
     ·rw[putO_H];exact hL'.hr
   refine ih (U.erase i) _ _ _ w' Im' g' (by simp[hsz]) hU' hin' hcl' hI' hs' (fun j o' hj ho' hc'=>?_) hnD' (fun k0 a' w'' Im'' g'' k1 k2 k3=>hQ k0 a' w'' Im'' g'' k1 (k2.trans ?_) (hL'.ext.trans k3)) (fun i v ws k0 u a' w'' Im'' g'' k1 k2 k3 k4=>hP i v ws k0 u a' w'' Im'' g'' k1 k2 (k3.trans ?_) (hL'.ext.trans k4))
   ·have hj1:¬listed.getD j false=true:=fun h=>hj ((hL j).2 (.inl h))
    have hj2:j≠i:=fun h=>hj ((hL j).2 (.inr h))
    refine hL'.no _ (fun hc=>?_) (hgh j o' hj1 ho' hc')
    have:=posOf_ne ho ho' (Ne.symm hj2) hc hc'
    omega
   ·cases o.dst<;>rfl
   ·cases o.dst<;>rfl

theorem oper_exits{F:Fence}{n:Nat}{P:Program}{o:Oper}{a:Act}{w:World}{K:Act→World→Prop}{Q Q':Exit→Act→World→Prop}(hQ:∀ c a w,Q' (.panic c) a w→Q (.panic c) a w)(hL:LetsOut Q'→LetsOut Q)(hh:o.wpIn F n P a w K Q'):o.wpIn F n P a w K Q:=by
 unfold Oper.wpIn at *;refine⟨hh.1,?_⟩
 have hh:=hh.2
 generalize (o.semAt F.round a.eval).run P w=r at *
 cases r with
 | ok x w'=>
  cases x<;>simp only[Oper.uponIn]at hh ⊢ <;>
   first
    | exact hh
    | exact⟨hh.1,CallsIn.mono hh.2 (fun e w'' he=>by cases e<;>first|exact he|exact hQ _ _ _ he|exact hL he)⟩
    | exact⟨hh.1,RoundIn.mono hh.2 (fun e w'' he=>by cases e<;>first|exact he|exact hQ _ _ _ he|exact hL he)⟩
 | halt x w'=>cases x<;>simp only[Oper.uponIn]at hh ⊢<;>first|exact hh|exact hQ _ _ _ hh
theorem any_more{F:Fence}{rm:Nat}{Q:Exit→Act→World→Prop}:∀ (m:Nat) (l:Array Bool) (a:Act) (w:World),wpAnyIn F rm P .any ops Q m l a w→wpAnyIn F rm P .any ops Q (m+1) l a w
 | 0,l,a,w,h=>⟨fun _=>h.2,fun i hi=>by rw[h.1]at hi;cases hi⟩
 | m+1,l,a,w,h=>⟨h.1,fun i hi=>wpOpIn_mono (fun a w=>any_more m _ a w) (h.2 i hi)⟩
theorem any_more_k{F:Fence}{rm:Nat}{Q:Exit→Act→World→Prop}(m:Nat)(l:Array Bool)(a:Act)(w:World)(h:wpAnyIn F rm P .any ops Q m l a w):∀ k,wpAnyIn F rm P .any ops Q (k+m) l a w
 | 0=>by rw[Nat.zero_add];exact h
 | k+1=>by rw[show k+1+m=k+m+1 by omega];exact any_more _ l a w (any_more_k m l a w h k)
def Qpre(F:Fence)(rm:Nat)(P:Program)(ops:Array Oper)(n m:Nat)(Q:Exit→Act→World→Prop):Exit→Act→World→Prop
 | .normal,a,w=>∀ listed:Array Bool,listed.size=ops.size→(∀ k,k<n→listed.getD k false=true)→(∀ k,n≤k→¬listed.getD k false=true)→wpAnyIn F rm P .any ops Q m listed a w
 | .exit id,a,w=>Q (.exit id) a w
 | .goto l,a,w=>Q (.goto l) a w
 | .ret,a,w=>Q .ret a w
 | .panic c,a,w=>Q (.panic c) a w
 | .outgrown,a,w=>Q .outgrown a w
theorem any_prefix{F:Fence}{rm:Nat}{Q:Exit→Act→World→Prop}{ops':Array Oper}{n m:Nat}(hn:ops'.size=n)(hle:n≤ops.size)(hpre:∀ i,i<n→ops'[i]?=ops[i]?)
  (hedge:∀ (i:Nat) (o:Oper),i<n→ops[i]?=some o→∀ e,e∈o.after→Region.binds .any e=true→e.on<i) (hguard:∀ (i:Nat) (o:Oper) (j:Nat) (b:Bool),i<n→ops[i]?=some o→o.guard=some (j,b)→j<n)
  (hbar:∀ (i:Nat) (o:Oper),n≤i→ops[i]?=some o→∀ k,k<n→∃ e,e∈o.after∧Region.binds .any e=true∧e.on=k) :
  ∀ (fuel:Nat) (l' l:Array Bool) (a:Act) (w:World),l'.size=n→l.size=ops.size→(∀ k,k<n→(l.getD k false=true↔l'.getD k false=true))→(∀ k,n≤k→¬l.getD k false=true) →
   wpAnyIn F rm P .any ops' (Qpre F rm P ops n m Q) fuel l' a w→wpAnyIn F rm P .any ops Q (fuel+m) l a w:=by
 have hall:∀ l':Array Bool,l'.size=n→Region.ready .any ops' l'=[]→∀ k,k<n→l'.getD k false=true:=by
  intro l' hsz hr k;induction k using Nat.strongRecOn with
  | _ k ih=>
   intro hk;apply Classical.byContradiction
   intro hnot;have hko:ops[k]?=some (ops[k]'(by omega)):=Array.getElem?_eq_getElem (by omega)
   have hm:k∈Region.ready .any ops' l':=by
    rw[mem_ready];refine⟨?_,ops[k]'(by omega),by rw[hpre k hk];exact hko,fun e he hb=>?_⟩
    ·rw[Array.getD_eq_getD_getElem?,Array.getElem?_eq_getElem (by omega)]at hnot ⊢
     simpa using hnot
    ·have:=hedge k _ hk hko e he hb
     exact ih e.on this (by omega)
   rw[hr]at hm
   cases hm
 have hend:∀ (l' l:Array Bool) (a:Act) (w:World),l'.size=n→l.size=ops.size→(∀ k,k<n→(l.getD k false=true↔l'.getD k false=true))→(∀ k,n≤k→¬l.getD k false=true)→Region.ready .any ops' l'=[]→Qpre F rm P ops n m Q .normal a w→wpAnyIn F rm P .any ops Q m l a w:=by
  intro l' l a w h1 h2 h3 h4 hr hq;exact hq l h2 (fun k hk=>(h3 k hk).2 (hall l' h1 hr k hk)) h4
 intro fuel;induction fuel with
 | zero=>
  intro l' l a w h1 h2 h3 h4 h;rw[Nat.zero_add];exact hend l' l a w h1 h2 h3 h4 h.1 h.2
 | succ fuel ih=>
  intro l' l a w h1 h2 h3 h4 h;by_cases hr:Region.ready .any ops' l'=[]
  ·exact any_more_k m l a w (hend l' l a w h1 h2 h3 h4 hr (h.1 hr)) (fuel+1)
  ·have hback:∀ i,i<n→(i∈Region.ready .any ops' l'↔i∈Region.ready .any ops l):=by
    intro i hi;rw[mem_ready,mem_ready,hpre i hi]
    have hgt:∀ k,k<n→(l.getD k true=false↔l'.getD k true=false):=by
     intro k hk;have:=h3 k hk
     rw[Array.getD_eq_getD_getElem?,Array.getD_eq_getD_getElem?,Array.getElem?_eq_getElem (by omega),Array.getElem?_eq_getElem (by omega)]at this ⊢
     simp only[Option.getD_some]at this ⊢
     cases hx:l[k]'(by omega)<;>cases hy:l'[k]'(by omega)<;>simp_all
    constructor
    ·rintro⟨q1,o,ho,hq⟩
     exact⟨(hgt i hi).2 q1,o,ho,fun e he hb=>(h3 e.on (by have:=hedge i o hi ho e he hb;omega)).2 (hq e he hb)⟩
    ·rintro⟨q1,o,ho,hq⟩
     exact⟨(hgt i hi).1 q1,o,ho,fun e he hb=>(h3 e.on (by have:=hedge i o hi ho e he hb;omega)).1 (hq e he hb)⟩
   have hlow:∀ i,i∈Region.ready .any ops l→i<n:=by
    intro i hi;apply Classical.byContradiction
    intro hge;obtain⟨_,o,ho,hq⟩:=mem_ready.1 hi
    have hal:∀ k,k<n→l'.getD k false=true:=by
     intro k hk;obtain⟨e,e1,e2,e3⟩:=hbar i o (by omega) ho k hk
     rw[←e3];exact(h3 e.on (by omega)).1 (hq e e1 e2)
    apply hr
    apply List.eq_nil_iff_forall_not_mem.2
    intro j hj;obtain⟨q1,o',ho',_⟩:=mem_ready.1 hj
    have hj':j<n:=by rw[←hn];exact(Array.getElem?_eq_some_iff.1 ho').1
    exact listed_not (by omega) q1 (hal j hj')
   rw[show fuel+1+m=fuel+m+1 by omega]
   refine⟨fun he=>?_,fun i hi=>?_⟩
   ·exfalso
    cases hx:Region.ready .any ops' l' with
    | nil=>exact hr hx
    | cons i r=>
     have hi:i∈Region.ready .any ops' l':=by rw[hx];simp
     have hin:i<n:=by
      obtain⟨_,o,ho,_⟩:=mem_ready.1 hi
      rw[←hn];exact(Array.getElem?_eq_some_iff.1 ho).1
     have:=(hback i hin).1 hi
     rw[he]at this
     cases this
   ·have hin:=hlow i hi
    have hi':=(hback i hin).2 hi
    have hq:=h.2 i hi'
    have hq2:=wpOpIn_mono (K':=wpAnyIn F rm P .any ops Q (fuel+m) (l.setIfInBounds i true)) (fun a' w' hh=>ih (l'.setIfInBounds i true) (l.setIfInBounds i true) a' w' (by simpa using h1) (by simpa using h2) (fun k hk=>by rw[listed_set (by omega),listed_set (by omega),h3 k hk]) (fun k hk=>by rw[listed_set (by omega)];rintro(x|x);exact h4 k hk x;omega) hh) hq
    unfold wpOpIn at hq2 ⊢;rw[hpre i hin]at hq2
    cases ho:ops[i]? with
    | none=>rw[ho]at hq2;exact hq2
    | some o=>
     rw[ho]at hq2;simp only at hq2 ⊢
     have hw:Region.wanted o (yielded ops a.tmps)=Region.wanted o (yielded ops' a.tmps):=by
      unfold Region.wanted
      cases hg:o.guard with
      | none=>rfl
      | some jb=>
       obtain⟨j,b⟩:=jb
       have hj:=hguard i o j b hin ho hg
       simp only[yielded,hpre j hj]
     rw[hw];split
     ·rename_i hw1;rw[if_pos hw1]at hq2;exact oper_exits (fun c a w h=>h) (fun⟨a,w,h⟩=>⟨a,w,h⟩) hq2
     ·rename_i hw1;rw[if_neg hw1]at hq2;exact hq2
theorem store_form{t:TypeId}{H:List AObj}{v a:AV}{q:ORes}(h:storeA P t H v a=some q):∃ r ob,refOf a=some r∧q=.val (.tuple []) [(r,ob)]∧r<H.length∧∀ H':List AObj,H'.getD r .no=H.getD r .no→storeA P t H' v a=some q:=by
 unfold storeA storeT at h;split at h
 ·rename_i r off n hn;have h0:=h
  unfold storeK at h;split at h
  ·rename_i cs new hc hv;split at h
   ·rename_i hcond
    cases h;refine⟨r,_,rfl,rfl,(List.getElem?_eq_some_iff.1 (getD_cells hc)).1,fun H' hH=>?_⟩
    unfold storeA storeT;rw[hn];simp only
    rw[hH];exact h0
   ·cases h
  ·cases h
 ·rename_i r e off n hn;have h0:=h
  unfold storeS at h;split at h
  ·rename_i e' s cs new hc hv;split at h
   ·rename_i hcond
    cases h;refine⟨r,_,rfl,rfl,?_,fun H' hH=>?_⟩
    ·apply Classical.byContradiction
     intro hge;rw[getD_no (by omega)]at hc
     cases hc
    ·unfold storeA storeT;rw[hn];simp only
     rw[hH];exact h0
   ·cases h
  ·cases h
 ·rename_i k off n hn;have h0:=h
  unfold storeR at h;split at h
  ·rename_i bs new hc hv;split at h
   ·unfold storeRK at h;split at h
    ·cases h;refine⟨0,_,rfl,rfl,(List.getElem?_eq_some_iff.1 (regC_some hc)).1,fun H' hH=>?_⟩
     unfold storeA storeT;rw[hn];simp only
     rw[hH];exact h0
    ·cases h
   ·cases h
  ·cases h
 ·cases h
theorem step_wp(hΓ:Sound P Γ){ro:Option Nat}{nt i:Nat}{o:Oper}{Q:Exit→Act→World→Prop}(ho:ops[i]?=some o)(hg:o.guard=none)(hc:creates o=0){st:St}{a:Act}{w:World}{Im:Imm}{g:List Gh}(hs:SRel P w Im g st a nt)(hd:∀ d,o.dst=some d→d<nt){v:AV}{ws:List (Nat×AObj)}(hop:opV P Γ 0 st o.type o.op=some (.val v ws)){K:Act→World→Prop}
  (hK:∀ a' w' Im' g',SRel P w' Im' g' ((st.setH ws).putO o.dst v) a' nt→a'.defers=a.defers→Ext w Im g w' Im' g'→K a' w'):wpOpIn (fen ro) 0 P ops Q i K a w:=by
 unfold wpOpIn;rw[ho];simp only
 have hw:Region.wanted o (yielded ops a.tmps)=true:=by unfold Region.wanted;rw[hg]
 simp only[hw,if_true];refine op_wp hΓ hs.fr hs.hr (fun h=>by omega) hop ?_ (fun av ws' u w' Im' g' he=>by cases he)
 rintro av ws' u w' Im' g' he hL'
 cases he;refine hK _ w' Im' g' ?_ (by cases o.dst<;>rfl) hL'.ext
 have hf':FrameRep w' Im' g' (st.setH ws) a.tmps:=hs.fr.ext hL'.ext
 cases hdst:o.dst with
 | none=>exact⟨hs.size,hf',hL'.hr⟩
 | some d=>
  refine⟨by simp[Act.put,hs.size],?_,?_⟩
  ·exact frame_put hf' (by rw[hs.size];exact hd d hdst) hL'.rep
  ·rw[putO_H];exact hL'.hr
theorem put_hp(vs ts:List (Nat×AV))(H H':List AObj)(d:Nat)(v:AV):(⟨vs,ts,H'⟩:St).put d v=⟨((⟨vs,ts,H⟩:St).put d v).vs,((⟨vs,ts,H⟩:St).put d v).ts,H'⟩:=by
 unfold St.put putK;simp only;split<;>rfl
theorem setO_comm{H:List AObj}{r q:Nat}{x y:AObj}(hne:r≠q)(hr:r<H.length)(hq:q<H.length):setO (setO H r x) q y=setO (setO H q y) r x:=by
 unfold setO;rw[if_pos hr,if_pos hq,if_pos (by simpa using hq),if_pos (by simpa using hr)]
 exact List.set_comm _ _ hne
theorem tail_wp(hΓ:Sound P Γ){ro:Option Nat}{nt n:Nat}{o6 o7 o8:Oper}(hsz:ops.size=n+3)(h6:ops[n]?=some o6)(h7:ops[n+1]?=some o7)(h8:ops[n+2]?=some o8)
  (g6:o6.guard=none) (g7:o7.guard=none) (g8:o8.guard=none) {d:Nat} (d6:o6.dst=some d) (d7:o7.dst=none) (d8:o8.dst=none) {t6 t7 t8:TypeId} {x6 i6 x7 v7 x8 v8:Operand}
  (p6:o6.op=.indexAddr t6 x6 i6) (p7:o7.op=.store t7 x7 v7) (p8:o8.op=.store t8 x8 v8) (b6:∀ e,e∈o6.after→Region.binds .any e=true→e.on<n) (b7:∀ e,e∈o7.after→Region.binds .any e=true→e.on<n+1) (b8:∀ e,e∈o8.after→Region.binds .any e=true→e.on<n)
  (hn7:∃ e,e∈o7.after∧Region.binds .any e=true∧e.on=n) (hx8:x8≠.tmp d) (hv8:v8≠.tmp d) (hdn:d<nt) {st:St} {v6:AV} (e6:indexAddrA P t6 (evArg st x6) (evArg st i6)=some v6) {r7 r8:Nat} {ob7 ob8:AObj}
  (e7:storeA P t7 st.H (evArg (st.put d v6) v7) (evArg (st.put d v6) x7)=some (.val (.tuple []) [(r7,ob7)])) (e8:storeA P t8 st.H (evArg (st.put d v6) v8) (evArg (st.put d v6) x8)=some (.val (.tuple []) [(r8,ob8)]))
  (m7:∀ H',H'.getD r7 .no=st.H.getD r7 .no→storeA P t7 H' (evArg (st.put d v6) v7) (evArg (st.put d v6) x7)=some (.val (.tuple []) [(r7,ob7)])) (m8:∀ H',H'.getD r8 .no=st.H.getD r8 .no→storeA P t8 H' (evArg (st.put d v6) v8) (evArg (st.put d v6) x8)=some (.val (.tuple []) [(r8,ob8)])) (hne:r7≠r8) (hr7:r7<st.H.length) (hr8:r8<st.H.length)
  {Q:Exit→Act→World→Prop} {listed:Array Bool} (hls:listed.size=ops.size) (hll:∀ k,k<n→listed.getD k false=true) (hlh:∀ k,n≤k→¬listed.getD k false=true) {a:Act} {w:World} {Im:Imm} {g:List Gh} (hs:SRel P w Im g st a nt)
  (hn:∀ a' w' Im' g',SRel P w' Im' g' ⟨(st.put d v6).vs,(st.put d v6).ts,setO (setO st.H r7 ob7) r8 ob8⟩ a' nt→a'.defers=a.defers→Ext w Im g w' Im' g'→Q .normal a' w'):wpAnyIn (fen ro) 0 P .any ops Q 3 listed a w:=by
 have c6:creates o6=0:=by unfold creates;rw[p6]
 have c7:creates o7=0:=by unfold creates;rw[p7]
 have c8:creates o8=0:=by unfold creates;rw[p8]
 have hev:∀ (H':List AObj) (x:Operand),evArg ⟨(st.put d v6).vs,(st.put d v6).ts,H'⟩ x=evArg (st.put d v6) x:=fun H' x=>by cases x<;>rfl
 have hev0:∀ (H':List AObj) (x:Operand),evArg ⟨st.vs,st.ts,H'⟩ x=evArg st x:=fun H' x=>by cases x<;>rfl
 have hev8:∀ x:Operand,x≠.tmp d→evArg st x=evArg (st.put d v6) x:=fun x hx=>by
  cases x with
  | tmp k=>
   have hk:k≠d:=fun e=>hx (by rw[e])
   show st.get k=(st.put d v6).get k
   rw[get_put,if_neg hk]
  | _=>rfl
 have hrd:∀ (l:Array Bool) (S:Nat→Prop),l.size=ops.size→(∀ k,k<n+3→(l.getD k false=true↔k<n∨S k))→∀ i,i∈Region.ready .any ops l→(i=n∨i=n+1∨i=n+2)∧¬S i∧(i=n+1→S n):=by
  intro l S hl hS i hi;obtain⟨q1,o,ho,hq⟩:=mem_ready.1 hi
  have hlt:i<n+3:=by rw[←hsz];exact(Array.getElem?_eq_some_iff.1 ho).1
  have hnot:=listed_not (by omega) q1
  rw[hS i hlt]at hnot
  have hge:n≤i:=by
   apply Classical.byContradiction
   intro h;exact hnot (.inl (by omega))
  refine⟨by omega,fun h=>hnot (.inr h),fun he=>?_⟩
  subst he;rw[h7]at ho
  cases ho;obtain⟨e,e1,e2,e3⟩:=hn7
  have:=hq e e1 e2
  rw[e3,hS n (by omega)]at this
  rcases this with h|h
  ·omega
  ·exact h
 have hne6:∀ (l:Array Bool) (S:Nat→Prop),l.size=ops.size→(∀ k,k<n+3→(l.getD k false=true↔k<n∨S k))→(∃ i,(i=n∨i=n+2∨(i=n+1∧S n))∧¬S i)→Region.ready .any ops l≠[]:=by
  rintro l S hl hS ⟨i,hi,hnS⟩ he
  have hm:i∈Region.ready .any ops l:=by
   rw[mem_ready];have hnot:¬l.getD i false=true:=by rw[hS i (by omega)];rintro(h|h);omega;exact hnS h
   refine⟨?_,?_⟩
   ·rw[Array.getD_eq_getD_getElem?,Array.getElem?_eq_getElem (by omega)]at hnot ⊢
    simpa using hnot
   ·rcases hi with rfl|rfl|⟨rfl,hSn⟩
    ·exact⟨o6,h6,fun e he hb=>(hS e.on (by have:=b6 e he hb;omega)).2 (.inl (b6 e he hb))⟩
    ·exact⟨o8,h8,fun e he hb=>(hS e.on (by have:=b8 e he hb;omega)).2 (.inl (b8 e he hb))⟩
    ·refine⟨o7,h7,fun e he hb=>?_⟩
     have:=b7 e he hb
     by_cases hq:e.on=n
     ·rw[hq];exact(hS n (by omega)).2 (.inr hSn)
     ·exact(hS e.on (by omega)).2 (.inl (by omega))
  rw[he]at hm
  cases hm
 have hset:∀ (l:Array Bool) (S:Nat→Prop) (i:Nat),i<n+3→l.size=ops.size→(∀ k,k<n+3→(l.getD k false=true↔k<n∨S k))→(l.setIfInBounds i true).size=ops.size∧∀ k,k<n+3→((l.setIfInBounds i true).getD k false=true↔k<n∨(S k∨k=i)):=by
  intro l S i hi hl hS;refine⟨by simpa using hl,fun k hk=>?_⟩
  rw[listed_set (by omega),hS k hk]
  constructor
  ·rintro((h|h)|h)
   ·exact .inl h
   ·exact .inr (.inl h)
   ·exact .inr (.inr h)
  ·rintro(h|h|h)
   ·exact .inl (.inl h)
   ·exact .inl (.inr h)
   ·exact .inr h
 have A678:∀ (l:Array Bool) (S:Nat→Prop) (a':Act) (w':World),l.size=ops.size→(∀ k,k<n+3→(l.getD k false=true↔k<n∨S k))→S n→S (n+1)→S (n+2)→Q .normal a' w'→wpAnyIn (fen ro) 0 P .any ops Q 0 l a' w':=by
  intro l S a' w' hl hS s6 s7 s8 hq;refine⟨?_,hq⟩
  apply List.eq_nil_iff_forall_not_mem.2
  intro i hi;obtain⟨q1,q2,_⟩:=hrd l S hl hS i hi
  rcases q1 with rfl|rfl|rfl
  ·exact q2 s6
  ·exact q2 s7
  ·exact q2 s8
 have hn':∀ a' w' Im' g',SRel P w' Im' g' ⟨(st.put d v6).vs,(st.put d v6).ts,setO (setO st.H r8 ob8) r7 ob7⟩ a' nt→a'.defers=a.defers→Ext w Im g w' Im' g'→Q .normal a' w':=by
  rw[setO_comm (Ne.symm hne) hr8 hr7];exact hn
 have A67:∀ (l:Array Bool) (S:Nat→Prop) (a1:Act) (w1:World) (I1:Imm) (g1:List Gh),l.size=ops.size→(∀ k,k<n+3→(l.getD k false=true↔k<n∨S k))→S n→S (n+1)→¬S (n+2)→SRel P w1 I1 g1 ⟨(st.put d v6).vs,(st.put d v6).ts,setO st.H r7 ob7⟩ a1 nt→a1.defers=a.defers→Ext w Im g w1 I1 g1→wpAnyIn (fen ro) 0 P .any ops Q 1 l a1 w1:=by
  intro l S a1 w1 I1 g1 hl hS s6 s7 s8 hr hdf he;refine⟨fun hx=>absurd hx (hne6 l S hl hS ⟨n+2,.inr (.inl rfl),s8⟩),fun i hi=>?_⟩
  obtain⟨q1,q2,_⟩:=hrd l S hl hS i hi
  have hi8:i=n+2:=by
   rcases q1 with rfl|rfl|h
   ·exact absurd s6 q2
   ·exact absurd s7 q2
   ·exact h
  subst hi8;refine step_wp hΓ h8 g8 c8 hr (fun d' h=>by rw[d8]at h;cases h) (v:=.tuple []) (ws:=[(r8,ob8)]) ?_ (fun a2 w2 I2 g2 k1 k2 k3=>?_)
  ·rw[p8];simp only[opV,hev];exact m8 _ (by rw[getD_setO,if_neg (Ne.symm hne)])
  ·obtain⟨z1,z2⟩:=hset l S (n+2) (by omega) hl hS
   refine A678 _ _ _ _ z1 z2 (.inl s6) (.inl s7) (.inr rfl) (hn a2 w2 I2 g2 ?_ (k2.trans hdf) (he.trans k3))
   rw[d8]at k1;exact k1
 have A68:∀ (l:Array Bool) (S:Nat→Prop) (a1:Act) (w1:World) (I1:Imm) (g1:List Gh),l.size=ops.size→(∀ k,k<n+3→(l.getD k false=true↔k<n∨S k))→S n→S (n+2)→¬S (n+1)→SRel P w1 I1 g1 ⟨(st.put d v6).vs,(st.put d v6).ts,setO st.H r8 ob8⟩ a1 nt→a1.defers=a.defers→Ext w Im g w1 I1 g1→wpAnyIn (fen ro) 0 P .any ops Q 1 l a1 w1:=by
  intro l S a1 w1 I1 g1 hl hS s6 s8 s7 hr hdf he;refine⟨fun hx=>absurd hx (hne6 l S hl hS ⟨n+1,.inr (.inr ⟨rfl,s6⟩),s7⟩),fun i hi=>?_⟩
  obtain⟨q1,q2,_⟩:=hrd l S hl hS i hi
  have hi7:i=n+1:=by
   rcases q1 with rfl|h|rfl
   ·exact absurd s6 q2
   ·exact h
   ·exact absurd s8 q2
  subst hi7;refine step_wp hΓ h7 g7 c7 hr (fun d' h=>by rw[d7]at h;cases h) (v:=.tuple []) (ws:=[(r7,ob7)]) ?_ (fun a2 w2 I2 g2 k1 k2 k3=>?_)
  ·rw[p7];simp only[opV,hev];exact m7 _ (by rw[getD_setO,if_neg hne])
  ·obtain⟨z1,z2⟩:=hset l S (n+1) (by omega) hl hS
   refine A678 _ _ _ _ z1 z2 (.inl s6) (.inr rfl) (.inl s8) (hn' a2 w2 I2 g2 ?_ (k2.trans hdf) (he.trans k3))
   rw[d7]at k1;exact k1
 have A6:∀ (l:Array Bool) (S:Nat→Prop) (a1:Act) (w1:World) (I1:Imm) (g1:List Gh),l.size=ops.size→(∀ k,k<n+3→(l.getD k false=true↔k<n∨S k))→S n→¬S (n+1)→¬S (n+2)→SRel P w1 I1 g1 (st.put d v6) a1 nt→a1.defers=a.defers→Ext w Im g w1 I1 g1→wpAnyIn (fen ro) 0 P .any ops Q 2 l a1 w1:=by
  intro l S a1 w1 I1 g1 hl hS s6 s7 s8 hr hdf he;have hpH:(st.put d v6).H=st.H:=by unfold St.put putK;split<;>rfl
  refine⟨fun hx=>absurd hx (hne6 l S hl hS ⟨n+2,.inr (.inl rfl),s8⟩),fun i hi=>?_⟩
  obtain⟨q1,q2,_⟩:=hrd l S hl hS i hi
  rcases q1 with rfl|rfl|rfl
  ·exact absurd s6 q2
  ·refine step_wp hΓ h7 g7 c7 hr (fun d' h=>by rw[d7]at h;cases h) (v:=.tuple []) (ws:=[(r7,ob7)]) ?_ (fun a2 w2 I2 g2 k1 k2 k3=>?_)
   ·rw[p7];simp only[opV];rw[hpH];exact e7
   ·obtain⟨z1,z2⟩:=hset l S (n+1) (by omega) hl hS
    refine A67 _ _ a2 w2 I2 g2 z1 z2 (.inl s6) (.inr rfl) (by rintro(h|h);exact s8 h;omega) ?_ (k2.trans hdf) (he.trans k3)
    rw[d7]at k1;unfold St.setH at k1;rw[hpH]at k1;exact k1
  ·refine step_wp hΓ h8 g8 c8 hr (fun d' h=>by rw[d8]at h;cases h) (v:=.tuple []) (ws:=[(r8,ob8)]) ?_ (fun a2 w2 I2 g2 k1 k2 k3=>?_)
   ·rw[p8];simp only[opV];rw[hpH];exact e8
   ·obtain⟨z1,z2⟩:=hset l S (n+2) (by omega) hl hS
    refine A68 _ _ a2 w2 I2 g2 z1 z2 (.inl s6) (.inr rfl) (by rintro(h|h);exact s7 h;omega) ?_ (k2.trans hdf) (he.trans k3)
    rw[d8]at k1;unfold St.setH at k1;rw[hpH]at k1;exact k1
 have A8:∀ (l:Array Bool) (S:Nat→Prop) (a1:Act) (w1:World) (I1:Imm) (g1:List Gh),l.size=ops.size→(∀ k,k<n+3→(l.getD k false=true↔k<n∨S k))→S (n+2)→¬S n→¬S (n+1)→SRel P w1 I1 g1 ⟨st.vs,st.ts,setO st.H r8 ob8⟩ a1 nt→a1.defers=a.defers→Ext w Im g w1 I1 g1→wpAnyIn (fen ro) 0 P .any ops Q 2 l a1 w1:=by
  intro l S a1 w1 I1 g1 hl hS s8 s6 s7 hr hdf he;refine⟨fun hx=>absurd hx (hne6 l S hl hS ⟨n,.inl rfl,s6⟩),fun i hi=>?_⟩
  obtain⟨q1,q2,q3⟩:=hrd l S hl hS i hi
  have hi6:i=n:=by
   rcases q1 with h|h|rfl
   ·exact h
   ·exact absurd (q3 h) s6
   ·exact absurd s8 q2
  subst hi6;refine step_wp hΓ h6 g6 c6 hr (fun d' h=>by rw[d6]at h;cases h;exact hdn) (v:=v6) (ws:=[]) ?_ (fun a2 w2 I2 g2 k1 k2 k3=>?_)
  ·rw[p6];simp only[opV,hev0,e6,vO]
  ·obtain⟨z1,z2⟩:=hset l S i (by omega) hl hS
   refine A68 _ _ a2 w2 I2 g2 z1 z2 (.inr rfl) (.inl s8) (by rintro(h|h);exact s7 h;omega) ?_ (k2.trans hdf) (he.trans k3)
   rw[d6]at k1;have:=put_hp st.vs st.ts st.H (setO st.H r8 ob8) d v6
   show SRel P w2 I2 g2 ⟨((⟨st.vs,st.ts,st.H⟩:St).put d v6).vs,((⟨st.vs,st.ts,st.H⟩:St).put d v6).ts,setO st.H r8 ob8⟩ a2 nt
   rw[←this];exact k1
 have hS0:∀ k,k<n+3→(listed.getD k false=true↔k<n∨(fun _=>False) k):=by
  intro k hk;constructor
  ·intro h;apply Classical.byContradiction
   intro hc;exact hlh k (by omega) h
  ·rintro(h|h)
   ·exact hll k h
   ·exact h.elim
 refine⟨fun hx=>absurd hx (hne6 listed _ hls hS0 ⟨n,.inl rfl,fun h=>h⟩),fun i hi=>?_⟩
 obtain⟨q1,q2,q3⟩:=hrd listed _ hls hS0 i hi
 obtain⟨z1,z2⟩:=hset listed _ i (by omega) hls hS0
 rcases q1 with rfl|h|rfl
 ·refine step_wp hΓ h6 g6 c6 hs (fun d' h=>by rw[d6]at h;cases h;exact hdn) (v:=v6) (ws:=[]) ?_ (fun a2 w2 I2 g2 k1 k2 k3=>?_)
  ·rw[p6];simp only[opV,e6,vO]
  ·refine A6 _ _ a2 w2 I2 g2 z1 z2 (.inr rfl) (by rintro(h|h);exact h;omega) (by rintro(h|h);exact h;omega) ?_ k2 k3
   rw[d6]at k1;exact k1
 ·exact absurd (q3 h) (fun h=>h)
 ·refine step_wp hΓ h8 g8 c8 hs (fun d' h=>by rw[d8]at h;cases h) (v:=.tuple []) (ws:=[(r8,ob8)]) ?_ (fun a2 w2 I2 g2 k1 k2 k3=>?_)
  ·rw[p8];simp only[opV];rw[hev8 x8 hx8,hev8 v8 hv8];exact e8
  ·refine A8 _ _ a2 w2 I2 g2 z1 z2 (.inr rfl) (by rintro(h|h);exact h;omega) (by rintro(h|h);exact h;omega) ?_ k2 k3
   rw[d8]at k1;exact k1
def bindOn(o:Oper)(k:Nat):Bool:=o.after.toList.any fun e=>Region.binds .any e&&decide (e.on=k)
def bindLt(o:Oper)(n:Nat):Bool:=o.after.toList.all fun e=>!Region.binds .any e||decide (e.on<n)
def guardLt(n:Nat)(o:Oper):Bool:=match o.guard with
 | none=>true
 | some (j,_)=>decide (j<n)
def tmpNe(d:Nat):Operand→Bool
 | .tmp k=>decide (k≠d)
 | _=>true
def tailOk(n:Nat):List Oper→Bool
 | [o6,o7,o8]=>match o6.op,o6.dst,o7.op,o8.op with
  | .indexAddr _ _ _,some d,.store _ _ _,.store _ x8 v8=>o6.guard.isNone&&o7.guard.isNone&&o8.guard.isNone&&o7.dst.isNone&&o8.dst.isNone&&bindLt o6 n&&bindLt o7 (n+1)&&bindLt o8 n&&bindOn o7 n&&tmpNe d x8&&tmpNe d v8&&(List.range n).all fun k=>bindOn o6 k&&bindOn o7 k&&bindOn o8 k
  | _,_,_,_=>false
 | _=>false
def splitOk(hts:List Ht)(ops:Array Oper):Bool:=drawOk (tailH hts) (preO ops)&&(ops.toList.take (ops.toList.length-3)).all (guardLt (ops.toList.length-3))&&tailOk (ops.toList.length-3) (ops.toList.drop (ops.toList.length-3))
theorem bindOn_spec{o:Oper}{k:Nat}(h:bindOn o k=true):∃ e,e∈o.after∧Region.binds .any e=true∧e.on=k:=by
 unfold bindOn at h;obtain⟨e,he,hb⟩:=List.any_eq_true.1 h
 simp only[Bool.and_eq_true,decide_eq_true_eq]at hb;exact⟨e,by simpa using he,hb.1,hb.2⟩
theorem bindLt_spec{o:Oper}{n:Nat}(h:bindLt o n=true):∀ e,e∈o.after→Region.binds .any e=true→e.on<n:=by
 intro e he hb;have:=List.all_eq_true.1 h e (by simpa using he)
 simpa[hb]using this
theorem regN_wp(hΓ:Sound P Γ){ro:Option Nat}{nt:Nat}(hdst:∀ (i:Nat) (o:Oper) (d:Nat),ops[i]?=some o→o.dst=some d→d<nt){hts:List Ht}(hok:drawOk hts ops=true)
  {w:World} {Im:Imm} {g:List Gh} {st:St} {a:Act} (hs:SRel P w Im g st a nt) {R:RS} (hR:regN P Γ ops st hts=R) (hns:R≠.stuck) {Q:Exit→Act→World→Prop}
  (hn:∀ st' a' w' Im' g',R=.run st'→SRel P w' Im' g' st' a' nt→a'.defers=a.defers→Ext w Im g w' Im' g'→Q .normal a' w')
  (hpan:∀ c st' v a' w' Im' g',R=.pan c st'→RepA w' Im' g' v c→SRel P w' Im' g' st' a' nt→a'.defers=a.defers→Ext w Im g w' Im' g'→Q (.panic [{ v,recovered:=false }]) a' w') :
  wpAnyIn (fen ro) 0 P .any ops Q ops.size (Array.replicate ops.size false) a w:=by
 unfold regN at hR;have hev:=evD_dAt P Γ ops hts st ops.toList 0 (by simp)
 simp only[List.drop_zero,Nat.zero_add,Array.length_toList]at hev;have h0:posOf ops 0=0:=by simp[posOf,countC]
 rw[h0,Nat.add_zero]at hev;have hd0:dAt P Γ ops hts st 0=.run (st.ready (countC ops.toList)) []:=rfl
 rw[hd0]at hev;rw[hev]at hR
 have hnd:dAt P Γ ops hts st ops.size≠.stuck:=by
  intro h;rw[h]at hR;exact hns hR.symm
 have hRun:=dAt_Run hnd
 obtain⟨h1,h2,h3⟩:=ready_ok hs (countC ops.toList)
 have hfalse:∀ m,¬(Array.replicate ops.size false).getD m false=true:=by
  intro m;rw[Array.getD_eq_getD_getElem?,Array.getElem?_replicate]
  split<;>simp
 have hdd:∀ i,i∈deadAt P Γ ops hts st ops.size→(∃ o e,ops[i]?=some o∧e∈o.after∧Region.binds .any e=true∧e.on∈deadAt P Γ ops hts st ops.size)∨∃ v ws,(∃ st' hs' dead,dAt P Γ ops hts st ops.size=.pan st' hs' dead v (setOs (sAt P Γ ops hts st i).H ws))∧PanAt P Γ ops hts st (sAt P Γ ops hts st) i v ws:=by
  intro i hi
  cases hd:dAt P Γ ops hts st ops.size with
  | run st' hs'=>unfold deadAt at hi;rw[hd]at hi;simp at hi
  | stuck=>exact absurd hd hnd
  | pan st' hs' dead v H=>
   have hde:deadAt P Γ ops hts st ops.size=dead:=by unfold deadAt;rw[hd]
   rw[hde]at hi ⊢;obtain⟨k,k1,⟨o,ws,o1,o2,o3,o4,o5⟩,k3⟩:=dAt_dead hnd ops.size (Nat.le_refl _) _ _ _ _ _ hd
   by_cases hik:i=k
   ·subst hik;exact .inr ⟨v,ws,⟨st',hs',dead,by rw[o5]⟩,o,o1,o2,o3,o4⟩
   ·exact .inl (k3 i hi hik)
 refine any_wp (K:=fun i v ws=>(∃ st' hs' dead,dAt P Γ ops hts st ops.size=.pan st' hs' dead v (setOs (sAt P Γ ops hts st i).H ws))∧PanAt P Γ ops hts st (sAt P Γ ops hts st) i v ws) hΓ hok hRun hdd (fun i v ws h=>h.2) (fun i v ws h hr=>by
  obtain⟨⟨st',hs',dead,hd⟩,_⟩:=h
  rw[hd]at hR;simp only[endD]at hR;by_cases hn0:0<st.H.length
  ·exact hn0
  ·rw[hr]at hR;simp only[endB,hn0,decide_false,endPan]at hR;exact absurd hR.symm hns) hdst ops.size (List.range ops.size) _ (sAt P Γ ops hts st 0) a _ Im _ (by simp) (by simp) (fun j hj _=>List.mem_range.2 hj) (fun i o h=>absurd h (hfalse i)) ?_ ?_ (fun i o _ ho hc=>h3 _ (posOf_lt ho hc)) (fun m hm=>absurd hm (hfalse m)) ?_ ?_
 rotate_left
 ·rw[hRun.zero];exact h1
 ·intro hnD a' w' Im' g' k1 k2 k3
  cases hd:dAt P Γ ops hts st ops.size with
  | stuck=>exact absurd hd hnd
  | run st' hs'=>
   rw[hd]at hR;simp only[endD]at hR;have hs1:sAt P Γ ops hts st ops.size=st':=by unfold sAt;rw[hd]
   rw[hs1]at k1;exact hn st' a' w' Im' g' hR.symm k1 k2 (h2.trans k3)
  | pan st' hs' dead v H=>
   have hde:deadAt P Γ ops hts st ops.size=dead:=by unfold deadAt;rw[hd]
   obtain⟨k,q1,⟨o,ws,o1,_⟩,_⟩:=dAt_dead hnd ops.size (Nat.le_refl _) _ _ _ _ _ hd
   exact absurd (by rw[hde];exact q1) (hnD k (Array.getElem?_eq_some_iff.1 o1).1)
 ·rintro i v ws ⟨⟨st',hs',dead,hd⟩,_⟩ u a' w' Im' g' k1 k2 k3 k4
  rw[hd]at hR;simp only[endD]at hR
  have hb:endB st.H.length hasReg=true:=by
   cases hb:endB st.H.length hasReg with
   | true=>rfl
   | false=>rw[hb]at hR;exact absurd hR.symm hns
  rw[hb]at hR;exact hpan _ _ u a' w' Im' g' hR.symm k1 k2 k3 (h2.trans k4)
 ·have:=inv_start (ops:=ops) (S:=sAt P Γ ops hts st)
  have he:(fun m=>(Array.replicate ops.size false).getD m false=true)=fun _=>False:=funext fun m=>propext ⟨fun h=>hfalse m h,fun h=>h.elim⟩
  rw[he];exact this

theorem splitR_wp(hΓ:Sound P Γ){ro:Option Nat}{nt:Nat}(hdst:∀ (i:Nat) (o:Oper) (d:Nat),ops[i]?=some o→o.dst=some d→d<nt){hts:List Ht}(hok:splitOk hts ops=true)
  {w:World} {Im:Imm} {g:List Gh} {st:St} {a:Act} (hs:SRel P w Im g st a nt) {R:RS} (hR:tailR P Γ ops (regN P Γ (preO ops) st (tailH hts))=R) (hns:R≠.stuck) {Q:Exit→Act→World→Prop}
  (hn:∀ st' a' w' Im' g',R=.run st'→SRel P w' Im' g' st' a' nt→a'.defers=a.defers→Ext w Im g w' Im' g'→Q .normal a' w')
  (hpan:∀ c st' v a' w' Im' g',R=.pan c st'→RepA w' Im' g' v c→SRel P w' Im' g' st' a' nt→a'.defers=a.defers→Ext w Im g w' Im' g'→Q (.panic [{ v,recovered:=false }]) a' w') :
  wpAnyIn (fen ro) 0 P .any ops Q ops.size (Array.replicate ops.size false) a w:=by
 unfold splitOk at hok;simp only[Bool.and_eq_true]at hok;obtain⟨⟨hk1,hk2⟩,hk3⟩:=hok
 unfold tailOk at hk3;split at hk3
 rotate_left
 ·cases hk3
 rename_i o6 o7 o8 hdrop;split at hk3
 rotate_left
 ·cases hk3
 rename_i t6 x6 i6 d t7 x7 v7 t8 x8 v8 p6 d6 p7 p8;simp only[Bool.and_eq_true,Option.isNone_iff_eq_none]at hk3;obtain⟨⟨⟨⟨⟨⟨⟨⟨⟨⟨⟨g6,g7⟩,g8⟩,d7⟩,d8⟩,b6⟩,b7⟩,b8⟩,hn7⟩,hx8⟩,hv8⟩,hbar⟩:=hk3
 have hlen:ops.toList.length=ops.size:=by simp
 have hsz:ops.size=ops.toList.length-3+3:=by
  have:=congrArg List.length hdrop
  rw[List.length_drop]at this;simp only[List.length_cons,List.length_nil]at this;omega
 generalize hnn:ops.toList.length-3=n at *;have hget:∀ j,ops[n+j]?=(ops.toList.drop n)[j]?:=fun j=>by rw[List.getElem?_drop,Array.getElem?_toList]
 have h6:ops[n]?=some o6:=by have:=hget 0;rw[hdrop]at this;exact this
 have h7:ops[n+1]?=some o7:=by have:=hget 1;rw[hdrop]at this;exact this
 have h8:ops[n+2]?=some o8:=by have:=hget 2;rw[hdrop]at this;exact this
 have hpsz:(preO ops).size=n:=by unfold preO;rw[hnn];simp;omega
 have hpre:∀ i,i<n→(preO ops)[i]?=ops[i]?:=fun i hi=>by
  unfold preO;rw[hnn,List.getElem?_toArray,List.getElem?_take,if_pos hi,Array.getElem?_toList]
 obtain⟨hedge0,_⟩:=drawOk_spec hk1
 have key:wpAnyIn (fen ro) 0 P .any (preO ops) (Qpre (fen ro) 0 P ops n 3 Q) (preO ops).size (Array.replicate (preO ops).size false) a w:=by
  refine regN_wp hΓ (fun i o d' ho hd'=>hdst i o d' (by rw[←hpre i (by rw[←hpsz];exact(Array.getElem?_eq_some_iff.1 ho).1)];exact ho) hd') hk1 hs rfl (fun e=>?_) (fun st' a' w' Im' g' hr h1 h2 h3=>?_) (fun c st' v a' w' Im' g' hr h1 h2 h3 h4=>?_)
  ·rw[e]at hR;exact hns hR.symm
  ·rw[hr]at hR;simp only[tailR,hnn,hdrop,tailE]at hR;intro listed hls hll hlh;have hstep:∀ {o:Oper} {s:St},o.guard=none→stepRS P Γ ops 0 o (.run s)=resK o.dst s (opV P Γ 0 s o.type o.op):=fun {o s} hg=>by simp only[stepRS,guardA,hg,opK]
   rw[hstep g6,p6]at hR;simp only[opV]at hR
   cases e6:indexAddrA P t6 (evArg st' x6) (evArg st' i6)with
   | none=>rw[e6]at hR;simp only[vO,resK,tailK]at hR;exact absurd hR.symm hns
   | some v6=>
    rw[e6,d6]at hR;have hset0:(St.setH st' []).putO (some d) v6=st'.put d v6:=rfl
    simp only[vO,resK,hset0,tailK,p7,p8,neSt]at hR;have hpH:(st'.put d v6).H=st'.H:=by unfold St.put putK;split<;>rfl
    cases hb:neR (refOf (evArg (st'.put d v6) x7)) (refOf (evArg (st'.put d v6) x8))with
    | false=>rw[hb]at hR;simp only[tailB]at hR;exact absurd hR.symm hns
    | true=>
     rw[hb]at hR;simp only[tailB]at hR;rw[hstep g7,p7]at hR;simp only[opV]at hR;rw[hpH]at hR
     cases e7:storeA P t7 st'.H (evArg (st'.put d v6) v7) (evArg (st'.put d v6) x7)with
     | none=>
      rw[e7]at hR;simp only[resK,okRun,stepRS]at hR;exact absurd hR.symm hns
     | some q7=>
      obtain⟨r7,ob7,f7,rfl,hr7,m7⟩:=store_form e7
      rw[e7,d7]at hR;simp only[resK,okRun,St.putO]at hR;rw[hstep g8,p8]at hR;simp only[opV]at hR;have hH7:((st'.put d v6).setH [(r7,ob7)]).H=setO st'.H r7 ob7:=by show setOs (st'.put d v6).H [(r7,ob7)]=_;rw[hpH];rfl
      have hev:∀ x:Operand,evArg ((st'.put d v6).setH [(r7,ob7)]) x=evArg (st'.put d v6) x:=fun x=>by cases x<;>rfl
      rw[hH7,hev,hev]at hR
      cases e8:storeA P t8 (setO st'.H r7 ob7) (evArg (st'.put d v6) v8) (evArg (st'.put d v6) x8)with
      | none=>
       rw[e8]at hR;simp only[resK]at hR;exact absurd hR.symm hns
      | some q8=>
       obtain⟨r8,ob8,f8,rfl,hr8,m8⟩:=store_form e8
       rw[f7,f8]at hb;simp only[neR,decide_eq_true_eq]at hb;have hr8':r8<st'.H.length:=by rw[len_setO]at hr8;omega
       have m8':∀ H':List AObj,H'.getD r8 .no=st'.H.getD r8 .no→storeA P t8 H' (evArg (st'.put d v6) v8) (evArg (st'.put d v6) x8)=some (.val (.tuple []) [(r8,ob8)]):=fun H' hH=>m8 H' (by rw[hH,getD_setO,if_neg (Ne.symm hb)])
       rw[e8,d8]at hR;simp only[resK,St.putO]at hR;refine tail_wp hΓ hsz h6 h7 h8 g6 g7 g8 d6 d7 d8 p6 p7 p8 (bindLt_spec b6) (bindLt_spec b7) (bindLt_spec b8) (bindOn_spec hn7) ?_ ?_ (hdst n o6 d h6 d6) e6 e7 (m8' _ rfl) m7 m8' hb hr7 hr8' hls hll hlh h1 (fun a2 w2 I2 g2 k1 k2 k3=>hn _ a2 w2 I2 g2 hR.symm ?_ (k2.trans h2) (h3.trans k3))
       ·rintro rfl;simp[tmpNe]at hx8
       ·rintro rfl;simp[tmpNe]at hv8
       ·have:((st'.put d v6).setH [(r7,ob7)]).setH [(r8,ob8)]=⟨(st'.put d v6).vs,(st'.put d v6).ts,setO (setO st'.H r7 ob7) r8 ob8⟩:=by
         unfold St.setH;simp only[setOs];rw[hpH]
        rw[this];exact k1
  ·rw[hr]at hR;simp only[tailR]at hR;exact hpan c st' v a' w' Im' g' hR.symm h1 h2 h3 h4
 rw[hpsz]at key;rw[hsz];refine any_prefix hpsz (by omega) hpre (fun i o hi ho=>hedge0 i o (by rw[hpre i hi];exact ho)) (fun i o j b hi ho hg=>?_) (fun i o hi ho k hk=>?_) n (Array.replicate n false) (Array.replicate (n+3) false) a w (by simp) (by simp;omega) (fun k hk=>?_) (fun k hk=>?_) key
 ·have:=List.all_eq_true.1 hk2 o (by
   rw[List.mem_iff_getElem?];exact⟨i,by rw[List.getElem?_take,if_pos hi,Array.getElem?_toList];exact ho⟩)
  unfold guardLt at this;rw[hg]at this;simpa using this
 ·have hb3:=List.all_eq_true.1 hbar k (List.mem_range.2 hk)
  simp only[Bool.and_eq_true]at hb3;have hlt:i<n+3:=by rw[←hsz];exact(Array.getElem?_eq_some_iff.1 ho).1
  have hc:i=n∨i=n+1∨i=n+2:=by omega
  rcases hc with rfl|rfl|rfl
  ·rw[h6]at ho;cases ho;exact bindOn_spec hb3.1.1
  ·rw[h7]at ho;cases ho;exact bindOn_spec hb3.1.2
  ·rw[h8]at ho;cases ho;exact bindOn_spec hb3.2
 ·simp only[Array.getD_eq_getD_getElem?,Array.getElem?_replicate]
  rw[if_pos (by omega),if_pos hk]
 ·simp only[Array.getD_eq_getD_getElem?,Array.getElem?_replicate]
  split<;>simp
def drawQ(hts:List Ht)(ops:Array Oper):Bool→Bool
 | false=>drawOk hts ops
 | true=>splitOk hts ops
def regOk(hd:Nat→Option (List Ht))(id:Nat)(ops:Array Oper)(draw:Bool):Bool:=!draw||match hd id with
 | some hts=>drawQ hts ops (isSplit hts)
 | none=>true

theorem region_wp(hΓ:Sound P Γ){ro:Option Nat}(hm:P.follows .mixedOrders=true){nt id:Nat}(hdst:∀ (i:Nat) (o:Oper) (d:Nat),ops[i]?=some o→o.dst=some d→d<nt){draw:Bool}{hd:Nat→Option (List Ht)}(hok:regOk hd id ops draw=true)
  {w:World} {Im:Imm} {g:List Gh} {st:St} {a:Act} (hs:SRel P w Im g st a nt) {R:RS} (hR:regA P Γ hd id ops st draw=R) (hns:R≠.stuck) {Q:Exit→Act→World→Prop}
  (hn:∀ st' a' w' Im' g',R=.run st'→SRel P w' Im' g' st' a' nt→a'.defers=a.defers→Ext w Im g w' Im' g'→Q .normal a' w')
  (hpan:∀ c st' v a' w' Im' g',R=.pan c st'→RepA w' Im' g' v c→SRel P w' Im' g' st' a' nt→a'.defers=a.defers→Ext w Im g w' Im' g'→Q (.panic [{ v,recovered:=false }]) a' w') :
  (Code.region id ops draw).wpIn (fen ro) 0 P Q a w:=by
 cases draw with
 | false=>
  obtain⟨h1,h2,h3⟩:=ready_ok hs (countC ops.toList)
  simp only[regA]at hR;rw[evOps_range]at hR;exact wpIn_region (ix_wp hΓ hdst _ _ a w Im _ R hR hns List.nodup_range h1 (fun i o _ ho hc=>h3 _ (posOf_lt ho hc)) Q (fun st' a' w' Im' g' k1 k2 k3 k4=>hn st' a' w' Im' g' k1 k2 k3 (h2.trans k4)) (fun c st' v a' w' Im' g' k1 k2 k3 k4 k5=>hpan c st' v a' w' Im' g' k1 k2 k3 k4 (h2.trans k5)))
 | true=>
  simp only[regA]at hR;simp only[regOk,Bool.not_true,Bool.false_or]at hok;have hs':SRel P { w with drawn:=w.drawn+1 } Im g st a nt:=⟨hs.size,hs.fr.ext (Ext.refl w Im g).drew,hs.hr.drawn _⟩
  cases hh:hd id with
  | none=>rw[hh]at hR;simp only[regD]at hR;exact absurd hR.symm hns
  | some hts=>
   rw[hh]at hR hok;simp only[regD]at hR hok;refine wpIn_region_any hm ?_
   cases hsp:isSplit hts with
   | false=>
    rw[hsp]at hR hok;simp only[regQ,drawQ]at hR hok;exact regN_wp hΓ hdst hok hs' hR hns (fun st' a' w' Im' g' h1 h2 h3 h4=>hn st' a' w' Im' g' h1 h2 h3 ((Ext.refl w Im g).drew.trans h4)) (fun c st' v a' w' Im' g' h1 h2 h3 h4 h5=>hpan c st' v a' w' Im' g' h1 h2 h3 h4 ((Ext.refl w Im g).drew.trans h5))
   | true=>
    rw[hsp]at hR hok;simp only[regQ,drawQ]at hR hok;exact splitR_wp hΓ hdst hok hs' hR hns (fun st' a' w' Im' g' h1 h2 h3 h4=>hn st' a' w' Im' g' h1 h2 h3 ((Ext.refl w Im g).drew.trans h4)) (fun c st' v a' w' Im' g' h1 h2 h3 h4 h5=>hpan c st' v a' w' Im' g' h1 h2 h3 h4 ((Ext.refl w Im g).drew.trans h5))
end
end Go.Ab
/- Slices that are taken over. Conditions: none. -/
namespace Go.Ab
open Go
variable {P:Program}

theorem adCell_ge(H:List AObj)(r o s:Nat)(cs:List AV)(v:Option AV):H.length≤(adCell H r o s cs v).length:=by
 unfold adCell;split
 ·unfold adCell1;split
  ·split
   ·simp
   ·split
    ·split
     ·simp
     ·exact Nat.le_refl _
    ·unfold adStk;split
     ·simp
     ·exact Nat.le_refl _
  ·split
   ·simp
   ·exact Nat.le_refl _
  ·split
   ·simp
   ·exact Nat.le_refl _
  ·split
   ·unfold stkFrz;split
    ·simp
    ·exact Nat.le_refl _
   ·exact Nat.le_refl _
  ·exact Nat.le_refl _
 ·exact Nat.le_refl _
theorem adVal_ge(st:St)(k o s:Nat)(v:AV):st.H.length≤(adVal st k o s v).H.length:=by
 unfold adVal;split
 ·simp only
  unfold adObj;split
  ·exact adCell_ge _ _ _ _ _ _
  ·exact Nat.le_refl _
 ·split
  ·split
   ·unfold St.put putK;split<;>simp
   ·exact Nat.le_refl _
  ·unfold adStkV;split
   ·unfold St.put putK;split<;>simp
   ·exact Nat.le_refl _
 ·split
  ·unfold St.put putK;split<;>simp
  ·exact Nat.le_refl _
 ·exact Nat.le_refl _
theorem adS_ge:∀ (l:List (Nat×Nat×Nat)) (st:St),st.H.length≤(adS l st).H.length
 | [],_=>Nat.le_refl _
 | (k,o,s)::l,st=>Nat.le_trans (adVal_ge st k o s _) (adS_ge l _)

theorem full_grow{w:World}{Im:Imm}{g:List Gh}{v:Value}{rows:List (List Dt)}(h:RepA w Im g v (.full rows)){s:Nat}(hf:fits s rows) :
  ∃ x:Gh,(∃ base:Option Nat,x=.gr 0 s base rows.length rows.length∧(base=none→rows.length=0))∧∀ g':List Gh,g'[g.length]?=some x→RepA w Im g' v (.grow g.length 0 rows):=by
 cases h with
 | @full a rows h=>
  refine⟨.gr 0 s a rows.length rows.length,⟨a,rfl,fun ha=>?_⟩,fun g' hg=>.grow h hg hf (Nat.le_refl _) (fun _=>⟨rfl,rfl⟩)⟩
  subst ha;simp only[Option.map_none]at h;generalize hn:rows.length=n at h
  cases h with
  | sl0=>rfl

theorem full_stk{w:World}{Im:Imm}{g:List Gh}{v:Value}(h:RepA w Im g v (.full []))(s:Nat) :
  ∃ x:Gh,(∃ base:Option Nat,x=.gr 0 s base 0 0)∧∀ g':List Gh,g'[g.length]?=some x→RepA w Im g' v (.stk g.length 0 0):=by
 cases h with
 | @full a rows h=>exact⟨.gr 0 s a 0 0,⟨a,rfl⟩,fun g' hg=>.stk hg (Nat.le_refl _) (fun h=>absurd h (Nat.lt_irrefl _)) (Nat.le_refl _) (fun _=>⟨rfl,rfl⟩)⟩

theorem gle_more(g:List Gh)(x:Gh):GLe g (g++[x]):=by
 have hold:∀ (r:Nat) (y:Gh),g[r]?=some y→(g++[x])[r]?=some y:=fun r y hr=>by
  rw[List.getElem?_append_left (List.getElem?_eq_some_iff.1 hr).1];exact hr
 exact⟨fun r b hr=>hold r _ hr,fun r ep esz base len cap hr=>⟨ep,base,len,cap,hold r _ hr,Nat.le_refl _,fun _=>⟨rfl,rfl,rfl⟩⟩,fun r l T hr=>⟨T,hold r _ hr⟩,fun r b row hr=>⟨row,hold r _ hr⟩,fun r bs hr=>⟨[],by rw[List.append_nil];exact hold r _ hr⟩⟩
theorem more_which{α:Type}{l:List α}{x y:α}{r:Nat}(h:(l++[x])[r]?=some y):l[r]?=some y∨(r=l.length∧y=x):=by
 by_cases hl:r<l.length
 ·rw[List.getElem?_append_left hl]at h;exact .inl h
 ·rw[List.getElem?_append_right (by omega)]at h
  cases hk:r-l.length with
  | zero=>rw[hk]at h;simp at h;exact .inr ⟨by omega,h.symm⟩
  | succ k=>rw[hk]at h;simp at h
theorem ext_more(w:World)(Im:Imm)(g:List Gh){x:Gh}(hx:∀ k,¬x.owns k):Ext w Im g w Im (g++[x]):=
 ⟨rfl,rfl,rfl,Nat.le_refl _,fun _ _ h=>h,fun _ _ _=>rfl,fun _ _ _=>rfl,fun _ _ h=>.inl h,fun k hk=>by
  obtain⟨r,y,hr,hy⟩:=hk
  rcases more_which hr with h|⟨_,rfl⟩
  ·exact .inl ⟨r,y,h,hy⟩
  ·exact(hx k hy).elim,gle_more g x⟩
theorem hr_more{w:World}{Im:Imm}{g:List Gh}{H:List AObj}(h:HR P w Im g H){s n:Nat}{base:Option Nat}(hb:base=none→n=0){o:AObj}(ho:o=.grow 0 s∨(o=.stk 0 s []∧n=0)):HR P w Im (g++[.gr 0 s base n n]) (H++[o]):=by
 have hno:∀ k,¬(Gh.gr 0 s base n n).owns k:=fun k hk=>Nat.lt_irrefl _ hk.2
 have e:=ext_more w Im g hno
 have hold:∀ (r:Nat) (y:Gh),g[r]?=some y→(g++[Gh.gr 0 s base n n])[r]?=some y:=fun r y hr=>by
  rw[List.getElem?_append_left (List.getElem?_eq_some_iff.1 hr).1];exact hr
 refine⟨by simp[h.len],fun r cs hr=>?_,fun r ep sz hr=>?_,fun r ep sz cs hr=>?_,fun r es hr=>?_,fun r stop m rest hr=>?_,fun r acc hr=>?_,fun r r' k x x' hne hr hr' hx hx'=>?_,fun k hk=>?_,h.im,h.tab,fun r t cs hr=>?_,?_⟩
 ·rcases more_which hr with hr|⟨_,hr⟩
  ·obtain⟨b,hb,hob⟩:=h.cells r cs hr
   exact⟨b,hold r _ hb,hob.ext e rfl (fun _ h=>h)⟩
  ·rcases ho with ho|⟨ho,_⟩<;>(rw[ho]at hr;cases hr)
 ·rcases more_which hr with hr|⟨hr1,hr⟩
  ·obtain⟨base,len,cap,h1,h2⟩:=h.grow r ep sz hr
   exact⟨base,len,cap,hold r _ h1,h2⟩
  ·rcases ho with ho|⟨ho,_⟩<;>(rw[ho]at hr;cases hr)
   refine⟨base,n,n,?_,Nat.le_refl _,hb,fun b _ hlt=>absurd hlt (Nat.lt_irrefl _)⟩
   rw[hr1,←h.len,List.getElem?_append_right (Nat.le_refl _)]
   simp
 ·rcases more_which hr with hr|⟨hr1,hr⟩
  ·obtain⟨base,cap,k1,k2,k3,k4⟩:=h.stk r ep sz cs hr
   refine⟨base,cap,hold r _ k1,k2,k3,fun b hb hc=>?_⟩
   obtain⟨vs,t,j1,j2,j3,j4,j5,j6⟩:=k4 b hb hc
   exact⟨vs,t,j1,j2,j3,fun i v c hv hc=>(j4 i v c hv hc).ext e,j5,j6⟩
  ·rcases ho with ho|⟨ho,hn0⟩<;>(rw[ho]at hr;cases hr)
   subst hn0;refine⟨base,0,?_,fun _=>rfl,fun _=>rfl,fun b _ hb=>absurd hb (Nat.lt_irrefl _)⟩
   rw[hr1,←h.len,List.getElem?_append_right (Nat.le_refl _)]
   simp
 ·rcases more_which hr with hr|⟨_,hr⟩
  ·obtain⟨b,hb,hob⟩:=h.mapo r es hr
   exact⟨b,hold r _ hb,hob.ext e.hm e.gle rfl (fun _ h=>h)⟩
  ·rcases ho with ho|⟨ho,_⟩<;>(rw[ho]at hr;cases hr)
 ·rcases more_which hr with hr|⟨_,hr⟩
  ·obtain⟨l,T,h1,h2⟩:=h.log r stop m rest hr
   exact⟨l,T,hold r _ h1,h2⟩
  ·rcases ho with ho|⟨ho,_⟩<;>(rw[ho]at hr;cases hr)
 ·rcases more_which hr with hr|⟨_,hr⟩
  ·exact h.gen r acc hr
  ·rcases ho with ho|⟨ho,_⟩<;>(rw[ho]at hr;cases hr)
 ·rcases more_which hr with hr|⟨_,rfl⟩
  ·rcases more_which hr' with hr'|⟨_,rfl⟩
   ·exact h.sep r r' k x x' hne hr hr' hx hx'
   ·exact hno k hx'
  ·exact hno k hx
 ·obtain⟨r,y,hr,hy⟩:=hk
  rcases more_which hr with h'|⟨_,rfl⟩
  ·exact h.lt k ⟨r,y,h',hy⟩
  ·exact(hno k hy).elim
 ·rcases more_which hr with hr|⟨_,hr⟩
  ·obtain⟨b,row,hb,hb2⟩:=h.box r t cs hr
   exact⟨b,row,hold r _ hb,hb2⟩
  ·rcases ho with ho|⟨ho,_⟩<;>(rw[ho]at hr;cases hr)
 ·refine h.rg.go e (fun r bs hr=>?_) (fun r x hr=>?_) (fun x hx=>hold 0 _ hx) (fun bs hb=>?_) (fun _ _ _ _=>⟨rfl,fun _ h=>h⟩)
  ·rcases more_which hr with hr|⟨_,hr⟩
   ·exact hr
   ·rcases ho with ho|⟨ho,_⟩<;>(rw[ho]at hr;cases hr)
  ·rcases more_which hr with hr|⟨_,hr⟩
   ·exact hr
   ·cases hr
  ·rw[List.getElem?_append_left (List.getElem?_eq_some_iff.1 hb).1];exact hb
theorem hr_cell1{w:World}{Im:Imm}{g:List Gh}{H:List AObj}(h:HR P w Im g H){r o:Nat}{cs:List AV}{c:AV}(hr:H[r]?=some (.cells cs))(hc:∀ (b:Nat) (vs:List Value) (t:TypeId) (v:Value),g[r]?=some (.cell b)→w.heap[b]?=some (.cells ⟨vs⟩ t (0,0))→vs[o]?=some v→RepA w Im g v c):HR P w Im g (H.set r (.cells (cs.set o c))):=by
 have hrl:r<H.length:=(List.getElem?_eq_some_iff.1 hr).1
 have hw:∀ (q:Nat) (x:AObj),(H.set r (.cells (cs.set o c)))[q]?=some x→(q=r∧x=.cells (cs.set o c))∨H[q]?=some x:=by
  intro q x hq;by_cases hqr:q=r
  ·subst hqr;rw[List.getElem?_set_self hrl]at hq;cases hq;exact .inl ⟨rfl,rfl⟩
  ·rw[List.getElem?_set_ne (fun e=>hqr e.symm)]at hq;exact .inr hq
 refine⟨by simp[h.len],fun q ds hq=>?_,fun q ep sz hq=>?_,fun q ep sz ds hq=>?_,fun q es hq=>?_,fun q stop m rest hq=>?_,fun q acc hq=>?_,h.sep,h.lt,h.im,h.tab,fun r t cs hr=>?_,?_⟩
 ·rcases hw q _ hq with⟨rfl,hq2⟩|hq
  ·cases hq2;obtain⟨b,hb,vs,t,h1,h2,h3,h4,h5⟩:=h.cells q cs hr
   refine⟨b,hb,vs,t,h1,by simpa using h2,fun i v d hv hd=>?_,h4,h5⟩
   by_cases hi:i=o
   ·subst hi;have hol:i<cs.length:=by have:=(List.getElem?_eq_some_iff.1 hd).1;simpa using this
    rw[List.getElem?_set_self hol]at hd
    cases hd;exact hc b vs t v hb h1 hv
   ·rw[List.getElem?_set_ne (fun e=>hi e.symm)]at hd
    exact h3 i v d hv hd
  ·exact h.cells q ds hq
 ·rcases hw q _ hq with⟨_,hq⟩|hq
  ·cases hq
  ·exact h.grow q ep sz hq
 ·rcases hw q _ hq with⟨_,hq⟩|hq
  ·cases hq
  ·exact h.stk q ep sz ds hq
 ·rcases hw q _ hq with⟨_,hq⟩|hq
  ·cases hq
  ·exact h.mapo q es hq
 ·rcases hw q _ hq with⟨_,hq⟩|hq
  ·cases hq
  ·exact h.log q stop m rest hq
 ·rcases hw q _ hq with⟨_,hq⟩|hq
  ·cases hq
  ·exact h.gen q acc hq
 ·rcases hw r _ hr with⟨_,hq⟩|hq
  ·cases hq
  ·exact h.box r t cs hq
 ·refine h.rg.go (Ext.refl _ _ _) (fun q bs hq=>?_) (fun _ _ h=>h) (fun _ h=>h) (fun bs hb=>?_) (fun _ _ _ _=>⟨rfl,fun _ h=>h⟩)
  ·rcases hw q _ hq with⟨_,hq⟩|hq
   ·cases hq
   ·exact hq
  ·by_cases h0:r=0
   ·subst h0;rw[hr]at hb;cases hb
   ·rw[List.getElem?_set_ne h0];exact hb
theorem srel_slot{w:World}{Im:Imm}{g:List Gh}{st:St}{a:Act}{nt k:Nat}{c:AV}(h:SRel P w Im g st a nt)(hc:RepA w Im g (a.tmps.getD k undef) c):SRel P w Im g (st.put k c) a nt:=by
 refine⟨h.size,fun j=>?_,?_⟩
 ·rw[get_put];split
  ·rename_i hj;subst hj;exact hc
  ·exact h.fr j
 ·unfold St.put putK;split<;>exact h.hr
theorem srel_heap{w:World}{Im:Imm}{g g':List Gh}{st:St}{H:List AObj}{a:Act}{nt:Nat}(h:SRel P w Im g st a nt)(e:Ext w Im g w Im g')(hH:HR P w Im g' H):SRel P w Im g' ⟨st.vs,st.ts,H⟩ a nt:=
 ⟨h.size,fun k=>(h.fr k).ext e,hH⟩
theorem stk_frz{w:World}{Im:Imm}{g:List Gh}{H:List AObj}(h:HR P w Im g H){r' e s n:Nat}{cs:List AV}{xs:List Dt}(hr':H[r']?=some (.stk e s cs))(hle:n*s≤cs.length)(hx:dataAs (cs.take (n*s))=some xs) :
  ∃ Im',HR P w Im' g (H.set r' .no)∧Ext w Im g w Im' g∧∀ v,RepA w Im g v (.stk r' e n)→RepA w Im' g v (.d (.sl (chunk s n xs))):=by
 obtain⟨base,cap,g1,hbn,hc0,hat⟩:=h.stk r' e s cs hr'
 have hrl:r'<H.length:=(List.getElem?_eq_some_iff.1 hr').1
 have e1:Ext w Im g w (fun b o=>Im b o∨(base=some b∧0<cap)) g:=by
  refine⟨rfl,rfl,rfl,Nat.le_refl _,fun _ _ h=>.inl h,fun _ _ _=>rfl,fun _ _ _=>rfl,fun b o hb=>?_,fun _ h=>.inl h,GLe.refl g⟩
  rcases hb with hb|hb
  ·exact .inl hb
  ·exact .inr (.inr ⟨r',_,g1,hb.1,hb.2⟩)
 refine⟨_,h.go e1 (by simp[h.len]) (fun r=>r=r') (fun r hr=>⟨rfl,List.getElem?_set_ne (fun e=>hr e.symm)⟩) (fun r x k hr hg hk=>⟨rfl,fun o ho=>?_⟩) ?_ ?_ ?_ ?_ ?_ ?_ ?_ ?_,e1,fun v hv=>?_⟩
 ·rcases ho with ho|⟨hb,hc⟩
  ·exact ho
  ·exact absurd ⟨hb,hc⟩ (h.sep r r' k x _ hr hg g1 hk)
 ·intro r cs' hr hc;subst hr;rw[List.getElem?_set_self hrl]at hc;cases hc
 ·intro r ep sz hr hc;subst hr;rw[List.getElem?_set_self hrl]at hc;cases hc
 ·intro r es hr hc;subst hr;rw[List.getElem?_set_self hrl]at hc;cases hc
 ·intro r stop n rest hr hc;subst hr;rw[List.getElem?_set_self hrl]at hc;cases hc
 ·intro r acc hr hc;subst hr;rw[List.getElem?_set_self hrl]at hc;cases hc
 ·intro r q k x x' _ hne hr hq hx';exact h.sep r q k x x' hne hr hq hx'
 ·intro r k x _ hr hx';exact h.lt k ⟨r,x,hr,hx'⟩
 ·intro b o hb;rcases hb with hb|⟨hb,hc⟩
  ·exact h.im b o hb
  ·exact h.lt b ⟨r',_,g1,hb,hc⟩
 ·cases hv with
  | stk hg hle' hn hcn he=>
   rename_i ep sz base' len cap' b0 c0;rw[g1]at hg
   cases hg;obtain⟨rfl,rfl⟩:=he rfl
   by_cases hn0:n=0
   ·subst hn0;exact .d (.sl0 _ _)
   ·have hne:=hn (by omega)
    cases b0 with
    | none=>exact absurd rfl hne
    | some b=>
     have hcp:0<c0:=by omega
     obtain⟨vs,t,j1,j2,j3,j4,j5,j6⟩:=hat b rfl hcp
     obtain⟨k1,k2⟩:=dataAs_ok (w:=w) (Im:=Im) (g:=g) (vs:=vs.take (n*s)) (cs:=cs.take (n*s)) (by simp;omega) (fun i v c hv' hc'=>by
      rw[List.getElem?_take]at hv' hc'
      split at hv'
      ·rw[if_pos (by assumption)]at hc';exact j4 _ v c hv' hc'
      ·cases hv') hx
     refine .d (repD_at (o:=0) (vs:=vs.take (n*s)) (by rw[k1];simp;omega) hcn k1.symm (fun i v x hv' hx'=>(k2 i v x hv' hx').ext e1.hm) (fun k _=>.inr ⟨rfl,hcp⟩) (fun k v hk=>?_))
     rw[List.getElem?_take]at hk
     split at hk
     ·rw[cell_of_row _ _ _ ⟨vs⟩ t (0,0) j1];simpa using hk
     ·cases hk
theorem srel_heap2{w:World}{Im Im':Imm}{g g':List Gh}{st:St}{H:List AObj}{a:Act}{nt:Nat}(h:SRel P w Im g st a nt)(e:Ext w Im g w Im' g')(hH:HR P w Im' g' H):SRel P w Im' g' ⟨st.vs,st.ts,H⟩ a nt:=
 ⟨h.size,fun k=>(h.fr k).ext e,hH⟩
theorem adVal_ok{w:World}{Im:Imm}{g:List Gh}{st:St}{a:Act}{nt:Nat}(k o s:Nat)(h:SRel P w Im g st a nt):∃ Im' g',SRel P w Im' g' (adVal st k o s (st.get k)) a nt∧Ext w Im g w Im' g':=by
 have same:∃ Im' g',SRel P w Im' g' st a nt∧Ext w Im g w Im' g':=⟨Im,g,h,Ext.refl _ _ _⟩
 have hk:=h.fr k
 unfold adVal;split
 ·rename_i r off hv;have same':∃ Im' g',SRel P w Im' g' ⟨st.vs,st.ts,st.H⟩ a nt∧Ext w Im g w Im' g':=same
  unfold adObj;split
  ·rename_i cs hcs;unfold adCell;split;rename_i v hrows
   have frz:∀ rows:List (List Dt),st.H[r]?=some (.cells cs)→rowsA v=some rows→∃ Im' g',SRel P w Im' g' ⟨st.vs,st.ts,st.H.set r (.cells (cs.set (off+o) (.d (.sl rows))))⟩ a nt∧Ext w Im g w Im' g':=fun rows hr hrw=>by
    obtain⟨b,hb,vs,t,h1,h2,h3,h4,h5⟩:=h.hr.cells r cs hr
    have hol:off+o<cs.length:=(List.getElem?_eq_some_iff.1 hrows).1
    have h0:=h3 (off+o) (vs[off+o]'(by omega)) _ (List.getElem?_eq_getElem _) hrows
    have hR:=hr_cell1 h.hr hr (o:=off+o) (c:=.d (.sl rows)) (fun b' vs' t' v' hb' h1' hv'=>by
     rw[hb]at hb'
     cases hb';rw[h1]at h1'
     cases h1';rw[List.getElem?_eq_getElem (by omega)]at hv'
     cases hv';exact .d (rowsA_ok h0 hrw))
    exact⟨_,_,srel_heap h (Ext.refl _ _ _) hR,Ext.refl _ _ _⟩
   unfold adCell1;split
   ·rename_i rows
    have hr:st.H[r]?=some (.cells cs):=by
     rw[List.getD_eq_getElem?_getD]at hcs
     cases hh:st.H[r]? with
     | none=>rw[hh]at hcs;cases hcs
     | some x=>rw[hh]at hcs;exact congrArg some hcs
    have hrl:r<st.H.length:=(List.getElem?_eq_some_iff.1 hr).1
    split
    ·exact frz rows hr rfl
    split;rotate_left
    ·cases rows with
     | cons _ _=>exact same'
     | nil=>
      simp only[adStk];obtain⟨b,hb,vs,t,h1,h2,h3,h4,h5⟩:=h.hr.cells r cs hr
      have hol:off+o<cs.length:=(List.getElem?_eq_some_iff.1 hrows).1
      obtain⟨x,⟨base,rfl⟩,hx⟩:=full_stk (h3 (off+o) (vs[off+o]'(by omega)) _ (List.getElem?_eq_getElem _) hrows) (s-1000)
      have e:=ext_more w Im g (x:=.gr 0 (s-1000) base 0 0) (fun k hk=>Nat.lt_irrefl _ hk.2)
      have hH:=hr_more (s:=s-1000) (base:=base) h.hr (fun _=>rfl) (.inr ⟨rfl,rfl⟩)
      have hr':(st.H++[AObj.stk 0 (s-1000) []])[r]?=some (.cells cs):=by
       rw[List.getElem?_append_left (List.getElem?_eq_some_iff.1 hr).1];exact hr
      have hR:=hr_cell1 hH hr' (o:=off+o) (c:=.stk st.H.length 0 0) (fun b' vs' t' v' hb' h1' hv'=>by
       rw[List.getElem?_append_left (by rw[h.hr.len];exact hrl),hb]at hb'
       cases hb';rw[h1]at h1'
       cases h1';rw[List.getElem?_eq_getElem (by omega)]at hv'
       cases hv';rw[←h.hr.len]
       exact hx _ (by rw[List.getElem?_append_right (Nat.le_refl _)];simp))
      rw[List.set_append_left _ _ hrl]at hR;exact⟨_,_,srel_heap h e hR,e⟩
    split
    ·rename_i hf
     have hr:st.H[r]?=some (.cells cs):=by
      rw[List.getD_eq_getElem?_getD]at hcs
      cases hh:st.H[r]? with
      | none=>rw[hh]at hcs;cases hcs
      | some x=>rw[hh]at hcs;exact congrArg some hcs
     obtain⟨b,hb,vs,t,h1,h2,h3,h4,h5⟩:=h.hr.cells r cs hr
     have hol:off+o<cs.length:=(List.getElem?_eq_some_iff.1 hrows).1
     obtain⟨x,⟨base,rfl,hbase⟩,hx⟩:=full_grow (h3 (off+o) (vs[off+o]'(by omega)) _ (List.getElem?_eq_getElem _) hrows) hf
     have e:=ext_more w Im g (x:=.gr 0 s base rows.length rows.length) (fun k hk=>Nat.lt_irrefl _ hk.2)
     have hH:=hr_more (s:=s) h.hr hbase (.inl rfl)
     have hr':(st.H++[AObj.grow 0 s])[r]?=some (.cells cs):=by
      rw[List.getElem?_append_left (List.getElem?_eq_some_iff.1 hr).1];exact hr
     have hrl:r<st.H.length:=(List.getElem?_eq_some_iff.1 hr).1
     have hR:=hr_cell1 hH hr' (o:=off+o) (c:=.grow st.H.length 0 rows) (fun b' vs' t' v' hb' h1' hv'=>by
      rw[List.getElem?_append_left (by rw[h.hr.len];exact hrl),hb]at hb'
      cases hb';rw[h1]at h1'
      cases h1';rw[List.getElem?_eq_getElem (by omega)]at hv'
      cases hv';rw[←h.hr.len]
      exact hx _ (by rw[List.getElem?_append_right (Nat.le_refl _)];simp))
     rw[List.set_append_left _ _ hrl]at hR;exact⟨_,_,srel_heap h e hR,e⟩
    ·exact same'
   ·rename_i r' e' rows;split
    ·have hr:st.H[r]?=some (.cells cs):=by
      rw[List.getD_eq_getElem?_getD]at hcs
      cases hh:st.H[r]? with
      | none=>rw[hh]at hcs;cases hcs
      | some x=>rw[hh]at hcs;exact congrArg some hcs
     exact frz rows hr rfl
    ·exact same'
   ·rename_i r' off' len esz;split
    ·have hr:st.H[r]?=some (.cells cs):=by
      rw[List.getD_eq_getElem?_getD]at hcs
      cases hh:st.H[r]? with
      | none=>rw[hh]at hcs;cases hcs
      | some x=>rw[hh]at hcs;exact congrArg some hcs
     obtain⟨b,hb,vs,t,h1,h2,h3,h4,h5⟩:=h.hr.cells r cs hr
     have hol:off+o<cs.length:=(List.getElem?_eq_some_iff.1 hrows).1
     have h0:=h3 (off+o) (vs[off+o]'(by omega)) _ (List.getElem?_eq_getElem _) hrows
     have hR:=hr_cell1 h.hr hr (o:=off+o) (c:=.own r' off' len esz) (fun b' vs' t' v' hb' h1' hv'=>by
      rw[hb]at hb'
      cases hb';rw[h1]at h1'
      cases h1';rw[List.getElem?_eq_getElem (by omega)]at hv'
      cases hv';exact toO_ok h0)
     exact⟨_,_,srel_heap h (Ext.refl _ _ _) hR,Ext.refl _ _ _⟩
    ·exact same'
   ·rename_i r' e' n;split
    ·unfold stkFrz;split
     ·rename_i rows hD
      have hr:st.H[r]?=some (.cells cs):=by
       rw[List.getD_eq_getElem?_getD]at hcs
       cases hh:st.H[r]? with
       | none=>rw[hh]at hcs;cases hcs
       | some x=>rw[hh]at hcs;exact congrArg some hcs
      unfold stkD at hD;split at hD
      ·rename_i e2 s2 cs2 hst;split at hD
       ·rename_i hle;obtain⟨rfl,hle⟩:=hle
        have hr':st.H[r']?=some (.stk e2 s2 cs2):=by
         rw[List.getD_eq_getElem?_getD]at hst
         cases hh:st.H[r']? with
         | none=>rw[hh]at hst;cases hst
         | some x=>rw[hh]at hst;exact congrArg some hst
        have hne:r'≠r:=by rintro rfl;rw[hr]at hr';cases hr'
        simp only[chunkO]at hD
        cases hx:dataAs (cs2.take (n*s2))with
        | none=>rw[hx]at hD;cases hD
        | some xs=>
         rw[hx]at hD
         cases hD;obtain⟨Im',f1,f2,f3⟩:=stk_frz h.hr hr' hle hx
         obtain⟨b,hb,vs,t,h1,h2,h3,h4,h5⟩:=h.hr.cells r cs hr
         have hol:off+o<cs.length:=(List.getElem?_eq_some_iff.1 hrows).1
         have h0:=h3 (off+o) (vs[off+o]'(by omega)) _ (List.getElem?_eq_getElem _) hrows
         have hr2:(st.H.set r' .no)[r]?=some (.cells cs):=by rw[List.getElem?_set_ne hne];exact hr
         have hR:=hr_cell1 f1 hr2 (o:=off+o) (c:=.d (.sl (chunk s2 n xs))) (fun b' vs' t' v' hb' h1' hv'=>by
          rw[hb]at hb'
          cases hb';rw[h1]at h1'
          cases h1';rw[List.getElem?_eq_getElem (by omega)]at hv'
          cases hv';exact f3 _ h0)
         exact⟨_,_,srel_heap2 h f2 hR,f2⟩
       ·cases hD
      ·cases hD
     ·exact same'
    ·exact same'
   ·exact same'
   ·exact same'
  ·exact same'
 ·rename_i rows hv;split;rotate_left
  ·cases rows with
   | cons _ _=>exact same
   | nil=>
    simp only[adStkV];rw[hv]at hk;obtain⟨x,⟨base,rfl⟩,hx⟩:=full_stk hk (s-1000)
    have e:=ext_more w Im g (x:=.gr 0 (s-1000) base 0 0) (fun k hk=>Nat.lt_irrefl _ hk.2)
    have h':=srel_heap h e (hr_more (s:=s-1000) (base:=base) h.hr (fun _=>rfl) (.inr ⟨rfl,rfl⟩))
    refine⟨_,_,srel_slot h' ?_,e⟩
    rw[←h.hr.len];exact hx _ (by rw[List.getElem?_append_right (Nat.le_refl _)];simp)
  split
  ·rename_i hf;rw[hv]at hk;obtain⟨x,⟨base,rfl,hbase⟩,hx⟩:=full_grow hk hf
   have e:=ext_more w Im g (x:=.gr 0 s base rows.length rows.length) (fun k hk=>Nat.lt_irrefl _ hk.2)
   have h':=srel_heap h e (hr_more (s:=s) h.hr hbase (.inl rfl))
   refine⟨_,_,srel_slot h' ?_,e⟩
   rw[←h.hr.len];exact hx _ (by rw[List.getElem?_append_right (Nat.le_refl _)];simp)
  ·exact same
 ·rename_i r e rows hv;split
  ·rw[hv]at hk;exact⟨Im,g,srel_slot h (.d (rowsA_ok hk rfl)),Ext.refl _ _ _⟩
  ·exact same
 ·exact same
theorem adS_ok{w:World}{a:Act}{nt:Nat}:∀ (l:List (Nat×Nat×Nat)) (st:St) (Im:Imm) (g:List Gh),SRel P w Im g st a nt→∃ Im' g',SRel P w Im' g' (adS l st) a nt∧Ext w Im g w Im' g'
 | [],st,Im,g,h=>⟨Im,g,h,Ext.refl _ _ _⟩
 | (k,o,s)::l,st,Im,g,h=>by
  obtain⟨I1,g1,h1,e1⟩:=adVal_ok k o s h
  obtain⟨I2,g2,h2,e2⟩:=adS_ok l _ I1 g1 h1
  exact⟨I2,g2,h2,e1.trans e2⟩
end Go.Ab
