/- New cells of a call's answer become blocks of the region. Conditions: none. -/
import Derived.Test.YticliodhjfednaaGreatAbX4
set_option linter.unusedSimpArgs false
set_option linter.unusedVariables false
namespace Go.Ab
open Go
mutual
def mvA(n m:Nat):AV→AV
 | .agg cs=>.agg (mvL n m cs)
 | .tuple cs=>.tuple (mvL n m cs)
 | .fn f a b=>.fn f (mvL n m a) (mvL n m b)
 | .iface t v=>.iface t (mvA n m v)
 | .avl k s cs=>.avl k s (mvL n m cs)
 | .ptr r off=>if n≤r then .rp (m+(r-n)) off else .ptr r off
 | .arr r off len esz=>if n≤r then .rs (m+(r-n)) off len esz else .arr r off len esz
 | .own r off len esz=>if n≤r then .rs (m+(r-n)) off len esz else .own r off len esz
 | .any=>.any
 | .d x=>.d x
 | .full rows=>.full rows
 | .grow r e rows=>.grow r e rows
 | .dp cs=>.dp cs
 | .stk r e k=>.stk r e k
 | .sp r e off=>.sp r e off
 | .sv r e off k=>.sv r e off k
 | .mp r=>.mp r
 | .nilm=>.nilm
 | .yld r=>.yld r
 | .nils=>.nils
 | .bp r=>.bp r
 | .rp k off=>.rp k off
 | .rs k off len esz=>.rs k off len esz
def mvL(n m:Nat):List AV→List AV
 | []=>[]
 | c::cs=>mvA n m c::mvL n m cs
end
theorem mvL_map(n m:Nat):∀ cs:List AV,mvL n m cs=cs.map (mvA n m)
 | []=>rfl
 | c::cs=>by rw[mvL,mvL_map n m cs,List.map_cons]
theorem refsAL_in{r:Nat}:∀ {cs:List AV} {c:AV},c∈cs→r∈refs c→r∈refsAL cs
 | c::cs,_,.head _,hr=>by rw[refsAL];exact List.mem_append_left _ hr
 | c::cs,d,.tail _ hc,hr=>by rw[refsAL];exact List.mem_append_right _ (refsAL_in hc hr)
def mvO(n m:Nat):AObj→AObj
 | .cells cs=>.cells (mvL n m cs)
 | .stk e s cs=>.stk e s (mvL n m cs)
 | .no=>.no
 | .grow e s=>.grow e s
 | .bld t s=>.bld t s
 | .mapo es=>.mapo es
 | .log a b c=>.log a b c
 | .gen a=>.gen a
 | .reg bs=>.reg bs
def mvC(n m:Nat):AObj→List AV
 | .cells cs=>mvL n m cs
 | _=>[]
def mvOut(n m:Nat):Out→Out
 | .ret c=>.ret (mvA n m c)
 | .pan c=>.pan (mvA n m c)
def outC:Out→AV
 | .ret c=>c
 | .pan c=>c
def newO(n m:Nat):AObj→Prop
 | .cells cs=>∀ c,c∈cs→refs (mvA n m c)=[]
 | _=>False
def oldO(n m:Nat):AObj→Prop
 | .cells cs=>∀ c,c∈cs→∀ r,r∈refs (mvA n m c)→r<n
 | .stk _ _ cs=>∀ c,c∈cs→∀ r,r∈refs (mvA n m c)→r<n
 | .no=>True
 | .grow _ _=>True
 | .bld _ _=>True
 | _=>False
structure AbOk(n m:Nat)(out:Out)(rest:List AObj):Prop where
 pos:0<n
 len:n-1≤rest.length
 news:∀ o,o∈rest.drop (n-1)→newO n m o
 olds:∀ o,o∈rest.take (n-1)→oldO n m o
 out:∀ r,r∈refs (mvA n m (outC out))→r<n
open Classical in
noncomputable def absorbK(n:Nat)(out:Out)(bs:List (List AV))(rest:List AObj):Option (Out×List AObj):=
 if AbOk n bs.length out rest then some (mvOut n bs.length out,.reg (bs++(rest.drop (n-1)).map (mvC n bs.length))::(rest.take (n-1)).map (mvO n bs.length))else none
noncomputable def absorbX(n:Nat):Option (Out×List AObj)→Option (Out×List AObj)
 | some (out,.reg bs::rest)=>absorbK n out bs rest
 | _=>none
def ghB:Gh→Nat
 | .cell b=>b
 | _=>0
mutual
theorem mv_none(n m:Nat):∀ {c:AV},refs c=[]→mvA n m c=c
 | .agg cs,h=>by rw[refs]at h;rw[mvA,mvL_none n m h]
 | .tuple cs,h=>by rw[refs]at h;rw[mvA,mvL_none n m h]
 | .fn f a b,h=>by rw[refs,List.append_eq_nil_iff]at h;rw[mvA,mvL_none n m h.1,mvL_none n m h.2]
 | .iface t v,h=>by rw[refs]at h;rw[mvA,mv_none n m h]
 | .avl k s cs,h=>by rw[refs]at h;rw[mvA,mvL_none n m h]
 | .ptr r off,h=>by simp[refs]at h
 | .arr r off len esz,h=>by simp[refs]at h
 | .own r off len esz,h=>by simp[refs]at h
 | .any,h=>rfl
 | .d x,h=>rfl
 | .full rows,h=>rfl
 | .grow r e rows,h=>by simp[refs]at h
 | .dp cs,h=>rfl
 | .stk r e k,h=>by simp[refs]at h
 | .sp r e off,h=>by simp[refs]at h
 | .sv r e off k,h=>by simp[refs]at h
 | .mp r,h=>by simp[refs]at h
 | .nilm,h=>rfl
 | .yld r,h=>by simp[refs]at h
 | .nils,h=>rfl
 | .bp r,h=>by simp[refs]at h
 | .rp k off,h=>rfl
 | .rs k off len esz,h=>rfl
theorem mvL_none(n m:Nat):∀ {cs:List AV},refsAL cs=[]→mvL n m cs=cs
 | [],_=>rfl
 | c::cs,h=>by rw[refsAL,List.append_eq_nil_iff]at h;rw[mvL,mv_none n m h.1,mvL_none n m h.2]
end
section
variable {P:Program}{w:World}{Im:Imm}
theorem rep_mv{g g':List Gh}{n m:Nat}{blks nb:List Nat}(h0:g[0]?=some (.reg blks))(h0':g'[0]?=some (.reg (blks++nb)))(hlt:∀ r,0<r→r<n→g'[r]?=g[r]?)(hnew:∀ r b,n≤r→g[r]?=some (.cell b)→nb[r-n]?=some b)(hm:blks.length=m)(hn:0<n)
  {v:Value} {c:AV} (h:RepA w Im g v c) (hr:∀ r,r∈refs (mvA n m c)→r<n):RepA w Im g' v (mvA n m c):=by
 have keep:∀ {r:Nat} {x:Gh},g[r]?=some x→(∀ y,x≠.reg y)→r<n→g'[r]?=some x:=by
  intro r x hx hne hrn;rcases Nat.eq_zero_or_pos r with rfl|hp
  ·rw[h0]at hx
   cases hx;exact absurd rfl (hne _)
  ·rw[hlt r hp hrn];exact hx
 have mvk:∀ {r b:Nat},n≤r→g[r]?=some (.cell b)→(blks++nb)[m+(r-n)]?=some b:=by
  intro r b hnr hx;rw[List.getElem?_append_right (by omega),show m+(r-n)-blks.length=r-n by omega]
  exact hnew r b hnr hx
 induction h with
 | any v=>exact .any v
 | d h=>exact .d h
 | full h=>exact .full h
 | grow h hg hsz hle he=>exact .grow h (keep hg (fun y=>by simp) (hr _ (by simp[mvA,refs]))) hsz hle he
 | agg vs cs hl h1 h ih=>
  rw[mvA,mvL_map];refine .agg vs _ (by rw[List.length_map];exact hl) h1 fun i v c hv hc=>?_
  rw[List.getElem?_map]at hc
  cases hci:cs[i]? with
  | none=>rw[hci]at hc;cases hc
  | some c0=>
   rw[hci]at hc
   cases hc;refine ih i v c0 hv hci fun r hrr=>hr r ?_
   rw[mvA,refs,mvL_map];exact refsAL_in (List.mem_map.2 ⟨c0,List.mem_of_getElem? hci,rfl⟩) hrr
 | tuple vs cs hl h ih=>
  rw[mvA,mvL_map];refine .tuple vs _ (by rw[List.length_map];exact hl) fun i v c hv hc=>?_
  rw[List.getElem?_map]at hc
  cases hci:cs[i]? with
  | none=>rw[hci]at hc;cases hc
  | some c0=>
   rw[hci]at hc
   cases hc;refine ih i v c0 hv hci fun r hrr=>hr r ?_
   rw[mvA,refs,mvL_map];exact refsAL_in (List.mem_map.2 ⟨c0,List.mem_of_getElem? hci,rfl⟩) hrr
 | @ptr r off b hg=>
  simp only[mvA]at hr ⊢;by_cases hnr:n≤r
  ·rw[if_pos hnr];exact .rp h0' (mvk hnr hg)
  ·rw[if_neg hnr]at hr ⊢;exact .ptr (keep hg (fun y=>by simp) (by omega))
 | dp h=>exact .dp h
 | @arr r off off' len esz b cap hg ho hc=>
  simp only[mvA]at hr ⊢;by_cases hnr:n≤r
  ·rw[if_pos hnr];exact .rs h0' (mvk hnr hg) ho hc
  ·rw[if_neg hnr]at hr ⊢;exact .arr (keep hg (fun y=>by simp) (by omega)) ho hc
 | @own r off off' len esz b cap hg ho hc=>
  simp only[mvA]at hr ⊢;by_cases hnr:n≤r
  ·rw[if_pos hnr];exact .rs h0' (mvk hnr hg) ho hc
  ·rw[if_neg hnr]at hr ⊢;exact .own (keep hg (fun y=>by simp) (by omega)) ho hc
 | stk hg hle hn hc he=>exact .stk (keep hg (fun y=>by simp) (hr _ (by simp[mvA,refs]))) hle hn hc he
 | sp hg hle he=>exact .sp (keep hg (fun y=>by simp) (hr _ (by simp[mvA,refs]))) hle he
 | sv hg hle hn ho hc he=>exact .sv (keep hg (fun y=>by simp) (hr _ (by simp[mvA,refs]))) hle hn ho hc he
 | fn f vf cf vc cc hl hl' h h' ih ih'=>
  rw[mvA,mvL_map,mvL_map];refine .fn f vf _ vc _ (by rw[List.length_map];exact hl) (by rw[List.length_map];exact hl') (fun i v c hv hc=>?_) (fun i v c hv hc=>?_)
  ·rw[List.getElem?_map]at hc
   cases hci:cf[i]? with
   | none=>rw[hci]at hc;cases hc
   | some c0=>
    rw[hci]at hc
    cases hc;refine ih i v c0 hv hci fun r hrr=>hr r ?_
    rw[mvA,refs,mvL_map,mvL_map];exact List.mem_append_left _ (refsAL_in (List.mem_map.2 ⟨c0,List.mem_of_getElem? hci,rfl⟩) hrr)
  ·rw[List.getElem?_map]at hc
   cases hci:cc[i]? with
   | none=>rw[hci]at hc;cases hc
   | some c0=>
    rw[hci]at hc
    cases hc;refine ih' i v c0 hv hci fun r hrr=>hr r ?_
    rw[mvA,refs,mvL_map,mvL_map];exact List.mem_append_right _ (refsAL_in (List.mem_map.2 ⟨c0,List.mem_of_getElem? hci,rfl⟩) hrr)
 | iface h ih=>rw[mvA];exact .iface (ih fun r hrr=>hr r (by rw[mvA,refs];exact hrr))
 | mp hg=>exact .mp (keep hg (fun y=>by simp) (hr _ (by simp[mvA,refs])))
 | nilm=>exact .nilm
 | nils=>exact .nils
 | bp hg=>exact .bp (keep hg (fun y=>by simp) (hr _ (by simp[mvA,refs])))
 | rp hg hk=>
  rw[h0]at hg
  cases hg;exact .rp h0' (by rw[List.getElem?_append_left (List.getElem?_eq_some_iff.1 hk).1];exact hk)
 | rs hg hk ho hc=>
  rw[h0]at hg
  cases hg;exact .rs h0' (by rw[List.getElem?_append_left (List.getElem?_eq_some_iff.1 hk).1];exact hk) ho hc
 | avl cs us hl hc him h ih=>
  rw[mvA,mvL_map];refine .avl _ us (by rw[List.length_map];exact hl) hc (fun k hk=>him k (by rw[List.length_map]at hk;exact hk)) fun k c hc=>?_
  rw[List.getElem?_map]at hc
  cases hci:cs[k]? with
  | none=>rw[hci]at hc;cases hc
  | some c0=>
   rw[hci]at hc
   cases hc;refine ih k c0 hci fun r hrr=>hr r ?_
   rw[mvA,refs,mvL_map];exact refsAL_in (List.mem_map.2 ⟨c0,List.mem_of_getElem? hci,rfl⟩) hrr
 | yld hg=>exact .yld (keep hg (fun y=>by simp) (hr _ (by simp[mvA,refs])))
theorem nth_map{α β:Type}{f:α→β}{l:List α}{k:Nat}{y:β}(h:(l.map f)[k]?=some y):∃ x,l[k]?=some x∧y=f x:=by
 rw[List.getElem?_map]at h
 cases hx:l[k]? with
 | none=>rw[hx]at h;cases h
 | some x=>rw[hx]at h;cases h;exact⟨x,rfl,rfl⟩
theorem nth_take{α:Type}{l:List α}{n k:Nat}{y:α}(h:(l.take n)[k]?=some y):k<n∧l[k]?=some y:=by
 rw[List.getElem?_take]at h
 split at h
 ·exact⟨by assumption,h⟩
 ·cases h
theorem absorb_hr{g':List Gh}{bs:List (List AV)}{rest:List AObj}{n:Nat}{out:Out}(h:HR P w Im g' (.reg bs::rest))(ab:AbOk n bs.length out rest) :
  ∃ (blks nb:List Nat) (g2:List Gh),g'[0]?=some (.reg blks)∧g2[0]?=some (.reg (blks++nb))∧(∀ r,0<r→r<n→g2[r]?=g'[r]?)∧(∀ r b,n≤r→g'[r]?=some (.cell b)→nb[r-n]?=some b)∧blks.length=bs.length∧(∀ k,Owns g2 k→Owns g' k) ∧
   HR P w Im g2 (.reg (bs++(rest.drop (n-1)).map (mvC n bs.length))::(rest.take (n-1)).map (mvO n bs.length)):=by
 obtain⟨blks,hg0,hbl,hnd,hobj⟩:=h.rg.at_ bs rfl
 cases g' with
 | nil=>simp at hg0
 | cons x gr=>
  simp only[List.getElem?_cons_zero,Option.some.injEq]at hg0
  subst hg0;have hlen:gr.length=rest.length:=by have:=h.len;simpa using this
  have hpos:=ab.pos
  have hle:=ab.len
  let nb:List Nat:=(gr.drop (n-1)).map ghB
  have hnbl:nb.length=rest.length-(n-1):=by simp[nb,hlen]
  have hnew:∀ j,j<nb.length→∃ b cs,rest[n-1+j]?=some (.cells cs)∧(∀ c,c∈cs→refs (mvA n bs.length c)=[])∧gr[n-1+j]?=some (.cell b)∧nb[j]?=some b∧ObjAt w Im (.reg blks::gr) b cs:=by
   intro j hj;have hj2:n-1+j<rest.length:=by omega
   have hro:rest[n-1+j]?=some rest[n-1+j]:=List.getElem?_eq_getElem hj2
   have hin:rest[n-1+j]∈rest.drop (n-1):=by
    refine List.mem_of_getElem? (i:=j) ?_
    rw[List.getElem?_drop]
    exact hro
   have hno:=ab.news _ hin
   generalize rest[n-1+j]=o at hro hno
   cases o with
   | cells cs=>
    obtain⟨b,hgb,hat⟩:=h.cells (n-1+j+1) cs (by rw[List.getElem?_cons_succ];exact hro)
    rw[List.getElem?_cons_succ]at hgb
    refine⟨b,cs,hro,hno,hgb,?_,hat⟩
    show((gr.drop (n-1)).map ghB)[j]?=some b
    rw[List.getElem?_map,List.getElem?_drop,hgb]
    rfl
   | _=>exact hno.elim
  have hF1:∀ r b,n≤r→(Gh.reg blks::gr)[r]?=some (.cell b)→nb[r-n]?=some b:=by
   intro r b hr hb;obtain⟨r,rfl⟩:∃ q,r=q+1:=⟨r-1,by omega⟩
   rw[List.getElem?_cons_succ]at hb
   show((gr.drop (n-1)).map ghB)[r+1-n]?=some b
   rw[List.getElem?_map,List.getElem?_drop,show n-1+(r+1-n)=r by omega,hb]
   rfl
  have hkeep:∀ r,0<r→r<n→(Gh.reg (blks++nb)::gr.take (n-1))[r]?=(Gh.reg blks::gr)[r]?:=by
   intro r h0 hr;obtain⟨r,rfl⟩:∃ q,r=q+1:=⟨r-1,by omega⟩
   rw[List.getElem?_cons_succ,List.getElem?_cons_succ,List.getElem?_take,if_pos (by omega)]
  have hown:∀ k,Owns (Gh.reg (blks++nb)::gr.take (n-1)) k→Owns (Gh.reg blks::gr) k:=by
   rintro k ⟨r,x,hx,hk⟩
   cases r with
   | zero=>
    simp only[List.getElem?_cons_zero,Option.some.injEq]at hx
    subst hx;rcases List.mem_append.1 hk with hk|hk
    ·exact⟨0,_,rfl,hk⟩
    ·obtain⟨j,hj⟩:=List.getElem?_of_mem hk
     obtain⟨b,cs,_,_,hgb,hnb,_⟩:=hnew j (List.getElem?_eq_some_iff.1 hj).1
     rw[hj]at hnb
     cases hnb;exact⟨n-1+j+1,.cell k,by rw[List.getElem?_cons_succ];exact hgb,rfl⟩
   | succ r=>
    rw[List.getElem?_cons_succ]at hx
    exact⟨r+1,x,by rw[List.getElem?_cons_succ];exact(nth_take hx).2,hk⟩
  have hrep:∀ {v:Value} {c:AV},RepA w Im (.reg blks::gr) v c→(∀ r,r∈refs (mvA n bs.length c)→r<n)→RepA w Im (Gh.reg (blks++nb)::gr.take (n-1)) v (mvA n bs.length c):=fun hv hr=>
   rep_mv (g:=.reg blks::gr) (g':=Gh.reg (blks++nb)::gr.take (n-1)) rfl rfl hkeep hF1 hbl hpos hv hr
  have hsepnew:∀ j r x b,nb[j]?=some b→(Gh.reg blks::gr)[r]?=some x→r≠n+j→¬x.owns b:=by
   intro j r x b hj hx hne ho;obtain⟨b',cs,_,_,hgb,hnb,_⟩:=hnew j (List.getElem?_eq_some_iff.1 hj).1
   rw[hj]at hnb
   cases hnb;exact h.sep (n-1+j+1) r b (.cell b) x (by omega) (by rw[List.getElem?_cons_succ];exact hgb) hx rfl ho
  have hobjm:∀ {b:Nat} {cs:List AV},ObjAt w Im (.reg blks::gr) b cs→(∀ c,c∈cs→∀ r,r∈refs (mvA n bs.length c)→r<n)→ObjAt w Im (Gh.reg (blks++nb)::gr.take (n-1)) b (mvL n bs.length cs):=by
   rintro b cs ⟨vs,t,k1,k2,k3,k4,k5⟩ hr
   rw[mvL_map];refine⟨vs,t,k1,by rw[List.length_map];exact k2,fun i v c hv hc=>?_,k4,k5⟩
   obtain⟨c0,hc0,rfl⟩:=nth_map hc
   exact hrep (k3 i v c0 hv hc0) (hr c0 (List.mem_of_getElem? hc0))
  have hmid:∀ {r:Nat} {o:AObj},(AObj.reg (bs++(rest.drop (n-1)).map (mvC n bs.length))::(rest.take (n-1)).map (mvO n bs.length))[r+1]?=some o→∃ o0,r<n-1∧rest[r]?=some o0∧o=mvO n bs.length o0∧oldO n bs.length o0∧(gr.take (n-1))[r]?=gr[r]?:=by
   intro r o ho;rw[List.getElem?_cons_succ]at ho
   obtain⟨o0,ho0,rfl⟩:=nth_map ho
   obtain⟨k1,k2⟩:=nth_take ho0
   exact⟨o0,k1,k2,rfl,ab.olds o0 (List.mem_of_getElem? ho0),by rw[List.getElem?_take,if_pos k1]⟩
  refine⟨blks,nb,Gh.reg (blks++nb)::gr.take (n-1),rfl,rfl,hkeep,hF1,hbl,hown,?_⟩
  refine⟨?_,fun r cs hr=>?_,fun r e sz hr=>?_,fun r e sz cs hr=>?_,fun r es hr=>?_,fun r a b c hr=>?_,fun r acc hr=>?_,fun r r' k x x' hne h1 h2 ho=>?_,fun k hk=>h.lt k (hown k hk),h.im,h.tab,fun r t s hr=>?_,⟨fun bs2 hr=>?_,fun bs2 hr cs hcs c hc=>?_,fun r bs2 hr=>?_,fun r bl2 hr=>?_,fun hno=>absurd rfl (h.rg.off hno 0 blks)⟩⟩
  ·simp only[List.length_cons,List.length_take,List.length_map,hlen]
  ·cases r with
   | zero=>cases hr
   | succ r=>
    obtain⟨o0,q1,q2,q3,q4,q5⟩:=hmid hr
    cases o0 with
    | cells cs0=>
     cases q3;obtain⟨b,hgb,hat⟩:=h.cells (r+1) cs0 (by rw[List.getElem?_cons_succ];exact q2)
     rw[List.getElem?_cons_succ]at hgb
     exact⟨b,by rw[List.getElem?_cons_succ,q5];exact hgb,hobjm hat q4⟩
    | _=>cases q3
  ·cases r with
   | zero=>cases hr
   | succ r=>
    obtain⟨o0,q1,q2,q3,q4,q5⟩:=hmid hr
    cases o0 with
    | grow e0 s0=>
     cases q3;obtain⟨base,len,cap,k1,k2⟩:=h.grow (r+1) e sz (by rw[List.getElem?_cons_succ];exact q2)
     rw[List.getElem?_cons_succ]at k1
     exact⟨base,len,cap,by rw[List.getElem?_cons_succ,q5];exact k1,k2⟩
    | _=>cases q3
  ·cases r with
   | zero=>cases hr
   | succ r=>
    obtain⟨o0,q1,q2,q3,q4,q5⟩:=hmid hr
    cases o0 with
    | stk e0 s0 cs0=>
     cases q3;obtain⟨base,cap,k1,k2,k3,k4⟩:=h.stk (r+1) e sz cs0 (by rw[List.getElem?_cons_succ];exact q2)
     rw[List.getElem?_cons_succ]at k1
     refine⟨base,cap,by rw[List.getElem?_cons_succ,q5];exact k1,k2,fun hc=>by rw[k3 hc];rfl,fun b hb hc=>?_⟩
     obtain⟨vs,t,j1,j2,j3,j4,j5,j6⟩:=k4 b hb hc
     rw[mvL_map];refine⟨vs,t,j1,j2,by rw[List.length_map];exact j3,fun i v c hv hc=>?_,j5,j6⟩
     obtain⟨c0,hc0,rfl⟩:=nth_map hc
     exact hrep (j4 i v c0 hv hc0) (q4 c0 (List.mem_of_getElem? hc0))
    | _=>cases q3
  ·cases r with
   | zero=>cases hr
   | succ r=>
    obtain⟨o0,q1,q2,q3,q4,q5⟩:=hmid hr
    cases o0<;>first|(exact q4.elim)|cases q3
  ·cases r with
   | zero=>cases hr
   | succ r=>
    obtain⟨o0,q1,q2,q3,q4,q5⟩:=hmid hr
    cases o0<;>first|(exact q4.elim)|cases q3
  ·cases r with
   | zero=>cases hr
   | succ r=>
    obtain⟨o0,q1,q2,q3,q4,q5⟩:=hmid hr
    cases o0<;>first|(exact q4.elim)|cases q3
  ·-- apart
   cases r with
   | zero=>
    simp only[List.getElem?_cons_zero,Option.some.injEq]at h1
    subst h1
    cases r' with
    | zero=>exact absurd rfl hne
    | succ r'=>
     rw[List.getElem?_cons_succ]at h2
     obtain⟨k1,k2⟩:=nth_take h2
     rcases List.mem_append.1 ho with ho|ho
     ·exact h.sep 0 (r'+1) k (.reg blks) x' (by omega) rfl (by rw[List.getElem?_cons_succ];exact k2) ho
     ·obtain⟨j,hj⟩:=List.getElem?_of_mem ho
      exact hsepnew j (r'+1) x' k hj (by rw[List.getElem?_cons_succ];exact k2) (by omega)
   | succ r=>
    rw[List.getElem?_cons_succ]at h1
    obtain⟨k1,k2⟩:=nth_take h1
    cases r' with
    | zero=>
     simp only[List.getElem?_cons_zero,Option.some.injEq]at h2
     subst h2;intro ho2;rcases List.mem_append.1 ho2 with ho2|ho2
     ·exact h.sep 0 (r+1) k (.reg blks) x (by omega) rfl (by rw[List.getElem?_cons_succ];exact k2) ho2 ho
     ·obtain⟨j,hj⟩:=List.getElem?_of_mem ho2
      exact hsepnew j (r+1) x k hj (by rw[List.getElem?_cons_succ];exact k2) (by omega) ho
    | succ r'=>
     rw[List.getElem?_cons_succ]at h2
     exact h.sep (r+1) (r'+1) k x x' hne (by rw[List.getElem?_cons_succ];exact k2) (by rw[List.getElem?_cons_succ];exact(nth_take h2).2) ho
  ·cases r with
   | zero=>cases hr
   | succ r=>
    obtain⟨o0,q1,q2,q3,q4,q5⟩:=hmid hr
    cases o0 with
    | bld t0 s0=>
     cases q3;obtain⟨b,row,k1,k2⟩:=h.box (r+1) t s (by rw[List.getElem?_cons_succ];exact q2)
     rw[List.getElem?_cons_succ]at k1
     exact⟨b,row,by rw[List.getElem?_cons_succ,q5];exact k1,k2⟩
    | _=>cases q3
  ·-- the region
   simp only[List.getElem?_cons_zero,Option.some.injEq,AObj.reg.injEq]at hr
   subst hr;refine⟨blks++nb,rfl,by rw[List.length_append,List.length_append,hbl,hnbl,List.length_map,List.length_drop],?_,fun k b cs hk hcs=>?_⟩
   ·refine List.nodup_append.2 ⟨hnd,?_,fun a ha b hb e=>?_⟩
    ·refine List.pairwise_iff_getElem.2 fun i j hi hj hij e=>?_
     obtain⟨b,_,_,_,hgb,hb,_⟩:=hnew i hi
     obtain⟨b',_,_,_,hgb',hb',_⟩:=hnew j hj
     have e1:nb[i]?=nb[j]?:=by rw[List.getElem?_eq_getElem hi,List.getElem?_eq_getElem hj,e]
     rw[hb,hb']at e1
     cases e1;exact hsepnew i (n+j) (.cell b) b hb (by rw[show n+j=n-1+j+1 by omega,List.getElem?_cons_succ];exact hgb') (by omega) rfl
    ·subst e;obtain⟨j,hj⟩:=List.getElem?_of_mem hb
     exact hsepnew j 0 (.reg blks) a hj rfl (by omega) ha
   ·rcases Nat.lt_or_ge k blks.length with hkl|hkl
    ·rw[List.getElem?_append_left hkl]at hk
     rw[List.getElem?_append_left (by omega)]at hcs
     obtain⟨vs,t,k1,k2,k3,k4,k5⟩:=hobj k b cs hk hcs
     refine⟨vs,t,k1,k2,fun i v c hv hc=>?_,k4,k5⟩
     have hrf:=h.rg.no bs rfl cs (List.mem_of_getElem? hcs) c (List.mem_of_getElem? hc)
     have hmv:=mv_none n bs.length hrf
     have:=hrep (k3 i v c hv hc) (by rw[hmv,hrf];intro r hr;cases hr)
     rw[hmv]at this;exact this
    ·rw[List.getElem?_append_right hkl]at hk
     rw[List.getElem?_append_right (by omega)]at hcs
     obtain⟨b2,cs2,q1,q2,q3,q4,q5⟩:=hnew _ (List.getElem?_eq_some_iff.1 hk).1
     rw[q4]at hk
     cases hk;obtain⟨o,ho,rfl⟩:=nth_map hcs
     rw[List.getElem?_drop,←hbl,q1]at ho
     cases ho;exact hobjm q5 fun c hc r hr=>by rw[q2 c hc]at hr;cases hr
  ·simp only[List.getElem?_cons_zero,Option.some.injEq,AObj.reg.injEq]at hr
   subst hr;rcases List.mem_append.1 hcs with hcs|hcs
   ·exact h.rg.no bs rfl cs hcs c hc
   ·obtain⟨o,ho,rfl⟩:=List.mem_map.1 hcs
    have:=ab.news o ho
    cases o with
    | cells cs0=>
     simp only[mvC,mvL_map]at hc;obtain⟨c0,hc0,rfl⟩:=List.mem_map.1 hc
     exact this c0 hc0
    | _=>exact this.elim
  ·cases r with
   | zero=>rfl
   | succ r=>
    obtain⟨o0,q1,q2,q3,q4,q5⟩:=hmid hr
    cases o0<;>first|(exact q4.elim)|cases q3
  ·cases r with
   | zero=>exact⟨rfl,_,rfl⟩
   | succ r=>
    rw[List.getElem?_cons_succ]at hr
    have:=(h.rg.back (r+1) bl2 (by rw[List.getElem?_cons_succ];exact(nth_take hr).2)).1
    omega
theorem absorb_post{g:List Gh}{H H' H2:List AObj}{out out2:Out}{e:Ending}{w':World}(hg:g.length=H.length)(h:CallPost P w Im g out H' e w')(ha:absorbX H.length (some (out,H'))=some (out2,H2)):CallPost P w Im g out2 H2 e w':=by
 obtain⟨Im',g',h1,h2,h3⟩:=h
 unfold absorbX at ha;split at ha
 ·rename_i out0 bs rest heq
  cases heq;unfold absorbK at ha
  split at ha
  ·rename_i hab
   cases ha;obtain⟨blks,nb,g2,k0,k1,k2,k3,k4,k5,k6⟩:=absorb_hr h1 hab
   refine⟨Im',g2,k6,⟨h2.os,h2.tape,h2.output,h2.size,h2.mono,h2.keep,h2.frame,h2.new,fun k hk=>h2.newg k (k5 k hk),?_⟩,?_⟩
   ·have hlt:∀ {r:Nat} {x:Gh},g[r]?=some x→r<H.length:=fun hx=>by rw[←hg];exact(List.getElem?_eq_some_iff.1 hx).1
    have tr:∀ {r:Nat} {x y:Gh},g[r]?=some x→g'[r]?=some y→(∀ z,y≠.reg z)→g2[r]?=some y:=by
     intro r x y hx hy hne;rcases Nat.eq_zero_or_pos r with rfl|hp
     ·rw[k0]at hy
      cases hy;exact absurd rfl (hne _)
     ·rw[k2 r hp (hlt hx)];exact hy
    refine⟨fun r b hr=>tr hr (h2.gle.cell r b hr) (by simp),fun r ep esz base len cap hr=>?_,fun r y T hr=>?_,fun r b row hr=>?_,fun r bs2 hr=>?_⟩
    ·obtain⟨ep',base',len',cap',q1,q2⟩:=h2.gle.gr r ep esz base len cap hr
     exact⟨ep',base',len',cap',tr hr q1 (by simp),q2⟩
    ·obtain⟨T',q⟩:=h2.gle.yld r y T hr
     exact⟨T',tr hr q (by simp)⟩
    ·obtain⟨row',q⟩:=h2.gle.bld r b row hr
     exact⟨row',tr hr q (by simp)⟩
    ·obtain⟨more,q⟩:=h2.gle.reg r bs2 hr
     have hr0:=(h1.rg.back r _ q).1
     subst hr0;rw[k0]at q
     cases q;exact⟨more++nb,by rw[k1,List.append_assoc]⟩
   ·cases out with
    | ret c=>
     obtain⟨v,hv,hr⟩:=h3
     exact⟨v,hv,rep_mv k0 k1 k2 k3 k4 hab.pos hr hab.out⟩
    | pan c=>
     obtain⟨v,hv,hr⟩:=h3
     exact⟨v,hv,rep_mv k0 k1 k2 k3 k4 hab.pos hr hab.out⟩
  ·cases ha
 ·cases ha
noncomputable def absS(Γ:Sem')(isAb:Nat→Bool):Sem':=fun f as H=>if isAb f=true then absorbX H.length (Γ f as H)else none
theorem absS_ok{Γ:Sem'}(hS:Sound P Γ)(isAb:Nat→Bool):Sound P (absS Γ isAb):=by
 intro f as H out H2 h;unfold absS at h;split at h
 ·cases hq:Γ f as H with
  | none=>rw[hq]at h;cases h
  | some q=>
   obtain⟨out0,H'⟩:=q
   rw[hq]at h;obtain⟨k1,k2,k3⟩:=hS f as H out0 H' hq
   refine⟨k1,?_,fun w Im g vs hH hr=>(k3 w Im g vs hH hr).mono fun e w' hp=>absorb_post hH.len hp h⟩
   unfold absorbX at h;split at h
   ·rename_i out1 bs rest heq
    cases heq;unfold absorbK at h
    split at h
    ·rename_i hab
     cases h;have:=hab.len
     have:=hab.pos
     simp only[List.length_cons,List.length_map,List.length_take];omega
    ·cases h
   ·cases h
 ·cases h
def dropK:Option (Out×List AObj)→Option (Out×List AObj)
 | some (.ret c,_)=>if refs c=[]∧hasRp c=false then some (.ret c,[])else none
 | _=>none
def dropR(Γ:Sem'):Sem':=fun f as H=>match H with
 | []=>dropK (Γ f as [.reg []])
 | _=>none
theorem dropR_ok(hg:hasReg=true){Γ:Sem'}(hS:Sound P Γ):Sound P (dropR Γ):=by
 intro f as H out H2 h;unfold dropR at h;split at h
 ·unfold dropK at h;split at h
  ·rename_i c H' hq;split at h
   rotate_left
   ·cases h
   rename_i hcc
   cases h;obtain⟨k1,k2,k3⟩:=hS f as _ _ _ hq
   refine⟨k1,Nat.le_refl _,fun w Im g vs hH hr=>?_⟩
   have hg0:g=[]:=List.length_eq_zero_iff.1 hH.len
   subst hg0
   have noOwn:∀ k,¬Owns [.reg []] k:=by
    rintro k ⟨r,x,h,hk⟩
    cases r with
    | zero=>simp at h;subst h;cases hk
    | succ r=>simp at h
   have gle:GLe [] [.reg []]:=⟨fun r b h=>by simp at h,fun r _ _ _ _ _ h=>by simp at h,fun r _ _ h=>by simp at h,fun r _ _ h=>by simp at h,fun r _ h=>by simp at h⟩
   have e0:Ext w Im [] w Im [.reg []]:=⟨rfl,rfl,rfl,Nat.le_refl _,fun _ _ h=>h,fun _ _ _=>rfl,fun _ _ _=>rfl,fun _ _ h=>.inl h,fun k hk=>absurd hk (noOwn k),gle⟩
   have one:∀ {α:Type} {x y:α} {r:Nat},[x][r]?=some y→r=0∧y=x:=fun {α x y r} h=>by
    cases r with
    | zero=>simp at h;exact⟨rfl,h.symm⟩
    | succ r=>simp at h
   have h1:HR P w Im [.reg []] [.reg []]:=by
    refine⟨rfl,fun r cs hr=>?_,fun r e sz hr=>?_,fun r e sz cs hr=>?_,fun r es hr=>?_,fun r a b c hr=>?_,fun r acc hr=>?_,fun r r' k x x' hne h1 h2=>?_,fun k hk=>absurd hk (noOwn k),hH.im,hH.tab,fun r t s hr=>?_,⟨fun bs hr=>?_,fun bs hr cs hcs=>?_,fun r bs hr=>(one hr).1,fun r bl hr=>⟨(one hr).1,[],rfl⟩,fun h=>by rw[hg]at h;cases h⟩⟩
    ·cases (one hr).2
    ·cases (one hr).2
    ·cases (one hr).2
    ·cases (one hr).2
    ·cases (one hr).2
    ·cases (one hr).2
    ·exact absurd ((one h1).1.trans (one h2).1.symm) hne
    ·cases (one hr).2
    ·cases (one hr).2
     exact⟨[],rfl,rfl,List.nodup_nil,fun k b cs hk=>by simp at hk⟩
    ·cases (one hr).2
     cases hcs
   refine(k3 w Im [.reg []] vs h1 ⟨hr.1,fun i v c hv hc=>(hr.2 i v c hv hc).ext e0⟩).mono ?_
   rintro e w' ⟨Im',g',j1,j2,v,rfl,j3⟩
   refine⟨Im',[],⟨rfl,fun r cs hr=>by simp at hr,fun r e sz hr=>by simp at hr,fun r e sz cs hr=>by simp at hr,fun r es hr=>by simp at hr,fun r s n q hr=>by simp at hr,fun r a hr=>by simp at hr,fun r r' k x x' _ hr=>by simp at hr,fun k hk=>by obtain⟨r,x,hr,_⟩:=hk;simp at hr,j1.im,j1.tab,fun r t cs hr=>by simp at hr,.none (fun r bs hr=>by simp at hr) (fun r x hr=>by simp at hr)⟩,⟨j2.os,j2.tape,j2.output,j2.size,j2.mono,j2.keep,fun k hk _=>j2.frame k hk (noOwn k),fun b o h=>?_,fun k hk=>by obtain⟨r,x,hr,_⟩:=hk;simp at hr,GLe.refl _⟩,v,rfl,?_⟩
   ·rcases j2.new b o h with h|h|h
    ·exact .inl h
    ·exact .inr (.inl h)
    ·exact absurd h (noOwn b)
   ·exact j3.fewer (fun q x hq _=>by rw[hcc.1]at hq;cases hq) (fun bs hh _=>by rw[hcc.2]at hh;cases hh)
  ·cases h
 ·cases h
end
end Go.Ab
