/- The evaluator is right of operations and calls. Conditions: none. -/
import Derived.Test.YticliodhjfednaaGreatAbX1
import Derived.Lib.AppendStr
import Derived.MapKept
import Derived.RangeFuncNested
import Derived.OwnWalkIn
/- The abstract evaluator is right of slices that grow. Conditions: none. -/
namespace Go.Ab
open Go

section
variable {P:Program}{w:World}{Im:Imm}{g:List Gh}{H:List AObj}

def FreeAt(g:List Gh)(r e sz:Nat):Prop:=g[r]?=some .no∨∃ ep base len cap,g[r]?=some (.gr ep sz base len cap)∧ep<e

theorem FreeAt.lt{r e sz:Nat}(h:FreeAt g r e sz):r<g.length:=by
 rcases h with h|⟨_,_,_,_,h,_⟩<;>exact(List.getElem?_eq_some_iff.1 h).1

theorem gle_grow{r e sz:Nat}{base:Option Nat}{len cap:Nat}(h:FreeAt g r e sz):GLe g (g.set r (.gr e sz base len cap)):=by
 rcases h with h|⟨ep,b0,l0,c0,h,hlt⟩
 ·exact gle_set h
 ·have hr:=(List.getElem?_eq_some_iff.1 h).1
  refine⟨fun r' b hr'=>?_,fun r' ep' esz base' len' cap' hr'=>?_,fun r' l T hr'=>?_,fun r' b' row' hr'=>?_,fun r' bs' hr'=>?_⟩
  ·by_cases he:r=r'
   ·subst he;rw[h]at hr';cases hr'
   ·rw[List.getElem?_set_ne he];exact hr'
  ·by_cases he:r=r'
   ·subst he;rw[h]at hr';cases hr';exact⟨e,base,len,cap,List.getElem?_set_self hr,by omega,fun he=>by omega⟩
   ·exact⟨ep',base',len',cap',by rw[List.getElem?_set_ne he];exact hr',Nat.le_refl _,fun _=>⟨rfl,rfl,rfl⟩⟩
  ·by_cases he:r=r'
   ·subst he;rw[h]at hr';cases hr'
   ·exact⟨T,by rw[List.getElem?_set_ne he];exact hr'⟩
  ·by_cases he:r=r'
   ·subst he;rw[h]at hr';cases hr'
   ·exact⟨row',by rw[List.getElem?_set_ne he];exact hr'⟩
  ·by_cases he:r=r'
   ·subst he;rw[h]at hr';cases hr'
   ·exact⟨[],by rw[List.append_nil,List.getElem?_set_ne he];exact hr'⟩

theorem no_set{r q:Nat}{x:Gh}(hne:q≠r)(h:g[q]?=some .no):(g.set r x)[q]?=some .no:=by rw[List.getElem?_set_ne (Ne.symm hne)];exact h

theorem left_grow_new(hH:HR P w Im g H){p r e sz:Nat}(hr:FreeAt g r e sz)(hpr:p=r∨g[r]?≠some .no){vs:List Value}{t:TypeId}{len cap:Nat}(hl:vs.length=cap*sz)(hlc:len≤cap){av:AV}{v:Value}
  (hv:∀ Im' g',(∀ o,o<len*sz→Im' w.heap.size o)→g'[r]?=some (.gr e sz (some w.heap.size) len cap)→Ext w Im g (w.alloc (.cells ⟨vs⟩ t)) Im' g'→RepA (w.alloc (.cells ⟨vs⟩ t)) Im' g' v av) :
  ∃ Im' g',Left P w Im g H p [(r,.grow e sz)] av v (w.alloc (.cells ⟨vs⟩ t)) Im' g':=by
 have hrg:=hr.lt
 have hrH:r<H.length:=by rw[←hH.len];exact hrg
 have gle:=gle_grow (base:=some w.heap.size) (len:=len) (cap:=cap) hr
 refine⟨fun b o=>Im b o∨(b=w.heap.size∧o<len*sz),g.set r (.gr e sz (some w.heap.size) len cap),?_⟩
 have e:Ext w Im g (w.alloc (.cells ⟨vs⟩ t)) (fun b o=>Im b o∨(b=w.heap.size∧o<len*sz)) (g.set r (.gr e sz (some w.heap.size) len cap)):=by
  refine⟨rfl,rfl,rfl,by simp,fun _ _ h=>.inl h,fun b o h=>cell_alloc (hH.im b o h),fun k hk _=>heap_alloc_old w _ hk,fun b o h=>?_,fun k hk=>?_,gle⟩
  ·rcases h with h|h
   ·exact .inl h
   ·exact .inr (.inl (by omega))
  ·rcases owns_set hk with⟨h,_⟩|h
   ·obtain⟨h,_⟩:=h
    cases h;exact .inr (Nat.le_refl _)
   ·exact .inl h
 refine⟨hv _ _ (fun o ho=>.inr ⟨rfl,ho⟩) (List.getElem?_set_self hrg) e,?_,e,fun q hq h=>no_set (fun hqr=>?_) h⟩
 ·show HR P _ _ _ (setO H r (.grow _ sz))
  rw[setO_lt hrH];have hse:∀ k,k<w.heap.size→(w.alloc (.cells ⟨vs⟩ t)).heap[k]?=w.heap[k]?:=fun k hk=>heap_alloc_old w _ hk
  refine hH.go e (by simp[hH.len]) (fun q=>q=r) (fun q hq=>⟨List.getElem?_set_ne (Ne.symm hq),List.getElem?_set_ne (Ne.symm hq)⟩)
   (fun q x k _ hq hk=>⟨hse k (hH.lt k ⟨q,x,hq,hk⟩),fun o h=>h.elim id (fun h=>absurd (hH.lt k ⟨q,x,hq,hk⟩) (by omega))⟩) ?_ ?_ ?_ ?_ ?_ ?_ ?_ ?_
  ·rintro q cs rfl hq
   rw[List.getElem?_set_self hrH]at hq
   cases hq
  ·rintro q ep sz' rfl hq
   rw[List.getElem?_set_self hrH]at hq
   cases hq;refine⟨some w.heap.size,len,cap,List.getElem?_set_self hrg,hlc,fun h=>(by cases h),fun b hb _=>?_⟩
   cases hb;refine⟨vs,t,heap_alloc_new w _,hl,fun o ho h=>?_⟩
   rcases h with h|h
   ·exact absurd (hH.im _ _ h) (Nat.lt_irrefl _)
   ·omega
  ·rintro q es rfl hq
   rw[List.getElem?_set_self hrH]at hq
   cases hq
  ·rintro q stop n rest rfl hq
   rw[List.getElem?_set_self hrH]at hq
   cases hq
  ·rintro q acc rfl hq
   rw[List.getElem?_set_self hrH]at hq
   cases hq
  ·rintro q q' k x x' rfl hne hq hq' hx hx'
   rw[List.getElem?_set_self hrg]at hq
   cases hq;rw[List.getElem?_set_ne hne]at hq'
   have:=hH.lt k ⟨q',x',hq',hx'⟩
   obtain⟨hx,_⟩:=hx
   cases hx;omega
  ·rintro q k x rfl hq hx
   rw[List.getElem?_set_self hrg]at hq
   cases hq;obtain⟨hx,_⟩:=hx
   cases hx;simp
  ·intro b o h;rcases h with h|h
   ·have:=hH.im b o h;simp;omega
   ·simp;omega
 ·rcases hpr with h'|h'
  ·exact hq (hqr.trans h'.symm)
  ·subst hqr;exact h' h

theorem left_grow_same(hH:HR P w Im g H){p r e sz:Nat}(hr:FreeAt g r e sz)(hpr:p=r∨g[r]?≠some .no){base:Option Nat}{len cap:Nat}(hlc:len≤cap)(hbc:base=none→cap=0)
  (hb:len<cap→∃ ep,g[r]?=some (.gr ep sz base len cap)∧H[r]?=some (.grow ep sz)) {av:AV} {v:Value}
  (hv:∀ g',g'[r]?=some (.gr e sz base len cap)→Ext w Im g w Im g'→RepA w Im g' v av) :
  ∃ g',Left P w Im g H p [(r,.grow e sz)] av v w Im g':=by
 have hrg:=hr.lt
 have hrH:r<H.length:=by rw[←hH.len];exact hrg
 have gle:=gle_grow (base:=base) (len:=len) (cap:=cap) hr
 refine⟨g.set r (.gr e sz base len cap),?_⟩
 have hown:∀ k,(Gh.gr e sz base len cap).owns k→∃ x,g[r]?=some x∧x.owns k:=by
  rintro k ⟨h1,h2⟩
  obtain⟨ep,h3,_⟩:=hb h2
  exact⟨_,h3,h1,h2⟩
 have e:Ext w Im g w Im (g.set r (.gr e sz base len cap)):=by
  refine⟨rfl,rfl,rfl,Nat.le_refl _,fun _ _ h=>h,fun _ _ _=>rfl,fun _ _ _=>rfl,fun _ _ h=>.inl h,fun k hk=>?_,gle⟩
  rcases owns_set hk with⟨h,_⟩|h
  ·obtain⟨x,h1,h2⟩:=hown k h
   exact .inl ⟨r,x,h1,h2⟩
  ·exact .inl h
 refine⟨hv _ (List.getElem?_set_self hrg) e,?_,e,fun q hq h=>no_set (fun hqr=>?_) h⟩
 ·show HR P _ _ _ (setO H r (.grow _ sz))
  rw[setO_lt hrH];refine hH.go e (by simp[hH.len]) (fun q=>q=r) (fun q hq=>⟨List.getElem?_set_ne (Ne.symm hq),List.getElem?_set_ne (Ne.symm hq)⟩) (fun q x k _ hq hk=>⟨rfl,fun _ h=>h⟩) ?_ ?_ ?_ ?_ ?_ ?_ ?_ hH.im
  ·rintro q cs rfl hq
   rw[List.getElem?_set_self hrH]at hq
   cases hq
  ·rintro q ep sz' rfl hq
   rw[List.getElem?_set_self hrH]at hq
   cases hq;refine⟨base,len,cap,List.getElem?_set_self hrg,hlc,hbc,fun b hb' hlt=>?_⟩
   obtain⟨ep,h1,h2⟩:=hb hlt
   obtain⟨base',len',cap',k1,_,_,k4⟩:=hH.grow q ep sz h2
   rw[h1]at k1
   cases k1;exact k4 b hb' hlt
  ·rintro q es rfl hq
   rw[List.getElem?_set_self hrH]at hq
   cases hq
  ·rintro q stop n rest rfl hq
   rw[List.getElem?_set_self hrH]at hq
   cases hq
  ·rintro q acc rfl hq
   rw[List.getElem?_set_self hrH]at hq
   cases hq
  ·rintro q q' k x x' rfl hne hq hq' hx
   rw[List.getElem?_set_self hrg]at hq
   cases hq;rw[List.getElem?_set_ne hne]at hq'
   obtain⟨y,h1,h2⟩:=hown k hx
   exact hH.sep q q' k y x' hne h1 hq' h2
  ·rintro q k x rfl hq hx
   rw[List.getElem?_set_self hrg]at hq
   cases hq;obtain⟨y,h1,h2⟩:=hown k hx
   exact hH.lt k ⟨q,y,h1,h2⟩
 ·rcases hpr with h'|h'
  ·exact hq (hqr.trans h'.symm)
  ·subst hqr;exact h' h

theorem left_grow_room(hH:HR P w Im g H){p r ep sz b len m cap:Nat}(hg:g[r]?=some (.gr ep sz (some b) len cap))(hr:H[r]?=some (.grow ep sz))(hm:0<m)(hroom:len+m≤cap)
  {vs news:List Value} {t:TypeId} (hb:w.heap[b]?=some (.cells ⟨vs⟩ t (0,0))) (hvl:vs.length=cap*sz) (hnl:news.length=m*sz) (hni:∀ o,len*sz≤o→¬Im b o) {av:AV} {v:Value}
  (hv:∀ Im' g' w',(∀ o,len*sz≤o→o<(len+m)*sz→Im' b o)→g'[r]?=some (.gr (ep+1) sz (some b) (len+m) cap)→Ext w Im g w' Im' g' →
   (∀ k u,news[k]?=some u→w'.cell? ⟨b,len*sz+k,none⟩=some u)→RepA w' Im' g' v av) :
  ∃ Im' g',Left P w Im g H p [(r,.grow (ep+1) sz)] av v (w.setRow b (vs.take (len*sz)++news++vs.drop (len*sz+news.length)).toArray) Im' g':=by
 have hfree:FreeAt g r (ep+1) sz:=.inr ⟨ep,_,_,_,hg,by omega⟩
 have hrg:=hfree.lt
 have hrH:r<H.length:=by rw[←hH.len];exact hrg
 have gle:=gle_grow (base:=some b) (len:=len+m) (cap:=cap) hfree
 have hcap:(len+m)*sz≤cap*sz:=Nat.mul_le_mul_right _ hroom
 have hadd:(len+m)*sz=len*sz+m*sz:=Nat.add_mul _ _ _
 have hbl:b<w.heap.size:=(Array.getElem?_eq_some_iff.1 hb).1
 have howns:(Gh.gr ep sz (some b) len cap).owns b:=⟨rfl,by omega⟩
 refine⟨fun b' o=>Im b' o∨(b'=b∧len*sz≤o∧o<(len+m)*sz),g.set r (.gr (ep+1) sz (some b) (len+m) cap),?_⟩
 have hcell:∀ o,(w.setRow b (vs.take (len*sz)++news++vs.drop (len*sz+news.length)).toArray).cell? ⟨b,o,none⟩=(vs.take (len*sz)++news++vs.drop (len*sz+news.length))[o]?:=by
  intro o;rw[cell_setRow_same w b o ⟨vs⟩ _ t (0,0) hb];simp
 have e:Ext w Im g (w.setRow b (vs.take (len*sz)++news++vs.drop (len*sz+news.length)).toArray) (fun b' o=>Im b' o∨(b'=b∧len*sz≤o∧o<(len+m)*sz)) (g.set r (.gr (ep+1) sz (some b) (len+m) cap)):=by
  refine⟨rfl,rfl,rfl,by simp,fun _ _ h=>.inl h,fun b' o h=>?_,fun k hk hno=>?_,fun b' o h=>?_,fun k hk=>?_,gle⟩
  ·by_cases hbb:b'=b
   ·subst hbb
    have ho:o<len*sz:=by
     apply Nat.lt_of_not_le
     intro h';exact hni o h' h
    rw[hcell,List.append_assoc,List.getElem?_append_left (by simp;omega),List.getElem?_take,if_pos ho]
    simp[World.cell?,hb]
   ·exact cell_setRow_other w b _ ⟨b',o,none⟩ hbb
  ·exact setRow_other w b k _ (fun h'=>hno ⟨r,_,hg,h'▸howns⟩)
  ·rcases h with h|h
   ·exact .inl h
   ·exact .inr (.inr ⟨r,_,hg,h.1▸howns⟩)
  ·rcases owns_set hk with⟨h,_⟩|h
   ·obtain⟨h,_⟩:=h
    cases h;exact .inl ⟨r,_,hg,howns⟩
   ·exact .inl h
 refine⟨hv _ _ _ (fun o h1 h2=>.inr ⟨rfl,h1,h2⟩) (List.getElem?_set_self hrg) e (fun k u hk=>?_),?_,e,fun q _ h=>no_set (fun hqr=>?_) h⟩
 ·have hk':=(List.getElem?_eq_some_iff.1 hk).1
  rw[hcell,List.append_assoc,List.getElem?_append_right (by simp;omega),List.getElem?_append_left (by simp;omega)]
  rw[show len*sz+k-(vs.take (len*sz)).length=k by simp;omega]
  exact hk
 ·show HR P _ _ _ (setO H r (.grow _ sz))
  rw[setO_lt hrH]
  refine hH.go e (by simp[hH.len]) (fun q=>q=r) (fun q hq=>⟨List.getElem?_set_ne (Ne.symm hq),List.getElem?_set_ne (Ne.symm hq)⟩)
   (fun q x k hne hq hk=>?_) ?_ ?_ ?_ ?_ ?_ ?_ ?_ ?_
  ·have hkb:k≠b:=by
    rintro rfl
    exact hH.sep q r k x _ hne hq hg hk howns
   exact⟨setRow_other w b k _ hkb,fun o h=>h.elim id (fun h=>absurd h.1 hkb)⟩
  ·rintro q cs rfl hq
   rw[List.getElem?_set_self hrH]at hq
   cases hq
  ·rintro q ep' sz' rfl hq
   rw[List.getElem?_set_self hrH]at hq
   cases hq;refine⟨some b,len+m,cap,List.getElem?_set_self hrg,hroom,fun h=>(by cases h),fun b' hb' _=>?_⟩
   cases hb';refine⟨_,t,setRow_heap w b ⟨vs⟩ _ t (0,0) hb,?_,fun o ho h=>?_⟩
   ·simp;omega
   ·rcases h with h|h
    ·exact hni o (by omega) h
    ·omega
  ·rintro q es rfl hq
   rw[List.getElem?_set_self hrH]at hq
   cases hq
  ·rintro q stop n rest rfl hq
   rw[List.getElem?_set_self hrH]at hq
   cases hq
  ·rintro q acc rfl hq
   rw[List.getElem?_set_self hrH]at hq
   cases hq
  ·rintro q q' k x x' rfl hne hq hq' hx
   rw[List.getElem?_set_self hrg]at hq
   cases hq;rw[List.getElem?_set_ne hne]at hq'
   obtain⟨hx,_⟩:=hx
   cases hx;exact hH.sep q q' b _ x' hne hg hq' howns
  ·rintro q k x rfl hq hx
   rw[List.getElem?_set_self hrg]at hq
   cases hq;obtain⟨hx,_⟩:=hx
   cases hx;simpa using hbl
  ·intro b' o h;rcases h with h|h
   ·have:=hH.im b' o h;simpa using this
   ·simp only[setRow_size];omega
 ·subst hqr;rw[hg]at h;cases h
theorem left_stk_new(hH:HR P w Im g H){p r e sz:Nat}(hr:FreeAt g r e sz)(hpr:p=r∨g[r]?≠some .no){vs:List Value}{t:TypeId}{cap:Nat}(hl:vs.length=cap*sz)(hcap:0<cap){cs:List AV}(hcl:cs.length≤vs.length)
  (hrep:∀ (i:Nat) (v:Value) (c:AV),vs[i]?=some v→cs[i]?=some c→RepA w Im g v c) (h1:∀ v,v∈vs→v.oneCell'=true) {av:AV} {v:Value}
  (hv:∀ g',g'[r]?=some (.gr e sz (some w.heap.size) 0 cap)→RepA (w.alloc (.cells ⟨vs⟩ t)) Im g' v av) :
  ∃ g',Left P w Im g H p [(r,.stk e sz cs)] av v (w.alloc (.cells ⟨vs⟩ t)) Im g':=by
 have hrg:=hr.lt
 have hrH:r<H.length:=by rw[←hH.len];exact hrg
 have gle:=gle_grow (base:=some w.heap.size) (len:=0) (cap:=cap) hr
 refine⟨g.set r (.gr e sz (some w.heap.size) 0 cap),?_⟩
 have e:Ext w Im g (w.alloc (.cells ⟨vs⟩ t)) Im (g.set r (.gr e sz (some w.heap.size) 0 cap)):=by
  refine⟨rfl,rfl,rfl,by simp,fun _ _ h=>h,fun b o h=>cell_alloc (hH.im b o h),fun k hk _=>heap_alloc_old w _ hk,fun b o h=>.inl h,fun k hk=>?_,gle⟩
  rcases owns_set hk with⟨h,_⟩|h
  ·obtain⟨h,_⟩:=h
   cases h;exact .inr (Nat.le_refl _)
  ·exact .inl h
 refine⟨hv _ (List.getElem?_set_self hrg),?_,e,fun q hq h=>no_set (fun hqr=>?_) h⟩
 ·show HR P _ _ _ (setO H r (.stk _ sz cs))
  rw[setO_lt hrH];have hse:∀ k,k<w.heap.size→(w.alloc (.cells ⟨vs⟩ t)).heap[k]?=w.heap[k]?:=fun k hk=>heap_alloc_old w _ hk
  refine hH.go e (by simp[hH.len]) (fun q=>q=r) (fun q hq=>⟨List.getElem?_set_ne (Ne.symm hq),List.getElem?_set_ne (Ne.symm hq)⟩)
   (fun q x k _ hq hk=>⟨hse k (hH.lt k ⟨q,x,hq,hk⟩),fun o h=>h⟩) ?_ ?_ ?_ ?_ ?_ ?_ ?_ ?_ ?_
  ·rintro q cs rfl hq
   rw[List.getElem?_set_self hrH]at hq
   cases hq
  ·rintro q ep sz' rfl hq
   rw[List.getElem?_set_self hrH]at hq
   cases hq
  ·rintro q es rfl hq
   rw[List.getElem?_set_self hrH]at hq
   cases hq
  ·rintro q stop n rest rfl hq
   rw[List.getElem?_set_self hrH]at hq
   cases hq
  ·rintro q acc rfl hq
   rw[List.getElem?_set_self hrH]at hq
   cases hq
  ·rintro q q' k x x' rfl hne hq hq' hx hx'
   rw[List.getElem?_set_self hrg]at hq
   cases hq;rw[List.getElem?_set_ne hne]at hq'
   have:=hH.lt k ⟨q',x',hq',hx'⟩
   obtain⟨hx,_⟩:=hx
   cases hx;omega
  ·rintro q k x rfl hq hx
   rw[List.getElem?_set_self hrg]at hq
   cases hq;obtain⟨hx,_⟩:=hx
   cases hx;simp
  ·intro b o h;have:=hH.im b o h;simp;omega
  ·rintro q ep' sz' cs' rfl hq
   rw[List.getElem?_set_self hrH]at hq
   cases hq;refine⟨some w.heap.size,cap,List.getElem?_set_self hrg,fun h=>(by cases h),fun h=>absurd h (by omega),fun b hb _=>?_⟩
   cases hb;exact⟨vs,t,heap_alloc_new w _,hl,hcl,fun i v c hv hc=>(hrep i v c hv hc).ext e,h1,fun o ho=>absurd (hH.im _ _ ho) (Nat.lt_irrefl _)⟩
 ·rcases hpr with h'|h'
  ·exact hq (hqr.trans h'.symm)
  ·subst hqr;exact h' h

theorem left_stk_set(hH:HR P w Im g H){p r ep e' sz b cap:Nat}(hg:g[r]?=some (.gr ep sz (some b) 0 cap))(hee:ep≤e')(hcap:0<cap)
  {vs vs':List Value} {t:TypeId} {cs':List AV} (hb:w.heap[b]?=some (.cells ⟨vs⟩ t (0,0))) (hvl:vs'.length=cap*sz) (hn:∀ o,¬Im b o) (hcl:cs'.length≤vs'.length)
  (hrep:∀ (i:Nat) (v:Value) (c:AV),vs'[i]?=some v→cs'[i]?=some c→RepA w Im g v c) (h1:∀ v,v∈vs'→v.oneCell'=true) {av:AV} {v:Value}
  (hv:∀ w' g',g'[r]?=some (.gr e' sz (some b) 0 cap)→Ext w Im g w' Im g'→RepA w' Im g' v av) :
  ∃ g',Left P w Im g H p [(r,.stk e' sz cs')] av v (w.setRow b ⟨vs'⟩) Im g'∧(e'=ep→g'=g):=by
 have hrg:=(List.getElem?_eq_some_iff.1 hg).1
 have hrH:r<H.length:=by rw[←hH.len];exact hrg
 have hbl:b<w.heap.size:=(Array.getElem?_eq_some_iff.1 hb).1
 have howns:(Gh.gr ep sz (some b) 0 cap).owns b:=⟨rfl,hcap⟩
 have gle:GLe g (g.set r (.gr e' sz (some b) 0 cap)):=by
  refine⟨fun r' b hr'=>?_,fun r' ep' esz base' len' cap' hr'=>?_,fun r' l T hr'=>?_,fun r' b' row' hr'=>?_,fun r' bs' hr'=>?_⟩
  ·by_cases he:r=r'
   ·subst he;rw[hg]at hr';cases hr'
   ·rw[List.getElem?_set_ne he];exact hr'
  ·by_cases he:r=r'
   ·subst he;rw[hg]at hr';cases hr';exact⟨e',some b,0,cap,List.getElem?_set_self hrg,hee,fun _=>⟨rfl,rfl,rfl⟩⟩
   ·exact⟨ep',base',len',cap',by rw[List.getElem?_set_ne he];exact hr',Nat.le_refl _,fun _=>⟨rfl,rfl,rfl⟩⟩
  ·by_cases he:r=r'
   ·subst he;rw[hg]at hr';cases hr'
   ·exact⟨T,by rw[List.getElem?_set_ne he];exact hr'⟩
  ·by_cases he:r=r'
   ·subst he;rw[hg]at hr';cases hr'
   ·exact⟨row',by rw[List.getElem?_set_ne he];exact hr'⟩
  ·by_cases he:r=r'
   ·subst he;rw[hg]at hr';cases hr'
   ·exact⟨[],by rw[List.append_nil,List.getElem?_set_ne he];exact hr'⟩
 refine⟨g.set r (.gr e' sz (some b) 0 cap),?_,fun h=>by
  subst h;apply List.ext_getElem?
  intro i;by_cases he:r=i
  ·subst he;rw[List.getElem?_set_self hrg,hg]
  ·rw[List.getElem?_set_ne he]⟩
 have e:Ext w Im g (w.setRow b ⟨vs'⟩) Im (g.set r (.gr e' sz (some b) 0 cap)):=by
  refine⟨rfl,rfl,rfl,by simp,fun _ _ h=>h,fun b' o h=>?_,fun k hk hno=>?_,fun b' o h=>.inl h,fun k hk=>?_,gle⟩
  ·exact cell_setRow_other w b ⟨vs'⟩ ⟨b',o,none⟩ (fun(h':b'=b)=>hn o (h'▸h))
  ·exact setRow_other w b k _ (fun h'=>hno ⟨r,_,hg,h'▸howns⟩)
  ·rcases owns_set hk with⟨h,_⟩|h
   ·obtain⟨h,_⟩:=h
    cases h;exact .inl ⟨r,_,hg,howns⟩
   ·exact .inl h
 refine⟨hv _ _ (List.getElem?_set_self hrg) e,?_,e,fun q _ h=>no_set (fun hqr=>?_) h⟩
 ·show HR P _ _ _ (setO H r (.stk _ sz cs'))
  rw[setO_lt hrH]
  refine hH.go e (by simp[hH.len]) (fun q=>q=r) (fun q hq=>⟨List.getElem?_set_ne (Ne.symm hq),List.getElem?_set_ne (Ne.symm hq)⟩)
   (fun q x k hne hq hk=>?_) ?_ ?_ ?_ ?_ ?_ ?_ ?_ ?_ ?_
  ·have hkb:k≠b:=by
    rintro rfl
    exact hH.sep q r k x _ hne hq hg hk howns
   exact⟨setRow_other w b k _ hkb,fun o h=>h⟩
  ·rintro q cs rfl hq
   rw[List.getElem?_set_self hrH]at hq
   cases hq
  ·rintro q ep' sz' rfl hq
   rw[List.getElem?_set_self hrH]at hq
   cases hq
  ·rintro q es rfl hq
   rw[List.getElem?_set_self hrH]at hq
   cases hq
  ·rintro q stop n rest rfl hq
   rw[List.getElem?_set_self hrH]at hq
   cases hq
  ·rintro q acc rfl hq
   rw[List.getElem?_set_self hrH]at hq
   cases hq
  ·rintro q q' k x x' rfl hne hq hq' hx
   rw[List.getElem?_set_self hrg]at hq
   cases hq;rw[List.getElem?_set_ne hne]at hq'
   obtain⟨hx,_⟩:=hx
   cases hx;exact hH.sep q q' b _ x' hne hg hq' howns
  ·rintro q k x rfl hq hx
   rw[List.getElem?_set_self hrg]at hq
   cases hq;obtain⟨hx,_⟩:=hx
   cases hx;simpa using hbl
  ·intro b' o h;have:=hH.im b' o h;simpa using this
  ·rintro q ep' sz' cs'' rfl hq
   rw[List.getElem?_set_self hrH]at hq
   cases hq;refine⟨some b,cap,List.getElem?_set_self hrg,fun h=>(by cases h),fun h=>absurd h (by omega),fun b' hb' _=>?_⟩
   cases hb';exact⟨vs',t,setRow_heap w b ⟨vs⟩ ⟨vs'⟩ t (0,0) hb,hvl,hcl,fun i v c hv hc=>(hrep i v c hv hc).ext e,h1,hn⟩
 ·subst hqr;rw[hg]at h;cases h
end
end Go.Ab
/- The abstract evaluator is right of append. Conditions: none. -/
namespace Go.Ab
open Go

section
variable {P:Program}{w:World}{Im:Imm}{g:List Gh}{H:List AObj}

theorem szZ_some{t:TypeId}{s:Nat}(h:szZ P t=some s):szOf P t=some s∧0<s∧∃ i v,P.info? t=some i∧i.size=s∧i.zero=some v∧v.cells.size=s∧zeroOf P t=some (v.cells.toList.map ofV)∧∀ u,u∈v.cells→u.oneCell'=true:=by
 unfold szZ at h;split at h
 ·rename_i s' z hs hz;split at h
  ·rename_i hc
   cases h;obtain⟨i,v,hi,hzv,rfl,h1⟩:=zeroOf_some hz
   obtain⟨i',hi',hsz⟩:=szOf_some hs
   rw[hi]at hi'
   cases hi';exact⟨hs,hc.2,i,v,hi,hsz,hzv,by simpa using hc.1,hz,h1⟩
  ·cases h
 ·cases h

theorem cells_list{b o n:Nat}{us:Nat→Value}(h:∀ k,k<n→Im b (o+k)∧w.cell? ⟨b,o+k,none⟩=some (us k)):∀ (j:Nat) (u:Value),((List.range n).map us)[j]?=some u→w.cell? ((⟨b,o,none⟩:Addr).add j)=some u:=by
 intro j u hu;rw[List.getElem?_map]at hu
 by_cases hj:j<n
 ·rw[List.getElem?_range hj]at hu
  cases hu;rw[Addr.add_lit]
  exact(h j hj).2
 ·rw[List.getElem?_eq_none (by simp;omega)]at hu;cases hu

theorem range_map_at{n k:Nat}{us:Nat→Value}(h:k<n):((List.range n).map us)[k]?=some (us k):=by
 rw[List.getElem?_map,List.getElem?_range h];rfl

theorem run_append_zero{t ty e:TypeId}(ht:P.underlying t=some (.slice e)){s:Nat}(hs:szOf P e=some s){base:Option Nat}{n cap c:Nat}{a:Option Addr}(hn:n≤cap) :
  (Builtin.append_ ⟨[t,t]⟩ ty ⟨[.slice (base.map fun b=>⟨b,0,none⟩) n cap,.slice a 0 c]⟩).run P w=.ok (.slice (base.map fun b=>⟨b,0,none⟩) n cap) w:=by
 have hf:(Builtin.firstCells s 0 (.slice a 0 c)).run P w=.ok #[] w:=by
  cases a with
  | none=>simp[Builtin.firstCells]
  | some a=>simp[Builtin.firstCells,loadCells,loadCellsFrom]
 cases base with
 | none=>simp[Builtin.append_,run_underlying ht,run_sizeOf' hs,Builtin.lenOf,hn,hf]
 | some b=>simp[Builtin.append_,run_underlying ht,run_sizeOf' hs,Builtin.lenOf,hn,hf,storeCells]

theorem run_append_room'{t ty e t':TypeId}{i:TypeInfo}(ht:P.underlying t=some (.slice e))(hi:P.info? e=some i)
  {b sLen sCap:Nat} {cur:Array Value} (hg:w.heap[b]?=some (.cells cur t' (0,0)))
  {a:Addr} {m c:Nat} {news:List Value} (hl:news.length=m*i.size) (hnews:∀ (j:Nat) (u:Value),news[j]?=some u→w.cell? (a.add j)=some u) (h1:∀ u∈news,u.oneCell'=true)
  (hroom:sLen+m≤sCap) (hfit:sLen*i.size+news.length≤cur.size) :
  (Builtin.append_ ⟨[t,t]⟩ ty ⟨[.slice (some ⟨b,0,none⟩) sLen sCap,.slice (some a) m c]⟩).run P w =
   .ok (.slice (some ⟨b,0,none⟩) (sLen+m) sCap) (w.setRow b (cur.toList.take (sLen*i.size)++news++cur.toList.drop (sLen*i.size+news.length)).toArray):=by
 have hf:=run_firstCells_some (P:=P) w i.size m a m c news hl hnews
 have hst:=run_storeCells_at P b (sLen*i.size) t' news 0 cur w hg (by simpa using hfit) h1
 simp only[Nat.add_zero]at hst;simp[Builtin.append_,run_underlying ht,sizeOf,typeInfo,hi,Builtin.lenOf,hroom,hf,Addr.add_lit,hst]

theorem repD_join{b cap sz:Nat}{rows xs:List (List Dt)}{us ux:Nat→Value}(hcap:rows.length+xs.length≤cap)(h1:∀ row,row∈rows→row.length=sz)(h2:∀ row,row∈xs→row.length=sz)
  (hi:∀ k,k<(rows.length+xs.length)*sz→Im b k) (hc:∀ k,k<rows.length*sz→w.cell? ⟨b,k,none⟩=some (us k)) (hx:∀ k,k<xs.length*sz→w.cell? ⟨b,rows.length*sz+k,none⟩=some (ux k))
  (hr:∀ (k:Nat) (x:Dt),rows.flatten[k]?=some x→RepD w Im (us k) x) (hrx:∀ (k:Nat) (x:Dt),xs.flatten[k]?=some x→RepD w Im (ux k) x) :
  RepD w Im (.slice (some ⟨b,0,none⟩) (rows.length+xs.length) cap) (.sl (rows++xs)):=by
 have hfr:=flatten_len h1
 have hfx:=flatten_len h2
 have key:RepD w Im (.slice (some ⟨b,0,none⟩) (rows++xs).length cap) (.sl (rows++xs)):=by
  refine .sl b 0 cap sz _ (fun k=>if k<rows.length*sz then us k else ux (k-rows.length*sz)) (by simpa using hcap) ?_ ?_ ?_
  ·intro row hrow;rcases List.mem_append.1 hrow with h|h
   ·exact h1 _ h
   ·exact h2 _ h
  ·intro k hk;rw[List.flatten_append,List.length_append,hfr,hfx]at hk;rw[Nat.zero_add];refine⟨hi k (by rw[Nat.add_mul];exact hk),?_⟩
   split
   ·exact hc k (by assumption)
   ·have:=hx (k-rows.length*sz) (by omega)
    rwa[show rows.length*sz+(k-rows.length*sz)=k by omega]at this
  ·intro k x hk;rw[List.flatten_append]at hk;split
   ·rename_i hlt;rw[List.getElem?_append_left (by omega)]at hk
    exact hr k x hk
   ·rename_i hge;rw[List.getElem?_append_right (by omega),hfr]at hk
    exact hrx _ x hk
 rwa[List.length_append]at key

theorem room_le{n b:Nat}(h:room n b):n*b≤140737488355328∧n≤140737488355328:=by
 unfold room at h;have h1:n*b≤n*max b 1:=Nat.mul_le_mul_left _ (Nat.le_max_left _ _)
 have h2:n*1≤n*max b 1:=Nat.mul_le_mul_left _ (Nat.le_max_right _ _)
 omega

theorem Left.ofDrew{p:Nat}{ws:List (Nat×AObj)}{av:AV}{v:Value}{w':World}{Im':Imm}{g':List Gh}(h:Left P w.drew Im g H p ws av v w' Im' g'):Left P w Im g H p ws av v w' Im' g':=
 ⟨h.rep,h.hr,((Ext.refl w Im g).drew).trans h.ext,h.no⟩

structure SrcX(P:Program)(w:World)(t tx ty e:TypeId)(i:TypeInfo)(z vx:Value)(n:Nat)(ux:Nat→Value):Prop where
 zero:n=0→∀ (base:Option Nat) (m cap:Nat),m≤cap→(Builtin.append_ ⟨[t,tx]⟩ ty ⟨[.slice (base.map fun b=>⟨b,0,none⟩) m cap,vx]⟩).run P w=.ok (.slice (base.map fun b=>⟨b,0,none⟩) m cap) w
 one:∀ u∈(List.range (n*i.size)).map ux,u.oneCell'=true
 room:0<n→∀ {b sLen sCap:Nat} {cur:Array Value} {t':TypeId},w.heap[b]?=some (.cells cur t' (0,0))→sLen+n≤sCap→sLen*i.size+((List.range (n*i.size)).map ux).length≤cur.size →
  (Builtin.append_ ⟨[t,tx]⟩ ty ⟨[.slice (some ⟨b,0,none⟩) sLen sCap,vx]⟩).run P w=.ok (.slice (some ⟨b,0,none⟩) (sLen+n) sCap) (w.setRow b (cur.toList.take (sLen*i.size)++(List.range (n*i.size)).map ux++cur.toList.drop (sLen*i.size+((List.range (n*i.size)).map ux).length)).toArray)
 nil:0<n→(n:Int)≤9223372036854775807→n*i.bytes≤281474976710656 →
  (Builtin.append_ ⟨[t,tx]⟩ ty ⟨[.slice none 0 0,vx]⟩).run P w=.ok (.slice (some ⟨w.heap.size,0,none⟩) n (grownCap w n 0 e)) (w.drew.alloc (.cells (((List.range (n*i.size)).map ux).toArray++Builtin.zeroCells z.cells (grownCap w n 0 e-n)) e))
 grow:0<n→∀ (b:Addr) (sLen sCap:Nat) (olds:List Value),olds.length=sLen*i.size→(∀ (j:Nat) (v:Value),olds[j]?=some v→w.cell? (b.add j)=some v)→sCap<sLen+n→((sLen+n:Nat):Int)≤9223372036854775807→Builtin.nextslicecap (sLen+n) sCap*i.bytes≤281474976710656 →
  (Builtin.append_ ⟨[t,tx]⟩ ty ⟨[.slice (some b) sLen sCap,vx]⟩).run P w=.ok (.slice (some ⟨w.heap.size,0,none⟩) (sLen+n) (grownCap w (sLen+n) sCap e)) (w.drew.alloc (.cells (olds.toArray++((List.range (n*i.size)).map ux).toArray++Builtin.zeroCells z.cells (grownCap w (sLen+n) sCap e-(sLen+n))) e))
theorem srcX_slice{t ty e:TypeId}(ht:P.underlying t=some (.slice e)){i:TypeInfo}{z:Value}(hi:P.info? e=some i)(hzv:i.zero=some z){vx:Value}{xs:List (List Dt)}(hvx:RepD w Im vx (.sl xs))(h2:fits i.size xs) :
  ∃ ux:Nat→Value,SrcX P w t t ty e i z vx xs.length ux∧∀ (k:Nat) (x:Dt),xs.flatten[k]?=some x→RepD w Im (ux k) x:=by
 obtain⟨ax,cx,rfl,hcx,hdx⟩:=hvx.rows
 rcases hdx with rfl|⟨bx,ox,sx,ux,rfl,hsx,himx,hrx⟩
 ·refine⟨fun _=>undef,⟨fun _ base m cap hm=>run_append_zero (P:=P) ht (by unfold szOf;rw[hi];rfl) hm,by simp,fun h=>absurd h (by simp),fun h=>absurd h (by simp),fun h=>absurd h (by simp)⟩,fun k x hx=>by simp at hx⟩
 ·have hfx:=flatten_len h2
  have hnews:=cells_list (Im:=Im) (w:=w) (b:=bx) (o:=ox) (n:=xs.length*i.size) (us:=ux) (fun k hk=>himx k (by rw[hfx];exact hk))
  have hnl:((List.range (xs.length*i.size)).map ux).length=xs.length*i.size:=by simp
  have h1:∀ u∈(List.range (xs.length*i.size)).map ux,u.oneCell'=true:=by
   intro u hu;simp only[List.mem_map,List.mem_range]at hu;obtain⟨k,hk,rfl⟩:=hu
   have hk':k<xs.flatten.length:=by rw[hfx];exact hk
   exact(hrx k _ (List.getElem?_eq_getElem hk')).one
  refine⟨ux,⟨fun h0 base m cap hm=>?_,h1,fun _ {b sLen sCap cur t'} hb hr hf=>run_append_room' (P:=P) (ty:=ty) (c:=cx) ht hi hb hnl hnews h1 hr hf,fun h0 h63 h48=>run_append_nil (P:=P) w t ty e i z ht hi hzv ⟨bx,ox,none⟩ xs.length cx _ hnl hnews h0 h63 h48,
   fun _ b sLen sCap olds ho hc hg h63 hfit=>run_append_grow (P:=P) w t ty e i z ht hi hzv b sLen sCap olds ho hc ⟨bx,ox,none⟩ xs.length cx _ hnl hnews hg h63 hfit⟩,hrx⟩
  rw[h0];exact run_append_zero (P:=P) ht (by unfold szOf;rw[hi];rfl) hm
theorem byteRows_at(s:List UInt8)(k:Nat):(byteRows s).flatten[k]?=(s[k]?).map fun b=>.int .u8 (b.toNat:Int):=by
 induction s generalizing k with
 | nil=>simp[byteRows]
 | cons b s ih=>
  have:(byteRows (b::s)).flatten=.int .u8 (b.toNat:Int)::(byteRows s).flatten:=rfl
  rw[this]
  cases k with
  | zero=>rfl
  | succ k=>simpa using ih k
theorem srcX_str{t tx ty e:TypeId}(ht:P.underlying t=some (.slice e))(hu:P.underlying tx=some .string){i:TypeInfo}{z:Value}(hi:P.info? e=some i)(hzv:i.zero=some z)(s:List UInt8)(h2:fits i.size (byteRows s)) :
  ∃ ux:Nat→Value,SrcX P w t tx ty e i z (.string ⟨⟨s⟩⟩) (byteRows s).length ux∧∀ (k:Nat) (x:Dt),(byteRows s).flatten[k]?=some x→RepD w Im (ux k) x:=by
 have hl:(byteRows s).length=s.length:=List.length_map _
 have hsz:(⟨⟨s⟩⟩:ByteArray).size=s.length:=rfl
 have hcells:Lib.strCells ⟨⟨s⟩⟩=(List.range (s.length*1)).map fun k=>Value.int .u8 (((s[k]?).getD 0).toNat:Int):=by
  apply List.ext_getElem?
  intro k;rw[List.getElem?_map]
  unfold Lib.strCells;by_cases hk:k<s.length
  ·rw[List.getElem?_range (by omega)]
   simp[hk]
  ·rw[List.getElem?_eq_none (by simp;omega),List.getElem?_eq_none (by simp;omega)];rfl
 refine⟨fun k=>Value.int .u8 (((s[k]?).getD 0).toNat:Int),?_,fun k x hx=>?_⟩
 ·rw[hl];by_cases h0:s.length=0
  ·have hs0:s=[]:=List.eq_nil_of_length_eq_zero h0
   subst hs0;refine⟨fun _ base m cap hm=>?_,by simp,fun h=>absurd h (by simp),fun h=>absurd h (by simp),fun h=>absurd h (by simp)⟩
   have hf:(Builtin.firstCells i.size 0 (.string ⟨⟨[]⟩⟩)).run P w=.ok #[] w:=Lib.run_firstCells_string (P:=P) (w:=w) i.size ⟨⟨[]⟩⟩
   have hz0:(⟨⟨[]⟩⟩:ByteArray).size=0:=rfl
   cases base with
   | none=>simp[Builtin.append_,run_underlying ht,run_underlying hu,sizeOf,typeInfo,hi,Builtin.lenOf,hz0,hm,hf]
   | some b=>simp[Builtin.append_,run_underlying ht,run_underlying hu,sizeOf,typeInfo,hi,Builtin.lenOf,hz0,hm,hf,storeCells]
  ·have hs1:i.size=1:=by
    cases s with
    | nil=>exact absurd rfl h0
    | cons b s=>have:=h2 _ (List.mem_cons_self ..);simpa using this.symm
   have e1:(Array.map (fun b:UInt8=>Value.int .u8 (b.toNat:Int)) (⟨⟨s⟩⟩:ByteArray).data)=(Lib.strCells ⟨⟨s⟩⟩).toArray:=by apply Array.ext';simp[Lib.strCells]
   refine⟨fun h=>absurd h h0,by rw[hs1,←hcells];exact Lib.strCells_oneCell _,fun _ {b sLen sCap cur t'} hb hr hf=>?_,fun h0 h63 h48=>?_,fun _ b sLen sCap olds ho hc hg h63 hfit=>?_⟩
   ·rw[hs1,←hcells]at hf ⊢;have hfc:=Lib.run_firstCells_string (P:=P) (w:=w) 1 ⟨⟨s⟩⟩
    have hst:=run_storeCells_at P b sLen t' (Lib.strCells ⟨⟨s⟩⟩) 0 cur w hb (by simpa using hf) (Lib.strCells_oneCell _)
    rw[hsz]at hfc;simp only[Nat.add_zero,Nat.mul_one]at hst hfc ⊢;simp[Builtin.append_,run_underlying ht,run_underlying hu,sizeOf,typeInfo,hi,hs1,Builtin.lenOf,hsz,hr,hfc,Addr.add_lit,hst]
   ·have:=run_append_nil_string (P:=P) w t tx ty e i z ht hu hi hzv ⟨⟨s⟩⟩ h0 h63 h48
    rw[e1]at this;rw[hs1,←hcells];exact this
   ·have:=Lib.run_append_grow_string (P:=P) (w:=w) t tx ty e i z ht hu hi hzv b sLen sCap olds ho hc ⟨⟨s⟩⟩ hg h63 hfit
    rw[hs1,←hcells];exact this
 ·rw[byteRows_at]at hx
  cases hk:s[k]? with
  | none=>rw[hk]at hx;cases hx
  | some b=>
   rw[hk]at hx
   cases hx;show RepD w Im (Value.int .u8 (((s[k]?).getD 0).toNat:Int)) _
   rw[hk];exact .int _ _

theorem append_new(hH:HR P w Im g H){t tx ty e:TypeId}{sz by':Nat}(hz:szZ P e=some sz)(hby:bytesOf P e=some by'){p r ep:Nat}(hr:FreeAt g r ep sz)(hpr:p=r∨g[r]?≠some .no)
  {base:Option Nat} {cap:Nat} {rows xs:List (List Dt)} {vx:Value} (hv:RepD w Im (.slice (base.map fun b=>⟨b,0,none⟩) rows.length cap) (.sl rows)) (hsrc:∀ (i:TypeInfo) (z:Value),P.info? e=some i→i.zero=some z→fits i.size xs→∃ ux:Nat→Value,SrcX P w t tx ty e i z vx xs.length ux∧∀ (k:Nat) (x:Dt),xs.flatten[k]?=some x→RepD w Im (ux k) x) (h1:fits sz rows) (h2:fits sz xs)
  (hm:0<xs.length) (hcap:cap<rows.length+xs.length) (hbc:base=none→cap=0) (hroom:room (rows.length+xs.length) by') :
  ∃ v w' Im' g',(Builtin.append_ ⟨[t,tx]⟩ ty ⟨[.slice (base.map fun b=>⟨b,0,none⟩) rows.length cap,vx]⟩).run P w=.ok v w'∧Left P w Im g H p [(r,.grow ep sz)] (.grow r ep (rows++xs)) v w' Im' g':=by
 obtain⟨hs,hpos,i,z,hi,rfl,hzv,hzs,_,_⟩:=szZ_some hz
 obtain⟨i',hi',rfl⟩:=bytesOf_some hby
 rw[hi]at hi'
 cases hi';obtain⟨hb1,hb2⟩:=room_le hroom
 obtain⟨ux,hS,hrx⟩:=hsrc i z hi hzv h2
 have hfx:=flatten_len h2
 have hfr:=flatten_len h1
 have hnl:((List.range (xs.length*i.size)).map ux).length=xs.length*i.size:=by simp
 have hold:∃ us:Nat→Value,(∀ k,k<rows.length*i.size→∃ b,base=some b∧Im b k∧w.cell? ⟨b,k,none⟩=some (us k))∧∀ (k:Nat) (x:Dt),rows.flatten[k]?=some x→RepD w Im (us k) x:=by
  obtain⟨a',c',he,_,hd⟩:=hv.rows
  cases he;rcases hd with rfl|⟨b,o,s,us,hbe,hss,him,hrep⟩
  ·exact⟨fun _=>undef,fun k hk=>by simp at hk,fun k x hx=>by simp at hx⟩
  ·cases base with
   | none=>cases hbe
   | some b'=>
    simp at hbe;obtain⟨rfl,rfl⟩:=hbe
    refine⟨us,fun k hk=>⟨b',rfl,?_⟩,hrep⟩
    have:=him k (by rw[hfr];exact hk)
    simpa using this
 obtain⟨us,hus,hur⟩:=hold
 have holdsl:((List.range (rows.length*i.size)).map us).length=rows.length*i.size:=by simp
 have fin:∀ (nc:Nat) (A:Array Value),rows.length+xs.length≤nc→A.toList=(List.range (rows.length*i.size)).map us++(List.range (xs.length*i.size)).map ux++(Builtin.zeroCells z.cells (nc-(rows.length+xs.length))).toList →
   ∃ Im' g',Left P w Im g H p [(r,.grow ep i.size)] (.grow r ep (rows++xs)) (.slice (some ⟨w.heap.size,0,none⟩) (rows.length+xs.length) nc) (w.drew.alloc (.cells A e)) Im' g':=by
  intro nc A hnc hA
  have hAl:A.toList.length=nc*i.size:=by
   rw[hA];simp only[List.length_append,List.length_map,List.length_range,Array.length_toList,size_zeroCells,hzs];rw[←Nat.add_mul,←Nat.add_mul];congr 1
   omega
  have hd:HR P w.drew Im g H:=hH.drawn _
  have:=left_grow_new (p:=p) hd hr hpr (vs:=A.toList) (t:=e) (len:=rows.length+xs.length) (cap:=nc) (av:=.grow r ep (rows++xs)) (v:=.slice (some ⟨w.heap.size,0,none⟩) (rows.length+xs.length) nc) hAl hnc ?_
  ·obtain⟨Im',g',hl⟩:=this
   exact⟨Im',g',Left.ofDrew hl⟩
  ·intro Im' g' hin hg' hext
   have hcell:∀ k,(w.drew.alloc (.cells ⟨A.toList⟩ e)).cell? ⟨w.heap.size,k,none⟩=A.toList[k]?:=by
    intro k;have:=heap_alloc_new w.drew (.cells ⟨A.toList⟩ e)
    have h':(w.drew.alloc (.cells ⟨A.toList⟩ e)).heap[w.heap.size]?=some (.cells ⟨A.toList⟩ e (0,0)):=this
    have h2:=cell_of_row _ _ k ⟨A.toList⟩ e (0,0) h'
    simpa using h2
   refine .grow ?_ hg' ?_ (Nat.le_refl _) (fun _=>⟨by simp,rfl⟩)
   ·refine repD_join (us:=us) (ux:=ux) hnc h1 h2 (fun k hk=>hin k hk) ?_ ?_ ?_ ?_
    ·intro k hk;rw[hcell,hA,List.append_assoc,List.getElem?_append_left (by rw[holdsl];exact hk)]
     exact range_map_at hk
    ·intro k hk;rw[hcell,hA,List.append_assoc,List.getElem?_append_right (by rw[holdsl];omega),holdsl,List.getElem?_append_left (by rw[hnl];omega)]
     rw[show rows.length*i.size+k-rows.length*i.size=k by omega]
     exact range_map_at hk
    ·intro k x hx;exact RepD.ext (w:=w) (Im:=Im) (hur k x hx) hext.hm
    ·intro k x hx;exact RepD.ext (w:=w) (Im:=Im) (hrx k x hx) hext.hm
   ·intro row hrow;rcases List.mem_append.1 hrow with h|h
    ·exact h1 _ h
    ·exact h2 _ h
 cases base with
 | none=>
  have hc0:=hbc rfl
  subst hc0
  have hr0:rows=[]:=by
   obtain⟨a',c',he,hcc,_⟩:=hv.rows
   cases he;rcases hcc with h|h
   ·exact List.eq_nil_of_length_eq_zero (by omega)
   ·exact h
  subst hr0;simp only[List.length_nil,Nat.zero_add]at hb1 hb2 fin ⊢;have hrun:=hS.nil hm (by omega) (by omega)
  obtain⟨Im',g',hl⟩:=fin (grownCap w xs.length 0 e) (((List.range (xs.length*i.size)).map ux).toArray++Builtin.zeroCells z.cells (grownCap w xs.length 0 e-xs.length)) (grownCap_ge w xs.length 0 e) (by simp)
  exact⟨_,_,Im',g',hrun,hl⟩
 | some b=>
  have holds:=cells_list (Im:=Im) (w:=w) (b:=b) (o:=0) (n:=rows.length*i.size) (us:=us) (fun k hk=>by
   obtain⟨b',he,h1,h2⟩:=hus k hk
   cases he;rw[Nat.zero_add]
   exact⟨h1,h2⟩)
  have hrun:=hS.grow hm ⟨b,0,none⟩ rows.length cap _ holdsl holds hcap (by omega) (growslice_fits hcap hb1)
  obtain⟨Im',g',hl⟩:=fin (grownCap w (rows.length+xs.length) cap e) (((List.range (rows.length*i.size)).map us).toArray++((List.range (xs.length*i.size)).map ux).toArray++Builtin.zeroCells z.cells (grownCap w (rows.length+xs.length) cap e-(rows.length+xs.length))) (grownCap_ge w (rows.length+xs.length) cap e) (by simp)
  exact⟨_,_,Im',g',hrun,hl⟩

theorem zeroCells_one{z:Array Value}(hz:0<z.size)(h:∀ u,u∈z→u.oneCell'=true){n:Nat}:∀ u,u∈(Builtin.zeroCells z n).toList→u.oneCell'=true:=by
 intro u hu;unfold Builtin.zeroCells at hu;simp only[Array.toList_map,List.mem_map]at hu;obtain⟨i,_,rfl⟩:=hu
 have hi:i%z.size<z.size:=Nat.mod_lt _ hz
 rw[getElem!_pos z _ hi];exact h _ (Array.getElem_mem hi)
theorem stk_rep{Im:Imm}{cs:List AV}{vs rest:List Value}{xs:List AV}{k:Nat}{ux:Nat→Value}(hk:k≤cs.length)(hcl:cs.length≤vs.length)(hrep:∀ (i:Nat) (v:Value) (c:AV),vs[i]?=some v→cs[i]?=some c→RepA w Im g v c)
  (hux:∀ (i:Nat) (x:AV),xs[i]?=some x→RepA w Im g (ux i) x) :
  ∀ (i:Nat) (v:Value) (c:AV),(vs.take k++(List.range xs.length).map ux++rest)[i]?=some v→(cs.take k++xs)[i]?=some c→RepA w Im g v c:=by
 intro i v c hv hc;by_cases hi:i<k
 ·rw[List.append_assoc,List.getElem?_append_left (by simp;omega),List.getElem?_take,if_pos hi]at hv
  rw[List.getElem?_append_left (by simp;omega),List.getElem?_take,if_pos hi]at hc
  exact hrep i v c hv hc
 ·rw[List.getElem?_append_right (by simp;omega),List.length_take,Nat.min_eq_left hk]at hc
  rw[List.append_assoc,List.getElem?_append_right (by simp;omega),List.length_take,Nat.min_eq_left (by omega)]at hv
  have hlt:=(List.getElem?_eq_some_iff.1 hc).1
  rw[List.getElem?_append_left (by simp;exact hlt),range_map_at hlt]at hv
  cases hv;exact hux _ c hc
theorem stkAppC_ok(hH:HR P w Im g H){t tx ty e:TypeId}{sz by':Nat}(hz:szZ P e=some sz)(hby:bytesOf P e=some by'){p r e' n m:Nat}{new cs:List AV}{vs vx:Value}
  (hs:RepA w Im g vs (.stk r e' n)) (hsrc:∀ (i:TypeInfo) (z:Value),P.info? e=some i→i.zero=some z→∃ ux:Nat→Value,SrcX P w t tx ty e i z vx m ux∧∀ (k:Nat) (x:AV),new[k]?=some x→RepA w Im g (ux k) x)
  (hHr:H[r]?=some (.stk e' sz cs)) (hm:0<m) (hnl0:new.length=m*sz) (hncs:n*sz≤cs.length) (hroom:room (n+m) by') :
  ∃ v w' Im' g',(Builtin.append_ ⟨[t,tx]⟩ ty ⟨[vs,vx]⟩).run P w=.ok v w'∧Left P w Im g H p [(r,.stk (e'+1) sz (cs.take (n*sz)++new))] (.stk r (e'+1) (n+m)) v w' Im' g':=by
 obtain⟨base,cap,hg,hbc,hcc,hblk⟩:=hH.stk r e' sz cs hHr
 obtain⟨hs',hpos,i,z,hi,rfl,hzv,hzs,_,hz1⟩:=szZ_some hz
 obtain⟨i',hi',rfl⟩:=bytesOf_some hby
 rw[hi]at hi'
 cases hi';obtain⟨hb1,hb2⟩:=room_le hroom
 cases hs with
 | @stk _ _ _ _ _ _ _ _ b0 c0 hg' hle hpos' hcn he=>
  rw[hg]at hg'
  cases hg';obtain⟨rfl,rfl⟩:=he rfl
  obtain⟨ux,hS,hrx⟩:=hsrc i z hi hzv
  have hfx:=hnl0
  have hnl:((List.range (m*i.size)).map ux).length=m*i.size:=by simp
  have h1n:=hS.one
  have hfree:FreeAt g r (e'+1) i.size:=.inr ⟨_,_,_,_,hg,by omega⟩
  have hpr:p=r∨g[r]?≠some .no:=.inr (by rw[hg];simp)
  have hcl2:(cs.take (n*i.size)++new).length=(n+m)*i.size:=by
   simp only[List.length_append,List.length_take,hfx,Nat.min_eq_left hncs,Nat.add_mul]
  by_cases hcap:n+m≤c0
  ·cases b0 with
   | none=>have:=hbc rfl;omega
   | some bk=>
    obtain⟨vs0,ty',j1,j2,j3,j4,j5,j6⟩:=hblk bk rfl (by omega)
    have hadd:(n+m)*i.size=n*i.size+m*i.size:=Nat.add_mul _ _ _
    have hmul:(n+m)*i.size≤c0*i.size:=Nat.mul_le_mul_right _ hcap
    have hrun:=hS.room hm j1 hcap (by rw[hnl];show _≤vs0.length;omega)
    obtain⟨g',hl,_⟩:=left_stk_set (p:=p) hH (e':=e'+1) hg (by omega) (by omega) j1 (vs':=vs0.take (n*i.size)++(List.range (m*i.size)).map ux++vs0.drop (n*i.size+((List.range (m*i.size)).map ux).length)) (cs':=cs.take (n*i.size)++new)
     (by simp;omega) j6 (by rw[hcl2];simp;omega) (by
      have:=stk_rep (w:=w) (g:=g) (Im:=Im) (rest:=vs0.drop (n*i.size+((List.range (m*i.size)).map ux).length)) hncs j3 j4 hrx
      rw[hfx]at this;exact this) (by
      intro v hv;rcases List.mem_append.1 hv with h|h
      ·rcases List.mem_append.1 h with h|h
       ·exact j5 v (List.mem_of_mem_take h)
       ·exact h1n v h
      ·exact j5 v (List.mem_of_mem_drop h))
     (av:=.stk r (e'+1) (n+m)) (v:=.slice (Option.map (fun b=>⟨b,0,none⟩) (some bk)) (n+m) c0) (fun w' g' hg' _=>.stk hg' (Nat.le_refl _) (fun _=>by simp) hcap (fun _=>⟨rfl,rfl⟩))
    exact⟨_,_,Im,g',hrun,hl⟩
  ·have fin:∀ (nc:Nat) (A:Array Value) (vo:List Value),n+m≤nc→vo.length=n*i.size→(∀ (j:Nat) (v:Value) (c:AV),vo[j]?=some v→cs[j]?=some c→RepA w Im g v c)→(∀ v,v∈vo→v.oneCell'=true) →
     A.toList=vo++(List.range (m*i.size)).map ux++(Builtin.zeroCells z.cells (nc-(n+m))).toList →
     ∃ Im' g',Left P w Im g H p [(r,.stk (e'+1) i.size (cs.take (n*i.size)++new))] (.stk r (e'+1) (n+m)) (.slice (some ⟨w.heap.size,0,none⟩) (n+m) nc) (w.drew.alloc (.cells A e)) Im' g':=by
    intro nc A vo hnc hvo hvr hv1 hA
    have hAl:A.toList.length=nc*i.size:=by
     rw[hA];simp only[List.length_append,List.length_map,List.length_range,Array.length_toList,size_zeroCells,hzs,hvo];rw[←Nat.add_mul,←Nat.add_mul];congr 1
     omega
    have hd:HR P w.drew Im g H:=hH.drawn _
    have hmul:(n+m)*i.size≤nc*i.size:=Nat.mul_le_mul_right _ hnc
    obtain⟨g',hl⟩:=left_stk_new (p:=p) hd hfree hpr (vs:=A.toList) (t:=e) (cap:=nc) hAl (by omega) (cs:=cs.take (n*i.size)++new) (by rw[hcl2,hAl];exact hmul) (by
      rw[hA];intro j v c hv hc
      have key:=stk_rep (w:=w) (g:=g) (Im:=Im) (cs:=cs.take (n*i.size)) (vs:=vo) (xs:=new) (k:=n*i.size) (ux:=ux) (rest:=(Builtin.zeroCells z.cells (nc-(n+m))).toList) (by simp;omega) (by simp;omega) (fun j v c hv hc=>by
       rw[List.getElem?_take]at hc
       split at hc
       ·exact hvr j v c hv hc
       ·cases hc) hrx
      rw[hfx,List.take_of_length_le (by omega:vo.length≤n*i.size),List.take_of_length_le (by simp;omega:(cs.take (n*i.size)).length≤n*i.size)]at key
      exact(key j v c hv hc).ext ((Ext.refl w Im g).drew)) (by
      rw[hA];intro v hv;rcases List.mem_append.1 hv with h|h
      ·rcases List.mem_append.1 h with h|h
       ·exact hv1 v h
       ·exact h1n v h
      ·exact zeroCells_one (by rw[hzs];exact hpos) hz1 v h)
     (av:=.stk r (e'+1) (n+m)) (v:=.slice (Option.map (fun b=>⟨b,0,none⟩) (some w.heap.size)) (n+m) nc) (fun g' hg'=>.stk hg' (Nat.le_refl _) (fun _=>by simp) hnc (fun _=>⟨rfl,rfl⟩))
    exact⟨Im,g',Left.ofDrew hl⟩
   cases b0 with
   | none=>
    have hc0:=hbc rfl
    subst hc0;have hn0:n=0:=by omega
    subst hn0;simp only[Nat.zero_add]at hb1 hb2 fin ⊢;have hrun:=hS.nil hm (by omega) (by omega)
    obtain⟨Im',g',hl⟩:=fin (grownCap w m 0 e) (((List.range (m*i.size)).map ux).toArray++Builtin.zeroCells z.cells (grownCap w m 0 e-m)) [] (grownCap_ge w m 0 e) (by simp) (fun j v c hv=>by simp at hv) (fun v hv=>by simp at hv) (by simp)
    exact⟨_,_,Im',g',hrun,hl⟩
   | some b=>
    have hold:∃ vo:List Value,vo.length=n*i.size∧(∀ (j:Nat) (v:Value),vo[j]?=some v→w.cell? ((⟨b,0,none⟩:Addr).add j)=some v)∧(∀ (j:Nat) (v:Value) (c:AV),vo[j]?=some v→cs[j]?=some c→RepA w Im g v c)∧∀ v,v∈vo→v.oneCell'=true:=by
     by_cases hc0:0<c0
     ·obtain⟨vs0,ty',j1,j2,j3,j4,j5,j6⟩:=hblk b rfl hc0
      refine⟨vs0.take (n*i.size),by simp;omega,fun j v hv=>?_,fun j v c hv hc=>?_,fun v hv=>j5 v (List.mem_of_mem_take hv)⟩
      ·rw[List.getElem?_take]at hv
       split at hv
       ·rw[Addr.add_lit,cell_of_row _ _ _ ⟨vs0⟩ ty' (0,0) j1];simpa using hv
       ·cases hv
      ·rw[List.getElem?_take]at hv
       split at hv
       ·exact j4 j v c hv hc
       ·cases hv
     ·have hn0:n=0:=by omega
      subst hn0;exact⟨[],by simp,fun j v hv=>by simp at hv,fun j v c hv=>by simp at hv,fun v hv=>by simp at hv⟩
    obtain⟨vo,hvo,hvc,hvr,hv1⟩:=hold
    have hrun:=hS.grow hm ⟨b,0,none⟩ n c0 vo hvo hvc (by omega) (by omega) (growslice_fits (by omega) hb1)
    obtain⟨Im',g',hl⟩:=fin (grownCap w (n+m) c0 e) (vo.toArray++((List.range (m*i.size)).map ux).toArray++Builtin.zeroCells z.cells (grownCap w (n+m) c0 e-(n+m))) vo (grownCap_ge w (n+m) c0 e) hvo hvr hv1 (by simp)
    exact⟨_,_,Im',g',hrun,hl⟩
theorem stkApp_ok(hH:HR P w Im g H){t tx ty e:TypeId}{sz by':Nat}(hz:szZ P e=some sz)(hby:bytesOf P e=some by'){p r ep n:Nat}{xs:List (List Dt)}{vs vx:Value}{av:AV}{ws:List (Nat×AObj)}
  (hs:RepA w Im g vs (.stk r ep n)) (hsrc:∀ (i:TypeInfo) (z:Value),P.info? e=some i→i.zero=some z→fits i.size xs→∃ ux:Nat→Value,SrcX P w t tx ty e i z vx xs.length ux∧∀ (k:Nat) (x:Dt),xs.flatten[k]?=some x→RepD w Im (ux k) x) (h:stkApp r ep n sz by' xs (H.getD r .no)=some (.val av ws)) :
  ∃ v w' Im' g',(Builtin.append_ ⟨[t,tx]⟩ ty ⟨[vs,vx]⟩).run P w=.ok v w'∧Left P w Im g H p ws av v w' Im' g':=by
 unfold stkApp at h;split at h
 ·rename_i x0 xs0 e' s' cs hget;generalize hxs:x0::xs0=xs at h hsrc;have hm:0<xs.length:=by rw[←hxs];simp
  split at h
  ·rename_i hc;obtain⟨rfl,rfl,hf,hncs,hroom⟩:=hc
   cases h
   have hHr:H[r]?=some (.stk e' s' cs):=by
    rw[List.getD_eq_getElem?_getD]at hget
    cases hr:H[r]? with
    | none=>rw[hr]at hget;cases hget
    | some o=>rw[hr]at hget;simp at hget;rw[hget]
   refine stkAppC_ok hH hz hby hs (fun i z hi hzv=>?_) hHr hm (by rw[List.length_map];exact flatten_len hf) hncs hroom
   obtain⟨_,_,i',z',hi',he',_⟩:=szZ_some hz
   rw[hi]at hi'
   cases hi';obtain⟨ux,hS,hrx⟩:=hsrc i z hi hzv (by rw[he'];exact hf)
   refine⟨ux,hS,fun k x hx=>?_⟩
   rw[List.getElem?_map]at hx
   cases hy:xs.flatten[k]? with
   | none=>rw[hy]at hx;cases hx
   | some y=>rw[hy]at hx;cases hx;exact .d (hrx k y hy)
  ·cases h
 ·cases h

theorem appendG_ok(hH:HR P w Im g H){t tx ty e:TypeId}{sz b:Nat}(hz:szZ P e=some sz)(hb:bytesOf P e=some b){p:Nat}(hp:g[p]?=some .no){s:AV}{xs:List (List Dt)}{vs vx:Value}{av:AV}{ws:List (Nat×AObj)}(hs:RepA w Im g vs s)
  (hsrc:∀ (i:TypeInfo) (z:Value),P.info? e=some i→i.zero=some z→fits i.size xs→∃ ux:Nat→Value,SrcX P w t tx ty e i z vx xs.length ux∧∀ (k:Nat) (x:Dt),xs.flatten[k]?=some x→RepD w Im (ux k) x)
  (hns:∀ r e n,s≠.stk r e n) (h:appendK p H s (some sz) (some b) (some xs)=some (.val av ws)) :
  ∃ v w' Im' g',(Builtin.append_ ⟨[t,tx]⟩ ty ⟨[vs,vx]⟩).run P w=.ok v w'∧Left P w Im g H p ws av v w' Im' g':=by
 cases s with
 | grow r ep rows=>
  simp only[appendK]at h;unfold growK at h;split at h
  ·rename_i e' esz hget;split at h
   ·rename_i hc;obtain⟨rfl,rfl,hf,hroom⟩:=hc
    cases h
    have hHr:H[r]?=some (.grow e' esz):=by
     rw[List.getD_eq_getElem?_getD]at hget
     cases hr:H[r]? with
     | none=>rw[hr]at hget;cases hget
     | some o=>rw[hr]at hget;simp at hget;rw[hget]
    obtain⟨base,len,cap,hg,hlc,hbc,hblk⟩:=hH.grow r e' esz hHr
    cases hs with
    | grow hv hg' hsz hle hcur=>
     rw[hg]at hg'
     cases hg';obtain⟨rfl,rfl⟩:=hcur rfl
     have hfree:FreeAt g r (e'+1) esz:=.inr ⟨_,_,_,_,hg,by omega⟩
     have hpr:p=r∨g[r]?≠some .no:=.inr (by rw[hg];simp)
     by_cases hm:0<xs.length
     ·by_cases hcap:rows.length+xs.length≤cap
      ·cases base with
       | none=>have:=hbc rfl;omega
       | some bk=>
        obtain⟨cur,ty',hb1,hb2,hb3⟩:=hblk bk rfl (by omega)
        obtain⟨hs',hpos,i,z,hi,hie,hzv,hzs,_,_⟩:=szZ_some hz
        subst hie;obtain⟨ux,hS,hrx⟩:=hsrc i z hi hzv hf
        have hfx:=flatten_len hf
        have hfr:=flatten_len hsz
        have hnl:((List.range (xs.length*i.size)).map ux).length=xs.length*i.size:=by simp
        have hfit:rows.length*i.size+((List.range (xs.length*i.size)).map ux).length≤(⟨cur⟩:Array Value).size:=by
         rw[hnl,←Nat.add_mul];show _≤cur.length
         rw[hb2];exact Nat.mul_le_mul_right _ hcap
        have hrun:=hS.room hm hb1 hcap hfit
        obtain⟨Im',g',hl⟩:=left_grow_room (p:=p) hH hg hHr hm hcap hb1 hb2 hnl hb3 (av:=.grow r (e'+1) (rows++xs)) (v:=.slice (some ⟨bk,0,none⟩) (rows.length+xs.length) cap) (by
         intro Im' g' w' hin hg' hext hnew;refine .grow ?_ hg' ?_ (Nat.le_refl _) (fun _=>⟨by simp,rfl⟩)
         ·obtain⟨a',c',he',_,hd⟩:=hv.rows
          cases he'
          have hold:∃ us:Nat→Value,(∀ k,k<rows.length*i.size→Im bk k∧w.cell? ⟨bk,k,none⟩=some (us k))∧∀ (k:Nat) (x:Dt),rows.flatten[k]?=some x→RepD w Im (us k) x:=by
           rcases hd with rfl|⟨b',o',s',us,hbe,hss,him,hrep⟩
           ·exact⟨fun _=>undef,fun k hk=>by simp at hk,fun k x hx=>by simp at hx⟩
           ·simp at hbe;obtain⟨rfl,rfl⟩:=hbe
            refine⟨us,fun k hk=>?_,hrep⟩
            have:=him k (by rw[hfr];exact hk)
            simpa using this
          obtain⟨us,hus,hur⟩:=hold
          refine repD_join (us:=us) (ux:=ux) hcap hsz hf (fun k hk=>?_) (fun k hk=>?_) (fun k hk=>?_) (fun k x hx=>(hur k x hx).ext hext.hm) (fun k x hx=>(hrx k x hx).ext hext.hm)
          ·by_cases hk':k<rows.length*i.size
           ·exact hext.mono _ _ (hus k hk').1
           ·exact hin k (by omega) hk
          ·exact(hext.keep _ _ (hus k hk).1).trans (hus k hk).2
          ·exact hnew k _ (range_map_at hk)
         ·intro row hrow;rcases List.mem_append.1 hrow with h|h
          ·exact hsz _ h
          ·exact hf _ h)
        exact⟨_,_,Im',g',hrun,hl⟩
      ·exact append_new hH hz hb hfree hpr hv hsrc hsz hf hm (by omega) hbc hroom
     ·have hxe:xs=[]:=List.eq_nil_of_length_eq_zero (by omega)
      subst hxe;obtain⟨_,_,i0,z0,hi0,hie0,hzv0,_⟩:=szZ_some hz
      obtain⟨_,hS,_⟩:=hsrc i0 z0 hi0 hzv0 (by intro row hrow;cases hrow)
      have hrun:=hS.zero rfl base rows.length cap hlc
      obtain⟨g',hl⟩:=left_grow_same (p:=p) hH hfree hpr (base:=base) hlc hbc (fun _=>⟨e',hg,hHr⟩) (av:=.grow r (e'+1) (rows++[])) (v:=.slice (base.map fun b=>⟨b,0,none⟩) rows.length cap) (by
       intro g' hg' hext;refine .grow ?_ hg' (by simpa using hsz) (Nat.le_refl _) (fun _=>⟨by simp,rfl⟩)
       rw[List.append_nil];exact hv.ext hext.hm)
      exact⟨_,_,Im,g',hrun,hl⟩
   ·cases h
  ·cases h
 | full rows=>
  simp only[appendK]at h;split at h
  ·rename_i hc;obtain⟨hf1,hf2,hroom⟩:=hc
   cases h
   cases hs with
   | full hv=>
    rename_i a;have hfree:FreeAt g p 0 sz:=.inl hp
    have hbc:a=none→rows.length=0:=by
     rintro rfl
     obtain⟨a',c',he',_,hd⟩:=hv.rows
     cases he';rcases hd with rfl|⟨_,_,_,_,h,_⟩
     ·rfl
     ·cases h
    by_cases hm:0<xs.length
    ·exact append_new hH hz hb hfree (.inl rfl) hv hsrc hf1 hf2 hm (by omega) hbc hroom
    ·have hxe:xs=[]:=List.eq_nil_of_length_eq_zero (by omega)
     subst hxe;obtain⟨_,_,i0,z0,hi0,hie0,hzv0,_⟩:=szZ_some hz
     obtain⟨_,hS,_⟩:=hsrc i0 z0 hi0 hzv0 (by intro row hrow;cases hrow)
     have hrun:=hS.zero rfl a rows.length rows.length (Nat.le_refl _)
     obtain⟨g',hl⟩:=left_grow_same (p:=p) (e:=0) (sz:=sz) hH hfree (.inl rfl) (base:=a) (len:=rows.length) (cap:=rows.length) (Nat.le_refl _) hbc (fun h=>absurd h (Nat.lt_irrefl _)) (av:=.grow p 0 (rows++[])) (v:=.slice (a.map fun b=>⟨b,0,none⟩) rows.length rows.length) (by
      intro g' hg' hext;refine .grow ?_ hg' (by rw[List.append_nil];exact hf1) (Nat.le_refl _) (fun _=>⟨by simp,rfl⟩)
      rw[List.append_nil];exact hv.ext hext.hm)
     exact⟨_,_,Im,g',hrun,hl⟩
  ·cases h
 | stk r e n=>exact absurd rfl (hns r e n)
 | _=>simp only[appendK]at h;cases h
theorem getD_some{H:List AObj}{r:Nat}{o:AObj}(h:H.getD r .no=o)(ho:o≠.no):H[r]?=some o:=by
 rw[List.getD_eq_getElem?_getD]at h
 cases hr:H[r]? with
 | none=>rw[hr]at h;exact absurd h.symm ho
 | some o'=>rw[hr]at h;simp at h;rw[h]
theorem srcX_avl{t ty e:TypeId}(ht:P.underlying t=some (.slice e)){i:TypeInfo}{z:Value}(hi:P.info? e=some i)(hzv:i.zero=some z){vx:Value}{m sz:Nat}{xs:List AV}(hvx:RepA w Im g vx (.avl m sz xs))(hm:0<m)(hl:xs.length=m*i.size) :
  ∃ ux:Nat→Value,SrcX P w t t ty e i z vx m ux∧∀ (k:Nat) (x:AV),xs[k]?=some x→RepA w Im g (ux k) x:=by
 cases hvx with
 | @avl bx _ _ cx _ ux hl' hc him hr=>
  have hnews:=cells_list (Im:=Im) (w:=w) (b:=bx) (o:=0) (n:=m*i.size) (us:=ux) (fun k hk=>by
   rw[Nat.zero_add];exact⟨(him k (by rw[hl];exact hk)).1,(him k (by rw[hl];exact hk)).2.1⟩)
  have hnl:((List.range (m*i.size)).map ux).length=m*i.size:=by simp
  have h1:∀ u∈(List.range (m*i.size)).map ux,u.oneCell'=true:=by
   intro u hu;simp only[List.mem_map,List.mem_range]at hu;obtain⟨k,hk,rfl⟩:=hu
   exact(him k (by rw[hl];exact hk)).2.2
  exact⟨ux,⟨fun h0=>absurd h0 (by omega),h1,fun _ {b sLen sCap cur t'} hb hr hf=>run_append_room' (P:=P) (ty:=ty) (c:=cx) ht hi hb hnl hnews h1 hr hf,fun h0 h63 h48=>run_append_nil (P:=P) w t ty e i z ht hi hzv ⟨bx,0,none⟩ m cx _ hnl hnews h0 h63 h48,
   fun _ b sLen sCap olds ho hc hg h63 hfit=>run_append_grow (P:=P) w t ty e i z ht hi hzv b sLen sCap olds ho hc ⟨bx,0,none⟩ m cx _ hnl hnews hg h63 hfit⟩,hr⟩
theorem appendV_ok(hH:HR P w Im g H){t ty e:TypeId}(ht:P.underlying t=some (.slice e)){p m sz:Nat}{s:AV}{xs:List AV}{vs vx:Value}{av:AV}{ws:List (Nat×AObj)}(hs:RepA w Im g vs s)(hx:RepA w Im g vx (.avl m sz xs))(h:appendV H m sz xs s (szZ P e) (bytesOf P e)=some (.val av ws)) :
  ∃ v w' Im' g',(Builtin.append_ ⟨[t,t]⟩ ty ⟨[vs,vx]⟩).run P w=.ok v w'∧Left P w Im g H p ws av v w' Im' g':=by
 unfold appendV at h;split at h
 ·rename_i r e' n s' b hz hb;unfold stkAppV at h;split at h
  ·rename_i e2 s2 cs hget;split at h
   ·rename_i hc;obtain⟨rfl,rfl,rfl,hm,hl,hncs,hroom⟩:=hc
    cases h;have hHr:=getD_some hget (by simp)
    refine stkAppC_ok hH hz hb hs (fun i z hi hzv=>?_) hHr hm hl hncs hroom
    obtain⟨_,_,i',z',hi',he',_⟩:=szZ_some hz
    rw[hi]at hi'
    cases hi';exact srcX_avl ht hi hzv hx hm (by rw[hl,he'])
   ·cases h
  ·cases h
 ·cases h
theorem appendA_ok(hH:HR P w Im g H){t ty:TypeId}{p:Nat}(hp:g[p]?=some .no){s x:AV}{vs vx:Value}{av:AV}{ws:List (Nat×AObj)}(hs:RepA w Im g vs s)(hx:RepA w Im g vx x)(h:appendA P p t H s x=some (.val av ws)) :
  ∃ v w' Im' g',(Builtin.append_ ⟨[t,t]⟩ ty ⟨[vs,vx]⟩).run P w=.ok v w'∧Left P w Im g H p ws av v w' Im' g':=by
 unfold appendA appendT appendX at h;split at h
 ·rename_i e he;have ht:=elemT_some he
  split at h
  ·exact appendV_ok hH ht hs hx h
  cases hz:szZ P e with
  | none=>rw[hz]at h;cases s<;>(simp only[appendK]at h;cases h)
  | some sz=>
   cases hb:bytesOf P e with
   | none=>rw[hz,hb]at h;cases s<;>(simp only[appendK]at h;cases h)
   | some b=>
    cases hxs:rowsA x with
    | none=>rw[hz,hb,hxs]at h;cases s<;>(simp only[appendK]at h;cases h)
    | some xs=>
     rw[hz,hb,hxs]at h;have hvx:=rowsA_ok hx hxs
     by_cases hst:∃ r e n,s=.stk r e n
     ·obtain⟨r,ep,n,rfl⟩:=hst
      exact stkApp_ok hH hz hb hs (fun i z hi hzv hf=>srcX_slice ht hi hzv hvx hf) h
     ·exact appendG_ok hH hz hb hp hs (fun i z hi hzv hf=>srcX_slice ht hi hzv hvx hf) (fun r e n e0=>hst ⟨r,e,n,e0⟩) h
 ·cases h
theorem appS_ok(hH:HR P w Im g H){t tx ty:TypeId}(hu:P.underlying tx=some .string){p:Nat}(hp:g[p]?=some .no){s:AV}{l:List UInt8}{vs:Value}{av:AV}{ws:List (Nat×AObj)}(hs:RepA w Im g vs s)(h:appendA P p t H s (.d (.sl (byteRows l)))=some (.val av ws)) :
  ∃ v w' Im' g',(Builtin.append_ ⟨[t,tx]⟩ ty ⟨[vs,.string ⟨⟨l⟩⟩]⟩).run P w=.ok v w'∧Left P w Im g H p ws av v w' Im' g':=by
 unfold appendA appendT appendX at h;split at h
 ·rename_i e he;have ht:=elemT_some he
  simp only[rowsA]at h
  cases hz:szZ P e with
  | none=>rw[hz]at h;cases s<;>(simp only[appendK]at h;cases h)
  | some sz=>
   cases hb:bytesOf P e with
   | none=>rw[hz,hb]at h;cases s<;>(simp only[appendK]at h;cases h)
   | some b=>
    rw[hz,hb]at h;by_cases hst:∃ r e n,s=.stk r e n
    ·obtain⟨r,ep,n,rfl⟩:=hst
     exact stkApp_ok hH hz hb hs (fun i z hi hzv hf=>srcX_str ht hu hi hzv l hf) h
    ·exact appendG_ok hH hz hb hp hs (fun i z hi hzv hf=>srcX_str ht hu hi hzv l hf) (fun r e n e0=>hst ⟨r,e,n,e0⟩) h
 ·cases h
end
end Go.Ab
/- The abstract evaluator is right of one operation that calls no function. Conditions: none. -/
namespace Go.Ab
open Go

section
variable {P:Program}{w:World}{Im:Imm}{g:List Gh}{H:List AObj}

theorem flat_len{α:Type}{sz:Nat}:∀ {rows:List (List α)},(∀ row,row∈rows→row.length=sz)→rows.flatten.length=rows.length*sz
 | [],_=>by simp
 | r::rows,h=>by
  rw[List.flatten_cons,List.length_append,h r (by simp),flat_len (fun x hx=>h x (by simp[hx])),List.length_cons,Nat.add_mul];omega
theorem flat_rep{α:Type}{z:List α}:∀ (n k:Nat),k<n*z.length→((List.replicate n z).flatten)[k]?=z[k%z.length]?
 | 0,k,h=>by simp at h
 | n+1,k,h=>by
  rw[List.replicate_succ,List.flatten_cons];have h':k<n*z.length+z.length:=by rw[Nat.add_mul,Nat.one_mul]at h;exact h
  by_cases hk:k<z.length
  ·rw[List.getElem?_append_left hk,Nat.mod_eq_of_lt hk]
  ·rw[List.getElem?_append_right (by omega),flat_rep n (k-z.length) (by omega)]
   congr 1
   exact(Nat.mod_eq_sub_mod (by omega)).symm

theorem repC_madeF{f:Value→AV}(hf:∀ v,RepA w Im g v (f v)){z:Value}{s n:Nat}(hz:z.cells.size=s)(hs:0<s)(h1:∀ u,u∈z.cells→u.oneCell'=true):RepC w Im g ((Array.range (n*s)).map (z.cells[·%z.cells.size]!)).toList (List.replicate n (z.cells.toList.map f)).flatten:=by
 have hl:(z.cells.toList.map f).length=s:=by simpa using hz
 have hat:∀ (i:Nat) (v:Value),(((Array.range (n*s)).map (z.cells[·%z.cells.size]!)).toList)[i]?=some v→i<n*s∧z.cells.toList[i%s]?=some v:=by
  intro i v hv
  have hi:i<n*s:=by
   have:=(List.getElem?_eq_some_iff.1 hv).1
   simpa using this
  refine⟨hi,?_⟩
  have hm:i%s<z.cells.size:=by rw[hz];exact Nat.mod_lt _ hs
  simp only[Array.toList_map,Array.toList_range,List.getElem?_map,List.getElem?_range hi,Option.map_some,Option.some.injEq]at hv
  rw[hz,getElem!_pos z.cells (i%s) hm]at hv;rw[Array.getElem?_toList,Array.getElem?_eq_getElem hm,hv]
 refine⟨?_,fun i v c hv hc=>?_,fun v hv=>?_⟩
 ·rw[flat_len (sz:=s) (fun row hrow=>by rw[(List.mem_replicate.1 hrow).2];exact hl)]
  simp
 ·obtain⟨hi,hv'⟩:=hat i v hv
  rw[flat_rep n i (by rw[hl];exact hi),hl,List.getElem?_map,hv']at hc
  cases hc;exact hf v
 ·obtain⟨i,hi,he⟩:=List.getElem_of_mem hv
  obtain⟨_,hv'⟩:=hat i v (by rw[List.getElem?_eq_getElem hi,he])
  exact h1 v (by rw[←Array.mem_toList_iff];exact List.mem_of_getElem? hv')
theorem repC_made{z:Value}{s n:Nat}(hz:z.cells.size=s)(hs:0<s)(h1:∀ u,u∈z.cells→u.oneCell'=true):RepC w Im g ((Array.range (n*s)).map (z.cells[·%z.cells.size]!)).toList (List.replicate n (z.cells.toList.map ofV)).flatten:=repC_madeF repA_ofV hz hs h1
theorem repA_fulN(v:Value):RepA w Im g v (fulN (ofV v)):=by
 have h:=repA_ofV (w:=w) (Im:=Im) (g:=g) v
 unfold ofV at h ⊢;split at h<;>first|exact h|exact .nils
theorem fulL_map:∀ cs:List AV,fulL cs=cs.map fulN
 | []=>rfl
 | c::cs=>by rw[fulL,fulL_map cs,List.map_cons]
theorem zeroN_some{P:Program}{e:TypeId}{b:Bool}{zv:Value}{z:List AV}(hz':zeroOf P e=some (zv.cells.toList.map ofV))(hz:zeroN P e b=some z):∃ f:Value→AV,(∀ v,RepA w Im g v (f v))∧z=zv.cells.toList.map f:=by
 cases b with
 | false=>
  simp only[zeroN,hz']at hz
  cases hz;exact⟨ofV,repA_ofV,rfl⟩
 | true=>
  simp only[zeroN,hz',zeroM,fulL_map,List.map_map]at hz
  cases hz;exact⟨_,repA_fulN,rfl⟩

theorem dataA_ok{v:Value}{c:AV}{x:Dt}(h:RepA w Im g v c)(hc:dataA c=some x):RepD w Im v x:=by
 unfold dataA at hc;split at hc
 ·cases hc;cases h with|d h=>exact h
 ·cases hc;cases h with|full h=>exact h
 ·cases hc;cases h with|grow h=>exact h
 ·cases hc
theorem dataAs_ok:∀ {vs:List Value} {cs:List AV} {xs:List Dt},vs.length=cs.length→(∀ (i:Nat) (v:Value) (c:AV),vs[i]?=some v→cs[i]?=some c→RepA w Im g v c)→dataAs cs=some xs →
  xs.length=vs.length∧∀ (i:Nat) (v:Value) (x:Dt),vs[i]?=some v→xs[i]?=some x→RepD w Im v x
 | vs,[],xs,hl,_,h=>by
  cases h;exact⟨by simpa using hl.symm,fun i v x _ hx=>by simp at hx⟩
 | [],c::cs,xs,hl,_,_=>by simp at hl
 | v::vs,c::cs,xs,hl,hr,h=>by
  simp only[dataAs]at h;split at h
  ·rename_i x xs' h1 h2
   cases h;obtain⟨k1,k2⟩:=dataAs_ok (vs:=vs) (by simpa using hl) (fun i v c hv hc=>hr (i+1) v c (by simpa using hv) (by simpa using hc)) h2
   refine⟨by simp[k1],fun i u y hu hy=>?_⟩
   cases i with
   | zero=>simp at hu hy;subst hu hy;exact dataA_ok (hr 0 _ _ rfl rfl) h1
   | succ i=>exact k2 i u y (by simpa using hu) (by simpa using hy)
  ·cases h

theorem chunk_len(s:Nat):∀ (n:Nat) (xs:List Dt),(chunk s n xs).length=n
 | 0,_=>rfl
 | n+1,xs=>by simp[chunk,chunk_len s n]
theorem chunk_rows(s:Nat):∀ (n:Nat) (xs:List Dt),xs.length=n*s→∀ row,row∈chunk s n xs→row.length=s
 | 0,_,_,row,h=>by simp[chunk]at h
 | n+1,xs,hl,row,h=>by
  rw[Nat.add_mul]at hl;rcases List.mem_cons.1 h with rfl|h
  ·simp;omega
  ·exact chunk_rows s n (xs.drop s) (by simp;omega) row h
theorem chunk_flat(s:Nat):∀ (n:Nat) (xs:List Dt),xs.length=n*s→(chunk s n xs).flatten=xs
 | 0,xs,hl=>by
  have:xs=[]:=List.eq_nil_of_length_eq_zero (by omega)
  subst this;rfl
 | n+1,xs,hl=>by
  rw[Nat.add_mul]at hl;simp only[chunk,List.flatten_cons];rw[chunk_flat s n (xs.drop s) (by simp;omega),List.take_append_drop]

theorem repD_new{b n s:Nat}{vs:List Value}{xs:List Dt}(hl:xs.length=n*s)(hvl:vs.length=xs.length)(hr:∀ (i:Nat) (v:Value) (x:Dt),vs[i]?=some v→xs[i]?=some x→RepD w Im v x)
  (hi:∀ o,o<n*s→Im b o) (hc:∀ o,w.cell? ⟨b,o,none⟩=vs[o]?):RepD w Im (.slice (some ⟨b,0,none⟩) n n) (.sl (chunk s n xs)):=by
 have key:RepD w Im (.slice (some ⟨b,0,none⟩) (chunk s n xs).length n) (.sl (chunk s n xs)):=by
  refine .sl b 0 n s _ (fun k=>vs.getD k undef) (by rw[chunk_len];exact Nat.le_refl _) (chunk_rows s n xs hl) (fun k hk=>?_) (fun k x hx=>?_)
  ·rw[chunk_flat s n xs hl]at hk;rw[Nat.zero_add];refine⟨hi k (by omega),?_⟩
   rw[hc,List.getD_eq_getElem?_getD,List.getElem?_eq_getElem (by omega)]
   rfl
  ·rw[chunk_flat s n xs hl]at hx;have hk:=(List.getElem?_eq_some_iff.1 hx).1
   rw[List.getD_eq_getElem?_getD,List.getElem?_eq_getElem (show k<vs.length by omega)]
   exact hr k _ x (List.getElem?_eq_getElem (by omega)) hx
 rwa[chunk_len]at key

theorem cell_new(w:World)(vs:List Value)(t:TypeId)(o:Nat):(w.alloc (.cells ⟨vs⟩ t)).cell? ⟨w.heap.size,o,none⟩=vs[o]?:=by
 rw[cell_of_row _ _ o ⟨vs⟩ t (0,0) (heap_alloc_new w (.cells ⟨vs⟩ t))];simp

theorem buildSliceA_ok(hH:HR P w Im g H){p:Nat}{t:TypeId}{n:Nat}{ps:List (Nat×Value)}{as:List (Nat×AV)}{rows:List (List Dt)}(hl:ps.length=as.length)
  (hp:∀ (i:Nat) (p:Nat×Value) (a:Nat×AV),ps[i]?=some p→as[i]?=some a→p.1=a.1∧RepA w Im g p.2 a.2) (h:buildSliceA P t (n+1) as=some rows) :
  ∃ v w' Im',(Instr.buildSlice t (n+1) ⟨ps⟩).run P w=.ok v w'∧Left P w Im g H p [] (.full rows) v w' Im' g:=by
 unfold buildSliceA buildSliceT at h;split at h
 ·rename_i e he;have ht:=elemT_some he
  unfold buildSliceK at h;split at h
  ·rename_i s z hs hz;split at h
   ·rename_i hle;obtain⟨hsz,hpos,i,zv,hi,hie,hzv,hzs,hz',h1⟩:=szZ_some hs
    rw[hz]at hz'
    cases hz';unfold chunkO at h
    split at h
    ·rename_i cs hf;unfold chunkK at h;split at h
     ·rename_i xs hd
      cases h;obtain⟨vs',hfv,hr'⟩:=fill_ok (w:=w) (Im:=Im) (g:=g) ps as _ _ cs hl hp (repC_made (n:=n+1) hzs hpos h1) hf
      obtain⟨k1,k2⟩:=dataAs_ok hr'.len hr'.rep hd
      have hcl:cs.length=(n+1)*s:=by
       have:∀ (as:List (Nat×AV)) (c0 cs:List AV),fillA (fun i=>some (i*s,s)) c0 as=some cs→cs.length=c0.length:=by
        intro as;induction as with
        | nil=>intro c0 cs h;cases h;rfl
        | cons a as ih=>
         intro c0 cs h;obtain⟨i,v⟩:=a
         simp only[fillA]at h;split at h
         ·cases h
         ·rename_i c1 hk;rw[ih _ _ h];unfold fillK at hk;split at hk
          ·split at hk
           ·rename_i hc
            cases hk;simp[splice]
            omega
           ·cases hk
          ·cases hk
       rw[this _ _ _ hf,flat_len (sz:=s) (fun row hrow=>by rw[(List.mem_replicate.1 hrow).2];simpa using hzs)]
       simp
      have hxl:xs.length=(n+1)*s:=by rw[k1,hr'.len,hcl]
      obtain⟨Im',hL⟩:=left_data hH (p:=p) (vs:=vs') e (av:=.full (chunk s (n+1) xs)) (v:=.slice (some ⟨w.heap.size,0,none⟩) (n+1) (n+1)) (n:=(n+1)*s) (fun Im' hm hin hext=>by
       have hk:RepD (w.alloc (.cells ⟨vs'⟩ e)) Im' (.slice (some ⟨w.heap.size,0,none⟩) (n+1) (n+1)) (.sl (chunk s (n+1) xs)):=
        repD_new hxl k1.symm (fun i v x hv hx=>(k2 i v x hv hx).ext hext.hm) hin (cell_new w vs' e)
       have hk':=hk
       rw[←chunk_len s (n+1) xs]at hk';have:=RepA.full (w:=w.alloc (.cells ⟨vs'⟩ e)) (Im:=Im') (g:=g) (a:=some w.heap.size) (rows:=chunk s (n+1) xs) (by simpa[chunk_len]using hk)
       simpa[chunk_len]using this)
      refine⟨_,_,Im',?_,hL⟩
      have hne:¬(n+1)*s=0:=by
       have:=Nat.mul_pos (show 0<n+1 by omega) hpos
       omega
      have hle':¬(n+1)*s>2^24:=by
       have:(2:Nat)^24=16777216:=rfl
       omega
      have hinit:(Array.range ((n+1)*s)).map (zv.cells[·%zv.cells.size]!)=⟨((Array.range ((n+1)*s)).map (zv.cells[·%zv.cells.size]!)).toList⟩:=rfl
      rw[hinit]at *;simp only[Instr.buildSlice,Sem.run_bind,run_underlying ht,Result.andThen_ok,run_sizeOf' hsz,if_neg hle',if_neg hne,zeroValue,typeInfo,run_program,hi,hzv,Sem.run_pure];rw[hfv];rfl
     ·cases h
    ·cases h
   ·cases h
  ·cases h
 ·cases h

theorem emptyA_nil(hH:HR P w Im g H){p:Nat}(hp:g[p]?=some .no){t:TypeId}{av:AV}{ws:List (Nat×AObj)}(h:emptyA P p t=some (.val av ws)):∃ g',Left P w Im g H p ws av (.slice none 0 0) w Im g':=by
 unfold emptyA emptyT at h;split at h
 ·unfold emptyK at h;split at h
  ·rename_i s hs
   cases h
   exact left_grow_same (p:=p) (e:=0) (sz:=s) hH (.inl hp) (.inl rfl) (base:=none) (len:=0) (cap:=0) (Nat.le_refl _) (fun _=>rfl) (fun h=>absurd h (Nat.lt_irrefl _)) (fun g' hg' _=>
    .grow (.sl0 none 0) hg' (fun row h=>by simp at h) (Nat.le_refl _) (fun _=>⟨rfl,rfl⟩))
  ·cases h
 ·cases h

theorem nilA_nil(hH:HR P w Im g H){p:Nat}(hp:g[p]?=some .no){t:TypeId}{b:Bool}{av:AV}{ws:List (Nat×AObj)}(h:nilA P p t b=some (.val av ws)):∃ g',Left P w Im g H p ws av (.slice none 0 0) w Im g':=by
 unfold nilA at h;split at h
 ·unfold nilStkT at h;split at h
  ·unfold nilStkK at h;split at h
   ·rename_i s hs
    cases h;have hpl:=hH.lenlt hp
    have hpg:p<g.length:=by rw[hH.len];exact hpl
    have hf:FreeAt g p 0 s:=.inl hp
    have gle:=gle_grow (base:=none) (len:=0) (cap:=0) hf
    have e:Ext w Im g w Im (g.set p (.gr 0 s none 0 0)):=by
     refine⟨rfl,rfl,rfl,Nat.le_refl _,fun _ _ h=>h,fun _ _ _=>rfl,fun _ _ _=>rfl,fun _ _ h=>.inl h,fun k hk=>?_,gle⟩
     rcases owns_set hk with⟨h,_⟩|h
     ·exact absurd h.1 (by simp)
     ·exact .inl h
    refine⟨g.set p (.gr 0 s none 0 0),.stk (b0:=none) (c0:=0) (List.getElem?_set_self hpg) (Nat.le_refl _) (fun h=>absurd h (Nat.lt_irrefl _)) (Nat.le_refl _) (fun _=>⟨rfl,rfl⟩),?_,e,fun q hq h=>by rw[List.getElem?_set_ne (Ne.symm hq)];exact h⟩
    show HR P _ _ _ (setO H p (.stk 0 s []))
    rw[setO_lt hpl];refine hH.go e (by simp[hH.len]) (fun q=>q=p) (fun q hq=>⟨List.getElem?_set_ne (Ne.symm hq),List.getElem?_set_ne (Ne.symm hq)⟩) (fun q x k _ hq hk=>⟨rfl,fun _ h=>h⟩) ?_ ?_ ?_ ?_ ?_ ?_ ?_ hH.im ?_
    ·rintro q cs rfl hq
     rw[List.getElem?_set_self hpl]at hq
     cases hq
    ·rintro q ep sz' rfl hq
     rw[List.getElem?_set_self hpl]at hq
     cases hq
    ·rintro q es rfl hq
     rw[List.getElem?_set_self hpl]at hq
     cases hq
    ·rintro q stop n rest rfl hq
     rw[List.getElem?_set_self hpl]at hq
     cases hq
    ·rintro q acc rfl hq
     rw[List.getElem?_set_self hpl]at hq
     cases hq
    ·rintro q q' k x x' rfl hne hx hx' hk
     rw[List.getElem?_set_self hpg]at hx
     cases hx;exact absurd hk.1 (by simp)
    ·rintro q k x rfl hx hk
     rw[List.getElem?_set_self hpg]at hx
     cases hx;exact absurd hk.1 (by simp)
    ·rintro q e' sz' cs rfl hq
     rw[List.getElem?_set_self hpl]at hq
     cases hq;exact⟨none,0,List.getElem?_set_self hpg,fun _=>rfl,fun _=>rfl,fun b hb=>by cases hb⟩
   ·cases h
  ·cases h
 ·exact emptyA_nil hH hp h
theorem emptyA_ok(hH:HR P w Im g H){p:Nat}(hp:g[p]?=some .no){t:TypeId}{av:AV}{ws:List (Nat×AObj)}(h:emptyA P p t=some (.val av ws)) :
  ∃ v w' Im' g',(Instr.buildSlice t 0 ⟨[]⟩).run P w=.ok v w'∧Left P w Im g H p ws av v w' Im' g':=by
 unfold emptyA emptyT at h;split at h
 ·rename_i e he;unfold emptyK at h;split at h
  ·rename_i s hs
   cases h
   obtain⟨Im',g',hl⟩:=left_grow_new (p:=p) (e:=0) (sz:=s) hH (.inl hp) (.inl rfl) (vs:=[]) (t:=e) (len:=0) (cap:=0) (by simp) (Nat.le_refl _) (av:=.grow p 0 []) (v:=.slice (some ⟨w.heap.size,0,none⟩) 0 0) (fun Im' g' _ hg' _=>
    .grow (.sl0 _ 0) hg' (fun row h=>by simp at h) (Nat.le_refl _) (fun _=>⟨rfl,rfl⟩))
   refine⟨_,_,Im',g',?_,hl⟩
   simp[Instr.buildSlice,run_underlying (elemT_some he),run_sizeOf' (szZ_some hs).1,Instr.fill,newRow,Array.range_zero']
  ·cases h
 ·cases h

theorem newVar_run(t:TypeId)(v:Value):(newVar t v).run P w=.ok ⟨w.heap.size,0,none⟩ (w.alloc (.cells v.cells t)):=by
 simp[newVar,newRow]

theorem newA_ok(hH:HR P w Im g H){p:Nat}(hp:g[p]?=some .no){t:TypeId}{v:Value}{vs:List Value}{cs:List AV}(hc:v.cells=⟨vs⟩)(hr:RepC w Im g vs cs) :
  ∃ w' Im' g',(newVar t v).run P w=.ok ⟨w.heap.size,0,none⟩ w'∧Left P w Im g H p [(p,.cells cs)] (.ptr p 0) (.pointer (some ⟨w.heap.size,0,none⟩)) w' Im' g':=
 ⟨_,_,_,by rw[newVar_run,hc],left_own hH hp hr t (fun _ hg=>.ptr hg)⟩

theorem newB_ok(hH:HR P w Im g H){p:Nat}(hp:g[p]?=some .no){t:TypeId}{v:Value}(hc:v.cells=#[.pointer none,.slice none 0 0])(ht:(bufE P t).isSome=true) :
  ∃ w' Im' g',(newVar t v).run P w=.ok ⟨w.heap.size,0,none⟩ w'∧Left P w Im g H p [(p,.bld t [])] (.bp p) (.pointer (some ⟨w.heap.size,0,none⟩)) w' Im' g':=
 ⟨_,_,_,by rw[newVar_run,hc],left_bld hH hp ht⟩
theorem refsAL_mem:∀ {cs:List AV},refsAL cs=[]→∀ c,c∈cs→refs c=[]
 | [],_,c,hc=>by cases hc
 | x::cs,h,c,hc=>by
  simp only[refsAL,List.append_eq_nil_iff]at h;rcases List.mem_cons.1 hc with rfl|hc
  ·exact h.1
  ·exact refsAL_mem h.2 c hc
theorem splice_rep{off:Nat}{cs new:List AV}{vs us:List Value}(hru:RepC w Im g us new)(hrep:∀ (i:Nat) (v:Value) (c:AV),vs[i]?=some v→cs[i]?=some c→RepA w Im g v c)(hle:off+us.length≤cs.length)(hl:cs.length≤vs.length) :
  ∀ (i:Nat) (v:Value) (c:AV),(vs.take off++us++vs.drop (off+us.length))[i]?=some v→(splice cs off new)[i]?=some c→RepA w Im g v c:=by
 intro i v c hv' hc';unfold splice at hc';rw[←hru.len]at hc';by_cases hi:i<off
 ·rw[List.append_assoc,List.getElem?_append_left (by simp;omega),List.getElem?_take,if_pos hi]at hv' hc'
  exact hrep i v c hv' hc'
 ·by_cases hi2:i<off+us.length
  ·rw[List.append_assoc,List.getElem?_append_right (by simp;omega),List.getElem?_append_left (by simp;have:=hru.len;omega)]at hv' hc'
   rw[List.length_take,Nat.min_eq_left (by omega)]at hv' hc'
   exact hru.rep _ v c hv' hc'
  ·rw[List.getElem?_append_right (by simp;have:=hru.len;omega)]at hv' hc'
   rw[List.length_append,List.length_take,Nat.min_eq_left (by omega),List.getElem?_drop]at hv' hc'
   have hrl:=hru.len
   rw[show off+us.length+(i-(off+us.length))=i by omega]at hv'
   rw[show off+us.length+(i-(off+new.length))=i by omega]at hc'
   exact hrep i v c hv' hc'
theorem storeA_ok(hH:HR P w Im g H){p:Nat}{t:TypeId}{x c:AV}{v vc:Value}{av:AV}{ws:List (Nat×AObj)}(hx:RepA w Im g v x)(hc:RepA w Im g vc c)(h:storeA P t H c x=some (.val av ws)) :
  av=.tuple []∧∃ w',(Instr.storeAt t v vc).run P w=.ok () w'∧Left P w Im g H p ws (.tuple []) undef w' Im g:=by
 unfold storeA storeT at h;split at h
 ·rename_i r off n hn;unfold storeK at h;split at h
  ·rename_i cs new hcs hnew;split at h
   ·rename_i hle
    cases h;refine⟨rfl,?_⟩
    have hHr:=getD_cells hcs
    obtain⟨b,hb,vs,ty,hv,hl,hrep,h1,hno⟩:=hH.cells r cs hHr
    obtain⟨us,hus,hru⟩:=cellsA_ok hc hnew
    cases hx with
    | ptr hg=>
     rw[hb]at hg
     cases hg;have hul:us.length=n:=by rw[hru.len];exact hle.1
     have hst:=run_storeCells_at P b off ty us 0 ⟨vs⟩ w hv (by show off+0+us.length≤vs.length;omega) hru.one
     simp only[Nat.add_zero]at hst;have hspl:=splice_rep hru hrep (by have:=hru.len;omega) (off:=off) hl
     have hL:=left_set (p:=p) hH hb hv hno (vs':=vs.take off++us++vs.drop (off+us.length)) (cs':=splice cs off new) (by simp[splice];have:=hru.len;omega) hspl (by
      intro v hv';rcases List.mem_append.1 hv' with h|h
      ·rcases List.mem_append.1 h with h|h
       ·exact h1 v (List.mem_of_mem_take h)
       ·exact hru.one v h
      ·exact h1 v (List.mem_of_mem_drop h)) (av:=.tuple []) (v:=undef) (.tuple [] [] rfl (fun i v c h=>by simp at h))
     refine⟨_,?_,hL⟩
     have hvs:vc.cells.size=n:=by rw[hus];exact hul
     simp only[Instr.storeAt,Instr.sureAddr,Sem.run_bind,Sem.run_pure,Result.andThen_ok,storeVar,run_sizeOf' hn,hvs,ne_eq,not_true_eq_false,if_false];rw[hus];exact hst
   ·cases h
  ·cases h
 ·rename_i r e off n hn;unfold storeS at h;split at h
  ·rename_i e' sz cs new hobj hnew;split at h
   ·rename_i hle;obtain⟨rfl,hle⟩:=hle
    cases h;refine⟨rfl,?_⟩
    have hHr:H[r]?=some (.stk e' sz cs):=by
     rw[List.getD_eq_getElem?_getD]at hobj
     cases hr:H[r]? with
     | none=>rw[hr]at hobj;cases hobj
     | some o=>rw[hr]at hobj;simp at hobj;rw[hobj]
    obtain⟨base,cap,hb,hbc,hcc,hblk⟩:=hH.stk r e' sz cs hHr
    obtain⟨us,hus,hru⟩:=cellsA_ok hc hnew
    cases hx with
    | @sp _ _ _ _ _ _ _ _ bk hg hle2 he=>
     rw[hb]at hg
     cases hg;obtain⟨rfl,hcap⟩:=he rfl
     obtain⟨vs,ty,hv,hvl,hl,hrep,h1,hno⟩:=hblk bk rfl hcap
     have hul:us.length=n:=by rw[hru.len];exact hle.1
     have hst:=run_storeCells_at P bk off ty us 0 ⟨vs⟩ w hv (by show off+0+us.length≤vs.length;omega) hru.one
     simp only[Nat.add_zero]at hst;have hspl:=splice_rep hru hrep (by have:=hru.len;omega) (off:=off) hl
     obtain⟨g',hL,hgg⟩:=left_stk_set (p:=p) hH (e':=e') hb (Nat.le_refl _) hcap hv (vs':=vs.take off++us++vs.drop (off+us.length)) (cs':=splice cs off new) (by simp;omega) hno (by simp[splice];have:=hru.len;omega) hspl (by
      intro v hv';rcases List.mem_append.1 hv' with h|h
      ·rcases List.mem_append.1 h with h|h
       ·exact h1 v (List.mem_of_mem_take h)
       ·exact hru.one v h
      ·exact h1 v (List.mem_of_mem_drop h)) (av:=.tuple []) (v:=undef) (fun _ _ _ _=>.tuple [] [] rfl (fun i v c h=>by simp at h))
     rw[hgg rfl]at hL;refine⟨_,?_,hL⟩
     have hvs:vc.cells.size=n:=by rw[hus];exact hul
     simp only[Instr.storeAt,Instr.sureAddr,Sem.run_bind,Sem.run_pure,Result.andThen_ok,storeVar,run_sizeOf' hn,hvs,ne_eq,not_true_eq_false,if_false];rw[hus];exact hst
   ·cases h
  ·cases h
 ·rename_i k off n hn;unfold storeR at h;split at h
  ·rename_i bs new hbs hnew;split at h
   ·rename_i hle0;obtain⟨hnl,hrefs⟩:=hle0
    cases hgk:regGet bs k with
    | none=>simp only[regSet,regSetK,hgk,storeRK]at h;cases h
    | some cs=>
     by_cases hle:off+new.length≤cs.length
     ·simp only[regSet,regSetK,hgk,if_pos hle,storeRK]at h
      cases h;refine⟨rfl,?_⟩
      have hHr:=regC_some hbs
      obtain⟨blks,hb,q2,q3,q4⟩:=hH.rg.at_ bs hHr
      obtain⟨us,hus,hru⟩:=cellsA_ok hc hnew
      cases hx with
      | @rp _ _ bk _ hg hk=>
       rw[hb]at hg
       cases hg;obtain⟨vs,ty,hv,hl,hrep,h1,hno⟩:=q4 k bk cs hk hgk
       have hul:us.length=n:=by rw[hru.len];exact hnl
       have hst:=run_storeCells_at P bk off ty us 0 ⟨vs⟩ w hv (by show off+0+us.length≤vs.length;have:=hru.len;omega) hru.one
       simp only[Nat.add_zero]at hst
       have hL:=left_reg (p:=p) hH hb hHr hk hv hno (vs':=vs.take off++us++vs.drop (off+us.length)) (cs':=splice cs off new) (by simp[splice];have:=hru.len;omega) (splice_rep hru hrep (by have:=hru.len;omega) hl) (by
        intro v hv';rcases List.mem_append.1 hv' with h|h
        ·rcases List.mem_append.1 h with h|h
         ·exact h1 v (List.mem_of_mem_take h)
         ·exact hru.one v h
        ·exact h1 v (List.mem_of_mem_drop h)) (by
        intro c hc';have hcs:cs∈bs:=List.mem_of_getElem? hgk
        unfold splice at hc';rcases List.mem_append.1 hc' with h|h
        ·rcases List.mem_append.1 h with h|h
         ·exact hH.rg.no bs hHr cs hcs c (List.mem_of_mem_take h)
         ·exact refsAL_mem hrefs c h
        ·exact hH.rg.no bs hHr cs hcs c (List.mem_of_mem_drop h)) (av:=.tuple []) (v:=undef) (.tuple [] [] rfl (fun i v c h=>by simp at h))
       refine⟨_,?_,hL⟩
       have hvs:vc.cells.size=n:=by rw[hus];exact hul
       simp only[Instr.storeAt,Instr.sureAddr,Sem.run_bind,Sem.run_pure,Result.andThen_ok,storeVar,run_sizeOf' hn,hvs,ne_eq,not_true_eq_false,if_false];rw[hus];exact hst
     ·simp only[regSet,regSetK,hgk,if_neg hle,storeRK]at h
      cases h
   ·cases h
  ·cases h
 ·cases h

theorem splice_left(hH:HR P w Im g H){p r b off:Nat}{cs new:List AV}{us:List Value}(hb:g[r]?=some (.cell b))(hHr:H[r]?=some (.cells cs))(hru:RepC w Im g us new)(hle:off+us.length≤cs.length) :
  ∃ w',(storeCells ⟨b,off,none⟩ us).run P w=.ok () w'∧Left P w Im g H p [(r,.cells (splice cs off new))] (.tuple []) undef w' Im g:=by
 obtain⟨b',hb',vs,ty,hv,hl,hrep,h1,hno⟩:=hH.cells r cs hHr
 rw[hb]at hb'
 cases hb';have hst:=run_storeCells_at P b off ty us 0 ⟨vs⟩ w hv (by show off+0+us.length≤vs.length;omega) hru.one
 simp only[Nat.add_zero]at hst;have hspl:=splice_rep hru hrep hle (off:=off) hl
 have hL:=left_set (p:=p) hH hb hv hno (vs':=vs.take off++us++vs.drop (off+us.length)) (cs':=splice cs off new) (by simp[splice];have:=hru.len;omega) hspl (by
  intro v hv';rcases List.mem_append.1 hv' with h|h
  ·rcases List.mem_append.1 h with h|h
   ·exact h1 v (List.mem_of_mem_take h)
   ·exact hru.one v h
  ·exact h1 v (List.mem_of_mem_drop h)) (av:=.tuple []) (v:=undef) (.tuple [] [] rfl (fun i v c h=>by simp at h))
 exact⟨_,hst,hL⟩
theorem clearA_ok(hH:HR P w Im g H){p:Nat}{t ty:TypeId}{x:AV}{v:Value}{av:AV}{ws:List (Nat×AObj)}(hx:RepA w Im g v x)(h:clearA P H t x=some (.val av ws)) :
  av=.tuple []∧((ws=[]∧(Builtin.clear_ ⟨[t]⟩ ty ⟨[v]⟩).run P w=.ok undef w)∨∃ w',(Builtin.clear_ ⟨[t]⟩ ty ⟨[v]⟩).run P w=.ok undef w'∧Left P w Im g H p ws (.tuple []) undef w' Im g):=by
 unfold clearA clearT at h;split at h
 ·rename_i e he;have hu:=elemT_some he
  have hx:=unO_ok hx
  generalize unO x=x at hx h;unfold clearK at h;split at h
  ·rename_i r off len esz s z hs hz;split at h
   ·rename_i hse;subst hse;obtain⟨hsz,hpos,i,zv,hi,hie,hzv,hzs,hz',h1⟩:=szZ_some hs
    rw[hz]at hz'
    cases hz';unfold clearC at h
    split at h
    ·rename_i cs hcs
     cases hx with
     | arr hg ho hc=>
      split at h
      ·rename_i h0
       cases h;subst h0
       exact⟨rfl,.inl ⟨rfl,by simp[Builtin.clear_,run_underlying hu];rfl⟩⟩
      ·rename_i h0;split at h
       ·rename_i hle
        cases h;have ho':=ho.resolve_right h0
        subst ho';refine⟨rfl,.inr ?_⟩
        have hrc:=repC_made (w:=w) (Im:=Im) (g:=g) (n:=len) hzs hpos h1
        have hHr:=getD_cells hcs
        have hzl:((Array.range (len*s)).map (zv.cells[·%zv.cells.size]!)).toList.length=len*s:=by simp
        obtain⟨w',k1,k2⟩:=splice_left (p:=p) hH hg hHr hrc (by rw[hzl];exact hle)
        refine⟨w',?_,k2⟩
        obtain⟨m,rfl⟩:∃ m,len=m+1:=⟨len-1,by omega⟩
        have hzc:Builtin.zeroCells zv.cells (m+1)=(Array.range ((m+1)*s)).map (zv.cells[·%zv.cells.size]!):=by unfold Builtin.zeroCells;rw[hzs]
        rw[←hzc]at k1;simp[Builtin.clear_,run_underlying hu,zeroValue,typeInfo,hi,hzv,k1];rfl
       ·cases h
    ·cases h
   ·cases h
  ·rename_i s z hs hz
   cases h
   cases hx with
   | d hd=>
    cases hd with
    | sl0 a cap=>exact⟨rfl,.inl ⟨rfl,by cases a<;>simp[Builtin.clear_,run_underlying hu]<;>rfl⟩⟩
    | sl b o cap sz rows us=>exact⟨rfl,.inl ⟨rfl,by simp[Builtin.clear_,run_underlying hu];rfl⟩⟩
  ·cases h
 ·cases h

theorem makeSliceA_ok(hH:HR P w Im g H){p:Nat}(hp:g[p]?=some .no){t:TypeId}{x y:AV}{vx vy:Value}{av:AV}{ws:List (Nat×AObj)}(hx:RepA w Im g vx x)(hy:RepA w Im g vy y)(h:makeSliceA P p t x y=some (.val av ws)) :
  ∃ v w' Im' g',(Instr.makeSlice t vx vy).run P w=.ok v w'∧Left P w Im g H p ws av v w' Im' g':=by
 unfold makeSliceA makeT at h;split at h
 ·rename_i k n k' c e he;rw[int_inv hx,int_inv hy];unfold makeK at h;split at h
  ·rename_i s b z hs hb hz;split at h
   ·rename_i hc;obtain⟨h0,hnc,hroom⟩:=hc
    obtain⟨hsz,hpos,i,zv,hi,hie,hzv,hzs,hz',h1⟩:=szZ_some hs
    obtain⟨f,hf,rfl⟩:=zeroN_some (w:=w) (Im:=Im) (g:=g) hz' hz
    subst hie;obtain⟨i',hi',rfl⟩:=bytesOf_some hb
    rw[hi]at hi'
    cases hi';obtain⟨hb1,hb2⟩:=room_le hroom
    have hc0:0≤c:=Int.le_trans h0 hnc
    have hcb:(i.bytes:Int)*c≤281474976710656:=by
     have:((c.toNat*i.bytes:Nat):Int)≤140737488355328:=by omega
     rw[Int.natCast_mul,Int.toNat_of_nonneg hc0,Int.mul_comm]at this;omega
    have hrun:=run_make (P:=P) w t e i zv (elemT_some he) hi hzv k k' n c h0 hnc hcb (by omega)
    have hmade:madeCells zv.cells (c.toNat*i.size)=⟨((Array.range (c.toNat*i.size)).map (zv.cells[·%zv.cells.size]!)).toList⟩:=rfl
    rw[hmade]at hrun;split at h
    ·rename_i hnc';subst hnc'
     cases h;exact⟨_,_,_,_,hrun,left_own hH hp (repC_madeF hf hzs hpos h1) e (fun _ hg=>.arr hg (.inl rfl) (Nat.le_refl _))⟩
    ·split at h
     ·rename_i hn0;subst hn0
      cases h
      obtain⟨Im',g',hl⟩:=left_grow_new (p:=p) (e:=0) (sz:=i.size) hH (.inl hp) (.inl rfl) (vs:=((Array.range (c.toNat*i.size)).map (zv.cells[·%zv.cells.size]!)).toList) (t:=e) (len:=0) (cap:=c.toNat) (by rw[Array.length_toList,Array.size_map,Array.size_range]) (Nat.zero_le _)
       (av:=.grow p 0 []) (v:=.slice (some ⟨w.heap.size,0,none⟩) 0 c.toNat) (fun Im' g' _ hg' _=>.grow (.sl0 _ _) hg' (fun row h=>by simp at h) (Nat.le_refl _) (fun _=>⟨rfl,rfl⟩))
      exact⟨_,_,Im',g',hrun,hl⟩
     ·cases h
   ·cases h
  ·cases h
 ·cases h
theorem left_regnew(hH:HR P w Im g H){p:Nat}{blks:List Nat}{bs:List (List AV)}(hg:g[0]?=some (.reg blks))(hHr:H[0]?=some (.reg bs)){vs:List Value}{cs:List AV}(hc:RepC w Im g vs cs)(hno:∀ c,c∈cs→refs c=[])(t:TypeId){av:AV}{v:Value}
  (hv:∀ g',g'[0]?=some (.reg (blks++[w.heap.size]))→RepA (w.alloc (.cells ⟨vs⟩ t)) Im g' v av) :
  Left P w Im g H p [(0,.reg (bs++[cs]))] av v (w.alloc (.cells ⟨vs⟩ t)) Im (g.set 0 (.reg (blks++[w.heap.size]))):=by
 have hrl:0<H.length:=(List.getElem?_eq_some_iff.1 hHr).1
 have hgl:0<g.length:=(List.getElem?_eq_some_iff.1 hg).1
 have hin:∀ k,k∈blks→k<w.heap.size:=fun k hk=>hH.lt k ⟨0,_,hg,hk⟩
 have e:Ext w Im g (w.alloc (.cells ⟨vs⟩ t)) Im (g.set 0 (.reg (blks++[w.heap.size]))):=by
  refine⟨rfl,rfl,rfl,by simp,fun _ _ h=>h,fun b o h=>cell_alloc (hH.im b o h),fun k hk _=>heap_alloc_old w _ hk,fun _ _ h=>.inl h,fun k hk=>?_,?_⟩
  ·rcases owns_set hk with⟨h,_⟩|h
   ·rcases List.mem_append.1 (show k∈blks++[w.heap.size]from h)with h|h
    ·exact .inl ⟨0,_,hg,h⟩
    ·exact .inr (by rw[List.mem_singleton.1 h];exact Nat.le_refl _)
   ·exact .inl h
  ·have key:∀ (r:Nat) (y:Gh),(∀ x,y≠.reg x)→g[r]?=some y→(g.set 0 (.reg (blks++[w.heap.size])))[r]?=some y:=by
    intro r y hy hr;by_cases e:0=r
    ·subst e;rw[hg]at hr;cases hr;exact absurd rfl (hy _)
    ·rw[List.getElem?_set_ne e];exact hr
   refine⟨fun r b h=>key r _ (by simp) h,fun r ep esz base len cap h=>⟨ep,base,len,cap,key r _ (by simp) h,Nat.le_refl _,fun _=>⟨rfl,rfl,rfl⟩⟩,fun r l T h=>⟨T,key r _ (by simp) h⟩,fun r b row h=>⟨row,key r _ (by simp) h⟩,fun r x h=>?_⟩
   by_cases e:0=r
   ·subst e;rw[hg]at h
    cases h;exact⟨[w.heap.size],List.getElem?_set_self hgl⟩
   ·exact⟨[],by rw[List.getElem?_set_ne e,List.append_nil];exact h⟩
 refine⟨hv _ (List.getElem?_set_self hgl),?_,e,fun q hq h=>?_⟩
 rotate_left
 ·by_cases e:0=q
  ·subst e;rw[hg]at h;cases h
  ·rw[List.getElem?_set_ne e];exact h
 show HR P _ _ _ (setO H 0 (.reg (bs++[cs])))
 rw[setO_lt hrl];obtain⟨blks',hg',q2,q3,q4⟩:=hH.rg.at_ bs hHr
 rw[hg]at hg'
 cases hg';have hse:∀ k,k<w.heap.size→(w.alloc (.cells ⟨vs⟩ t)).heap[k]?=w.heap[k]?:=fun k hk=>heap_alloc_old w _ hk
 refine hH.go1 ⟨rfl,rfl,rfl⟩ (by simp) e.hm e.gle (by simp[hH.len]) (fun r=>r=0) (fun r hr=>⟨List.getElem?_set_ne (Ne.symm hr),List.getElem?_set_ne (Ne.symm hr)⟩)
  (fun r x k' hr hx hk'=>⟨hse k' (hH.lt k' ⟨r,x,hx,hk'⟩),fun _ h=>h⟩) ?_ ?_ ?_ ?_ ?_ ?_ ?_ (fun b o h=>by have:=hH.im b o h;simp;omega) ?_ ?_ ?_
 ·rintro r cs' rfl hr
  rw[List.getElem?_set_self hrl]at hr;cases hr
 ·rintro r e' sz rfl hr
  rw[List.getElem?_set_self hrl]at hr;cases hr
 ·rintro r es rfl hr
  rw[List.getElem?_set_self hrl]at hr;cases hr
 ·rintro r stop n rest rfl hr
  rw[List.getElem?_set_self hrl]at hr;cases hr
 ·rintro r acc rfl hr
  rw[List.getElem?_set_self hrl]at hr;cases hr
 ·rintro r r' k x x' rfl hne hr hr' hx hx'
  rw[List.getElem?_set_self hgl]at hr
  rw[List.getElem?_set_ne hne]at hr'
  cases hr;rcases List.mem_append.1 (show k∈blks++[w.heap.size]from hx)with h|h
  ·exact hH.sep 0 r' k _ x' hne hg hr' h hx'
  ·rw[List.mem_singleton.1 h]at hx';exact absurd (hH.lt _ ⟨r',x',hr',hx'⟩) (Nat.lt_irrefl _)
 ·rintro r k x rfl hr hx
  rw[List.getElem?_set_self hgl]at hr
  cases hr;rcases List.mem_append.1 (show k∈blks++[w.heap.size]from hx)with h|h
  ·have:=hin k h;simp;omega
  ·rw[List.mem_singleton.1 h];simp
 ·rintro r e' sz cs' rfl hr
  rw[List.getElem?_set_self hrl]at hr;cases hr
 ·rintro r t' s' rfl hr
  rw[List.getElem?_set_self hrl]at hr;cases hr
 ·refine⟨fun bs' hr=>?_,fun bs' hr=>?_,fun r bs' hr=>?_,fun r x hr=>?_,fun ho r x hr=>?_⟩
  ·rw[List.getElem?_set_self hrl]at hr
   cases hr;refine⟨blks++[w.heap.size],List.getElem?_set_self hgl,by simp[q2],?_,fun k' b' cs' hb' hc'=>?_⟩
   ·rw[List.nodup_append];refine⟨q3,by simp,fun a ha b hb=>?_⟩
    rw[List.mem_singleton]at hb;subst hb;have:=hin a ha
    omega
   ·by_cases hkk:k'<blks.length
    ·rw[List.getElem?_append_left hkk]at hb'
     rw[List.getElem?_append_left (by omega)]at hc'
     exact(q4 k' b' cs' hb' hc').ext e (hse b' (hin b' (List.mem_of_getElem? hb'))) (fun _ h=>h)
    ·rw[List.getElem?_append_right (by omega)]at hb' hc'
     have h0:k'-blks.length=0:=by
      cases hh:k'-blks.length with
      | zero=>rfl
      | succ n=>rw[hh]at hb';simp at hb'
     rw[h0]at hb';rw[←q2,h0]at hc';simp at hb' hc';subst hb';subst hc';exact⟨vs,t,heap_alloc_new w _,by rw[hc.len];exact Nat.le_refl _,fun i v c hv hc'=>(hc.rep i v c hv hc').ext e,hc.one,fun o ho=>absurd (hH.im _ _ ho) (Nat.lt_irrefl _)⟩
  ·rw[List.getElem?_set_self hrl]at hr
   cases hr;intro cs' hcs c hc'
   rcases List.mem_append.1 hcs with h|h
   ·exact hH.rg.no bs hHr cs' h c hc'
   ·rw[List.mem_singleton.1 h]at hc';exact hno c hc'
  ·by_cases hr0:r=0
   ·exact hr0
   ·rw[List.getElem?_set_ne (Ne.symm hr0)]at hr
    exact hH.rg.only r bs' hr
  ·by_cases hr0:r=0
   ·exact⟨hr0,_,List.getElem?_set_self hrl⟩
   ·rw[List.getElem?_set_ne (Ne.symm hr0)]at hr
    exact absurd (hH.rg.back r x hr).1 hr0
  ·exact absurd hg (hH.rg.off ho 0 blks)
theorem makeRA_ok(hH:HR P w Im g H){p:Nat}(hp:g[p]?=some .no){t:TypeId}{x y:AV}{vx vy:Value}{av:AV}{ws:List (Nat×AObj)}{b:Bool}(hx:RepA w Im g vx x)(hy:RepA w Im g vy y)(h:makeRA P p t H x y b=some (.val av ws)) :
  ∃ v w' Im' g',(Instr.makeSlice t vx vy).run P w=.ok v w'∧Left P w Im g H p ws av v w' Im' g':=by
 cases b with
 | false=>exact makeSliceA_ok hH hp hx hy h
 | true=>
  simp only[makeRA]at h;unfold makeSliceA makeT at h;split at h
  ·rename_i k n k' c e he;rw[int_inv hx,int_inv hy];unfold makeK at h;split at h
   ·rename_i s b z hs hb hz;split at h
    ·rename_i hc;obtain⟨h0,hnc,hroom⟩:=hc
     obtain⟨hsz,hpos,i,zv,hi,hie,hzv,hzs,hz',h1⟩:=szZ_some hs
     obtain⟨f,hf,rfl⟩:=zeroN_some (w:=w) (Im:=Im) (g:=g) hz' hz
     subst hie;obtain⟨i',hi',rfl⟩:=bytesOf_some hb
     rw[hi]at hi'
     cases hi';obtain⟨hb1,hb2⟩:=room_le hroom
     have hc0:0≤c:=Int.le_trans h0 hnc
     have hcb:(i.bytes:Int)*c≤281474976710656:=by
      have:((c.toNat*i.bytes:Nat):Int)≤140737488355328:=by omega
      rw[Int.natCast_mul,Int.toNat_of_nonneg hc0,Int.mul_comm]at this;omega
     have hrun:=run_make (P:=P) w t e i zv (elemT_some he) hi hzv k k' n c h0 hnc hcb (by omega)
     have hmade:madeCells zv.cells (c.toNat*i.size)=⟨((Array.range (c.toNat*i.size)).map (zv.cells[·%zv.cells.size]!)).toList⟩:=rfl
     rw[hmade]at hrun;split at h
     ·rename_i hnc';subst hnc';unfold makeRG at h;split at h
      ·rename_i bs heq hbs
       cases heq;split at h
       ·rename_i hrf
        cases h;have hHr:=regC_some hbs
        obtain⟨blks,hb,q2,q3,q4⟩:=hH.rg.at_ bs hHr
        exact⟨_,_,_,_,hrun,left_regnew hH hb hHr (repC_madeF hf hzs hpos h1) (fun c hc=>refsAL_mem hrf c hc) e (fun g' hg'=>.rs hg' (by rw[←q2,List.getElem?_append_right (Nat.le_refl _)];simp) (.inl rfl) (Nat.le_refl _))⟩
       ·cases h
      ·cases h
     ·split at h
      ·simp[makeRG]at h
      ·simp[makeRG]at h
    ·simp[makeRG]at h
   ·simp[makeRG]at h
  ·simp[makeRG]at h
theorem fillA_len{s:Nat}:∀ (as:List (Nat×AV)) (c0 cs:List AV),fillA (fun i=>some (i*s,s)) c0 as=some cs→cs.length=c0.length:=by
 intro as;induction as with
 | nil=>intro c0 cs h;cases h;rfl
 | cons a as ih=>
  intro c0 cs h;obtain⟨i,v⟩:=a
  simp only[fillA]at h;split at h
  ·cases h
  ·rename_i c1 hk;rw[ih _ _ h];unfold fillK at hk;split at hk
   ·split at hk
    ·rename_i hc
     cases hk;simp[splice]
     omega
    ·cases hk
   ·cases hk
theorem avlT_ok(hH:HR P w Im g H){p:Nat}{t:TypeId}{n:Nat}{ps:List (Nat×Value)}{as:List (Nat×AV)}{av:AV}{ws:List (Nat×AObj)}(hl:ps.length=as.length)
  (hp:∀ (i:Nat) (p:Nat×Value) (a:Nat×AV),ps[i]?=some p→as[i]?=some a→p.1=a.1∧RepA w Im g p.2 a.2) (h:avlT P (n+1) as (elemT P t)=some (.val av ws)) :
  ∃ v w' Im',(Instr.buildSlice t (n+1) ⟨ps⟩).run P w=.ok v w'∧Left P w Im g H p ws av v w' Im' g:=by
 unfold avlT at h;split at h
 ·rename_i e he;have ht:=elemT_some he
  unfold avlS at h;split at h
  ·rename_i s z hs hz;split at h
   ·rename_i hle;obtain⟨hsz,hpos,i,zv,hi,hie,hzv,hzs,hz',h1⟩:=szZ_some hs
    rw[hz]at hz'
    cases hz';unfold avlK at h
    split at h
    ·rename_i cs hf
     cases h;obtain⟨vs',hfv,hr'⟩:=fill_ok (w:=w) (Im:=Im) (g:=g) ps as _ _ cs hl hp (repC_made (n:=n+1) hzs hpos h1) hf
     have hcl:cs.length=(n+1)*s:=by
      rw[fillA_len _ _ _ hf,flat_len (sz:=s) (fun row hrow=>by rw[(List.mem_replicate.1 hrow).2];simpa using hzs)]
      simp
     have hvl:=hr'.len
     obtain⟨Im',hL⟩:=left_data hH (p:=p) (vs:=vs') e (av:=.avl (n+1) s cs) (v:=.slice (some ⟨w.heap.size,0,none⟩) (n+1) (n+1)) (n:=(n+1)*s) (fun Im' hm hin hext=>by
      refine .avl cs (fun k=>vs'.getD k undef) hcl (Nat.le_refl _) (fun k hk=>?_) (fun k x hx=>?_)
      ·have hk':k<vs'.length:=by omega
       refine⟨hin k (by omega),?_,?_⟩
       ·rw[cell_new,List.getD_eq_getElem?_getD,List.getElem?_eq_getElem hk']
        rfl
       ·rw[List.getD_eq_getElem?_getD,List.getElem?_eq_getElem hk']
        exact hr'.one _ (List.getElem_mem hk')
      ·have hk':k<vs'.length:=by have:=(List.getElem?_eq_some_iff.1 hx).1;omega
       rw[List.getD_eq_getElem?_getD,List.getElem?_eq_getElem hk']
       exact(hr'.rep k _ x (List.getElem?_eq_getElem hk') hx).ext hext)
     refine⟨_,_,Im',?_,hL⟩
     have hne:¬(n+1)*s=0:=by
      have:=Nat.mul_pos (show 0<n+1 by omega) hpos
      omega
     have hle':¬(n+1)*s>2^24:=by
      have:(2:Nat)^24=16777216:=rfl
      omega
     have hinit:(Array.range ((n+1)*s)).map (zv.cells[·%zv.cells.size]!)=⟨((Array.range ((n+1)*s)).map (zv.cells[·%zv.cells.size]!)).toList⟩:=rfl
     rw[hinit]at *;simp only[Instr.buildSlice,Sem.run_bind,run_underlying ht,Result.andThen_ok,run_sizeOf' hsz,if_neg hle',if_neg hne,zeroValue,typeInfo,run_program,hi,hzv,Sem.run_pure];rw[hfv];rfl
    ·cases h
   ·cases h
  ·cases h
 ·cases h

theorem first_run(w:World){s n cap:Nat}{a:Addr}{us:List Value}(hl:us.length=n*s)(h:∀ (j:Nat) (v:Value),us[j]?=some v→w.cell? (a.add j)=some v):(Builtin.firstCells s n (.slice (some a) n cap)).run P w=.ok us.toArray w:=by
 have:=run_loadCells_list (P:=P) (w:=w) a us h
 rw[hl]at this;exact this
theorem first_zero(w:World){s cap:Nat}{a:Option Addr}:(Builtin.firstCells s 0 (.slice a 0 cap)).run P w=.ok #[] w:=by
 cases a with
 | none=>rfl
 | some a=>exact first_run (us:=[]) w (by simp) (fun j v hv=>by simp at hv)
theorem cpySrc_ok(hH:HR P w Im g H){s n:Nat}{x:AV}{v:Value}{new:List AV}(hx:RepA w Im g v x)(h:cpySrc H s x=some (n,new)) :
  ∃ (a:Option Addr) (cap:Nat) (us:List Value),v=.slice a n cap∧new.length=n*s∧RepC w Im g us new∧(Builtin.firstCells s n v).run P w=.ok us.toArray w:=by
 have hrows:∀ (rows:List (List Dt)),RepD w Im v (.sl rows)→cpyRows s rows=some (n,new)→∃ (a:Option Addr) (cap:Nat) (us:List Value),v=.slice a n cap∧new.length=n*s∧RepC w Im g us new∧(Builtin.firstCells s n v).run P w=.ok us.toArray w:=by
  intro rows hv h;unfold cpyRows at h;split at h
  ·rename_i hf
   cases h;have hfx:=flatten_len hf
   obtain⟨ax,cx,rfl,hcx,hdx⟩:=hv.rows
   rcases hdx with rfl|⟨bx,ox,sx,ux,rfl,hsx,himx,hrx⟩
   ·exact⟨_,_,[],rfl,by simp,⟨rfl,fun i v c hv=>by simp at hv,fun v hv=>by simp at hv⟩,first_zero w⟩
   ·refine⟨_,_,(List.range (rows.length*s)).map ux,rfl,by rw[List.length_map,hfx],⟨by rw[List.length_map,List.length_map,hfx,List.length_range],fun i v c hv hc=>?_,fun v hv=>?_⟩,first_run w (by simp) (cells_list (Im:=Im) (fun k hk=>himx k (by rw[hfx];exact hk)))⟩
    ·have hi:i<rows.length*s:=by have:=(List.getElem?_eq_some_iff.1 hv).1;simpa using this
     rw[range_map_at hi]at hv
     cases hv;rw[List.getElem?_map]at hc
     cases hy:rows.flatten[i]? with
     | none=>rw[hy]at hc;cases hc
     | some y=>rw[hy]at hc;cases hc;exact .d (hrx i y hy)
    ·simp only[List.mem_map,List.mem_range]at hv;obtain⟨k,hk,rfl⟩:=hv
     exact(hrx k _ (List.getElem?_eq_getElem (by rw[hfx];exact hk))).one
  ·cases h
 unfold cpySrc at h;split at h
 ·exact hrows _ (rowsA_ok hx rfl) h
 ·exact hrows _ (rowsA_ok hx rfl) h
 ·exact hrows _ (rowsA_ok hx rfl) h
 ·rename_i r e n';unfold cpyCells at h;split at h
  ·rename_i cs hcs;split at h
   ·rename_i hle
    cases h;obtain⟨sz,hHr⟩:=stkOf_some hcs
    obtain⟨base,cap,hg,hbc,hcc,hblk⟩:=hH.stk r e sz cs hHr
    cases hx with
    | @stk _ _ _ _ _ _ _ _ b0 c0 hg' hle2 hpos' hcn he=>
     rw[hg]at hg'
     cases hg';obtain⟨rfl,rfl⟩:=he rfl
     have hnl:(cs.take (n*s)).length=n*s:=by simp;omega
     by_cases hn0:n=0
     ·subst hn0;exact⟨_,_,[],rfl,by simp,⟨by simp,fun i v c hv=>by simp at hv,fun v hv=>by simp at hv⟩,first_zero w⟩
     ·cases b0 with
      | none=>exact absurd rfl (hpos' (by omega))
      | some bk=>
       obtain⟨vs,ty,hv,hvl,hl,hrep,h1,hno⟩:=hblk bk rfl (by omega)
       refine⟨_,_,vs.take (n*s),rfl,hnl,⟨by simp;omega,fun i v c hv' hc'=>?_,fun v hv'=>h1 v (List.mem_of_mem_take hv')⟩,first_run w (by simp;omega) (fun j v hv'=>?_)⟩
       ·rw[List.getElem?_take]at hv' hc'
        split at hv'
        ·rw[if_pos (by assumption)]at hc';exact hrep i v c hv' hc'
        ·cases hv'
       ·rw[List.getElem?_take]at hv'
        split at hv'
        ·rw[Addr.add_lit,cell_of_row _ _ _ ⟨vs⟩ ty (0,0) hv];simpa using hv'
        ·cases hv'
   ·cases h
  ·cases h
 ·split at h
  ·rename_i hs
   cases h
   cases hx with
   | @avl bx _ _ cx _ ux hl' hc him hr=>
    rw[hs]at hl'
    refine⟨_,_,(List.range (n*s)).map ux,rfl,hl',⟨by simp[hl'],fun i v c hv hc'=>?_,fun v hv=>?_⟩,first_run w (by simp) (cells_list (Im:=Im) (fun k hk=>by
     rw[Nat.zero_add];exact⟨(him k (by rw[hl'];exact hk)).1,(him k (by rw[hl'];exact hk)).2.1⟩))⟩
    ·have hi:i<n*s:=by have:=(List.getElem?_eq_some_iff.1 hv).1;simpa using this
     rw[range_map_at hi]at hv
     cases hv;exact hr i c hc'
    ·simp only[List.mem_map,List.mem_range]at hv;obtain⟨k,hk,rfl⟩:=hv
     exact(him k (by rw[hl'];exact hk)).2.2
  ·cases h
 ·cases h
theorem cpyT_ok(hH:HR P w Im g H){p:Nat}{t t' ty:TypeId}{d x:AV}{vd vx:Value}{av:AV}{ws:List (Nat×AObj)}(hd:RepA w Im g vd d)(hx:RepA w Im g vx x)(h:cpyT P H d x (elemT P t)=some (.val av ws)) :
  ∃ v w',(Builtin.copy_ ⟨[t,t']⟩ ty ⟨[vd,vx]⟩).run P w=.ok v w'∧Left P w Im g H p ws av v w' Im g:=by
 unfold cpyT at h;split at h
 ·rename_i e he;have hu:=elemT_some he
  unfold cpyK at h;split at h
  ·rename_i s hs;obtain⟨hsz,hpos,i,zv,hi,hie,hzv,hzs,hz',h1⟩:=szZ_some hs
   unfold cpyD at h;split at h
   ·rename_i r off len esz;split at h
    ·unfold cpyW at h;split at h
     ·rename_i cs n new hcs hsrc;split at h
      ·rename_i hle;obtain⟨hnl,hlc⟩:=hle
       cases h;have hHr:=getD_cells hcs
       obtain⟨a,cap,us,rfl,hl,hru,hrun⟩:=cpySrc_ok (P:=P) hH hx hsrc
       have hul:us.length=n*s:=by rw[hru.len,hl]
       have hmin:Nat.min n len=n:=Nat.min_eq_left hnl
       cases hd with
       | @arr _ _ off' _ _ b cap' hg ho hc=>
        have hcopy:∀ w',(storeCells ⟨b,off',none⟩ us).run P w=.ok () w'→(Builtin.copy_ ⟨[t,t']⟩ ty ⟨[.slice (some ⟨b,off',none⟩) len cap',.slice a n cap]⟩).run P w=.ok (.int .i64 n) w':=by
         intro w' hst;simp[Builtin.copy_,run_underlying hu,Builtin.lenOf,run_sizeOf' hsz,hmin,hrun,hst,goInt]
        have hint:∀ (w':World),RepA w' Im g (.int .i64 n) (.d (.int .i64 n)):=fun w'=>.d (.int _ _)
        by_cases hn0:n=0
        ·subst hn0;have hus:us=[]:=List.eq_nil_of_length_eq_zero (by omega)
         have hnw:new=[]:=List.eq_nil_of_length_eq_zero (by omega)
         subst hus hnw;refine⟨_,w,hcopy w rfl,?_⟩
         have hsame:setOs H [(r,.cells (splice cs off []))]=H:=by
          have hlt:=(List.getElem?_eq_some_iff.1 hHr).1
          show setO H r (.cells (splice cs off []))=H
          rw[setO_lt hlt];have:splice cs off []=cs:=by simp[splice]
          rw[this];apply List.ext_getElem?
          intro k;by_cases hk:r=k
          ·subst hk;rw[List.getElem?_set_self hlt,hHr]
          ·rw[List.getElem?_set_ne hk]
         exact⟨hint w,by rw[hsame];exact hH,Ext.refl _ _ _,fun _ _ h=>h⟩
        ·have ho':=ho.resolve_right (by omega)
         subst ho';obtain⟨w',k1,k2⟩:=splice_left (p:=p) hH hg hHr hru (by rw[hul];exact hlc)
         exact⟨_,w',hcopy w' k1,⟨hint w',k2.hr,k2.ext,k2.no⟩⟩
      ·cases h
     ·cases h
    ·cases h
   ·cases h
  ·cases h
 ·cases h
end
end Go.Ab
/- The abstract evaluator is right of maps,and of assertions. Conditions: none. -/
namespace Go.Ab
open Go Go.MapKept

theorem eqB_ok{a b:Bool}(h:eqB a b=true):a=b:=by cases a<;>cases b<;>simp_all [eqB]
mutual
theorem eqD_ok:∀ (a b:Dt),eqD a b=true→a=b
 | .bool a,.bool b,h=>by simp only[eqD]at h;rw[eqB_ok h]
 | .int k a,.int l b,h=>by simp only[eqD,eqKd,Bool.and_eq_true,decide_eq_true_eq]at h;rw[h.1,h.2]
 | .str a,.str b,h=>by simp only[eqD,decide_eq_true_eq]at h;rw[h]
 | .sl a,.sl b,h=>by simp only[eqD]at h;rw[eqDLL_ok a b h]
 | .nilp,.nilp,_=>rfl
 | .bool _,.int _ _,h=>by simp[eqD]at h
 | .bool _,.str _,h=>by simp[eqD]at h
 | .bool _,.sl _,h=>by simp[eqD]at h
 | .bool _,.nilp,h=>by simp[eqD]at h
 | .int _ _,.bool _,h=>by simp[eqD]at h
 | .int _ _,.str _,h=>by simp[eqD]at h
 | .int _ _,.sl _,h=>by simp[eqD]at h
 | .int _ _,.nilp,h=>by simp[eqD]at h
 | .str _,.bool _,h=>by simp[eqD]at h
 | .str _,.int _ _,h=>by simp[eqD]at h
 | .str _,.sl _,h=>by simp[eqD]at h
 | .str _,.nilp,h=>by simp[eqD]at h
 | .sl _,.bool _,h=>by simp[eqD]at h
 | .sl _,.int _ _,h=>by simp[eqD]at h
 | .sl _,.str _,h=>by simp[eqD]at h
 | .sl _,.nilp,h=>by simp[eqD]at h
 | .nilp,.bool _,h=>by simp[eqD]at h
 | .nilp,.int _ _,h=>by simp[eqD]at h
 | .nilp,.str _,h=>by simp[eqD]at h
 | .nilp,.sl _,h=>by simp[eqD]at h
theorem eqDL_ok:∀ (a b:List Dt),eqDL a b=true→a=b
 | [],[],_=>rfl
 | x::xs,y::ys,h=>by simp only[eqDL,Bool.and_eq_true]at h;rw[eqD_ok x y h.1,eqDL_ok xs ys h.2]
 | [],_::_,h=>by simp[eqDL]at h
 | _::_,[],h=>by simp[eqDL]at h
theorem eqDLL_ok:∀ (a b:List (List Dt)),eqDLL a b=true→a=b
 | [],[],_=>rfl
 | x::xs,y::ys,h=>by simp only[eqDLL,Bool.and_eq_true]at h;rw[eqDL_ok x y h.1,eqDLL_ok xs ys h.2]
 | [],_::_,h=>by simp[eqDLL]at h
 | _::_,[],h=>by simp[eqDLL]at h
end
mutual
theorem eqV_ok:∀ (a b:AV),eqV a b=true→a=b:=by
 intro a b h
 cases a<;>cases b<;>try (simp[eqV]at h;done)
 ·rfl
 ·simp only[eqV]at h;rw[eqD_ok _ _ h]
 ·simp only[eqV]at h;rw[eqDLL_ok _ _ h]
 ·simp only[eqV,Bool.and_eq_true,decide_eq_true_eq]at h;rw[h.1.1,h.1.2,eqDLL_ok _ _ h.2]
 ·simp only[eqV]at h;rw[eqVL_ok _ _ h]
 ·simp only[eqV]at h;rw[eqVL_ok _ _ h]
 ·simp only[eqV,Bool.and_eq_true,decide_eq_true_eq]at h;rw[h.1,h.2]
 ·simp only[eqV]at h;rw[eqDL_ok _ _ h]
 ·simp only[eqV,Bool.and_eq_true,decide_eq_true_eq]at h;rw[h.1.1.1,h.1.1.2,h.1.2,h.2]
 ·simp only[eqV,Bool.and_eq_true,decide_eq_true_eq]at h;rw[h.1.1,h.1.2,h.2]
 ·simp only[eqV,Bool.and_eq_true,decide_eq_true_eq]at h;rw[h.1.1,h.1.2,h.2]
 ·simp only[eqV,Bool.and_eq_true,decide_eq_true_eq]at h;rw[h.1.1.1,h.1.1.2,h.1.2,h.2]
 ·simp only[eqV,Bool.and_eq_true,decide_eq_true_eq]at h;rw[h.1.1,eqVL_ok _ _ h.1.2,eqVL_ok _ _ h.2]
 ·simp only[eqV,Bool.and_eq_true,decide_eq_true_eq]at h;rw[h.1,eqV_ok _ _ h.2]
 ·rfl
 ·simp only[eqV,Bool.and_eq_true,decide_eq_true_eq]at h;rw[h.1,h.2]
 ·simp only[eqV,Bool.and_eq_true,decide_eq_true_eq]at h;rw[h.1.1.1,h.1.1.2,h.1.2,h.2]
theorem eqVL_ok:∀ (a b:List AV),eqVL a b=true→a=b
 | [],[],_=>rfl
 | x::xs,y::ys,h=>by simp only[eqVL,Bool.and_eq_true]at h;rw[eqV_ok x y h.1,eqVL_ok xs ys h.2]
 | [],_::_,h=>by simp[eqVL]at h
 | _::_,[],h=>by simp[eqVL]at h
end
def eqO:Option AV→Option AV→Bool
 | some a,some b=>eqV a b
 | none,none=>true
 | _,_=>false
theorem eqO_ok{a b:Option AV}(h:eqO a b=true):a=b:=by
 cases a<;>cases b<;>simp only[eqO]at h
 ·rfl
 ·cases h
 ·cases h
 ·rw[eqV_ok _ _ h]


section
variable {P:Program}{w:World}{Im:Imm}{g:List Gh}{H:List AObj}

theorem keyEq_ok{kt:TypeId}{K:TK}(hK:kindT P kt=K){vk vj:Value}{k j:AV}{b:Bool}(hk:RepA w Im g vk k)(hj:RepA w Im g vj j)(h:keyEq K k j=some b) :
  ∃ d,P.underlying kt=some d∧IsKey d vk∧IsKey d vj∧(b=true↔vk=vj):=by
 subst hK;unfold keyEq at h;split at h
 ·rename_i a c he
  cases h;rw[bool_inv hk,bool_inv hj]
  exact⟨_,kindT_bool he,trivial,trivial,by simp⟩
 ·rename_i kk a c l e he;split at h
  ·rename_i hc
   cases h;rw[int_inv hk,int_inv hj]
   exact⟨_,kindT_int he,hc.1,hc.2,by simp[hc.1,hc.2]⟩
  ·cases h
 ·rename_i a c he
  cases h;rw[str_inv hk,str_inv hj]
  refine⟨_,kindT_str he,trivial,trivial,?_⟩
  simp
 ·cases h

theorem findM_ok{kt:TypeId}{K:TK}(hK:kindT P kt=K){vk:Value}{k:AV}(hk:RepA w Im g vk k):∀ {es:List (AV×AV)} {l:List MapEntry} {r:Option AV},l.length=es.length →
  (∀ (i:Nat) (e:MapEntry) (x:AV×AV),l[i]?=some e→es[i]?=some x→RepA w Im g e.key x.1∧RepA w Im g e.val x.2)→findM K k es=some r →
  ∃ d,P.underlying kt=some d∧IsKey d vk∧∀ n,∃ a,Instr.findNow d vk l n=some a∧match r with
   | some v=>∃ i u,a=some (i,u)∧RepA w Im g u v
   | none=>a=none
 | [],l,r,hl,hr,h=>by
  have:l=[]:=List.eq_nil_of_length_eq_zero hl
  subst this;simp only[findM]at h;split at h
  ·rename_i b hb
   cases h;obtain⟨d,h1,h2,_⟩:=keyEq_ok hK hk hk hb
   exact⟨d,h1,h2,fun n=>⟨none,rfl,rfl⟩⟩
  ·cases h
 | (j,v)::es,[],r,hl,hr,h=>by simp at hl
 | (j,v)::es,e::l,r,hl,hr,h=>by
  obtain⟨e1,e2⟩:=hr 0 e (j,v) rfl rfl
  simp only[findM]at h;split at h
  ·rename_i hb
   cases h;obtain⟨d,h1,h2,h3,h4⟩:=keyEq_ok hK hk e1 hb
   have hkk:=h4.1 rfl
   refine⟨d,h1,h2,fun n=>⟨some (n,e.val),?_,n,e.val,rfl,e2⟩⟩
   obtain⟨q,hq,hiff⟩:=sameNow_of_keys h2 h3
   rw[hiff.2 hkk]at hq;simp[Instr.findNow,hq]
  ·rename_i hb;obtain⟨d,h1,h2,h3,h4⟩:=keyEq_ok hK hk e1 hb
   obtain⟨d',k1,k2,k3⟩:=findM_ok hK hk (es:=es) (l:=l) (by simpa using hl) (fun i e x he hx=>hr (i+1) e x (by simpa using he) (by simpa using hx)) h
   rw[h1]at k1
   cases k1;refine⟨d,h1,h2,fun n=>?_⟩
   obtain⟨q,hq,hiff⟩:=sameNow_of_keys h2 h3
   have hqf:q=false:=by
    cases q with
    | false=>rfl
    | true=>exact absurd (h4.2 (hiff.1 rfl)) (by simp)
   subst hqf;obtain⟨a,ha,hm⟩:=k3 (n+1)
   exact⟨a,by simp[Instr.findNow,hq,ha],hm⟩
  ·cases h

theorem mapT_some{t k e:TypeId}(h:mapT P t=some (k,e)):P.underlying t=some (.map k e):=by
 unfold mapT at h;split at h
 ·rename_i hu;cases h;exact hu
 ·cases h
theorem getD_map{H:List AObj}{r:Nat}{es:List (AV×AV)}(h:entsO (H.getD r .no)=some es):H[r]?=some (.mapo es):=by
 unfold entsO at h;split at h
 ·rename_i es' hg
  cases h;rw[List.getD_eq_getElem?_getD]at hg
  cases hx:H[r]? with
  | none=>rw[hx]at hg;cases hg
  | some o=>rw[hx]at hg;simp only[Option.getD_some]at hg;rw[hg]
 ·cases h

theorem repA_ofZ(v:Value):RepA w Im g v (ofZ v):=by
 unfold ofZ;split
 ·rename_i cs;split
  ·rename_i h;have hc:cs=⟨cs.toList⟩:=by simp
   have:=(repC_ofV (w:=w) (Im:=Im) (g:=g) cs.toList (fun u hu=>List.all_eq_true.1 h u hu)).agg
   rwa[←hc]at this
  ·exact .any _
 ·exact repA_ofV v
theorem repA_ofC(v:Value):RepA w Im g v (ofC v):=by
 unfold ofC;split
 ·rename_i cs
  cases h:cs.toList.all Value.oneCell' with
  | true=>
   have hc:cs=⟨cs.toList⟩:=by simp
   have:=(repC_ofV (w:=w) (Im:=Im) (g:=g) cs.toList (fun u hu=>List.all_eq_true.1 h u hu)).agg
   rwa[←hc]at this
  | false=>exact .any _
 ·exact repA_ofV (.bool _)
 ·exact repA_ofV (.int _ _)
 ·exact repA_ofV (.string _)
 ·exact repA_ofV (.pointer none)
 ·exact repA_ofV (.slice none 0 0)
 ·exact repA_ofV (.map none)
 ·exact .any _
theorem run_zeroV{t:TypeId}{z:AV}(h:zeroV P t=some z):∃ v,(zeroValue t).run P w=.ok v w∧RepA w Im g v z:=by
 unfold zeroV at h
 cases hi:P.info? t with
 | none=>rw[hi]at h;cases h
 | some i=>
  rw[hi]at h;simp only[Option.bind_some]at h
  cases hz:i.zero with
  | none=>rw[hz]at h;cases h
  | some v=>
   rw[hz]at h
   cases h;exact⟨v,by simp[zeroValue,typeInfo,hi,hz],repA_ofZ v⟩

theorem RepA.tuple2{v u:Value}{c d:AV}(h:RepA w Im g v c)(k:RepA w Im g u d):RepA w Im g (.tuple #[v,u]) (.tuple [c,d]):=by
 refine .tuple [v,u] _ rfl (fun i x y hx hy=>?_)
 rcases i with _|_|i
 ·cases hx;cases hy;exact h
 ·cases hx;cases hy;exact k
 ·simp at hx

theorem lookA_ok(hH:HR P w Im g H){t:TypeId}{m k v:AV}{vm vk:Value}{ok:Bool}(hm:RepA w Im g vm m)(hk:RepA w Im g vk k)(h:lookA P t H m k ok=some v) :
  ∃ u,(Instr.lookup t vm vk ok).run P w=.ok u w∧RepA w Im g u v:=by
 unfold lookA lookT at h;split at h
 ·rename_i kt et ht;have hu:=mapT_some ht
  unfold lookE at h;split at h
  ·rename_i es he
   have main:∃ (l:List MapEntry),l.length=es.length∧(∀ (i:Nat) (e:MapEntry) (x:AV×AV),l[i]?=some e→es[i]?=some x→RepA w Im g e.key x.1∧RepA w Im g e.val x.2) ∧
     (vm=.map none∧l=[]∨∃ b ck,vm=.map (some b)∧w.heap[b]?=some (.map ⟨l⟩ ck)):=by
    unfold entsA at he;split at he
    ·rename_i r;obtain⟨b,hb,l,ck,h1,h2,h3,_⟩:=hH.mapo r es (getD_map he)
     cases hm with
     | mp hg=>
      rw[hb]at hg;cases hg;exact⟨l,h2,h3,.inr ⟨b,ck,rfl,h1⟩⟩
    ·cases he
     cases hm;exact⟨[],rfl,fun i e x h=>by simp at h,.inl ⟨rfl,rfl⟩⟩
    ·cases he
   obtain⟨l,hl,hrep,hcase⟩:=main
   unfold foundM at h;split at h
   ·rename_i u hf
    cases h;obtain⟨d,hd,hkey,hn⟩:=findM_ok rfl hk hl hrep hf
    obtain⟨a,ha,i,x,rfl,hx⟩:=hn 0
    have hck:∀ e,(Instr.checkKey e 10000 _ vk).run P w=.ok () w:=fun e=>run_checkKey (w:=w) hd hkey e 9999
    have hfk:=run_findKey (w:=w) hd ha
    rcases hcase with⟨rfl,rfl⟩|⟨b,ck,rfl,hb⟩
    ·simp[Instr.findNow]at ha
    ·cases ok with
     | true=>exact⟨.tuple #[x,.bool true],by simp[Instr.lookup,run_underlying hu,MapKept.run_getObj_map hb,hck,hfk,Result.andThen],RepA.tuple2 hx (.d (.bool _))⟩
     | false=>exact⟨x,by simp[Instr.lookup,run_underlying hu,MapKept.run_getObj_map hb,hck,hfk,Result.andThen],hx⟩
   ·rename_i hf;obtain⟨d,hd,hkey,hn⟩:=findM_ok rfl hk hl hrep hf
    obtain⟨a,ha,rfl⟩:=hn 0
    have hck:∀ e,(Instr.checkKey e 10000 _ vk).run P w=.ok () w:=fun e=>run_checkKey (w:=w) hd hkey e 9999
    have hfk:=run_findKey (w:=w) hd ha
    split at h
    ·rename_i z hz
     cases h;obtain⟨vz,hvz,hrz⟩:=run_zeroV (w:=w) (Im:=Im) (g:=g) hz
     rcases hcase with⟨rfl,rfl⟩|⟨b,ck,rfl,hb⟩
     ·cases ok with
      | true=>exact⟨.tuple #[vz,.bool false],by simp[Instr.lookup,run_underlying hu,hck,hfk,hvz,Result.andThen],RepA.tuple2 hrz (.d (.bool _))⟩
      | false=>exact⟨vz,by simp[Instr.lookup,run_underlying hu,hck,hfk,hvz,Result.andThen],hrz⟩
     ·cases ok with
      | true=>exact⟨.tuple #[vz,.bool false],by simp[Instr.lookup,run_underlying hu,MapKept.run_getObj_map hb,hck,hfk,hvz,Result.andThen],RepA.tuple2 hrz (.d (.bool _))⟩
      | false=>exact⟨vz,by simp[Instr.lookup,run_underlying hu,MapKept.run_getObj_map hb,hck,hfk,hvz,Result.andThen],hrz⟩
    ·cases h
   ·cases h
  ·cases h
 ·cases h

theorem left_map(hH:HR P w Im g H){p r b:Nat}(hg:g[r]?=some (.cell b)){o:Obj}(hb:w.heap[b]?=some o)(hn:∀ o,¬Im b o){es':List (AV×AV)}{l':List MapEntry}{ck':Nat}(hl:l'.length=es'.length)
  (hrep:∀ (i:Nat) (e:MapEntry) (x:AV×AV),l'[i]?=some e→es'[i]?=some x→RepA w Im g e.key x.1∧RepA w Im g e.val x.2) {av:AV} {v:Value} (hv:RepA w Im g v av) :
  Left P w Im g H p [(r,.mapo es')] av v (w.putObj b (.map ⟨l'⟩ ck')) Im g:=by
 have hrl:=hH.lenlt hg
 have hbl:b<w.heap.size:=(Array.getElem?_eq_some_iff.1 hb).1
 have hcell:∀ b' i,b'≠b→(w.putObj b (.map ⟨l'⟩ ck')).cell? ⟨b',i,none⟩=w.cell? ⟨b',i,none⟩:=by
  intro b' i hne;unfold World.cell?;simp only[World.putObj_heap_other hne]
 have hsz:(w.putObj b (.map ⟨l'⟩ ck')).heap.size=w.heap.size:=by simp[World.putObj]
 have e:Ext w Im g (w.putObj b (.map ⟨l'⟩ ck')) Im g:=by
  refine⟨rfl,rfl,rfl,by rw[hsz];exact Nat.le_refl _,fun _ _ h=>h,fun b' o h=>hcell b' o (fun h'=>hn o (h'▸h)),fun k hk hno=>World.putObj_heap_other (fun h'=>hno ⟨r,_,hg,h'.symm⟩),fun _ _ h=>.inl h,fun _ h=>.inl h,GLe.refl g⟩
 refine⟨hv.ext e,?_,e,fun _ _ h=>h⟩
 show HR P _ _ _ (setO H r (.mapo es'))
 rw[setO_lt hrl];refine hH.go e (by simp[hH.len]) (fun r'=>r'=r) (fun r' hr'=>⟨rfl,List.getElem?_set_ne (Ne.symm hr')⟩) (fun r' x k hne hr' hk=>⟨World.putObj_heap_other (fun h'=>?_),fun _ h=>h⟩) ?_ ?_ ?_ ?_ ?_ ?_ ?_ ?_
 ·exact hH.sep r' r k x _ hne hr' hg hk h'.symm
 ·rintro r' cs rfl hr'
  rw[List.getElem?_set_self hrl]at hr'
  cases hr'
 ·rintro r' ep sz rfl hr'
  rw[List.getElem?_set_self hrl]at hr'
  cases hr'
 ·rintro r' es rfl hr'
  rw[List.getElem?_set_self hrl]at hr'
  cases hr';exact⟨b,hg,l',ck',World.putObj_heap_same hbl,hl,fun i e' x he hx=>⟨(hrep i e' x he hx).1.ext e,(hrep i e' x he hx).2.ext e⟩,hn⟩
 ·rintro r' stop n rest rfl hr'
  rw[List.getElem?_set_self hrl]at hr'
  cases hr'
 ·rintro r' acc rfl hr'
  rw[List.getElem?_set_self hrl]at hr'
  cases hr'
 ·rintro r1 r2 k x x' rfl hne h1 h2 hx
  exact hH.sep _ _ k x x' hne h1 h2 hx
 ·rintro r' k x rfl hr' hx
  rw[hsz];exact hH.lt k ⟨r',x,hr',hx⟩
 ·intro b' o h;rw[hsz];exact hH.im b' o h

theorem left_newmap(hH:HR P w Im g H){p:Nat}(hp:g[p]?=some .no):Left P w Im g H p [(p,.mapo [])] (.mp p) (.map (some w.heap.size)) (w.alloc (.map #[] 0)) Im (g.set p (.cell w.heap.size)):=by
 have hpl:=hH.lenlt hp
 have hpg:p<g.length:=by rw[hH.len];exact hpl
 have e:Ext w Im g (w.alloc (.map #[] 0)) Im (g.set p (.cell w.heap.size)):=ext_alloc hH hp _ (x:=.cell w.heap.size) (fun k hk=>Eq.symm (show w.heap.size=k from hk)) (fun b o=>⟨fun h=>.inl h,fun h=>h.elim id And.right⟩)
 refine⟨.mp (List.getElem?_set_self hpg),?_,e,fun q hq h=>by rw[List.getElem?_set_ne (Ne.symm hq)];exact h⟩
 show HR P _ _ _ (setO H p (.mapo []))
 rw[setO_lt hpl];have hse:∀ k,k<w.heap.size→(w.alloc (.map #[] 0)).heap[k]?=w.heap[k]?:=fun k hk=>heap_alloc_old w _ hk
 refine hH.go e (by simp[hH.len]) (fun r=>r=p) (fun r hr=>⟨List.getElem?_set_ne (Ne.symm hr),List.getElem?_set_ne (Ne.symm hr)⟩) (fun r x k _ hr hk=>⟨hse k (hH.lt k ⟨r,x,hr,hk⟩),fun _ h=>h⟩) ?_ ?_ ?_ ?_ ?_ ?_ ?_ ?_
 ·rintro r cs rfl hr
  rw[List.getElem?_set_self hpl]at hr
  cases hr
 ·rintro r ep sz rfl hr
  rw[List.getElem?_set_self hpl]at hr
  cases hr
 ·rintro r es rfl hr
  rw[List.getElem?_set_self hpl]at hr
  cases hr;exact⟨_,List.getElem?_set_self hpg,[],0,heap_alloc_new w _,rfl,fun i e x h=>by simp at h,fun o ho=>absurd (hH.im _ _ ho) (Nat.lt_irrefl _)⟩
 ·rintro r stop n rest rfl hr
  rw[List.getElem?_set_self hpl]at hr
  cases hr
 ·rintro r acc rfl hr
  rw[List.getElem?_set_self hpl]at hr
  cases hr
 ·rintro r r' k x x' rfl hne hr hr' hx hx'
  rw[List.getElem?_set_self hpg]at hr
  cases hr;rw[List.getElem?_set_ne hne]at hr'
  have:=hH.lt k ⟨r',x',hr',hx'⟩
  cases hx;omega
 ·rintro r k x rfl hr hx
  rw[List.getElem?_set_self hpg]at hr
  cases hr
  cases hx;simp
 ·intro b o h;have:=hH.im b o h
  simp;omega

theorem makeM_ok(hH:HR P w Im g H){p:Nat}(hp:g[p]?=some .no){t:TypeId}{av:AV}{ws:List (Nat×AObj)}(h:makeM p=some (.val av ws)) :
  ∃ v w' Im' g',(Instr.makeMap t none).run P w=.ok v w'∧Left P w Im g H p ws av v w' Im' g':=by
 cases h;exact⟨_,_,_,_,by simp[Instr.makeMap,Result.andThen],left_newmap hH hp⟩

theorem setM_ok{kt:TypeId}{K:TK}(hK:kindT P kt=K){vk vv:Value}{k v:AV}(hk:RepA w Im g vk k)(hv:RepA w Im g vv v):∀ {es es':List (AV×AV)} {l:List MapEntry},l.length=es.length →
  (∀ (i:Nat) (e:MapEntry) (x:AV×AV),l[i]?=some e→es[i]?=some x→RepA w Im g e.key x.1∧RepA w Im g e.val x.2)→setM K k v es=some es' →
  ∃ d,P.underlying kt=some d∧IsKey d vk ∧
   ((∀ n,Instr.findNow d vk l n=some none)∧(∀ born:Nat,(l++[(⟨vk,vv,born⟩:MapEntry)]).length=es'.length∧∀ (i:Nat) (e:MapEntry) (x:AV×AV),(l++[(⟨vk,vv,born⟩:MapEntry)])[i]?=some e→es'[i]?=some x→RepA w Im g e.key x.1∧RepA w Im g e.val x.2) ∨
    ∃ j e0,l[j]?=some e0∧e0.key=vk∧(∀ n,Instr.findNow d vk l n=some (some (n+j,e0.val)))∧(l.set j { e0 with key:=vk,val:=vv }).length=es'.length ∧
     ∀ (i:Nat) (e:MapEntry) (x:AV×AV),(l.set j { e0 with key:=vk,val:=vv })[i]?=some e→es'[i]?=some x→RepA w Im g e.key x.1∧RepA w Im g e.val x.2)
 | [],es',l,hl,hr,h=>by
  have:l=[]:=List.eq_nil_of_length_eq_zero hl
  subst this;simp only[setM]at h;split at h
  ·rename_i b hb
   cases h;obtain⟨d,h1,h2,_⟩:=keyEq_ok hK hk hk hb
   refine⟨d,h1,h2,.inl ⟨fun n=>rfl,fun born=>⟨rfl,fun i e x he hx=>?_⟩⟩⟩
   cases i with
   | zero=>cases he;cases hx;exact⟨hk,hv⟩
   | succ i=>simp at he
  ·cases h
 | (j,u)::es,es',[],hl,hr,h=>by simp at hl
 | (j,u)::es,es',e::l,hl,hr,h=>by
  obtain⟨e1,e2⟩:=hr 0 e (j,u) rfl rfl
  simp only[setM]at h;split at h
  ·rename_i hb
   cases h;obtain⟨d,h1,h2,h3,h4⟩:=keyEq_ok hK hk e1 hb
   have hkk:=h4.1 rfl
   refine⟨d,h1,h2,.inr ⟨0,e,rfl,hkk.symm,fun n=>?_,by simpa using hl,fun i e' x he hx=>?_⟩⟩
   ·obtain⟨q,hq,hiff⟩:=sameNow_of_keys h2 h3
    rw[hiff.2 hkk]at hq;simp[Instr.findNow,hq]
   ·cases i with
    | zero=>simp at he hx;subst he hx;exact⟨hkk▸e1,hv⟩
    | succ i=>exact hr (i+1) e' x (by simpa using he) (by simpa using hx)
  ·rename_i hb;obtain⟨d,h1,h2,h3,h4⟩:=keyEq_ok hK hk e1 hb
   split at h
   ·rename_i l2 hl2
    cases h;obtain⟨q,hq,hiff⟩:=sameNow_of_keys h2 h3
    have hqf:q=false:=by
     cases q with
     | false=>rfl
     | true=>exact absurd (h4.2 (hiff.1 rfl)) (by simp)
    subst hqf;obtain⟨d',k1,k2,k3⟩:=setM_ok hK hk hv (es:=es) (l:=l) (by simpa using hl) (fun i e x he hx=>hr (i+1) e x (by simpa using he) (by simpa using hx)) hl2
    rw[h1]at k1
    cases k1;refine⟨d,h1,h2,?_⟩
    rcases k3 with⟨m1,m2⟩|⟨i0,e0,m1,m2,m3,m4,m5⟩
    ·refine .inl ⟨fun n=>by simp[Instr.findNow,hq,m1],fun born=>⟨by have:=(m2 born).1;simp at this ⊢;omega,fun i e' x he hx=>?_⟩⟩
     cases i with
     | zero=>simp at he hx;subst he hx;exact⟨e1,e2⟩
     | succ i=>exact(m2 born).2 i e' x (by simpa using he) (by simpa using hx)
    ·refine .inr ⟨i0+1,e0,by simpa using m1,m2,fun n=>by simp[Instr.findNow,hq,m3];omega,by simp at m4 ⊢;omega,fun i e' x he hx=>?_⟩
     cases i with
     | zero=>simp at he hx;subst he hx;exact⟨e1,e2⟩
     | succ i=>exact m5 i e' x (by simpa using he) (by simpa using hx)
   ·cases h
  ·cases h

theorem sameBits_key{d:TypeDesc}{k:Value}(h:IsKey d k)(n:Nat):Instr.sameBits n k k=true:=by
 cases d<;>cases k<;>simp_all [IsKey,Instr.sameBits]
 rw[bytes_beq]

theorem updA_ok(hH:HR P w Im g H){p:Nat}{t:TypeId}{m k v av:AV}{vm vk vv:Value}{ws:List (Nat×AObj)}(hm:RepA w Im g vm m)(hk:RepA w Im g vk k)(hv:RepA w Im g vv v)(h:updA P t H m k v=some (.val av ws)) :
  ∃ w',(Instr.mapUpdate t vm vk vv).run P w=.ok () w'∧Left P w Im g H p ws av undef w' Im g:=by
 have hun:RepA w Im g undef (.tuple []):=.tuple [] [] rfl (fun i v c hv=>by simp at hv)
 unfold updA updT at h;split at h
 ·rename_i r kt et ht;have hu:=mapT_some ht
  unfold updE at h;split at h
  ·rename_i es he;unfold putM at h;split at h
   ·rename_i es' hs
    cases h;obtain⟨b,hb,l,ck,h1,h2,h3,h4⟩:=hH.mapo r es (getD_map he)
    cases hm with
    | mp hg=>
     rw[hb]at hg
     cases hg;obtain⟨d,hd,hkey,hcase⟩:=setM_ok rfl hk hv h2 h3 hs
     have hck:∀ e,(Instr.checkKey e 10000 _ vk).run P w=.ok () w:=fun e=>run_checkKey (w:=w) hd hkey e 9999
     rcases hcase with⟨m1,m2⟩|⟨j,e0,m1,m2,m3,m4,m5⟩
     ·have hfk:=run_findKey (w:=w) hd (m1 0)
      refine⟨w.putObj b (.map ⟨l++[⟨vk,vv,ck⟩]⟩ (ck+1)),?_,left_map hH hb h1 h4 (m2 ck).1 (m2 ck).2 hun⟩
      simp[Instr.mapUpdate,run_underlying hu,MapKept.run_getObj_map h1,hck,hfk,MapKept.run_setObj_map _ h1,Result.andThen,World.putObj]
     ·have hfk:=run_findKey (w:=w) hd (m3 0)
      refine⟨w.putObj b (.map ⟨l.set j { e0 with key:=vk,val:=vv }⟩ ck),?_,left_map hH hb h1 h4 m4 m5 hun⟩
      have hj:j<l.length:=(List.getElem?_eq_some_iff.1 m1).1
      have hmod:(l.modify j fun e=>(⟨vk,vv,e.born⟩:MapEntry))=l.set j ⟨vk,vv,e0.born⟩:=by
       apply List.ext_getElem?
       intro i;rw[List.getElem?_modify]
       by_cases hij:j=i
       ·subst hij;rw[List.getElem?_set_self hj,m1]
        simp
       ·rw[List.getElem?_set_ne hij];simp[hij]
      have hkt:(Instr.keyThatStays vk vk).run P w=.ok vk w:=by simp[Instr.keyThatStays,sameBits_key hkey]
      simp[Instr.mapUpdate,run_underlying hu,MapKept.run_getObj_map h1,hck,hfk,MapKept.run_setObj_map _ h1,Result.andThen,World.putObj,m2,hkt,hmod,m1]
   ·cases h
  ·cases h
 ·cases h

theorem delM_ok{kt:TypeId}{K:TK}(hK:kindT P kt=K){vk:Value}{k:AV}(hk:RepA w Im g vk k):∀ {es es':List (AV×AV)} {l:List MapEntry},l.length=es.length →
  (∀ (i:Nat) (e:MapEntry) (x:AV×AV),l[i]?=some e→es[i]?=some x→RepA w Im g e.key x.1∧RepA w Im g e.val x.2)→delM K k es=some es' →
  ∃ d,P.underlying kt=some d∧IsKey d vk∧∃ l',l'.length=es'.length ∧
   (∀ (i:Nat) (e:MapEntry) (x:AV×AV),l'[i]?=some e→es'[i]?=some x→RepA w Im g e.key x.1∧RepA w Im g e.val x.2) ∧
   ((l'=l∧∀ n,Instr.findNow d vk l n=some none)∨∃ j u,l'=l.eraseIdx j∧j<l.length∧∀ n,Instr.findNow d vk l n=some (some (n+j,u)))
 | [],es',l,hl,hr,h=>by
  have:l=[]:=List.eq_nil_of_length_eq_zero hl
  subst this;simp only[delM]at h;split at h
  ·rename_i b hb
   cases h;obtain⟨d,h1,h2,_⟩:=keyEq_ok hK hk hk hb
   exact⟨d,h1,h2,[],rfl,fun i e x he=>by simp at he,.inl ⟨rfl,fun n=>rfl⟩⟩
  ·cases h
 | (j,u)::es,es',[],hl,hr,h=>by simp at hl
 | (j,u)::es,es',e::l,hl,hr,h=>by
  obtain⟨e1,e2⟩:=hr 0 e (j,u) rfl rfl
  simp only[delM]at h;split at h
  ·rename_i hb
   cases h;obtain⟨d,h1,h2,h3,h4⟩:=keyEq_ok hK hk e1 hb
   have hkk:=h4.1 rfl
   refine⟨d,h1,h2,l,by simpa using hl,fun i e x he hx=>hr (i+1) e x (by simpa using he) (by simpa using hx),.inr ⟨0,e.val,rfl,by simp,fun n=>?_⟩⟩
   obtain⟨q,hq,hiff⟩:=sameNow_of_keys h2 h3
   rw[hiff.2 hkk]at hq;simp[Instr.findNow,hq]
  ·rename_i hb;obtain⟨d,h1,h2,h3,h4⟩:=keyEq_ok hK hk e1 hb
   split at h
   ·rename_i l2 hl2
    cases h;obtain⟨q,hq,hiff⟩:=sameNow_of_keys h2 h3
    have hqf:q=false:=by
     cases q with
     | false=>rfl
     | true=>exact absurd (h4.2 (hiff.1 rfl)) (by simp)
    subst hqf;obtain⟨d',k1,k2,l',k3,k4,k5⟩:=delM_ok hK hk (es:=es) (l:=l) (by simpa using hl) (fun i e x he hx=>hr (i+1) e x (by simpa using he) (by simpa using hx)) hl2
    rw[h1]at k1
    cases k1;refine⟨d,h1,h2,e::l',by simpa using k3,fun i e' x he hx=>?_,?_⟩
    ·cases i with
     | zero=>simp at he hx;subst he hx;exact⟨e1,e2⟩
     | succ i=>exact k4 i e' x (by simpa using he) (by simpa using hx)
    ·rcases k5 with⟨rfl,m1⟩|⟨i0,u0,rfl,m1,m2⟩
     ·exact .inl ⟨rfl,fun n=>by simp[Instr.findNow,hq,m1]⟩
     ·exact .inr ⟨i0+1,u0,rfl,by simpa using m1,fun n=>by simp[Instr.findNow,hq,m2];omega⟩
   ·cases h
  ·cases h

theorem delA_ok(hH:HR P w Im g H){p:Nat}{t ty:TypeId}{ts:List TypeId}{m k av:AV}{vm vk:Value}{vs:List Value}{ws:List (Nat×AObj)}(hm:RepA w Im g vm m)(hk:RepA w Im g vk k)(h:delA P t H m k=some (.val av ws)) :
  ∃ w',(Builtin.delete_ ⟨t::ts⟩ ty ⟨vm::vk::vs⟩).run P w=.ok (.tuple #[]) w'∧Left P w Im g H p ws av (.tuple #[]) w' Im g:=by
 unfold delA delT at h;split at h
 ·rename_i r kt et ht;have hu:=mapT_some ht
  unfold delE at h;split at h
  ·rename_i es he;unfold putM at h;split at h
   ·rename_i es' hs
    cases h;obtain⟨b,hb,l,ck,h1,h2,h3,h4⟩:=hH.mapo r es (getD_map he)
    cases hm with
    | mp hg=>
     rw[hb]at hg
     cases hg;obtain⟨d,hd,hkey,l',m1,m2,hcase⟩:=delM_ok rfl hk h2 h3 hs
     have hck:∀ e,(Instr.checkKey e 10000 _ vk).run P w=.ok () w:=fun e=>run_checkKey (w:=w) hd hkey e 9999
     refine⟨w.putObj b (.map ⟨l'⟩ ck),?_,left_map hH hb h1 h4 m1 m2 (.tuple [] [] rfl (fun i v c hv=>by simp at hv))⟩
     rcases hcase with⟨rfl,n1⟩|⟨j,u,rfl,hj,n1⟩
     ·have hfk:=run_findKey (w:=w) hd (n1 0)
      simp[Builtin.delete_,run_underlying hu,MapKept.run_getObj_map h1,hck,hfk,MapKept.run_setObj_map _ h1,Result.andThen,World.putObj]
     ·have hfk:=run_findKey (w:=w) hd (n1 0)
      simp[Builtin.delete_,run_underlying hu,MapKept.run_getObj_map h1,hck,hfk,MapKept.run_setObj_map _ h1,Result.andThen,World.putObj]
   ·cases h
  ·cases h
 ·cases h

theorem assertA_ok{x c:AV}{s xt:TypeId}{ok:Bool}{v:Value}(hv:RepA w Im g v x)(h:assertA P x s ok=some c):∃ u,(Instr.typeAssert v xt s ok).run P w=.ok u w∧RepA w Im g u c:=by
 unfold assertA at h;unfold assertT at h;split at h
 ·cases h
 ·cases h
 ·rename_i K t y h1 h2;unfold assertK at h;split at h
  ·rename_i hts
   cases h;subst hts
   cases hv with
   | iface hv=>
    rename_i u
    have hund:∃ d,P.underlying t=some d∧∀ l,d≠.interface l:=by
     unfold kindT at h1 h2
     cases hu:P.underlying t with
     | none=>rw[hu]at h2;simp at h2
     | some d=>
      refine⟨d,rfl,fun l hl=>?_⟩
      subst hl;rw[hu]at h1;simp at h1
    obtain⟨d,hd,hne⟩:=hund
    cases ok with
    | true=>
     refine⟨.tuple #[u,.bool true],?_,RepA.tuple2 hv (.d (.bool _))⟩
     cases d<;>first|(exact absurd rfl (hne _))|simp[Instr.typeAssert,run_underlying hd,Result.andThen]
    | false=>
     refine⟨u,?_,hv⟩
     cases d<;>first|(exact absurd rfl (hne _))|simp[Instr.typeAssert,run_underlying hd,Result.andThen]
  ·cases h
 ·cases h
end
end Go.Ab
/- The abstract evaluator is right of calls: what is handed over,renamed,and back. Conditions: none. -/
namespace Go.Ab
open Go

theorem hasRpL_of:∀ {cs:List AV} {c:AV},c∈cs→hasRp c=true→hasRpL cs=true
 | [],c,hc,_=>by cases hc
 | x::cs,c,hc,h=>by
  simp only[hasRpL,Bool.or_eq_true];rcases List.mem_cons.1 hc with rfl|hc
  ·exact .inl h
  ·exact .inr (hasRpL_of hc h)
theorem ren_ok{w:World}{Im:Imm}{g g':List Gh}{f:Nat→Nat}{v:Value}{c:AV}(h:RepA w Im g v c)(hf:∀ (r:Nat) (x:Gh),r∈refs c→g[r]?=some x→g'[f r]?=some x)(hz:∀ bs,hasRp c=true→g[0]?=some (.reg bs)→g'[0]?=some (.reg bs)):RepA w Im g' v (ren f c):=by
 induction h with
 | any v=>simp only[ren];exact .any v
 | d h=>simp only[ren];exact .d h
 | full h=>simp only[ren];exact .full h
 | grow h hg hsz hle he=>simp only[ren];exact .grow h (hf _ _ (by simp[refs]) hg) hsz hle he
 | agg vs cs hl h1 h ih=>
  simp only[ren,renL_map];refine .agg vs _ (by simpa using hl) h1 (fun i v c hv hc=>?_)
  rw[List.getElem?_map]at hc
  cases hci:cs[i]? with
  | none=>rw[hci]at hc;cases hc
  | some c'=>
   rw[hci]at hc;cases hc;refine ih i v c' hv hci (fun r x hr hx=>hf r x ?_ hx) (fun bs hh=>hz bs (by simp only[hasRp];exact hasRpL_of (List.mem_of_getElem? hci) hh))
   simp only[refs,refsAL_map,List.mem_flatten,List.mem_map];exact⟨_,⟨c',List.mem_of_getElem? hci,rfl⟩,hr⟩
 | tuple vs cs hl h ih=>
  simp only[ren,renL_map];refine .tuple vs _ (by simpa using hl) (fun i v c hv hc=>?_)
  rw[List.getElem?_map]at hc
  cases hci:cs[i]? with
  | none=>rw[hci]at hc;cases hc
  | some c'=>
   rw[hci]at hc;cases hc;refine ih i v c' hv hci (fun r x hr hx=>hf r x ?_ hx) (fun bs hh=>hz bs (by simp only[hasRp];exact hasRpL_of (List.mem_of_getElem? hci) hh))
   simp only[refs,refsAL_map,List.mem_flatten,List.mem_map];exact⟨_,⟨c',List.mem_of_getElem? hci,rfl⟩,hr⟩
 | ptr hg=>simp only[ren];exact .ptr (hf _ _ (by simp[refs]) hg)
 | dp h=>simp only[ren];exact .dp h
 | arr hg ho hl=>simp only[ren];exact .arr (hf _ _ (by simp[refs]) hg) ho hl
 | own hg ho hl=>simp only[ren];exact .own (hf _ _ (by simp[refs]) hg) ho hl
 | stk hg h1 h2 h3 h4=>simp only[ren];exact .stk (hf _ _ (by simp[refs]) hg) h1 h2 h3 h4
 | sp hg h1 h2=>simp only[ren];exact .sp (hf _ _ (by simp[refs]) hg) h1 h2
 | sv hg h1 h2 h3 h4 h5=>simp only[ren];exact .sv (hf _ _ (by simp[refs]) hg) h1 h2 h3 h4 h5
 | fn k vf cf vc cc hl hl' h h' ih ih'=>
  simp only[ren,renL_map];refine .fn k vf _ vc _ (by simpa using hl) (by simpa using hl') (fun i v c hv hc=>?_) (fun i v c hv hc=>?_)
  ·rw[List.getElem?_map]at hc
   cases hci:cf[i]? with
   | none=>rw[hci]at hc;cases hc
   | some c'=>
    rw[hci]at hc;cases hc;refine ih i v c' hv hci (fun r x hr hx=>hf r x ?_ hx) (fun bs hh=>hz bs (by simp only[hasRp,Bool.or_eq_true];exact .inl (hasRpL_of (List.mem_of_getElem? hci) hh)))
    simp only[refs,refsAL_map,List.mem_append,List.mem_flatten,List.mem_map];exact .inl ⟨_,⟨c',List.mem_of_getElem? hci,rfl⟩,hr⟩
  ·rw[List.getElem?_map]at hc
   cases hci:cc[i]? with
   | none=>rw[hci]at hc;cases hc
   | some c'=>
    rw[hci]at hc;cases hc;refine ih' i v c' hv hci (fun r x hr hx=>hf r x ?_ hx) (fun bs hh=>hz bs (by simp only[hasRp,Bool.or_eq_true];exact .inr (hasRpL_of (List.mem_of_getElem? hci) hh)))
    simp only[refs,refsAL_map,List.mem_append,List.mem_flatten,List.mem_map];exact .inr ⟨_,⟨c',List.mem_of_getElem? hci,rfl⟩,hr⟩
 | iface h ih=>simp only[ren];exact .iface (ih (fun r x hr hx=>hf r x (by simpa[refs]using hr) hx) (fun bs hh=>hz bs (by simpa only[hasRp]using hh)))
 | mp hg=>simp only[ren];exact .mp (hf _ _ (by simp[refs]) hg)
 | nilm=>exact .nilm
 | nils=>exact .nils
 | yld hg=>simp only[ren];exact .yld (hf _ _ (by simp[refs]) hg)
 | bp hg=>simp only[ren];exact .bp (hf _ _ (by simp[refs]) hg)
 | rp hg hk=>simp only[ren];exact .rp (hz _ rfl hg) hk
 | rs hg hk ho hl=>simp only[ren];exact .rs (hz _ rfl hg) hk ho hl
 | avl cs us hl hc him h ih=>
  simp only[ren,renL_map];refine .avl _ us (by simpa using hl) hc (fun k hk=>him k (by simpa using hk)) (fun i c hc=>?_)
  rw[List.getElem?_map]at hc
  cases hci:cs[i]? with
  | none=>rw[hci]at hc;cases hc
  | some c'=>
   rw[hci]at hc;cases hc;refine ih i c' hci (fun r x hr hx=>hf r x ?_ hx) (fun bs hh=>hz bs (by simp only[hasRp];exact hasRpL_of (List.mem_of_getElem? hci) hh))
   simp only[refs,refsAL_map,List.mem_flatten,List.mem_map];exact⟨_,⟨c',List.mem_of_getElem? hci,rfl⟩,hr⟩
mutual
theorem ren_id(f:Nat→Nat):∀ (c:AV),refs c=[]→ren f c=c
 | .agg cs,h=>by simp only[refs]at h;simp only[ren,renL_id f cs h]
 | .tuple cs,h=>by simp only[refs]at h;simp only[ren,renL_id f cs h]
 | .fn k a b,h=>by
  simp only[refs,List.append_eq_nil_iff]at h;simp only[ren,renL_id f a h.1,renL_id f b h.2]
 | .iface t v,h=>by simp only[refs]at h;simp only[ren,ren_id f v h]
 | .avl n sz cs,h=>by simp only[refs]at h;simp only[ren,renL_id f cs h]
 | .ptr _ _,h=>by simp[refs]at h
 | .arr _ _ _ _,h=>by simp[refs]at h
 | .own _ _ _ _,h=>by simp[refs]at h
 | .stk _ _ _,h=>by simp[refs]at h
 | .sp _ _ _,h=>by simp[refs]at h
 | .sv _ _ _ _,h=>by simp[refs]at h
 | .grow _ _ _,h=>by simp[refs]at h
 | .mp _,h=>by simp[refs]at h
 | .yld _,h=>by simp[refs]at h
 | .bp _,h=>by simp[refs]at h
 | .nilm,_=>rfl
 | .nils,_=>rfl
 | .any,_=>rfl
 | .d _,_=>rfl
 | .full _,_=>rfl
 | .dp _,_=>rfl
 | .rp _ _,_=>rfl
 | .rs _ _ _ _,_=>rfl
theorem renL_id(f:Nat→Nat):∀ (cs:List AV),refsAL cs=[]→renL f cs=cs
 | [],_=>rfl
 | c::cs,h=>by
  simp only[refsAL,List.append_eq_nil_iff]at h;simp only[renL,ren_id f c h.1,renL_id f cs h.2]
end

section
variable {P:Program}{w:World}{Im:Imm}{g:List Gh}{H:List AObj}

theorem RepAs.cons{v:Value}{c:AV}{vs:List Value}{cs:List AV}(h:RepA w Im g v c)(k:RepAs w Im g vs cs):RepAs w Im g (v::vs) (c::cs):=by
 refine⟨by simp[k.1],fun i u d hu hd=>?_⟩
 cases i with
 | zero=>simp at hu hd;subst hu hd;exact h
 | succ i=>exact k.2 i u d (by simpa using hu) (by simpa using hd)
theorem RepAs.nil:RepAs w Im g [] []:=⟨rfl,fun _ _ _ h=>by simp at h⟩
theorem RepAs.append{vs vs':List Value}{cs cs':List AV}(h:RepAs w Im g vs cs)(k:RepAs w Im g vs' cs'):RepAs w Im g (vs++vs') (cs++cs'):=by
 refine⟨by simp[h.1,k.1],fun i u d hu hd=>?_⟩
 by_cases hi:i<vs.length
 ·rw[List.getElem?_append_left hi]at hu
  rw[List.getElem?_append_left (by rw[←h.1];exact hi)]at hd
  exact h.2 i u d hu hd
 ·rw[List.getElem?_append_right (by omega)]at hu
  rw[List.getElem?_append_right (by rw[←h.1];omega),←h.1]at hd
  exact k.2 _ u d hu hd

theorem repD_at{b o n s cap:Nat}{vs:List Value}{xs:List Dt}(hl:xs.length=n*s)(hn:n≤cap)(hvl:vs.length=xs.length)(hr:∀ (i:Nat) (v:Value) (x:Dt),vs[i]?=some v→xs[i]?=some x→RepD w Im v x)
  (hi:∀ k,k<n*s→Im b (o+k)) (hc:∀ (k:Nat) (v:Value),vs[k]?=some v→w.cell? ⟨b,o+k,none⟩=some v):RepD w Im (.slice (some ⟨b,o,none⟩) n cap) (.sl (chunk s n xs)):=by
 have key:RepD w Im (.slice (some ⟨b,o,none⟩) (chunk s n xs).length cap) (.sl (chunk s n xs)):=by
  refine .sl b o cap s _ (fun k=>vs.getD k undef) (by rw[chunk_len];exact hn) (chunk_rows s n xs hl) (fun k hk=>?_) (fun k x hx=>?_)
  ·rw[chunk_flat s n xs hl]at hk;refine⟨hi k (by omega),?_⟩
   have hv:vs[k]?=some vs[k]:=List.getElem?_eq_getElem (by omega)
   rw[hc k _ hv,List.getD_eq_getElem?_getD,hv]
   rfl
  ·rw[chunk_flat s n xs hl]at hx;have hk:=(List.getElem?_eq_some_iff.1 hx).1
   have hv:vs[k]?=some (vs[k]'(by omega)):=List.getElem?_eq_getElem (by omega)
   rw[List.getD_eq_getElem?_getD,hv]
   exact hr k _ x hv hx
 rwa[chunk_len]at key

def Froz(w:World)(g:List Gh)(F:List Nat)(b:Nat):Prop:=∃ r,r∈F∧g[r]?=some (.cell b)∧b<w.heap.size

theorem setOs_noes:∀ (F:List Nat) (H:List AObj),(∀ r,r∈F→r<H.length)→(setOs H (noes F)).length=H.length∧(∀ r,r∈F→(setOs H (noes F))[r]?=some .no)∧∀ r,r∉F→(setOs H (noes F))[r]?=H[r]?
 | [],H,_=>⟨rfl,fun _ h=>by simp at h,fun _ _=>rfl⟩
 | q::F,H,h=>by
  have hq:=h q (by simp)
  simp only[noes,setOs,setO_lt hq];obtain⟨h1,h2,h3⟩:=setOs_noes F (H.set q .no) (fun r hr=>by simpa using h r (by simp[hr]))
  refine⟨by simpa using h1,fun r hr=>?_,fun r hr=>?_⟩
  ·by_cases hF:r∈F
   ·exact h2 r hF
   ·have:r=q:=by simpa[hF]using hr
    subst this;rw[h3 r hF,List.getElem?_set_self hq]
  ·simp at hr;rw[h3 r hr.2,List.getElem?_set_ne (Ne.symm hr.1)]

theorem froz_hr(hH:HR P w Im g H){F:List Nat}(hF:∀ r,r∈F→r<H.length)(hFg:∀ r,r∈F→∀ x,g[r]?≠some (.reg x)) :
  HR P w (fun b o=>Im b o∨Froz w g F b) g (setOs H (noes F))∧Ext w Im g w (fun b o=>Im b o∨Froz w g F b) g:=by
 obtain⟨h1,h2,h3⟩:=setOs_noes F H hF
 have e:Ext w Im g w (fun b o=>Im b o∨Froz w g F b) g:=by
  refine⟨rfl,rfl,rfl,Nat.le_refl _,fun _ _ h=>.inl h,fun _ _ _=>rfl,fun _ _ _=>rfl,fun b o h=>?_,fun _ h=>.inl h,GLe.refl g⟩
  rcases h with h|⟨r,_,hr,_⟩
  ·exact .inl h
  ·exact .inr (.inr ⟨r,_,hr,rfl⟩)
 refine⟨hH.go e (by rw[h1];exact hH.len) (fun r=>r∈F) (fun r hr=>⟨rfl,h3 r hr⟩) (fun r x k hr hg hk=>⟨rfl,fun o ho=>?_⟩) ?_ ?_ ?_ ?_ ?_ ?_ ?_ ?_ (fun r e sz cs hr hc=>by rw[h2 r hr]at hc;cases hc) (fun r t cs hr hc=>by rw[h2 r hr]at hc;cases hc) (fun r bs hr hc=>by rw[h2 r hr]at hc;cases hc) (fun r x hr hx=>hFg r hr x hx),e⟩
 ·rcases ho with ho|⟨q,hq,hqg,_⟩
  ·exact ho
  ·exact absurd rfl (fun(_:k=k)=>hH.sep r q k x _ (fun h=>hr (h▸hq)) hg hqg hk rfl)
 ·intro r cs hr hc;rw[h2 r hr]at hc;cases hc
 ·intro r ep sz hr hc;rw[h2 r hr]at hc;cases hc
 ·intro r es hr hc;rw[h2 r hr]at hc;cases hc
 ·intro r stop n rest hr hc;rw[h2 r hr]at hc;cases hc
 ·intro r acc hr hc;rw[h2 r hr]at hc;cases hc
 ·intro r r' k x x' _ hne hr hr' hx;exact hH.sep r r' k x x' hne hr hr' hx
 ·intro r k x _ hr hx;exact hH.lt k ⟨r,x,hr,hx⟩
 ·intro b o h;rcases h with h|⟨_,_,_,h⟩
  ·exact hH.im b o h
  ·exact h

theorem give0_ok{kn:Bool}(hH:HR P w Im g H){F:List Nat}{v:Value}{c c':AV}(h:RepA w Im g v c)(hF:∀ r,r∈arrs0 c→r∈F)(hg:give0 kn H c=some c')(e:Ext w Im g w (fun b o=>Im b o∨Froz w g F b) g) :
  RepA w (fun b o=>Im b o∨Froz w g F b) g v c'∧((∀ cs,c≠.agg cs)∧(∀ cs,c≠.tuple cs)):=by
 unfold give0 at hg;split at hg
 ·unfold fullG at hg;split at hg
  ·cases hg;exact⟨h.ext e,by simp⟩
  ·cases hg;exact⟨(RepA.d (rowsA_ok h rfl)).ext e,by simp⟩
  ·cases hg;exact⟨(RepA.d (rowsA_ok h rfl)).ext e,by simp⟩
 ·cases hg;exact⟨(RepA.d (rowsA_ok h rfl)).ext e,by simp⟩
 ·rename_i r off len esz;unfold arrV at hg;split at hg
  ·rename_i xs hx
   cases hg;refine⟨?_,by simp⟩
   unfold arrD at hx;split at hx
   ·rename_i cs hcs;split at hx
    ·rename_i hle;obtain⟨b,hb,vs,ty,hv,hl,hrep,h1,hno⟩:=hH.cells r cs (getD_cells hcs)
     cases h with
     | arr hgr ho hc=>
      rename_i off' b' cap;rw[hb]at hgr
      cases hgr;by_cases hl0:len=0
      ·subst hl0;exact .d (.sl0 _ _)
      ·have ho':=ho.resolve_right hl0
       subst ho'
       obtain⟨k1,k2⟩:=dataAs_ok (w:=w) (Im:=Im) (g:=g) (vs:=(vs.drop off').take (len*esz)) (cs:=(cs.drop off').take (len*esz)) (by simp;omega) (fun i v c hv' hc'=>by
        rw[getElem?_take_drop]at hv' hc'
        split at hv'
        ·rw[if_pos (by assumption)]at hc';exact hrep _ v c hv' hc'
        ·cases hv') hx
       have hb':b<w.heap.size:=(Array.getElem?_eq_some_iff.1 hv).1
       refine .d (repD_at (vs:=(vs.drop off').take (len*esz)) (by rw[k1];simp;omega) hc k1.symm (fun i v x hv' hx'=>(k2 i v x hv' hx').ext e.hm) (fun k _=>.inr ⟨r,hF r (by simp[arrs0]),hb,hb'⟩) (fun k v hk=>?_))
       rw[getElem?_take_drop]at hk
       split at hk
       ·rw[cell_of_row _ _ _ ⟨vs⟩ ty (0,0) hv];simpa using hk
       ·cases hk
    ·cases hx
   ·cases hx
  ·cases hg
 ·cases hg
 ·cases hg
 ·rename_i h1 h2 h3 h4 h5
  cases hg;exact⟨h.ext e,fun cs hcs=>h4 cs hcs,fun cs hcs=>h5 cs hcs⟩

theorem giveL_ok{f:AV→Option AV}{R R':Value→AV→Prop}:∀ {vs:List Value} {cs cs':List AV},vs.length=cs.length→(∀ (i:Nat) (v:Value) (c:AV),vs[i]?=some v→cs[i]?=some c→R v c)→giveL f cs=some cs' →
  (∀ (v:Value) (c c':AV),c∈cs→R v c→f c=some c'→R' v c')→vs.length=cs'.length∧∀ (i:Nat) (v:Value) (c:AV),vs[i]?=some v→cs'[i]?=some c→R' v c
 | vs,[],cs',hl,_,h,_=>by
  cases h;exact⟨hl,fun i v c _ hc=>by simp at hc⟩
 | [],c::cs,cs',hl,_,_,_=>by simp at hl
 | v::vs,c::cs,cs',hl,hr,h,hf=>by
  simp only[giveL]at h;split at h
  ·rename_i x xs h1 h2
   cases h;obtain⟨k1,k2⟩:=giveL_ok (vs:=vs) (by simpa using hl) (fun i v c hv hc=>hr (i+1) v c (by simpa using hv) (by simpa using hc)) h2 (fun v c c' hm=>hf v c c' (by simp[hm]))
   refine⟨by simp[k1],fun i u y hu hy=>?_⟩
   cases i with
   | zero=>simp at hu hy;subst hu hy;exact hf v c x (by simp) (hr 0 _ _ rfl rfl) h1
   | succ i=>exact k2 i u y (by simpa using hu) (by simpa using hy)
  ·cases h

theorem mem_refsL{f:AV→List Nat}{r:Nat}:∀ {cs:List AV},r∈refsL f cs↔∃ c,c∈cs∧r∈f c
 | []=>by simp[refsL]
 | c::cs=>by simp[refsL,mem_refsL]

theorem give1_ok{kn:Bool}(hH:HR P w Im g H){F:List Nat}{v:Value}{c c':AV}(h:RepA w Im g v c)(hF:∀ r,r∈arrs1 c→r∈F)(hg:give1 kn H c=some c')(e:Ext w Im g w (fun b o=>Im b o∨Froz w g F b) g) :
  RepA w (fun b o=>Im b o∨Froz w g F b) g v c':=by
 unfold give1 at hg;split at hg
 ·rename_i cs;unfold aggO at hg;split at hg
  ·rename_i cs' hcs
   cases hg
   cases h with
   | agg vs _ hl h1 hr=>
    obtain⟨k1,k2⟩:=giveL_ok (R:=RepA w Im g) (R':=RepA w (fun b o=>Im b o∨Froz w g F b) g) hl hr hcs (fun v c c' hm hv hc=>(give0_ok hH hv (fun r hr=>hF r (by simp only[arrs1,mem_refsL];exact⟨c,hm,hr⟩)) hc e).1)
    exact .agg vs _ k1 h1 k2
  ·cases hg
 ·rename_i hne;exact(give0_ok hH h (fun r hr=>hF r (by unfold arrs1;split<;>first|(rename_i hh;exact absurd rfl (hne _))|exact hr)) hg e).1

theorem give2_ok(hH:HR P w Im g H){F:List Nat}{v:Value}{c c':AV}(h:RepA w Im g v c)(hF:∀ r,r∈arrs2 c→r∈F)(hg:give2 H c=some c')(e:Ext w Im g w (fun b o=>Im b o∨Froz w g F b) g) :
  RepA w (fun b o=>Im b o∨Froz w g F b) g v c':=by
 unfold give2 at hg;split at hg
 ·rename_i cs;unfold tupO at hg;split at hg
  ·rename_i cs' hcs
   cases hg
   cases h with
   | tuple vs _ hl hr=>
    obtain⟨k1,k2⟩:=giveL_ok (R:=RepA w Im g) (R':=RepA w (fun b o=>Im b o∨Froz w g F b) g) hl hr hcs (fun v c c' hm hv hc=>give1_ok hH hv (fun r hr=>hF r (by simp only[arrs2,mem_refsL];exact⟨c,hm,hr⟩)) hc e)
    exact .tuple vs _ k1 k2
  ·cases hg
 ·rename_i hne;exact give1_ok hH h (fun r hr=>hF r (by unfold arrs2;split<;>first|(rename_i hh;exact absurd rfl (hne _))|exact hr)) hg e

theorem arrs0_lt(hH:HR P w Im g H){v:Value}{c:AV}(h:RepA w Im g v c):∀ r,r∈arrs0 c→r<H.length:=by
 intro r hr
 cases h with
 | arr hg=>simp[arrs0]at hr;subst hr;exact hH.lenlt hg
 | _=>simp[arrs0]at hr
theorem arrs1_lt(hH:HR P w Im g H){v:Value}{c:AV}(h:RepA w Im g v c):∀ r,r∈arrs1 c→r<H.length:=by
 intro r hr
 cases h with
 | agg vs cs hl h1 hrep=>
  simp only[arrs1,mem_refsL]at hr;obtain⟨c,hc,hr⟩:=hr
  obtain⟨i,hi,rfl⟩:=List.getElem_of_mem hc
  exact arrs0_lt hH (hrep i _ _ (List.getElem?_eq_getElem (by omega)) (List.getElem?_eq_getElem hi)) r hr
 | arr hg=>simp[arrs1,arrs0]at hr;subst hr;exact hH.lenlt hg
 | _=>simp[arrs1,arrs0]at hr
theorem arrs1_cell{v:Value}{c:AV}(h:RepA w Im g v c):∀ r,r∈arrs1 c→∀ x,g[r]?≠some (.reg x):=by
 intro r hr x
 have h0:∀ {v:Value} {c:AV},RepA w Im g v c→r∈arrs0 c→g[r]?≠some (.reg x):=by
  intro v c h hr
  cases h with
  | arr hg=>simp[arrs0]at hr;subst hr;rw[hg];simp
  | _=>simp[arrs0]at hr
 cases h with
 | agg vs cs hl h1 hrep=>
  simp only[arrs1,mem_refsL]at hr;obtain⟨c,hc,hr⟩:=hr
  obtain⟨i,hi,rfl⟩:=List.getElem_of_mem hc
  exact h0 (hrep i _ _ (List.getElem?_eq_getElem (by omega)) (List.getElem?_eq_getElem hi)) hr
 | arr hg=>simp[arrs1,arrs0]at hr;subst hr;rw[hg];simp
 | _=>simp[arrs1,arrs0]at hr
theorem arrs2_cell{v:Value}{c:AV}(h:RepA w Im g v c):∀ r,r∈arrs2 c→∀ x,g[r]?≠some (.reg x):=by
 intro r hr;by_cases ht:∃ cs,c=.tuple cs
 ·obtain⟨cs,rfl⟩:=ht
  cases h with
  | tuple vs _ hl hrep=>
   simp only[arrs2,mem_refsL]at hr;obtain⟨c,hc,hr⟩:=hr
   obtain⟨i,hi,rfl⟩:=List.getElem_of_mem hc
   exact arrs1_cell (hrep i _ _ (List.getElem?_eq_getElem (by omega)) (List.getElem?_eq_getElem hi)) r hr
 ·refine arrs1_cell h r ?_
  unfold arrs2 at hr;split at hr
  ·exact absurd ⟨_,rfl⟩ ht
  ·exact hr
theorem arrs2_lt(hH:HR P w Im g H){v:Value}{c:AV}(h:RepA w Im g v c):∀ r,r∈arrs2 c→r<H.length:=by
 intro r hr;by_cases ht:∃ cs,c=.tuple cs
 ·obtain⟨cs,rfl⟩:=ht
  cases h with
  | tuple vs _ hl hrep=>
   simp only[arrs2,mem_refsL]at hr;obtain⟨c,hc,hr⟩:=hr
   obtain⟨i,hi,rfl⟩:=List.getElem_of_mem hc
   exact arrs1_lt hH (hrep i _ _ (List.getElem?_eq_getElem (by omega)) (List.getElem?_eq_getElem hi)) r hr
 ·refine arrs1_lt hH h r ?_
  unfold arrs2 at hr;split at hr
  ·exact absurd ⟨_,rfl⟩ ht
  ·exact hr
end
end Go.Ab
/- The abstract evaluator is right of calls. Conditions: the functions that are called are right. -/
namespace Go.Ab
open Go

def OutRep(w:World)(Im:Imm)(g:List Gh):Out→Ending→Prop
 | .ret a,e=>∃ v,e=.returned v∧RepA w Im g v a
 | .pan a,e=>∃ v,e=.panicked [{ v,recovered:=false }]∧RepA w Im g v a

def CallPost(P:Program)(w:World)(Im:Imm)(g:List Gh)(out:Out)(H':List AObj)(e:Ending)(w':World):Prop:=
 ∃ Im' g',HR P w' Im' g' H'∧Ext w Im g w' Im' g'∧OutRep w' Im' g' out e

def Sound(P:Program)(Γ:Sem'):Prop:=
 ∀ (f:Nat) (as:List AV) (H:List AObj) (out:Out) (H':List AObj),Γ f as H=some (out,H') →
  (∀ args w,(callFunc f args).run P w=.ok (.enter f args) w)∧H.length≤H'.length ∧
  ∀ (w:World) (Im:Imm) (g:List Gh) (vs:List Value),HR P w Im g H→RepAs w Im g vs as→Calls P f ⟨vs⟩ w (CallPost P w Im g out H')

def putAt{α:Type}:List α→List Nat→List α→List α
 | l,r::rs,x::xs=>putAt (l.set r x) rs xs
 | l,_,_=>l
theorem putAt_len{α:Type}:∀ (rs:List Nat) (l xs:List α),(putAt l rs xs).length=l.length
 | [],l,xs=>by cases xs<;>rfl
 | r::rs,l,[]=>rfl
 | r::rs,l,x::xs=>by simp only[putAt];rw[putAt_len rs];simp
theorem putAt_not{α:Type}:∀ (rs:List Nat) (l xs:List α) (r:Nat),r∉rs→(putAt l rs xs)[r]?=l[r]?
 | [],l,xs,r,_=>by cases xs<;>rfl
 | q::rs,l,[],r,_=>rfl
 | q::rs,l,x::xs,r,h=>by
  simp at h;simp only[putAt];rw[putAt_not rs _ xs r h.2,List.getElem?_set_ne (Ne.symm h.1)]
theorem putAt_at{α:Type}:∀ (rs:List Nat) (l xs:List α) (i r:Nat),rs.Nodup→rs.length≤xs.length→(∀ q,q∈rs→q<l.length)→rs[i]?=some r→(putAt l rs xs)[r]?=xs[i]?
 | [],l,xs,i,r,_,_,_,h=>by simp at h
 | q::rs,l,[],i,r,_,hl,_,_=>by simp at hl
 | q::rs,l,x::xs,i,r,hn,hl,hlt,h=>by
  simp only[putAt];rw[List.nodup_cons]at hn
  cases i with
  | zero=>
   simp at h;subst h;rw[putAt_not rs _ xs q hn.1,List.getElem?_set_self (hlt q (by simp))]
   simp
  | succ i=>
   have:=putAt_at rs (l.set q x) xs i r hn.2 (by simpa using hl) (fun y hy=>by simpa using hlt y (by simp[hy])) (by simpa using h)
   rw[this];simp

theorem setOs_append(H:List AObj):∀ (a b:List (Nat×AObj)),setOs H (a++b)=setOs (setOs H a) b
 | [],b=>rfl
 | (r,o)::a,b=>by simp only[List.cons_append,setOs];exact setOs_append _ a b

theorem backWs_eq(ρ:List Nat)(H:List AObj)(hlt:∀ r,r∈ρ→r<H.length):∀ (os:List AObj) (i:Nat) (H1:List AObj),i≤ρ.length→H1.length=H.length→ρ.length-i≤os.length →
  setOs H1 (backWs ρ H.length i os)=putAt H1 (ρ.drop i) (os.map (renO (back ρ H.length)))++(os.drop (ρ.length-i)).map (renO (back ρ H.length)):=by
 intro os;induction os with
 | nil=>
  intro i H1 hi hl ho;have:ρ.drop i=[]:=List.drop_of_length_le (by simp at ho;omega)
  rw[this];simp[backWs,setOs,putAt]
 | cons o os ih=>
  intro i H1 hi hl ho;simp only[backWs,setOs];by_cases hlt':i<ρ.length
  ·have hb:back ρ H.length i=ρ[i]:=by simp[back,hlt']
   have hr:ρ[i]<H1.length:=by rw[hl];exact hlt _ (List.getElem_mem hlt')
   rw[hb,setO_lt hr,ih (i+1) _ (by omega) (by simpa using hl) (by simp at ho ⊢;omega)]
   rw[List.drop_eq_getElem_cons hlt'];simp only[List.map_cons,putAt];congr 2
   rw[show ρ.length-i=(ρ.length-(i+1))+1 by omega,List.drop_succ_cons]
  ·have hie:i=ρ.length:=by omega
   subst hie;have hd:ρ.drop ρ.length=[]:=List.drop_of_length_le (Nat.le_refl _)
   have hb:∀ (os:List AObj) (j:Nat) (H1:List AObj),H1.length=H.length+j→setOs H1 (backWs ρ H.length (ρ.length+j) os)=H1++os.map (renO (back ρ H.length)):=by
    intro os;induction os with
    | nil=>intro j H1 _;simp[backWs,setOs]
    | cons o os ih'=>
     intro j H1 hl1;simp only[backWs,setOs];have h1:back ρ H.length (ρ.length+j)=H.length+j:=by unfold back;rw[if_neg (by omega)];omega
     have h2:setO H1 (H.length+j) (renO (back ρ H.length) o)=H1++[renO (back ρ H.length) o]:=by
      unfold setO;rw[if_neg (by omega),hl1];simp
     rw[h1,h2,show ρ.length+j+1=ρ.length+(j+1)by omega,ih' (j+1) _ (by simp;omega)]
     simp
   have h0:=hb (o::os) 0 H1 (by omega)
   simp only[Nat.add_zero,backWs,setOs]at h0;rw[h0,hd];simp[putAt]

section
variable {P:Program}{w:World}{Im:Imm}{g:List Gh}{H:List AObj}

theorem closed_inv{ρ:List Nat}{as:List AV}(h:closed H ρ as=true):(∀ c,c∈as→∀ r,r∈refs c→r∈ρ)∧(∀ r,r∈ρ→∀ q,q∈refsO (H.getD r .no)→q∈ρ)∧(∀ r,r∈ρ→isObj (H.getD r .no)=true∧r<H.length)∧ρ.Nodup:=by
 simp only[closed,subsetB,Bool.and_eq_true,List.all_eq_true,decide_eq_true_eq]at h;obtain⟨⟨⟨h1,h2⟩,h3⟩,h4⟩:=h
 refine⟨fun c hc r hr=>h1 r (by simp only[List.mem_flatten,List.mem_map];exact⟨_,⟨c,hc,rfl⟩,hr⟩),fun r hr q hq=>h2 q (by simp only[List.mem_flatten,List.mem_map];exact⟨_,⟨r,hr,rfl⟩,hq⟩),fun r hr=>⟨h3 r hr,?_⟩,h4⟩
 have:=h3 r hr
 rw[List.getD_eq_getElem?_getD]at this
 apply Nat.lt_of_not_le
 intro hle;rw[List.getElem?_eq_none hle]at this
 simp[isObj]at this

theorem renM_map(f:Nat→Nat):∀ es,renM f es=es.map fun x=>(ren f x.1,ren f x.2)
 | []=>rfl
 | (k,v)::es=>by simp only[renM,List.map_cons];rw[renM_map f es]
theorem mem_refsM{q:Nat}{x:AV×AV}:∀ {es:List (AV×AV)},x∈es→(q∈refs x.1∨q∈refs x.2)→q∈refsM es
 | [],hx,_=>by simp at hx
 | (k,v)::es,hx,hq=>by
  simp only[refsM,List.mem_append];rcases List.mem_cons.1 hx with rfl|hx
  ·exact .inl hq
  ·exact .inr (mem_refsM hx hq)
theorem getD_of{α:Type}{l:List α}{r:Nat}{d x:α}(h:l[r]?=some x):l.getD r d=x:=by rw[List.getD_eq_getElem?_getD,h];rfl

theorem rgOk_z(hH:HR P w Im g H){f:Nat}{ρ:List Nat}{as:List AV}(hk:rgOk f H ρ as=true) :
  (∀ c,c∈as→hasRp c=true→∀ bs,g[0]?=some (.reg bs)→ρ[0]?=some 0)∧(∀ r,r∈ρ→hasRpO (H.getD r .no)=true→∀ bs,g[0]?=some (.reg bs)→ρ[0]?=some 0):=by
 cases hr:hasReg with
 | false=>exact⟨fun _ _ _ bs hb=>absurd hb (hH.rg.off hr 0 bs),fun _ _ _ bs hb=>absurd hb (hH.rg.off hr 0 bs)⟩
 | true=>
  unfold rgOk rgOk1 at hk;rw[hr,Bool.and_eq_true]at hk;replace hk:=hk.2
  simp only at hk
  cases hf:rgH f H with
  | true=>
   rw[hf]at hk;simp only[rgIn,Bool.and_eq_true,decide_eq_true_eq]at hk
   have h0:ρ[0]?=some 0:=by
    cases ρ with
    | nil=>simp at hk
    | cons a l=>simp at hk;simp[hk.2]
   exact⟨fun _ _ _ _ _=>h0,fun _ _ _ _ _=>h0⟩
  | false=>
   rw[hf]at hk;simp only[rgIn,Bool.and_eq_true,Bool.not_eq_true']at hk;refine⟨fun c hc h=>?_,fun r hr h=>?_⟩
   ·rw[hasRpL_of hc h]at hk;simp at hk
   ·have:∀ (l:List AObj) (o:AObj),o∈l→hasRpO o=true→hasRpH l=true:=by
     intro l;induction l with
     | nil=>intro o ho;cases ho
     | cons x l ih=>
      intro o ho h;simp only[hasRpH,Bool.or_eq_true];rcases List.mem_cons.1 ho with rfl|ho
      ·exact .inl h
      ·exact .inr (ih o ho h)
    rw[this _ _ (List.mem_map_of_mem hr) h]at hk;simp at hk
theorem hasRpM_of{x:AV×AV}:∀ {es:List (AV×AV)},x∈es→(hasRp x.1=true∨hasRp x.2=true)→hasRpM es=true
 | [],hx,_=>by cases hx
 | (k,v)::es,hx,h=>by
  simp only[hasRpM,Bool.or_eq_true];rcases List.mem_cons.1 hx with rfl|hx
  ·exact .inl h
  ·exact .inr (hasRpM_of hx h)
theorem hasRpH_of:∀ {l:List AObj} {o:AObj},o∈l→hasRpO o=true→hasRpH l=true
 | [],_,ho,_=>by cases ho
 | x::l,o,ho,h=>by
  simp only[hasRpH,Bool.or_eq_true];rcases List.mem_cons.1 ho with rfl|ho
  ·exact .inl h
  ·exact .inr (hasRpH_of ho h)

def RgZ(g:List Gh)(H:List AObj)(ρ:List Nat)(as:List AV):Prop:=
 (∀ c,c∈as→hasRp c=true→∀ bs,g[0]?=some (.reg bs)→ρ[0]?=some 0)∧(∀ r,r∈ρ→hasRpO (H.getD r .no)=true→∀ bs,g[0]?=some (.reg bs)→ρ[0]?=some 0)
theorem rgOk_Z(hH:HR P w Im g H){f:Nat}{ρ:List Nat}{as:List AV}(hk:rgOk f H ρ as=true):RgZ g H ρ as:=rgOk_z hH hk
theorem hr_sub(hH:HR P w Im g H){ρ:List Nat}{as:List AV}(hc:closed H ρ as=true)(hz:RgZ g H ρ as) :
  HR P w Im (ρ.map fun r=>g.getD r .no) (ρ.map fun r=>renO (fun r=>ρ.idxOf r) (H.getD r .no)) ∧
  ∀ (c:AV) (v:Value),c∈as→RepA w Im g v c→RepA w Im (ρ.map fun r=>g.getD r .no) v (ren (fun r=>ρ.idxOf r) c):=by
 obtain⟨h1,h2,h3,h4⟩:=closed_inv hc
 obtain⟨z1,z2⟩:=hz
 have hg:∀ r,r∈ρ→∀ x,g[r]?=some x→(ρ.map fun r=>g.getD r .no)[ρ.idxOf r]?=some x:=by
  intro r hr x hx;have hi:ρ.idxOf r<ρ.length:=List.idxOf_lt_length_iff.2 hr
  rw[List.getElem?_map,List.getElem?_eq_getElem hi,List.getElem_idxOf]
  simp[hx]
 have hg0:∀ bs,ρ[0]?=some 0→g[0]?=some (.reg bs)→(ρ.map fun r=>g.getD r .no)[0]?=some (.reg bs):=by
  intro bs h0 hb;rw[List.getElem?_map,h0]
  simp[hb]
 have hren0:∀ (c:AV) (v:Value),RepA w Im g v c→(∀ r,r∈refs c→r∈ρ)→(hasRp c=true→∀ bs,g[0]?=some (.reg bs)→ρ[0]?=some 0)→RepA w Im (ρ.map fun r=>g.getD r .no) v (ren (fun r=>ρ.idxOf r) c):=
  fun c v h hr hz=>ren_ok h (fun r x hr' hx=>hg r (hr r hr') x hx) (fun bs hh hb=>hg0 bs (hz hh bs hb) hb)
 refine⟨?_,fun c v hm h=>hren0 c v h (h1 c hm) (z1 c hm)⟩
 have hat:∀ (i:Nat) (o:AObj),(ρ.map fun r=>renO (fun r=>ρ.idxOf r) (H.getD r .no))[i]?=some o→∃ r,ρ[i]?=some r∧r∈ρ∧o=renO (fun r=>ρ.idxOf r) (H.getD r .no)∧H[r]?=some (H.getD r .no):=by
  intro i o ho;rw[List.getElem?_map]at ho
  cases hi:ρ[i]? with
  | none=>rw[hi]at ho;cases ho
  | some r=>
   rw[hi]at ho;have hm:=List.mem_of_getElem? hi
   refine⟨r,rfl,hm,by simpa using ho.symm,?_⟩
   rw[List.getD_eq_getElem?_getD,List.getElem?_eq_getElem (h3 r hm).2];rfl
 have hgat:∀ (i:Nat) (x:Gh),(ρ.map fun r=>g.getD r .no)[i]?=some x→∃ r,ρ[i]?=some r∧r∈ρ∧g[r]?=some x:=by
  intro i x hx;rw[List.getElem?_map]at hx
  cases hi:ρ[i]? with
  | none=>rw[hi]at hx;cases hx
  | some r=>
   rw[hi]at hx;have hm:=List.mem_of_getElem? hi
   have hlt:r<g.length:=by rw[hH.len];exact(h3 r hm).2
   refine⟨r,rfl,hm,?_⟩
   have:g.getD r .no=x:=by simpa using hx
   rw[List.getElem?_eq_getElem hlt,←this,List.getD_eq_getElem?_getD,List.getElem?_eq_getElem hlt];rfl
 refine⟨by simp,fun i cs hi=>?_,fun i ep sz hi=>?_,fun i ep sz cs hi=>?_,fun i es hi=>?_,fun i stop n rest hi=>?_,fun i acc hi=>?_,fun i j k x x' hne hi hj hx=>?_,fun k hk=>?_,hH.im,hH.tab,fun i t cs hi=>?_,?_⟩
 ·obtain⟨r,hri,hm,ho,hHr⟩:=hat i _ hi
  cases hobj:H.getD r .no with
  | no=>rw[hobj]at ho;cases ho
  | grow=>rw[hobj]at ho;cases ho
  | mapo=>rw[hobj]at ho;cases ho
  | log=>rw[hobj]at ho;cases ho
  | gen=>rw[hobj]at ho;cases ho
  | bld=>rw[hobj]at ho;cases ho
  | reg=>rw[hobj]at ho;cases ho
  | stk=>rw[hobj]at ho;cases ho
  | cells cs0=>
   rw[hobj]at ho hHr
   cases ho;obtain⟨b,hb,vs,t,k1,k2,k3,k4,k5⟩:=hH.cells r cs0 hHr
   refine⟨b,?_,vs,t,k1,by simpa using k2,fun j v c hv hc=>?_,k4,k5⟩
   ·rw[List.getElem?_map,hri];simp[hb]
   ·rw[List.getElem?_map]at hc
    cases hcj:cs0[j]? with
    | none=>rw[hcj]at hc;cases hc
    | some c0=>
     rw[hcj]at hc;cases hc;refine hren0 c0 v (k3 j v c0 hv hcj) (fun q hq=>h2 r hm q ?_) (fun hh=>z2 r hm (by rw[hobj];exact hasRpL_of (List.mem_of_getElem? hcj) hh))
     rw[hobj];simp only[refsO,List.mem_flatten,List.mem_map];exact⟨_,⟨c0,List.mem_of_getElem? hcj,rfl⟩,hq⟩
 ·obtain⟨r,hri,hm,ho,hHr⟩:=hat i _ hi
  cases hobj:H.getD r .no with
  | no=>rw[hobj]at ho;cases ho
  | cells=>rw[hobj]at ho;cases ho
  | mapo=>rw[hobj]at ho;cases ho
  | log=>rw[hobj]at ho;cases ho
  | gen=>rw[hobj]at ho;cases ho
  | bld=>rw[hobj]at ho;cases ho
  | reg=>rw[hobj]at ho;cases ho
  | stk=>rw[hobj]at ho;cases ho
  | grow e s=>
   rw[hobj]at ho hHr
   cases ho;obtain⟨base,len,cap,k1,k2⟩:=hH.grow r ep sz hHr
   exact⟨base,len,cap,by rw[List.getElem?_map,hri];simp[k1],k2⟩
 ·obtain⟨r,hri,hm,ho,hHr⟩:=hat i _ hi
  cases hobj:H.getD r .no with
  | stk e s cs0=>
   rw[hobj]at ho hHr
   cases ho;obtain⟨base,cap,k1,k2,k3,k4⟩:=hH.stk r ep sz cs0 hHr
   refine⟨base,cap,by rw[List.getElem?_map,hri];simp[k1],k2,fun hc=>by rw[k3 hc];rfl,fun b hb hc=>?_⟩
   obtain⟨vs,t,j1,j2,j3,j4,j5,j6⟩:=k4 b hb hc
   refine⟨vs,t,j1,j2,by simpa using j3,fun j v c hv hc=>?_,j5,j6⟩
   rw[List.getElem?_map]at hc
   cases hcj:cs0[j]? with
   | none=>rw[hcj]at hc;cases hc
   | some c0=>
    rw[hcj]at hc;cases hc;refine hren0 c0 v (j4 j v c0 hv hcj) (fun q hq=>h2 r hm q ?_) (fun hh=>z2 r hm (by rw[hobj];exact hasRpL_of (List.mem_of_getElem? hcj) hh))
    rw[hobj];simp only[refsO,List.mem_flatten,List.mem_map];exact⟨_,⟨c0,List.mem_of_getElem? hcj,rfl⟩,hq⟩
  | _=>rw[hobj]at ho;cases ho
 ·obtain⟨r,hri,hm,ho,hHr⟩:=hat i _ hi
  cases hobj:H.getD r .no with
  | no=>rw[hobj]at ho;cases ho
  | cells=>rw[hobj]at ho;cases ho
  | grow=>rw[hobj]at ho;cases ho
  | log=>rw[hobj]at ho;cases ho
  | gen=>rw[hobj]at ho;cases ho
  | bld=>rw[hobj]at ho;cases ho
  | reg=>rw[hobj]at ho;cases ho
  | stk=>rw[hobj]at ho;cases ho
  | mapo es0=>
   rw[hobj]at ho hHr
   cases ho;obtain⟨b,hb,l,ck,k1,k2,k3,k4⟩:=hH.mapo r es0 hHr
   refine⟨b,by rw[List.getElem?_map,hri];simp[hb],l,ck,k1,by rw[renM_map];simpa using k2,fun j e x he hx=>?_,k4⟩
   rw[renM_map,List.getElem?_map]at hx
   cases hxj:es0[j]? with
   | none=>rw[hxj]at hx;cases hx
   | some x0=>
    rw[hxj]at hx;cases hx;have hq:∀ q,q∈refs x0.1∨q∈refs x0.2→q∈ρ:=fun q hq=>h2 r hm q (by rw[hobj];exact mem_refsM (List.mem_of_getElem? hxj) hq)
    exact⟨hren0 _ _ (k3 j e x0 he hxj).1 (fun q h=>hq q (.inl h)) (fun hh=>z2 r hm (by rw[hobj];exact hasRpM_of (List.mem_of_getElem? hxj) (.inl hh))),hren0 _ _ (k3 j e x0 he hxj).2 (fun q h=>hq q (.inr h)) (fun hh=>z2 r hm (by rw[hobj];exact hasRpM_of (List.mem_of_getElem? hxj) (.inr hh)))⟩
 ·obtain⟨r,hri,hm,ho,hHr⟩:=hat i _ hi
  cases hobj:H.getD r .no with
  | no=>rw[hobj]at ho;cases ho
  | cells=>rw[hobj]at ho;cases ho
  | grow=>rw[hobj]at ho;cases ho
  | mapo=>rw[hobj]at ho;cases ho
  | gen=>rw[hobj]at ho;cases ho
  | bld=>rw[hobj]at ho;cases ho
  | reg=>rw[hobj]at ho;cases ho
  | stk=>rw[hobj]at ho;cases ho
  | log s' n' r'=>
   rw[hobj]at ho hHr
   cases ho;obtain⟨l,T,k1,k2⟩:=hH.log r _ _ _ hHr
   exact⟨l,T,by rw[List.getElem?_map,hri];simp[k1],k2⟩
 ·obtain⟨r,hri,hm,ho,hHr⟩:=hat i _ hi
  cases hobj:H.getD r .no with
  | gen a=>rw[hobj]at hHr;exact hH.gen r a hHr
  | _=>rw[hobj]at ho;cases ho
 ·obtain⟨r,hri,hm,hr⟩:=hgat i x hi
  obtain⟨q,hqj,hm',hq⟩:=hgat j x' hj
  refine hH.sep r q k x x' (fun e=>?_) hr hq hx
  subst e;exact hne ((List.getElem?_inj (List.getElem?_eq_some_iff.1 hri).1 h4).1 (hri.trans hqj.symm))
 ·obtain⟨i,x,hi,hx⟩:=hk
  obtain⟨r,_,_,hr⟩:=hgat i x hi
  exact hH.lt k ⟨r,x,hr,hx⟩
 ·obtain⟨r,hri,hm,ho,hHr⟩:=hat i _ hi
  cases hobj:H.getD r .no with
  | bld t' s0=>
   rw[hobj]at ho hHr
   cases ho;obtain⟨b,row,hb,hb2⟩:=hH.box r _ _ hHr
   exact⟨b,row,by rw[List.getElem?_map,hri];simp[hb],hb2⟩
  | _=>rw[hobj]at ho;cases ho
 ·have hreg:∀ (i:Nat) (bs:List (List AV)),(ρ.map fun r=>renO (fun r=>ρ.idxOf r) (H.getD r .no))[i]?=some (.reg bs)→i=0∧ρ[0]?=some 0∧H[0]?=some (.reg bs):=by
   intro i bs hi;obtain⟨r,hri,hm,ho,hHr⟩:=hat i _ hi
   cases hobj:H.getD r .no with
   | reg bs0=>
    rw[hobj]at ho hHr
    cases ho;have hr0:=hH.rg.only r bs hHr
    subst hr0;obtain⟨blks,hb,_⟩:=hH.rg.at_ bs hHr
    have h0:=z2 0 hm (by rw[hobj];rfl) blks hb
    exact⟨(List.getElem?_inj (List.getElem?_eq_some_iff.1 hri).1 h4).1 (hri.trans h0.symm),h0,hHr⟩
   | _=>rw[hobj]at ho;cases ho
  refine⟨fun bs hi=>?_,fun bs hi=>?_,fun i bs hi=>(hreg i bs hi).1,fun i x hi=>?_,fun ho i x hi=>?_⟩
  ·obtain⟨_,h0,hHr⟩:=hreg 0 bs hi
   obtain⟨blks,hb,q2,q3,q4⟩:=hH.rg.at_ bs hHr
   refine⟨blks,hg0 _ h0 hb,q2,q3,fun k b cs hk hc=>?_⟩
   obtain⟨vs,t,k1,k2,k3,k4,k5⟩:=q4 k b cs hk hc
   refine⟨vs,t,k1,k2,fun j v c hv hcj=>?_,k4,k5⟩
   have hno:=hH.rg.no bs hHr cs (List.mem_of_getElem? hc) c (List.mem_of_getElem? hcj)
   have:=hren0 c v (k3 j v c hv hcj) (fun q hq=>by rw[hno]at hq;cases hq) (fun _ _ _=>h0)
   rwa[ren_id _ c hno]at this
  ·obtain⟨_,h0,hHr⟩:=hreg 0 bs hi
   exact hH.rg.no bs hHr
  ·obtain⟨r,hri,hm,hr⟩:=hgat i _ hi
   obtain⟨rfl,bs,hb⟩:=hH.rg.back r x hr
   have hD:H.getD 0 .no=.reg bs:=getD_of hb
   have h0:=z2 0 hm (by rw[hD];rfl) x hr
   refine⟨(List.getElem?_inj (List.getElem?_eq_some_iff.1 hri).1 h4).1 (hri.trans h0.symm),bs,?_⟩
   rw[List.getElem?_map,h0]
   simp only[Option.map_some,hD];rfl
  ·obtain⟨r,hri,hm,hr⟩:=hgat i _ hi
   exact hH.rg.off ho r x hr

theorem reg0_of{f:Nat}{ρ:List Nat}{as:List AV}(hk:rgOk f H ρ as=true){w':World}{Im':Imm}{g':List Gh}{H':List AObj}(hH':RegOk w' Im' g' H')(hout:hasReg=true→rgH f H=false→hasRpH H'=false):∀ x,g'[0]?=some (.reg x)→ρ[0]?=some 0:=by
 intro x hx;obtain⟨_,bs,hb⟩:=hH'.back 0 x hx
 cases hr:hasReg with
 | false=>exact absurd hx (hH'.off hr 0 x)
 | true=>
  cases hf:rgH f H with
  | false=>
   have h0:=hout hr hf
   rw[hasRpH_of (List.mem_of_getElem? hb) rfl]at h0
   cases h0
  | true=>
   unfold rgOk rgOk1 at hk;rw[hr,hf,Bool.and_eq_true]at hk;replace hk:=hk.2
   simp only[rgIn,Bool.and_eq_true,decide_eq_true_eq]at hk
   cases ρ with
   | nil=>simp at hk
   | cons a l=>simp at hk;simp[hk.2]
theorem hr_back(hH:HR P w Im g H){ρ:List Nat}{as:List AV}(hc:closed H ρ as=true){w':World}{Im':Imm}{g':List Gh}{H':List AObj}(hH':HR P w' Im' g' H')(e:Ext w Im (ρ.map fun r=>g.getD r .no) w' Im' g')(hl:ρ.length≤H'.length)(hreg0:∀ x,g'[0]?=some (.reg x)→ρ[0]?=some 0) :
  ∃ gn,HR P w' Im' gn (setOs H (backWs ρ H.length 0 H'))∧Ext w Im g w' Im' gn∧(∀ (q:Nat),g[q]?=some Gh.no→gn[q]?=some Gh.no) ∧
   ∀ (c:AV) (v:Value),RepA w' Im' g' v c→RepA w' Im' gn v (ren (back ρ H.length) c):=by
 obtain⟨_,_,h3,h4⟩:=closed_inv hc
 have hlt:∀ r,r∈ρ→r<H.length:=fun r hr=>(h3 r hr).2
 have hltg:∀ r,r∈ρ→r<g.length:=fun r hr=>by rw[hH.len];exact hlt r hr
 have hlg:ρ.length≤g'.length:=by rw[hH'.len];exact hl
 have hgsub:∀ (i r:Nat),ρ[i]?=some r→(ρ.map fun r=>g.getD r .no)[i]?=g[r]?:=by
  intro i r hr;have:=hltg r (List.mem_of_getElem? hr)
  rw[List.getElem?_map,hr,List.getElem?_eq_getElem this]
  simp[List.getD_eq_getElem?_getD,List.getElem?_eq_getElem this]
 have hHn:=backWs_eq ρ H hlt H' 0 H (by omega) rfl (by omega)
 simp only[List.drop_zero,Nat.sub_zero]at hHn;let gn:List Gh:=putAt g ρ g'++g'.drop ρ.length
 have hgl:(putAt g ρ g').length=g.length:=putAt_len ρ g g'
 have hback:∀ (i:Nat) (x:Gh),g'[i]?=some x→gn[back ρ H.length i]?=some x:=by
  intro i x hx;by_cases hi:i<ρ.length
  ·have hb:back ρ H.length i=ρ[i]:=by simp[back,hi]
   rw[hb];show(putAt g ρ g'++g'.drop ρ.length)[ρ[i]]?=_
   rw[List.getElem?_append_left (by rw[hgl];exact hltg _ (List.getElem_mem hi)),putAt_at ρ g g' i ρ[i] h4 hlg hltg (List.getElem?_eq_getElem hi),hx]
  ·have hb:back ρ H.length i=H.length+(i-ρ.length):=by simp[back,hi]
   rw[hb];show(putAt g ρ g'++g'.drop ρ.length)[H.length+(i-ρ.length)]?=_
   rw[List.getElem?_append_right (by rw[hgl,hH.len];omega),hgl,hH.len,List.getElem?_drop]
   rw[show ρ.length+(H.length+(i-ρ.length)-H.length)=i by omega,hx]
 have hwhich:∀ (r:Nat) (x:Gh),gn[r]?=some x→(r∉ρ∧r<H.length∧g[r]?=some x)∨∃ i,r=back ρ H.length i∧g'[i]?=some x:=by
  intro r x hx;have hx':(putAt g ρ g'++g'.drop ρ.length)[r]?=some x:=hx
  by_cases hr:r<g.length
  ·rw[List.getElem?_append_left (by rw[hgl];exact hr)]at hx'
   by_cases hm:r∈ρ
   ·have hi:ρ.idxOf r<ρ.length:=List.idxOf_lt_length_iff.2 hm
    have hri:ρ[ρ.idxOf r]?=some r:=by rw[List.getElem?_eq_getElem hi,List.getElem_idxOf]
    refine .inr ⟨ρ.idxOf r,?_,?_⟩
    ·simp[back,hi,List.getElem_idxOf]
    ·rw[←putAt_at ρ g g' _ r h4 hlg hltg hri];exact hx'
   ·rw[putAt_not ρ g g' r hm]at hx';exact .inl ⟨hm,by rw[←hH.len];exact hr,hx'⟩
  ·rw[List.getElem?_append_right (by rw[hgl];omega),hgl,List.getElem?_drop]at hx'
   refine .inr ⟨ρ.length+(r-g.length),?_,hx'⟩
   unfold back;rw[if_neg (by omega)]
   rw[hH.len]at hr ⊢;omega
 have hbinj:∀ i j,i<g'.length→j<g'.length→back ρ H.length i=back ρ H.length j→i=j:=by
  intro i j hi hj he;unfold back at he;by_cases h1:i<ρ.length
  ·rw[if_pos h1]at he;by_cases h2:j<ρ.length
   ·rw[if_pos h2]at he;simp only[List.getD_eq_getElem?_getD,List.getElem?_eq_getElem h1,List.getElem?_eq_getElem h2,Option.getD_some]at he
    exact(List.getElem_inj h4).1 he
   ·rw[if_neg h2]at he
    have:ρ.getD i 0<H.length:=by
     simp only[List.getD_eq_getElem?_getD,List.getElem?_eq_getElem h1,Option.getD_some]
     exact hlt _ (List.getElem_mem h1)
    omega
  ·rw[if_neg h1]at he;by_cases h2:j<ρ.length
   ·rw[if_pos h2]at he
    have:ρ.getD j 0<H.length:=by
     simp only[List.getD_eq_getElem?_getD,List.getElem?_eq_getElem h2,Option.getD_some]
     exact hlt _ (List.getElem_mem h2)
    omega
   ·rw[if_neg h2]at he;omega
 have hsubOwn:∀ k,Owns (ρ.map fun r=>g.getD r .no) k→∃ (r:Nat) (x:Gh),r∈ρ∧g[r]?=some x∧x.owns k:=by
  rintro k ⟨i,x,hi,hx⟩
  rw[List.getElem?_map]at hi
  cases hri:ρ[i]? with
  | none=>rw[hri]at hi;cases hi
  | some r=>
   have hm:=List.mem_of_getElem? hri
   refine⟨r,x,hm,?_,hx⟩
   rw[←hgsub i r hri,List.getElem?_map,hri]
   rw[hri]at hi;exact hi
 have hback0:ρ[0]?=some 0→back ρ H.length 0=0:=by
  intro h0;have hl0:0<ρ.length:=(List.getElem?_eq_some_iff.1 h0).1
  unfold back;rw[if_pos hl0,getD_of h0]
 have hren:∀ (c:AV) (v:Value),RepA w' Im' g' v c→RepA w' Im' gn v (ren (back ρ H.length) c):=fun c v h=>ren_ok h (fun r x _ hx=>hback r x hx) (fun bs _ hb=>by
  have:=hback 0 _ hb
  rwa[hback0 (hreg0 bs hb)]at this)
 have hgle:GLe g gn:=by
  have key:∀ (r:Nat) (x:Gh),g[r]?=some x→r∉ρ→gn[r]?=some x:=by
   intro r x hx hm;show(putAt g ρ g'++g'.drop ρ.length)[r]?=_
   rw[List.getElem?_append_left (by rw[hgl];exact(List.getElem?_eq_some_iff.1 hx).1),putAt_not ρ g g' r hm,hx]
  have hidx:∀ r,r∈ρ→ρ[ρ.idxOf r]?=some r∧back ρ H.length (ρ.idxOf r)=r:=by
   intro r hm;have hi:ρ.idxOf r<ρ.length:=List.idxOf_lt_length_iff.2 hm
   exact⟨by rw[List.getElem?_eq_getElem hi,List.getElem_idxOf],by simp[back,hi,List.getElem_idxOf]⟩
  refine⟨fun r b hr=>?_,fun r ep esz base len cap hr=>?_,fun r l T hr=>?_,fun r b row hr=>?_,fun r bs hr=>?_⟩
  ·by_cases hm:r∈ρ
   ·obtain⟨h1,h2⟩:=hidx r hm
    have:=hback _ _ (e.gle.cell _ b ((hgsub _ r h1).trans hr))
    rwa[h2]at this
   ·exact key r _ hr hm
  ·by_cases hm:r∈ρ
   ·obtain⟨h1,h2⟩:=hidx r hm
    obtain⟨ep',base',len',cap',k1,k2⟩:=e.gle.gr _ ep esz base len cap ((hgsub _ r h1).trans hr)
    have:=hback _ _ k1
    rw[h2]at this;exact⟨ep',base',len',cap',this,k2⟩
   ·exact⟨ep,base,len,cap,key r _ hr hm,Nat.le_refl _,fun _=>⟨rfl,rfl,rfl⟩⟩
  ·by_cases hm:r∈ρ
   ·obtain⟨h1,h2⟩:=hidx r hm
    obtain⟨T',k1⟩:=e.gle.yld _ l T ((hgsub _ r h1).trans hr)
    have:=hback _ _ k1
    rw[h2]at this;exact⟨T',this⟩
   ·exact⟨T,key r _ hr hm⟩
  ·by_cases hm:r∈ρ
   ·obtain⟨h1,h2⟩:=hidx r hm
    obtain⟨T',k1⟩:=e.gle.bld _ b row ((hgsub _ r h1).trans hr)
    have:=hback _ _ k1
    rw[h2]at this;exact⟨T',this⟩
   ·exact⟨row,key r _ hr hm⟩
  ·by_cases hm:r∈ρ
   ·obtain⟨h1,h2⟩:=hidx r hm
    obtain⟨T',k1⟩:=e.gle.reg _ bs ((hgsub _ r h1).trans hr)
    have:=hback _ _ k1
    rw[h2]at this;exact⟨T',this⟩
   ·exact⟨[],by rw[List.append_nil];exact key r _ hr hm⟩
 have hext:Ext w Im g w' Im' gn:=by
  refine⟨e.os,e.tape,e.output,e.size,e.mono,e.keep,fun k hk hno=>e.frame k hk (fun h=>?_),fun b o h=>?_,fun k hk=>?_,hgle⟩
  ·obtain⟨r,x,_,hr,hx⟩:=hsubOwn k h
   exact hno ⟨r,x,hr,hx⟩
  ·rcases e.new b o h with h|h|h
   ·exact .inl h
   ·exact .inr (.inl h)
   ·obtain⟨r,x,_,hr,hx⟩:=hsubOwn b h
    exact .inr (.inr ⟨r,x,hr,hx⟩)
  ·obtain⟨r,x,hr,hx⟩:=hk
   rcases hwhich r x hr with⟨_,_,h⟩|⟨i,_,h⟩
   ·exact .inl ⟨r,x,h,hx⟩
   ·rcases e.newg k ⟨i,x,h,hx⟩with h|h
    ·obtain⟨r,x,_,hr,hx⟩:=hsubOwn k h
     exact .inl ⟨r,x,hr,hx⟩
    ·exact .inr h
 have hHl:(putAt H ρ (H'.map (renO (back ρ H.length)))).length=H.length:=putAt_len _ _ _
 have hHat:∀ (r:Nat) (o:AObj),(setOs H (backWs ρ H.length 0 H'))[r]?=some o→(r∉ρ∧r<H.length∧H[r]?=some o)∨∃ i o',r=back ρ H.length i∧H'[i]?=some o'∧o=renO (back ρ H.length) o':=by
  intro r o ho;rw[hHn]at ho;by_cases hr:r<H.length
  ·rw[List.getElem?_append_left (by rw[hHl];exact hr)]at ho
   by_cases hm:r∈ρ
   ·have hi:ρ.idxOf r<ρ.length:=List.idxOf_lt_length_iff.2 hm
    have hri:ρ[ρ.idxOf r]?=some r:=by rw[List.getElem?_eq_getElem hi,List.getElem_idxOf]
    rw[putAt_at ρ H _ _ r h4 (by simpa using hl) hlt hri,List.getElem?_map]at ho
    cases ho':H'[ρ.idxOf r]? with
    | none=>rw[ho']at ho;cases ho
    | some o'=>
     rw[ho']at ho;exact .inr ⟨_,o',by simp[back,hi,List.getElem_idxOf],ho',by simpa using ho.symm⟩
   ·rw[putAt_not ρ H _ r hm]at ho;exact .inl ⟨hm,hr,ho⟩
  ·rw[List.getElem?_append_right (by rw[hHl];omega),hHl,List.getElem?_map,List.getElem?_drop]at ho
   cases ho':H'[ρ.length+(r-H.length)]? with
   | none=>rw[ho']at ho;cases ho
   | some o'=>
    rw[ho']at ho;refine .inr ⟨_,o',?_,ho',by simpa using ho.symm⟩
    unfold back;rw[if_neg (by omega)]
    omega
 have hkept:∀ (r:Nat) (x:Gh) (k:Nat),r∉ρ→g[r]?=some x→x.owns k→w'.heap[k]?=w.heap[k]?∧∀ o,Im' k o→Im k o:=by
  intro r x k hm hr hx
  have hno:¬Owns (ρ.map fun r=>g.getD r .no) k:=by
   intro h;obtain⟨q,y,hq,hqg,hy⟩:=hsubOwn k h
   exact hH.sep r q k x y (fun he=>hm (he▸hq)) hr hqg hx hy
  have hk:=hH.lt k ⟨r,x,hr,hx⟩
  refine⟨e.frame k hk hno,fun o ho=>?_⟩
  rcases e.new k o ho with h|h|h
  ·exact h
  ·omega
  ·exact absurd h hno
 refine⟨gn,⟨?_,fun r cs hr=>?_,fun r ep sz hr=>?_,fun r ep sz cs hr=>?_,fun r es hr=>?_,fun r stop n rest hr=>?_,fun r acc hr=>?_,fun r q k x y hne hr hq hx hy=>?_,fun k hk=>?_,hH'.im,hH'.tab,fun r t cs hr=>?_,?_⟩,hext,fun q hq=>?_,hren⟩
 ·rw[hHn];show(putAt g ρ g'++g'.drop ρ.length).length=_
  simp only[List.length_append,hgl,hHl,List.length_drop,List.length_map,hH.len,hH'.len]
 ·rcases hHat r _ hr with⟨hm,hlt',ho⟩|⟨i,o',he,hi,ho⟩
  ·obtain⟨b,hb,hob⟩:=hH.cells r cs ho
   obtain⟨k1,k2⟩:=hkept r _ b hm hb rfl
   exact⟨b,hgle.cell r b hb,hob.ext hext k1 k2⟩
  ·cases o' with
   | no=>cases ho
   | grow=>cases ho
   | mapo=>cases ho
   | log=>cases ho
   | gen=>cases ho
   | bld=>cases ho
   | reg=>cases ho
   | stk=>cases ho
   | cells cs0=>
    cases ho;obtain⟨b,hb,vs,t,k1,k2,k3,k4,k5⟩:=hH'.cells i cs0 hi
    refine⟨b,by rw[he];exact hback i _ hb,vs,t,k1,by simpa using k2,fun j v c hv hc=>?_,k4,k5⟩
    rw[List.getElem?_map]at hc
    cases hcj:cs0[j]? with
    | none=>rw[hcj]at hc;cases hc
    | some c0=>
     rw[hcj]at hc;cases hc;exact hren c0 v (k3 j v c0 hv hcj)
 ·rcases hHat r _ hr with⟨hm,hlt',ho⟩|⟨i,o',he,hi,ho⟩
  ·obtain⟨base,len,cap,k1,k2,k3,k4⟩:=hH.grow r ep sz ho
   have hgr:gn[r]?=some (.gr ep sz base len cap):=by
    show(putAt g ρ g'++g'.drop ρ.length)[r]?=_
    rw[List.getElem?_append_left (by rw[hgl,hH.len];exact hlt'),putAt_not ρ g g' r hm,k1]
   refine⟨base,len,cap,hgr,k2,k3,fun b hb hlc=>?_⟩
   obtain⟨vs,t,j1,j2,j3⟩:=k4 b hb hlc
   obtain⟨q1,q2⟩:=hkept r _ b hm k1 ⟨hb,hlc⟩
   exact⟨vs,t,q1.trans j1,j2,fun o ho hi=>j3 o ho (q2 o hi)⟩
  ·cases o' with
   | no=>cases ho
   | cells=>cases ho
   | mapo=>cases ho
   | log=>cases ho
   | gen=>cases ho
   | bld=>cases ho
   | reg=>cases ho
   | stk=>cases ho
   | grow e' s'=>
    cases ho;obtain⟨base,len,cap,k1,k2⟩:=hH'.grow i ep sz hi
    exact⟨base,len,cap,by rw[he];exact hback i _ k1,k2⟩
 ·rcases hHat r _ hr with⟨hm,hlt',ho⟩|⟨i,o',he,hi,ho⟩
  ·obtain⟨base,cap,k1,k2,k3,k4⟩:=hH.stk r ep sz cs ho
   have hgr:gn[r]?=some (.gr ep sz base 0 cap):=by
    show(putAt g ρ g'++g'.drop ρ.length)[r]?=_
    rw[List.getElem?_append_left (by rw[hgl,hH.len];exact hlt'),putAt_not ρ g g' r hm,k1]
   refine⟨base,cap,hgr,k2,k3,fun b hb hlc=>?_⟩
   obtain⟨vs,t,j1,j2,j3,j4,j5,j6⟩:=k4 b hb hlc
   obtain⟨q1,q2⟩:=hkept r _ b hm k1 ⟨hb,hlc⟩
   exact⟨vs,t,q1.trans j1,j2,j3,fun i v c hv hc=>(j4 i v c hv hc).ext hext,j5,fun o ho=>j6 o (q2 o ho)⟩
  ·cases o' with
   | stk e' s' cs0=>
    cases ho;obtain⟨base,cap,k1,k2,k3,k4⟩:=hH'.stk i ep sz cs0 hi
    refine⟨base,cap,by rw[he];exact hback i _ k1,k2,fun hc=>by rw[k3 hc];rfl,fun b hb hc=>?_⟩
    obtain⟨vs,t,j1,j2,j3,j4,j5,j6⟩:=k4 b hb hc
    refine⟨vs,t,j1,j2,by simpa using j3,fun j v c hv hc=>?_,j5,j6⟩
    rw[List.getElem?_map]at hc
    cases hcj:cs0[j]? with
    | none=>rw[hcj]at hc;cases hc
    | some c0=>
     rw[hcj]at hc;cases hc;exact hren c0 v (j4 j v c0 hv hcj)
   | _=>cases ho
 ·rcases hHat r _ hr with⟨hm,hlt',ho⟩|⟨i,o',he,hi,ho⟩
  ·obtain⟨b,hb,hob⟩:=hH.mapo r es ho
   obtain⟨k1,k2⟩:=hkept r _ b hm hb rfl
   exact⟨b,hgle.cell r b hb,hob.ext hext.hm hgle k1 k2⟩
  ·cases o' with
   | no=>cases ho
   | cells=>cases ho
   | grow=>cases ho
   | log=>cases ho
   | gen=>cases ho
   | bld=>cases ho
   | reg=>cases ho
   | stk=>cases ho
   | mapo es0=>
    cases ho;obtain⟨b,hb,l,ck,k1,k2,k3,k4⟩:=hH'.mapo i es0 hi
    refine⟨b,by rw[he];exact hback i _ hb,l,ck,k1,by rw[renM_map];simpa using k2,fun j e x he hx=>?_,k4⟩
    rw[renM_map,List.getElem?_map]at hx
    cases hxj:es0[j]? with
    | none=>rw[hxj]at hx;cases hx
    | some x0=>
     rw[hxj]at hx;cases hx;exact⟨hren _ _ (k3 j e x0 he hxj).1,hren _ _ (k3 j e x0 he hxj).2⟩
 ·rcases hHat r _ hr with⟨hm,hlt',ho⟩|⟨i,o',he,hi,ho⟩
  ·obtain⟨l,T,hg1,k1,k2,k3,k4,k5,k6⟩:=hH.log r stop n rest ho
   have hgr:gn[r]?=some (.yld l T):=by
    show(putAt g ρ g'++g'.drop ρ.length)[r]?=_
    rw[List.getElem?_append_left (by rw[hgl,hH.len];exact hlt'),putAt_not ρ g g' r hm,hg1]
   exact⟨l,T,hgr,k1,k2,k3,k4,k5,k4 _ _ _ _ _ _ k6 hext.os hext.tape hext.output hext.size (fun b hT=>hkept r _ b hm hg1 hT) hext.hm hH'.im⟩
  ·cases o' with
   | no=>cases ho
   | cells=>cases ho
   | grow=>cases ho
   | mapo=>cases ho
   | gen=>cases ho
   | bld=>cases ho
   | reg=>cases ho
   | stk=>cases ho
   | log s' n' r'=>
    cases ho;obtain⟨l,T,k1,k2⟩:=hH'.log i _ _ _ hi
    exact⟨l,T,by rw[he];exact hback i _ k1,k2⟩
 ·rcases hHat r _ hr with⟨hm,hlt',ho⟩|⟨i,o',he,hi,ho⟩
  ·exact hH.gen r acc ho
  ·cases o' with
   | gen a=>exact hH'.gen i a hi
   | _=>cases ho
 ·have hmix:∀ (r i:Nat) (x y:Gh),r∉ρ→g[r]?=some x→g'[i]?=some y→x.owns k→y.owns k→False:=by
   intro r i x y hm hr hi hx hy;rcases e.newg k ⟨i,y,hi,hy⟩with h|h
   ·obtain⟨q,z,hq,hqg,hz⟩:=hsubOwn k h
    exact hH.sep r q k x z (fun he=>hm (he▸hq)) hr hqg hx hz
   ·have:=hH.lt k ⟨r,x,hr,hx⟩
    omega
  rcases hwhich r x hr with⟨hm,_,h⟩|⟨i,he,h⟩<;>rcases hwhich q y hq with⟨hm',_,h'⟩|⟨j,he',h'⟩
  ·exact hH.sep r q k x y hne h h' hx hy
  ·exact hmix r j x y hm h h' hx hy
  ·exact hmix q i y x hm' h' h hy hx
  ·refine hH'.sep i j k x y (fun hij=>?_) h h' hx hy
   subst hij;exact hne (he.trans he'.symm)
 ·obtain⟨r,x,hr,hx⟩:=hk
  rcases hwhich r x hr with⟨_,_,h⟩|⟨i,_,h⟩
  ·exact Nat.lt_of_lt_of_le (hH.lt k ⟨r,x,h,hx⟩) e.size
  ·exact hH'.lt k ⟨i,x,h,hx⟩
 ·rcases hHat r _ hr with⟨hm,hlt',ho⟩|⟨i,o',he,hi,ho⟩
  ·obtain⟨b,row,hb,hb2⟩:=hH.box r t cs ho
   have hgr:gn[r]?=some (.bld b row):=by
    show(putAt g ρ g'++g'.drop ρ.length)[r]?=_
    rw[List.getElem?_append_left (by rw[hgl,hH.len];exact hlt'),putAt_not ρ g g' r hm,hb]
   exact⟨b,row,hgr,hb2.stay fun k hk=>hkept r _ k hm hb hk⟩
  ·cases o' with
   | bld t' s0=>
    cases ho;obtain⟨b,row,hb,hb2⟩:=hH'.box i _ _ hi
    exact⟨b,row,by rw[he];exact hback i _ hb,hb2⟩
   | _=>cases ho
 ·have hregN:∀ (r:Nat) (bs:List (List AV)),(setOs H (backWs ρ H.length 0 H'))[r]?=some (.reg bs)→(r=0∧0∉ρ∧0<H.length∧H[0]?=some (.reg bs))∨(r=0∧ρ[0]?=some 0∧H'[0]?=some (.reg bs)):=by
   intro r bs hr;rcases hHat r _ hr with⟨hm,hlt',ho⟩|⟨i,o',he,hi,ho⟩
   ·have:=hH.rg.only r bs ho
    subst this;exact .inl ⟨rfl,hm,hlt',ho⟩
   ·cases o' with
    | reg bs0=>
     cases ho;have:=hH'.rg.only i bs hi
     subst this;obtain⟨blks,hb,_⟩:=hH'.rg.at_ bs hi
     have h0:=hreg0 blks hb
     exact .inr ⟨by rw[he,hback0 h0],h0,hi⟩
    | _=>cases ho
  refine⟨fun bs hr=>?_,fun bs hr=>?_,fun r bs hr=>?_,fun r x hr=>?_,fun ho r x hr=>?_⟩
  ·rcases hregN 0 bs hr with⟨_,hm,hlt',ho⟩|⟨_,h0,ho⟩
   ·obtain⟨blks,hb,q2,q3,q4⟩:=hH.rg.at_ bs ho
    have hgr:gn[0]?=some (.reg blks):=by
     show(putAt g ρ g'++g'.drop ρ.length)[0]?=_
     rw[List.getElem?_append_left (by rw[hgl,hH.len];exact hlt'),putAt_not ρ g g' 0 hm,hb]
    refine⟨blks,hgr,q2,q3,fun k b cs hk hc=>?_⟩
    obtain⟨k1,k2⟩:=hkept 0 _ b hm hb (List.mem_of_getElem? hk)
    exact(q4 k b cs hk hc).ext hext k1 k2
   ·obtain⟨blks,hb,q2,q3,q4⟩:=hH'.rg.at_ bs ho
    refine⟨blks,by have:=hback 0 _ hb;rwa[hback0 h0]at this,q2,q3,fun k b cs hk hc=>?_⟩
    obtain⟨vs,t,k1,k2,k3,k4,k5⟩:=q4 k b cs hk hc
    refine⟨vs,t,k1,k2,fun j v c hv hcj=>?_,k4,k5⟩
    have:=hren c v (k3 j v c hv hcj)
    rwa[ren_id _ c (hH'.rg.no bs ho cs (List.mem_of_getElem? hc) c (List.mem_of_getElem? hcj))]at this
  ·rcases hregN 0 bs hr with⟨_,hm,hlt',ho⟩|⟨_,h0,ho⟩
   ·exact hH.rg.no bs ho
   ·exact hH'.rg.no bs ho
  ·rcases hregN r bs hr with⟨h,_⟩|⟨h,_⟩<;>exact h
  ·rcases hwhich r _ hr with⟨hm,hlt',h⟩|⟨i,he,h⟩
   ·obtain⟨rfl,bs,hb⟩:=hH.rg.back r x h
    refine⟨rfl,bs,?_⟩
    rw[hHn,List.getElem?_append_left (by rw[hHl];exact hlt'),putAt_not ρ H _ 0 hm,hb]
   ·obtain⟨rfl,bs,hb⟩:=hH'.rg.back i x h
    have h0:=hreg0 x h
    have hl0:0<ρ.length:=(List.getElem?_eq_some_iff.1 h0).1
    refine⟨by rw[he,hback0 h0],bs,?_⟩
    rw[hHn,List.getElem?_append_left (by rw[hHl];exact hlt 0 (List.mem_of_getElem? h0)),putAt_at ρ H _ 0 0 h4 (by simpa using hl) hlt h0,List.getElem?_map,hb]
    rfl
  ·rcases hwhich r _ hr with⟨_,_,h⟩|⟨i,_,h⟩
   ·exact hH.rg.off ho r x h
   ·exact hH'.rg.off ho i x h
 ·have hm:q∉ρ:=by
   intro hm;have hob:=(h3 q hm).1
   cases hobj:H.getD q .no with
   | no=>rw[hobj]at hob;simp[isObj]at hob
   | cells cs=>
    have:H[q]?=some (.cells cs):=by
     rw[List.getElem?_eq_getElem (hlt q hm),←hobj,List.getD_eq_getElem?_getD,List.getElem?_eq_getElem (hlt q hm)];rfl
    obtain⟨b,hb,_⟩:=hH.cells q cs this
    rw[hb]at hq;cases hq
   | grow e' s'=>
    have:H[q]?=some (.grow e' s'):=by
     rw[List.getElem?_eq_getElem (hlt q hm),←hobj,List.getD_eq_getElem?_getD,List.getElem?_eq_getElem (hlt q hm)];rfl
    obtain⟨base,len,cap,hb,_⟩:=hH.grow q e' s' this
    rw[hb]at hq;cases hq
   | mapo es=>
    have:H[q]?=some (.mapo es):=by
     rw[List.getElem?_eq_getElem (hlt q hm),←hobj,List.getD_eq_getElem?_getD,List.getElem?_eq_getElem (hlt q hm)];rfl
    obtain⟨b,hb,_⟩:=hH.mapo q es this
    rw[hb]at hq;cases hq
   | stk e' s' cs=>
    have:H[q]?=some (.stk e' s' cs):=by
     rw[List.getElem?_eq_getElem (hlt q hm),←hobj,List.getD_eq_getElem?_getD,List.getElem?_eq_getElem (hlt q hm)];rfl
    obtain⟨base,cap,hb,_⟩:=hH.stk q e' s' cs this
    rw[hb]at hq;cases hq
   | log s' n' r'=>
    have:H[q]?=some (.log s' n' r'):=by
     rw[List.getElem?_eq_getElem (hlt q hm),←hobj,List.getD_eq_getElem?_getD,List.getElem?_eq_getElem (hlt q hm)];rfl
    obtain⟨l,T,hb,_⟩:=hH.log q s' n' r' this
    rw[hb]at hq;cases hq
   | bld t' s=>
    have:H[q]?=some (.bld t' s):=by
     rw[List.getElem?_eq_getElem (hlt q hm),←hobj,List.getD_eq_getElem?_getD,List.getElem?_eq_getElem (hlt q hm)];rfl
    obtain⟨b,row,hb,_⟩:=hH.box q _ _ this
    rw[hb]at hq;cases hq
   | reg bs=>
    have:H[q]?=some (.reg bs):=by
     rw[List.getElem?_eq_getElem (hlt q hm),←hobj,List.getD_eq_getElem?_getD,List.getElem?_eq_getElem (hlt q hm)];rfl
    have h0:=hH.rg.only q bs this
    subst h0;obtain⟨blks,hb,_⟩:=hH.rg.at_ bs this
    rw[hb]at hq;cases hq
   | gen a=>
    have:H[q]?=some (.gen a):=by
     rw[List.getElem?_eq_getElem (hlt q hm),←hobj,List.getD_eq_getElem?_getD,List.getElem?_eq_getElem (hlt q hm)];rfl
    exact absurd this (hH.gen q a)
  show(putAt g ρ g'++g'.drop ρ.length)[q]?=_
  rw[List.getElem?_append_left (by rw[hgl];exact(List.getElem?_eq_some_iff.1 hq).1),putAt_not ρ g g' q hm,hq]
end
end Go.Ab
/- The abstract evaluator is right of one operation. Conditions: the functions that are called are right. -/
namespace Go.Ab
open Go

def FrameRep(w:World)(Im:Imm)(g:List Gh)(st:St)(tmps:Array Value):Prop:=∀ k,RepA w Im g (tmps.getD k undef) (st.get k)

section
variable {P:Program}{Γ:Sem'}{w:World}{Im:Imm}{g:List Gh}{st:St}{a:Act}

theorem evArg_ok(hf:FrameRep w Im g st a.tmps)(x:Operand):RepA w Im g (a.eval x) (evArg st x):=by
 cases x with
 | tmp k=>exact hf k
 | const v=>exact repA_ofC v
 | global g'=>exact .any _
 | func f=>exact .fn f [] [] [] [] rfl rfl (fun _ _ _ h=>by simp at h) (fun _ _ _ h=>by simp at h)

theorem argsA_ok(hf:FrameRep w Im g st a.tmps):∀ xs:List Operand,RepAs w Im g (xs.map a.eval) (argsA st xs)
 | []=>RepAs.nil
 | x::xs=>RepAs.cons (evArg_ok hf x) (argsA_ok hf xs)

theorem partsA_ok(hf:FrameRep w Im g st a.tmps):∀ ps:List (Nat×Operand),(ps.map fun p=>(p.1,a.eval p.2)).length=(partsA st ps).length ∧
  ∀ (i:Nat) (p:Nat×Value) (q:Nat×AV),(ps.map fun p=>(p.1,a.eval p.2))[i]?=some p→(partsA st ps)[i]?=some q→p.1=q.1∧RepA w Im g p.2 q.2
 | []=>⟨rfl,fun i p q h=>by simp at h⟩
 | (n,x)::ps=>by
  obtain⟨h1,h2⟩:=partsA_ok hf ps
  refine⟨by simp[partsA,h1],fun i p q hp hq=>?_⟩
  cases i with
  | zero=>simp[partsA]at hp hq;subst hp hq;exact⟨rfl,evArg_ok hf x⟩
  | succ i=>exact h2 i p q (by simpa using hp) (by simpa[partsA]using hq)

theorem arr_map{α β:Type}(xs:Array α)(f:α→β):xs.map f=⟨xs.toList.map f⟩:=by
 apply Array.ext';simp

structure LeftO(P:Program)(w:World)(Im:Imm)(g:List Gh)(H:List AObj)(c p:Nat)(ws:List (Nat×AObj))(av:AV)(v:Value)(w':World)(Im':Imm)(g':List Gh):Prop where
 rep:RepA w' Im' g' v av
 hr:HR P w' Im' g' (setOs H ws)
 ext:Ext w Im g w' Im' g'
 no:∀ (q:Nat),(c=1→q≠p)→g[q]?=some Gh.no→g'[q]?=some Gh.no

theorem LeftO.pure{H:List AObj}(hH:HR P w Im g H){c p:Nat}{av:AV}{v:Value}(h:RepA w Im g v av):LeftO P w Im g H c p [] av v w Im g:=⟨h,hH,Ext.refl _ _ _,fun _ _ h=>h⟩
theorem LeftO.same{H:List AObj}{c p:Nat}{ws:List (Nat×AObj)}{av:AV}{v:Value}{w':World}{Im':Imm}{g':List Gh}(h:Left P w Im g H p ws av v w' Im' g')(hg:g'=g∨c=1):LeftO P w Im g H c p ws av v w' Im' g':=
 ⟨h.rep,h.hr,h.ext,fun q hq hn=>hg.elim (fun e=>e▸hn) (fun e=>h.no q (hq e) hn)⟩

def OpRuns(P:Program)(w:World)(Im:Imm)(g:List Gh)(H:List AObj)(c p:Nat)(av:AV)(ws:List (Nat×AObj))(r:Result Next):Prop:=
 ∃ v w' Im' g',(r=.ok (.value v) w'∨(r=.ok .skip w'∧v=undef))∧LeftO P w Im g H c p ws av v w' Im' g'

theorem vO_inv{c:Option AV}{av:AV}{ws:List (Nat×AObj)}(h:vO c=some (.val av ws)):c=some av∧ws=[]:=by
 unfold vO at h;split at h
 ·cases h;exact⟨rfl,rfl⟩
 ·cases h

theorem OpRuns.ofPure{H:List AObj}(hH:HR P w Im g H){c p:Nat}{av:AV}{s:Sem Value}(h:∃ v,s.run P w=.ok v w∧RepA w Im g v av):OpRuns P w Im g H c p av [] ((do pure (.value (←s)):Sem Next).run P w):=by
 obtain⟨v,h1,h2⟩:=h
 exact⟨v,w,Im,g,.inl (by simp[h1]),LeftO.pure hH h2⟩
theorem OpRuns.ofLeft{H:List AObj}{c p:Nat}{av:AV}{ws:List (Nat×AObj)}{s:Sem Value}(hc:c=1)(h:∃ v w' Im' g',s.run P w=.ok v w'∧Left P w Im g H p ws av v w' Im' g'):OpRuns P w Im g H c p av ws ((do pure (.value (←s)):Sem Next).run P w):=by
 obtain⟨v,w',Im',g',h1,h2⟩:=h
 exact⟨v,w',Im',g',.inl (by simp[h1]),LeftO.same h2 (.inr hc)⟩

theorem op_plain(hf:FrameRep w Im g st a.tmps)(hH:HR P w Im g st.H){o:Oper}{p:Nat}(hp:creates o=1→g[p]?=some Gh.no){av:AV}{ws:List (Nat×AObj)}(h:opV P Γ p st o.type o.op=some (.val av ws))
  (hnc:∀ c f,o.op=.call c→c.callee≠.value f):OpRuns P w Im g st.H (creates o) p av ws ((execOp a.eval o).run P w):=by
 obtain⟨dst,op,ty,pos,after,guard⟩:=o
 cases op with
 | move x=>
  cases h;exact⟨a.eval x,w,Im,g,.inl rfl,LeftO.pure hH (evArg_ok hf x)⟩
 | assign x=>
  simp only[opV]at h
  cases hn:nilConst x with
  | false=>
   rw[hn]at h
   cases h;exact⟨a.eval x,w,Im,g,.inl rfl,LeftO.pure hH (evArg_ok hf x)⟩
  | true=>
   rw[hn]at h
   have hx:x=.const (.slice none 0 0):=by
    unfold nilConst at hn;split at hn
    ·rfl
    ·cases hn
   subst hx;have hc:creates ⟨dst,.assign (.const (.slice none 0 0)),ty,pos,after,guard⟩=1:=rfl
   obtain⟨g',hL⟩:=nilA_nil hH (hp hc) h
   exact⟨_,w,Im,g',.inl rfl,LeftO.same hL (.inr hc)⟩
 | pick c x y=>
  simp only[opV]at h;have hvo:=vO_inv h
  clear h;obtain⟨h,rfl⟩:=hvo
  obtain⟨v,h1,h2⟩:=pickA_ok (P:=P) (evArg_ok hf c) (evArg_ok hf x) (evArg_ok hf y) h
  refine⟨v,w,Im,g,.inl ?_,LeftO.pure hH h2⟩
  simp only[Sem.run_bind,Sem.run_pure]at h1;simp only[execOp,Sem.run_bind]
  cases hb:(asBool (a.eval c)).run P w with
  | ok b w'=>rw[hb]at h1;simp only[Result.andThen_ok]at h1 ⊢;simp only[Sem.run_pure];cases h1;rfl
  | halt=>rw[hb]at h1;cases h1
 | alloc t=>
  simp only[opV]at h;unfold newT at h;split at h
  ·rename_i cs _ hz;unfold newB at h;split at h
   ·split at h
    ·rename_i hbu
     cases h;obtain⟨i,z,hi,hzv,hzc,h1⟩:=zeroOf_some hz
     have hcl:z.cells=#[.pointer none,.slice none 0 0]:=by
      match hl:z.cells.toList,hzc with
      | [u1,u2],hzc=>
       simp only[List.map_cons,List.map_nil,List.cons.injEq,and_true]at hzc
       have e1:u1=.pointer none:=by
        have:=hzc.1.symm
        unfold ofV at this;split at this
        all_goals first|(cases this;done)|rfl
       have e2:u2=.slice none 0 0:=by
        have:=hzc.2.symm
        unfold ofV at this;split at this
        all_goals first|(cases this;done)|rfl
       rw[←Array.toList_inj,hl,e1,e2]
      | [],hzc=>simp at hzc
      | [u1],hzc=>simp at hzc
      | u1::u2::u3::l,hzc=>simp at hzc
     obtain⟨w',Im',g',hr,hL⟩:=newB_ok (P:=P) hH (hp rfl) (t:=t) (v:=z) hcl hbu
     exact OpRuns.ofLeft rfl ⟨_,w',Im',g',by simp[Instr.alloc,zeroValue,typeInfo,hi,hzv,hr],hL⟩
    ·cases h
   ·cases h
  ·rename_i cs _ hz
   cases h;obtain⟨i,z,hi,hzv,rfl,h1⟩:=zeroOf_some hz
   obtain⟨w',Im',g',hr,hL⟩:=newA_ok (P:=P) hH (hp rfl) (t:=t) (v:=z) (vs:=z.cells.toList) rfl (repC_ofV (w:=w) (Im:=Im) (g:=g) _ (fun u hu=>h1 u (by simpa using hu)))
   exact OpRuns.ofLeft rfl ⟨_,w',Im',g',by simp[Instr.alloc,zeroValue,typeInfo,hi,hzv,hr],hL⟩
  ·cases h
 | box t x=>
  simp only[opV]at h;unfold newA at h;split at h
  ·rename_i cs hz
   cases h;obtain⟨vs,hvs,hr⟩:=cellsA_ok (evArg_ok hf x) hz
   obtain⟨w',Im',g',hr,hL⟩:=newA_ok (P:=P) hH (hp rfl) (t:=t) hvs hr
   exact OpRuns.ofLeft rfl ⟨_,w',Im',g',by simp[Instr.box,hr],hL⟩
  ·cases h
 | build t ps=>
  simp only[opV]at h;have hvo:=vO_inv h
  clear h;obtain⟨h,rfl⟩:=hvo
  obtain⟨h1,h2⟩:=partsA_ok hf ps.toList
  have:=buildA_ok (P:=P) h1 h2 h
  refine OpRuns.ofPure hH ?_
  rw[arr_map];exact this
 | buildSlice t n ps=>
  simp only[opV]at h;obtain⟨h1,h2⟩:=partsA_ok hf ps.toList
  cases n with
  | zero=>
   cases hps:ps.toList with
   | nil=>
    rw[hps]at h;have hem:ps=⟨[]⟩:=by apply Array.ext';exact hps
    have:=emptyA_ok (P:=P) hH (hp rfl) h
    subst hem;exact OpRuns.ofLeft rfl (by simpa using this)
   | cons q qs=>rw[hps]at h;cases h
  | succ n=>
   have h':bsK P t (n+1) (partsA st ps.toList) (buildSliceA P t (n+1) (partsA st ps.toList))=some (.val av ws):=by
    cases hps:ps.toList<;>rw[hps]at h<;>exact h
   unfold bsK at h';split at h'
   ·rename_i rows hb
    cases h';obtain⟨v,w',Im',k1,k2⟩:=buildSliceA_ok (P:=P) (p:=p) hH h1 h2 hb
    refine⟨v,w',Im',g,.inl ?_,LeftO.same k2 (.inl rfl)⟩
    simp only[execOp];rw[arr_map];simp[k1]
   ·obtain⟨v,w',Im',k1,k2⟩:=avlT_ok (P:=P) (p:=p) hH h1 h2 h'
    refine⟨v,w',Im',g,.inl ?_,LeftO.same k2 (.inl rfl)⟩
    simp only[execOp];rw[arr_map];simp[k1]
 | load t x=>
  simp only[opV]at h;have hvo:=vO_inv h
  clear h;obtain⟨h,rfl⟩:=hvo
  exact OpRuns.ofPure hH (loadA_ok (P:=P) hH (evArg_ok hf x) h)
 | store t x y=>
  simp only[opV]at h;obtain⟨rfl,w',k1,k2⟩:=storeA_ok (P:=P) (p:=p) hH (evArg_ok hf x) (evArg_ok hf y) h
  exact⟨undef,w',Im,g,.inr ⟨by simp[execOp,k1],rfl⟩,LeftO.same k2 (.inl rfl)⟩
 | nilCheck x=>
  simp only[opV]at h;have hvo:=vO_inv h
  clear h;obtain⟨h,rfl⟩:=hvo
  obtain⟨he,hv⟩:=nilCheckA_ok (evArg_ok hf x) h
  refine⟨a.eval x,w,Im,g,.inl ?_,LeftO.pure hH (he▸evArg_ok hf x)⟩
  rcases hv with⟨ad,hv⟩|⟨f,b,c,hv⟩<;>simp[execOp,hv]
 | binOp op t x y ty'=>
  simp only[opV]at h;have hvo:=vO_inv h
  clear h;obtain⟨h,rfl⟩:=hvo
  cases hb:(rgT t&&nilConst y)with
  | false=>rw[hb]at h;exact OpRuns.ofPure hH (binA_ok (P:=P) h (evArg_ok hf x) (evArg_ok hf y) x y)
  | true=>
   rw[hb]at h;rw[Bool.and_eq_true]at hb
   have hy:y=.const (.slice none 0 0):=by
    have hn:=hb.2
    unfold nilConst at hn;split at hn
    ·rfl
    ·cases hn
   subst hy;exact OpRuns.ofPure hH (binS_ok (P:=P) h (evArg_ok hf x) x (.const (.slice none 0 0)))
 | unOp op t x=>
  simp only[opV]at h;have hvo:=vO_inv h
  clear h;obtain⟨h,rfl⟩:=hvo
  exact OpRuns.ofPure hH (unA_ok (P:=P) h (evArg_ok hf x))
 | convert s d x=>
  simp only[opV]at h;have hvo:=vO_inv h
  clear h;obtain⟨h,rfl⟩:=hvo
  exact OpRuns.ofPure hH (convA_ok (P:=P) h (evArg_ok hf x))
 | makeInterface t x=>
  simp only[opV]at h;have hvo:=vO_inv h
  clear h;obtain⟨h,rfl⟩:=hvo
  refine OpRuns.ofPure hH ⟨.iface t (a.eval x),?_,?_⟩
  ·refine run_makeInterface _ _ _ ?_
   unfold ifaceA at h;unfold Program.concrete
   cases hu:P.underlying t with
   | none=>simp[kindT,hu,ifaceK]at h
   | some d=>cases d<;>first|(simp[kindT,hu,ifaceK]at h;done)|rfl
  ·unfold ifaceA ifaceK at h;split at h
   ·cases h
   ·cases h
   ·cases h;exact .iface (evArg_ok hf x)
 | makeFunc fn first caps=>
  cases fn with
  | func f=>
   cases h;refine OpRuns.ofPure hH ⟨.func (.func f) (first.map a.eval) (caps.map a.eval),rfl,?_⟩
   rw[arr_map,arr_map];have h1:=argsA_ok hf first.toList
   have h2:=argsA_ok hf caps.toList
   exact .fn f _ _ _ _ h1.1 h2.1 h1.2 h2.2
  | _=>cases h
 | makeSlice t x y=>
  simp only[opV]at h;exact OpRuns.ofLeft rfl (makeRA_ok (P:=P) hH (hp rfl) (evArg_ok hf x) (evArg_ok hf y) h)
 | slice t x lo hi mx=>
  simp only[opV]at h
  cases mx with
  | some m=>cases h
  | none=>
   have hvo:=vO_inv h
   clear h;obtain⟨h,rfl⟩:=hvo
   refine OpRuns.ofPure hH ?_
   have hb:∀ y:Option Operand,BoundRep w Im g (y.map a.eval) (argO st y):=by
    intro y
    cases y with
    | none=>trivial
    | some y=>exact evArg_ok hf y
   exact sliceA_ok (P:=P) (evArg_ok hf x) (hb lo) (hb hi) h
 | fieldAddr s x f=>
  simp only[opV]at h;have hvo:=vO_inv h
  clear h;obtain⟨h,rfl⟩:=hvo
  exact OpRuns.ofPure hH (fieldAddrA_ok (P:=P) (evArg_ok hf x) h)
 | field s x f=>
  simp only[opV]at h;have hvo:=vO_inv h
  clear h;obtain⟨h,rfl⟩:=hvo
  exact OpRuns.ofPure hH (fieldA_ok (P:=P) (evArg_ok hf x) h)
 | indexAddr t x i=>
  simp only[opV]at h;have hvo:=vO_inv h
  clear h;obtain⟨h,rfl⟩:=hvo
  exact OpRuns.ofPure hH (indexAddrA_ok (P:=P) (evArg_ok hf x) (evArg_ok hf i) h)
 | index t x i=>
  simp only[opV]at h;have hvo:=vO_inv h
  clear h;obtain⟨h,rfl⟩:=hvo
  exact OpRuns.ofPure hH (indexA_ok (P:=P) (evArg_ok hf x) (evArg_ok hf i) h)
 | extract x i=>
  simp only[opV]at h;have hvo:=vO_inv h
  clear h;obtain⟨h,rfl⟩:=hvo
  exact OpRuns.ofPure hH (extractA_ok (P:=P) (evArg_ok hf x) h)
 | call c=>
  obtain⟨callee,args,argTypes⟩:=c
  cases callee with
  | value f=>exact absurd rfl (hnc _ f rfl)
  | invoke r m=>cases h
  | builtin b=>
   simp only[opV]at h;have hargs:=argsA_ok hf args.toList
   obtain⟨ts,hts⟩:∃ ts,argTypes=⟨ts⟩:=⟨argTypes.toList,rfl⟩
   subst hts;generalize hca:argsA st args.toList=cas at h hargs;generalize hva:args.toList.map a.eval=vas at hargs
   have hexe:∀ (b:Builtin) (s:Sem Value),(∀ consts,builtin b ⟨ts⟩ ty consts ⟨vas⟩=do pure (.value (←s)))→(execOp a.eval ⟨dst,.call ⟨.builtin b,args,⟨ts⟩⟩,ty,pos,after,guard⟩).run P w=(do pure (.value (←s)):Sem Next).run P w:=by
    intro b s hb;simp only[execOp,resolve,invoke,Sem.run_bind,Sem.run_pure,Result.andThen_ok];rw[arr_map args a.eval,hva,hb];simp
   cases b with
   | len=>
    simp only[builtinA]at h;unfold lenB at h;split at h
    ·rename_i t ts' x cs;have hvo:=vO_inv h
     clear h;obtain⟨h,rfl⟩:=hvo
     match vas,hargs with
     | v::vs,hargs=>
      rw[hexe .len (Builtin.len_ ⟨t::ts'⟩ ty ⟨v::vs⟩) (fun _=>rfl)]
      exact OpRuns.ofPure hH (lenA_ok (P:=P) (hargs.2 0 v x rfl rfl) h)
    ·cases h
   | append=>
    simp only[builtinA]at h;unfold appB at h;split at h
    ·rename_i t t' s x;split at h
     ·rename_i htt;subst htt;match vas,hargs with
      | [v1,v2],hargs=>
       rw[hexe .append (Builtin.append_ ⟨[t,t]⟩ ty ⟨[v1,v2]⟩) (fun _=>rfl)]
       exact OpRuns.ofLeft rfl (appendA_ok (P:=P) hH (hp rfl) (hargs.2 0 v1 s rfl rfl) (hargs.2 1 v2 x rfl rfl) h)
     ·match vas,hargs with
      | [v1,v2],hargs=>
       rw[hexe .append (Builtin.append_ ⟨[t,t']⟩ ty ⟨[v1,v2]⟩) (fun _=>rfl)]
       have hS:=hargs.2 0 v1 s rfl rfl
       have hX:=hargs.2 1 v2 x rfl rfl
       clear hargs;unfold appS at h;split at h
       ·rename_i hk;rw[str_inv hX];exact OpRuns.ofLeft rfl (appS_ok (P:=P) hH (kindT_str hk) (hp rfl) hS h)
       ·rename_i hk;rw[str_inv hX];exact OpRuns.ofLeft rfl (appS_ok (P:=P) hH (kindT_str hk) (hp rfl) hS h)
       ·rename_i hk;rw[str_inv hX];exact OpRuns.ofLeft rfl (appS_ok (P:=P) hH (kindT_str hk) (hp rfl) hS h)
       ·cases h
    ·cases h
   | max=>
    simp only[builtinA]at h;have hvo:=vO_inv h
    clear h;obtain⟨h,rfl⟩:=hvo
    rw[hexe .max (Builtin.max_ ⟨ts⟩ ty ⟨vas⟩) (fun _=>rfl)]
    exact OpRuns.ofPure hH (maxA_ok (P:=P) hargs.1 hargs.2 h)
   | min=>
    simp only[builtinA]at h;have hvo:=vO_inv h
    clear h;obtain⟨h,rfl⟩:=hvo
    rw[hexe .min (Builtin.min_ ⟨ts⟩ ty ⟨vas⟩) (fun _=>rfl)]
    exact OpRuns.ofPure hH (minA_ok (P:=P) hargs.1 hargs.2 h)
   | delete=>
    simp only[builtinA]at h;unfold delB at h;split at h
    ·rename_i t ts' m k cs;match vas,hargs with
     | vm::vk::vs,hargs=>
      rw[hexe .delete (Builtin.delete_ ⟨t::ts'⟩ ty ⟨vm::vk::vs⟩) (fun _=>rfl)]
      obtain⟨w',k1,k2⟩:=delA_ok (P:=P) (p:=p) (ty:=ty) (ts:=ts') (vs:=vs) hH (hargs.2 0 vm m rfl rfl) (hargs.2 1 vk k rfl rfl) h
      exact⟨_,w',Im,g,.inl (by simp[k1]),LeftO.same k2 (.inl rfl)⟩
    ·cases h
   | copy=>
    simp only[builtinA]at h;unfold cpyB at h;split at h
    ·rename_i t t' d x;split at h
     ·match vas,hargs with
      | [vd,vx],hargs=>
       rw[hexe .copy (Builtin.copy_ ⟨[t,t']⟩ ty ⟨[vd,vx]⟩) (fun _=>rfl)]
       obtain⟨v,w',k1,k2⟩:=cpyT_ok (P:=P) (p:=p) (ty:=ty) (t':=t') hH (hargs.2 0 vd d rfl rfl) (hargs.2 1 vx x rfl rfl) h
       exact⟨_,w',Im,g,.inl (by simp[k1]),LeftO.same k2 (.inl rfl)⟩
     ·cases h
    ·cases h
   | clear=>
    simp only[builtinA]at h;unfold clrB at h;split at h
    ·rename_i t x;match vas,hargs with
     | [v],hargs=>
      rw[hexe .clear (Builtin.clear_ ⟨[t]⟩ ty ⟨[v]⟩) (fun _=>rfl)]
      obtain⟨rfl,hh⟩:=clearA_ok (P:=P) (p:=p) (ty:=ty) hH (hargs.2 0 v x rfl rfl) h
      rcases hh with⟨rfl,hh⟩|⟨w',k1,k2⟩
      ·exact OpRuns.ofPure hH ⟨_,hh,.tuple [] [] rfl (fun i v c h=>by simp at h)⟩
      ·exact⟨_,w',Im,g,.inl (by simp[k1]),LeftO.same k2 (.inl rfl)⟩
    ·cases h
   | _=>simp[builtinA]at h
 | makeMap t r=>
  cases r with
  | some x=>cases h
  | none=>
   simp only[opV]at h;exact OpRuns.ofLeft rfl (makeM_ok (P:=P) hH (hp rfl) h)
 | lookup t m k ok=>
  simp only[opV]at h;have hvo:=vO_inv h
  clear h;obtain⟨h,rfl⟩:=hvo
  exact OpRuns.ofPure hH (lookA_ok (P:=P) hH (evArg_ok hf m) (evArg_ok hf k) h)
 | mapUpdate t m k x=>
  simp only[opV]at h;obtain⟨w',k1,k2⟩:=updA_ok (P:=P) (p:=p) hH (evArg_ok hf m) (evArg_ok hf k) (evArg_ok hf x) h
  exact⟨undef,w',Im,g,.inr ⟨by simp[execOp,k1],rfl⟩,LeftO.same k2 (.inl rfl)⟩
 | insert t m k x=>
  simp only[opV]at h;obtain⟨w',k1,k2⟩:=updA_ok (P:=P) (p:=p) hH (evArg_ok hf m) (evArg_ok hf k) (evArg_ok hf x) h
  exact⟨undef,w',Im,g,.inr ⟨by simp[execOp,k1],rfl⟩,LeftO.same k2 (.inl rfl)⟩
 | typeAssert x xt s ok=>
  simp only[opV]at h;have hvo:=vO_inv h
  clear h;obtain⟨h,rfl⟩:=hvo
  exact OpRuns.ofPure hH (assertA_ok (P:=P) (xt:=xt) (evArg_ok hf x) h)
 | panic x=>
  simp only[opV]at h;unfold panA at h;split at h<;>cases h
 | _=>cases h
end
end Go.Ab
/- The abstract evaluator is right of what is handed to a caller,and of code inside a round. Conditions: none. -/
namespace Go.Ab
open Go

def fen:Option Nat→Fence
 | none=>Fence.wide
 | some l=>Fence.wide.inRound l
theorem fen_fn(ro:Option Nat)(f:FuncId):(fen ro).fn f:=by cases ro<;>trivial
theorem fen_depth(ro:Option Nat):(fen ro).depth=none:=by cases ro<;>rfl
theorem fen_calls{ro:Option Nat}{n:Nat}{P:Program}{f:FuncId}{args:Array Value}{w:World}{R:Ending→World→Prop}(h:Calls P f args w R):CallsIn (fen ro) n P f args w R:=by
 have:=(callsIn_wide (n:=n)).2 h
 cases ro with
 | none=>exact this
 | some l=>exact this
theorem fen_rows{ro:Option Nat}{n:Nat}{P:Program}{row:String}{args:Array Value}{w:World}{R:Value→World→Prop}(h:Rows P row args w R):RowsIn (fen ro) n P row args w R:=by
 intro c cs _;obtain⟨v,w',h1,h2⟩:=h c cs
 refine⟨v,w',h1,?_⟩
 cases ro with
 | none=>exact stepsIn_wide.2 h2
 | some l=>exact stepsIn_wide.2 h2
theorem fen_round{ro:Option Nat}{n:Nat}{P:Program}{l:Nat}{f:FuncId}{tmps:Array Value}{assign body:Code}{w:World}{R:Ending→World→Prop}(h:RoundIn Fence.wide n P l f tmps assign body w R):RoundIn (fen ro) n P l f tmps assign body w R:=by
 cases ro with
 | none=>exact h
 | some l=>exact h
theorem wpIn_of_wp{ro:Option Nat}{P:Program}{o:Oper}{a:Act}{w:World}{next:Act→World→Prop}{Q:Exit→Act→World→Prop}(hnd:∀ c,o.op≠.defer c)(h:o.wp P a w next Q):o.wpIn (fen ro) 0 P a w next Q:=by
 refine⟨fun f _=>fen_fn ro f,?_⟩
 rw[Oper.semAt_plain (fen ro) _ _ hnd];unfold Oper.wp at h;have hd:(fen ro).depth.isSome=true→1≤0:=by rw[fen_depth];intro h;cases h
 cases hr:(execOp a.eval o).run P w with
 | ok n w'=>
  rw[hr]at h
  cases n with
  | value v=>exact h
  | skip=>exact h
  | defer d=>exact h
  | enter f args=>exact⟨hd,fen_calls h⟩
  | row r args=>exact⟨hd,fen_rows h⟩
  | _=>exact h.elim
 | halt x w'=>
  rw[hr]at h
  cases x with
  | panic v=>exact h
  | _=>exact h.elim

theorem RepA.fewer{w:World}{Im:Imm}{g g':List Gh}{v:Value}{c:AV}(h:RepA w Im g v c)(hf:∀ (r:Nat) (x:Gh),r∈refs c→g[r]?=some x→g'[r]?=some x)(hz:∀ bs,hasRp c=true→g[0]?=some (.reg bs)→g'[0]?=some (.reg bs)):RepA w Im g' v c:=by
 induction h with
 | any v=>exact .any v
 | d h=>exact .d h
 | full h=>exact .full h
 | grow h hg hsz hle he=>exact .grow h (hf _ _ (by simp[refs]) hg) hsz hle he
 | agg vs cs hl h1 h ih=>
  refine .agg vs _ hl h1 (fun i v c hv hc=>ih i v c hv hc (fun r x hr hx=>hf r x ?_ hx) (fun bs hh=>hz bs (by simp only[hasRp];exact hasRpL_of (List.mem_of_getElem? hc) hh)))
  simp only[refs,refsAL_map,List.mem_flatten,List.mem_map];exact⟨_,⟨c,List.mem_of_getElem? hc,rfl⟩,hr⟩
 | tuple vs cs hl h ih=>
  refine .tuple vs _ hl (fun i v c hv hc=>ih i v c hv hc (fun r x hr hx=>hf r x ?_ hx) (fun bs hh=>hz bs (by simp only[hasRp];exact hasRpL_of (List.mem_of_getElem? hc) hh)))
  simp only[refs,refsAL_map,List.mem_flatten,List.mem_map];exact⟨_,⟨c,List.mem_of_getElem? hc,rfl⟩,hr⟩
 | ptr hg=>exact .ptr (hf _ _ (by simp[refs]) hg)
 | dp h=>exact .dp h
 | arr hg ho hl=>exact .arr (hf _ _ (by simp[refs]) hg) ho hl
 | own hg ho hl=>exact .own (hf _ _ (by simp[refs]) hg) ho hl
 | stk hg h1 h2 h3 h4=>exact .stk (hf _ _ (by simp[refs]) hg) h1 h2 h3 h4
 | sp hg h1 h2=>exact .sp (hf _ _ (by simp[refs]) hg) h1 h2
 | sv hg h1 h2 h3 h4 h5=>exact .sv (hf _ _ (by simp[refs]) hg) h1 h2 h3 h4 h5
 | fn k vf cf vc cc hl hl' h h' ih ih'=>
  refine .fn k vf _ vc _ hl hl' (fun i v c hv hc=>ih i v c hv hc (fun r x hr hx=>hf r x ?_ hx) (fun bs hh=>hz bs (by simp only[hasRp,Bool.or_eq_true];exact .inl (hasRpL_of (List.mem_of_getElem? hc) hh)))) (fun i v c hv hc=>ih' i v c hv hc (fun r x hr hx=>hf r x ?_ hx) (fun bs hh=>hz bs (by simp only[hasRp,Bool.or_eq_true];exact .inr (hasRpL_of (List.mem_of_getElem? hc) hh))))
  ·simp only[refs,refsAL_map,List.mem_append,List.mem_flatten,List.mem_map];exact .inl ⟨_,⟨c,List.mem_of_getElem? hc,rfl⟩,hr⟩
  ·simp only[refs,refsAL_map,List.mem_append,List.mem_flatten,List.mem_map];exact .inr ⟨_,⟨c,List.mem_of_getElem? hc,rfl⟩,hr⟩
 | iface h ih=>exact .iface (ih (fun r x hr hx=>hf r x (by simpa[refs]using hr) hx) (fun bs hh=>hz bs (by simpa only[hasRp]using hh)))
 | mp hg=>exact .mp (hf _ _ (by simp[refs]) hg)
 | nilm=>exact .nilm
 | nils=>exact .nils
 | yld hg=>exact .yld (hf _ _ (by simp[refs]) hg)
 | bp hg=>exact .bp (hf _ _ (by simp[refs]) hg)
 | rp hg hk=>exact .rp (hz _ rfl hg) hk
 | rs hg hk ho hl=>exact .rs (hz _ rfl hg) hk ho hl
 | avl cs us hl hc him h ih=>
  refine .avl cs us hl hc him (fun i c hc=>ih i c hc (fun r x hr hx=>hf r x ?_ hx) (fun bs hh=>hz bs (by simp only[hasRp];exact hasRpL_of (List.mem_of_getElem? hc) hh)))
  simp only[refs,refsAL_map,List.mem_flatten,List.mem_map];exact⟨_,⟨c,List.mem_of_getElem? hc,rfl⟩,hr⟩


section
variable {P:Program}{w:World}{Im:Imm}{g:List Gh}{H:List AObj}

theorem arrs0_cellY{v:Value}{c:AV}(h:RepA w Im g v c):∀ r,r∈arrs0 c→∃ b,g[r]?=some (.cell b):=by
 intro r hr
 cases h with
 | arr hg=>simp[arrs0]at hr;subst hr;exact⟨_,hg⟩
 | _=>simp[arrs0]at hr
theorem arrs1_cellY{v:Value}{c:AV}(h:RepA w Im g v c):∀ r,r∈arrs1 c→∃ b,g[r]?=some (.cell b):=by
 intro r hr
 cases h with
 | agg vs cs hl h1 hrep=>
  simp only[arrs1,mem_refsL]at hr;obtain⟨c,hc,hr⟩:=hr
  obtain⟨i,hi,rfl⟩:=List.getElem_of_mem hc
  exact arrs0_cellY (hrep i _ _ (List.getElem?_eq_getElem (by omega)) (List.getElem?_eq_getElem hi)) r hr
 | arr hg=>simp[arrs1,arrs0]at hr;subst hr;exact⟨_,hg⟩
 | _=>simp[arrs1,arrs0]at hr

theorem repAs_norefs{vs:List Value}{cs:List AV}(h:RepAs w Im g vs cs)(hr:refsAL cs=[])(hz:∀ bs,hasRpL cs=true→g[0]?≠some (.reg bs)):RepAs w Im [] vs cs:=by
 refine⟨h.1,fun i v c hv hc=>(h.2 i v c hv hc).fewer (fun r x hr' _=>?_) (fun bs hh hb=>absurd hb (hz bs (hasRpL_of (List.mem_of_getElem? hc) hh)))⟩
 exfalso
 rw[refsAL_map]at hr
 have:r∈(cs.map refs).flatten:=by
  simp only[List.mem_flatten,List.mem_map];exact⟨_,⟨c,List.mem_of_getElem? hc,rfl⟩,hr'⟩
 rw[hr]at this;simp at this

theorem gle_yld{r:Nat}{l:Yl}{T T':Nat→Prop}(hg:g[r]?=some (.yld l T)):GLe g (g.set r (.yld l T')):=by
 have hrl:=(List.getElem?_eq_some_iff.1 hg).1
 have key:∀ (q:Nat) (y:Gh),(∀ l T,y≠.yld l T)→g[q]?=some y→(g.set r (.yld l T'))[q]?=some y:=by
  intro q y hy hq;by_cases e:r=q
  ·subst e;rw[hg]at hq;cases hq;exact absurd rfl (hy _ _)
  ·rw[List.getElem?_set_ne e];exact hq
 refine⟨fun q b h=>key q _ (by simp) h,fun q ep esz base len cap h=>⟨ep,base,len,cap,key q _ (by simp) h,Nat.le_refl _,fun _=>⟨rfl,rfl,rfl⟩⟩,fun q l2 T2 h=>?_,fun q b row h=>⟨row,key q _ (by simp) h⟩,fun q bs h=>⟨[],by rw[List.append_nil];exact key q _ (by simp) h⟩⟩
 by_cases e:r=q
 ·subst e;rw[hg]at h;cases h;exact⟨T',List.getElem?_set_self hrl⟩
 ·exact⟨T2,by rw[List.getElem?_set_ne e];exact h⟩

theorem owns_one{l:Yl}{k:Nat}{T:Nat→Prop}:Owns [.yld l T] k↔T k:=by
 constructor
 ·rintro⟨r,x,hr,hx⟩
  cases r with
  | zero=>cases hr;exact hx
  | succ r=>simp at hr
 ·intro h;exact⟨0,_,rfl,h⟩

theorem yield_ok(hH:HR P w Im g H){r c p:Nat}{l:Yl}{T:Nat→Prop}{as:List AV}{vs:List Value}{o:ORes}(ha:RepAs w Im g vs as)(hg:g[r]?=some (.yld l T))(h:yieldA as H r=some o) :
  YieldAt Fence.wide 0 P l.l ⟨vs⟩ w fun e w'=>∃ av ws v Im' g',o=.val av ws∧e=.returned v∧LeftO P w Im g H c p ws av v w' Im' g':=by
 unfold yieldA yieldG at h;split at h
 ·rename_i as' hgv
  have hF:∀ q,q∈refsL arrs1 as→q<H.length∧q≠r:=by
   intro q hq;rw[mem_refsL]at hq;obtain⟨c,hc,hq⟩:=hq
   obtain⟨i,hi,rfl⟩:=List.getElem_of_mem hc
   have hrep:=ha.2 i _ _ (List.getElem?_eq_getElem (by rw[ha.1];exact hi)) (List.getElem?_eq_getElem hi)
   refine⟨arrs1_lt hH hrep q hq,?_⟩
   rintro rfl
   obtain⟨b,hb⟩:=arrs1_cellY hrep q hq
   rw[hg]at hb;cases hb
  obtain⟨hH0,he0⟩:=froz_hr hH (fun q hq=>(hF q hq).1) (fun q hq x=>by
   rw[mem_refsL]at hq;obtain⟨c,hc,hq⟩:=hq
   obtain⟨i,hi,rfl⟩:=List.getElem_of_mem hc
   exact arrs1_cell (ha.2 i _ _ (List.getElem?_eq_getElem (by rw[ha.1];exact hi)) (List.getElem?_eq_getElem hi)) q hq x)
  obtain⟨s1,s2,s3⟩:=setOs_noes (refsL arrs1 as) H (fun q hq=>(hF q hq).1)
  obtain⟨k1,k2⟩:=giveL_ok (R:=RepA w Im g) (R':=RepA w (fun b o=>Im b o∨Froz w g (refsL arrs1 as) b) g) ha.1 ha.2 hgv (fun v c c' hm hv hc=>give1_ok hH hv (fun q hq=>mem_refsL.2 ⟨c,hm,hq⟩) hc he0)
  unfold yieldK at h;split at h
  ·rename_i stop n x rest hobj;split at h
   ·rename_i hcond
    cases h;obtain⟨hx,hstop,hnr,hry⟩:=hcond
    have hxe:=eqVL_ok _ _ hx
    subst hxe
    have hHr:(setOs H (noes (refsL arrs1 as)))[r]?=some (.log stop n (as'::rest)):=by
     rw[s3 r (fun hm=>(hF r hm).2 rfl)]
     rw[List.getD_eq_getElem?_getD]at hobj
     cases hx:H[r]? with
     | none=>rw[hx]at hobj;cases hobj
     | some o=>rw[hx]at hobj;simp only[Option.getD_some]at hobj;rw[hobj]
    obtain⟨l',T',hg',h0,h1,h2,h3,h4,h5⟩:=hH0.log r stop n _ hHr
    rw[hg]at hg'
    cases hg'
    have hxn:l.xs[n]?=some as':=by
     have:(l.xs.drop n)[0]?=some as':=by rw[←h1];rfl
     rw[List.getElem?_drop]at this
     exact this
    have hrest:rest=l.xs.drop (n+1):=by
     have:(l.xs.drop n).tail=rest:=by rw[←h1];rfl
     rw[←this,List.tail_drop]
    have hTlt:∀ b,T b→b<w.heap.size:=fun b hb=>hH.lt b ⟨r,_,hg,hb⟩
    have hrl:=hH0.lenlt hg
    have hrg:=(List.getElem?_eq_some_iff.1 hg).1
    obtain⟨fn,tmps,assign,body,hy,hR⟩:=h4 n as' T _ w vs h5 hxn (by rw[h0];exact hstop) hTlt hH0.im (repAs_norefs ⟨k1,k2⟩ hnr (fun bs hh hb=>by
     cases hrr:hasReg with
     | false=>exact hH0.rg.off hrr 0 bs hb
     | true=>rw[hrr]at hry;simp only[rgYld,hh]at hry;cases hry))
    refine⟨fn,tmps,assign,body,hy,hR.mono ?_⟩
    rintro e w' ⟨rfl,T',Im',ex,hT',hI',hJ'⟩
    have hTT:∀ k,T' k→T k∨w.heap.size≤k:=fun k hk=>(ex.newg k (owns_one.2 hk)).imp owns_one.1 id
    have e1:Ext w (fun b o=>Im b o∨Froz w g (refsL arrs1 as) b) g w' Im' (g.set r (.yld l T')):=by
     refine⟨ex.os,ex.tape,ex.output,ex.size,ex.mono,ex.keep,fun k hk hno=>ex.frame k hk (fun ho=>hno ⟨r,_,hg,owns_one.1 ho⟩),fun b o hb=>?_,fun k hk=>?_,gle_yld hg⟩
     ·rcases ex.new b o hb with hb|hb|hb
      ·exact .inl hb
      ·exact .inr (.inl hb)
      ·exact .inr (.inr ⟨r,_,hg,owns_one.1 hb⟩)
     ·rcases owns_set hk with⟨hk,_⟩|hk
      ·rcases hTT k hk with hk|hk
       ·exact .inl ⟨r,_,hg,hk⟩
       ·exact .inr hk
      ·exact .inl hk
    refine⟨_,_,_,Im',g.set r (.yld l T'),rfl,rfl,by rw[h0];exact .d (.bool _),?_,he0.trans e1,fun q _ hq=>?_⟩
    ·rw[setOs_append];show HR P _ _ _ (setO (setOs H (noes (refsL arrs1 as))) r _)
     rw[setO_lt hrl];refine hH0.go e1 (by simp[hH0.len]) (fun q=>q=r) (fun q hq=>⟨List.getElem?_set_ne (Ne.symm hq),List.getElem?_set_ne (Ne.symm hq)⟩) (fun q x k hne hq hk=>?_) ?_ ?_ ?_ ?_ ?_ ?_ ?_ hI'
     ·have hnT:¬T k:=fun hT=>hH0.sep q r k x _ hne hq hg hk hT
      have hkl:=hH0.lt k ⟨q,x,hq,hk⟩
      refine⟨ex.frame k hkl (fun ho=>hnT (owns_one.1 ho)),fun o ho=>?_⟩
      rcases ex.new k o ho with ho|ho|ho
      ·exact ho
      ·omega
      ·exact absurd (owns_one.1 ho) hnT
     ·rintro q cs rfl hq
      rw[List.getElem?_set_self hrl]at hq
      cases hq
     ·rintro q ep sz rfl hq
      rw[List.getElem?_set_self hrl]at hq
      cases hq
     ·rintro q es rfl hq
      rw[List.getElem?_set_self hrl]at hq
      cases hq
     ·rintro q stop' n' rest' rfl hq
      rw[List.getElem?_set_self hrl]at hq
      cases hq;refine⟨l,T',List.getElem?_set_self hrg,h0,hrest,?_,h3,h4,hJ'⟩
      omega
     ·rintro q acc rfl hq
      rw[List.getElem?_set_self hrl]at hq
      cases hq
     ·rintro q q' k x x' rfl hne hq hq' hx hx'
      rw[List.getElem?_set_self hrg]at hq
      cases hq;rw[List.getElem?_set_ne hne]at hq'
      rcases hTT k hx with hT|hT
      ·exact hH0.sep q q' k _ x' hne hg hq' hT hx'
      ·have:=hH0.lt k ⟨q',x',hq',hx'⟩
       omega
     ·rintro q k x rfl hq hx
      rw[List.getElem?_set_self hrg]at hq
      cases hq;exact hT' k hx
    ·have hne:r≠q:=by rintro rfl;rw[hg]at hq;cases hq
     rw[List.getElem?_set_ne hne];exact hq
   ·cases h
  ·rename_i acc hobj;exfalso
   rw[List.getD_eq_getElem?_getD]at hobj
   cases hx:H[r]? with
   | none=>rw[hx]at hobj;cases hobj
   | some o=>rw[hx]at hobj;simp only[Option.getD_some]at hobj;exact hH.gen r acc (by rw[hx,hobj])
  ·cases h
 ·cases h
end
end Go.Ab
/- The abstract evaluator is right of operations in a row. Conditions: the functions that are called are right. -/
namespace Go.Ab
open Go

section
variable {P:Program}{Γ:Sem'}{w:World}{Im:Imm}{g:List Gh}{st:St}{a:Act}

def ResRep(r:ORes)(v:Value)(w:World)(Im:Imm)(g:List Gh)(H:List AObj)(c p:Nat)(w':World):Prop:=
 match r with
 | .val av ws=>∃ Im' g',LeftO P w Im g H c p ws av v w' Im' g'
 | .pan av ws=>∃ Im' g',LeftO P w Im g H c p ws av v w' Im' g'

def outRes(ρ:List Nat)(n:Nat)(pre:List (Nat×AObj))(H':List AObj):Out→ORes
 | .ret v=>.val (ren (back ρ n) v) (pre++backWs ρ n 0 H')
 | .pan v=>.pan (ren (back ρ n) v) (pre++backWs ρ n 0 H')
theorem callK_inv{b:Bool}{n:Nat}{ρ:List Nat}{pre:List (Nat×AObj)}{out:Out}{H':List AObj}{o:ORes}(h:callK b ρ n pre (some (out,H'))=some o) :
  (hasReg=true→b=false→hasRpH H'=false)∧o=outRes ρ n pre H' out:=by
 have key:∀ v,rgRes b v H'=true→hasReg=true→b=false→hasRpH H'=false:=by
  intro v hv h1 h2;unfold rgRes rgRes1 at hv;rw[h1]at hv;simp only[rgOut,h2,Bool.and_eq_true,Bool.not_eq_true']at hv;exact hv.2
 unfold callK outB at h
 cases out with
 | ret v=>
  simp only at h
  cases hr:rgRes b v H' with
  | false=>rw[hr]at h;simp[callC]at h
  | true=>rw[hr]at h;simp only[callC]at h;cases h;exact⟨key v hr,rfl⟩
 | pan v=>
  simp only at h
  cases hr:rgRes b v H' with
  | false=>rw[hr]at h;simp[callC]at h
  | true=>rw[hr]at h;simp only[callC]at h;cases h;exact⟨key v hr,rfl⟩
theorem evCall_ok(hΓ:Sound P Γ){H:List AObj}(hH:HR P w Im g H){f c p:Nat}{as:List AV}{vs:List Value}{r:ORes}(ha:RepAs w Im g vs as)(h:evCall Γ f as H=some r) :
  (∀ args w,(callFunc f args).run P w=.ok (.enter f args) w) ∧
  Calls P f ⟨vs⟩ w fun e w'=>match r with
   | .val av ws=>∃ v Im' g',e=.returned v∧LeftO P w Im g H c p ws av v w' Im' g'
   | .pan av ws=>∃ v Im' g',e=.panicked [{ v,recovered:=false }]∧LeftO P w Im g H c p ws av v w' Im' g':=by
 unfold evCall callG at h;split at h
 ·rename_i as' hg;unfold callR at h;generalize hρ:reach (setOs H (noes (refsL arrs1 as))) (2*H.length+8) (rgRoot (rgH f (setOs H (noes (refsL arrs1 as))))++(as'.map refs).flatten) []=ρ at h;unfold callH at h;split at h
  ·rename_i hc;rw[Bool.and_eq_true]at hc;obtain⟨hc,hk⟩:=hc
   have hFg:∀ r,r∈refsL arrs1 as→∀ x,g[r]?≠some (.reg x):=by
    intro r hr x;rw[mem_refsL]at hr;obtain⟨c,hc,hr⟩:=hr
    obtain⟨i,hi,rfl⟩:=List.getElem_of_mem hc
    exact arrs1_cell (ha.2 i _ _ (List.getElem?_eq_getElem (by rw[ha.1];exact hi)) (List.getElem?_eq_getElem hi)) r hr x
   have hF:∀ r,r∈refsL arrs1 as→r<H.length:=by
    intro r hr;rw[mem_refsL]at hr;obtain⟨c,hc,hr⟩:=hr
    obtain⟨i,hi,rfl⟩:=List.getElem_of_mem hc
    exact arrs1_lt hH (ha.2 i _ _ (List.getElem?_eq_getElem (by rw[ha.1];exact hi)) (List.getElem?_eq_getElem hi)) r hr
   obtain⟨hH0,he0⟩:=froz_hr hH hF hFg
   obtain⟨k1,k2⟩:=giveL_ok (R:=RepA w Im g) (R':=RepA w (fun b o=>Im b o∨Froz w g (refsL arrs1 as) b) g) ha.1 ha.2 hg (fun v c c' hm hv hc=>give1_ok hH hv (fun r hr=>mem_refsL.2 ⟨c,hm,hr⟩) hc he0)
   obtain⟨hHs,hren⟩:=hr_sub hH0 hc (rgOk_Z hH0 hk)
   obtain⟨hcl,_,_,_⟩:=closed_inv hc
   have hargs:RepAs w (fun b o=>Im b o∨Froz w g (refsL arrs1 as) b) (ρ.map fun r=>g.getD r .no) vs (as'.map (ren fun r=>ρ.idxOf r)):=by
    refine⟨by simpa using k1,fun i v c hv hc=>?_⟩
    rw[List.getElem?_map]at hc
    cases hci:as'[i]? with
    | none=>rw[hci]at hc;cases hc
    | some c0=>
     rw[hci]at hc;cases hc;exact hren c0 v (List.mem_of_getElem? hci) (k2 i v c0 hv hci)
   cases hres:Γ f (as'.map (ren fun r=>ρ.idxOf r)) (ρ.map fun r=>renO (fun r=>ρ.idxOf r) ((setOs H (noes (refsL arrs1 as))).getD r .no))with
   | none=>rw[hres]at h;cases h
   | some q=>
    obtain⟨out,H'⟩:=q
    rw[hres]at h;obtain⟨s1,s2,s3⟩:=hΓ f _ _ out H' hres
    refine⟨s1,(s3 w _ _ vs hHs hargs).mono ?_⟩
    rintro e w' ⟨Im',g',hH',he',hout⟩
    obtain⟨gn,n1,n2,n3,n4⟩:=hr_back hH0 hc hH' he' (by simpa using s2) (reg0_of hk hH'.rg (callK_inv h).1)
    have hset:∀ ws,ws=noes (refsL arrs1 as)++backWs ρ (setOs H (noes (refsL arrs1 as))).length 0 H'→setOs H ws=setOs (setOs H (noes (refsL arrs1 as))) (backWs ρ (setOs H (noes (refsL arrs1 as))).length 0 H'):=by
     rintro ws rfl
     exact setOs_append _ _ _
    cases out with
    | ret v=>
     obtain⟨_,h⟩:=callK_inv h
     subst h;obtain⟨u,hu,hru⟩:=hout
     refine⟨u,Im',gn,hu,n4 v u hru,?_,he0.trans n2,fun q _ hq=>n3 q hq⟩
     rw[hset _ rfl];exact n1
    | pan v=>
     obtain⟨_,h⟩:=callK_inv h
     subst h;obtain⟨u,hu,hru⟩:=hout
     refine⟨u,Im',gn,hu,n4 v u hru,?_,he0.trans n2,fun q _ hq=>n3 q hq⟩
     rw[hset _ rfl];exact n1
  ·cases h
 ·cases h

theorem vO_np{c:Option AV}{v:AV}{ws:List (Nat×AObj)}:vO c≠some (.pan v ws):=by unfold vO;split<;>simp
theorem emptyA_np{p:Nat}{t:TypeId}{v:AV}{ws:List (Nat×AObj)}:emptyA P p t≠some (.pan v ws):=by
 unfold emptyA emptyT;split
 ·unfold emptyK;split<;>simp
 ·simp
theorem nilA_np{p:Nat}{t:TypeId}{b:Bool}{v:AV}{ws:List (Nat×AObj)}:nilA P p t b≠some (.pan v ws):=by
 unfold nilA;split
 ·unfold nilStkT;split
  ·unfold nilStkK;split<;>simp
  ·simp
 ·exact emptyA_np
theorem appendA_np{p:Nat}{t:TypeId}{H:List AObj}{s x v:AV}{ws:List (Nat×AObj)}:appendA P p t H s x≠some (.pan v ws):=by
 unfold appendA appendT;split
 ·unfold appendX;split
  ·unfold appendV;split
   ·unfold stkAppV;split
    ·split<;>simp
    ·simp
   ·simp
  ·unfold appendK;split
   ·unfold growK;split
    ·split<;>simp
    ·simp
   ·unfold stkApp;split
    ·split<;>simp
    ·simp
   ·split<;>simp
   ·simp
 ·simp
theorem cpyB_np{H:List AObj}{ts:List TypeId}{as:List AV}{v:AV}{ws:List (Nat×AObj)}:cpyB P H ts as≠some (.pan v ws):=by
 unfold cpyB;split
 ·split
  ·unfold cpyT;split
   ·unfold cpyK;split
    ·unfold cpyD;split
     ·split
      ·unfold cpyW;split
       ·split<;>simp
       ·simp
      ·simp
     ·simp
    ·simp
   ·simp
  ·simp
 ·simp
theorem builtinA_np{p:Nat}{H:List AObj}{ts:List TypeId}{as:List AV}{b:Builtin}{v:AV}{ws:List (Nat×AObj)}:builtinA P p H ts as b≠some (.pan v ws):=by
 unfold builtinA;split
 ·unfold delB;split
  ·unfold delA delT;split
   ·unfold delE;split
    ·unfold putM;split<;>simp
    ·simp
   ·simp
  ·simp
 ·unfold lenB;split
  ·exact vO_np
  ·simp
 ·unfold appB;split
  ·split
   ·exact appendA_np
   ·unfold appS;split
    ·exact appendA_np
    ·exact appendA_np
    ·exact appendA_np
    ·simp
  ·simp
 ·exact vO_np
 ·exact vO_np
 ·unfold clrB;split
  ·unfold clearA clearT;split
   ·unfold clearK;split
    ·split
     ·unfold clearC;split
      ·split
       ·simp
       ·split<;>simp
      ·simp
     ·simp
    ·simp
    ·simp
   ·simp
  ·simp
 ·exact cpyB_np
 ·simp
theorem putM_np{r:Nat}{es:Option (List (AV×AV))}{v:AV}{ws:List (Nat×AObj)}:putM r es≠some (.pan v ws):=by unfold putM;split<;>simp
theorem updA_np{t:TypeId}{H:List AObj}{m k x v:AV}{ws:List (Nat×AObj)}:updA P t H m k x≠some (.pan v ws):=by
 unfold updA updT;split
 ·unfold updE;split
  ·exact putM_np
  ·simp
 ·simp
theorem storeA_np{t:TypeId}{H:List AObj}{x y v:AV}{ws:List (Nat×AObj)}:storeA P t H x y≠some (.pan v ws):=by
 unfold storeA storeT;split
 ·unfold storeK;split
  ·split<;>simp
  ·simp
 ·unfold storeS;split
  ·split<;>simp
  ·simp
 ·unfold storeR;split
  ·split
   ·unfold storeRK;split<;>simp
   ·simp
  ·simp
 ·simp
theorem makeSliceA_np{p:Nat}{t:TypeId}{x y v:AV}{ws:List (Nat×AObj)}:makeSliceA P p t x y≠some (.pan v ws):=by
 unfold makeSliceA makeT;split
 ·unfold makeK;split
  ·split
   ·split
    ·simp
    ·split<;>simp
   ·simp
  ·simp
 ·simp
theorem makeRA_np{p:Nat}{t:TypeId}{H:List AObj}{x y v:AV}{ws:List (Nat×AObj)}{b:Bool}:makeRA P p t H x y b≠some (.pan v ws):=by
 cases b with
 | false=>exact makeSliceA_np
 | true=>
  unfold makeRA makeRG;simp only
  split
  ·split<;>simp
  ·simp
theorem newB_np{p:Nat}{t:TypeId}{c:List AV}{v:AV}{ws:List (Nat×AObj)}:newB P p t c≠some (.pan v ws):=by
 unfold newB;split
 ·split<;>simp
 ·simp
theorem newT_np{p:Nat}{t:TypeId}{b:Bool}{c:Option (List AV)}{v:AV}{ws:List (Nat×AObj)}:newT P p t b c≠some (.pan v ws):=by
 unfold newT;split
 ·exact newB_np
 ·simp
 ·simp
theorem newA_np{p:Nat}{c:Option (List AV)}{v:AV}{ws:List (Nat×AObj)}:newA p c≠some (.pan v ws):=by unfold newA;split<;>simp
theorem bsK_np{n:Nat}{t:TypeId}{ps:List (Nat×AV)}{c:Option (List (List Dt))}{v:AV}{ws:List (Nat×AObj)}:bsK P t n ps c≠some (.pan v ws):=by
 unfold bsK;split
 ·simp
 ·unfold avlT;split
  ·unfold avlS;split
   ·split
    ·unfold avlK;split<;>simp
    ·simp
   ·simp
  ·simp
theorem bsA_np{p n:Nat}{t:TypeId}{ps:List (Nat×Operand)}{v:AV}{ws:List (Nat×AObj)}:bsA P p st t n ps≠some (.pan v ws):=by
 unfold bsA;split
 ·exact emptyA_np
 ·simp
 ·exact bsK_np
theorem assignA_np{p:Nat}{t:TypeId}{x v:AV}{b:Bool}{ws:List (Nat×AObj)}:assignA P p t x b≠some (.pan v ws):=by
 unfold assignA;split
 ·simp
 ·exact nilA_np

theorem op_wp(hΓ:Sound P Γ)(hf:FrameRep w Im g st a.tmps)(hH:HR P w Im g st.H){o:Oper}{p:Nat}(hp:creates o=1→g[p]?=some Gh.no){r:ORes}(h:opV P Γ p st o.type o.op=some r)
  {next:Act→World→Prop} {Q:Exit→Act→World→Prop}
  (hval:∀ av ws v w' Im' g',r=.val av ws→LeftO P w Im g st.H (creates o) p ws av v w' Im' g'→next (a.put o.dst v) w')
  (hpan:∀ av ws v w' Im' g',r=.pan av ws→LeftO P w Im g st.H (creates o) p ws av v w' Im' g'→Q (.panic [{ v,recovered:=false }]) a w') {ro:Option Nat}:o.wpIn (fen ro) 0 P a w next Q:=by
 have hnd:∀ c,o.op≠.defer c:=by intro c hc;rw[hc]at h;cases h
 by_cases hcall:∃ c f,o.op=.call c∧c.callee=.value f
 ·obtain⟨c,f,hoc,hcf⟩:=hcall
  have hcr:creates o=0:=by unfold creates;rw[hoc];simp[hcf]
  rw[hoc]at h;obtain⟨callee,args,argTypes⟩:=c
  simp only at hcf
  subst hcf;simp only[opV]at h;have hfv:=evArg_ok hf f
  by_cases hyl:∃ r,evArg st f=.yld r
  ·obtain⟨r,hyr⟩:=hyl
   rw[hyr]at hfv h;simp only[callV]at h;generalize hfe:a.eval f=fv at hfv
   cases hfv with
   | yld hg=>
    rename_i l T;have hy:=yield_ok (c:=creates o) (p:=p) hH (argsA_ok hf args.toList) hg h
    obtain⟨fn,tmps,assign,body,hrun,hR⟩:=hy
    have hexe:(execOp a.eval o).run P w=.ok (.round l.l fn tmps assign body) w:=by
     simp only[execOp,hoc,resolve,Deferred.ofValue,hfe,Sem.run_bind,Sem.run_pure,Result.andThen_ok,invoke];have e1:(⟨[]⟩:Array Value)++args.map a.eval++(⟨[]⟩:Array Value)=⟨args.toList.map a.eval⟩:=by apply Array.ext';simp
     have e2:(⟨[]⟩:Array Value)++args.map a.eval=⟨args.toList.map a.eval⟩:=by apply Array.ext';simp
     first
      | (rw[e1];exact hrun)
      | (rw[e2];simpa using hrun)
      | (simp[arr_map]at hrun ⊢;exact hrun)
    refine⟨fun f _=>fen_fn ro f,?_⟩
    rw[Oper.semAt_plain (fen ro) _ _ hnd,hexe,Oper.uponIn_round];refine⟨(by rw[fen_depth];intro h;cases h),fen_round (hR.mono ?_)⟩
    rintro e w' ⟨av,ws,v,Im',g',rfl,rfl,hL⟩
    exact hval av ws v w' Im' g' rfl hL
  refine wpIn_of_wp hnd ?_
  unfold Oper.wp;unfold callV at h;split at h
  ·rename_i k first caps hfn;rw[hfn]at hfv
   cases hfv':a.eval f with
   | func fn vf vc=>
    rw[hfv']at hfv
    cases hfv with
    | fn _ vf _ vc _ hl hl' hr hr'=>
     have hargs:RepAs w Im g (vf++args.toList.map a.eval++vc) (first++argsA st args.toList++caps):=
      (RepAs.append (RepAs.append ⟨hl,hr⟩ (argsA_ok hf args.toList)) ⟨hl',hr'⟩)
     obtain⟨s1,s2⟩:=evCall_ok (c:=creates o) (p:=p) hΓ hH hargs h
     have hrun:(execOp a.eval o).run P w=.ok (.enter k ⟨vf++args.toList.map a.eval++vc⟩) w:=by
      simp only[execOp,hoc,resolve,Deferred.ofValue,hfv',Sem.run_bind,Sem.run_pure,Result.andThen_ok,invoke];rw[arr_map]
      have:(⟨vf⟩:Array Value)++(⟨args.toList.map a.eval⟩:Array Value)++(⟨vc⟩:Array Value)=⟨vf++args.toList.map a.eval++vc⟩:=by
       apply Array.ext';simp
      rw[this];exact s1 _ _
     rw[hrun,Oper.upon_enter];refine s2.mono ?_
     intro e w' he
     cases r with
     | val av ws=>
      obtain⟨v,Im',g',rfl,hL⟩:=he
      exact hval av ws v w' Im' g' rfl hL
     | pan av ws=>
      obtain⟨v,Im',g',rfl,hL⟩:=he
      exact hpan av ws v w' Im' g' rfl hL
   | _=>rw[hfv']at hfv;cases hfv
  ·rename_i r hr;exact absurd ⟨r,hr⟩ hyl
  ·cases h
 ·refine wpIn_of_wp hnd ?_
  unfold Oper.wp;by_cases hpa:∃ x,o.op=.panic x
  ·obtain⟨x,hx⟩:=hpa
   rw[hx]at h;simp only[opV]at h;have hv:=evArg_ok hf x
   unfold panA at h;split at h
   ·rename_i t v hxe
    cases h;rw[hxe]at hv
    cases hvv:a.eval x with
    | iface t' u=>
     rw[hvv]at hv
     have hrun:(execOp a.eval o).run P w=.halt (.panic (.iface t' u)) w:=by
      simp[execOp,hx,Instr.panic,hvv]
     rw[hrun,Oper.upon_panic];exact hpan _ _ _ w Im g rfl (LeftO.pure hH hv)
    | _=>rw[hvv]at hv;cases hv
   ·cases h
  ·have hr:∃ av ws,r=.val av ws:=by
    cases r with
    | val av ws=>exact⟨av,ws,rfl⟩
    | pan av ws=>
     exfalso
     revert h
     cases hop:o.op<;>simp only[opV]<;>intro h
     all_goals first
      | exact hpa ⟨_,hop⟩
      | exact vO_np h
      | exact newA_np h
      | exact newT_np h
      | exact storeA_np h
      | exact makeRA_np h
      | exact bsA_np h
      | exact assignA_np h
      | exact updA_np h
      | (cases h;done)
      | skip
     ·rename_i fn _ _;cases fn<;>cases h
     ·split at h
      ·unfold makeM at h;cases h
      ·cases h
     ·split at h
      ·exact vO_np h
      ·cases h
     ·split at h
      ·exact builtinA_np h
      ·rename_i hcc;exact hcall ⟨_,_,hop,hcc⟩
      ·cases h
   obtain⟨av,ws,rfl⟩:=hr
   obtain⟨v,w',Im',g',hrun,hL⟩:=op_plain hf hH hp h (fun c f hc hcf=>hcall ⟨c,f,hc,hcf⟩)
   have:=hval av ws v w' Im' g' rfl hL
   rcases hrun with hrun|⟨hrun,rfl⟩
   ·rw[hrun,Oper.upon_value];exact this
   ·rw[hrun,Oper.upon_skip];exact this
end
end Go.Ab
/- The abstract evaluator is right of regions. Conditions: the functions that are called are right. -/
namespace Go.Ab
open Go

theorem look_repl_same{d:Nat}{v:AV}:∀ {vs:List (Nat×AV)},has d vs=true→look d (repl d v vs)=some v
 | [],h=>by cases h
 | (j,u)::vs,h=>by
  simp only[has]at h;simp only[repl];by_cases hj:j=d
  ·simp[hj,look]
  ·rw[if_neg hj]at h ⊢;simp only[look,if_neg hj];exact look_repl_same h
theorem look_repl_ne{d k:Nat}{v:AV}(hk:k≠d):∀ {vs:List (Nat×AV)},look k (repl d v vs)=look k vs
 | []=>rfl
 | (j,u)::vs=>by
  simp only[repl];by_cases hj:j=d
  ·have:¬j=k:=fun h=>hk (h.symm.trans hj)
   simp[hj,look,Ne.symm hk]
  ·rw[if_neg hj];simp only[look];rw[look_repl_ne hk]
theorem look_none{k:Nat}:∀ {vs:List (Nat×AV)},has k vs=false→look k vs=none
 | [],_=>rfl
 | (j,u)::vs,h=>by
  simp only[has]at h;split at h
  ·cases h
  ·rename_i hj;simp only[look,if_neg hj];exact look_none h

theorem get_put(st:St)(d:Nat)(v:AV)(k:Nat):(st.put d v).get k=if k=d then v else st.get k:=by
 unfold St.put
 cases hh:has d st.vs with
 | true=>
  simp only[putK,St.get];by_cases hk:k=d
  ·subst hk;rw[look_repl_same hh];simp[getK]
  ·rw[look_repl_ne hk];simp[hk]
 | false=>
  simp only[putK,St.get];by_cases hk:k=d
  ·subst hk;rw[look_none hh];simp[getK,look]
  ·have:¬d=k:=fun h=>hk h.symm
   cases hl:look k st.vs<;>simp[getK,hk,look,this]

section
variable {P:Program}{Γ:Sem'}

structure SRel(P:Program)(w:World)(Im:Imm)(g:List Gh)(st:St)(a:Act)(nt:Nat):Prop where
 size:a.tmps.size=nt
 fr:FrameRep w Im g st a.tmps
 hr:HR P w Im g st.H

theorem FrameRep.ext{w w':World}{Im Im':Imm}{g g':List Gh}{st:St}{tmps:Array Value}(h:FrameRep w Im g st tmps)(e:Ext w Im g w' Im' g'):FrameRep w' Im' g' st tmps:=fun k=>(h k).ext e

theorem frame_put{w:World}{Im:Imm}{g:List Gh}{st:St}{tmps:Array Value}{d:Nat}{v:Value}{c:AV}(h:FrameRep w Im g st tmps)(hd:d<tmps.size)(hv:RepA w Im g v c):FrameRep w Im g (st.put d c) (tmps.setIfInBounds d v):=by
 intro k;rw[get_put]
 have hg:(tmps.setIfInBounds d v).getD k undef=if k=d then v else tmps.getD k undef:=by
  rw[Array.getD_eq_getD_getElem?,Array.getD_eq_getD_getElem?,Array.getElem?_setIfInBounds]
  by_cases hk:k=d
  ·subst hk;simp[hd]
  ·have:¬d=k:=fun h=>hk h.symm
   simp[hk,this]
 rw[hg];split
 ·exact hv
 ·exact h k

theorem wanted_ok{w:World}{Im:Imm}{g:List Gh}{st:St}{a:Act}(hf:FrameRep w Im g st a.tmps){ops:Array Oper}{o:Oper}{b:Bool}(h:guardA ops st o.guard=some b):Region.wanted o (yielded ops a.tmps)=b:=by
 unfold guardA at h;unfold Region.wanted;split at h
 ·rename_i hg;rw[hg];cases h;rfl
 ·rename_i j want hg;rw[hg];simp only
  unfold gD at h;split at h
  ·rename_i d hd;have hrep:=hf d
   unfold gK at h;split at h
   ·rename_i t ht;rw[ht]at hrep;have hv:=bool_inv hrep
    have ht':a.tmps[d]?=some (.bool t):=by
     rw[Array.getD_eq_getD_getElem?]at hv
     cases hx:a.tmps[d]? with
     | none=>rw[hx]at hv;cases hv
     | some x=>rw[hx]at hv;simp at hv;rw[hv]
    unfold yielded;rw[hd];simp only[Option.bind_some,ht']
    cases h
    cases t<;>cases want<;>rfl
   ·rename_i ht;rw[ht]at hrep
    cases h
    have hne:yielded ops a.tmps j=none:=by
     unfold yielded;rw[hd];simp only[Option.bind_some]
     cases hx:a.tmps[d]? with
     | none=>rfl
     | some x=>
      have:a.tmps.getD d undef=x:=by rw[Array.getD_eq_getD_getElem?,hx];rfl
      rw[this]at hrep
      cases hrep;rfl
    rw[hne];rfl
   ·cases h
  ·cases h

def posOf(ops:Array Oper)(i:Nat):Nat:=countC (ops.toList.take i)

def runIx(P:Program)(Γ:Sem')(ops:Array Oper)(n0:Nat):List Nat→RS→RS
 | [],r=>r
 | i::is,r=>runIx P Γ ops n0 is (match ops[i]? with
  | some o=>stepRS P Γ ops (n0+posOf ops i) o r
  | none=>r)

theorem runIx_pan{ops:Array Oper}{n0:Nat}{v:AV}{st:St}:∀ is,runIx P Γ ops n0 is (.pan v st)=.pan v st
 | []=>rfl
 | i::is=>by
  simp only[runIx]
  cases ops[i]?<;>exact runIx_pan is
theorem runIx_stuck{ops:Array Oper}{n0:Nat}:∀ is,runIx P Γ ops n0 is .stuck=.stuck
 | []=>rfl
 | i::is=>by
  simp only[runIx]
  cases ops[i]?<;>exact runIx_stuck is

theorem creates_le(o:Oper):creates o≤1:=by
 unfold creates
 split<;>first|(split<;>simp;done)|(simp;done)|(rename_i c _;cases c.callee with
  | builtin b=>cases b<;>simp
  | _=>simp)
theorem countC_append:∀ (xs ys:List Oper),countC (xs++ys)=countC xs+countC ys
 | [],ys=>by simp[countC]
 | x::xs,ys=>by simp only[List.cons_append,countC,countC_append xs ys];omega
theorem posOf_succ{ops:Array Oper}{i:Nat}{o:Oper}(h:ops[i]?=some o):posOf ops (i+1)=posOf ops i+creates o:=by
 unfold posOf;have h':ops.toList[i]?=some o:=by rw[Array.getElem?_toList];exact h
 rw[List.take_add_one,h',countC_append];simp[countC]
theorem posOf_mono{ops:Array Oper}{i j:Nat}(h:i≤j):posOf ops i≤posOf ops j:=by
 have e:=List.take_append_drop i (ops.toList.take j)
 rw[List.take_take,Nat.min_eq_left h]at e;have:=congrArg countC e
 rw[countC_append]at this;unfold posOf;omega
theorem posOf_ne{ops:Array Oper}{i j:Nat}{o o':Oper}(hi:ops[i]?=some o)(hj:ops[j]?=some o')(hne:i≠j)(h1:creates o=1)(h2:creates o'=1):posOf ops i≠posOf ops j:=by
 rcases Nat.lt_or_gt_of_ne hne with h|h
 ·have:=posOf_succ hi
  have:=posOf_mono (ops:=ops) (i:=i+1) (j:=j) h
  omega
 ·have:=posOf_succ hj
  have:=posOf_mono (ops:=ops) (i:=j+1) (j:=i) h
  omega

theorem ix_wp(hΓ:Sound P Γ){ro:Option Nat}{ops:Array Oper}{nt n0:Nat}(hd:∀ (i:Nat) (o:Oper) (d:Nat),ops[i]?=some o→o.dst=some d→d<nt) :
  ∀ (is:List Nat) (st:St) (a:Act) (w:World) (Im:Imm) (g:List Gh) (R:RS),runIx P Γ ops n0 is (.run st)=R→R≠.stuck→is.Nodup→SRel P w Im g st a nt →
  (∀ (i:Nat) (o:Oper),i∈is→ops[i]?=some o→creates o=1→g[n0+posOf ops i]?=some Gh.no)→∀ Q:Exit→Act→World→Prop,
  (∀ st' a' w' Im' g',R=.run st'→SRel P w' Im' g' st' a' nt→a'.defers=a.defers→Ext w Im g w' Im' g'→Q .normal a' w') →
  (∀ c st' v a' w' Im' g',R=.pan c st'→RepA w' Im' g' v c→SRel P w' Im' g' st' a' nt→a'.defers=a.defers→Ext w Im g w' Im' g'→Q (.panic [{ v,recovered:=false }]) a' w')→wpOpsIn (fen ro) 0 P ops Q is a w:=by
 intro is;induction is with
 | nil=>
  intro st a w Im g R hR _ _ hs _ Q hn _;exact hn st a w Im g hR.symm hs rfl (Ext.refl _ _ _)
 | cons i is ih=>
  intro st a w Im g R hR hns hnd hs hpos Q hn hpan;simp only[runIx]at hR;rw[List.nodup_cons]at hnd;unfold wpOpsIn
  cases ho:ops[i]? with
  | none=>
   rw[ho]at hR;exact ih st a w Im g R hR hns hnd.2 hs (fun j o' hj=>hpos j o' (by simp[hj])) Q hn hpan
  | some o=>
   rw[ho]at hR;simp only[stepRS]at hR
   cases hg:guardA ops st o.guard with
   | none=>
    rw[hg]at hR;simp only[opK]at hR;rw[runIx_stuck]at hR;exact absurd hR.symm hns
   | some b=>
    rw[hg]at hR;have hw:=wanted_ok hs.fr hg
    simp only[hw]
    cases b with
    | false=>
     simp only[Bool.false_eq_true,if_false];simp only[opK]at hR
     have hs':SRel P w Im g (st.putO o.dst (.tuple [])) (a.put o.dst undef) nt:=by
      cases hdst:o.dst with
      | none=>exact hs
      | some d=>
       refine⟨by simp[Act.put,hs.size],?_,?_⟩
       ·exact frame_put hs.fr (by rw[hs.size];exact hd i o d ho hdst) (.tuple [] [] rfl (fun _ _ _ h=>by simp at h))
       ·simp only[St.putO,St.put]
        cases has d st.vs<;>exact hs.hr
     refine⟨fun f _=>fen_fn ro f,ih _ _ w Im g R hR hns hnd.2 hs' (fun j o' hj=>hpos j o' (by simp[hj])) Q (fun st' a' w' Im' g' h1 h2 h3 h4=>hn st' a' w' Im' g' h1 h2 (h3.trans ?_) h4) (fun c st' v a' w' Im' g' h1 h2 h3 h4 h5=>hpan c st' v a' w' Im' g' h1 h2 h3 (h4.trans ?_) h5)⟩
     ·cases o.dst<;>rfl
     ·cases o.dst<;>rfl
    | true=>
     simp only[if_true];simp only[opK]at hR
     cases hop:opV P Γ (n0+posOf ops i) st o.type o.op with
     | none=>
      rw[hop]at hR;simp only[resK]at hR;rw[runIx_stuck]at hR;exact absurd hR.symm hns
     | some r=>
      rw[hop]at hR;refine op_wp hΓ hs.fr hs.hr (fun hc=>hpos i o (by simp) ho hc) hop ?_ ?_
      ·rintro av ws v w' Im' g' rfl hL
       simp only[resK]at hR
       have hs':SRel P w' Im' g' ((st.setH ws).putO o.dst av) (a.put o.dst v) nt:=by
        have hf':FrameRep w' Im' g' (st.setH ws) a.tmps:=hs.fr.ext hL.ext
        cases hdst:o.dst with
        | none=>exact⟨hs.size,hf',hL.hr⟩
        | some d=>
         refine⟨by simp[Act.put,hs.size],?_,?_⟩
         ·exact frame_put hf' (by rw[hs.size];exact hd i o d ho hdst) hL.rep
         ·simp only[St.putO,St.put]
          cases has d (st.setH ws).vs<;>exact hL.hr
       refine ih _ _ w' Im' g' R hR hns hnd.2 hs' (fun j o' hj ho' hc'=>?_) Q (fun st' a' w'' Im'' g'' h1 h2 h3 h4=>hn st' a' w'' Im'' g'' h1 h2 (h3.trans ?_) (hL.ext.trans h4)) (fun c st' v a' w'' Im'' g'' h1 h2 h3 h4 h5=>hpan c st' v a' w'' Im'' g'' h1 h2 h3 (h4.trans ?_) (hL.ext.trans h5))
       ·refine hL.no _ (fun hc=>?_) (hpos j o' (by simp[hj]) ho' hc')
        have hne:i≠j:=fun h=>hnd.1 (h▸hj)
        have:=posOf_ne ho ho' hne hc hc'
        omega
       ·cases o.dst<;>rfl
       ·cases o.dst<;>rfl
      ·rintro av ws v w' Im' g' rfl hL
       simp only[resK]at hR;rw[runIx_pan]at hR;exact hpan av (st.setH ws) v a w' Im' g' hR.symm hL.rep ⟨hs.size,hs.fr.ext hL.ext,hL.hr⟩ rfl hL.ext

theorem evOps_ix{ops:Array Oper}{n0:Nat}:∀ (l:List Oper) (k:Nat) (r:RS),ops.toList.drop k=l→evOps P Γ ops l (n0+posOf ops k) r=runIx P Γ ops n0 (List.range' k l.length) r:=by
 intro l;induction l with
 | nil=>intro k r _;rfl
 | cons o l ih=>
  intro k r h
  have hk:k<ops.toList.length:=by
   apply Nat.lt_of_not_le
   intro hle;rw[List.drop_of_length_le hle]at h
   cases h
  have hget:ops[k]?=some o:=by
   rw[List.drop_eq_getElem_cons hk]at h;simp only[List.cons.injEq]at h;rw[←Array.getElem?_toList,List.getElem?_eq_getElem hk,h.1]
  have hdrop:ops.toList.drop (k+1)=l:=by
   rw[List.drop_eq_getElem_cons hk]at h;simp only[List.cons.injEq]at h;exact h.2
  simp only[evOps,List.length_cons,List.range'_succ,runIx,hget];rw[←ih (k+1) _ hdrop,posOf_succ hget,Nat.add_assoc]

theorem evOps_range{ops:Array Oper}{n0:Nat}{r:RS}:evOps P Γ ops ops.toList n0 r=runIx P Γ ops n0 (List.range ops.size) r:=by
 have:=evOps_ix (P:=P) (Γ:=Γ) (ops:=ops) (n0:=n0) ops.toList 0 r (by simp)
 rw[List.range_eq_range',←Array.length_toList,←this];simp[posOf,countC]

theorem ready_ok{w:World}{Im:Imm}{g:List Gh}{st:St}{a:Act}{nt:Nat}(h:SRel P w Im g st a nt)(n:Nat) :
  SRel P w Im (g++List.replicate n .no) (st.ready n) a nt∧Ext w Im g w Im (g++List.replicate n .no)∧∀ k,k<n→(g++List.replicate n Gh.no)[st.H.length+k]?=some Gh.no:=by
 have hold:∀ (r:Nat) (x:Gh),g[r]?=some x→(g++List.replicate n Gh.no)[r]?=some x:=fun r x hr=>by
  rw[List.getElem?_append_left (List.getElem?_eq_some_iff.1 hr).1];exact hr
 have hwhich:∀ (r:Nat) (x:Gh),(g++List.replicate n Gh.no)[r]?=some x→g[r]?=some x∨x=.no:=by
  intro r x hr;by_cases hl:r<g.length
  ·rw[List.getElem?_append_left hl]at hr;exact .inl hr
  ·rw[List.getElem?_append_right (by omega),List.getElem?_replicate]at hr
   split at hr
   ·cases hr;exact .inr rfl
   ·cases hr
 have howns:∀ k,Owns (g++List.replicate n Gh.no) k→Owns g k:=by
  rintro k ⟨r,x,hr,hx⟩
  rcases hwhich r x hr with h'|rfl
  ·exact⟨r,x,h',hx⟩
  ·exact hx.elim
 have e:Ext w Im g w Im (g++List.replicate n .no):=⟨rfl,rfl,rfl,Nat.le_refl _,fun _ _ h=>h,fun _ _ _=>rfl,fun _ _ _=>rfl,fun _ _ h=>.inl h,fun k hk=>.inl (howns k hk),
  ⟨fun r b hr=>hold r _ hr,fun r ep esz base len cap hr=>⟨ep,base,len,cap,hold r _ hr,Nat.le_refl _,fun _=>⟨rfl,rfl,rfl⟩⟩,fun r l T hr=>⟨T,hold r _ hr⟩,fun r b row hr=>⟨row,hold r _ hr⟩,fun r bs hr=>⟨[],by rw[List.append_nil];exact hold r _ hr⟩⟩⟩
 have hHwhich:∀ (r:Nat) (o:AObj),(st.H++List.replicate n AObj.no)[r]?=some o→st.H[r]?=some o∨o=.no:=by
  intro r o hr;by_cases hl:r<st.H.length
  ·rw[List.getElem?_append_left hl]at hr;exact .inl hr
  ·rw[List.getElem?_append_right (by omega),List.getElem?_replicate]at hr
   split at hr
   ·cases hr;exact .inr rfl
   ·cases hr
 refine⟨⟨h.size,fun k=>?_,?_⟩,e,fun k hk=>?_⟩
 ·have:=(h.fr k).ext e
  simp only[St.get,St.ready]at this ⊢
  cases hl:look k st.vs with
  | some v=>rw[hl]at this;exact this
  | none=>simp only[getK,look,Option.getD_none];exact .any _
 ·refine⟨by simp[St.ready,h.hr.len],fun r cs hr=>?_,fun r ep sz hr=>?_,fun r ep sz cs hr=>?_,fun r es hr=>?_,fun r stop m rest hr=>?_,fun r acc hr=>?_,fun r r' k x x' hne hr hr' hx hx'=>?_,fun k hk=>h.hr.lt k (howns k hk),h.hr.im,h.hr.tab,fun r t cs hr=>?_,?_⟩
  ·rcases hHwhich r _ hr with hr|hr
   ·obtain⟨b,hb,hob⟩:=h.hr.cells r cs hr
    exact⟨b,hold r _ hb,hob.ext e rfl (fun _ h=>h)⟩
   ·cases hr
  ·rcases hHwhich r _ hr with hr|hr
   ·obtain⟨base,len,cap,h1,h2⟩:=h.hr.grow r ep sz hr
    exact⟨base,len,cap,hold r _ h1,h2⟩
   ·cases hr
  ·rcases hHwhich r _ hr with hr|hr
   ·obtain⟨base,cap,k1,k2,k3,k4⟩:=h.hr.stk r ep sz cs hr
    refine⟨base,cap,hold r _ k1,k2,k3,fun b hb hc=>?_⟩
    obtain⟨vs,t,j1,j2,j3,j4,j5,j6⟩:=k4 b hb hc
    exact⟨vs,t,j1,j2,j3,fun i v c hv hc=>(j4 i v c hv hc).ext e,j5,j6⟩
   ·cases hr
  ·rcases hHwhich r _ hr with hr|hr
   ·obtain⟨b,hb,hob⟩:=h.hr.mapo r es hr
    exact⟨b,hold r _ hb,hob.ext e.hm e.gle rfl (fun _ h=>h)⟩
   ·cases hr
  ·rcases hHwhich r _ hr with hr|hr
   ·obtain⟨l,T,h1,h2⟩:=h.hr.log r stop m rest hr
    exact⟨l,T,hold r _ h1,h2⟩
   ·cases hr
  ·rcases hHwhich r _ hr with hr|hr
   ·exact h.hr.gen r acc hr
   ·cases hr
  ·rcases hwhich r x hr with hr|rfl
   ·rcases hwhich r' x' hr' with hr'|rfl
    ·exact h.hr.sep r r' k x x' hne hr hr' hx hx'
    ·exact hx'.elim
   ·exact hx.elim
  ·rcases hHwhich r _ hr with hr|hr
   ·obtain⟨b,row,hb,hb2⟩:=h.hr.box r t cs hr
    exact⟨b,row,hold r _ hb,hb2⟩
   ·cases hr
  ·refine⟨fun bs hr=>?_,fun bs hr=>?_,fun r bs hr=>?_,fun r x hr=>?_,fun ho r x hr=>?_⟩
   ·rcases hHwhich 0 _ hr with hr|hr
    ·obtain⟨blks,k1,k2,k3,k4⟩:=h.hr.rg.at_ bs hr
     exact⟨blks,hold 0 _ k1,k2,k3,fun k b cs hk hc=>(k4 k b cs hk hc).ext e rfl (fun _ h=>h)⟩
    ·cases hr
   ·rcases hHwhich 0 _ hr with hr|hr
    ·exact h.hr.rg.no bs hr
    ·cases hr
   ·rcases hHwhich r _ hr with hr|hr
    ·exact h.hr.rg.only r bs hr
    ·cases hr
   ·rcases hwhich r _ hr with hr|hr
    ·obtain⟨h0,bs,hb⟩:=h.hr.rg.back r x hr
     refine⟨h0,bs,?_⟩
     show(st.H++List.replicate n AObj.no)[0]?=_
     rw[List.getElem?_append_left (List.getElem?_eq_some_iff.1 hb).1]
     exact hb
    ·cases hr
   ·rcases hwhich r _ hr with hr|hr
    ·exact h.hr.rg.off ho r x hr
    ·cases hr
 ·rw[List.getElem?_append_right (by rw[h.hr.len];omega),List.getElem?_replicate,h.hr.len,if_pos (by omega)]

theorem posOf_lt{ops:Array Oper}{i:Nat}{o:Oper}(h:ops[i]?=some o)(hc:creates o=1):posOf ops i<countC ops.toList:=by
 have h1:=posOf_succ h
 have hi:i<ops.size:=(Array.getElem?_eq_some_iff.1 h).1
 have h2:=posOf_mono (ops:=ops) (i:=i+1) (j:=ops.size) hi
 have h3:posOf ops ops.size=countC ops.toList:=by unfold posOf;rw[List.take_of_length_le (by simp)]
 omega
end
end Go.Ab
