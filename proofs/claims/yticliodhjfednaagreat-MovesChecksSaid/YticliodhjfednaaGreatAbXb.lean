/- The evaluator is right of loops and functions. Conditions: none. -/
import Derived.Test.YticliodhjfednaaGreatAbX3
import Derived.LoopNIn
import Derived.LoopIn
import Derived.Scope
import Derived.Sort.LoopGhostIn
import Derived.RangeFuncLeaves
/- A range over a function is right. Conditions: the functions that are called are right. -/
namespace Go.Ab
open Go

theorem rgK_ok{w:World}{Im:Imm}{g:List Gh}{H:List AObj}(h:RegOk w Im g H){n:Nat}{b:Bool}(hk:rgK n b hasReg=true)(hb:b=true):∀ bs,g[0]?=some (.reg bs)→(g.take n)[0]?=some (.reg bs):=by
 intro bs hg
 cases hr:hasReg with
 | false=>exact absurd hg (h.off hr 0 bs)
 | true=>
  rw[hr,hb]at hk;simp only[rgK,Bool.not_true,Bool.or_false,decide_eq_true_eq]at hk;rw[List.getElem?_take,if_pos hk];exact hg
theorem hasRpV_at:∀ {vs:List (Nat×AV)} {k:Nat} {v:AV},look k vs=some v→hasRp v=true→hasRpV vs=true
 | [],k,v,h,_=>by simp[look]at h
 | (j,u)::vs,k,v,h,hv=>by
  simp only[look]at h;simp only[hasRpV,Bool.or_eq_true];split at h
  ·cases h;exact .inl hv
  ·exact .inr (hasRpV_at h hv)
theorem RegOk.noreg{w:World}{Im:Imm}{g:List Gh}{H:List AObj}(h:RegOk w Im g H)(ho:hasReg=false):(∀ (r:Nat) (bs:List (List AV)),H[r]?≠some (.reg bs))∧∀ (r:Nat) (x:List Nat),g[r]?≠some (.reg x):=by
 refine⟨fun r bs hr=>?_,h.off ho⟩
 have:=h.only r bs hr
 subst this;obtain⟨blks,hb,_⟩:=h.at_ bs hr
 exact h.off ho 0 blks hb
theorem noRegH_at:∀ {H:List AObj},noRegH H=true→∀ (r:Nat) (bs:List (List AV)),H[r]?≠some (.reg bs)
 | [],_,r,bs,h=>by simp at h
 | o::H,hn,0,bs,h=>by
  simp only[List.getElem?_cons_zero,Option.some.injEq]at h
  subst h;simp[noRegH,isRegO]at hn
 | o::H,hn,r+1,bs,h=>by
  simp only[noRegH,Bool.and_eq_true]at hn;rw[List.getElem?_cons_succ]at h
  exact noRegH_at hn.2 r bs h
theorem RegOk.nore{w:World}{Im:Imm}{g:List Gh}{H:List AObj}(h:RegOk w Im g H)(ho:rgNo H hasReg=true):(∀ (r:Nat) (bs:List (List AV)),H[r]?≠some (.reg bs))∧∀ (r:Nat) (x:List Nat),g[r]?≠some (.reg x):=by
 cases hr:hasReg with
 | false=>exact h.noreg hr
 | true=>
  rw[hr]at ho;have k:=noRegH_at ho
  refine⟨k,fun r x hx=>?_⟩
  obtain⟨_,bs,hb⟩:=h.back r x hx
  exact k 0 bs hb
theorem RegOk.none{w:World}{Im:Imm}{g:List Gh}{H:List AObj}(hH:∀ (r:Nat) (bs:List (List AV)),H[r]?≠some (.reg bs))(hg:∀ (r:Nat) (x:List Nat),g[r]?≠some (.reg x)):RegOk w Im g H:=
 ⟨fun bs h=>absurd h (hH 0 bs),fun bs h=>absurd h (hH 0 bs),fun r bs h=>absurd h (hH r bs),fun r x h=>absurd h (hg r x),fun _ r x=>hg r x⟩
theorem HR.first{P:Program}{w:World}{Im:Imm}{g:List Gh}{H:List AObj}(h:HR P w Im g H)(n:Nat)(hr:∀ (i:Nat) (o:AObj),i<n→H[i]?=some o→∀ r,r∈refsO o→r<n):HR P w Im (g.take n) (H.take n):=by
 have hg:∀ (r:Nat) (x:Gh),r<n→g[r]?=some x→(g.take n)[r]?=some x:=fun r x hr hx=>by rw[List.getElem?_take,if_pos hr];exact hx
 have hg':∀ (r:Nat) (x:Gh),(g.take n)[r]?=some x→r<n∧g[r]?=some x:=fun r x hx=>by
  rw[List.getElem?_take]at hx
  split at hx
  ·exact⟨by assumption,hx⟩
  ·cases hx
 have hH':∀ (r:Nat) (o:AObj),(H.take n)[r]?=some o→r<n∧H[r]?=some o:=fun r x hx=>by
  rw[List.getElem?_take]at hx
  split at hx
  ·exact⟨by assumption,hx⟩
  ·cases hx
 refine⟨by simp[h.len],fun r cs hc=>?_,fun r ep sz hc=>?_,fun r ep sz cs hc=>?_,fun r es hc=>?_,fun r stop m rest hc=>?_,fun r acc hc=>h.gen r acc (hH' r _ hc).2,fun r r' k x x' hne hx hx'=>h.sep r r' k x x' hne (hg' r x hx).2 (hg' r' x' hx').2,fun k ⟨r,x,hx,hk⟩=>h.lt k ⟨r,x,(hg' r x hx).2,hk⟩,h.im,h.tab,fun r t cs hc=>?_,?_⟩
 ·obtain⟨hlt,hc⟩:=hH' r _ hc
  obtain⟨b,hb,vs,t,h1,h2,h3,h4,h5⟩:=h.cells r cs hc
  refine⟨b,hg r _ hlt hb,vs,t,h1,h2,fun i v c hv hc'=>(h3 i v c hv hc').fewer (fun q x hq hx=>hg q x (hr r _ hlt hc q ?_) hx) (fun bs _ hb=>by rw[List.getElem?_take,if_pos (Nat.lt_of_le_of_lt (Nat.zero_le _) hlt)];exact hb),h4,h5⟩
  simp only[refsO,List.mem_flatten,List.mem_map];exact⟨_,⟨c,List.mem_of_getElem? hc',rfl⟩,hq⟩
 ·obtain⟨hlt,hc⟩:=hH' r _ hc
  obtain⟨base,len,cap,h1,h2⟩:=h.grow r ep sz hc
  exact⟨base,len,cap,hg r _ hlt h1,h2⟩
 ·obtain⟨hlt,hc⟩:=hH' r _ hc
  obtain⟨base,cap,k1,k2,k3,k4⟩:=h.stk r ep sz cs hc
  refine⟨base,cap,hg r _ hlt k1,k2,k3,fun b hb hcap=>?_⟩
  obtain⟨vs,t,j1,j2,j3,j4,j5,j6⟩:=k4 b hb hcap
  refine⟨vs,t,j1,j2,j3,fun i v c hv hc'=>(j4 i v c hv hc').fewer (fun q x hq hx=>hg q x (hr r _ hlt hc q ?_) hx) (fun bs _ hb=>by rw[List.getElem?_take,if_pos (Nat.lt_of_le_of_lt (Nat.zero_le _) hlt)];exact hb),j5,j6⟩
  simp only[refsO,List.mem_flatten,List.mem_map];exact⟨_,⟨c,List.mem_of_getElem? hc',rfl⟩,hq⟩
 ·obtain⟨hlt,hc⟩:=hH' r _ hc
  obtain⟨b,hb,l,ck,h1,h2,h3,h4⟩:=h.mapo r es hc
  refine⟨b,hg r _ hlt hb,l,ck,h1,h2,fun i e x he hx=>?_,h4⟩
  have hq:∀ q,q∈refs x.1∨q∈refs x.2→q<n:=fun q hq=>hr r _ hlt hc q (mem_refsM (List.mem_of_getElem? hx) hq)
  exact⟨(h3 i e x he hx).1.fewer (fun q y hy hgy=>hg q y (hq q (.inl hy)) hgy) (fun bs _ hb=>by rw[List.getElem?_take,if_pos (Nat.lt_of_le_of_lt (Nat.zero_le _) hlt)];exact hb),(h3 i e x he hx).2.fewer (fun q y hy hgy=>hg q y (hq q (.inr hy)) hgy) (fun bs _ hb=>by rw[List.getElem?_take,if_pos (Nat.lt_of_le_of_lt (Nat.zero_le _) hlt)];exact hb)⟩
 ·obtain⟨hlt,hc⟩:=hH' r _ hc
  obtain⟨l,T,h1,h2⟩:=h.log r stop m rest hc
  exact⟨l,T,hg r _ hlt h1,h2⟩
 ·obtain⟨hlt,hc⟩:=hH' r _ hc
  obtain⟨b,row,hb,hb2⟩:=h.box r t cs hc
  exact⟨b,row,hg r _ hlt hb,hb2⟩
 ·refine⟨fun bs hc=>?_,fun bs hc=>h.rg.no bs (hH' 0 _ hc).2,fun r bs hc=>h.rg.only r bs (hH' r _ hc).2,fun r x hx=>?_,fun ho r x hx=>h.rg.off ho r x (hg' r _ hx).2⟩
  ·obtain⟨hlt,hc⟩:=hH' 0 _ hc
   obtain⟨blks,k1,k2,k3,k4⟩:=h.rg.at_ bs hc
   refine⟨blks,hg 0 _ hlt k1,k2,k3,fun k b cs hk hc'=>?_⟩
   obtain⟨vs,t,h1,h2,h3,h4,h5⟩:=k4 k b cs hk hc'
   exact⟨vs,t,h1,h2,fun i v c hv hcc=>(h3 i v c hv hcc).fewer (fun q x hq _=>by rw[h.rg.no bs hc cs (List.mem_of_getElem? hc') c (List.mem_of_getElem? hcc)]at hq;cases hq) (fun bs' _ hb=>hg 0 _ hlt hb),h4,h5⟩
  ·obtain⟨hlt,hx⟩:=hg' r _ hx
   obtain⟨h0,bs,hb⟩:=h.rg.back r x hx
   refine⟨h0,bs,?_⟩
   rw[List.getElem?_take,if_pos (by omega)];exact hb

theorem SRel.clear{P:Program}{w:World}{Im:Imm}{g:List Gh}{st:St}{a:Act}{nt:Nat}(h:SRel P w Im g st a nt):SRel P w Im g st.clear a nt:=by
 refine⟨h.size,fun k=>?_,h.hr⟩
 have:=h.fr k
 simp only[St.get,St.clear]at this ⊢
 cases hl:look k st.vs with
 | some v=>rw[hl]at this;exact this
 | none=>simp only[getK,look,Option.getD_none];exact .any _

theorem refsH_at{n:Nat}:∀ {H:List AObj},refsOk n (refsH H)=true→∀ (i:Nat) (o:AObj),H[i]?=some o→∀ r,r∈refsO o→r<n
 | [],_,i,o,h,_,_=>by simp at h
 | o'::H,hk,i,o,h,r,hr=>by
  simp only[refsOk,refsH,List.all_append,Bool.and_eq_true]at hk
  cases i with
  | zero=>
   simp at h;subst h;simpa using List.all_eq_true.1 hk.1 r hr
  | succ i=>exact refsH_at (H:=H) hk.2 i o (by simpa using h) r hr
theorem refsV_at{n:Nat}:∀ {vs:List (Nat×AV)},refsOk n (refsV vs)=true→∀ (k:Nat) (v:AV),look k vs=some v→∀ r,r∈refs v→r<n
 | [],_,k,v,h,_,_=>by simp[look]at h
 | (j,u)::vs,hk,k,v,h,r,hr=>by
  simp only[refsOk,refsV,List.all_append,Bool.and_eq_true]at hk;simp only[look]at h;split at h
  ·cases h;simpa using List.all_eq_true.1 hk.1 r hr
  ·exact refsV_at (vs:=vs) hk.2 k v h r hr
theorem look_forget{fs:List Nat}{k:Nat}:∀ {vs:List (Nat×AV)} {v:AV},look k (forget fs vs)=some v→v=.any∨look k vs=some v
 | [],v,h=>by simp[forget,look]at h
 | (j,u)::vs,v,h=>by
  simp only[forget,look]at h ⊢;split at h
  ·rename_i hj;rw[if_pos hj]
   cases h;split
   ·exact .inl rfl
   ·exact .inr rfl
  ·rename_i hj;rw[if_neg hj];exact look_forget h

theorem wk_ok{P:Program}{w:World}{Im:Imm}{g:List Gh}{st st1:St}{a:Act}{nt n:Nat}{fs:List Nat}(h:SRel P w Im g st a nt)(hk:wk n fs st=some st1):SRel P w Im (g.take n) st1 a nt:=by
 unfold wk wk' wkK at hk;split at hk
 ·rename_i hr
  cases hk;simp only[Bool.and_eq_true]at hr
  refine⟨h.size,fun k=>?_,?_⟩
  ·have:=h.fr k
   simp only[St.get]at this ⊢
   cases hl:look k (forget fs st.vs)with
   | none=>simp only[getK,look,Option.getD_none];exact .any _
   | some v=>
    simp only[getK];rcases look_forget hl with rfl|hl'
    ·exact .any _
    ·rw[hl']at this;simp only[getK]at this;exact this.fewer (fun r x hr' hx=>by rw[List.getElem?_take,if_pos (refsV_at hr.1.1 k v hl r hr')];exact hx) (fun bs hh=>rgK_ok h.hr.rg hr.2 (hasRpV_at hl hh) bs)
  ·exact h.hr.first n (fun i o hi ho r hr'=>refsH_at hr.1.2 i o (by rw[List.getElem?_take,if_pos hi];exact ho) r hr')
 ·cases hk


section
variable {P:Program}{w:World}{Im:Imm}{g:List Gh}{H:List AObj}

def mark(r:Nat):Deferred:={ target:=.collected r,args:=#[] }
def MarkAt(n0:Nat)(w:World)(Im:Imm)(g:List Gh)(r:Nat):Prop:=n0≤r∧w.heap[r]?=some (.deferred (some []))∧¬Owns g r∧∀ o,¬Im r o
def Marks(n0:Nat)(w:World)(Im:Imm)(g:List Gh)(base ds:List Deferred):Prop:=∃ rs:List Nat,ds=rs.map mark++base∧rs.Nodup∧∀ r,r∈rs→MarkAt n0 w Im g r
theorem MarkAt.ext{n0 r:Nat}{w':World}{Im':Imm}{g':List Gh}(h:MarkAt n0 w Im g r)(e:Ext w Im g w' Im' g'):MarkAt n0 w' Im' g' r:=by
 obtain⟨k2,k3,k4,k5⟩:=h
 have hr:r<w.heap.size:=(Array.getElem?_eq_some_iff.1 k3).1
 refine⟨k2,(e.frame r hr k4).trans k3,fun ho=>?_,fun o ho=>?_⟩
 ·rcases e.newg r ho with h|h
  ·exact k4 h
  ·omega
 ·rcases e.new r o ho with h|h|h
  ·exact k5 o h
  ·omega
  ·exact k4 h
theorem Marks.ext{n0:Nat}{w':World}{Im':Imm}{g':List Gh}{base ds:List Deferred}(h:Marks n0 w Im g base ds)(e:Ext w Im g w' Im' g'):Marks n0 w' Im' g' base ds:=by
 obtain⟨rs,h1,h2,h3⟩:=h
 exact⟨rs,h1,h2,fun r hr=>(h3 r hr).ext e⟩
theorem Marks.refl(n0:Nat)(w:World)(Im:Imm)(g:List Gh)(base:List Deferred):Marks n0 w Im g base base:=⟨[],rfl,List.nodup_nil,fun d hd=>by simp at hd⟩

def Ends(P:Program)(n0:Nat)(base:List Deferred)(w:World)(Im:Imm)(g:List Gh)(nt:Nat)(Q:Exit→Act→World→Prop):RC→Prop
 | .go st'=>∀ a' w' Im' g',SRel P w' Im' g' st' a' nt→Marks n0 w' Im' g' base a'.defers→Ext w Im g w' Im' g'→Q .normal a' w'
 | .ex (.exit id) st'=>∀ a' w' Im' g',SRel P w' Im' g' st' a' nt→Marks n0 w' Im' g' base a'.defers→Ext w Im g w' Im' g'→Q (.exit id) a' w'
 | .ex .ret st'=>∀ a' w' Im' g',SRel P w' Im' g' st' a' nt→Marks n0 w' Im' g' base a'.defers→Ext w Im g w' Im' g'→Q .ret a' w'
 | .ex (.pan c) st'=>∀ v a' w' Im' g',RepA w' Im' g' v c→SRel P w' Im' g' st' a' nt→Marks n0 w' Im' g' base a'.defers→Ext w Im g w' Im' g'→Q (.panic [{ v,recovered:=false }]) a' w'
 | .stuck=>False

theorem Ends.later{n0:Nat}{base:List Deferred}{w w':World}{Im Im':Imm}{g g':List Gh}{nt:Nat}{Q:Exit→Act→World→Prop}{R:RC}(h:Ends P n0 base w Im g nt Q R)(e:Ext w Im g w' Im' g'):Ends P n0 base w' Im' g' nt Q R:=by
 cases R with
 | go st=>exact fun b u J k h1 h2 h3=>h b u J k h1 h2 (e.trans h3)
 | ex x st=>
  cases x with
  | exit id=>exact fun b u J k h1 h2 h3=>h b u J k h1 h2 (e.trans h3)
  | ret=>exact fun b u J k h1 h2 h3=>h b u J k h1 h2 (e.trans h3)
  | pan c=>exact fun v b u J k h1 h2 h3 h4=>h v b u J k h1 h2 h3 (e.trans h4)
 | stuck=>exact h

theorem frame_mask{st:St}{tmps:Array Value}(h:FrameRep w Im g st tmps){ρ:List Nat}{g':List Gh}(hg:∀ (r:Nat) (x:Gh),r∉ρ→g[r]?=some x→g'[r]?=some x)(hz:∀ bs,g[0]?=some (.reg bs)→g'[0]?=some (.reg bs))(H':List AObj):FrameRep w Im g' ⟨maskV ρ st.vs,[],H'⟩ tmps:=by
 intro k;have hk:=h k
 simp only[St.get]at hk ⊢
 have hlook:∀ vs:List (Nat×AV),look k (maskV ρ vs)=none∨look k (maskV ρ vs)=some .any∨(look k (maskV ρ vs)=look k vs∧∀ v,look k vs=some v→∀ r,r∈refs v→r∉ρ):=by
  intro vs;induction vs with
  | nil=>exact .inl rfl
  | cons p vs ih=>
   obtain⟨j,v⟩:=p
   simp only[maskV,look];by_cases hj:j=k
   ·rw[if_pos hj,if_pos hj]
    cases hb:hitB ρ (refs v)with
    | true=>exact .inr (.inl rfl)
    | false=>
     refine .inr (.inr ⟨rfl,fun u hu r hr hm=>?_⟩)
     cases hu;unfold hitB at hb
     rw[List.any_eq_false]at hb;exact absurd (decide_eq_true hm) (by simpa using hb r hr)
   ·rw[if_neg hj,if_neg hj];exact ih
 rcases hlook st.vs with h1|h1|⟨h1,h2⟩
 ·rw[h1];simp only[getK,look,Option.getD_none];exact .any _
 ·rw[h1];exact .any _
 ·rw[h1]
  cases hl:look k st.vs with
  | none=>simp only[getK,look,Option.getD_none];exact .any _
  | some v=>
   rw[hl]at hk;simp only[getK]at hk ⊢;exact hk.fewer (fun r x hr hx=>hg r x (h2 v hl r hr) hx) (fun bs _=>hz bs)

def maskG(ρ:List Nat)(g:List Gh):List Gh:=(List.range g.length).map fun r=>if r∈ρ then .no else g.getD r .no
theorem maskG_len(ρ:List Nat)(g:List Gh):(maskG ρ g).length=g.length:=by simp[maskG]
theorem maskG_at{ρ:List Nat}{g:List Gh}{r:Nat}:(maskG ρ g)[r]?=if r<g.length then some (if r∈ρ then .no else g.getD r .no)else none:=by
 unfold maskG;rw[List.getElem?_map]
 by_cases h:r<g.length
 ·rw[if_pos h,List.getElem?_range h];rfl
 ·rw[if_neg h,List.getElem?_eq_none (by simpa using h)];rfl
theorem maskG_not{ρ:List Nat}{g:List Gh}{r:Nat}(hr:r∉ρ):(maskG ρ g)[r]?=g[r]?:=by
 rw[maskG_at,if_neg hr];by_cases h:r<g.length
 ·rw[if_pos h,List.getD_eq_getElem?_getD,List.getElem?_eq_getElem h];rfl
 ·rw[if_neg h];exact(List.getElem?_eq_none (by omega)).symm
theorem maskG_some{ρ:List Nat}{g:List Gh}{r:Nat}{x:Gh}(h:(maskG ρ g)[r]?=some x):x=.no∨(r∉ρ∧g[r]?=some x):=by
 by_cases hr:r∈ρ
 ·rw[maskG_at,if_pos hr]at h;split at h
  ·cases h;exact .inl rfl
  ·cases h
 ·rw[maskG_not hr]at h;exact .inr ⟨hr,h⟩

theorem nore_Z(hH:HR P w Im g H){ρ:List Nat}{as:List AV}(ho:rgNo H hasReg=true):RgZ g H ρ as:=⟨fun _ _ _ bs hb=>absurd hb ((hH.rg.nore ho).2 0 bs),fun _ _ _ bs hb=>absurd hb ((hH.rg.nore ho).2 0 bs)⟩
theorem hr_mask(hH:HR P w Im g H){ρ:List Nat}(hρ:∀ r,r∈ρ→r<H.length)(hit:hitB ρ (refsH (setOs H (noes ρ)))=false)(hoff:rgNo H hasReg=true):HR P w Im (maskG ρ g) (setOs H (noes ρ)):=by
 obtain⟨s1,s2,s3⟩:=setOs_noes ρ H hρ
 have hg:∀ (r:Nat) (x:Gh),r∉ρ→g[r]?=some x→(maskG ρ g)[r]?=some x:=fun r x hr hx=>(maskG_not hr).trans hx
 have hobj:∀ (r:Nat) (o:AObj),(setOs H (noes ρ))[r]?=some o→o=.no∨(r∉ρ∧H[r]?=some o∧∀ q,q∈refsO o→q∉ρ):=by
  intro r o ho;by_cases hr:r∈ρ
  ·rw[s2 r hr]at ho;cases ho;exact .inl rfl
  ·refine .inr ⟨hr,by rw[←s3 r hr];exact ho,fun q hq hm=>?_⟩
   unfold hitB at hit;rw[List.any_eq_false]at hit
   have:∀ (l:List AObj) (i:Nat),l[i]?=some o→q∈refsH l:=by
    intro l;induction l with
    | nil=>intro i h;simp at h
    | cons a l ih=>
     intro i h;simp only[refsH,List.mem_append]
     cases i with
     | zero=>simp at h;subst h;exact .inl hq
     | succ i=>exact .inr (ih i (by simpa using h))
   exact hit q (this _ r ho) (decide_eq_true hm)
 refine⟨by rw[maskG_len,s1,hH.len],fun r cs hr=>?_,fun r ep sz hr=>?_,fun r ep sz cs hr=>?_,fun r es hr=>?_,fun r stop n rest hr=>?_,fun r acc hr=>?_,fun r q k x y hne hr hq hx hy=>?_,fun k hk=>?_,hH.im,hH.tab,fun r t cs hr=>?_,?_⟩
 ·rcases hobj r _ hr with h|⟨h1,h2,h3⟩
  ·cases h
  ·obtain⟨b,hb,vs,t,k1,k2,k3,k4,k5⟩:=hH.cells r cs h2
   refine⟨b,hg r _ h1 hb,vs,t,k1,k2,fun i v c hv hc=>(k3 i v c hv hc).fewer (fun q x hq hx=>hg q x (h3 q ?_) hx) (fun bs _ hb=>absurd hb ((hH.rg.nore hoff).2 0 bs)),k4,k5⟩
   simp only[refsO,List.mem_flatten,List.mem_map];exact⟨_,⟨c,List.mem_of_getElem? hc,rfl⟩,hq⟩
 ·rcases hobj r _ hr with h|⟨h1,h2,h3⟩
  ·cases h
  ·obtain⟨base,len,cap,k1,k2⟩:=hH.grow r ep sz h2
   exact⟨base,len,cap,hg r _ h1 k1,k2⟩
 ·rcases hobj r _ hr with h|⟨h1,h2,h3⟩
  ·cases h
  ·obtain⟨base,cap,k1,k2,k3,k4⟩:=hH.stk r ep sz cs h2
   refine⟨base,cap,hg r _ h1 k1,k2,k3,fun b hb hcap=>?_⟩
   obtain⟨vs,t,j1,j2,j3,j4,j5,j6⟩:=k4 b hb hcap
   refine⟨vs,t,j1,j2,j3,fun i v c hv hc=>(j4 i v c hv hc).fewer (fun q x hq hx=>hg q x (h3 q ?_) hx) (fun bs _ hb=>absurd hb ((hH.rg.nore hoff).2 0 bs)),j5,j6⟩
   simp only[refsO,List.mem_flatten,List.mem_map];exact⟨_,⟨c,List.mem_of_getElem? hc,rfl⟩,hq⟩
 ·rcases hobj r _ hr with h|⟨h1,h2,h3⟩
  ·cases h
  ·obtain⟨b,hb,l,ck,k1,k2,k3,k4⟩:=hH.mapo r es h2
   refine⟨b,hg r _ h1 hb,l,ck,k1,k2,fun i e x he hx=>?_,k4⟩
   have hq:∀ q,q∈refs x.1∨q∈refs x.2→q∉ρ:=fun q hq=>h3 q (mem_refsM (List.mem_of_getElem? hx) hq)
   exact⟨(k3 i e x he hx).1.fewer (fun q y hy hgy=>hg q y (hq q (.inl hy)) hgy) (fun bs _ hb=>absurd hb ((hH.rg.nore hoff).2 0 bs)),(k3 i e x he hx).2.fewer (fun q y hy hgy=>hg q y (hq q (.inr hy)) hgy) (fun bs _ hb=>absurd hb ((hH.rg.nore hoff).2 0 bs))⟩
 ·rcases hobj r _ hr with h|⟨h1,h2,h3⟩
  ·cases h
  ·obtain⟨l,T,k1,k2⟩:=hH.log r stop n rest h2
   exact⟨l,T,hg r _ h1 k1,k2⟩
 ·rcases hobj r _ hr with h|⟨h1,h2,h3⟩
  ·cases h
  ·exact hH.gen r acc h2
 ·rcases maskG_some hr with rfl|⟨h1,h2⟩
  ·exact hx
  ·rcases maskG_some hq with rfl|⟨h3,h4⟩
   ·exact hy
   ·exact hH.sep r q k x y hne h2 h4 hx hy
 ·obtain⟨r,x,hr,hx⟩:=hk
  rcases maskG_some hr with rfl|⟨h1,h2⟩
  ·exact hx.elim
  ·exact hH.lt k ⟨r,x,h2,hx⟩
 ·rcases hobj r _ hr with h|⟨h1,h2,h3⟩
  ·cases h
  ·obtain⟨b,row,hb,hb2⟩:=hH.box r t cs h2
   exact⟨b,row,hg r _ h1 hb,hb2⟩
 ·obtain⟨n1,n2⟩:=hH.rg.nore hoff
  refine .none (fun r bs hr=>?_) (fun r x hr=>?_)
  ·rcases hobj r _ hr with h|⟨_,h2,_⟩
   ·cases h
   ·exact n1 r bs h2
  ·rcases maskG_some hr with h|⟨_,h2⟩
   ·cases h
   ·exact n2 r x h2
theorem owns_mask{ρ:List Nat}{k:Nat}(h:Owns (maskG ρ g) k):Owns g k:=by
 obtain⟨r,x,hr,hx⟩:=h
 rcases maskG_some hr with rfl|⟨h1,h2⟩
 ·exact hx.elim
 ·exact⟨r,x,h2,hx⟩

theorem hr_snoc(hH:HR P w Im g H){y:Yl}{T:Nat→Prop}{stop n:Nat}{rest:List (List AV)}(hL:LogAt P w Im y T stop n rest)(hs:∀ k,Owns g k→¬T k)(hT:∀ k,T k→k<w.heap.size):HR P w Im (g++[.yld y T]) (H++[.log stop n rest]):=by
 have hl:=hH.len
 have hg:∀ (r:Nat) (x:Gh),g[r]?=some x→(g++[Gh.yld y T])[r]?=some x:=fun r x hr=>by rw[List.getElem?_append_left (List.getElem?_eq_some_iff.1 hr).1];exact hr
 have hgle:GLe g (g++[.yld y T]):=⟨fun r b h=>hg r _ h,fun r ep esz base len cap h=>⟨ep,base,len,cap,hg r _ h,Nat.le_refl _,fun _=>⟨rfl,rfl,rfl⟩⟩,fun r y' T' h=>⟨T',hg r _ h⟩,fun r b row h=>⟨row,hg r _ h⟩,fun r bs h=>⟨[],by rw[List.append_nil];exact hg r _ h⟩⟩
 have hw:∀ (r:Nat) (x:Gh),(g++[Gh.yld y T])[r]?=some x→(r<g.length∧g[r]?=some x)∨(r=g.length∧x=.yld y T):=by
  intro r x hr;by_cases h:r<g.length
  ·rw[List.getElem?_append_left h]at hr;exact .inl ⟨h,hr⟩
  ·rw[List.getElem?_append_right (by omega)]at hr
   have h0:r-g.length=0:=by
    apply Nat.eq_zero_of_not_pos
    intro hp;rw[List.getElem?_eq_none (by simp;omega)]at hr
    cases hr
   rw[h0]at hr
   cases hr;exact .inr ⟨by omega,rfl⟩
 have ho:∀ (r:Nat) (o:AObj),(H++[AObj.log stop n rest])[r]?=some o→(H[r]?=some o)∨(r=H.length∧o=.log stop n rest):=by
  intro r o hr;by_cases h:r<H.length
  ·rw[List.getElem?_append_left h]at hr;exact .inl hr
  ·rw[List.getElem?_append_right (by omega)]at hr
   have h0:r-H.length=0:=by
    apply Nat.eq_zero_of_not_pos
    intro hp;rw[List.getElem?_eq_none (by simp;omega)]at hr
    cases hr
   rw[h0]at hr
   cases hr;exact .inr ⟨by omega,rfl⟩
 refine⟨by simp[hl],fun r cs hr=>?_,fun r ep sz hr=>?_,fun r ep sz cs hr=>?_,fun r es hr=>?_,fun r stop' n' rest' hr=>?_,fun r acc hr=>?_,fun r q k x x' hne hr hq hx hx'=>?_,fun k hk=>?_,hH.im,hH.tab,fun r t cs hr=>?_,?_⟩
 ·rcases ho r _ hr with h|⟨_,h⟩
  ·obtain⟨b,hb,vs,t,k1,k2,k3,k4,k5⟩:=hH.cells r cs h
   exact⟨b,hg r _ hb,vs,t,k1,k2,fun i v c hv hc=>(k3 i v c hv hc).ext' (fun _ _ h=>⟨h,rfl⟩) hgle,k4,k5⟩
  ·cases h
 ·rcases ho r _ hr with h|⟨_,h⟩
  ·obtain⟨base,len,cap,k1,k2⟩:=hH.grow r ep sz h
   exact⟨base,len,cap,hg r _ k1,k2⟩
  ·cases h
 ·rcases ho r _ hr with h|⟨_,h⟩
  ·obtain⟨base,cap,k1,k2,k3,k4⟩:=hH.stk r ep sz cs h
   refine⟨base,cap,hg r _ k1,k2,k3,fun b hb hcap=>?_⟩
   obtain⟨vs,t,j1,j2,j3,j4,j5,j6⟩:=k4 b hb hcap
   exact⟨vs,t,j1,j2,j3,fun i v c hv hc=>(j4 i v c hv hc).ext' (fun _ _ h=>⟨h,rfl⟩) hgle,j5,j6⟩
  ·cases h
 ·rcases ho r _ hr with h|⟨_,h⟩
  ·obtain⟨b,hb,l,ck,k1,k2,k3,k4⟩:=hH.mapo r es h
   exact⟨b,hg r _ hb,l,ck,k1,k2,fun i e x he hx=>⟨(k3 i e x he hx).1.ext' (fun _ _ h=>⟨h,rfl⟩) hgle,(k3 i e x he hx).2.ext' (fun _ _ h=>⟨h,rfl⟩) hgle⟩,k4⟩
  ·cases h
 ·rcases ho r _ hr with h|⟨h1,h2⟩
  ·obtain⟨y',T',k1,k2⟩:=hH.log r stop' n' rest' h
   exact⟨y',T',hg r _ k1,k2⟩
  ·cases h2;refine⟨y,T,?_,hL⟩
   rw[h1,←hl,List.getElem?_append_right (by omega)];simp
 ·rcases ho r _ hr with h|⟨_,h⟩
  ·exact hH.gen r acc h
  ·cases h
 ·rcases hw r x hr with⟨_,h1⟩|⟨h1,rfl⟩
  ·rcases hw q x' hq with⟨_,h2⟩|⟨h2,rfl⟩
   ·exact hH.sep r q k x x' hne h1 h2 hx hx'
   ·exact hs k ⟨r,x,h1,hx⟩ hx'
  ·rcases hw q x' hq with⟨_,h2⟩|⟨h2,rfl⟩
   ·exact hs k ⟨q,x',h2,hx'⟩ hx
   ·omega
 ·obtain⟨r,x,hr,hx⟩:=hk
  rcases hw r x hr with⟨_,h1⟩|⟨_,rfl⟩
  ·exact hH.lt k ⟨r,x,h1,hx⟩
  ·exact hT k hx
 ·rcases ho r _ hr with h|⟨_,h⟩
  ·obtain⟨b,row,hb,hb2⟩:=hH.box r t cs h
   exact⟨b,row,hg r _ hb,hb2⟩
  ·cases h
 ·refine⟨fun bs hr=>?_,fun bs hr=>?_,fun r bs hr=>?_,fun r x hr=>?_,fun hf r x hr=>?_⟩
  ·rcases ho 0 _ hr with h|⟨_,h⟩
   ·obtain⟨blks,k1,k2,k3,k4⟩:=hH.rg.at_ bs h
    refine⟨blks,hg 0 _ k1,k2,k3,fun k b cs hk hc=>?_⟩
    obtain⟨vs,t,j1,j2,j3,j4,j5⟩:=k4 k b cs hk hc
    exact⟨vs,t,j1,j2,fun i v c hv hc=>(j3 i v c hv hc).ext' (fun _ _ h=>⟨h,rfl⟩) hgle,j4,j5⟩
   ·cases h
  ·rcases ho 0 _ hr with h|⟨_,h⟩
   ·exact hH.rg.no bs h
   ·cases h
  ·rcases ho r _ hr with h|⟨_,h⟩
   ·exact hH.rg.only r bs h
   ·cases h
  ·rcases hw r _ hr with⟨_,h1⟩|⟨_,h1⟩
   ·obtain⟨h0,bs,hb⟩:=hH.rg.back r x h1
    exact⟨h0,bs,by rw[List.getElem?_append_left (List.getElem?_eq_some_iff.1 hb).1];exact hb⟩
   ·cases h1
  ·rcases hw r _ hr with⟨_,h1⟩|⟨_,h1⟩
   ·exact hH.rg.off hf r x h1
   ·cases h1

theorem hr_put(hH:HR P w Im g H){b:Nat}{o:Obj}(hno:¬Owns g b)(hi:∀ o,¬Im b o):HR P (w.putObj b o) Im g H:=by
 refine hH.go0 ⟨rfl,rfl,rfl⟩ (by simp) (fun b' i h=>⟨h,?_⟩) (GLe.refl g) hH.len (fun _=>False) (fun _ _=>⟨rfl,rfl⟩) (fun r x k _ hr hk=>⟨World.putObj_heap_other (fun h=>hno ⟨r,x,hr,h▸hk⟩),fun _ h=>h⟩)
  (fun _ _ h=>h.elim) (fun _ _ _ h=>h.elim) (fun _ _ h=>h.elim) (fun _ _ _ _ h=>h.elim) (fun _ _ h=>h.elim) (fun _ _ _ _ _ h=>h.elim) (fun _ _ _ h=>h.elim) (fun b' i h=>by simpa using hH.im b' i h)
 unfold World.cell?;simp only
 rw[World.putObj_heap_other (fun h':b'=b=>hi i (h'▸h))]
theorem rep_put{v:Value}{c:AV}{b:Nat}{o:Obj}(hi:∀ o,¬Im b o)(h:RepA w Im g v c):RepA (w.putObj b o) Im g v c:=by
 refine h.ext' (fun b' i h=>⟨h,?_⟩) (GLe.refl g)
 unfold World.cell?;simp only
 rw[World.putObj_heap_other (fun h':b'=b=>hi i (h'▸h))]
end
end Go.Ab
/- A range over a function,its rounds. Conditions: the code of the rounds is right. -/
namespace Go.Ab
open Go

def exF:Ex→Option Code
 | .exit id=>some (.exit id)
 | .ret=>some .ret
 | .pan _=>none

theorem keepH_inv{n:Nat}{H H':List AObj}(h:keepH n H=some H'):H'=H.take n∧refsOk n (refsH (H.take n))=true∧n≤H.length:=by
 unfold keepH keepK at h;split at h
 ·rename_i hr
  cases h;simp only[Bool.and_eq_true,decide_eq_true_eq]at hr
  exact⟨rfl,hr.1,hr.2⟩
 ·cases h

theorem rfFold_inv{f:List AV→List AObj→RC}{n np:Nat}:∀ (xs:List (List AV)) (k:Nat) (H:List AObj) (R:RF),rfFold f n np k xs H=R→R≠.stuck →
  ∃ HF:Nat→List AObj,HF 0=H ∧
   ((R=.done (HF xs.length)∧∀ (i:Nat) (x:List AV),xs[i]?=some x→x.length=np∧∃ st',f x (HF i)=.go st'∧keepH n st'.H=some (HF (i+1))) ∨
    ∃ (e:Ex) (j:Nat) (x:List AV),R=.left e (k+j) (HF (j+1))∧xs[j]?=some x∧x.length=np∧exF e≠none∧(∃ st',f x (HF j)=.ex e st'∧keepH n st'.H=some (HF (j+1))) ∧
     ∀ (i:Nat) (x:List AV),i<j→xs[i]?=some x→x.length=np∧∃ st',f x (HF i)=.go st'∧keepH n st'.H=some (HF (i+1)))
 | [],k,H,R,h,_=>⟨fun _=>H,rfl,.inl ⟨h.symm,fun i x hx=>by simp at hx⟩⟩
 | x::xs,k,H,R,h,hR=>by
  simp only[rfFold]at h;split at h
  ·rename_i hl
   cases hf:f x H with
   | go st'=>
    rw[hf]at h;simp only[rfK,rfNext]at h
    cases hk:keepH n st'.H with
    | none=>rw[hk]at h;exact absurd h.symm hR
    | some H'=>
     rw[hk]at h;obtain⟨HF,h0,hcase⟩:=rfFold_inv xs (k+1) H' R h hR
     refine⟨fun i=>match i with|0=>H|i+1=>HF i,rfl,?_⟩
     rcases hcase with⟨h1,h2⟩|⟨e,j,y,h1,h2,h3,h4,h5,h6⟩
     ·refine .inl ⟨h1,fun i z hz=>?_⟩
      cases i with
      | zero=>cases hz;exact⟨hl,st',hf,by rw[hk,←h0]⟩
      | succ i=>exact h2 i z hz
     ·refine .inr ⟨e,j+1,y,by rw[h1,Nat.add_assoc,Nat.add_comm 1 j],h2,h3,h4,h5,fun i z hi hz=>?_⟩
      cases i with
      | zero=>cases hz;exact⟨hl,st',hf,by rw[hk,←h0]⟩
      | succ i=>exact h6 i z (by omega) hz
   | ex e st'=>
    rw[hf]at h
    have key:∀ e',exF e'≠none→e=e'→rfLeft e' k (keepH n st'.H)=R→∃ HF:Nat→List AObj,HF 0=H ∧
      ((R=.done (HF (x::xs).length)∧∀ (i:Nat) (z:List AV),(x::xs)[i]?=some z→z.length=np∧∃ st',f z (HF i)=.go st'∧keepH n st'.H=some (HF (i+1))) ∨
       ∃ (e:Ex) (j:Nat) (z:List AV),R=.left e (k+j) (HF (j+1))∧(x::xs)[j]?=some z∧z.length=np∧exF e≠none∧(∃ st',f z (HF j)=.ex e st'∧keepH n st'.H=some (HF (j+1))) ∧
        ∀ (i:Nat) (z:List AV),i<j→(x::xs)[i]?=some z→z.length=np∧∃ st',f z (HF i)=.go st'∧keepH n st'.H=some (HF (i+1))):=by
     intro e' he hee hr;subst hee
     cases hk:keepH n st'.H with
     | none=>rw[hk]at hr;exact absurd hr.symm hR
     | some H'=>
      rw[hk]at hr;exact⟨fun i=>match i with|0=>H|_+1=>H',rfl,.inr ⟨e,0,x,hr.symm,rfl,hl,he,⟨st',hf,hk⟩,fun i z hi=>by omega⟩⟩
    cases e with
    | exit id=>exact key (.exit id) (by simp[exF]) rfl h
    | ret=>exact key .ret (by simp[exF]) rfl h
    | pan v=>exact absurd h.symm hR
   | stuck=>rw[hf]at h;exact absurd h.symm hR
  ·exact absurd h.symm hR

theorem zipP_H:∀ (ps:List Nat) (vs:List AV) (st:St),(zipP ps vs st).H=st.H
 | [],vs,st=>by simp[zipP]
 | p::ps,[],st=>by simp[zipP]
 | p::ps,v::vs,st=>by
  simp only[zipP];rw[zipP_H ps vs];simp only[St.put]
  cases has p st.vs<;>rfl

section
variable {P:Program}{w:World}{Im:Imm}{g:List Gh}

theorem frame_zip{nt:Nat}:∀ (ps:List Nat) (xs:List AV) (vs:List Value) (st:St) (tmps:Array Value),tmps.size=nt→FrameRep w Im g st tmps→(∀ p,p∈ps→p<nt)→vs.length=xs.length→(∀ (i:Nat) (v:Value) (c:AV),vs[i]?=some v→xs[i]?=some c→RepA w Im g v c) →
  ((ps.zip vs).foldl (fun t (p,v)=>t.setIfInBounds p v) tmps).size=nt∧FrameRep w Im g (zipP ps xs st) ((ps.zip vs).foldl (fun t (p,v)=>t.setIfInBounds p v) tmps)
 | [],xs,vs,st,tmps,hs,hf,_,_,_=>by simpa[zipP]using ⟨hs,hf⟩
 | p::ps,[],vs,st,tmps,hs,hf,_,hl,_=>by
  have:vs=[]:=List.eq_nil_of_length_eq_zero hl
  subst this;simpa[zipP]using ⟨hs,hf⟩
 | p::ps,x::xs,[],st,tmps,hs,hf,_,hl,_=>by simp at hl
 | p::ps,x::xs,v::vs,st,tmps,hs,hf,hp,hl,hr=>by
  simp only[List.zip_cons_cons,List.foldl_cons,zipP];exact frame_zip ps xs vs (st.put p x) (tmps.setIfInBounds p v) (by simpa using hs) (frame_put hf (by rw[hs];exact hp p (by simp)) (hr 0 v x rfl rfl)) (fun q hq=>hp q (by simp[hq])) (by simpa using hl) (fun i u c hu hc=>hr (i+1) u c (by simpa using hu) (by simpa using hc))
end

def recL(fn:FuncId)(tmps:Array Value)(ps:Array Tmp)(x y:Code)(d:Nat)(jump:Option Code):Loop:={ state:=if jump.isNone then .ready else .done,pending:=jump,fn,tmps,params:=ps,assign:=x,body:=y,defers:=d }

def CSt(P:Program)(l d:Nat)(rec:Loop)(gm:List Gh)(vs:List (Nat×AV))(tmps:Array Value)(Hk:List AObj)(T:Nat→Prop)(Im:Imm)(W:World):Prop:=
 ∃ gk:List Gh,(∀ b,T b↔Owns gk b∨b=l∨b=d)∧¬Owns gk l∧¬Owns gk d∧(∀ o,¬Im l o∧¬Im d o)∧GLe gm gk∧gk.length=gm.length∧HR P W Im gk Hk∧FrameRep W Im gk ⟨vs,[],Hk⟩ tmps∧W.heap[l]?=some (.loop rec)∧W.heap[d]?=some (.deferred (some []))

theorem CSt.stable{P:Program}{l d:Nat}{rec:Loop}{gm:List Gh}{vs:List (Nat×AV)}{tmps:Array Value}{Hk:List AObj}{T:Nat→Prop}{Im Im':Imm}{W W':World}(h:CSt P l d rec gm vs tmps Hk T Im W)
  (h1:W'.os=W.os) (h2:W'.tape=W.tape) (h3:W'.output=W.output) (h4:W.heap.size≤W'.heap.size) (h5:∀ b,T b→W'.heap[b]?=W.heap[b]?∧∀ o,Im' b o→Im b o) (h6:∀ b o,Im b o→Im' b o∧W'.cell? ⟨b,o,none⟩=W.cell? ⟨b,o,none⟩) (h7:∀ b o,Im' b o→b<W'.heap.size):CSt P l d rec gm vs tmps Hk T Im' W':=by
 obtain⟨gk,k1,k2,k3,k4,k5,k6,k7,k8,k9,k10⟩:=h
 have hl:=h5 l ((k1 l).2 (.inr (.inl rfl)))
 have hd:=h5 d ((k1 d).2 (.inr (.inr rfl)))
 refine⟨gk,k1,k2,k3,fun o=>⟨fun h=>(k4 o).1 (hl.2 o h),fun h=>(k4 o).2 (hd.2 o h)⟩,k5,k6,?_,fun k=>(k8 k).ext' h6 (GLe.refl gk),hl.1.trans k9,hd.1.trans k10⟩
 exact k7.go0 ⟨h1,h2,h3⟩ h4 h6 (GLe.refl gk) k7.len (fun _=>False) (fun _ _=>⟨rfl,rfl⟩) (fun r x k _ hr hk=>h5 k ((k1 k).2 (.inl ⟨r,x,hr,hk⟩)))
  (fun _ _ h=>h.elim) (fun _ _ _ h=>h.elim) (fun _ _ h=>h.elim) (fun _ _ _ _ h=>h.elim) (fun _ _ h=>h.elim) (fun _ _ _ _ _ h=>h.elim) (fun _ _ _ h=>h.elim) h7

theorem round_ok{P:Program}{nt n l d:Nat}{fn:FuncId}{ps:Array Tmp}{x y:Code}{fx fy:St→RC}(hps:∀ p,p∈ps.toList→p<nt)
  (hx:∀ (st:St) (a:Act) (w:World) (Im:Imm) (g:List Gh) (Q:Exit→Act→World→Prop),SRel P w Im g st a nt→a.defers=[]→Ends P 0 [] w Im g nt Q (fx st)→x.wpIn (Fence.wide.inRound l) 0 P Q a w)
  (hy:∀ (st:St) (a:Act) (w:World) (Im:Imm) (g:List Gh) (Q:Exit→Act→World→Prop),SRel P w Im g st a nt→Marks 0 w Im g [] a.defers→Ends P 0 [] w Im g nt Q (fy st)→y.wpIn (Fence.wide.inRound l) 0 P Q a w)
  {gm:List Gh} (hgm:gm.length=n) {vs:List (Nat×AV)} {tmps:Array Value} (hnt:tmps.size=nt) {Hk H':List AObj} {T:Nat→Prop} {Im:Imm} {W:World} (hC:CSt P l d (recL fn tmps ps x y d none) gm vs tmps Hk T Im W)
  {xv:List AV} {args:List Value} (ha:RepAs W Im [] args xv) (hlx:xv.length=ps.size) {st1 st2:St} (hfx:fx (zipP ps.toList xv ⟨vs,[],Hk⟩)=.go st1) {jump:Option Code} (hkeep:keepH n st2.H=some H')
  (hfy:(jump=none∧fy st1=.go st2)∨∃ e,jump=exF e∧exF e≠none∧fy st1=.ex e st2) (yl:Yl) :
  YieldAt Fence.wide 0 P l ⟨args⟩ W fun e W'=>e=.returned (.bool jump.isNone)∧∃ (T':Nat→Prop) (Im':Imm),Ext W Im [.yld yl T] W' Im' [.yld yl T']∧(∀ b,T' b→b<W'.heap.size)∧(∀ b o,Im' b o→b<W'.heap.size)∧CSt P l d (recL fn tmps ps x y d jump) gm vs tmps H' T' Im' W':=by
 obtain⟨gk,k1,k2,k3,k4,k5,k6,k7,k8,k9,k10⟩:=hC
 have hlW:l<W.heap.size:=(Array.getElem?_eq_some_iff.1 k9).1
 have hdW:d<W.heap.size:=(Array.getElem?_eq_some_iff.1 k10).1
 have hy1:=run_yield (P:=P) (args:=⟨args⟩) k9 (by simp only[recL,List.size_toArray];rw[ha.1,hlx])
 obtain⟨z1,z2⟩:=frame_zip (w:=W) (Im:=Im) (g:=gk) ps.toList xv args ⟨vs,[],Hk⟩ tmps hnt k8 hps ha.1 (fun i v c hv hc=>(ha.2 i v c hv hc).ext' (fun _ _ h=>⟨h,rfl⟩) ⟨fun r b h=>by simp at h,fun r ep esz base len cap h=>by simp at h,fun r y T h=>by simp at h,fun r b row h=>by simp at h,fun r bs h=>by simp at h⟩)
 have hfold:(ps.zip ⟨args⟩).foldl (fun t (p,v)=>t.setIfInBounds p v) tmps=(ps.toList.zip args).foldl (fun t (p,v)=>t.setIfInBounds p v) tmps:=by
  rw[←Array.foldl_toList];simp
 refine⟨fn,_,x,y,hy1,roundIn_of_wpIn trivial ?_⟩
 refine hx (zipP ps.toList xv ⟨vs,[],Hk⟩) _ W Im gk _ ⟨?_,?_,by rw[zipP_H];exact k7⟩ rfl ?_
 ·show((ps.zip ⟨args⟩).foldl (fun t (p,v)=>t.setIfInBounds p v) tmps).size=nt
  rw[hfold];exact z1
 ·show FrameRep W Im gk _ ((ps.zip ⟨args⟩).foldl (fun t (p,v)=>t.setIfInBounds p v) tmps)
  rw[hfold];exact z2
 rw[hfx];intro a1 w1 Im1 g1 hs1 hm1 e1;have hl1:w1.heap[l]?=some (.loop (recL fn tmps ps x y d none)):=(e1.frame l hlW k2).trans k9
 have hl1':l<w1.heap.size:=Nat.lt_of_lt_of_le hlW e1.size
 have hno1:∀ b,b<W.heap.size→¬Owns gk b→¬Owns g1 b:=fun b hb hn ho=>by
  rcases e1.newg b ho with h|h
  ·exact hn h
  ·omega
 have him1:∀ b,b<W.heap.size→¬Owns gk b→(∀ o,¬Im b o)→∀ o,¬Im1 b o:=fun b hb hn hi o ho=>by
  rcases e1.new b o ho with h|h|h
  ·exact hi o h
  ·omega
  ·exact hn h
 have hil:=him1 l hlW k2 (fun o=>(k4 o).1)
 show ∃ w₂,(Instr.beginRound l).run P w1=.ok () w₂∧_
 obtain⟨w2,hw2⟩:∃ w2,w1.putObj l (.loop { recL fn tmps ps x y d none with state:=.busy })=w2:=⟨_,rfl⟩
 refine⟨w2,by rw[←hw2];exact run_beginRound hl1 rfl,?_⟩
 have hs2:SRel P w2 Im1 g1 st1 a1 nt:=by
  rw[←hw2];exact⟨hs1.size,fun k=>rep_put hil (hs1.fr k),hr_put hs1.hr (hno1 l hlW k2) hil⟩
 have hm2:Marks 0 w2 Im1 g1 [] a1.defers:=by
  obtain⟨rs,q1,q2,q3⟩:=hm1
  refine⟨rs,q1,q2,fun r hr=>?_⟩
  obtain⟨p2,p3,p4,p5⟩:=q3 r hr
  refine⟨p2,?_,p4,p5⟩
  rw[←hw2,World.putObj_heap_other (fun h=>by rw[h,hl1]at p3;cases p3)]
  exact p3
 have hsz2:w2.heap.size=w1.heap.size:=by rw[←hw2];simp
 have hl2:w2.heap[l]?=some (.loop { recL fn tmps ps x y d none with state:=.busy }):=by rw[←hw2];exact World.putObj_heap_same hl1'
 have fin:∀ (a3:Act) (w3:World) (Im3:Imm) (g3:List Gh),SRel P w3 Im3 g3 st2 a3 nt→Ext w2 Im1 g1 w3 Im3 g3 →
   ∃ v w4,(Instr.endRound l jump).run P w3=.ok v w4∧(Ending.returned v=.returned (.bool jump.isNone)∧∃ (T':Nat→Prop) (Im':Imm),Ext W Im [.yld yl T] w4 Im' [.yld yl T']∧(∀ b,T' b→b<w4.heap.size)∧(∀ b o,Im' b o→b<w4.heap.size)∧CSt P l d (recL fn tmps ps x y d jump) gm vs tmps H' T' Im' w4):=by
  intro a3 w3 Im3 g3 hs3 e3;obtain⟨rfl,hrefs,hge⟩:=keepH_inv hkeep
  have hl3:w3.heap[l]?=some (.loop { recL fn tmps ps x y d none with state:=.busy }):=(e3.frame l (by omega) (hno1 l hlW k2)).trans hl2
  have hl3':l<w3.heap.size:=(Array.getElem?_eq_some_iff.1 hl3).1
  obtain⟨w4,hw4⟩:∃ w4,w3.putObj l (.loop (recL fn tmps ps x y d jump))=w4:=⟨_,rfl⟩
  have hrun:=run_endRound (P:=P) jump hl3
  have hsz4:w4.heap.size=w3.heap.size:=by rw[←hw4];simp
  have hno3:∀ b,b<W.heap.size→¬Owns gk b→¬Owns g3 b:=fun b hb hn ho=>by
   rcases e3.newg b ho with h|h
   ·exact hno1 b hb hn h
   ·have:=e1.size;omega
  have him3:∀ b,b<W.heap.size→¬Owns gk b→(∀ o,¬Im b o)→∀ o,¬Im3 b o:=fun b hb hn hi o ho=>by
   rcases e3.new b o ho with h|h|h
   ·exact him1 b hb hn hi o h
   ·have:=e1.size;omega
   ·exact hno1 b hb hn h
  have hil3:=him3 l hlW k2 (fun o=>(k4 o).1)
  have htk:∀ b,Owns (g3.take n) b→Owns g3 b:=by
   rintro b ⟨r,z,hr,hz⟩
   rw[List.getElem?_take]at hr
   split at hr
   ·exact⟨r,z,hr,hz⟩
   ·cases hr
  have hfirst:HR P w3 Im3 (g3.take n) (st2.H.take n):=hs3.hr.first n (fun i o hi ho r hr=>refsH_at hrefs i o (by rw[List.getElem?_take,if_pos hi];exact ho) r hr)
  have hcell4:∀ b o,b≠l→w4.cell? ⟨b,o,none⟩=w3.cell? ⟨b,o,none⟩:=fun b o hb=>by
   rw[←hw4];unfold World.cell?;simp only;rw[World.putObj_heap_other hb]
  have hcell2:∀ b o,b≠l→w2.cell? ⟨b,o,none⟩=w1.cell? ⟨b,o,none⟩:=fun b o hb=>by
   rw[←hw2];unfold World.cell?;simp only;rw[World.putObj_heap_other hb]
  have hnel:∀ b o,Im b o→b≠l:=fun b o h hb=>(k4 o).1 (hb▸h)
  have hkeep4:∀ b o,Im b o→Im3 b o∧w4.cell? ⟨b,o,none⟩=W.cell? ⟨b,o,none⟩:=fun b o h=>by
   have h1:=e1.mono b o h
   exact⟨e3.mono b o h1,(hcell4 b o (hnel b o h)).trans ((e3.keep b o h1).trans ((hcell2 b o (hnel b o h)).trans (e1.keep b o h)))⟩
  have hgle:GLe gk (g3.take n):=by
   have h13:GLe gk g3:=e1.gle.trans e3.gle
   have ht:∀ (r:Nat) (z:Gh),r<gk.length→g3[r]?=some z→(g3.take n)[r]?=some z:=fun r z hr hz=>by rw[List.getElem?_take,if_pos (by omega)];exact hz
   refine⟨fun r b h=>ht r _ (List.getElem?_eq_some_iff.1 h).1 (h13.cell r b h),fun r ep esz base len cap h=>?_,fun r y T h=>?_,fun r b row h=>?_,fun r bs h=>?_⟩
   ·obtain⟨ep',base',len',cap',q1,q2⟩:=h13.gr r ep esz base len cap h
    exact⟨ep',base',len',cap',ht r _ (List.getElem?_eq_some_iff.1 h).1 q1,q2⟩
   ·obtain⟨T',q⟩:=h13.yld r y T h
    exact⟨T',ht r _ (List.getElem?_eq_some_iff.1 h).1 q⟩
   ·obtain⟨row',q⟩:=h13.bld r b row h
    exact⟨row',ht r _ (List.getElem?_eq_some_iff.1 h).1 q⟩
   ·obtain⟨m,q⟩:=h13.reg r bs h
    exact⟨m,ht r _ (List.getElem?_eq_some_iff.1 h).1 q⟩
  have hnl4:¬Owns (g3.take n) l:=fun h=>hno3 l hlW k2 (htk l h)
  have hr4:HR P w4 Im3 (g3.take n) (st2.H.take n):=by rw[←hw4];exact hr_put hfirst hnl4 hil3
  refine⟨_,w4,by rw[←hw4];exact hrun,rfl,fun b=>Owns (g3.take n) b∨b=l∨b=d,Im3,?_,?_,fun b o h=>by rw[hsz4];exact hs3.hr.im b o h,g3.take n,fun b=>Iff.rfl,hnl4,fun h=>hno3 d hdW k3 (htk d h),fun o=>⟨hil3 o,him3 d hdW k3 (fun o=>(k4 o).2) o⟩,k5.trans hgle,?_,hr4,fun k=>?_,?_,?_⟩
  ·refine⟨?_,?_,?_,?_,fun b o h=>(hkeep4 b o h).1,fun b o h=>(hkeep4 b o h).2,fun k hk hnT=>?_,fun b o h=>?_,fun k hk=>?_,⟨fun r b h=>?_,fun r ep esz base len cap h=>?_,fun r y' T' h=>?_,fun r b row h=>?_,fun r bs h=>?_⟩⟩
   ·rw[←hw4];show w3.os=W.os;rw[e3.os,←hw2];exact e1.os
   ·rw[←hw4];show w3.tape=W.tape;rw[e3.tape,←hw2];exact e1.tape
   ·rw[←hw4];show w3.output=W.output;rw[e3.output,←hw2];exact e1.output
   ·rw[hsz4];have:=e1.size;have:=e3.size;omega
   ·have hnT':¬T k:=fun h=>hnT (owns_one.2 h)
    have hnk:¬Owns gk k:=fun h=>hnT' ((k1 k).2 (.inl h))
    have hkl:k≠l:=fun h=>hnT' ((k1 k).2 (.inr (.inl h)))
    rw[←hw4,World.putObj_heap_other hkl,e3.frame k (by have:=e1.size;omega) (hno1 k hk hnk),←hw2,World.putObj_heap_other hkl]
    exact e1.frame k hk hnk
   ·rcases e3.new b o h with h|h|h
    ·rcases e1.new b o h with h|h|h
     ·exact .inl h
     ·exact .inr (.inl h)
     ·exact .inr (.inr (owns_one.2 ((k1 b).2 (.inl h))))
    ·exact .inr (.inl (by have:=e1.size;omega))
    ·rcases e1.newg b h with h|h
     ·exact .inr (.inr (owns_one.2 ((k1 b).2 (.inl h))))
     ·exact .inr (.inl h)
   ·rcases owns_one.1 hk with h|h|h
    ·rcases e3.newg k (htk k h)with h|h
     ·rcases e1.newg k h with h|h
      ·exact .inl (owns_one.2 ((k1 k).2 (.inl h)))
      ·exact .inr h
     ·exact .inr (by have:=e1.size;omega)
    ·exact .inl (owns_one.2 ((k1 k).2 (.inr (.inl h))))
    ·exact .inl (owns_one.2 ((k1 k).2 (.inr (.inr h))))
   ·cases r with
    | zero=>cases h
    | succ r=>simp at h
   ·cases r with
    | zero=>cases h
    | succ r=>simp at h
   ·cases r with
    | zero=>cases h;exact⟨_,rfl⟩
    | succ r=>simp at h
   ·cases r with
    | zero=>cases h
    | succ r=>simp at h
   ·cases r with
    | zero=>cases h
    | succ r=>simp at h
  ·rintro b (h|h|h)
   ·exact hr4.lt b h
   ·rw[h,hsz4];exact hl3'
   ·rw[h,hsz4];have:=e1.size;have:=e3.size;omega
  ·rw[hr4.len,List.length_take];omega
  ·exact(k8 k).ext' hkeep4 hgle
  ·rw[←hw4];exact World.putObj_heap_same hl3'
  ·have hdl:d≠l:=fun h=>by rw[h,k9]at k10;cases k10
   rw[←hw4,World.putObj_heap_other hdl,e3.frame d (by have:=e1.size;omega) (hno1 d hdW k3),←hw2,World.putObj_heap_other hdl,e1.frame d hdW k3]
   exact k10
 refine hy st1 a1 w2 Im1 g1 _ hs2 hm2 ?_
 rcases hfy with⟨rfl,hfy⟩|⟨e,rfl,hne,hfy⟩
 ·rw[hfy];exact fun a3 w3 Im3 g3 h1 _ h3=>fin a3 w3 Im3 g3 h1 h3
 ·rw[hfy]
  cases e with
  | exit id=>exact fun a3 w3 Im3 g3 h1 _ h3=>fin a3 w3 Im3 g3 h1 h3
  | ret=>exact fun a3 w3 Im3 g3 h1 _ h3=>fin a3 w3 Im3 g3 h1 h3
  | pan v=>exact absurd rfl hne
end Go.Ab
/- A range over a function is right. Conditions: the functions that are called,and the code of the rounds,are right. -/
namespace Go.Ab
open Go

section
variable {P:Program}{w:World}{Im:Imm}

theorem hr_merge{gA gB:List Gh}{HA HB:List AObj}{ρ:List Nat}(hA:HR P w Im gA HA)(hB:HR P w Im gB HB)(hnd:ρ.Nodup)(hρ:∀ r,r∈ρ→r<HA.length)(hl:ρ.length≤HB.length)(hrefs:refsOk ρ.length (refsH (HB.take ρ.length))=true)(hit:hitB ρ (refsH (setOs HA (noes ρ)))=false)
  (hoff:rgNo HA hasReg=true) (hoffB:rgNo HB hasReg=true) (hsep:∀ (r i k:Nat) (x y:Gh),r∉ρ→i<ρ.length→gA[r]?=some x→gB[i]?=some y→x.owns k→¬y.owns k) :
  HR P w Im (putAt gA ρ gB) (setOs HA (backWs ρ HA.length 0 (HB.take ρ.length))):=by
 have hw:=backWs_eq ρ HA hρ (HB.take ρ.length) 0 HA (by omega) rfl (by simp;omega)
 simp only[List.drop_zero,Nat.sub_zero]at hw;have hdrop:(HB.take ρ.length).drop ρ.length=[]:=List.drop_of_length_le (by simp;omega)
 rw[hdrop,List.map_nil,List.append_nil]at hw;rw[hw];have hlA:gA.length=HA.length:=hA.len
 have hlB:gB.length=HB.length:=hB.len
 have hidx:∀ r,r∈ρ→ρ.idxOf r<ρ.length∧ρ[ρ.idxOf r]?=some r:=by
  intro r hm;have hi:ρ.idxOf r<ρ.length:=List.idxOf_lt_length_iff.2 hm
  exact⟨hi,by rw[List.getElem?_eq_getElem hi,List.getElem_idxOf]⟩
 have hg1:∀ (r:Nat),r∉ρ→(putAt gA ρ gB)[r]?=gA[r]?:=fun r hr=>putAt_not ρ gA gB r hr
 have hg2:∀ (i r:Nat),ρ[i]?=some r→(putAt gA ρ gB)[r]?=gB[i]?:=fun i r hi=>putAt_at ρ gA gB i r hnd (by omega) (fun q hq=>by rw[hlA];exact hρ q hq) hi
 have hw1:∀ (r:Nat) (x:Gh),(putAt gA ρ gB)[r]?=some x→(r∉ρ∧gA[r]?=some x)∨∃ i,i<ρ.length∧ρ[i]?=some r∧gB[i]?=some x:=by
  intro r x hx;by_cases hm:r∈ρ
  ·obtain⟨hi,hir⟩:=hidx r hm
   exact .inr ⟨_,hi,hir,(hg2 _ r hir)▸hx⟩
  ·exact .inl ⟨hm,(hg1 r hm)▸hx⟩
 have ho:∀ (r:Nat) (o:AObj),(putAt HA ρ ((HB.take ρ.length).map (renO (back ρ HA.length))))[r]?=some o→(r∉ρ∧HA[r]?=some o∧∀ q,q∈refsO o→q∉ρ)∨∃ i o',i<ρ.length∧ρ[i]?=some r∧HB[i]?=some o'∧o=renO (back ρ HA.length) o'∧∀ q,q∈refsO o'→q<ρ.length:=by
  intro r o hx;by_cases hm:r∈ρ
  ·obtain⟨hi,hir⟩:=hidx r hm
   rw[putAt_at ρ HA _ _ r hnd (by simp;omega) hρ hir,List.getElem?_map,List.getElem?_take,if_pos hi]at hx
   cases hb:HB[ρ.idxOf r]? with
   | none=>rw[hb]at hx;cases hx
   | some o'=>
    rw[hb]at hx;refine .inr ⟨_,o',hi,hir,hb,by simpa using hx.symm,fun q hq=>refsH_at hrefs (ρ.idxOf r) o' ?_ q hq⟩
    rw[List.getElem?_take,if_pos hi,hb]
  ·rw[putAt_not ρ HA _ r hm]at hx;refine .inl ⟨hm,hx,fun q hq hmq=>?_⟩
   obtain⟨_,_,s3⟩:=setOs_noes ρ HA hρ
   unfold hitB at hit;rw[List.any_eq_false]at hit
   have hmem:∀ (l:List AObj) (i:Nat),l[i]?=some o→q∈refsH l:=by
    intro l;induction l with
    | nil=>intro i h;simp at h
    | cons a l ih=>
     intro i h;simp only[refsH,List.mem_append]
     cases i with
     | zero=>simp at h;subst h;exact .inl hq
     | succ i=>exact .inr (ih i (by simpa using h))
   exact hit q (hmem _ r ((s3 r hm).trans hx)) (decide_eq_true hmq)
 have hrA:∀ {v:Value} {c:AV},RepA w Im gA v c→(∀ q,q∈refs c→q∉ρ)→RepA w Im (putAt gA ρ gB) v c:=fun h hq=>h.fewer (fun q x hqc hx=>(hg1 q (hq q hqc)).trans hx) (fun bs _ hb=>absurd hb ((hA.rg.nore hoff).2 0 bs))
 have hrB:∀ {v:Value} {c:AV},RepA w Im gB v c→(∀ q,q∈refs c→q<ρ.length)→RepA w Im (putAt gA ρ gB) v (ren (back ρ HA.length) c):=by
  intro v c h hq;refine ren_ok h (fun q x hqc hx=>?_) (fun bs _ hb=>absurd hb ((hB.rg.nore hoffB).2 0 bs))
  have hlt:=hq q hqc
  have hb:back ρ HA.length q=ρ[q]:=by simp[back,hlt]
  rw[hb,hg2 q ρ[q] (List.getElem?_eq_getElem hlt)]
  exact hx
 refine⟨by rw[putAt_len,putAt_len,hlA],fun r cs hr=>?_,fun r ep sz hr=>?_,fun r ep sz cs hr=>?_,fun r es hr=>?_,fun r stop n rest hr=>?_,fun r acc hr=>?_,fun r q k x y hne hr hq hx hy=>?_,fun k hk=>?_,hA.im,hA.tab,fun r t cs hr=>?_,?_⟩
 ·rcases ho r _ hr with⟨h1,h2,h3⟩|⟨i,o',h1,h2,h3,h4,h5⟩
  ·obtain⟨b,hb,vs,t,k1,k2,k3,k4,k5⟩:=hA.cells r cs h2
   refine⟨b,(hg1 r h1).trans hb,vs,t,k1,k2,fun j v c hv hc=>hrA (k3 j v c hv hc) (fun q hq=>h3 q ?_),k4,k5⟩
   simp only[refsO,List.mem_flatten,List.mem_map];exact⟨_,⟨c,List.mem_of_getElem? hc,rfl⟩,hq⟩
  ·cases o' with
   | cells cs0=>
    cases h4;obtain⟨b,hb,vs,t,k1,k2,k3,k4,k5⟩:=hB.cells i cs0 h3
    refine⟨b,(hg2 i r h2).trans hb,vs,t,k1,by simpa using k2,fun j v c hv hc=>?_,k4,k5⟩
    rw[List.getElem?_map]at hc
    cases hcj:cs0[j]? with
    | none=>rw[hcj]at hc;cases hc
    | some c0=>
     rw[hcj]at hc;cases hc;refine hrB (k3 j v c0 hv hcj) (fun q hq=>h5 q ?_)
     simp only[refsO,List.mem_flatten,List.mem_map];exact⟨_,⟨c0,List.mem_of_getElem? hcj,rfl⟩,hq⟩
   | _=>cases h4
 ·rcases ho r _ hr with⟨h1,h2,h3⟩|⟨i,o',h1,h2,h3,h4,h5⟩
  ·obtain⟨base,len,cap,k1,k2⟩:=hA.grow r ep sz h2
   exact⟨base,len,cap,(hg1 r h1).trans k1,k2⟩
  ·cases o' with
   | grow a b=>
    cases h4;obtain⟨base,len,cap,k1,k2⟩:=hB.grow i ep sz h3
    exact⟨base,len,cap,(hg2 i r h2).trans k1,k2⟩
   | _=>cases h4
 ·rcases ho r _ hr with⟨h1,h2,h3⟩|⟨i,o',h1,h2,h3,h4,h5⟩
  ·obtain⟨base,cap,k1,k2,k3,k4⟩:=hA.stk r ep sz cs h2
   refine⟨base,cap,(hg1 r h1).trans k1,k2,k3,fun b hb hcap=>?_⟩
   obtain⟨vs,t,j1,j2,j3,j4,j5,j6⟩:=k4 b hb hcap
   refine⟨vs,t,j1,j2,j3,fun i v c hv hc=>hrA (j4 i v c hv hc) (fun q hq=>h3 q ?_),j5,j6⟩
   simp only[refsO,List.mem_flatten,List.mem_map];exact⟨_,⟨c,List.mem_of_getElem? hc,rfl⟩,hq⟩
  ·cases o' with
   | stk a b cs0=>
    cases h4;obtain⟨base,cap,k1,k2,k3,k4⟩:=hB.stk i ep sz cs0 h3
    refine⟨base,cap,(hg2 i r h2).trans k1,k2,fun hc=>by rw[k3 hc];rfl,fun b hb hcap=>?_⟩
    obtain⟨vs,t,j1,j2,j3,j4,j5,j6⟩:=k4 b hb hcap
    refine⟨vs,t,j1,j2,by simpa using j3,fun j v c hv hc=>?_,j5,j6⟩
    rw[List.getElem?_map]at hc
    cases hcj:cs0[j]? with
    | none=>rw[hcj]at hc;cases hc
    | some c0=>
     rw[hcj]at hc;cases hc;refine hrB (j4 j v c0 hv hcj) (fun q hq=>h5 q ?_)
     simp only[refsO,List.mem_flatten,List.mem_map];exact⟨_,⟨c0,List.mem_of_getElem? hcj,rfl⟩,hq⟩
   | _=>cases h4
 ·rcases ho r _ hr with⟨h1,h2,h3⟩|⟨i,o',h1,h2,h3,h4,h5⟩
  ·obtain⟨b,hb,l,ck,k1,k2,k3,k4⟩:=hA.mapo r es h2
   refine⟨b,(hg1 r h1).trans hb,l,ck,k1,k2,fun j e x he hx=>?_,k4⟩
   have hq:∀ q,q∈refs x.1∨q∈refs x.2→q∉ρ:=fun q hq=>h3 q (mem_refsM (List.mem_of_getElem? hx) hq)
   exact⟨hrA (k3 j e x he hx).1 (fun q h=>hq q (.inl h)),hrA (k3 j e x he hx).2 (fun q h=>hq q (.inr h))⟩
  ·cases o' with
   | mapo es0=>
    cases h4;obtain⟨b,hb,l,ck,k1,k2,k3,k4⟩:=hB.mapo i es0 h3
    refine⟨b,(hg2 i r h2).trans hb,l,ck,k1,by rw[renM_map];simpa using k2,fun j e x he hx=>?_,k4⟩
    rw[renM_map,List.getElem?_map]at hx
    cases hxj:es0[j]? with
    | none=>rw[hxj]at hx;cases hx
    | some x0=>
     rw[hxj]at hx;cases hx;have hq:∀ q,q∈refs x0.1∨q∈refs x0.2→q<ρ.length:=fun q hq=>h5 q (mem_refsM (List.mem_of_getElem? hxj) hq)
     exact⟨hrB (k3 j e x0 he hxj).1 (fun q h=>hq q (.inl h)),hrB (k3 j e x0 he hxj).2 (fun q h=>hq q (.inr h))⟩
   | _=>cases h4
 ·rcases ho r _ hr with⟨h1,h2,h3⟩|⟨i,o',h1,h2,h3,h4,h5⟩
  ·obtain⟨y,T,k1,k2⟩:=hA.log r stop n rest h2
   exact⟨y,T,(hg1 r h1).trans k1,k2⟩
  ·cases o' with
   | log a b c=>
    cases h4;obtain⟨y,T,k1,k2⟩:=hB.log i _ _ _ h3
    exact⟨y,T,(hg2 i r h2).trans k1,k2⟩
   | _=>cases h4
 ·rcases ho r _ hr with⟨h1,h2,h3⟩|⟨i,o',h1,h2,h3,h4,h5⟩
  ·exact hA.gen r acc h2
  ·cases o' with
   | gen a=>exact hB.gen i a h3
   | _=>cases h4
 ·rcases hw1 r x hr with⟨h1,h2⟩|⟨i,h1,h2,h3⟩<;>rcases hw1 q y hq with⟨h4,h5⟩|⟨j,h4,h5,h6⟩
  ·exact hA.sep r q k x y hne h2 h5 hx hy
  ·exact hsep r j k x y h1 h4 h2 h6 hx hy
  ·exact hsep q i k y x h4 h1 h5 h3 hy hx
  ·refine hB.sep i j k x y (fun e=>?_) h3 h6 hx hy
   subst e;rw[h2]at h5;exact hne (Option.some.inj h5)
 ·obtain⟨r,x,hr,hx⟩:=hk
  rcases hw1 r x hr with⟨h1,h2⟩|⟨i,h1,h2,h3⟩
  ·exact hA.lt k ⟨r,x,h2,hx⟩
  ·exact hB.lt k ⟨i,x,h3,hx⟩
 ·rcases ho r _ hr with⟨h1,h2,h3⟩|⟨i,o',h1,h2,h3,h4,h5⟩
  ·obtain⟨b,row,hb,hb2⟩:=hA.box r t cs h2
   exact⟨b,row,(hg1 r h1).trans hb,hb2⟩
  ·cases o' with
   | bld t' s0=>
    cases h4;obtain⟨b,row,hb,hb2⟩:=hB.box i _ _ h3
    exact⟨b,row,(hg2 i r h2).trans hb,hb2⟩
   | _=>cases h4
 ·obtain⟨n1,n2⟩:=hA.rg.nore hoff
  obtain⟨m1,m2⟩:=hB.rg.nore hoffB
  refine .none (fun r bs hr=>?_) (fun r x hr=>?_)
  ·rcases ho r _ hr with⟨_,h2,_⟩|⟨i,o',h1,h2,h3,h4,h5⟩
   ·exact n1 r bs h2
   ·cases o' with
    | reg bs0=>exact m1 i _ h3
    | _=>cases h4
  ·rcases hw1 r _ hr with⟨_,h2⟩|⟨i,_,_,h3⟩
   ·exact n2 r x h2
   ·exact m2 i x h3
end

theorem logEnd_inv{stop:Nat}{o:AObj}(h:logEnd stop o=true):∃ k rest,o=.log stop k rest∧((stop=0∧rest=[])∨(stop≠0∧k=stop)):=by
 unfold logEnd at h;split at h
 ·rename_i s k rest;simp only[Bool.and_eq_true,decide_eq_true_eq]at h;obtain⟨rfl,h⟩:=h
  refine⟨k,rest,rfl,?_⟩
  split at h
  ·rename_i h0;exact .inl ⟨h0,by simpa using h⟩
  ·rename_i h0;exact .inr ⟨h0,by simpa using h⟩
 ·cases h

theorem range_wp{P:Program}{Γ:Sem'}(hΓ:Sound P Γ){nt n0:Nat}{base:List Deferred}{ps:Array Tmp}{x y:Code}{gop:Operand}{fx fy:St→RC}{f:List (Nat×AV)→List AV→List AObj→RC}(hps:∀ p,p∈ps.toList→p<nt)
  (hplain:∀ st e st',fx st=.ex e st'→exF e=none)
  (hf:∀ vs v H,f vs v H=match fx (zipP ps.toList v ⟨vs,[],H⟩)with
   | .go st'=>fy st'
   | .ex e st'=>.ex e st'
   | .stuck=>.stuck)
  (hx:∀ (l:Nat) (st:St) (a:Act) (w:World) (Im:Imm) (g:List Gh) (Q:Exit→Act→World→Prop),SRel P w Im g st a nt→a.defers=[]→Ends P 0 [] w Im g nt Q (fx st)→x.wpIn (Fence.wide.inRound l) 0 P Q a w)
  (hy:∀ (l:Nat) (st:St) (a:Act) (w:World) (Im:Imm) (g:List Gh) (Q:Exit→Act→World→Prop),SRel P w Im g st a nt→Marks 0 w Im g [] a.defers→Ends P 0 [] w Im g nt Q (fy st)→y.wpIn (Fence.wide.inRound l) 0 P Q a w)
  {st:St} {a:Act} {w:World} {Im:Imm} {g:List Gh} {Q:Exit→Act→World→Prop} (hs:SRel P w Im g st a nt) (hm:Marks n0 w Im g base a.defers) (hn0:n0≤w.heap.size)
  (h:Ends P n0 base w Im g nt Q (rfA Γ f ps.size st.vs st.H (evArg st gop))):(Code.rangeFunc gop ps x y).wpIn Fence.wide 0 P Q a w:=by
 have hfv:=evArg_ok hs.fr gop
 unfold rfA at h;split at h
 ·rename_i gf caps hfn;rw[hfn]at hfv;generalize hev:a.eval gop=fv at hfv
  cases hfv with
  | fn _ vf _ vc _ hlf hlc hrf hrc=>
   have hvf:vf=[]:=List.eq_nil_of_length_eq_zero (by simpa using hlf)
   subst hvf;unfold rfG at h;split at h
   ·rename_i caps' hgv;have hac:RepAs w Im g vc caps:=⟨hlc,hrc⟩
    have hF:∀ q,q∈refsL arrs1 caps→q<st.H.length:=by
     intro q hq;rw[mem_refsL]at hq;obtain⟨c,hc,hq⟩:=hq
     obtain⟨i,hi,rfl⟩:=List.getElem_of_mem hc
     exact arrs1_lt hs.hr (hac.2 i _ _ (List.getElem?_eq_getElem (by rw[hac.1];exact hi)) (List.getElem?_eq_getElem hi)) q hq
    obtain⟨hH0,he0⟩:=froz_hr hs.hr hF (fun q hq x=>by
     rw[mem_refsL]at hq;obtain⟨c,hc,hq⟩:=hq
     obtain⟨i,hi,rfl⟩:=List.getElem_of_mem hc
     exact arrs1_cell (hac.2 i _ _ (List.getElem?_eq_getElem (by rw[hac.1];exact hi)) (List.getElem?_eq_getElem hi)) q hq x)
    obtain⟨s1,_,_⟩:=setOs_noes (refsL arrs1 caps) st.H hF
    obtain⟨kl,kr⟩:=giveL_ok (R:=RepA w Im g) (R':=RepA w (fun b o=>Im b o∨Froz w g (refsL arrs1 caps) b) g) hac.1 hac.2 hgv (fun v c c' hm hv hc=>give1_ok hs.hr hv (fun q hq=>mem_refsL.2 ⟨c,hm,hq⟩) hc he0)
    generalize hIm0:(fun b o=>Im b o∨Froz w g (refsL arrs1 caps) b)=Im0 at hH0 he0 kr
    generalize hH0d:setOs st.H (noes (refsL arrs1 caps))=H0 at h hH0 s1;unfold rfS at h;generalize hρ:reach H0 (2*st.H.length+8) (caps'.map refs).flatten []=ρ at h;unfold rfR at h;split at h
    ·rename_i hcond;simp only[Bool.and_eq_true,Bool.not_eq_true']at hcond;obtain⟨⟨hc,hit⟩,hoff⟩:=hcond
     obtain⟨hc1,hc2,hc3,hc4⟩:=closed_inv hc
     unfold rfX at h;split at h
     ·rename_i xs _;obtain⟨W1,hW1⟩:∃ W1,W1=(w.alloc (.deferred (some []))):=⟨_,rfl⟩
      have e01:Ext w Im0 g W1 Im0 g:=by rw[hW1];exact ext_alloc0 hH0 _ (fun b o=>⟨.inl,fun h=>h.elim id And.right⟩)
      have hH1:HR P W1 Im0 g H0:=by
       refine hH0.go e01 hH0.len (fun _=>False) (fun _ _=>⟨rfl,rfl⟩) (fun r z k _ hr hk=>⟨?_,fun _ h=>h⟩) (fun _ _ h=>h.elim) (fun _ _ _ h=>h.elim) (fun _ _ h=>h.elim) (fun _ _ _ _ h=>h.elim) (fun _ _ h=>h.elim) (fun _ _ _ _ _ h=>h.elim) (fun _ _ _ h=>h.elim) (fun b o h=>Nat.lt_of_lt_of_le (hH0.im b o h) e01.size)
       rw[hW1];exact heap_alloc_old w _ (hH0.lt k ⟨r,z,hr,hk⟩)
      refine wpIn_rangeFunc ?_
      intro fn hfn';obtain⟨W2,hW2⟩:∃ W2,W2=W1.alloc (.loop (recL fn a.tmps ps x y w.heap.size none)):=⟨_,rfl⟩
      have e12:Ext W1 Im0 g W2 Im0 g:=by rw[hW2];exact ext_alloc0 hH1 _ (fun b o=>⟨.inl,fun h=>h.elim id And.right⟩)
      have hH2:HR P W2 Im0 g H0:=by
       refine hH1.go e12 hH1.len (fun _=>False) (fun _ _=>⟨rfl,rfl⟩) (fun r z k _ hr hk=>⟨?_,fun _ h=>h⟩) (fun _ _ h=>h.elim) (fun _ _ _ h=>h.elim) (fun _ _ h=>h.elim) (fun _ _ _ _ h=>h.elim) (fun _ _ h=>h.elim) (fun _ _ _ _ _ h=>h.elim) (fun _ _ _ h=>h.elim) (fun b o h=>Nat.lt_of_lt_of_le (hH1.im b o h) e12.size)
       rw[hW2];exact heap_alloc_old W1 _ (hH1.lt k ⟨r,z,hr,hk⟩)
      have e02:Ext w Im g W2 Im0 g:=he0.trans (e01.trans e12)
      obtain⟨l,hl⟩:∃ l,l=w.heap.size+1:=⟨_,rfl⟩
      obtain⟨d,hd⟩:∃ d,d=w.heap.size:=⟨_,rfl⟩
      have hs1':W1.heap.size=w.heap.size+1:=by rw[hW1];simp
      have hs2':W2.heap.size=w.heap.size+2:=by rw[hW2];simp;omega
      have hL2:W2.heap[l]?=some (.loop (recL fn a.tmps ps x y d none)):=by
       rw[hW2,hl,←hs1',hd];exact heap_alloc_new W1 _
      have hD2:W2.heap[d]?=some (.deferred (some [])):=by
       rw[hW2,heap_alloc_old W1 _ (by omega),hW1,hd];exact heap_alloc_new w _
      have hgO:∀ k,Owns g k→k<w.heap.size:=fun k hk=>hH0.lt k hk
      have hgml:(maskG ρ g).length=st.H.length:=by rw[maskG_len,hH0.len,s1]
      have hρlt:∀ r,r∈ρ→r<H0.length:=fun r hr=>(hc3 r hr).2
      have hRne:rfFold (f (maskV ρ st.vs)) st.H.length ps.size 0 xs (setOs H0 (noes ρ))≠.stuck:=by
       intro e;rw[e]at h;exact h
      obtain⟨HF,hF0,hcase⟩:=rfFold_inv xs 0 _ _ rfl hRne
      have main:∀ (stop:Nat) (JF:Nat→Option Code),JF 0=none →
        (∀ (i:Nat) (xv:List AV),xs[i]?=some xv→(stop=0∨i<stop)→JF i=none∧xv.length=ps.size∧(JF (i+1)).isNone=decide (i+1≠stop)∧∃ st',keepH st.H.length st'.H=some (HF (i+1))∧((JF (i+1)=none∧f (maskV ρ st.vs) xv (HF i)=.go st')∨∃ e,JF (i+1)=exF e∧exF e≠none∧f (maskV ρ st.vs) xv (HF i)=.ex e st')) →
        ∀ (kN:Nat),(∀ k,(stop=0∧xs.drop k=[]∧k≤xs.length)∨(stop≠0∧k=stop)→k=kN) →
        (∃ H3,rfChk Γ gf caps' ρ H0 xs stop (HF kN)=some H3∧∀ (a':Act) (W':World) (Im':Imm) (g':List Gh),SRel P W' Im' g' ⟨st.vs,[],H3⟩ a' nt→Marks n0 W' Im' g' base a'.defers→Ext w Im g W' Im' g'→match JF kN with
         | none=>Q .normal a' W'
         | some c=>c.wpIn Fence.wide 0 P Q a' W') →
        ∃ (l:Nat) (mark:List Deferred) (w₁:World) (d:Deferred) (w₁':World) (f:FuncId) (args:Array Value) (w₂:World),
         (Instr.enterLoop fn a.tmps ps x y Fence.wide.round).run P w=.ok (l,mark) w₁∧(resolve a.eval (rangeCall gop l) 0).run P w₁=.ok d w₁'∧(∀ f',Target.leads P w₁' d.target d.args=some f'→Fence.wide.fn f')∧(invoke d.target d.args).run P w₁'=.ok (.enter f args) w₂ ∧
         (Fence.wide.depth.isSome=true→1≤0)∧CallsIn Fence.wide (0-1) P f args w₂ (rangePost Fence.wide 0 P l Q { a with defers:=mark++a.defers }):=by
       intro stop JF hJ0 hrnd kN hkN hfin;obtain⟨H3,hchk,hcont⟩:=hfin
       obtain⟨J,hJ⟩:∃ J:Nat→(Nat→Prop)→Imm→World→Prop,J=fun k T Im W=>k≤xs.length∧CSt P l d (recL fn a.tmps ps x y d (JF k)) (maskG ρ g) (maskV ρ st.vs) a.tmps (HF k) T Im W:=⟨_,rfl⟩
       obtain⟨yl,hyl⟩:∃ yl:Yl,yl=⟨l,stop,xs,J⟩:=⟨_,rfl⟩
       have hstable:StableJ yl.J:=by
        rw[hyl,hJ];rintro k T Im W Im' W' ⟨h0,hC⟩ h1 h2 h3 h4 h5 h6 h7
        exact⟨h0,hC.stable h1 h2 h3 h4 h5 h6 h7⟩
       have hrounds:Rounds P yl:=by
        rw[hyl,hJ];rintro k xv T ImW W args ⟨hk,hC⟩ hxk hstop _ _ ha
        simp only at hxk hstop ⊢
        obtain⟨r1,r2,r3,st2,r4,r5⟩:=hrnd k xv hxk hstop
        rw[r1]at hC
        have hfx:∃ st1,fx (zipP ps.toList xv ⟨maskV ρ st.vs,[],HF k⟩)=.go st1∧f (maskV ρ st.vs) xv (HF k)=fy st1:=by
         have hff:=hf (maskV ρ st.vs) xv (HF k)
         cases hfx:fx (zipP ps.toList xv ⟨maskV ρ st.vs,[],HF k⟩)with
         | go st1=>rw[hfx]at hff;exact⟨st1,rfl,hff⟩
         | ex e st1=>
          rw[hfx]at hff;exfalso
          have hne:=hplain _ _ _ hfx
          rcases r5 with⟨_,r5⟩|⟨e',_,r6,r5⟩
          ·rw[hff]at r5;cases r5
          ·rw[hff]at r5;cases r5;exact r6 hne
         | stuck=>
          rw[hfx]at hff;exfalso
          rcases r5 with⟨_,r5⟩|⟨e',_,r6,r5⟩<;>(rw[hff]at r5;cases r5)
        obtain⟨st1,hfx1,hfx2⟩:=hfx
        rw[hfx2]at r5;obtain⟨f1,t1,a1,b1,q1,q2⟩:=round_ok (yl:=⟨l,stop,xs,J⟩) hps (fun st a w Im g Q=>hx l st a w Im g Q) (fun st a w Im g Q=>hy l st a w Im g Q) hgml hs.size hC ha r2 hfx1 (jump:=JF (k+1)) r4 r5
        refine⟨f1,t1,a1,b1,q1,q2.mono ?_⟩
        ·rintro e W' ⟨rfl,T',Im',h1,h2,h3,h4⟩
         refine⟨by rw[r3],T',Im',?_,h2,h3,?_,h4⟩
         ·rw[hJ]at h1;exact h1
         ·exact(List.getElem?_eq_some_iff.1 hxk).1
       have hT0:∀ k,Owns (maskG ρ g) k∨k=l∨k=d→k<W2.heap.size:=by
        rintro k (hk|hk|hk)
        ·have:=hgO k (owns_mask hk);omega
        ·omega
        ·omega
       have hLog:LogAt P W2 Im0 yl (fun b=>Owns (maskG ρ g) b∨b=l∨b=d) stop 0 xs:=by
        refine⟨by rw[hyl],by rw[hyl];rfl,.inr (Nat.zero_le _),hstable,hrounds,?_⟩
        rw[hyl,hJ];refine⟨Nat.zero_le _,maskG ρ g,fun b=>Iff.rfl,fun h=>?_,fun h=>?_,fun o=>⟨fun h=>?_,fun h=>?_⟩,GLe.refl _,rfl,?_,?_,?_,hD2⟩
        ·have:=hgO l (owns_mask h);omega
        ·have:=hgO d (owns_mask h);omega
        ·have:=hH0.im l o h;omega
        ·have:=hH0.im d o h;omega
        ·rw[hF0];exact hr_mask hH2 hρlt hit hoff
        ·exact frame_mask (hs.fr.ext e02) (fun r z hr hz=>(maskG_not hr).trans hz) (fun bs hb=>absurd hb ((hH2.rg.nore hoff).2 0 bs)) _
        ·rw[hJ0];exact hL2
       obtain⟨hHs,hren⟩:=hr_sub hH2 hc (nore_Z hH2 hoff)
       have hsubO:∀ k,Owns (ρ.map fun r=>g.getD r .no) k→∃ (r:Nat) (z:Gh),r∈ρ∧g[r]?=some z∧z.owns k:=by
        rintro k ⟨i,z,hi,hz⟩
        rw[List.getElem?_map]at hi
        cases hri:ρ[i]? with
        | none=>rw[hri]at hi;cases hi
        | some r=>
         rw[hri]at hi;have hmr:=List.mem_of_getElem? hri
         have hlt:r<g.length:=by rw[hH0.len];exact hρlt r hmr
         refine⟨r,z,hmr,?_,hz⟩
         have:g.getD r .no=z:=by simpa using hi
         rw[List.getElem?_eq_getElem hlt,←this,List.getD_eq_getElem?_getD,List.getElem?_eq_getElem hlt];rfl
       have hHg:=hr_snoc hHs hLog (fun k hk=>by
        obtain⟨r,z,hr,hz,hzk⟩:=hsubO k hk
        have hkl:=hgO k ⟨r,z,hz,hzk⟩
        rintro(⟨q,z',hq,hzq⟩|h|h)
        ·rcases maskG_some hq with rfl|⟨h1,h2⟩
         ·exact hzq
         ·exact hH0.sep r q k z z' (fun e=>h1 (e▸hr)) hz h2 hzk hzq
        ·omega
        ·omega) hT0
       have hargs:RepAs W2 Im0 ((ρ.map fun r=>g.getD r .no)++[.yld yl (fun b=>Owns (maskG ρ g) b∨b=l∨b=d)]) (.func (.yield l) ⟨[]⟩ ⟨[]⟩::vc) (rfArgs ρ caps'):=by
        refine RepAs.cons ?_ ⟨by simpa using kl,fun i v c hv hcv=>?_⟩
        ·have:yl.l=l:=by rw[hyl]
         rw[←this];refine .yld (T:=fun b=>Owns (maskG ρ g) b∨b=yl.l∨b=d) ?_
         rw[List.getElem?_append_right (by simp)];simp[this]
        ·rw[List.getElem?_map]at hcv
         cases hci:caps'[i]? with
         | none=>rw[hci]at hcv;cases hcv
         | some c0=>
          rw[hci]at hcv;cases hcv;have h1:=hren c0 v (List.mem_of_getElem? hci) ((kr i v c0 hv hci).ext (e01.trans e12))
          exact h1.fewer (fun r z _ hz=>by rw[List.getElem?_append_left (List.getElem?_eq_some_iff.1 hz).1];exact hz) (fun bs _ hz=>by rw[List.getElem?_append_left (List.getElem?_eq_some_iff.1 hz).1];exact hz)
       unfold rfChk rfChkK at hchk;split at hchk
       ·rename_i v H' hres;unfold rfBack at hchk;split at hchk
        ·rename_i hcond;simp only[Bool.and_eq_true,Bool.not_eq_true']at hcond;obtain⟨⟨⟨⟨hle,hrefs⟩,hhit⟩,hoffA⟩,hoffB⟩:=hcond
         cases hchk;obtain⟨g1,g2,g3⟩:=hΓ gf _ _ _ H' hres
         have hcall:=g3 W2 Im0 _ _ hHg hargs
         refine⟨l,[{ target:=.collected d,args:=#[] }],W2,{ target:=.fn (.func gf) ⟨vc⟩,args:=#[.func (.yield l) #[] #[]] },W2,gf,⟨.func (.yield l) ⟨[]⟩ ⟨[]⟩::vc⟩,W2,?_,?_,?_,?_,fun h=>by simp[Fence.wide]at h,?_⟩
         ·rw[hW2,hW1,hl,hd];exact run_enterLoop_outer _ _ _ _ _
         ·simp only[resolve,hev];simp[go_sem]
         ·intro f' _;trivial
         ·have:(#[Value.func (.yield l) #[] #[]]:Array Value)++(⟨vc⟩:Array Value)=⟨Value.func (.yield l) ⟨[]⟩ ⟨[]⟩::vc⟩:=by apply Array.ext';simp
          simp[invoke,go_sem,this,g1]
         ·refine callsIn_wide.2 (hcall.mono ?_)
          rintro e W3 ⟨Im3,g3',hH3,e23,hout⟩
          obtain⟨u,rfl,_⟩:=hout
          obtain⟨k,rest,hobj,hkk⟩:=logEnd_inv hle
          have hlen:ρ.length<H'.length:=by
           apply Nat.lt_of_not_le
           intro hge;rw[getD_no hge]at hobj
           cases hobj
          have hat:H'[ρ.length]?=some (.log stop k rest):=by
           rw[←hobj,List.getD_eq_getElem?_getD,List.getElem?_eq_getElem hlen];rfl
          obtain⟨y',T',hy',hLg⟩:=hH3.log ρ.length stop k rest hat
          have hy0:((ρ.map fun r=>g.getD r .no)++[Gh.yld yl (fun b=>Owns (maskG ρ g) b∨b=l∨b=d)])[ρ.length]?=some (.yld yl (fun b=>Owns (maskG ρ g) b∨b=l∨b=d)):=by
           rw[List.getElem?_append_right (by simp)];simp
          obtain⟨T2,hT2⟩:=e23.gle.yld _ _ _ hy0
          rw[hT2]at hy'
          cases hy';have hnow:=hLg.now
          have hrest:=hLg.rest
          rw[hyl]at hnow hrest;rw[hJ]at hnow;obtain⟨hkx,gk,c1,c2,c3,c4,c5,c6,c7,c8,c9,c10⟩:=hnow
          have hke:k=kN:=hkN k (by
           rcases hkk with⟨h1,h2⟩|⟨h1,h2⟩
           ·exact .inl ⟨h1,by rw[←h2,hrest],hkx⟩
           ·exact .inr ⟨h1,h2⟩)
          subst hke;have hend:=run_endLoop (P:=P) c9 (by simp only[recL];split<;>simp)
          refine⟨JF k,_,hend,?_⟩
          obtain⟨W4,hW4⟩:∃ W4,W3.putObj l (.loop { recL fn a.tmps ps x y d (JF k)with state:=.exhausted })=W4:=⟨_,rfl⟩
          rw[hW4];have hl3:l<W3.heap.size:=(Array.getElem?_eq_some_iff.1 c9).1
          have hggen:∀ k,Owns ((ρ.map fun r=>g.getD r .no)++[Gh.yld yl (fun b=>Owns (maskG ρ g) b∨b=l∨b=d)]) k→Owns g k∨k=l∨k=d:=by
           rintro k ⟨r,z,hr,hz⟩
           by_cases hrl:r<ρ.length
           ·rw[List.getElem?_append_left (by simpa using hrl)]at hr
            obtain⟨q,z',_,h2,h3⟩:=hsubO k ⟨r,z,hr,hz⟩
            exact .inl ⟨q,z',h2,h3⟩
           ·rw[List.getElem?_append_right (by simpa using hrl)]at hr
            have h0:r-(ρ.map fun r=>g.getD r .no).length=0:=by
             apply Nat.eq_zero_of_not_pos
             intro hp;rw[List.getElem?_eq_none (by simp at hp ⊢;omega)]at hr
             cases hr
            rw[h0]at hr
            cases hr;rcases hz with hz|hz|hz
            ·exact .inl (owns_mask hz)
            ·exact .inr (.inl hz)
            ·exact .inr (.inr hz)
          have hgB:ρ.length≤g3'.length:=by rw[hH3.len];omega
          have hsepG:∀ (i k:Nat) (z:Gh),i<ρ.length→g3'[i]?=some z→z.owns k→¬T' k:=fun i k z hi hz hzk hT=>hH3.sep i ρ.length k z _ (by omega) hz hT2 hzk hT
          have hHFl:(HF k).length=H0.length:=by rw[←c7.len,c6,maskG_len,hH0.len]
          have hmerge:=hr_merge c7 hH3 hc4 (fun r hr=>by rw[hHFl];exact hρlt r hr) (by omega) hrefs hhit hoffA hoffB (fun r i k z z' _ hi hz hz' hzk hzk'=>hsepG i k z' hi hz' hzk' ((c1 k).2 (.inl ⟨r,z,hz,hzk⟩)))
          rw[hHFl]at hmerge
          have hEnd:∀ k,Owns (putAt gk ρ g3') k→T' k∨∃ i z,i<ρ.length∧g3'[i]?=some z∧z.owns k:=by
           rintro k ⟨r,z,hr,hz⟩
           by_cases hmr:r∈ρ
           ·have hi:ρ.idxOf r<ρ.length:=List.idxOf_lt_length_iff.2 hmr
            have hir:ρ[ρ.idxOf r]?=some r:=by rw[List.getElem?_eq_getElem hi,List.getElem_idxOf]
            rw[putAt_at ρ gk g3' _ r hc4 hgB (fun q hq=>by rw[c7.len,hHFl];exact hρlt q hq) hir]at hr
            exact .inr ⟨_,z,hi,hr,hz⟩
           ·rw[putAt_not ρ gk g3' r hmr]at hr;exact .inl ((c1 k).2 (.inl ⟨r,z,hr,hz⟩))
          have hEndO:∀ k,Owns (putAt gk ρ g3') k→Owns g3' k:=by
           intro k hk;rcases hEnd k hk with h|⟨i,z,_,h2,h3⟩
           ·exact⟨_,_,hT2,h⟩
           ·exact⟨i,z,h2,h3⟩
          have hEndl:∀ k,k=l∨k=d→¬Owns (putAt gk ρ g3') k:=by
           rintro k hkd ⟨r,z,hr,hz⟩
           by_cases hmr:r∈ρ
           ·have hi:ρ.idxOf r<ρ.length:=List.idxOf_lt_length_iff.2 hmr
            have hir:ρ[ρ.idxOf r]?=some r:=by rw[List.getElem?_eq_getElem hi,List.getElem_idxOf]
            rw[putAt_at ρ gk g3' _ r hc4 hgB (fun q hq=>by rw[c7.len,hHFl];exact hρlt q hq) hir]at hr
            refine hsepG _ k z hi hr hz ((c1 k).2 ?_)
            rcases hkd with h|h
            ·exact .inr (.inl h)
            ·exact .inr (.inr h)
           ·rw[putAt_not ρ gk g3' r hmr]at hr;rcases hkd with rfl|rfl
            ·exact c2 ⟨r,z,hr,hz⟩
            ·exact c3 ⟨r,z,hr,hz⟩
          have hil:∀ o,¬Im3 l o:=fun o=>(c4 o).1
          have hgleE:GLe g (putAt gk ρ g3'):=by
           have hnot:∀ (r:Nat) (z:Gh),r∉ρ→g[r]?=some z→(maskG ρ g)[r]?=some z:=fun r z hr hz=>(maskG_not hr).trans hz
           have hin:∀ (r:Nat) (z:Gh),r∈ρ→g[r]?=some z→∃ i:Nat,ρ[i]?=some r∧((ρ.map fun r=>g.getD r .no)++[Gh.yld yl (fun b=>Owns (maskG ρ g) b∨b=l∨b=d)])[i]?=some z:=by
            intro r z hmr hz;have hi:ρ.idxOf r<ρ.length:=List.idxOf_lt_length_iff.2 hmr
            have hir:ρ[ρ.idxOf r]?=some r:=by rw[List.getElem?_eq_getElem hi,List.getElem_idxOf]
            refine⟨_,hir,?_⟩
            rw[List.getElem?_append_left (by simpa using hi),List.getElem?_map,hir]
            simp[List.getD_eq_getElem?_getD,hz]
           have hput:∀ (r i:Nat) (z:Gh),ρ[i]?=some r→g3'[i]?=some z→(putAt gk ρ g3')[r]?=some z:=fun r i z hi hz=>by
            rw[putAt_at ρ gk g3' i r hc4 hgB (fun q hq=>by rw[c7.len,hHFl];exact hρlt q hq) hi];exact hz
           have hputn:∀ (r:Nat) (z:Gh),r∉ρ→gk[r]?=some z→(putAt gk ρ g3')[r]?=some z:=fun r z hr hz=>(putAt_not ρ gk g3' r hr).trans hz
           refine⟨fun r b hz=>?_,fun r ep esz bs len cap hz=>?_,fun r yy T hz=>?_,fun r b row hz=>?_,fun r bs hz=>?_⟩
           ·by_cases hmr:r∈ρ
            ·obtain⟨i,h1,h2⟩:=hin r _ hmr hz
             exact hput r i _ h1 (e23.gle.cell i b h2)
            ·exact hputn r _ hmr (c5.cell r b (hnot r _ hmr hz))
           ·by_cases hmr:r∈ρ
            ·obtain⟨i,h1,h2⟩:=hin r _ hmr hz
             obtain⟨ep',b',l',c',q1,q2⟩:=e23.gle.gr i ep esz bs len cap h2
             exact⟨ep',b',l',c',hput r i _ h1 q1,q2⟩
            ·obtain⟨ep',b',l',c',q1,q2⟩:=c5.gr r ep esz bs len cap (hnot r _ hmr hz)
             exact⟨ep',b',l',c',hputn r _ hmr q1,q2⟩
           ·by_cases hmr:r∈ρ
            ·obtain⟨i,h1,h2⟩:=hin r _ hmr hz
             obtain⟨T',q⟩:=e23.gle.yld i yy T h2
             exact⟨T',hput r i _ h1 q⟩
            ·obtain⟨T',q⟩:=c5.yld r yy T (hnot r _ hmr hz)
             exact⟨T',hputn r _ hmr q⟩
           ·by_cases hmr:r∈ρ
            ·obtain⟨i,h1,h2⟩:=hin r _ hmr hz
             obtain⟨row',q⟩:=e23.gle.bld i b row h2
             exact⟨row',hput r i _ h1 q⟩
            ·obtain⟨row',q⟩:=c5.bld r b row (hnot r _ hmr hz)
             exact⟨row',hputn r _ hmr q⟩
           ·by_cases hmr:r∈ρ
            ·obtain⟨i,h1,h2⟩:=hin r _ hmr hz
             obtain⟨row',q⟩:=e23.gle.reg i bs h2
             exact⟨row',hput r i _ h1 q⟩
            ·obtain⟨row',q⟩:=c5.reg r bs (hnot r _ hmr hz)
             exact⟨row',hputn r _ hmr q⟩
          have hsz4:W4.heap.size=W3.heap.size:=by rw[←hW4];simp
          have eAll:Ext w Im g W4 Im3 (putAt gk ρ g3'):=by
           refine⟨?_,?_,?_,by rw[hsz4];have:=e02.size;have:=e23.size;omega,fun b o hb=>e23.mono b o (e02.mono b o hb),fun b o hb=>?_,fun k hk hno=>?_,fun b o hb=>?_,fun k hk=>?_,hgleE⟩
           ·rw[←hW4];exact e23.os.trans e02.os
           ·rw[←hW4];exact e23.tape.trans e02.tape
           ·rw[←hW4];exact e23.output.trans e02.output
           ·have h1:=e02.mono b o hb
            have hne:b≠l:=fun hbl=>hil o (hbl▸e23.mono b o h1)
            rw[←hW4];unfold World.cell?;simp only
            rw[World.putObj_heap_other hne];exact(e23.keep b o h1).trans (e02.keep b o hb)
           ·rw[←hW4,World.putObj_heap_other (by omega),e23.frame k (by have:=e02.size;omega) (fun ho=>?_)]
            ·exact e02.frame k hk hno
            ·rcases hggen k ho with h|h|h
             ·exact hno h
             ·omega
             ·omega
           ·rcases e23.new b o hb with h|h|h
            ·exact e02.new b o h
            ·exact .inr (.inl (by have:=e02.size;omega))
            ·rcases hggen b h with h|h|h
             ·exact .inr (.inr h)
             ·exact .inr (.inl (by omega))
             ·exact .inr (.inl (by omega))
           ·rcases e23.newg k (hEndO k hk)with h|h
            ·rcases hggen k h with h|h|h
             ·exact .inl h
             ·exact .inr (by omega)
             ·exact .inr (by omega)
            ·exact .inr (by have:=e02.size;omega)
          refine hcont _ W4 Im3 (putAt gk ρ g3') ⟨hs.size,fun j=>?_,?_⟩ ?_ eAll
          ·have:=(hs.fr j).ext eAll
           simp only[St.get]at this ⊢
           cases hlk:look j st.vs with
           | some v=>rw[hlk]at this;exact this
           | none=>simp only[getK,look,Option.getD_none];exact .any _
          ·rw[←hW4];exact hr_put hmerge (hEndl l (.inl rfl)) hil
          ·obtain⟨rs,m1,m2,m3⟩:=hm
           refine⟨d::rs,by simp[m1,mark],List.nodup_cons.2 ⟨fun hdm=>?_,m2⟩,fun r hr=>?_⟩
           ·have:=(Array.getElem?_eq_some_iff.1 (m3 d hdm).2.1).1
            omega
           ·rcases List.mem_cons.1 hr with rfl|hr
            ·refine⟨by omega,?_,hEndl r (.inr rfl),fun o=>(c4 o).2⟩
             rw[←hW4,World.putObj_heap_other (by omega)]
             exact c10
            ·exact(m3 r hr).ext eAll
        ·cases hchk
       ·cases hchk
       ·cases hchk
      rcases hcase with⟨hR,hgo⟩|⟨e,j,xj,hR,hxj,hlj,hej,hexj,hgoj⟩
      ·rw[hR]at h;simp only[rfEnd]at h
       cases hck:rfChk Γ gf caps' ρ H0 xs 0 (HF xs.length)with
       | none=>rw[hck]at h;exact h.elim
       | some H3=>
        rw[hck]at h;refine main 0 (fun _=>none) rfl (fun i xv hi _=>?_) xs.length (fun k hk=>?_) ⟨H3,hck,h⟩
        ·obtain⟨h1,st',h2,h3⟩:=hgo i xv hi
         exact⟨rfl,h1,by simp,st',h3,.inl ⟨rfl,h2⟩⟩
        ·rcases hk with⟨_,h2,h3⟩|⟨h1,_⟩
         ·have:=congrArg List.length h2
          simp at this;omega
         ·exact absurd rfl h1
      ·rw[hR]at h;simp only[rfEnd,Nat.zero_add]at h;have hjl:=(List.getElem?_eq_some_iff.1 hxj).1
       cases hck:rfChk Γ gf caps' ρ H0 xs (j+1) (HF (j+1))with
       | none=>rw[hck]at h;exact h.elim
       | some H3=>
        rw[hck]at h;refine main (j+1) (fun i=>if i=j+1 then exF e else none) (by simp) (fun i xv hi hlt=>?_) (j+1) (fun k hk=>?_) ⟨H3,hck,?_⟩
        ·have hij:i≤j:=by omega
         refine⟨if_neg (by omega),?_⟩
         by_cases hie:i=j
         ·subst hie;rw[hxj]at hi
          cases hi;obtain⟨st',q1,q2⟩:=hexj
          refine⟨hlj,?_,st',q2,.inr ⟨e,by simp,hej,q1⟩⟩
          simp only[if_true]
          cases hee:exF e with
          | none=>exact absurd hee hej
          | some c=>simp
         ·obtain⟨q1,st',q2,q3⟩:=hgoj i xv (by omega) hi
          refine⟨q1,?_,st',q3,.inl ⟨if_neg (by omega),q2⟩⟩
          rw[if_neg (by omega)]
          simp[hie]
        ·rcases hk with⟨h1,_⟩|⟨_,h2⟩
         ·omega
         ·exact h2
        ·intro a' W' Im' g' q1 q2 q3;simp only[if_true]
         cases e with
         | exit id=>exact wpIn_exit (h a' W' Im' g' q1 q2 q3)
         | ret=>exact wpIn_ret (h a' W' Im' g' q1 q2 q3)
         | pan v=>exact absurd rfl hej
     ·exact h.elim
    ·exact h.elim
   ·exact h.elim
 ·exact h.elim
end Go.Ab
/- Code is right. Conditions: the functions that are called are right. -/
namespace Go.Ab
open Go

theorem wpIn_scope_straight{F:Fence}{n:Nat}{P:Program}{c:Code}{Q:Exit→Act→World→Prop}{a:Act}{w:World}(h:c.wpIn F n P (Exit.noGoto Q) a w):(Code.scope c).wpIn F n P Q a w:=by
 intro b k cs hro hb hr;have h0:(lone (b.atR a (.code (.scope c)::k)) cs w).fenced P F:=fenced_calm hb hr rfl
 have s0:step P (lone (b.atR a (.code (.scope c)::k)) cs w)=.next (lone (b.atR a (.code c::.inScope c::k)) cs w):=
  step_lone_go (by simp[stepG,stepG.exec,Frame.atR])
 obtain⟨e,a₁,w₁,hq,harr⟩:=h b (.inScope c::k) cs hro hb hr
 cases e with
 | normal=>
  have s1:step P (lone (b.atR a₁ (.inScope c::k)) cs w₁)=.next (lone (b.atR a₁ k) cs w₁):=step_lone_go (by simp[stepG,stepG.exec,Frame.atR])
  exact⟨.normal,a₁,w₁,hq,.head h0 s0 (StepsIn.trans harr (.one (fenced_calm hb hr rfl) s1))⟩
 | exit id=>
  have hx:exitTo id (.inScope c::k)=exitTo id k:=by simp[exitTo]
  exact⟨.exit id,a₁,w₁,hq,fun k' hk=>.head h0 s0 (harr.1 k' (by rw[hx];exact hk)),
   fun hr' hk=>let ⟨k₁,h1,h2⟩:=harr.2 hr' (by rw[hx];exact hk);⟨k₁,h1,.head h0 s0 h2⟩⟩
 | goto l=>exact hq.elim
 | ret=>exact⟨_,a₁,w₁,hq,.of_steps (.one h0 s0) harr⟩
 | panic ch=>exact⟨_,a₁,w₁,hq,.of_steps (.one h0 s0) harr⟩
 | outgrown=>exact⟨_,a₁,w₁,hq,.of_steps (.one h0 s0) harr⟩

def codeOk(nt:Nat)(hd:Nat→Option (List Ht)):Code→Bool
 | .region id ops draw=>ops.toList.all (fun o=>match o.dst with|some d=>decide (d<nt)|none=>true)&&regOk hd id ops draw
 | .seq a b=>codeOk nt hd a&&codeOk nt hd b
 | .cond _ a b=>codeOk nt hd a&&codeOk nt hd b
 | .block _ c=>codeOk nt hd c
 | .loop c=>codeOk nt hd c
 | .scope c=>codeOk nt hd c
 | .rangeFunc _ ps x y=>ps.toList.all (fun p=>decide (p<nt))&&codeOk nt hd x&&codeOk nt hd y
 | _=>true

section
variable {P:Program}{Γ:Sem'}{hd:Nat→Option (List Ht)}

theorem evC_ex'{fg:Nat→List Nat}{cur:Nat}(c:Code)(e:Ex)(st:St):evC P Γ hd fg cur c (.ex e st)=.ex e st:=by
 induction c generalizing cur with
 | seq a b iha ihb=>show evC P Γ hd fg cur b (evC P Γ hd fg cur a (.ex e st))=_;rw[iha,ihb]
 | scope c ih=>show evC P Γ hd fg cur c (.ex e st)=_;rw[ih]
 | _=>rfl
theorem evC_stuck'{fg:Nat→List Nat}{cur:Nat}(c:Code):evC P Γ hd fg cur c .stuck=.stuck:=by
 induction c generalizing cur with
 | seq a b iha ihb=>show evC P Γ hd fg cur b (evC P Γ hd fg cur a .stuck)=_;rw[iha,ihb]
 | scope c ih=>show evC P Γ hd fg cur c .stuck=_;rw[ih]
 | _=>rfl
theorem plain_ex{fg:Nat→List Nat}:∀ (c:Code) (cur:Nat) (st:St) (e:Ex) (st':St),plainC c=true→evC P Γ hd fg cur c (.go st)=.ex e st'→exF e=none:=by
 intro c;induction c with
 | skip=>intro cur st e st' _ h;cases h
 | region id ops draw=>
  intro cur st e st' _ h;have hev:evC P Γ hd fg cur (.region id ops draw) (.go st)=regK (adR (adH (hd id)) (regA P Γ hd id ops st draw)):=rfl
  rw[hev]at h
  cases hR:regA P Γ hd id ops st draw with
  | run s=>rw[hR]at h;cases h
  | pan v s=>rw[hR]at h;cases h;rfl
  | stuck=>rw[hR]at h;cases h
 | seq a b iha ihb=>
  intro cur st e st' hc h;simp only[plainC,Bool.and_eq_true]at hc;have hev:evC P Γ hd fg cur (.seq a b) (.go st)=evC P Γ hd fg cur b (evC P Γ hd fg cur a (.go st)):=rfl
  rw[hev]at h
  cases ha:evC P Γ hd fg cur a (.go st)with
  | go s=>rw[ha]at h;exact ihb cur s e st' hc.2 h
  | ex x s=>rw[ha,evC_ex']at h;cases h;exact iha cur st e st' hc.1 ha
  | stuck=>rw[ha,evC_stuck']at h;cases h
 | scope c ih=>intro cur st e st' hc h;exact ih cur st e st' hc h
 | _=>intro cur st e st' hc h;cases hc

theorem evC_ok(hΓ:Sound P Γ)(hm:P.follows .mixedOrders=true){nt:Nat}{fg:Nat→List Nat}:∀ (c:Code) (ro:Option Nat) (n0:Nat) (base:List Deferred) (cur:Nat) (st:St) (a:Act) (w:World) (Im:Imm) (g:List Gh) (Q:Exit→Act→World→Prop),
  codeOk nt hd c=true→(ro.isSome=true→noRF c=true)→SRel P w Im g st a nt→Marks n0 w Im g base a.defers→n0≤w.heap.size→Ends P n0 base w Im g nt Q (evC P Γ hd fg cur c (.go st))→c.wpIn (fen ro) 0 P Q a w:=by
 intro c;induction c with
 | skip=>intro ro n0 base cur st a w Im g Q _ _ hs hk _ h;exact wpIn_skip (h a w Im g hs hk (Ext.refl _ _ _))
 | region id ops draw=>
  intro ro n0 base cur st a w Im g Q hc _ hs hk _ h;simp only[codeOk,Bool.and_eq_true]at hc;obtain⟨hc1,hc2⟩:=hc
  have hdst:∀ (i:Nat) (o:Oper) (d:Nat),ops[i]?=some o→o.dst=some d→d<nt:=by
   intro i o d ho hds;have:=List.all_eq_true.1 hc1 o (by rw[Array.mem_toList_iff];exact Array.mem_of_getElem? ho)
   rw[hds]at this;simpa using this
  have hev:evC P Γ hd fg cur (.region id ops draw) (.go st)=regK (adR (adH (hd id)) (regA P Γ hd id ops st draw)):=rfl
  rw[hev]at h
  cases hR:regA P Γ hd id ops st draw with
  | run st'=>
   rw[hR]at h;refine region_wp hΓ hm hdst hc2 hs hR (by simp) (fun st'' a' w' Im' g' he h1 h2 h3=>?_) (fun c st'' v a' w' Im' g' he _ _ _ _=>by cases he)
   cases he;obtain⟨Im'',g'',k1,k2⟩:=adS_ok (adH (hd id)) _ Im' g' h1
   exact h a' w' Im'' g'' k1 ((h2▸hk.ext h3).ext k2) (h3.trans k2)
  | pan v st'=>
   rw[hR]at h;refine region_wp hΓ hm hdst hc2 hs hR (by simp) (fun st'' a' w' Im' g' he _ _ _=>by cases he) (fun c st'' u a' w' Im' g' he h1 h2 h3 h4=>?_)
   cases he;exact h u a' w' Im' g' h1 h2 (h3▸hk.ext h4) h4
  | stuck=>rw[hR]at h;exact h.elim
 | seq x y ihx ihy=>
  intro ro n0 base cur st a w Im g Q hc hr hs hk hn h;simp only[codeOk,Bool.and_eq_true]at hc;simp only[noRF,Bool.and_eq_true]at hr;have hev:evC P Γ hd fg cur (.seq x y) (.go st)=evC P Γ hd fg cur y (evC P Γ hd fg cur x (.go st)):=rfl
  rw[hev]at h;refine wpIn_seq (ihx ro n0 base cur st a w Im g _ hc.1 (fun e=>(hr e).1) hs hk hn ?_)
  cases hx:evC P Γ hd fg cur x (.go st)with
  | go st1=>
   rw[hx]at h;intro a' w' Im' g' h1 h2 h3;exact ihy ro n0 base cur st1 a' w' Im' g' Q hc.2 (fun e=>(hr e).2) h1 h2 (Nat.le_trans hn h3.size) (h.later h3)
  | ex e st1=>
   rw[hx,evC_ex']at h
   cases e with
   | exit id=>exact h
   | ret=>exact h
   | pan v=>exact h
  | stuck=>rw[hx,evC_stuck']at h;exact h.elim
 | cond c x y ihx ihy=>
  intro ro n0 base cur st a w Im g Q hc hr hs hk hn h;simp only[codeOk,Bool.and_eq_true]at hc;simp only[noRF,Bool.and_eq_true]at hr;have hev:evC P Γ hd fg cur (.cond c x y) (.go st)=condK (evC P Γ hd fg cur x) (evC P Γ hd fg cur y) st (evArg st c):=rfl
  rw[hev]at h;have hrp:=evArg_ok hs.fr c
  unfold condK at h;split at h
  ·rename_i hb;rw[hb]at hrp;exact wpIn_cond (bool_inv hrp) (ihx ro n0 base cur st a w Im g Q hc.1 (fun e=>(hr e).1) hs hk hn h)
  ·rename_i hb;rw[hb]at hrp;exact wpIn_cond (bool_inv hrp) (ihy ro n0 base cur st a w Im g Q hc.2 (fun e=>(hr e).2) hs hk hn h)
  ·exact h.elim
 | block id c ih=>
  intro ro n0 base cur st a w Im g Q hc hr hs hk hn h;have hev:evC P Γ hd fg cur (.block id c) (.go st)=blockK id (evC P Γ hd fg id c (.go st)):=rfl
  rw[hev]at h;refine wpIn_block (ih ro n0 base id st a w Im g _ hc hr hs hk hn ?_)
  cases hx:evC P Γ hd fg id c (.go st)with
  | go st1=>rw[hx]at h;exact h
  | ex e st1=>
   rw[hx]at h
   cases e with
   | exit k=>
    simp only[blockK]at h;intro a' w' Im' g' h1 h2 h3;simp only[Exit.inBlock];split at h
    ·rename_i hk;rw[if_pos hk];exact h a' w' Im' g' h1 h2 h3
    ·rename_i hk;rw[if_neg hk];exact h a' w' Im' g' h1 h2 h3
   | ret=>exact h
   | pan v=>exact h
  | stuck=>rw[hx]at h;exact h.elim
 | loop c ih=>
  intro ro n0 base cur st a w Im g Q hc hr hs hk hn0 h;have hev:evC P Γ hd fg cur (.loop c) (.go st)=loopA (evC P Γ hd fg cur c) (wk st.H.length (fg cur)) st:=rfl
  rw[hev]at h
  have hne:loopA (evC P Γ hd fg cur c) (wk st.H.length (fg cur)) st≠.stuck:=by
   intro h';rw[h']at h;exact h
  obtain⟨n,hn⟩:=loopA_some hne
  rw[←hn]at h hne;have hgl:g.length=st.H.length:=hs.hr.len
  refine wpIn_loop_ghost (fun m a' w'=>∃ st' Im' g',loopN (evC P Γ hd fg cur c) (wk st.H.length (fg cur)) m st'=loopN (evC P Γ hd fg cur c) (wk st.H.length (fg cur)) n st∧SRel P w' Im' g' st' a' nt∧Marks n0 w' Im' g' base a'.defers∧Ext w Im g w' Im' g') n ⟨st,Im,g,rfl,hs,hk,Ext.refl _ _ _⟩ ?_
  rintro m a1 w1 ⟨st1,Im1,g1,hm,hs1,hk1,he1⟩
  cases m with
  | zero=>exact absurd hm.symm hne
  | succ m=>
   simp only[loopN]at hm
   cases hw:wk st.H.length (fg cur) st1 with
   | none=>rw[hw]at hm;exact absurd hm.symm hne
   | some st2=>
    rw[hw]at hm;simp only[wkR]at hm;have hs2:=wk_ok hs1 hw
    have hto:∀ k,Owns (g1.take st.H.length) k→Owns g1 k:=by
     rintro k ⟨r,x,hx,hxk⟩
     rw[List.getElem?_take]at hx
     split at hx
     ·exact⟨r,x,hx,hxk⟩
     ·cases hx
    have he2:Ext w Im g w1 Im1 (g1.take st.H.length):=by
     have hkk:∀ (r:Nat) (x:Gh),r<g.length→g1[r]?=some x→(g1.take st.H.length)[r]?=some x:=fun r x hr hx=>by rw[List.getElem?_take,if_pos (by omega)];exact hx
     refine⟨he1.os,he1.tape,he1.output,he1.size,he1.mono,he1.keep,he1.frame,he1.new,fun k hk=>he1.newg k (hto k hk),⟨fun r b hr=>hkk r _ (List.getElem?_eq_some_iff.1 hr).1 (he1.gle.cell r b hr),fun r ep esz base len cap hr=>?_,fun r l T hr=>?_,fun r b row hr=>?_,fun r bs hr=>?_⟩⟩
     ·obtain⟨ep',base',len',cap',k1,k2⟩:=he1.gle.gr r ep esz base len cap hr
      exact⟨ep',base',len',cap',hkk r _ (List.getElem?_eq_some_iff.1 hr).1 k1,k2⟩
     ·obtain⟨T',k1⟩:=he1.gle.yld r l T hr
      exact⟨T',hkk r _ (List.getElem?_eq_some_iff.1 hr).1 k1⟩
     ·obtain⟨row',k1⟩:=he1.gle.bld r b row hr
      exact⟨row',hkk r _ (List.getElem?_eq_some_iff.1 hr).1 k1⟩
     ·obtain⟨row',k1⟩:=he1.gle.reg r bs hr
      exact⟨row',hkk r _ (List.getElem?_eq_some_iff.1 hr).1 k1⟩
    have hk2:Marks n0 w1 Im1 (g1.take st.H.length) base a1.defers:=by
     obtain⟨rs,p1,p2,p3⟩:=hk1
     refine⟨rs,p1,p2,fun r hr=>?_⟩
     obtain⟨q2,q3,q4,q5⟩:=p3 r hr
     exact⟨q2,q3,fun ho=>q4 (hto r ho),q5⟩
    refine ih ro n0 base cur st2 a1 w1 Im1 _ _ hc hr hs2 hk2 (Nat.le_trans hn0 he1.size) ?_
    cases hx:evC P Γ hd fg cur c (.go st2)with
    | go st3=>
     rw[hx]at hm;simp only[loopK]at hm;intro a' w' Im' g' h1 h2 h3;exact⟨m,by omega,st3,Im',g',hm,h1,h2,he2.trans h3⟩
    | ex e st3=>
     rw[hx]at hm;simp only[loopK]at hm;rw[←hm]at h;have h':=h.later he2
     cases e with
     | exit id=>exact h'
     | ret=>exact h'
     | pan v=>exact h'
    | stuck=>
     rw[hx]at hm;exact absurd hm.symm hne
 | rangeFunc gop ps x y ihx ihy=>
  intro ro n0 base cur st a w Im g Q hc hr hs hk hn h;have hev:evC P Γ hd fg cur (.rangeFunc gop ps x y) (.go st)=rfIf (plainC x&&noRF y) (rfA Γ (fun vs v H=>evC P Γ hd fg cur y (evC P Γ hd fg cur x (.go (zipP ps.toList v ⟨vs,[],H⟩)))) ps.size st.vs st.H (evArg st gop)):=rfl
  rw[hev]at h
  have hro:ro=none:=by
   cases ro with
   | none=>rfl
   | some l=>exact absurd (hr rfl) (by simp[noRF])
  subst hro
  cases hpl:(plainC x&&noRF y)with
  | false=>rw[hpl]at h;exact h.elim
  | true=>
   rw[hpl]at h;simp only[rfIf]at h;simp only[Bool.and_eq_true]at hpl;simp only[codeOk,Bool.and_eq_true]at hc
   have hnx:noRF x=true:=by
    have:∀ c:Code,plainC c=true→noRF c=true:=by
     intro c;induction c with
     | seq a b iha ihb=>intro h;simp only[plainC,Bool.and_eq_true]at h;simp only[noRF,iha h.1,ihb h.2,Bool.and_self]
     | scope c ih=>intro h;exact ih h
     | skip=>intro _;rfl
     | region=>intro _;rfl
     | _=>intro h;cases h
    exact this x hpl.1
   refine range_wp (fx:=fun st=>evC P Γ hd fg cur x (.go st)) (fy:=fun st=>evC P Γ hd fg cur y (.go st)) hΓ (fun p hp=>?_) (fun st e st' he=>plain_ex x cur st e st' hpl.1 he) (fun vs v H=>?_) ?_ ?_ hs hk hn h
   ·have:=List.all_eq_true.1 hc.1.1 p hp
    simpa using this
   ·cases evC P Γ hd fg cur x (.go (zipP ps.toList v ⟨vs,[],H⟩))with
    | go s=>rfl
    | ex e s=>exact evC_ex' _ _ _
    | stuck=>exact evC_stuck' _
   ·intro l st a w Im g Q h1 h2 h3;exact ihx (some l) 0 [] cur st a w Im g Q hc.1.2 (fun _=>hnx) h1 (h2▸Marks.refl _ _ _ _ _) (Nat.zero_le _) h3
   ·intro l st a w Im g Q h1 h2 h3;exact ihy (some l) 0 [] cur st a w Im g Q hc.2 (fun _=>hpl.2) h1 h2 (Nat.zero_le _) h3
 | exit id=>intro ro n0 base cur st a w Im g Q _ _ hs hk _ h;exact wpIn_exit (h a w Im g hs.clear hk (Ext.refl _ _ _))
 | scope c ih=>
  intro ro n0 base cur st a w Im g Q hc hr hs hk hn h;have hev:evC P Γ hd fg cur (.scope c) (.go st)=evC P Γ hd fg cur c (.go st):=rfl
  rw[hev]at h;refine wpIn_scope_straight (ih ro n0 base cur st a w Im g _ hc hr hs hk hn ?_)
  cases hx:evC P Γ hd fg cur c (.go st)with
  | go st1=>rw[hx]at h;exact h
  | ex e st1=>
   rw[hx]at h
   cases e with
   | exit id=>exact h
   | ret=>exact h
   | pan v=>exact h
  | stuck=>rw[hx]at h;exact h.elim
 | label l=>intro ro n0 base cur st a w Im g Q _ _ hs hk _ h;exact wpIn_label (h a w Im g hs hk (Ext.refl _ _ _))
 | goto l=>intro ro n0 base cur st a w Im g Q _ _ _ _ _ h;exact h.elim
 | ret=>intro ro n0 base cur st a w Im g Q _ _ hs hk _ h;exact wpIn_ret (h a w Im g hs.clear hk (Ext.refl _ _ _))
 | refuse s=>intro ro n0 base cur st a w Im g Q _ _ _ _ _ h;exact h.elim
end
end Go.Ab
/- The abstract evaluator is right of functions. Conditions: the functions that are called are right. -/
namespace Go.Ab
open Go

theorem look_numbered:∀ (as:List AV) (i k:Nat) (tl:List (Nat×AV)),look k (numbered i as++tl)=if i≤k∧k<i+as.length then as[k-i]? else look k tl
 | [],i,k,tl=>by simp[numbered];omega
 | a::as,i,k,tl=>by
  simp only[numbered,List.cons_append,look];by_cases h:i=k
  ·subst h;simp
  ·rw[if_neg h,look_numbered as (i+1) k tl];by_cases h2:i+1≤k∧k<i+1+as.length
   ·rw[if_pos h2,if_pos (by simp;omega)]
    rw[show k-i=(k-(i+1))+1 by omega];simp
   ·rw[if_neg h2,if_neg (by simp;omega)]
theorem look_blank:∀ (vs:List Nat) (k:Nat),look k (blank vs)=none∨look k (blank vs)=some (.tuple [])
 | [],k=>.inl rfl
 | j::vs,k=>by
  simp only[blank,look];split
  ·exact .inr rfl
  ·exact look_blank vs k

section
variable {P:Program}{Γ:Sem'}{w:World}{Im:Imm}{g:List Gh}{H:List AObj}

theorem start_ok{as:List AV}{args:List Value}{vs:List Nat}{nt:Nat}(hr:RepAs w Im g args as)(hH:HR P w Im g H)(hl:as.length≤nt) :
  SRel P w Im g (start as vs H) { tmps:=(⟨args⟩:Array Value)++Array.replicate (nt-(⟨args⟩:Array Value).size) undef,defers:=[] } nt:=by
 have hsz:=hr.1
 refine⟨by simp;omega,fun k=>?_,hH⟩
 simp only[St.get,start];rw[look_numbered]
 have hget:((⟨args⟩:Array Value)++Array.replicate (nt-(⟨args⟩:Array Value).size) undef).getD k undef=if k<args.length then args.getD k undef else undef:=by
  rw[Array.getD_eq_getD_getElem?];by_cases hk:k<args.length
  ·rw[Array.getElem?_append_left (by simpa using hk),if_pos hk]
   simp[List.getD_eq_getElem?_getD]
  ·rw[Array.getElem?_append_right (by simpa using Nat.le_of_not_lt hk),if_neg hk,Array.getElem?_replicate]
   split<;>rfl
 rw[hget];by_cases hk:k<as.length
 ·rw[if_pos (show 0≤k∧k<0+as.length from⟨Nat.zero_le _,by omega⟩),if_pos (show k<args.length by omega)]
  simp only[Nat.sub_zero];rw[List.getElem?_eq_getElem hk]
  simp only[getK];rw[List.getD_eq_getElem?_getD,List.getElem?_eq_getElem (by omega:k<args.length)]
  exact hr.2 k _ _ (List.getElem?_eq_getElem (by omega)) (List.getElem?_eq_getElem hk)
 ·rw[if_neg (by omega),if_neg (by omega)]
  rcases look_blank vs k with h|h
  ·rw[h];simp only[getK,look,Option.getD_none];exact .any _
  ·rw[h];exact .tuple [] [] rfl (fun _ _ _ h=>by simp at h)

def resV(tmps:Array Value):ResultVar→Sem Value
 | .tmp t=>pure (tmps.getD t undef)
 | .cell a t=>do loadVar t (←asAddr (tmps.getD a undef))

theorem resA_ok{st:St}{tmps:Array Value}(hf:FrameRep w Im g st tmps)(hH:HR P w Im g st.H){x:ResultVar}{c:AV}(h:resA P st x=some c) :
  ∃ v,(resV tmps x).run P w=.ok v w∧RepA w Im g v c:=by
 cases x with
 | tmp t=>simp only[resA]at h;cases h;exact⟨_,rfl,hf t⟩
 | cell a t=>
  simp only[resA]at h;have hfa:=hf a
  obtain⟨u,h1,h2⟩:=loadA_ok hH hfa h
  refine⟨u,?_,h2⟩
  simp only[resV];rw[←h1]
  cases hx:st.get a with
  | ptr r off=>rw[hx]at hfa;cases hv:tmps.getD a undef<;>rw[hv]at hfa<;>cases hfa;simp[Instr.loadAt,Instr.sureAddr,asAddr]
  | dp cs=>rw[hx]at hfa;cases hv:tmps.getD a undef<;>rw[hv]at hfa<;>cases hfa;simp[Instr.loadAt,Instr.sureAddr,asAddr]
  | sp r e off=>rw[hx]at hfa;cases hv:tmps.getD a undef<;>rw[hv]at hfa<;>cases hfa;simp[Instr.loadAt,Instr.sureAddr,asAddr]
  | rp k off=>rw[hx]at hfa;cases hv:tmps.getD a undef<;>rw[hv]at hfa<;>cases hfa;simp[Instr.loadAt,Instr.sureAddr,asAddr]
  | _=>rw[hx]at h;simp[loadA]at h

theorem resL_ok{st:St}{tmps:Array Value}(hf:FrameRep w Im g st tmps)(hH:HR P w Im g st.H):∀ {xs:List ResultVar} {cs:List AV},resL P st xs=some cs →
  ∃ vs,(xs.mapM (resV tmps)).run P w=.ok vs w∧RepAs w Im g vs cs
 | [],cs,h=>by cases h;exact⟨[],rfl,RepAs.nil⟩
 | x::xs,cs,h=>by
  simp only[resL]at h;split at h
  ·rename_i c cs' h1 h2
   cases h;obtain⟨v,k1,k2⟩:=resA_ok hf hH h1
   obtain⟨vs,j1,j2⟩:=resL_ok hf hH h2
   refine⟨v::vs,?_,RepAs.cons k2 j2⟩
   simp only[List.mapM_cons,Sem.run_bind];rw[k1];simp only[Result.andThen_ok];rw[j1];rfl
  ·cases h

theorem results_ok{fn:Func}{st:St}{tmps:Array Value}(hf:FrameRep w Im g st tmps)(hH:HR P w Im g st.H){c:AV}(h:oneO (resL P st fn.results.toList)=some c) :
  ∃ v,(results fn tmps).run P w=.ok v w∧RepA w Im g v c:=by
 cases hl:resL P st fn.results.toList with
 | none=>rw[hl]at h;cases h
 | some cs=>
  rw[hl]at h;simp only[oneO]at h
  cases h;obtain⟨vs,h1,h2⟩:=resL_ok hf hH hl
  have hrun:(results fn tmps).run P w=.ok (if h:(⟨vs⟩:Array Value).size=1 then(⟨vs⟩:Array Value)[0]else .tuple ⟨vs⟩) w:=by
   show((do let vs ←fn.results.mapM (resV tmps);pure (if h:vs.size=1 then vs[0]else .tuple vs):Sem Value)).run P w=_
   rw[Array.mapM_eq_mapM_toList];simp only[Sem.run_bind,Sem.run_map];rw[h1];rfl
  refine⟨_,hrun,?_⟩
  obtain⟨hlen,hrep⟩:=h2
  cases cs with
  | nil=>
   have:vs=[]:=List.length_eq_zero_iff.1 hlen
   subst this;exact .tuple [] [] rfl (fun _ _ _ h=>by simp at h)
  | cons c cs=>
   cases vs with
   | nil=>simp at hlen
   | cons v vs=>
    cases cs with
    | nil=>
     have:vs=[]:=List.length_eq_zero_iff.1 (by simpa using hlen)
     subst this;exact hrep 0 _ _ rfl rfl
    | cons c' cs=>
     have hne:¬(⟨v::vs⟩:Array Value).size=1:=by simp at hlen ⊢;intro h;subst h;simp at hlen
     rw[dif_neg hne];exact .tuple _ _ hlen hrep

theorem giveQ_ok{kp:Bool}(hH:HR P w Im g H){F:List Nat}{v:Value}{c c':AV}(h:RepA w Im g v c)(hF:∀ r,r∈arrs2 c→r∈F)(hg:giveQ H c kp=some c')(e:Ext w Im g w (fun b o=>Im b o∨Froz w g F b) g) :
  RepA w (fun b o=>Im b o∨Froz w g F b) g v c':=by
 cases kp with
 | false=>exact give2_ok hH h hF hg e
 | true=>
  simp only[giveQ]at hg;unfold keepV at hg;split at hg
  ·cases hg;exact h.ext e
  ·exact give2_ok hH h hF hg e
theorem unOL_at:∀ {cs:List AV} {i:Nat} {c:AV},(unOL cs)[i]?=some c→∃ d,cs[i]?=some d∧c=unO d
 | [],i,c,h=>by simp[unOL]at h
 | d::cs,0,c,h=>by simp[unOL]at h;exact⟨d,rfl,h.symm⟩
 | d::cs,i+1,c,h=>by simp only[unOL,List.getElem?_cons_succ]at h ⊢;exact unOL_at h
theorem unOL_len:∀ (cs:List AV),(unOL cs).length=cs.length
 | []=>rfl
 | d::cs=>by simp[unOL,unOL_len cs]
theorem unOL1_at:∀ {cs:List AV} {i:Nat} {c:AV},(unOL1 cs)[i]?=some c→∃ d,cs[i]?=some d∧c=unO1 d
 | [],i,c,h=>by simp[unOL1]at h
 | d::cs,0,c,h=>by simp[unOL1]at h;exact⟨d,rfl,h.symm⟩
 | d::cs,i+1,c,h=>by simp only[unOL1,List.getElem?_cons_succ]at h ⊢;exact unOL1_at h
theorem unOL1_len:∀ (cs:List AV),(unOL1 cs).length=cs.length
 | []=>rfl
 | d::cs=>by simp[unOL1,unOL1_len cs]
theorem unO1_ok{v:Value}{c:AV}(h:RepA w Im g v c):RepA w Im g v (unO1 c):=by
 unfold unO1;split
 ·cases h with
  | agg vs cs hl h1 h=>
   refine .agg vs _ (by rw[unOL_len];exact hl) h1 (fun i v c hv hc=>?_)
   obtain⟨d,hd,rfl⟩:=unOL_at hc
   exact unO_ok (h i v d hv hd)
 ·exact unO_ok h
theorem unO2_ok{v:Value}{c:AV}(h:RepA w Im g v c):RepA w Im g v (unO2 c):=by
 unfold unO2;split
 ·cases h with
  | tuple vs cs hl h=>
   refine .tuple vs _ (by rw[unOL1_len];exact hl) (fun i v c hv hc=>?_)
   obtain⟨d,hd,rfl⟩:=unOL1_at hc
   exact unO1_ok (h i v d hv hd)
 ·exact unO1_ok h
theorem prepQ_ok{kp:Bool}{v:Value}{c:AV}(h:RepA w Im g v c):RepA w Im g v (prepQ c kp):=by
 cases kp with
 | true=>exact toO_ok h
 | false=>exact unO2_ok h
theorem leaveP_ok{kp:Bool}{k:Nat}{v:Value}{c:AV}{mk:AV→Out}{out:Out}{H':List AObj}(hH:HR P w Im g H)(hv:RepA w Im g v c)(hk:k≤H.length)(h:leaveP kp mk k H c=some (out,H')) :
  ∃ (c':AV) (Im':Imm) (g':List Gh),out=mk c'∧HR P w Im' g' H'∧k≤H'.length∧(∀ i:Nat,i<k→g'[i]?=g[i]?)∧(∀ (i:Nat) (x:Gh),g'[i]?=some x→x=.no∨∃ j:Nat,g[j]?=some x)∧(∀ (b o:Nat),Im b o→Im' b o)∧(∀ b o:Nat,Im' b o→Im b o∨Owns g b)∧RepA w Im' g' v c':=by
 have hF:∀ r,r∈arrs2 c→r<H.length:=arrs2_lt hH hv
 obtain⟨hH0,he0⟩:=froz_hr hH hF (arrs2_cell hv)
 simp only[leaveP]at h
 cases hg:giveQ H c kp with
 | none=>rw[hg]at h;cases h
 | some c1=>
  rw[hg]at h;have hv1:=giveQ_ok hH hv (fun r hr=>hr) hg he0
  have hlen:(setOs H (noes (arrs2 c))).length=H.length:=(setOs_noes _ H hF).1
  have hIm:∀ b o,(Im b o∨Froz w g (arrs2 c) b)→Im b o∨Owns g b:=by
   rintro b o (h|⟨r,_,hr,_⟩)
   ·exact .inl h
   ·exact .inr ⟨r,_,hr,rfl⟩
  simp only[leave1]at h;generalize hH1:setOs H (noes (arrs2 c))=H1 at h hH0 hlen
  cases hb:(refsOk k (refs c1)&&refsOk k (refsH (H1.take k))&&rgK k (hasRp c1) hasReg)with
  | true=>
   rw[hb]at h;simp only[leave2]at h
   cases h;simp only[Bool.and_eq_true]at hb
   have hg':∀ i,i<k→(g.take k)[i]?=g[i]?:=fun i hi=>by rw[List.getElem?_take,if_pos hi]
   refine⟨c1,_,g.take k,rfl,hH0.first k (fun i o hi ho r hr=>refsH_at hb.1.2 i o (by rw[List.getElem?_take,if_pos hi];exact ho) r hr),by simp;omega,hg',fun i x hx=>?_,fun b o h=>.inl h,hIm,?_⟩
   ·rw[List.getElem?_take]at hx
    split at hx
    ·exact .inr ⟨i,hx⟩
    ·cases hx
   ·refine hv1.fewer (fun r x hr hx=>?_) (fun bs hh=>rgK_ok hH0.rg hb.2 hh bs)
    rw[List.getElem?_take,if_pos]
    ·exact hx
    ·simpa using List.all_eq_true.1 hb.1.1 r hr
  | false=>
   rw[hb]at h;simp only[leave2]at h;generalize hρ:reach H1 (2*H1.length+8) (refs c1++refsH (H1.take k)) (List.range k)=ρ at h
   cases hc:(closed H1 ρ [c1]&&decide (ρ.take k=List.range k)&&rgK k (hasRp c1||hasRpH H1) hasReg)with
   | false=>rw[hc]at h;cases h
   | true=>
    rw[hc]at h;simp only[leave3]at h
    cases h;simp only[Bool.and_eq_true,decide_eq_true_eq]at hc
    obtain⟨⟨hc,hct⟩,hck⟩:=hc
    obtain⟨q1,_,q3,_⟩:=closed_inv hc
    have hkρ:k≤ρ.length:=by
     have:=congrArg List.length hct
     simp at this;omega
    have hat:∀ i,i<k→ρ[i]?=some i:=by
     intro i hi;have:=congrArg (fun l=>l[i]?) hct
     simp only[List.getElem?_take,if_pos hi,List.getElem?_range hi]at this
     exact this
    have key:(hasRp c1=true∨hasRpH H1=true)→∀ bs,g[0]?=some (.reg bs)→ρ[0]?=some 0:=by
     intro hh bs hb0;have hb':(hasRp c1||hasRpH H1)=true:=by simpa using hh
     rw[hb']at hck
     cases hr:hasReg with
     | false=>exact absurd hb0 (hH0.rg.off hr 0 bs)
     | true=>
      rw[hr]at hck;simp only[rgK,Bool.not_true,Bool.or_false,decide_eq_true_eq]at hck;exact hat 0 hck
    obtain⟨hs1,hs2⟩:=hr_sub hH0 hc ⟨fun c hc' hh=>key (.inl (by simp at hc';subst hc';exact hh)),fun r hr hh=>key (.inr (hasRpH_of (by
     have hlt:=(q3 r hr).2
     rw[List.getD_eq_getElem?_getD,List.getElem?_eq_getElem hlt]
     exact List.getElem_mem hlt) hh))⟩
    have hgl:g.length=H.length:=hH.len
    refine⟨_,_,_,rfl,hs1,by simp;exact hkρ,fun i hi=>?_,fun i x hx=>?_,fun b o h=>.inl h,hIm,hs2 c1 v (by simp) hv1⟩
    ·rw[List.getElem?_map,hat i hi,List.getElem?_eq_getElem (by omega)]
     simp[List.getD_eq_getElem?_getD,List.getElem?_eq_getElem (by omega:i<g.length)]
    ·rw[List.getElem?_map]at hx
     cases hi:ρ[i]? with
     | none=>rw[hi]at hx;cases hx
     | some r=>
      rw[hi]at hx;simp only[Option.map_some,Option.some.injEq,List.getD_eq_getElem?_getD]at hx
      cases hgr:g[r]? with
      | none=>rw[hgr]at hx;exact .inl hx.symm
      | some y=>rw[hgr]at hx;exact .inr ⟨r,by rw[hgr];exact congrArg some hx⟩
theorem leave_ok{kp:Bool}{k:Nat}{v:Value}{c:AV}{mk:AV→Out}{out:Out}{H':List AObj}(hH:HR P w Im g H)(hv:RepA w Im g v c)(hk:k≤H.length)(h:leave kp mk k H (some c)=some (out,H')) :
  ∃ (c':AV) (Im':Imm) (g':List Gh),out=mk c'∧HR P w Im' g' H'∧k≤H'.length∧(∀ i:Nat,i<k→g'[i]?=g[i]?)∧(∀ (i:Nat) (x:Gh),g'[i]?=some x→x=.no∨∃ j:Nat,g[j]?=some x)∧(∀ (b o:Nat),Im b o→Im' b o)∧(∀ b o:Nat,Im' b o→Im b o∨Owns g b)∧RepA w Im' g' v c':=by
 simp only[leave]at h;exact leaveP_ok hH (prepQ_ok hv) hk h

theorem leave_post{kp:Bool}{w0:World}{Im0:Imm}{g0:List Gh}{H0:List AObj}{v:Value}{c:AV}{mk:AV→Out}{out:Out}{H':List AObj}(h0:HR P w0 Im0 g0 H0)(e:Ext w0 Im0 g0 w Im g)(hH:HR P w Im g H)(hv:RepA w Im g v c)(hk:H0.length≤H.length)(h:leave kp mk H0.length H (some c)=some (out,H')) :
  H0.length≤H'.length∧∃ c' Im' g',out=mk c'∧HR P w Im' g' H'∧Ext w0 Im0 g0 w Im' g'∧RepA w Im' g' v c':=by
 obtain⟨c',Im',g',h1,h2,h3,h4,h5,h6,h7,h8⟩:=leave_ok hH hv hk h
 refine⟨h3,c',Im',g',h1,h2,⟨e.os,e.tape,e.output,e.size,fun b o hb=>h6 b o (e.mono b o hb),e.keep,e.frame,fun b o hb=>?_,fun k hk=>?_,⟨fun r b hr=>?_,fun r ep esz base len cap hr=>?_,fun r l T hr=>?_,fun r b row hr=>?_,fun r bs hr=>?_⟩⟩,h8⟩
 ·rcases h7 b o hb with hb|hb
  ·exact e.new b o hb
  ·rcases e.newg b hb with hb|hb
   ·exact .inr (.inr hb)
   ·exact .inr (.inl hb)
 ·obtain⟨r,x,hr,hx⟩:=hk
  rcases h5 r x hr with rfl|⟨j,hj⟩
  ·exact hx.elim
  ·exact e.newg k ⟨j,x,hj,hx⟩
 ·have hl:=(List.getElem?_eq_some_iff.1 hr).1
  rw[h4 r (by rw[h0.len]at hl;exact hl)]
  exact e.gle.cell r b hr
 ·have hl:=(List.getElem?_eq_some_iff.1 hr).1
  rw[h4 r (by rw[h0.len]at hl;exact hl)]
  exact e.gle.gr r ep esz base len cap hr
 ·have hl:=(List.getElem?_eq_some_iff.1 hr).1
  rw[h4 r (by rw[h0.len]at hl;exact hl)]
  exact e.gle.yld r l T hr
 ·have hl:=(List.getElem?_eq_some_iff.1 hr).1
  rw[h4 r (by rw[h0.len]at hl;exact hl)]
  exact e.gle.bld r b row hr
 ·have hl:=(List.getElem?_eq_some_iff.1 hr).1
  rw[h4 r (by rw[h0.len]at hl;exact hl)]
  exact e.gle.reg r bs hr
end

def RSge(n:Nat):RS→Prop
 | .run st=>n≤st.H.length
 | .pan _ st=>n≤st.H.length
 | .stuck=>True
def DSge(n:Nat):DS→Prop
 | .run st _=>n≤st.H.length
 | .pan st _ _ _ H=>n≤st.H.length∧n≤H.length
 | .stuck=>True
def RCge(n:Nat):RC→Prop
 | .go st=>n≤st.H.length
 | .ex _ st=>n≤st.H.length
 | .stuck=>True

section
variable {P:Program}{Γ:Sem'}

theorem stepRS_ge{n:Nat}{ops:Array Oper}{p:Nat}{o:Oper}{r:RS}(h:RSge n r):RSge n (stepRS P Γ ops p o r):=by
 cases r with
 | run st=>
  simp only[stepRS,RSge]at h ⊢
  cases guardA ops st o.guard with
  | none=>exact trivial
  | some b=>
   cases b with
   | false=>simp only[opK];show n≤(st.putO o.dst (.tuple [])).H.length;rw[putO_H];exact h
   | true=>
    simp only[opK]
    cases opV P Γ p st o.type o.op with
    | none=>exact trivial
    | some q=>
     cases q with
     | val v ws=>
      show n≤((st.setH ws).putO o.dst v).H.length
      rw[putO_H];exact Nat.le_trans h (len_setOs ws st.H)
     | pan v ws=>exact Nat.le_trans h (len_setOs ws st.H)
 | pan v st=>exact h
 | stuck=>exact trivial
theorem evOps_ge{n:Nat}{ops:Array Oper}:∀ (l:List Oper) (p:Nat) (r:RS),RSge n r→RSge n (evOps P Γ ops l p r)
 | [],_,_,h=>h
 | o::l,p,r,h=>by simp only[evOps];exact evOps_ge l _ _ (stepRS_ge h)
theorem dOp_ge{n:Nat}{n0 p i:Nat}{ht:Ht}{hs:List (Nat×Ev)}{o:Oper}{st:St}{b:Option Bool}(h:n≤st.H.length):DSge n (dOp P Γ n0 p i ht hs o st b):=by
 cases b with
 | none=>exact trivial
 | some b=>
  cases b with
  | false=>simp only[dOp];show n≤(st.putO o.dst (.tuple [])).H.length;rw[putO_H];exact h
  | true=>
   simp only[dOp]
   cases opV P Γ p (maskS n0 ht.ms st) o.type o.op with
   | none=>exact trivial
   | some q=>
    cases q with
    | val v ws=>
     simp only[dRes,dHeld];split
     ·show n≤((st.setH ws).putO o.dst v).H.length
      rw[putO_H];exact Nat.le_trans h (len_setOs ws st.H)
     ·exact trivial
    | pan v ws=>
     simp only[dRes]
     cases panOp o.op with
     | false=>exact trivial
     | true=>
      simp only[dPan];refine⟨?_,Nat.le_trans h (len_setOs ws st.H)⟩
      rw[putO_H];exact h
theorem stepD_ge{n:Nat}{ops:Array Oper}{n0 p i:Nat}{ht:Ht}{o:Oper}{r:DS}(h:DSge n r):DSge n (stepD P Γ ops n0 p i ht o r):=by
 cases r with
 | run st hs=>exact dOp_ge h
 | pan st hs dead v H=>
  simp only[stepD]
  cases deadL dead o.after.toList with
  | true=>
   simp only[stepP];refine⟨?_,h.2⟩
   rw[putO_H];exact h.1
  | false=>
   simp only[stepP];have:=dOp_ge (P:=P) (Γ:=Γ) (n0:=n0) (p:=p) (i:=i) (ht:=ht) (hs:=hs) (o:=o) (b:=guardA ops st o.guard) h.1
   cases hr:dOp P Γ n0 p i ht hs o st (guardA ops st o.guard)with
   | run st' hs'=>rw[hr]at this;exact⟨this,h.2⟩
   | pan _ _ _ _ _=>exact trivial
   | stuck=>exact trivial
 | stuck=>exact trivial
theorem evD_ge{n:Nat}{ops:Array Oper}{n0:Nat}:∀ (l:List Oper) (hts:List Ht) (i p:Nat) (r:DS),DSge n r→DSge n (evD P Γ ops n0 l hts i p r)
 | [],_,_,_,_,h=>h
 | o::l,hts,i,p,r,h=>by simp only[evD];exact evD_ge l _ _ _ _ (stepD_ge h)
theorem ready_ge(st:St)(k:Nat):st.H.length≤(st.ready k).H.length:=by simp[St.ready]
theorem leave1_len{mk:AV→Out}{k:Nat}{H H':List AObj}{v:AV}{out:Out}(h:leave1 mk k H (some v)=some (out,H'))(hk:k≤H.length):k≤H'.length:=by
 replace h:leave2 mk k v H (refsOk k (refs v)&&refsOk k (refsH (H.take k))&&rgK k (hasRp v) hasReg)=some (out,H'):=h
 generalize (refsOk k (refs v)&&refsOk k (refsH (H.take k))&&rgK k (hasRp v) hasReg)=b at h
 cases b with
 | true=>simp only[leave2]at h;cases h;simp;omega
 | false=>
  simp only[leave2]at h;generalize reach H (2*H.length+8) (refs v++refsH (H.take k)) (List.range k)=ρ at h
  cases hcc:(closed H ρ [v]&&decide (ρ.take k=List.range k)&&rgK k (hasRp v||hasRpH H) hasReg)with
  | false=>rw[hcc]at h;simp only[leave3]at h;cases h
  | true=>
   rw[hcc]at h;simp only[leave3]at h
   cases h;simp only[Bool.and_eq_true,decide_eq_true_eq]at hcc
   have:=congrArg List.length hcc.1.2
   simp at this ⊢;omega
theorem regN_ge{ops:Array Oper}{st:St}{hts:List Ht}:RSge st.H.length (regN P Γ ops st hts):=by
 unfold regN;have:=evD_ge (P:=P) (Γ:=Γ) (n:=st.H.length) (ops:=ops) (n0:=st.H.length) ops.toList hts 0 st.H.length (.run (st.ready (countC ops.toList)) []) (ready_ge st _)
 cases hr:evD P Γ ops st.H.length ops.toList hts 0 st.H.length (.run (st.ready (countC ops.toList)) [])with
 | run st' hs=>rw[hr]at this;exact this
 | pan st' hs dead v H=>
  rw[hr]at this;show RSge st.H.length (endPan ops st v H (endB st.H.length hasReg))
  generalize endB st.H.length hasReg=b
  cases b with
  | false=>exact trivial
  | true=>
   show st.H.length≤(keepTo st.H.length H).length
   rw[len_keepTo];exact this.2
 | stuck=>exact trivial
theorem okRun_ge{n:Nat}{r:RS}(h:RSge n r):RSge n (okRun r):=by
 cases r with
 | run st=>exact h
 | pan v st=>exact trivial
 | stuck=>exact trivial
theorem tailR_ge{n:Nat}{ops:Array Oper}{r:RS}(h:RSge n r):RSge n (tailR P Γ ops r):=by
 cases r with
 | stuck=>exact trivial
 | pan v st=>exact h
 | run st=>
  simp only[tailR];unfold tailE;split
  ·rename_i o6 o7 o8 hl;have h6:RSge n (stepRS P Γ ops 0 o6 (.run st)):=stepRS_ge h
   cases h6e:stepRS P Γ ops 0 o6 (.run st)with
   | stuck=>exact trivial
   | pan v st=>exact trivial
   | run st1=>
    rw[h6e]at h6;simp only[tailK]
    cases neSt st1 o7.op o8.op with
    | false=>exact trivial
    | true=>exact okRun_ge (stepRS_ge (okRun_ge (stepRS_ge h6)))
  ·exact trivial
theorem regA_ge{hd:Nat→Option (List Ht)}{id:Nat}{ops:Array Oper}{st:St}{draw:Bool}:RSge st.H.length (regA P Γ hd id ops st draw):=by
 cases draw with
 | false=>exact evOps_ge _ _ _ (ready_ge st _)
 | true=>
  simp only[regA]
  cases hd id with
  | none=>exact trivial
  | some hts=>
   simp only[regD]
   cases isSplit hts with
   | false=>exact regN_ge
   | true=>exact tailR_ge regN_ge
theorem wk_ge{n:Nat}{fs:List Nat}{st st1:St}(h:wk n fs st=some st1)(hn:n≤st.H.length):st1.H.length=n:=by
 unfold wk wk' wkK at h;split at h
 ·cases h;simp;omega
 ·cases h
theorem rfChk_ge{n gf stop:Nat}{as:List AV}{ρ:List Nat}{H0 H H':List AObj}{xs:List (List AV)}(hl:n≤H.length)(hc:rfChk Γ gf as ρ H0 xs stop H=some H'):n≤H'.length:=by
 unfold rfChk rfChkK at hc;split at hc
 ·unfold rfBack at hc;split at hc
  ·cases hc;exact Nat.le_trans hl (len_setOs _ _)
  ·cases hc
 ·cases hc
 ·cases hc
theorem keepH_ge{n:Nat}{H H':List AObj}(h:keepH n H=some H'):n≤H'.length:=by
 obtain⟨rfl,_,h2⟩:=keepH_inv h
 simp;omega
theorem rfX_ge{f:List (Nat×AV)→List AV→List AObj→RC}{n np gf:Nat}{vs:List (Nat×AV)}{as:List AV}{H0:List AObj}{ρ:List Nat}{o:Option (List (List AV))}(hl:n≤H0.length):RCge n (rfX Γ f n np vs gf as H0 ρ o):=by
 unfold rfX;split
 ·rename_i xs;generalize hR:rfFold (f (maskV ρ vs)) n np 0 xs (setOs H0 (noes ρ))=R
  cases R with
  | stuck=>exact trivial
  | done H=>
   simp only[rfEnd];obtain⟨HF,h0,hcase⟩:=rfFold_inv xs 0 _ _ hR (by simp)
   have hH:n≤H.length:=by
    rcases hcase with⟨h1,h2⟩|⟨e,j,z,h1,_⟩
    ·cases h1
     cases hxs:xs.length with
     | zero=>rw[h0];exact Nat.le_trans hl (len_setOs _ _)
     | succ m=>
      obtain⟨_,st',_,h3⟩:=h2 m (xs[m]'(by omega)) (List.getElem?_eq_getElem _)
      exact keepH_ge h3
    ·cases h1
   cases hc:rfChk Γ gf as ρ H0 xs 0 H with
   | none=>exact trivial
   | some H3=>exact rfChk_ge hH hc
  | left e k H=>
   simp only[rfEnd];obtain⟨HF,h0,hcase⟩:=rfFold_inv xs 0 _ _ hR (by simp)
   have hH:n≤H.length:=by
    rcases hcase with⟨h1,h2⟩|⟨e,j,z,h1,_,_,_,⟨st',_,h3⟩,_⟩
    ·cases h1
    ·cases h1;exact keepH_ge h3
   cases hc:rfChk Γ gf as ρ H0 xs (k+1) H with
   | none=>exact trivial
   | some H3=>exact rfChk_ge hH hc
 ·exact trivial
theorem evC_ge{hd:Nat→Option (List Ht)}{fg:Nat→List Nat}:∀ (c:Code) (cur:Nat) (st:St),RCge st.H.length (evC P Γ hd fg cur c (.go st)):=by
 have hmono:∀ {m n:Nat} {r:RC},m≤n→RCge n r→RCge m r:=by
  intro m n r h hr
  cases r with
  | go st=>exact Nat.le_trans h hr
  | ex e st=>exact Nat.le_trans h hr
  | stuck=>exact trivial
 intro c;induction c with
 | skip=>intro cur st;exact Nat.le_refl _
 | region id ops draw=>
  intro cur st;have h:=regA_ge (P:=P) (Γ:=Γ) (hd:=hd) (id:=id) (ops:=ops) (st:=st) (draw:=draw)
  show RCge _ (regK (adR (adH (hd id)) (regA P Γ hd id ops st draw)))
  cases hr:regA P Γ hd id ops st draw with
  | run st'=>rw[hr]at h;exact Nat.le_trans h (adS_ge _ _)
  | pan v st'=>rw[hr]at h;exact h
  | stuck=>exact trivial
 | seq a b iha ihb=>
  intro cur st;show RCge _ (evC P Γ hd fg cur b (evC P Γ hd fg cur a (.go st)))
  have h:=iha cur st
  cases hr:evC P Γ hd fg cur a (.go st)with
  | go st'=>rw[hr]at h;exact hmono h (ihb cur st')
  | ex e st'=>rw[evC_ex'];rw[hr]at h;exact h
  | stuck=>rw[evC_stuck'];exact trivial
 | cond c a b iha ihb=>
  intro cur st;show RCge _ (condK (evC P Γ hd fg cur a) (evC P Γ hd fg cur b) st (evArg st c))
  unfold condK;split
  ·exact iha cur st
  ·exact ihb cur st
  ·exact trivial
 | block id c ih=>
  intro cur st;show RCge _ (blockK id (evC P Γ hd fg id c (.go st)))
  have h:=ih id st
  cases hr:evC P Γ hd fg id c (.go st)with
  | go st'=>rw[hr]at h;exact h
  | ex e st'=>
   rw[hr]at h
   cases e with
   | exit k=>simp only[blockK];split<;>exact h
   | ret=>exact h
   | pan v=>exact h
  | stuck=>exact trivial
 | loop c ih=>
  intro cur st;show RCge _ (loopA (evC P Γ hd fg cur c) (wk st.H.length (fg cur)) st)
  by_cases hn:loopA (evC P Γ hd fg cur c) (wk st.H.length (fg cur)) st=.stuck
  ·rw[hn];exact trivial
  ·obtain⟨m,hm⟩:=loopA_some hn
   rw[←hm]
   have:∀ (m:Nat) (st1:St),st.H.length≤st1.H.length→RCge st.H.length (loopN (evC P Γ hd fg cur c) (wk st.H.length (fg cur)) m st1):=by
    intro m;induction m with
    | zero=>intro st1 _;exact trivial
    | succ m ihm=>
     intro st1 hle;simp only[loopN]
     cases hw:wk st.H.length (fg cur) st1 with
     | none=>exact trivial
     | some st2=>
      have h2:=wk_ge hw hle
      simp only[wkR];have h:=ih cur st2
      rw[h2]at h
      cases hr:evC P Γ hd fg cur c (.go st2)with
      | go st3=>rw[hr]at h;exact ihm st3 h
      | ex e st3=>rw[hr]at h;exact h
      | stuck=>exact trivial
   exact this m st (Nat.le_refl _)
 | rangeFunc gop ps x y ihx ihy=>
  intro cur st;show RCge _ (rfIf (plainC x&&noRF y) (rfA Γ (fun vs v H=>evC P Γ hd fg cur y (evC P Γ hd fg cur x (.go (zipP ps.toList v ⟨vs,[],H⟩)))) ps.size st.vs st.H (evArg st gop)))
  cases plainC x&&noRF y with
  | false=>exact trivial
  | true=>
   simp only[rfIf];unfold rfA;split
   ·unfold rfG;split
    ·unfold rfS rfR;split
     ·exact rfX_ge (len_setOs _ _)
     ·exact trivial
    ·exact trivial
   ·exact trivial
 | exit id=>intro cur st;exact Nat.le_refl _
 | scope c ih=>intro cur st;exact ih cur st
 | label l=>intro cur st;exact Nat.le_refl _
 | goto l=>intro cur st;exact trivial
 | ret=>intro cur st;exact Nat.le_refl _
 | refuse w=>intro cur st;exact trivial

theorem ext_put{r:Nat}{w0 w:World}{Im0 Im:Imm}{g0 g:List Gh}{o:Obj}(e:Ext w0 Im0 g0 w Im g)(hr:MarkAt w0.heap.size w Im g r):Ext w0 Im0 g0 (w.putObj r o) Im g:=by
 refine⟨e.os,e.tape,e.output,by simpa using e.size,e.mono,fun b i hb=>?_,fun k hk hn=>?_,e.new,e.newg,e.gle⟩
 ·have hne:b≠r:=fun h=>hr.2.2.2 i (h▸e.mono b i hb)
  unfold World.cell?;simp only
  rw[World.putObj_heap_other hne];exact e.keep b i hb
 ·rw[World.putObj_heap_other (by have:=hr.1;omega)]
  exact e.frame k hk hn
theorem leaves_marks{P:Program}{fn:Func}{tmps:Array Value}{R:Ending→World→Prop}{u:FrameMode}{n0:Nat}{Im:Imm}{g:List Gh}{I:World→Prop}(hu:u≠.run)
  (hstep:∀ w r,I w→MarkAt n0 w Im g r→I (w.putObj r (.deferred none))) (hend:∀ w,I w→LeavesInM Fence.wide 0 P fn tmps R [] u w) {w:World} {ds:List Deferred} (hm:Marks n0 w Im g [] ds) (hI:I w):LeavesInM Fence.wide 0 P fn tmps R ds u w:=by
 obtain⟨rs,rfl,h2,h3⟩:=hm
 rw[List.append_nil];induction rs generalizing w with
 | nil=>exact hend w hI
 | cons r rs ih=>
  rw[List.nodup_cons]at h2;have hr:=h3 r (by simp)
  refine⟨hu,.inl ⟨r,_,rfl,run_takeDeferred hr.2.1,ih (hstep w r hI hr) h2.2 (fun q hq=>?_)⟩⟩
  obtain⟨q1,q2,q3,q4⟩:=h3 q (by simp[hq])
  exact⟨q1,by rw[World.putObj_heap_other (fun h:q=r=>h2.1 (h▸hq))];exact q2,q3,q4⟩

def progOk(P:Program)(hd:Nat→Nat→Option (List Ht)):Bool:=
 P.follows .mixedOrders&&(List.range P.funcs.size).all fun f=>match P.funcs[f]? with
  | some F=>match F.body with
   | some c=>codeOk F.ntmps (hd f) c&&!(F.name=="runtime.NumGoroutine")
   | none=>true
  | none=>true

theorem fnEv_ok(hΓ:Sound P Γ){hd:Nat→Nat→Option (List Ht)}(hok:progOk P hd=true)(hv:Nat→List Nat)(hf:Nat→Nat→List Nat):Sound P (fnEv P Γ hd hv hf):=by
 intro f as H out H' hres;simp only[progOk,Bool.and_eq_true,List.all_eq_true]at hok;obtain⟨hm,hall⟩:=hok
 unfold fnEv fnK at hres;split at hres
 ·rename_i F hF;unfold bodyEv at hres;split at hres
  ·rename_i c hb;split at hres
   ·rename_i hl;have hfs:f<P.funcs.size:=(Array.getElem?_eq_some_iff.1 hF).1
    have hcode:=hall f (List.mem_range.2 hfs)
    rw[hF]at hcode;simp only[hb,Bool.and_eq_true,Bool.not_eq_true']at hcode;obtain⟨hc,hname⟩:=hcode
    have hend:∀ (R:RC),evC P Γ (hd f) (hf f) 0 c (.go (start as (hv f) H))=R→∃ kp mk st oc,leave kp mk H.length st.H oc=some (out,H') ∧
      ((mk=.ret∧oc=oneO (resL P st F.results.toList)∧(R=.go st∨R=.ex .ret st))∨∃ v,mk=.pan∧oc=some v∧R=.ex (.pan v) st):=by
     intro R hR;rw[hR]at hres;unfold finish at hres;split at hres
     ·exact⟨_,_,_,_,hres,.inl ⟨rfl,rfl,.inl rfl⟩⟩
     ·exact⟨_,_,_,_,hres,.inl ⟨rfl,rfl,.inr rfl⟩⟩
     ·exact⟨_,_,_,_,hres,.inr ⟨_,rfl,rfl,rfl⟩⟩
     ·cases hres
    obtain⟨kp,mk,st,oc,hleave,hcase⟩:=hend _ rfl
    have hge:=evC_ge (P:=P) (Γ:=Γ) (hd:=hd f) (fg:=hf f) c 0 (start as (hv f) H)
    have hHst:H.length≤st.H.length:=by
     rcases hcase with⟨_,_,hR|hR⟩|⟨v,_,_,hR⟩<;>(rw[hR]at hge;exact hge)
    have hcoc:∃ v,oc=some v:=by
     cases oc with
     | none=>simp[leave]at hleave
     | some v=>exact⟨v,rfl⟩
    obtain⟨ov,rfl⟩:=hcoc
    have hlen:H.length≤H'.length:=by
     simp only[leave,leaveP]at hleave;generalize prepQ ov kp=ov at hleave
     cases hg:giveQ st.H ov kp with
     | none=>rw[hg]at hleave;cases hleave
     | some c1=>
      rw[hg]at hleave;have h1:st.H.length≤(setOs st.H (noes (arrs2 ov))).length:=len_setOs _ _
      exact leave1_len hleave (Nat.le_trans hHst h1)
    refine⟨fun args w=>?_,hlen,fun w Im g vs hH hr=>?_⟩
    ·have hname':¬F.name="runtime.NumGoroutine":=by simpa using hname
     simp[callFunc,hF,hb,hname']
    ·refine callsIn_wide.1 (callsIn_of_wp_marks (F:=Fence.wide) (n:=0) hF hb trivial ?_)
     refine evC_ok (fg:=hf f) hΓ hm c none w.heap.size [] 0 (start as (hv f) H) _ w Im g _ hc (by simp) (start_ok hr hH hl) (Marks.refl _ _ _ _ _) (Nat.le_refl _) ?_
     have hret:∀ a' w' Im' g',oneO (resL P st F.results.toList)=some ov→mk=.ret→SRel P w' Im' g' st a' F.ntmps→Marks w.heap.size w' Im' g' [] a'.defers→Ext w Im g w' Im' g'→LeavesInM Fence.wide 0 P F a'.tmps (CallPost P w Im g out H') a'.defers .returning w':=by
      intro a' w' Im' g' ho hmk hs hdf he;refine leaves_marks (I:=fun w'=>SRel P w' Im' g' st a' F.ntmps∧Ext w Im g w' Im' g') (by simp) (fun u r ⟨q1,q2⟩ hr=>⟨⟨q1.size,fun k=>rep_put hr.2.2.2 (q1.fr k),hr_put q1.hr hr.2.2.1 hr.2.2.2⟩,ext_put q2 hr⟩) (fun u ⟨q1,q2⟩=>?_) hdf ⟨hs,he⟩
      obtain⟨v,h1,h2⟩:=results_ok q1.fr q1.hr ho
      obtain⟨_,c',Im'',g'',k1,k2,k3,k4⟩:=leave_post hH q2 q1.hr h2 hHst hleave
      refine⟨v,h1,Im'',g'',k2,k3,?_⟩
      subst hmk;subst k1;exact⟨v,rfl,k4⟩
     rcases hcase with⟨hmk,ho,hR|hR⟩|⟨v,hmk,ho,hR⟩
     ·rw[hR];intro a' w' Im' g' hs hdf he;exact hret a' w' Im' g' ho.symm hmk hs hdf he
     ·rw[hR];intro a' w' Im' g' hs hdf he;exact hret a' w' Im' g' ho.symm hmk hs hdf he
     ·rw[hR];intro u a' w' Im' g' hrep hHR hdf he
      cases ho;show LeavesInM Fence.wide 0 P F a'.tmps (CallPost P w Im g out H') a'.defers (.panicking _) w'
      refine leaves_marks (I:=fun w'=>RepA w' Im' g' u ov∧HR P w' Im' g' st.H∧Ext w Im g w' Im' g') (by simp) (fun z r ⟨q1,q2,q3⟩ hr=>⟨rep_put hr.2.2.2 q1,hr_put q2 hr.2.2.1 hr.2.2.2,ext_put q3 hr⟩) (fun z ⟨q1,q2,q3⟩=>?_) hdf ⟨hrep,hHR.hr,he⟩
      obtain⟨_,c',Im'',g'',k1,k2,k3,k4⟩:=leave_post hH q3 q2 q1 hHst hleave
      refine⟨Im'',g'',k2,k3,?_⟩
      subst hmk;subst k1;exact⟨u,rfl,k4⟩
   ·cases hres
  ·cases hres
 ·cases hres
end
end Go.Ab
/- The program's functions,as the least semantics that its bodies give. Conditions: none. -/
namespace Go.Ab
open Go

def Apx(Γs:Nat→Sem')(Γ:Sem'):Prop:=∀ (f:Nat) (as:List AV) (H:List AObj) (r:Out×List AObj),Γ f as H=some r→∃ n,∀ m,n≤m→Γs m f as H=some r

section
variable {P:Program}{Γs:Nat→Sem'}{Γ:Sem'}

theorem evCall_apx(hA:Apx Γs Γ){f:Nat}{as:List AV}{H:List AObj}{r:ORes}(h:evCall Γ f as H=some r):∃ n,∀ m,n≤m→evCall (Γs m) f as H=some r:=by
 unfold evCall callG at h;split at h
 ·rename_i as' hg;unfold callR callH at h;split at h
  ·rename_i hc
   cases hx:Γ f (as'.map (ren fun q=>(reach (setOs H (noes (refsL arrs1 as))) (2*H.length+8) (rgRoot (rgH f (setOs H (noes (refsL arrs1 as))))++(as'.map refs).flatten) []).idxOf q)) ((reach (setOs H (noes (refsL arrs1 as))) (2*H.length+8) (rgRoot (rgH f (setOs H (noes (refsL arrs1 as))))++(as'.map refs).flatten) []).map fun q=>renO (fun q=>(reach (setOs H (noes (refsL arrs1 as))) (2*H.length+8) (rgRoot (rgH f (setOs H (noes (refsL arrs1 as))))++(as'.map refs).flatten) []).idxOf q) ((setOs H (noes (refsL arrs1 as))).getD q .no))with
   | none=>rw[hx]at h;simp[callK,callC]at h
   | some q=>
    obtain⟨n,hn⟩:=hA _ _ _ _ hx
    refine⟨n,fun m hm=>?_⟩
    unfold evCall callG;rw[hg];simp only
    unfold callR callH;rw[hc];simp only
    rw[hn m hm];rw[hx]at h;exact h
  ·cases h
 ·cases h

theorem opV_apx(hA:Apx Γs Γ){p:Nat}{st:St}{ty:TypeId}{op:Op}{r:ORes}(h:opV P Γ p st ty op=some r):∃ n,∀ m,n≤m→opV P (Γs m) p st ty op=some r:=by
 cases op with
 | call c=>
  simp only[opV]at h ⊢;split at h
  ·rename_i b hb;exact⟨0,fun m _=>h⟩
  ·rename_i f hf;unfold callV at h ⊢;split at h
   ·rename_i k first caps hk;obtain⟨n,hn⟩:=evCall_apx hA h
    exact⟨n,fun m hm=>hn m hm⟩
   ·exact⟨0,fun m _=>h⟩
   ·cases h
  ·cases h
 | makeFunc fn a b=>
  cases fn with
  | func f=>exact⟨0,fun m _=>h⟩
  | _=>cases h
 | slice t x lo hi mx=>
  cases mx with
  | none=>exact⟨0,fun m _=>h⟩
  | some x=>cases h
 | makeMap t r=>
  cases r with
  | none=>exact⟨0,fun m _=>h⟩
  | some x=>cases h
 | _=>first|exact⟨0,fun m _=>h⟩|cases h

theorem stepRS_apx(hA:Apx Γs Γ){ops:Array Oper}{p:Nat}{o:Oper}{r:RS}(h:stepRS P Γ ops p o r≠.stuck):∃ n,∀ m,n≤m→stepRS P (Γs m) ops p o r=stepRS P Γ ops p o r:=by
 cases r with
 | run st=>
  simp only[stepRS]at h ⊢
  cases hg:guardA ops st o.guard with
  | none=>exact⟨0,fun m _=>rfl⟩
  | some b=>
   rw[hg]at h
   cases b with
   | false=>exact⟨0,fun m _=>rfl⟩
   | true=>
    simp only[opK]at h ⊢
    cases ho:opV P Γ p st o.type o.op with
    | none=>rw[ho]at h;exact absurd rfl h
    | some q=>
     obtain⟨n,hn⟩:=opV_apx hA ho
     exact⟨n,fun m hm=>by rw[hn m hm]⟩
 | pan v st=>exact⟨0,fun m _=>rfl⟩
 | stuck=>exact absurd rfl h
theorem evOps_stuck{ops:Array Oper}:∀ (l:List Oper) (p:Nat),evOps P Γ ops l p .stuck=.stuck
 | [],_=>rfl
 | o::l,p=>by simp only[evOps];exact evOps_stuck l _
theorem evOps_apx(hA:Apx Γs Γ){ops:Array Oper}:∀ (l:List Oper) (p:Nat) (r:RS),evOps P Γ ops l p r≠.stuck→∃ n,∀ m,n≤m→evOps P (Γs m) ops l p r=evOps P Γ ops l p r
 | [],_,_,_=>⟨0,fun _ _=>rfl⟩
 | o::l,p,r,h=>by
  simp only[evOps]at h ⊢;have h1:stepRS P Γ ops p o r≠.stuck:=fun e=>by rw[e,evOps_stuck]at h;exact h rfl
  obtain⟨n1,hn1⟩:=stepRS_apx hA h1
  obtain⟨n2,hn2⟩:=evOps_apx hA l _ _ h
  exact⟨max n1 n2,fun m hm=>by rw[hn1 m (by omega),hn2 m (by omega)]⟩

theorem dOp_apx(hA:Apx Γs Γ){n0 p i:Nat}{ht:Ht}{hs:List (Nat×Ev)}{o:Oper}{st:St}{b:Option Bool}(h:dOp P Γ n0 p i ht hs o st b≠.stuck):∃ n,∀ m,n≤m→dOp P (Γs m) n0 p i ht hs o st b=dOp P Γ n0 p i ht hs o st b:=by
 cases b with
 | none=>exact⟨0,fun m _=>rfl⟩
 | some b=>
  cases b with
  | false=>exact⟨0,fun m _=>rfl⟩
  | true=>
   simp only[dOp]at h ⊢
   cases ho:opV P Γ p (maskS n0 ht.ms st) o.type o.op with
   | none=>rw[ho]at h;exact absurd rfl h
   | some q=>
    obtain⟨n,hn⟩:=opV_apx hA ho
    exact⟨n,fun m hm=>by rw[hn m hm]⟩
theorem stepD_apx(hA:Apx Γs Γ){ops:Array Oper}{n0 p i:Nat}{ht:Ht}{o:Oper}{r:DS}(h:stepD P Γ ops n0 p i ht o r≠.stuck):∃ n,∀ m,n≤m→stepD P (Γs m) ops n0 p i ht o r=stepD P Γ ops n0 p i ht o r:=by
 cases r with
 | run st hs=>exact dOp_apx hA h
 | pan st hs dead v H=>
  simp only[stepD]at h ⊢
  cases hdl:deadL dead o.after.toList with
  | true=>exact⟨0,fun m _=>rfl⟩
  | false=>
   rw[hdl]at h;simp only[stepP]at h ⊢;obtain⟨n,hn⟩:=dOp_apx hA (P:=P) (n0:=n0) (p:=p) (i:=i) (ht:=ht) (hs:=hs) (o:=o) (st:=st) (b:=guardA ops st o.guard) (fun e=>by rw[e]at h;exact h rfl)
   exact⟨n,fun m hm=>by rw[hn m hm]⟩
 | stuck=>exact absurd rfl h
theorem evD_stuck{ops:Array Oper}{n0:Nat}:∀ (l:List Oper) (hts:List Ht) (i p:Nat),evD P Γ ops n0 l hts i p .stuck=.stuck
 | [],_,_,_=>rfl
 | o::l,hts,i,p=>by simp only[evD];exact evD_stuck l _ _ _
theorem evD_apx(hA:Apx Γs Γ){ops:Array Oper}{n0:Nat}:∀ (l:List Oper) (hts:List Ht) (i p:Nat) (r:DS),evD P Γ ops n0 l hts i p r≠.stuck→∃ n,∀ m,n≤m→evD P (Γs m) ops n0 l hts i p r=evD P Γ ops n0 l hts i p r
 | [],_,_,_,_,_=>⟨0,fun _ _=>rfl⟩
 | o::l,hts,i,p,r,h=>by
  simp only[evD]at h ⊢;have h1:stepD P Γ ops n0 p i (headH hts) o r≠.stuck:=fun e=>by rw[e,evD_stuck]at h;exact h rfl
  obtain⟨n1,hn1⟩:=stepD_apx hA h1
  obtain⟨n2,hn2⟩:=evD_apx hA l _ _ _ _ h
  exact⟨max n1 n2,fun m hm=>by rw[hn1 m (by omega),hn2 m (by omega)]⟩
theorem okRun_ne{r:RS}(h:okRun r≠.stuck):r≠.stuck:=by rintro rfl;exact h rfl
theorem tailR_apx(hA:Apx Γs Γ){ops:Array Oper}{r:RS}(h:tailR P Γ ops r≠.stuck):∃ n,∀ m,n≤m→tailR P (Γs m) ops r=tailR P Γ ops r:=by
 cases r with
 | stuck=>exact⟨0,fun _ _=>rfl⟩
 | pan v st=>exact⟨0,fun _ _=>rfl⟩
 | run st=>
  simp only[tailR]at h ⊢;unfold tailE at h ⊢;split at h
  ·rename_i o6 o7 o8 hl;have h6:stepRS P Γ ops 0 o6 (.run st)≠.stuck:=fun e=>by rw[e]at h;exact h rfl
   obtain⟨n1,hn1⟩:=evOps_apx hA [o6] 0 (.run st) h6
   cases h6e:stepRS P Γ ops 0 o6 (.run st)with
   | stuck=>exact absurd h6e h6
   | pan v st1=>rw[h6e]at h;exact absurd rfl h
   | run st1=>
    rw[h6e]at h;simp only[tailK]at h
    cases hb:neSt st1 o7.op o8.op with
    | false=>rw[hb]at h;exact absurd rfl h
    | true=>
     rw[hb]at h;simp only[tailB]at h;have h8:stepRS P Γ ops 0 o8 (okRun (stepRS P Γ ops 0 o7 (.run st1)))≠.stuck:=okRun_ne h
     have h7:stepRS P Γ ops 0 o7 (.run st1)≠.stuck:=fun e=>by rw[e]at h8;exact h8 rfl
     obtain⟨n2,hn2⟩:=evOps_apx hA [o7] 0 (.run st1) h7
     obtain⟨n3,hn3⟩:=evOps_apx hA [o8] 0 (okRun (stepRS P Γ ops 0 o7 (.run st1))) h8
     refine⟨max n1 (max n2 n3),fun m hm=>?_⟩
     have e1:stepRS P (Γs m) ops 0 o6 (.run st)=stepRS P Γ ops 0 o6 (.run st):=hn1 m (by omega)
     have e2:stepRS P (Γs m) ops 0 o7 (.run st1)=stepRS P Γ ops 0 o7 (.run st1):=hn2 m (by omega)
     have e3:stepRS P (Γs m) ops 0 o8 (okRun (stepRS P Γ ops 0 o7 (.run st1)))=stepRS P Γ ops 0 o8 (okRun (stepRS P Γ ops 0 o7 (.run st1))):=hn3 m (by omega)
     rw[e1,h6e];simp only[tailK,hb,tailB];rw[e2,e3]
  ·exact absurd rfl h
theorem regN_apx(hA:Apx Γs Γ){ops:Array Oper}{st:St}{hts:List Ht}(h:regN P Γ ops st hts≠.stuck):∃ n,∀ m,n≤m→regN P (Γs m) ops st hts=regN P Γ ops st hts:=by
 unfold regN at h ⊢;obtain⟨n,hn⟩:=evD_apx hA (P:=P) (ops:=ops) (n0:=st.H.length) ops.toList hts 0 st.H.length (.run (st.ready (countC ops.toList)) []) (fun e=>by rw[e]at h;exact h rfl)
 exact⟨n,fun m hm=>by rw[hn m hm]⟩
theorem regA_apx(hA:Apx Γs Γ){hd:Nat→Option (List Ht)}{id:Nat}{ops:Array Oper}{st:St}{draw:Bool}(h:regA P Γ hd id ops st draw≠.stuck):∃ n,∀ m,n≤m→regA P (Γs m) hd id ops st draw=regA P Γ hd id ops st draw:=by
 cases draw with
 | false=>exact evOps_apx hA _ _ _ h
 | true=>
  simp only[regA]at h ⊢
  cases hh:hd id with
  | none=>exact⟨0,fun _ _=>rfl⟩
  | some hts=>
   rw[hh]at h;simp only[regD]at h ⊢
   cases hsp:isSplit hts with
   | false=>
    rw[hsp]at h;exact regN_apx hA h
   | true=>
    rw[hsp]at h;simp only[regQ]at h ⊢;obtain⟨n1,hn1⟩:=regN_apx hA (P:=P) (ops:=preO ops) (st:=st) (hts:=tailH hts) (fun e=>by rw[e]at h;exact h rfl)
    obtain⟨n2,hn2⟩:=tailR_apx hA h
    exact⟨max n1 n2,fun m hm=>by rw[hn1 m (by omega),hn2 m (by omega)]⟩

theorem rfFold_apx{f:List AV→List AObj→RC}{fs:Nat→List AV→List AObj→RC}(hf:∀ v H,f v H≠.stuck→∃ n,∀ m,n≤m→fs m v H=f v H){n0 np:Nat}:∀ (xs:List (List AV)) (k:Nat) (H:List AObj),rfFold f n0 np k xs H≠.stuck→∃ n,∀ m,n≤m→rfFold (fs m) n0 np k xs H=rfFold f n0 np k xs H
 | [],_,_,_=>⟨0,fun _ _=>rfl⟩
 | x::xs,k,H,h=>by
  simp only[rfFold]at h ⊢;by_cases hl:x.length=np
  ·rw[if_pos hl]at h;simp only[if_pos hl];obtain⟨n1,hn1⟩:=hf x H (fun e=>by rw[e]at h;exact h rfl)
   cases hx:f x H with
   | go st=>
    rw[hx]at h;simp only[rfK,rfNext]at h
    cases hk:keepH n0 st.H with
    | none=>rw[hk]at h;exact absurd rfl h
    | some H'=>
     rw[hk]at h;obtain⟨n2,hn2⟩:=rfFold_apx hf xs (k+1) H' h
     refine⟨max n1 n2,fun m hm=>?_⟩
     rw[hn1 m (by omega),hx]
     simp only[rfK,rfNext,hk];exact hn2 m (by omega)
   | ex e st=>
    refine⟨n1,fun m hm=>?_⟩
    rw[hn1 m hm,hx]
    cases e<;>rfl
   | stuck=>rw[hx]at h;exact absurd rfl h
  ·rw[if_neg hl]at h;exact absurd rfl h
theorem rfA_apx(hA:Apx Γs Γ){f:List (Nat×AV)→List AV→List AObj→RC}{fs:Nat→List (Nat×AV)→List AV→List AObj→RC}(hf:∀ vs v H,f vs v H≠.stuck→∃ n,∀ m,n≤m→fs m vs v H=f vs v H){np:Nat}{vs:List (Nat×AV)}{H:List AObj}{g:AV}(h:rfA Γ f np vs H g≠.stuck):∃ n,∀ m,n≤m→rfA (Γs m) (fs m) np vs H g=rfA Γ f np vs H g:=by
 unfold rfA at h ⊢;split at h
 ·rename_i gf caps;unfold rfG at h ⊢;split at h
  ·rename_i as has;unfold rfS at h ⊢;generalize setOs H (noes (refsL arrs1 caps))=H0 at h ⊢;generalize reach H0 (2*H.length+8) (as.map refs).flatten []=ρ at h ⊢;unfold rfR at h ⊢;split at h
   ·cases hg:Γ gf (rfArgs ρ as) (rfHeap ρ H0 (.gen []))with
    | none=>rw[hg]at h;exact absurd rfl h
    | some q=>
     rw[hg]at h;obtain⟨n1,hn1⟩:=hA _ _ _ _ hg
     unfold rfX at h;split at h
     ·rename_i xs hxs;have hfold:rfFold (f (maskV ρ vs)) H.length np 0 xs (setOs H0 (noes ρ))≠.stuck:=fun e=>by rw[e]at h;exact h rfl
      obtain⟨n2,hn2⟩:=rfFold_apx (f:=f (maskV ρ vs)) (fs:=fun m=>fs m (maskV ρ vs)) (fun v H=>hf _ v H) xs 0 _ hfold
      have hchk:∀ stop Hk H',rfChk Γ gf as ρ H0 xs stop Hk=some H'→∃ n,∀ m,n≤m→rfChk (Γs m) gf as ρ H0 xs stop Hk=some H':=by
       intro stop Hk H' hc;unfold rfChk at hc ⊢
       cases hx:Γ gf (rfArgs ρ as) (rfHeap ρ H0 (.log stop 0 xs))with
       | none=>rw[hx]at hc;cases hc
       | some q'=>
        rw[hx]at hc;obtain⟨n,hn⟩:=hA _ _ _ _ hx
        exact⟨n,fun m hm=>by rw[hn m hm];exact hc⟩
      cases hR:rfFold (f (maskV ρ vs)) H.length np 0 xs (setOs H0 (noes ρ))with
      | stuck=>exact absurd hR hfold
      | done Hk=>
       rw[hR]at h;simp only[rfEnd]at h
       cases hc:rfChk Γ gf as ρ H0 xs 0 Hk with
       | none=>rw[hc]at h;exact absurd rfl h
       | some H'=>
        obtain⟨n3,hn3⟩:=hchk _ _ _ hc
        refine⟨max n1 (max n2 n3),fun m hm=>?_⟩
        simp only[rfX];rw[hn1 m (by omega)]
        simp only[hxs];rw[hn2 m (by omega),hR]
        simp only[rfEnd];rw[hn3 m (by omega),hc]
      | left e k Hk=>
       rw[hR]at h;simp only[rfEnd]at h
       cases hc:rfChk Γ gf as ρ H0 xs (k+1) Hk with
       | none=>rw[hc]at h;exact absurd rfl h
       | some H'=>
        obtain⟨n3,hn3⟩:=hchk _ _ _ hc
        refine⟨max n1 (max n2 n3),fun m hm=>?_⟩
        simp only[rfX];rw[hn1 m (by omega)]
        simp only[hxs];rw[hn2 m (by omega),hR]
        simp only[rfEnd];rw[hn3 m (by omega),hc]
     ·exact absurd rfl h
   ·exact absurd rfl h
  ·exact absurd rfl h
 ·exact absurd rfl h

theorem evC_apx(hA:Apx Γs Γ){hd:Nat→Option (List Ht)}{fg:Nat→List Nat}:∀ (c:Code) (cur:Nat) (st:St),evC P Γ hd fg cur c (.go st)≠.stuck→∃ n,∀ m,n≤m→evC P (Γs m) hd fg cur c (.go st)=evC P Γ hd fg cur c (.go st):=by
 intro c;induction c with
 | region id ops draw=>
  intro cur st h;have h':regK (adR (adH (hd id)) (regA P Γ hd id ops st draw))≠.stuck:=h
  obtain⟨n,hn⟩:=regA_apx hA (P:=P) (hd:=hd) (id:=id) (ops:=ops) (st:=st) (draw:=draw) (fun e=>by rw[e]at h';exact h' rfl)
  exact⟨n,fun m hm=>by
   show regK (adR (adH (hd id)) (regA P (Γs m) hd id ops st draw))=regK (adR (adH (hd id)) (regA P Γ hd id ops st draw))
   rw[hn m hm]⟩
 | seq a b iha ihb=>
  intro cur st h;have h':evC P Γ hd fg cur b (evC P Γ hd fg cur a (.go st))≠.stuck:=h
  obtain⟨n1,hn1⟩:=iha cur st (fun e=>by rw[e,evC_stuck']at h';exact h' rfl)
  have key:∀ r,evC P Γ hd fg cur b r≠.stuck→∃ n,∀ m,n≤m→evC P (Γs m) hd fg cur b r=evC P Γ hd fg cur b r:=by
   intro r hr
   cases r with
   | go st'=>exact ihb cur st' hr
   | ex e st'=>exact⟨0,fun m _=>by rw[evC_ex',evC_ex']⟩
   | stuck=>rw[evC_stuck']at hr;exact absurd rfl hr
  obtain⟨n2,hn2⟩:=key _ h'
  exact⟨max n1 n2,fun m hm=>by
   show evC P (Γs m) hd fg cur b (evC P (Γs m) hd fg cur a (.go st))=evC P Γ hd fg cur b (evC P Γ hd fg cur a (.go st))
   rw[hn1 m (by omega),hn2 m (by omega)]⟩
 | cond x a b iha ihb=>
  intro cur st h;have h':condK (evC P Γ hd fg cur a) (evC P Γ hd fg cur b) st (evArg st x)≠.stuck:=h
  have key:∀ v,condK (evC P Γ hd fg cur a) (evC P Γ hd fg cur b) st v≠.stuck→∃ n,∀ m,n≤m→condK (evC P (Γs m) hd fg cur a) (evC P (Γs m) hd fg cur b) st v=condK (evC P Γ hd fg cur a) (evC P Γ hd fg cur b) st v:=by
   intro v hv;unfold condK at hv ⊢;split at hv
   ·exact iha cur st hv
   ·exact ihb cur st hv
   ·exact absurd rfl hv
  exact key _ h'
 | block id c ih=>
  intro cur st h;have h':blockK id (evC P Γ hd fg id c (.go st))≠.stuck:=h
  obtain⟨n,hn⟩:=ih id st (fun e=>by rw[e]at h';exact h' rfl)
  exact⟨n,fun m hm=>by
   show blockK id (evC P (Γs m) hd fg id c (.go st))=blockK id (evC P Γ hd fg id c (.go st))
   rw[hn m hm]⟩
 | loop c ih=>
  intro cur st h;have h':loopA (evC P Γ hd fg cur c) (wk st.H.length (fg cur)) st≠.stuck:=h
  obtain⟨k,hk⟩:=loopA_some h'
  have key:∀ (k:Nat) (st1:St),loopN (evC P Γ hd fg cur c) (wk st.H.length (fg cur)) k st1≠.stuck→∃ n,∀ m,n≤m→loopN (evC P (Γs m) hd fg cur c) (wk st.H.length (fg cur)) k st1=loopN (evC P Γ hd fg cur c) (wk st.H.length (fg cur)) k st1:=by
   intro k;induction k with
   | zero=>intro st1 h;exact absurd rfl h
   | succ k ihk=>
    intro st1 h1;simp only[loopN]at h1 ⊢
    cases hw:wk st.H.length (fg cur) st1 with
    | none=>rw[hw]at h1;exact absurd rfl h1
    | some st2=>
     rw[hw]at h1;simp only[wkR]at h1 ⊢;obtain⟨n1,hn1⟩:=ih cur st2 (fun e=>by rw[e]at h1;exact h1 rfl)
     cases hx:evC P Γ hd fg cur c (.go st2)with
     | go st3=>
      rw[hx]at h1;simp only[loopK]at h1;obtain⟨n2,hn2⟩:=ihk st3 h1
      refine⟨max n1 n2,fun m hm=>?_⟩
      rw[hn1 m (by omega),hx]
      simp only[loopK];exact hn2 m (by omega)
     | ex e st3=>
      refine⟨n1,fun m hm=>?_⟩
      rw[hn1 m hm,hx];rfl
     | stuck=>rw[hx]at h1;exact absurd rfl h1
  rw[←hk]at h';obtain⟨n,hn⟩:=key k st h'
  refine⟨n,fun m hm=>?_⟩
  show loopA (evC P (Γs m) hd fg cur c) (wk st.H.length (fg cur)) st=loopA (evC P Γ hd fg cur c) (wk st.H.length (fg cur)) st
  have h2:=hn m hm
  rw[loopA_of _ _ (n:=k) (by rw[h2];exact h'),h2,hk]
 | scope c ih=>intro cur st h;exact ih cur st h
 | rangeFunc gop ps x y ihx ihy=>
  intro cur st h;have h':rfIf (plainC x&&noRF y) (rfA Γ (fun vs v H=>evC P Γ hd fg cur y (evC P Γ hd fg cur x (.go (zipP ps.toList v ⟨vs,[],H⟩)))) ps.size st.vs st.H (evArg st gop))≠.stuck:=h
  cases hb:(plainC x&&noRF y)with
  | false=>rw[hb]at h';exact absurd rfl h'
  | true=>
   rw[hb]at h'
   have key:∀ r,evC P Γ hd fg cur y r≠.stuck→∃ n,∀ m,n≤m→evC P (Γs m) hd fg cur y r=evC P Γ hd fg cur y r:=by
    intro r hr
    cases r with
    | go st'=>exact ihy cur st' hr
    | ex e st'=>exact⟨0,fun m _=>by rw[evC_ex',evC_ex']⟩
    | stuck=>rw[evC_stuck']at hr;exact absurd rfl hr
   obtain⟨n,hn⟩:=rfA_apx hA (fs:=fun m vs v H=>evC P (Γs m) hd fg cur y (evC P (Γs m) hd fg cur x (.go (zipP ps.toList v ⟨vs,[],H⟩)))) (fun vs v H hne=>by
    obtain⟨n1,hn1⟩:=ihx cur _ (fun e=>by rw[e,evC_stuck']at hne;exact hne rfl)
    obtain⟨n2,hn2⟩:=key _ hne
    exact⟨max n1 n2,fun m hm=>by rw[hn1 m (by omega),hn2 m (by omega)]⟩) h'
   refine⟨n,fun m hm=>?_⟩
   show rfIf (plainC x&&noRF y) (rfA (Γs m) _ ps.size st.vs st.H (evArg st gop))=rfIf (plainC x&&noRF y) (rfA Γ _ ps.size st.vs st.H (evArg st gop))
   rw[hb];exact hn m hm
 | _=>intro cur st h;exact⟨0,fun _ _=>rfl⟩

variable {hd:Nat→Nat→Option (List Ht)}{hv:Nat→List Nat}{hf:Nat→Nat→List Nat}

theorem fnEv_apx(hA:Apx Γs Γ):Apx (fun n=>fnEv P (Γs n) hd hv hf) (fnEv P Γ hd hv hf):=by
 intro f as H r h;unfold fnEv fnK at h;split at h
 ·rename_i F hF;unfold bodyEv at h;split at h
  ·rename_i c hc;split at h
   ·rename_i hl;obtain⟨n,hn⟩:=evC_apx hA (P:=P) (hd:=hd f) (fg:=hf f) c 0 (start as (hv f) H) (fun e=>by rw[e]at h;simp[finish]at h)
    refine⟨n,fun m hm=>?_⟩
    simp only[fnEv,fnK,hF,bodyEv,hc,if_pos hl];rw[hn m hm];exact h
   ·cases h
  ·cases h
 ·cases h

def orE(ext Γ:Sem'):Sem':=fun f as H=>match ext f as H with
 | some r=>some r
 | none=>Γ f as H
theorem orE_ok{ext:Sem'}(h1:Sound P ext)(h2:Sound P Γ):Sound P (orE ext Γ):=by
 intro f as H out H' h;unfold orE at h;split at h
 ·rename_i r hr;cases h;exact h1 f as H out H' hr
 ·exact h2 f as H out H' h
end

section
variable (P:Program)(ext:Sem')(hd:Nat→Nat→Option (List Ht))(hv:Nat→List Nat)(hf:Nat→Nat→List Nat)
noncomputable def callN:Nat→Sem'
 | 0=>fun _ _ _=>none
 | n+1=>orE ext (fnEv P (callN n) hd hv hf)
open Classical in
noncomputable def callA:Sem':=fun f as H=>if h:∃ n,(callN P ext hd hv hf n f as H).isSome=true then callN P ext hd hv hf h.choose f as H else none

variable {P ext hd hv hf}
theorem callN_mono:∀ (n:Nat) (f:Nat) (as:List AV) (H:List AObj) (r:Out×List AObj),callN P ext hd hv hf n f as H=some r→callN P ext hd hv hf (n+1) f as H=some r:=by
 intro n;induction n with
 | zero=>intro f as H r h;cases h
 | succ n ih=>
  intro f as H r h;simp only[callN]at h ⊢;unfold orE at h ⊢
  cases he:ext f as H with
  | some q=>rw[he]at h;exact h
  | none=>
   rw[he]at h;simp only at h ⊢
   obtain⟨k,hk⟩:=fnEv_apx (P:=P) (hd:=hd) (hv:=hv) (hf:=hf) (Γs:=fun _=>callN P ext hd hv hf (n+1)) (Γ:=callN P ext hd hv hf n) (fun f as H r h=>⟨0,fun _ _=>ih f as H r h⟩) f as H r h
   exact hk k (Nat.le_refl _)
theorem callN_le{n m:Nat}(hnm:n≤m){f:Nat}{as:List AV}{H:List AObj}{r:Out×List AObj}(h:callN P ext hd hv hf n f as H=some r):callN P ext hd hv hf m f as H=some r:=by
 induction m with
 | zero=>rw[Nat.le_zero.1 hnm]at h;exact h
 | succ m ih=>
  by_cases e:n=m+1
  ·rw[←e];exact h
  ·exact callN_mono m _ _ _ _ (ih (by omega))
theorem callA_of{n:Nat}{f:Nat}{as:List AV}{H:List AObj}{r:Out×List AObj}(h:callN P ext hd hv hf n f as H=some r):callA P ext hd hv hf f as H=some r:=by
 have hx:∃ n,(callN P ext hd hv hf n f as H).isSome=true:=⟨n,by rw[h];rfl⟩
 unfold callA;rw[dif_pos hx];obtain⟨q,hq⟩:=Option.isSome_iff_exists.1 hx.choose_spec
 rw[hq];rcases Nat.le_total hx.choose n with hl|hl
 ·rw[←h,callN_le hl hq]
 ·rw[←hq,callN_le hl h]
theorem callA_some{f:Nat}{as:List AV}{H:List AObj}{r:Out×List AObj}(h:callA P ext hd hv hf f as H=some r):∃ n,callN P ext hd hv hf n f as H=some r:=by
 unfold callA at h;split at h
 ·exact⟨_,h⟩
 ·cases h
theorem callA_apx:Apx (callN P ext hd hv hf) (callA P ext hd hv hf):=fun f as H r h=>by
 obtain⟨n,hn⟩:=callA_some h
 exact⟨n,fun m hm=>callN_le hm hn⟩
theorem callA_eq(f:Nat)(as:List AV)(H:List AObj):callA P ext hd hv hf f as H=orE ext (fnEv P (callA P ext hd hv hf) hd hv hf) f as H:=by
 have key:∀ r,callA P ext hd hv hf f as H=some r↔orE ext (fnEv P (callA P ext hd hv hf) hd hv hf) f as H=some r:=by
  intro r;constructor
  ·intro h;obtain⟨n,hn⟩:=callA_some h
   cases n with
   | zero=>cases hn
   | succ n=>
    simp only[callN]at hn;unfold orE at hn ⊢
    cases he:ext f as H with
    | some q=>rw[he]at hn;exact hn
    | none=>
     rw[he]at hn;simp only at hn ⊢
     obtain⟨k,hk⟩:=fnEv_apx (P:=P) (hd:=hd) (hv:=hv) (hf:=hf) (Γs:=fun _=>callA P ext hd hv hf) (Γ:=callN P ext hd hv hf n) (fun f as H r h=>⟨0,fun _ _=>callA_of h⟩) f as H r hn
     exact hk k (Nat.le_refl _)
  ·intro h;unfold orE at h
   cases he:ext f as H with
   | some q=>
    rw[he]at h;refine callA_of (n:=1) ?_
    simp only[callN];unfold orE;rw[he];exact h
   | none=>
    rw[he]at h;simp only at h
    obtain⟨k,hk⟩:=fnEv_apx (P:=P) (hd:=hd) (hv:=hv) (hf:=hf) callA_apx f as H r h
    refine callA_of (n:=k+1) ?_
    simp only[callN];unfold orE;rw[he];exact hk k (Nat.le_refl _)
 cases h1:callA P ext hd hv hf f as H with
 | some r=>exact((key r).1 h1).symm
 | none=>
  cases h2:orE ext (fnEv P (callA P ext hd hv hf) hd hv hf) f as H with
  | none=>rfl
  | some r=>rw[(key r).2 h2]at h1;cases h1

theorem callA_ok(he:Sound P ext)(hok:progOk P hd=true):Sound P (callA P ext hd hv hf):=by
 have:∀ n,Sound P (callN P ext hd hv hf n):=by
  intro n;induction n with
  | zero=>intro f as H out H' h;cases h
  | succ n ih=>exact orE_ok he (fnEv_ok ih hok hv hf)
 intro f as H out H' h;obtain⟨n,hn⟩:=callA_some h
 exact this n f as H out H' hn
end
end Go.Ab
