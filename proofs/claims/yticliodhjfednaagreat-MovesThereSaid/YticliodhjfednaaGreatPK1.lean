/- slices.Clone of a row of bits, by its walk: the new block, cell by cell; ir.Word, for the evaluator; slices.Clone of variables, by its walk; A slice's cells in memory of one's own, for the evaluator; slices.Clone of variables, for the evaluator; Programs as a row reads them; ir.Next, flow.next; flow.walk: entering; a walk's state; A walk through edges, as deep as it can: what stays true of it; flow.walk, flow.Order; slices.Reverse, flow.Order; Moves: what an instruction gives away; Moves, plain: rows that meet; a step; that steps come to an end; Moves: tables, first part: what a function must be; Moves: asking a table; Moves: what is right; Moves, plain: what tables say, by ways; Moves: functions of formed programs; Check; Moves: Check; The document's flow: where an instruction goes. Conditions: none. -/
import Derived.Test.YticliodhjfednaaGreatUtil
import Derived.Test.YticliodhjfednaaGreatAbX4
import Derived.Shelf.SlicesE.Clone
import Derived.Test.YticliodhjfednaaGreatW1
import Derived.Test.YticliodhjfednaaGreatM3
import Derived.Test.YticliodhjfednaaGreatM1
import Derived.Test.YticliodhjfednaaGreatF1
import Derived.Test.YticliodhjfednaaGreatF2
import Derived.Test.YticliodhjfednaaGreatM18
import Derived.Test.YticliodhjfednaaGreatP22
import Derived.Test.YticliodhjfednaaGreatR1
set_option linter.unusedSimpArgs false
set_option linter.unusedVariables false
namespace Go.Proofs.YticliodhjfednaaGreat
open Go Go.RowKit Go.Lib
theorem under_row:Tryz.prog.underlying 68=some (.slice 84):=by kernel_rfl
theorem infoU1:(Tryz.prog.info? 84).map (fun i=>(i.size,i.bytes))=some (1,8):=by kernel_rfl
theorem infoU2:((Tryz.prog.info? 84).bind (·.zero)).map (fun z=>z.cells.size)=some 1:=by kernel_rfl
theorem infoU3:((Tryz.prog.info? 84).bind (·.zero)).map (fun z=>z.cells.toList.all Value.oneCell')=some true:=by kernel_rfl
theorem info_u64:∃ i z,Tryz.prog.info? 84=some i∧i.zero=some z∧i.size=1∧i.bytes=8∧z.cells.size=1∧z.cells.toList.all Value.oneCell'=true:=by
 have h1:=infoU1
 have h2:=infoU2
 have h3:=infoU3
 generalize Tryz.prog.info? 84=x at h1 h2 h3 ⊢
 cases x with
 | none=>cases h1
 | some i=>
  cases hz:i.zero with
  | none=>simp[hz]at h2
  | some z=>
   simp only[Option.map_some,Option.bind_some,hz,Option.some.injEq,Prod.mk.injEq]at h1 h2 h3;exact⟨i,z,rfl,hz,h1.1,h1.2,h2,h3⟩
structure ClonedU(w:World)(news:List Value)(n gb cap:Nat)(cur:Array Value)(w':World):Prop where
 base:w.heap.size≤gb
 block:w'.heap[gb]?=some (.cells cur 84 (0,0))
 fit:n≤cap
 size:cur.size=cap
 take:cur.toList.take n=news
 one:∀ u,u∈cur.toList→u.oneCell'=true
 most:cap≤maxLen
 below:Below w.heap.size w w'
theorem append_madeU{W:World}{t ty:TypeId}(ht:Tryz.prog.underlying t=some (.slice 84))(g:Nat)(hg:W.heap[g]?=some (.cells #[] 84 (0,0)))(a:Addr)(n c:Nat)(news:List Value)(hl:news.length=n)(hn0:0<n)(hn:n≤1000000)
  (hnews:∀ j u,news[j]?=some u→W.cell? (a.add j)=some u) (h1:∀ u∈news,u.oneCell'=true) :
  ∃ cap cur w',(Builtin.append_ #[t,t] ty #[.slice (some ⟨g,0,none⟩) 0 0,.slice (some a) n c]).run Tryz.prog W=.ok (.slice (some ⟨W.heap.size,0,none⟩) n cap) w'∧ClonedU W news n W.heap.size cap cur w':=by
 obtain⟨i,z,hi,hz,hs,hby,hzs,hz1⟩:=info_u64
 have hr:=run_append_grow (P:=Tryz.prog) W t ty 84 i z ht hi hz ⟨g,0,none⟩ 0 0 [] (by simp) (fun j u h=>by simp at h) a n c news (by rw[hl,hs,Nat.mul_one]) hnews (by omega) (by omega) (by
  rw[hby];exact growslice_fits (by omega) (by omega))
 rw[Nat.zero_add]at hr;refine⟨grownCap W n 0 84,#[]++news.toArray++Builtin.zeroCells z.cells (grownCap W n 0 84-n),_,hr,?_⟩
 have hge:=grownCap_ge W n 0 84
 have hmost:=grownCap_le_maxLen W n 0 84 (by unfold maxLen;omega)
 generalize grownCap W n 0 84=gc at hge hmost;refine⟨Nat.le_refl _,heap_alloc_new W.drew _,hge,?_,?_,?_,hmost,?_⟩
 ·rw[Array.size_append,Array.size_append,size_zeroCells,hzs];simp[hl];omega
 ·simp[←hl]
 ·intro u hu;simp only[Array.toList_append,List.append_assoc,List.mem_append]at hu;rcases hu with h|h|h
  ·simp at h
  ·exact h1 u (by simpa using h)
  ·have:u∈z.cells.toList:=by
    unfold Builtin.zeroCells at h;simp only[Array.toList_map,List.mem_map]at h;obtain⟨k,hk,rfl⟩:=h
    have hm:k%z.cells.size<z.cells.size:=Nat.mod_lt _ (by omega)
    rw[getElem!_pos z.cells _ hm];simp
   exact List.all_eq_true.1 hz1 u this
 ·exact((Below.refl _ W).drew).alloc (Nat.le_refl _) _
theorem wpList_append_madeU{w:World}{ops:Array Oper}{rest:List Oper}{o:Oper}{a:Act}{Q:Exit→Act→World→Prop}(hgd:o.guard=none)(s x:Operand)(t:TypeId)
  (ho:o.op=.call { callee:=.builtin .append,args:=#[s,x],argTypes:=#[t,t] }) (ht:Tryz.prog.underlying t=some (.slice 84))
  (g:Nat) (hs:a.eval s=.slice (some ⟨g,0,none⟩) 0 0) (hg:w.heap[g]?=some (.cells #[] 84 (0,0)))
  (ad:Addr) (n c:Nat) (news:List Value) (hx:a.eval x=.slice (some ad) n c) (hl:news.length=n) (hn0:0<n) (hn:n≤1000000) (hnews:∀ j u,news[j]?=some u→w.cell? (ad.add j)=some u) (h1:∀ u∈news,u.oneCell'=true)
  (h:∀ cap cur w',ClonedU w news n w.heap.size cap cur w'→wpList Tryz.prog ops Q rest (a.put o.dst (.slice (some ⟨w.heap.size,0,none⟩) n cap)) w'):wpList Tryz.prog ops Q (o::rest) a w:=by
 refine wpList_plain hgd fun _ hK=>?_
 obtain⟨cap,cur,w',hr,hc⟩:=append_madeU (W:=w) (ty:=o.type) ht g hg ad n c news hl hn0 hn hnews h1
 have:=hK _ _ (h cap cur w' hc)
 unfold Oper.wp execOp;simp only[ho,resolve,invoke,builtin,Sem.run_bind,Sem.run_pure,Result.andThen_ok,List.map_toArray,List.map_cons,List.map_nil,hs,hx,hr];exact this
set_option maxHeartbeats 2000000 in
theorem cloneU_some(a:Addr)(n c:Nat)(news:List Value)(w:World)(hl:news.length=n)(hn0:0<n)(hn:n≤1000000)(hc:∀ j u,news[j]?=some u→w.cell? (a.add j)=some u)(h1:∀ u∈news,u.oneCell'=true) :
  Calls Tryz.prog 44 #[.slice (some a) n c] w fun e w'=>∃ gb cap cur,e=.returned (.slice (some ⟨gb,0,none⟩) n cap)∧ClonedU w news n gb cap cur w':=by
 have q22:∀ (w:World) (a:Option Addr) (n c n' c':Nat),(binOp .eql 68 (.slice a n c) (.slice none n' c')).run Tryz.prog w=.ok (.bool a.isNone) w:=fun w a n c n' c'=>Lib.run_eql_slice_nil w _ _ a n c n' c' under_row
 have A:Aside (∀ j u,news[j]?=some u→w.cell? (a.add j)=some u):=hc
 clear hc;go_enter Tryz.func44,Tryz.ntmps44
 go_wp2_with (at_builtin;refine wpList_append_madeU rfl _ _ 68 rfl under_row w.heap.size rfl (heap_alloc_new w _) a n c news rfl hl hn0 hn (fun j u hj=>Lib.cell?_alloc_some _ (A.out j u hj)) h1 ?_)
 intro cap cur w' hcl;go_wp2
 go_ret
 have hb:=(Below.refl w.heap.size w).alloc (Nat.le_refl _) (.cells #[] 84)
 exact⟨_,cap,cur,rfl,Nat.le_trans hb.size hcl.base,hcl.block,hcl.fit,hcl.size,hcl.take,hcl.one,hcl.most,hb.trans (hcl.below.mono hb.size)⟩
theorem wpList_append_noneU{w:World}{ops:Array Oper}{rest:List Oper}{o:Oper}{a:Act}{Q:Exit→Act→World→Prop}(hgd:o.guard=none)(s x:Operand)(t:TypeId)
  (ho:o.op=.call { callee:=.builtin .append,args:=#[s,x],argTypes:=#[t,t] }) (ht:Tryz.prog.underlying t=some (.slice 84))
  (g:Nat) (hs:a.eval s=.slice (some ⟨g,0,none⟩) 0 0) (ad:Addr) (c:Nat) (hx:a.eval x=.slice (some ad) 0 c)
  (h:wpList Tryz.prog ops Q rest (a.put o.dst (.slice (some ⟨g,0,none⟩) 0 0)) w):wpList Tryz.prog ops Q (o::rest) a w:=by
 refine wpList_plain hgd fun _ hK=>?_
 have hr:=Go.Ab.run_append_zero (P:=Tryz.prog) (w:=w) (t:=t) (ty:=o.type) ht (s:=1) (by kernel_rfl) (base:=some g) (n:=0) (cap:=0) (c:=c) (a:=some ad) (Nat.le_refl _)
 have:=hK _ _ h
 unfold Oper.wp execOp;simp only[Option.map_some]at hr;simp only[ho,resolve,invoke,builtin,Sem.run_bind,Sem.run_pure,Result.andThen_ok,List.map_toArray,List.map_cons,List.map_nil,hs,hx,hr];exact this
set_option maxHeartbeats 2000000 in
theorem cloneU_none(a:Addr)(c:Nat)(w:World):Calls Tryz.prog 44 #[.slice (some a) 0 c] w fun e w'=>∃ gb cap cur,e=.returned (.slice (some ⟨gb,0,none⟩) 0 cap)∧ClonedU w [] 0 gb cap cur w':=by
 have q22:∀ (w:World) (a:Option Addr) (n c n' c':Nat),(binOp .eql 68 (.slice a n c) (.slice none n' c')).run Tryz.prog w=.ok (.bool a.isNone) w:=fun w a n c n' c'=>Lib.run_eql_slice_nil w _ _ a n c n' c' under_row
 go_enter Tryz.func44,Tryz.ntmps44
 go_wp2_with (at_builtin;refine wpList_append_noneU rfl _ _ 68 rfl under_row w.heap.size rfl a c rfl ?_)
 go_wp2
 go_ret
 have hb:=(Below.refl w.heap.size w).alloc (Nat.le_refl _) (.cells #[] 84)
 exact⟨_,0,#[],rfl,Nat.le_refl _,heap_alloc_new w _,Nat.le_refl _,rfl,rfl,fun u h=>by simp at h,by simp[maxLen],hb⟩
end Go.Proofs.YticliodhjfednaaGreat
namespace Go.Proofs.YticliodhjfednaaGreat
open Go Go.Ab Go.RowKit
def wordX:List AV→List AObj→Option (Out×List AObj)
 | [.d (.int .i64 op)],H=>some (.ret (.d (.str (wordP op))),H)
 | _,_=>none
theorem word_sound(as0:List AV)(H:List AObj)(out:Out)(H':List AObj)(h:wordX as0 H=some (out,H')):(∀ args w,(callFunc 131 args).run Tryz.prog w=.ok (.enter 131 args) w)∧H.length≤H'.length ∧
  ∀ (w:World) (Im:Imm) (g:List Gh) (vs:List Value),HR Tryz.prog w Im g H→RepAs w Im g vs as0→Calls Tryz.prog 131 ⟨vs⟩ w (CallPost Tryz.prog w Im g out H'):=by
 unfold wordX at h;split at h
 ·cases h;refine ext_calls (enter_of Tryz.func131 (by kernel_rfl) rfl) fun w Im g vs hH hr=>?_
  obtain⟨hl,hr⟩:=hr
  match vs,hl with
  | [v],_=>
   rw[repA_int (hr 0 _ _ rfl rfl)];refine(irword_any _ _).mono ?_
   rintro e w' ⟨rfl,hb⟩
   exact⟨hb,_,rfl,fun w'=>.d (.str _)⟩
 ·cases h
end Go.Proofs.YticliodhjfednaaGreat
namespace Go.Proofs.YticliodhjfednaaGreat
open Go Go.RowKit Go.Lib
theorem under_vars:Tryz.prog.underlying 34=some (.slice 38):=by kernel_rfl
theorem info_var1:(Tryz.prog.info? 38).map (fun i=>(i.size,i.bytes))=some (3,32):=by kernel_rfl
theorem info_var2:((Tryz.prog.info? 38).bind (·.zero)).map (fun z=>z.cells.size)=some 3:=by kernel_rfl
theorem info_var:∃ i z,Tryz.prog.info? 38=some i∧i.zero=some z∧i.size=3∧i.bytes=32∧z.cells.size=3:=by
 have h1:=info_var1
 have h2:=info_var2
 generalize Tryz.prog.info? 38=x at h1 h2 ⊢
 cases x with
 | none=>cases h1
 | some i=>
  cases hz:i.zero with
  | none=>simp[hz]at h2
  | some z=>
   simp[hz]at h1 h2;exact⟨i,z,rfl,hz,h1.1,h1.2,h2⟩
set_option maxHeartbeats 2000000 in
theorem clone_some(a:Addr)(n c:Nat)(news:List Value)(w:World)(hl:news.length=n*3)(hn:n≤1000)(hc:∀ j u,news[j]?=some u→w.cell? (a.add j)=some u)(h1:∀ u∈news,u.oneCell'=true) :
  Calls Tryz.prog 76 #[.slice (some a) n c] w fun e w'=>∃ v',e=.returned v'∧w'.ownsRow w.heap.size 38 3 v' n news∧Below w.heap.size w w':=by
 obtain⟨i0,z,hi,hz0,hz1,hz2,hzs⟩:=info_var
 have q22:∀ (w:World) (a:Option Addr) (n c n' c':Nat),(binOp .eql 34 (.slice a n c) (.slice none n' c')).run Tryz.prog w=.ok (.bool a.isNone) w:=fun w a n c n' c'=>Lib.run_eql_slice_nil w _ _ a n c n' c' under_vars
 have A:Aside (∀ j u,news[j]?=some u→w.cell? (a.add j)=some u):=hc
 clear hc;go_enter Tryz.func76,Tryz.ntmps76
 go_wp2_with (at_builtin;refine wpList_append_own _ rfl _ _ 34 rfl w.heap.size 38 i0 z 3 32 under_vars hi hz0 hz1 hz2 hzs (by decide) _ _ _ rfl (World.ownsRow_made w #[] 0 (Nat.le_refl _) (Nat.zero_le _) (by simp)) a n c news rfl ?qc1 ?qc2 ?qc3 ?qc4 ?qc5 ?qc6 ?_)
 case qc1=>exact hl
 case qc2=>
  intro j u hj;exact Lib.cell?_alloc_some _ (A.out j u hj)
 case qc3=>exact h1
 case qc4=>rw[Nat.zero_add];simp only[maxLen];omega
 case qc5=>rw[Nat.zero_add];omega
 case qc6=>simp
 intro v' w1 hown hgrow hnil;go_wp2
 go_ret
 refine⟨v',rfl,by simpa using hown,?_⟩
 exact((Below.refl _ w).alloc (Nat.le_refl _) _).grown hgrow (by simp) (by intro k hk;simp[Value.ownBlock]at hk;omega)
set_option maxHeartbeats 1000000 in
theorem clone_nil(n c:Nat)(w:World):Calls Tryz.prog 76 #[.slice none n c] w fun e w'=>e=.returned (.slice none 0 0)∧w'=w:=by
 have q22:∀ (w:World) (a:Option Addr) (n c n' c':Nat),(binOp .eql 34 (.slice a n c) (.slice none n' c')).run Tryz.prog w=.ok (.bool a.isNone) w:=fun w a n c n' c'=>Lib.run_eql_slice_nil w _ _ a n c n' c' under_vars
 go_enter Tryz.func76,Tryz.ntmps76
 go_wp2
 go_ret
 exact⟨rfl,rfl⟩
end Go.Proofs.YticliodhjfednaaGreat
namespace Go.Proofs.YticliodhjfednaaGreat
open Go Go.Ab Go.RowKit
theorem flatN{sz:Nat}{rows:List (List Dt)}(h:∀ row,row∈rows→row.length=sz):rows.flatten.length=rows.length*sz:=by
 induction rows with
 | nil=>simp
 | cons r rows ih=>
  have h1:=h r (by simp)
  have h2:=ih (fun row hr=>h row (by simp[hr]))
  simp only[List.flatten_cons,List.length_append,List.length_cons,Nat.add_mul,Nat.one_mul];omega
theorem add_none(b o j:Nat):(⟨b,o,none⟩:Addr).add j=⟨b,o+j,none⟩:=by unfold Addr.add;split<;>simp_all
theorem one_gh{α:Type}{x y:α}{r:Nat}(h:[x][r]?=some y):r=0∧y=x:=by
 cases r with
 | zero=>simp at h;exact⟨rfl,h.symm⟩
 | succ r=>simp at h
theorem gle_nil(g:List Gh):GLe [] g:=⟨fun r b h=>by simp at h,fun r _ _ _ _ _ h=>by simp at h,fun r _ _ h=>by simp at h,fun r _ _ h=>by simp at h,fun r _ h=>by simp at h⟩
theorem own_post{P:Program}{w w':World}{Im:Imm}{t:TypeId}{v':Value}{sz:Nat}{rows:List (List Dt)}{news:List Value}(hH:HR P w Im [] [])(h3:∀ row,row∈rows→row.length=sz)
  (hr:∀ (k:Nat) (u:Value) (x:Dt),news[k]?=some u→rows.flatten[k]?=some x→RepD w Im u x) (ho:w'.ownsRow w.heap.size t sz v' rows.length news) (hb:Below w.heap.size w w') :
  CallPost P w Im [] (.ret (.grow 0 0 rows)) [.grow 0 sz] (.returned v') w':=by
 have hIm:=hH.im
 have hfl:=flatN h3
 have keep:∀ (b o:Nat),Im b o→w'.cell? ⟨b,o,none⟩=w.cell? ⟨b,o,none⟩:=fun b o h=>by unfold World.cell?;rw[hb.block b (hIm b o h)]
 obtain⟨hl,ho⟩:=ho
 rcases ho with⟨rfl,h0⟩|⟨gb,cap,cur,rfl,hbase,hcur,hcap,_,hsize,htake⟩
 ·have hrows:rows=[]:=List.length_eq_zero_iff.1 h0
  subst hrows
  have e:Ext w Im [] w' Im [.gr 0 sz none 0 0]:=⟨hb.os,hb.tape,hb.output,hb.size,fun _ _ h=>h,keep,fun k hk _=>hb.block k hk,fun _ _ h=>.inl h,fun k hk=>by
   obtain⟨r,x,h1,h2⟩:=hk
   obtain⟨_,rfl⟩:=one_gh h1
   exact absurd h2.1 (by simp),gle_nil _⟩
  refine⟨Im,[.gr 0 sz none 0 0],hH.go e rfl (fun r=>r=0) (fun r h=>?_) (fun r x k h hx=>by simp at hx) (fun r cs h hc=>?_) (fun r ep s h hc=>?_) (fun r es h hc=>?_) (fun r a b c h hc=>?_) (fun r acc h hc=>?_) (fun r r' k x x' h hne h1 h2=>?_) (fun r k x h h1 h2=>?_) (fun b o h=>Nat.lt_of_lt_of_le (hIm b o h) hb.size),e,_,rfl,?_⟩
  ·cases r with
   | zero=>exact absurd rfl h
   | succ r=>simp
  ·cases (one_gh hc).2
  ·obtain⟨rfl,hc⟩:=one_gh hc
   cases hc;exact⟨none,0,0,rfl,Nat.le_refl _,fun _=>rfl,fun b hb=>by cases hb⟩
  ·cases (one_gh hc).2
  ·cases (one_gh hc).2
  ·cases (one_gh hc).2
  ·exact absurd ((one_gh h1).1.trans (one_gh h2).1.symm) hne
  ·obtain⟨_,rfl⟩:=one_gh h1
   exact absurd h2.1 (by simp)
  ·exact .grow (.sl0 _ _) (by rfl) h3 (Nat.le_refl _) (fun _=>⟨rfl,rfl⟩)
 ·have hglt:gb<w'.heap.size:=(Array.getElem?_eq_some_iff.1 hcur).1
  have e:Ext w Im [] w' (fun b o=>Im b o∨(b=gb∧o<rows.length*sz)) [.gr 0 sz (some gb) rows.length cap]:=⟨hb.os,hb.tape,hb.output,hb.size,fun _ _ h=>.inl h,keep,fun k hk _=>hb.block k hk,fun b o h=>by
   rcases h with h|⟨rfl,_⟩
   ·exact .inl h
   ·exact .inr (.inl hbase),fun k hk=>by
   obtain⟨r,x,h1,h2⟩:=hk
   obtain⟨_,rfl⟩:=one_gh h1
   obtain⟨h2,_⟩:=h2
   cases h2;exact .inr hbase,gle_nil _⟩
  refine⟨fun b o=>Im b o∨(b=gb∧o<rows.length*sz),[.gr 0 sz (some gb) rows.length cap],hH.go e rfl (fun r=>r=0) (fun r h=>?_) (fun r x k h hx=>by simp at hx) (fun r cs h hc=>?_) (fun r ep s h hc=>?_) (fun r es h hc=>?_) (fun r a b c h hc=>?_) (fun r acc h hc=>?_) (fun r r' k x x' h hne h1 h2=>?_) (fun r k x h h1 h2=>?_) (fun b o h=>?_),e,_,rfl,?_⟩
  ·cases r with
   | zero=>exact absurd rfl h
   | succ r=>simp
  ·cases (one_gh hc).2
  ·obtain⟨rfl,hc⟩:=one_gh hc
   cases hc;refine⟨some gb,rows.length,cap,rfl,hcap,(fun h=>by cases h),fun b hb hlt=>?_⟩
   cases hb;refine⟨cur.toList,t,hcur,by simp[hsize],fun o ho=>?_⟩
   rintro(h|⟨_,h⟩)
   ·have:=hIm _ _ h;omega
   ·omega
  ·cases (one_gh hc).2
  ·cases (one_gh hc).2
  ·cases (one_gh hc).2
  ·exact absurd ((one_gh h1).1.trans (one_gh h2).1.symm) hne
  ·obtain⟨_,rfl⟩:=one_gh h1
   obtain⟨h2,_⟩:=h2
   cases h2;exact hglt
  ·rcases h with h|⟨rfl,_⟩
   ·exact Nat.lt_of_lt_of_le (hIm b o h) hb.size
   ·exact hglt
  ·refine .grow (len:=rows.length) (cap:=cap) (base:=some gb) ?_ (by rfl) h3 (Nat.le_refl _) (fun _=>⟨rfl,rfl⟩)
   refine .sl gb 0 cap sz rows (fun k=>news.getD k undef) hcap h3 (fun k hk=>?_) (fun k x hx=>?_)
   ·rw[hfl]at hk;refine⟨.inr ⟨rfl,by omega⟩,?_⟩
    rw[List.getD_eq_getElem?_getD,List.getElem?_eq_getElem (by omega),Option.getD_some]
    have:=cell_of_row w' gb k cur t (0,0) hcur
    rw[Nat.zero_add,this];have h4:(cur.toList.take (rows.length*sz))[k]?=some news[k]:=by rw[htake,List.getElem?_eq_getElem]
    rw[List.getElem?_take,if_pos hk]at h4
    simpa using h4
   ·have hk:=(List.getElem?_eq_some_iff.1 hx).1
    rw[hfl]at hk
    have hn:news[k]?=some (news.getD k undef):=by
     rw[List.getD_eq_getElem?_getD,List.getElem?_eq_getElem (by omega),Option.getD_some]
    exact(hr k _ x hn hx).ext (fun b o h=>⟨.inl h,keep b o h⟩)
end Go.Proofs.YticliodhjfednaaGreat
namespace Go.Proofs.YticliodhjfednaaGreat
open Go Go.Ab Go.RowKit
def rows3:List (List Dt)→Bool
 | []=>true
 | r::l=>decide (r.length=3)&&rows3 l
theorem rows3_all:∀ {l:List (List Dt)},rows3 l=true→∀ row,row∈l→row.length=3
 | [],_,row,h=>by cases h
 | r::l,h,row,hr=>by
  simp only[rows3,Bool.and_eq_true,decide_eq_true_eq]at h;rcases List.mem_cons.1 hr with rfl|hr
  ·exact h.1
  ·exact rows3_all h.2 row hr
theorem rows3_map(l:List Vr1):rows3 (l.map Vr1.row)=true:=by
 induction l with
 | nil=>rfl
 | cons v l ih=>simp only[List.map_cons,rows3,Vr1.row,ih];rfl
def cloneX:List AV→List AObj→Option (Out×List AObj)
 | [.d (.sl rows)],[]=>if rows.length≤1000∧rows3 rows=true then some (.ret (.grow 0 0 rows),[.grow 0 3])else none
 | _,_=>none
theorem clone_sound(as0:List AV)(H:List AObj)(out:Out)(H':List AObj)(h:cloneX as0 H=some (out,H')):(∀ args w,(callFunc 76 args).run Tryz.prog w=.ok (.enter 76 args) w)∧H.length≤H'.length ∧
  ∀ (w:World) (Im:Imm) (g:List Gh) (vs:List Value),HR Tryz.prog w Im g H→RepAs w Im g vs as0→Calls Tryz.prog 76 ⟨vs⟩ w (CallPost Tryz.prog w Im g out H'):=by
 unfold cloneX at h;split at h
 ·rename_i rows;split at h
  ·rename_i hc
   cases h;refine⟨enter_of Tryz.func76 (by kernel_rfl) rfl,by simp,fun w Im g vs hH hr=>?_⟩
   have hg:g=[]:=List.length_eq_zero_iff.1 hH.len
   subst hg;have h3:=rows3_all hc.2
   have hfl:=flatN h3
   obtain⟨hl,hr⟩:=hr
   match vs,hl with
   | [v],_=>
    have hv:=hr 0 v _ rfl rfl
    cases hv with
    | d hd=>
     cases hd with
     | sl0 a cap=>
      cases a with
      | none=>
       refine(clone_nil 0 cap w).mono ?_
       rintro e w' ⟨rfl,rfl⟩
       exact own_post (news:=[]) (t:=38) hH h3 (fun k u x h=>by simp at h) (World.ownsRow_nil _ _ _ _) (Below.refl _ _)
      | some a=>
       refine(clone_some a 0 cap [] w (by simp) (by omega) (fun j u h=>by simp at h) (fun u h=>by simp at h)).mono ?_
       rintro e w' ⟨v',rfl,ho,hb⟩
       exact own_post (news:=[]) hH h3 (fun k u x h=>by simp at h) ho hb
     | sl b o cap sz rows us hcap hsz him hrr=>
      have hat:∀ (j:Nat) (u:Value),((List.range (rows.length*3)).map us)[j]?=some u→j<rows.flatten.length∧u=us j:=by
       intro j u h;rw[List.getElem?_map]at h
       have hj:j<rows.length*3:=by
        rcases Nat.lt_or_ge j (rows.length*3)with hj|hj
        ·exact hj
        ·rw[List.getElem?_eq_none (by simpa using hj)]at h;cases h
       rw[List.getElem?_range hj]at h
       simp at h;exact⟨by omega,h.symm⟩
      have hrx:∀ (k:Nat),k<rows.flatten.length→RepD w Im (us k) (rows.flatten[k]?.getD .nilp):=fun k hk=>hrr k _ (by rw[List.getElem?_eq_getElem hk];rfl)
      refine(clone_some ⟨b,o,none⟩ rows.length cap ((List.range (rows.length*3)).map us) w (by simp) hc.1 (fun j u h=>?_) (fun u h=>?_)).mono ?_
      ·obtain⟨hj,rfl⟩:=hat j u h
       rw[add_none];exact(him j hj).2
      ·obtain⟨j,hj0⟩:=List.getElem?_of_mem h
       obtain⟨hj,rfl⟩:=hat j u hj0
       exact repD_one (hrx j hj)
      ·rintro e w' ⟨v',rfl,ho,hb⟩
       refine own_post hH h3 (fun k u x h hx=>?_) ho hb
       obtain⟨hj,rfl⟩:=hat k u h
       exact hrr k x hx
  ·cases h
 ·cases h
end Go.Proofs.YticliodhjfednaaGreat
namespace Go.Proofs.YticliodhjfednaaGreat
open Go Go.Ab
theorem rows_of{α:Type}{f:α→List Dt}{Q:α→Prop}{T:DT}(hT:∀ xs,WfD T xs→∃ x,xs=f x∧Q x):∀ {rows:List (List Dt)},(∀ row,row∈rows→WfD T row)→∃ l:List α,rows=l.map f∧∀ x,x∈l→Q x
 | [],_=>⟨[],rfl,fun x h=>by cases h⟩
 | row::rows,h=>by
  obtain⟨x,rfl,hx⟩:=hT row (h row (by simp))
  obtain⟨l,rfl,hl⟩:=rows_of hT (rows:=rows) (fun r hr=>h r (by simp[hr]))
  exact⟨x::l,rfl,fun y hy=>by rcases List.mem_cons.1 hy with h1|h1;(subst h1;exact hx);exact hl y h1⟩
theorem sl_of{α:Type}{f:α→List Dt}{Q:α→Prop}{T:DT}(hT:∀ xs,WfD T xs→∃ x,xs=f x∧Q x){xs:List Dt}(h:WfD (.sl T) xs):∃ l:List α,xs=[.sl (l.map f)]∧l.length≤maxLen∧∀ x,x∈l→Q x:=by
 simp only[WfD]at h;obtain⟨rows,rfl,hl,h⟩:=h
 obtain⟨l,rfl,hQ⟩:=rows_of hT h
 exact⟨l,rfl,by simpa using hl,hQ⟩
def typeT:DT:=.st [.bool,.str]
def posT:DT:=.st [.int .i64,.int .i64]
def varT1:DT:=.st [typeT,.int .i64]
def fieldT:DT:=.st [.str,typeT,posT]
def structT:DT:=.st [.str,.sl fieldT,posT]
def insT:DT:=.st [.int .i64,.int .i64,.int .i64,.int .i64,.int .i64,.int .i64,.str,.sl (.int .i64),.sl (.int .i64),.int .i64,.int .i64,posT]
def codeT:DT:=.st [.str,.int .i64,.sl varT1,varT1,.sl (.int .i64),.sl insT]
def modT:DT:=.st [.sl structT,.sl codeT]
def I64(n:Int):Prop:=-9223372036854775808≤n∧n≤9223372036854775807
theorem lit_i64{n:Int}(h:(Lit.int .i64 n).wf=true):I64 n:=by
 unfold I64;simpa[Lit.wf,IntKind.signed,IntKind.bits,IntKind.min,IntKind.max,Bool.and_eq_true,decide_eq_true_eq]using h
theorem int_wf{xs:List Dt}(h:WfD (.int .i64) xs):∃ n,xs=rowI n∧I64 n:=by
 simp only[WfD]at h;obtain⟨n,rfl,h⟩:=h
 exact⟨n,rfl,lit_i64 h⟩
theorem ints_wf{xs:List Dt}(h:WfD (.sl (.int .i64)) xs):∃ l:List Int,xs=[ints l]∧l.length≤maxLen∧∀ n,n∈l→I64 n:=sl_of (f:=rowI) (fun _ h=>int_wf h) h
theorem str_wf{xs:List Dt}(h:WfD .str xs):∃ s,xs=[.str s]∧s.length≤maxLen:=by simpa only[WfD]using h
theorem bool_wf{xs:List Dt}(h:WfD .bool xs):∃ b,xs=[.bool b]:=by simpa only[WfD]using h
theorem st1{T:DT}{Ts:List DT}{xs:List Dt}(h:WfD (.st (T::Ts)) xs):∃ a b,xs=a++b∧WfD T a∧WfD (.st Ts) b:=by
 simp only[WfD,WfL]at h;exact h
theorem st0{xs:List Dt}(h:WfD (.st []) xs):xs=[]:=by simpa only[WfD,WfL]using h
theorem pos_wf{xs:List Dt}(h:WfD posT xs):∃ p:Int×Int,xs=[.int .i64 p.1,.int .i64 p.2]∧I64 p.1∧I64 p.2:=by
 obtain⟨_,_,rfl,h1,h⟩:=st1 h
 obtain⟨_,_,rfl,h2,h⟩:=st1 h
 obtain rfl:=st0 h
 obtain⟨a,rfl,ha⟩:=int_wf h1
 obtain⟨b,rfl,hb⟩:=int_wf h2
 exact⟨(a,b),rfl,ha,hb⟩
theorem type_wf{xs:List Dt}(h:WfD typeT xs):∃ t:Ty1,xs=t.row∧t.to.length≤maxLen:=by
 obtain⟨_,_,rfl,h1,h⟩:=st1 h
 obtain⟨_,_,rfl,h2,h⟩:=st1 h
 obtain rfl:=st0 h
 obtain⟨a,rfl⟩:=bool_wf h1
 obtain⟨b,rfl,hb⟩:=str_wf h2
 exact⟨⟨a,b⟩,rfl,hb⟩
structure VrOk(v:Vr1):Prop where
 t:v.t.to.length≤maxLen
 cls:I64 v.cls
theorem var_wf{xs:List Dt}(h:WfD varT1 xs):∃ v:Vr1,xs=v.row∧VrOk v:=by
 obtain⟨_,_,rfl,h1,h⟩:=st1 h
 obtain⟨_,_,rfl,h2,h⟩:=st1 h
 obtain rfl:=st0 h
 obtain⟨t,rfl,ht⟩:=type_wf h1
 obtain⟨b,rfl,hb⟩:=int_wf h2
 exact⟨⟨t,b⟩,rfl,ht,hb⟩
structure FdOk(f:Fd1):Prop where
 name:f.name.length≤maxLen
 t:f.t.to.length≤maxLen
 pos:I64 f.pos.1∧I64 f.pos.2
theorem field_wf{xs:List Dt}(h:WfD fieldT xs):∃ f:Fd1,xs=f.row∧FdOk f:=by
 obtain⟨_,_,rfl,h1,h⟩:=st1 h
 obtain⟨_,_,rfl,h2,h⟩:=st1 h
 obtain⟨_,_,rfl,h3,h⟩:=st1 h
 obtain rfl:=st0 h
 obtain⟨s,rfl,hs⟩:=str_wf h1
 obtain⟨t,rfl,ht⟩:=type_wf h2
 obtain⟨p,rfl,hp⟩:=pos_wf h3
 exact⟨⟨s,t,p⟩,rfl,hs,ht,hp⟩
structure ScOk(s:Sc1):Prop where
 name:s.name.length≤maxLen
 flen:s.fields.length≤maxLen
 fields:∀ f,f∈s.fields→FdOk f
 pos:I64 s.pos.1∧I64 s.pos.2
theorem struct_wf{xs:List Dt}(h:WfD structT xs):∃ s:Sc1,xs=s.row∧ScOk s:=by
 obtain⟨_,_,rfl,h1,h⟩:=st1 h
 obtain⟨_,_,rfl,h2,h⟩:=st1 h
 obtain⟨_,_,rfl,h3,h⟩:=st1 h
 obtain rfl:=st0 h
 obtain⟨s,rfl,hs⟩:=str_wf h1
 obtain⟨l,rfl,hl,hf⟩:=sl_of (fun _ h=>field_wf h) h2
 obtain⟨p,rfl,hp⟩:=pos_wf h3
 exact⟨⟨s,l,p⟩,rfl,hs,hl,hf,hp⟩
structure InOk(i:In1):Prop where
 op:I64 i.op
 d:I64 i.d
 a:I64 i.a
 b:I64 i.b
 f:I64 i.f
 n:I64 i.n
 sign:i.sign.length≤maxLen
 args:i.args.length≤maxLen∧∀ x,x∈i.args→I64 x
 mode:i.mode.length≤maxLen∧∀ x,x∈i.mode→I64 x
 dest:I64 i.to
 els:I64 i.els
 pos:I64 i.pos.1∧I64 i.pos.2
theorem ins_wf{xs:List Dt}(h:WfD insT xs):∃ i:In1,xs=i.row∧InOk i:=by
 obtain⟨_,_,rfl,h1,h⟩:=st1 h
 obtain⟨_,_,rfl,h2,h⟩:=st1 h
 obtain⟨_,_,rfl,h3,h⟩:=st1 h
 obtain⟨_,_,rfl,h4,h⟩:=st1 h
 obtain⟨_,_,rfl,h5,h⟩:=st1 h
 obtain⟨_,_,rfl,h6,h⟩:=st1 h
 obtain⟨_,_,rfl,h7,h⟩:=st1 h
 obtain⟨_,_,rfl,h8,h⟩:=st1 h
 obtain⟨_,_,rfl,h9,h⟩:=st1 h
 obtain⟨_,_,rfl,h10,h⟩:=st1 h
 obtain⟨_,_,rfl,h11,h⟩:=st1 h
 obtain⟨_,_,rfl,h12,h⟩:=st1 h
 obtain rfl:=st0 h
 obtain⟨x1,rfl,k1⟩:=int_wf h1
 obtain⟨x2,rfl,k2⟩:=int_wf h2
 obtain⟨x3,rfl,k3⟩:=int_wf h3
 obtain⟨x4,rfl,k4⟩:=int_wf h4
 obtain⟨x5,rfl,k5⟩:=int_wf h5
 obtain⟨x6,rfl,k6⟩:=int_wf h6
 obtain⟨x7,rfl,k7⟩:=str_wf h7
 obtain⟨x8,rfl,k8⟩:=ints_wf h8
 obtain⟨x9,rfl,k9⟩:=ints_wf h9
 obtain⟨x10,rfl,k10⟩:=int_wf h10
 obtain⟨x11,rfl,k11⟩:=int_wf h11
 obtain⟨x12,rfl,k12⟩:=pos_wf h12
 exact⟨⟨x1,x2,x3,x4,x5,x6,x7,x8,x9,x10,x11,x12⟩,rfl,k1,k2,k3,k4,k5,k6,k7,k8,k9,k10,k11,k12⟩
structure CdOk(c:Cd1):Prop where
 name:c.name.length≤maxLen
 params:I64 c.params
 vars:c.vars.length≤maxLen∧∀ v,v∈c.vars→VrOk v
 ret:VrOk c.ret
 frm:c.frm.length≤maxLen∧∀ x,x∈c.frm→I64 x
 ins:c.ins.length≤maxLen∧∀ i,i∈c.ins→InOk i
theorem code_wf{xs:List Dt}(h:WfD codeT xs):∃ c:Cd1,xs=c.row∧CdOk c:=by
 obtain⟨_,_,rfl,h1,h⟩:=st1 h
 obtain⟨_,_,rfl,h2,h⟩:=st1 h
 obtain⟨_,_,rfl,h3,h⟩:=st1 h
 obtain⟨_,_,rfl,h4,h⟩:=st1 h
 obtain⟨_,_,rfl,h5,h⟩:=st1 h
 obtain⟨_,_,rfl,h6,h⟩:=st1 h
 obtain rfl:=st0 h
 obtain⟨x1,rfl,k1⟩:=str_wf h1
 obtain⟨x2,rfl,k2⟩:=int_wf h2
 obtain⟨x3,rfl,k3⟩:=sl_of (fun _ h=>var_wf h) h3
 obtain⟨x4,rfl,k4⟩:=var_wf h4
 obtain⟨x5,rfl,k5⟩:=ints_wf h5
 obtain⟨x6,rfl,k6⟩:=sl_of (fun _ h=>ins_wf h) h6
 exact⟨⟨x1,x2,x3,x4,x5,x6⟩,rfl,k1,k2,k3,k4,k5,k6⟩
structure MdOk(m:Md1):Prop where
 structs:m.structs.length≤maxLen∧∀ s,s∈m.structs→ScOk s
 funcs:m.funcs.length≤maxLen∧∀ c,c∈m.funcs→CdOk c
theorem mod_wf{xs:List Dt}(h:WfD modT xs):∃ m:Md1,argOf modT xs=m.av∧MdOk m:=by
 obtain⟨_,_,rfl,h1,h⟩:=st1 h
 obtain⟨_,_,rfl,h2,h⟩:=st1 h
 obtain rfl:=st0 h
 obtain⟨x1,rfl,k1⟩:=sl_of (fun _ h=>struct_wf h) h1
 obtain⟨x2,rfl,k2⟩:=sl_of (fun _ h=>code_wf h) h2
 exact⟨⟨x1,x2⟩,rfl,k1,k2⟩
theorem MdOk.names{m:Md1}(h:MdOk m):∀ s,s∈m.structs→∀ f,f∈s.fields→f.name.length≤9223372036854775807:=fun s hs f hf=>(((h.structs.2 s hs).fields f hf).name)
theorem int_arg{xs:List Dt}(h:WfD (.int .i64) xs):∃ n,argOf (.int .i64) xs=.d (.int .i64 n)∧I64 n:=by
 obtain⟨n,rfl,k⟩:=int_wf h
 exact⟨n,rfl,k⟩
end Go.Proofs.YticliodhjfednaaGreat
namespace Go.Proofs.YticliodhjfednaaGreat
open Go Go.Ab
variable {ext:Sem'}
def nxtI(i:In1)(k:Int):List Int:=if i.op=16 then [i.to]else if i.op=17 then(if i.to=i.els then [i.to]else [i.to,i.els])else if i.op=18 then []else [k+1]
theorem nxtI_len(i:In1)(k:Int):(nxtI i k).length≤2:=by unfold nxtI;split<;>(try split)<;>(try split)<;>simp
theorem cpt2(hx:TX ext)(a b:Int)(h:¬a=b):G ext 87 [.d (.sl [[.int .i64 a],[.int .i64 b]])] []=some (.ret (.d (.sl [[.int .i64 a],[.int .i64 b]])),[]):=by
 have h2:¬b=a:=fun e=>h e.symm
 have h:=eq_false h
 have h2:=eq_false h2
 rw[G_body hx.clear rfl Tryz.func87 rfl Tryz.results87 hv_87 rfl];simp(maxSteps:=9^9)(disch:=first|(intros;contradiction)|omega)only[go_sem,h,h2]
 generalize hL:loopA _ _ _=L;apply loop_upd hL (by simp(maxSteps:=9^9)(disch:=first|(intros;contradiction)|omega)only[go_sem]<;>rfl) (α:=Nat) (fun k=>k=1∨k=2) (fun k=>2-k) (fun k=>[(3,.d (.int .i64 k))]) (fun _=>[]) 1 (by simp(maxSteps:=9^9)(disch:=first|(intros;contradiction)|omega)only[go_sem]<;>rfl) (.inl rfl) ?_
 rintro k hk next ih
 clear hL;rcases hk with rfl|rfl
 ·simp(maxSteps:=9^9)(disch:=first|(intros;contradiction)|omega)only[go_sem,h,h2,wrap64]
  exact ih 2 _ (.inr rfl) (by omega) (by simp(maxSteps:=9^9)(disch:=first|(intros;contradiction)|omega)only[go_sem]<;>rfl)
 ·clear ih;simp(maxSteps:=9^9)(disch:=first|(intros;contradiction)|omega)only[go_sem,h,h2,wrap64]
theorem G_bodyF{f:Nat}{F:Func}{c:Code}{xs:List AV}{H:List AObj}{rs:List ResultVar}{V:List Nat}(he:ext f xs H=none)(h:Tryz.prog.funcs[f]?=some F)(hb:F.body=some c)(hr:F.results=⟨rs⟩)(hV:hv f=V)(hl:Nat.ble xs.length F.ntmps=true) :
  G ext f xs H=finish Tryz.prog rs H.length (evC Tryz.prog (G ext) (hd f) (hf f) 0 c (.go (Go.Ab.start xs V H))):=
 callA_body he h hb hr hV (Nat.le_of_ble_eq_true hl)
theorem next_e(hx:TF ext)(i:In1)(k:Int)(h0:0≤k)(h1:k≤1000000):G ext 48 [i.av,.d (.int .i64 k)] []=some (.ret (.d (ints (nxtI i k))),[]):=by
 by_cases hs:i.op=17∧i.to=i.els
 ·obtain⟨o2,ho⟩:=hs
  unfold nxtI;rw[if_neg (by omega),if_pos o2,if_pos ho]
  exact G_ext (hx.next i k o2 ho)
 ·have hn:=hx.nextN i k hs
  rw[G_bodyF hn Tryz.func48 rfl Tryz.results48 hv_48 rfl];unfold nxtI;simp only[In1.av,ints];by_cases o1:i.op=16
  ·rw[if_pos o1];simp(maxSteps:=9^9)(disch:=first|(intros;contradiction)|omega)only[go_sem,o1,List.map_cons,List.map_nil,rowI]
  ·rw[if_neg o1];by_cases o2:i.op=17
   ·have ho:¬i.to=i.els:=fun h=>hs ⟨o2,h⟩
    rw[if_pos o2,if_neg ho];have hc:=cpt2 hx.toTX i.to i.els ho
    have o1:=eq_false o1
    simp(maxSteps:=9^9)(disch:=first|(intros;contradiction)|omega)only[go_sem,o1,o2,hc,List.map_cons,List.map_nil,rowI]
   ·rw[if_neg o2];by_cases o3:i.op=18
    ·rw[if_pos o3];simp(maxSteps:=9^9)(disch:=first|(intros;contradiction)|omega)only[go_sem,o1,o2,o3,List.map_cons,List.map_nil,rowI]
    ·rw[if_neg o3];simp(maxSteps:=9^9)(disch:=first|(intros;contradiction)|omega)only[go_sem,o1,o2,o3,wrap64,List.map_cons,List.map_nil,rowI]
def offP(n:Nat)(x:Int):Bool:=decide (x<0)||decide ((n:Int)≤x)
theorem off_e(hx:TX ext)(c:Cd1)(x:Int):G ext 140 ([avI x]++[.ptr 0 0]) [.cells [.d (.str c.name),.d (.int .i64 c.params),.d (.sl (c.vars.map Vr1.row)),.d (.bool c.ret.t.ptr),.d (.str c.ret.t.to),.d (.int .i64 c.ret.cls),.d (ints c.frm),.d (.sl (c.ins.map In1.row))]]=some (.ret (.d (.bool (offP c.ins.length x))),[.cells [.d (.str c.name),.d (.int .i64 c.params),.d (.sl (c.vars.map Vr1.row)),.d (.bool c.ret.t.ptr),.d (.str c.ret.t.to),.d (.int .i64 c.ret.cls),.d (ints c.frm),.d (.sl (c.ins.map In1.row))]]):=by
 have hl:(c.ins.map In1.row).length=c.ins.length:=List.length_map _
 simp only[avI,List.cons_append,List.nil_append];rw[G_body hx.clear rfl Tryz.func140 rfl Tryz.results140 hv_140 rfl];unfold offP;by_cases h:x<0
 ·simp(maxSteps:=9^9)(disch:=first|(intros;contradiction)|omega)only[go_sem,h,hl]
  simp[h]
 ·have h':=eq_false h
  simp(maxSteps:=9^9)(disch:=first|(intros;contradiction)|omega)only[go_sem,h',hl]
theorem idxN_none{p:Int→Bool}:∀ {l:List Int},(∀ x,x∈l→p x=false)→idxN p l=-1:=by
 intro l h
 have e:idxP p l=none:=by
  induction l with
  | nil=>rfl
  | cons x l ih=>rw[idxP,h x (.head _),ih (fun y hy=>h y (.tail _ hy))];rfl
 unfold idxN;rw[e]
theorem del_e(hx:TX ext)(c:Cd1)(l:List Int)(hl:l.length≤1000)(hr:∀ x,x∈l→offP c.ins.length x=false):G ext 139 [.d (ints l),.fn 140 [] [.ptr 0 0]] [.cells [.d (.str c.name),.d (.int .i64 c.params),.d (.sl (c.vars.map Vr1.row)),.d (.bool c.ret.t.ptr),.d (.str c.ret.t.to),.d (.int .i64 c.ret.cls),.d (ints c.frm),.d (.sl (c.ins.map In1.row))]]=some (.ret (.d (ints l)),[.cells [.d (.str c.name),.d (.int .i64 c.params),.d (.sl (c.vars.map Vr1.row)),.d (.bool c.ret.t.ptr),.d (.str c.ret.t.to),.d (.int .i64 c.ret.cls),.d (ints c.frm),.d (.sl (c.ins.map In1.row))]]):=by
 have hi:=indexInt1_e hx 140 (offP c.ins.length) _ (by rfl) (fun f=>by rfl) l (by omega) (fun x _=>off_e hx c x)
 rw[idxN_none hr]at hi;rw[G_body hx.clear rfl Tryz.func139 rfl Tryz.results139 hv_139 rfl];simp only[ints]at hi ⊢;simp(maxSteps:=9^9)(disch:=first|(intros;contradiction)|omega)only[go_sem,hi]
theorem fnext_e(hx:TF ext)(c:Cd1){i:In1}(k:Nat)(hi:c.ins[k]?=some i)(hk:c.ins.length≤1000000)(hr:∀ x,x∈nxtI i k→offP c.ins.length x=false):G ext 118 [c.av,.d (.int .i64 k)] []=some (.ret (.d (ints (nxtI i k))),[]):=by
 have hlt:=(List.getElem?_eq_some_iff.1 hi).1
 have h1:=next_e hx i k (by omega) (by omega)
 have h2:=del_e hx.toTX c (nxtI i k) (by have:=nxtI_len i k;omega) hr
 have hi2:(c.ins.map In1.row)[k]?=some i.row:=by rw[List.getElem?_map,hi];rfl
 have hl2:(k:Int)<((c.ins.map In1.row).length:Int):=by rw[List.length_map];omega
 rw[G_body hx.clear rfl Tryz.func118 rfl Tryz.results118 hv_118 rfl];simp only[Cd1.av];simp only[In1.row]at hi2;simp only[In1.av]at h1;simp(maxSteps:=9^9)(disch:=first|(intros;contradiction)|omega)only[go_sem,hi2,hl2,h1,h2]
end Go.Proofs.YticliodhjfednaaGreat
namespace Go.Proofs.YticliodhjfednaaGreat
open Go Go.Ab
variable {ext:Sem'}
def cC(c:Cd1):List AV:=[.d (.str c.name),.d (.int .i64 c.params),.d (.sl (c.vars.map Vr1.row)),.d (.bool c.ret.t.ptr),.d (.str c.ret.t.to),.d (.int .i64 c.ret.cls),.d (ints c.frm),.d (.sl (c.ins.map In1.row))]
def bA(b:Bool):AV:=.d (.bool b)
def bsA(l:List Bool):List AV:=l.map bA
theorem bs_refs(l:List Bool):((bsA l).map refs).flatten=[]:=by
 induction l with
 | nil=>rfl
 | cons k l ih=>show refs (bA k)++((bsA l).map refs).flatten=[];rw[ih];rfl
theorem bs_ren(f:Nat→Nat)(l:List Bool):(bsA l).map (ren f)=bsA l:=by
 induction l with
 | nil=>rfl
 | cons k l ih=>show ren f (bA k)::(bsA l).map (ren f)=bA k::bsA l;rw[ih];rfl
theorem bs_len(l:List Bool):(bsA l).length=l.length:=List.length_map _
theorem bs_at{l:List Bool}{i:Nat}{b:Bool}(h:l[i]?=some b):(bsA l)[i]?=some (.d (.bool b)):=by unfold bsA;rw[List.getElem?_map,h];rfl
theorem bs_set{l:List Bool}{i:Nat}(h:i<l.length)(b:Bool):List.take i (bsA l)++[.d (.bool b)]++List.drop (i+1) (bsA l)=bsA (l.set i b):=by
 unfold bsA;rw[List.set_eq_take_append_cons_drop,if_pos h];simp[bA]
abbrev Sp:=Nat×List Int
def spA(x:Sp):List AV:=[.d (.int .i64 x.1),.d (ints x.2)]
def spsA:List Sp→List AV
 | []=>[]
 | x::l=>spA x++spsA l
theorem sps_app(a b:List Sp):spsA (a++b)=spsA a++spsA b:=by
 induction a with
 | nil=>rfl
 | cons x a ih=>simp only[List.cons_append,spsA,ih,List.append_assoc]
theorem sps_len(l:List Sp):(spsA l).length=l.length*2:=by
 induction l with
 | nil=>rfl
 | cons x l ih=>simp only[spsA,List.length_append,ih,List.length_cons];simp[spA];omega
theorem sps_refs(l:List Sp):((spsA l).map refs).flatten=[]:=by
 induction l with
 | nil=>rfl
 | cons k l ih=>simp only[spsA,List.map_append,List.flatten_append,ih];rfl
theorem sps_ren(f:Nat→Nat)(l:List Sp):(spsA l).map (ren f)=spsA l:=by
 induction l with
 | nil=>rfl
 | cons k l ih=>simp only[spsA,List.map_append,ih];rfl
attribute [go_sem] bs_refs bs_ren sps_refs sps_ren
theorem enter_e(hx:TF ext)(c:Cd1){i:In1}(k:Nat)(hi:c.ins[k]?=some i)(hk:c.ins.length≤1000000)(hr:∀ x,x∈nxtI i k→offP c.ins.length x=false)(S:List Bool)(hS:S.length=c.ins.length)(l:List Sp)(hl:l.length≤1000000)(e:Nat)(cs:List AV)(htk:cs.take (l.length*2)=spsA l) :
  G ext 117 [.d (.int .i64 k),.ptr 0 0,.ptr 2 0,.ptr 4 0,.ptr 5 0] [.cells [.arr 1 0 c.ins.length 1],.cells (bsA S),.cells [.stk 3 e l.length],.stk e 2 cs,.cells (cC c),.cells [.fn 82 [] []]]
   = some (.ret (.d (.bool true)),[.cells [.arr 1 0 c.ins.length 1],.cells (bsA (S.set k true)),.cells [.stk 3 (e+1) (l.length+1)],.stk (e+1) 2 (spsA (l++[(k,nxtI i k)])),.cells (cC c),.cells [.fn 82 [] []]]):=by
 have hlt:=(List.getElem?_eq_some_iff.1 hi).1
 have h1:=fnext_e hx c k hi hk hr
 have hlt2:(k:Int)<(c.ins.length:Int):=by omega
 have hset:=bs_set (l:=S) (i:=k) (by omega) true
 have hlen:k+1≤(bsA S).length:=by rw[bs_len];omega
 have hlen2:l.length*2≤cs.length:=by have:=congrArg List.length htk;rw[sps_len,List.length_take]at this;omega
 have hrm:room (l.length+1) 32:=by unfold room;simp;omega
 have hap:spsA l++[.d (.int .i64 k),.d (ints (nxtI i k))]=spsA (l++[(k,nxtI i k)]):=by rw[sps_app];rfl
 rw[G_body hx.clear rfl Tryz.func117 rfl Tryz.results117 hv_117 rfl];simp only[cC];simp only[Cd1.av]at h1
 have hmet:G ext 82 [.d (.int .i64 k)] []=some (.ret (.d (.bool true)),[]):=by
  rw[G_body hx.clear rfl Tryz.func82 rfl Tryz.results82 hv_82 rfl];simp(maxSteps:=9^9)(disch:=first|(intros;contradiction)|omega)only[go_sem]
 simp(maxSteps:=9^9)(disch:=first|(intros;contradiction)|omega)only[go_sem,h1,hlt2,hset,hlen,Nat.mul_one,hlen2,htk,hrm,hmet,hap]
end Go.Proofs.YticliodhjfednaaGreat
namespace Go.Proofs.YticliodhjfednaaGreat
structure WkOk(nx:Nat→List Int)(n:Nat)(S:List Bool)(st:List (Nat×List Int))(out:List Int):Prop where
 len:S.length=n
 cnt:out.length+st.length+S.count false=n
 sts:∀ x,x∈st→x.1<n∧S[x.1]?=some true∧(∀ y,y∈nx x.1→y∈x.2∨S[y.toNat]?=some true)∧∀ y,y∈x.2→y∈nx x.1
 outs:∀ x,x∈out→0≤x∧x<n∧∀ y,y∈nx x.toNat→S[y.toNat]?=some true
 cover:∀ k:Nat,S[k]?=some true→(k:Int)∈out∨k∈st.map Prod.fst
 chain:∀ A x y B,st=A++x::y::B→(y.1:Int)∈nx x.1
 bottom:∀ x B,st=x::B→x.1=0
 order:∀ B x A,out=B++x::A→(st=[]∧A=[]∧x=0)∨∃ p:Nat,((p:Int)∈A∨p∈st.map Prod.fst)∧x∈nx p
 zero:S[0]?=some true
variable {nx:Nat→List Int}{n:Nat}{S:List Bool}{out:List Int}{T:List (Nat×List Int)}{a:Nat}{l:List Int}{y:Int}
theorem count_set:∀ {S:List Bool} {k:Nat},S[k]?=some false→(S.set k true).count false+1=S.count false
 | b::S,0,h=>by simp at h;subst h;simp
 | b::S,k+1,h=>by
  simp at h;have:=count_set (S:=S) (k:=k) (by simpa using h)
  simp only[List.set_cons_succ,List.count_cons];omega
theorem set_keep{k j:Nat}(h:S[j]?=some true):(S.set k true)[j]?=some true:=by
 rw[List.getElem?_set]
 split
 ·subst_vars;rw[if_pos (List.getElem?_eq_some_iff.1 h).1]
 ·exact h
theorem tail_split{α:Type}{A B T:List α}{x y z w:α}(h:T++[w]=A++x::y::B)(hz:z=z):(B=[]∧y=w∧T=A++[x])∨∃ B',B=B'++[w]∧T=A++x::y::B':=by
 rcases List.eq_nil_or_concat B with rfl|⟨B',b,rfl⟩
 ·have e:T++[w]=(A++[x])++[y]:=by rw[h];simp
  obtain⟨e1,e2⟩:=List.append_inj' e rfl
  simp at e2;exact .inl ⟨rfl,e2.symm,e1⟩
 ·rw[List.concat_eq_append]at h ⊢;have e:T++[w]=(A++x::y::B')++[b]:=by rw[h];simp
  obtain⟨e1,e2⟩:=List.append_inj' e rfl
  simp at e2;subst e2;exact .inr ⟨B',rfl,e1⟩
theorem WkOk.init(hr:∀ a,a<n→∀ y,y∈nx a→0≤y∧y<n)(hn:0<n):WkOk nx n ((List.replicate n false).set 0 true) [(0,nx 0)] []:=by
 have h0:(List.replicate n false)[0]?=some false:=by rw[List.getElem?_replicate,if_pos hn]
 have hc:=count_set h0
 have hz:((List.replicate n false).set 0 true)[0]?=some true:=List.getElem?_set_self (by simpa using hn)
 refine⟨by simp,?_,fun x hx=>?_,fun x hx=>(nomatch hx),fun k hk=>?_,fun A x y B h=>?_,fun x B h=>?_,fun B x A h=>?_,hz⟩
 ·rw[List.count_replicate_self]at hc;simp;omega
 ·rw[List.mem_singleton]at hx;subst hx;exact⟨hn,hz,fun y hy=>.inl hy,fun y hy=>hy⟩
 ·cases k with
  | zero=>exact .inr (by simp)
  | succ k=>
   rw[List.getElem?_set_ne (by omega),List.getElem?_replicate]at hk
   split at hk<;>simp at hk
 ·have:=congrArg List.length h
  simp at this;omega
 ·simp at h;rw[←h.1]
 ·have:=congrArg List.length h
  simp at this
theorem WkOk.drop(h:WkOk nx n S (T++[(a,y::l)]) out)(hy:S[y.toNat]?=some true):WkOk nx n S (T++[(a,l)]) out:=by
 have hf:(T++[(a,l)]).map Prod.fst=(T++[(a,y::l)]).map Prod.fst:=by simp
 refine⟨h.len,by have:=h.cnt;simpa using this,fun x hx=>?_,h.outs,fun k hk=>by rw[hf];exact h.cover k hk,fun A x z B e=>?_,fun x B e=>?_,fun B x A e=>?_,h.zero⟩
 ·rcases List.mem_append.1 hx with hx|hx
  ·exact h.sts x (List.mem_append_left _ hx)
  ·rw[List.mem_singleton]at hx;subst hx;obtain⟨h1,h2,h3,h4⟩:=h.sts (a,y::l) (by simp)
   refine⟨h1,h2,fun z hz=>?_,fun z hz=>h4 z (.tail _ hz)⟩
   rcases h3 z hz with h3|h3
   ·rcases List.mem_cons.1 h3 with rfl|h3
    ·exact .inr hy
    ·exact .inl h3
   ·exact .inr h3
 ·rcases tail_split (z:=x) e rfl with⟨rfl,rfl,rfl⟩|⟨B',rfl,rfl⟩
  ·exact h.chain A x (a,y::l) [] (by simp)
  ·exact h.chain A x z (B'++[(a,y::l)]) (by simp)
 ·cases T with
  | nil=>simp at e;rw[←e.1];exact h.bottom (a,y::l) [] rfl
  | cons t T=>simp at e;rw[←e.1];exact h.bottom t (T++[(a,y::l)]) rfl
 ·rcases h.order B x A e with⟨h1,_⟩|h1
  ·simp at h1
  ·rw[hf];exact .inr h1
theorem WkOk.push(hr:∀ a,a<n→∀ y,y∈nx a→0≤y∧y<n)(h:WkOk nx n S (T++[(a,y::l)]) out)(hy:S[y.toNat]?=some false):WkOk nx n (S.set y.toNat true) (T++[(a,l)]++[(y.toNat,nx y.toNat)]) out:=by
 obtain⟨h1,h2,h3,h4⟩:=h.sts (a,y::l) (by simp)
 obtain⟨y1,y2⟩:=hr a h1 y (h4 y (.head _))
 have hyl:=(List.getElem?_eq_some_iff.1 hy).1
 have hself:(S.set y.toNat true)[y.toNat]?=some true:=List.getElem?_set_self hyl
 have hc:=count_set hy
 refine⟨by rw[List.length_set];exact h.len,by have:=h.cnt;simp at this ⊢;omega,fun x hx=>?_,fun x hx=>?_,fun k hk=>?_,fun A x z B e=>?_,fun x B e=>?_,fun B x A e=>?_,set_keep h.zero⟩
 ·rcases List.mem_append.1 hx with hx|hx
  ·rcases List.mem_append.1 hx with hx|hx
   ·obtain⟨q1,q2,q3,q4⟩:=h.sts x (List.mem_append_left _ hx)
    exact⟨q1,set_keep q2,fun z hz=>(q3 z hz).imp id set_keep,q4⟩
   ·rw[List.mem_singleton]at hx;subst hx;refine⟨h1,set_keep h2,fun z hz=>?_,fun z hz=>h4 z (.tail _ hz)⟩
    rcases h3 z hz with h3|h3
    ·rcases List.mem_cons.1 h3 with rfl|h3
     ·exact .inr hself
     ·exact .inl h3
    ·exact .inr (set_keep h3)
  ·rw[List.mem_singleton]at hx;subst hx;exact⟨by simp only;omega,hself,fun z hz=>.inl hz,fun z hz=>hz⟩
 ·obtain⟨q1,q2,q3⟩:=h.outs x hx
  exact⟨q1,q2,fun z hz=>set_keep (q3 z hz)⟩
 ·by_cases e:y.toNat=k
  ·subst e;exact .inr (by simp)
  ·rw[List.getElem?_set_ne e]at hk
   rcases h.cover k hk with q|q
   ·exact .inl q
   ·refine .inr ?_
    simp at q ⊢;rcases q with q|q
    ·exact .inl q
    ·exact .inr (.inl q)
 ·rcases tail_split (z:=x) e rfl with⟨rfl,rfl,e2⟩|⟨B',rfl,e2⟩
  ·obtain⟨e3,e4⟩:=List.append_inj' e2 rfl
   simp at e4;subst e4;simp only
   rw[Int.toNat_of_nonneg y1];exact h4 y (.head _)
  ·rcases tail_split (z:=x) e2 rfl with⟨rfl,rfl,rfl⟩|⟨B2,rfl,rfl⟩
   ·exact h.chain A x (a,y::l) [] (by simp)
   ·exact h.chain A x z (B2++[(a,y::l)]) (by simp)
 ·cases T with
  | nil=>simp at e;rw[←e.1];exact h.bottom (a,y::l) [] rfl
  | cons t T=>simp at e;rw[←e.1];exact h.bottom t (T++[(a,y::l)]) rfl
 ·rcases h.order B x A e with⟨q,_⟩|⟨p,q1,q2⟩
  ·simp at q
  ·refine .inr ⟨p,q1.imp id fun q=>?_,q2⟩
   simp at q ⊢;rcases q with q|q
   ·exact .inl q
   ·exact .inr (.inl q)
theorem WkOk.pop(h:WkOk nx n S (T++[(a,[])]) out):WkOk nx n S T (out++[(a:Int)]):=by
 obtain⟨h1,h2,h3,h4⟩:=h.sts (a,[]) (by simp)
 refine⟨h.len,by have:=h.cnt;simp at this ⊢;omega,fun x hx=>h.sts x (List.mem_append_left _ hx),fun x hx=>?_,fun k hk=>?_,fun A x z B e=>?_,fun x B e=>?_,fun B x A e=>?_,h.zero⟩
 ·rcases List.mem_append.1 hx with hx|hx
  ·exact h.outs x hx
  ·rw[List.mem_singleton]at hx;subst hx;refine⟨by omega,by omega,fun z hz=>?_⟩
   rcases h3 z (by simpa using hz)with h3|h3
   ·cases h3
   ·exact h3
 ·rcases h.cover k hk with q|q
  ·exact .inl (List.mem_append_left _ q)
  ·simp at q;rcases q with⟨b,q⟩|rfl
   ·exact .inr (List.mem_map.2 ⟨(k,b),q,rfl⟩)
   ·exact .inl (by simp)
 ·exact h.chain A x z (B++[(a,[])]) (by rw[e];simp)
 ·exact h.bottom x (B++[(a,[])]) (by rw[e];simp)
 ·rcases List.eq_nil_or_concat A with rfl|⟨A',b,rfl⟩
  ·obtain⟨e1,e2⟩:=List.append_inj' e rfl
   simp at e2;subst e2;rcases List.eq_nil_or_concat T with rfl|⟨T',t,rfl⟩
   ·refine .inl ⟨rfl,rfl,?_⟩
    have:=h.bottom (a,[]) [] rfl
    simp at this;simp[this]
   ·rw[List.concat_eq_append]at *;refine .inr ⟨t.1,.inr (by simp),?_⟩
    exact h.chain T' t (a,[]) [] (by simp)
  ·rw[List.concat_eq_append]at e;have e':out++[(a:Int)]=(B++x::A')++[b]:=by rw[e];simp
   obtain⟨e1,e2⟩:=List.append_inj' e' rfl
   simp at e2;subst e2;rcases h.order B x A' e1 with⟨q,_⟩|⟨p,q1,q2⟩
   ·simp at q
   ·refine .inr ⟨p,?_,q2⟩
    rw[List.concat_eq_append];rcases q1 with q1|q1
    ·exact .inl (List.mem_append_left _ q1)
    ·simp at q1;rcases q1 with⟨b,q⟩|rfl
     ·exact .inr (List.mem_map.2 ⟨(p,b),q,rfl⟩)
     ·exact .inl (by simp)
structure OrderOk(nx:Nat→List Int)(n:Nat)(l:List Int):Prop where
 inr:∀ x,x∈l→0≤x∧x<n
 closed:∀ x,x∈l→∀ y,y∈nx x.toNat→0≤y→y∈l
 zero:(0:Int)∈l
 len:l.length≤n
 pre:∀ A x B,l=A++x::B→(A=[]∧x=0)∨∃ p:Nat,(p:Int)∈A∧x∈nx p
theorem WkOk.done(h:WkOk nx n S [] out):OrderOk nx n out.reverse:=by
 refine⟨fun x hx=>?_,fun x hx y hy h0=>?_,?_,?_,fun A x B e=>?_⟩
 ·have:=h.outs x (by simpa using hx);exact⟨this.1,this.2.1⟩
 ·have h1:=(h.outs x (by simpa using hx)).2.2 y hy
  rcases h.cover _ h1 with q|q
  ·rw[Int.toNat_of_nonneg h0]at q;simpa using q
  ·simp at q
 ·rcases h.cover 0 h.zero with q|q
  ·simpa using q
  ·simp at q
 ·have:=h.cnt;simp at this ⊢;omega
 ·have e':out=B.reverse++x::A.reverse:=by
   have:=congrArg List.reverse e
   simpa using this
  rcases h.order _ _ _ e' with⟨_,q2,q3⟩|⟨p,q1,q2⟩
  ·exact .inl ⟨by simpa using q2,q3⟩
  ·rcases q1 with q1|q1
   ·exact .inr ⟨p,by simpa using q1,q2⟩
   ·simp at q1
end Go.Proofs.YticliodhjfednaaGreat
namespace Go.Proofs.YticliodhjfednaaGreat
open Go Go.Ab
variable {ext:Sem'}
def nxC(c:Cd1)(a:Nat):List Int:=match c.ins[a]? with
 | some i=>nxtI i a
 | none=>[]
def inrC(c:Cd1):Prop:=∀ a,a<c.ins.length→∀ y,y∈nxC c a→0≤y∧y<c.ins.length
def isA(l:List Int):List AV:=l.map avI
theorem is_refs(l:List Int):((isA l).map refs).flatten=[]:=by
 induction l with
 | nil=>rfl
 | cons k l ih=>show refs (avI k)++((isA l).map refs).flatten=[];rw[ih];rfl
theorem is_ren(f:Nat→Nat)(l:List Int):(isA l).map (ren f)=isA l:=by
 induction l with
 | nil=>rfl
 | cons k l ih=>show ren f (avI k)::(isA l).map (ren f)=avI k::isA l;rw[ih];rfl
theorem is_len(l:List Int):(isA l).length=l.length:=List.length_map _
theorem bs_rp:∀ l:List Bool,hasRpL (bsA l)=false
 | []=>rfl
 | b::l=>by show(hasRp (bA b)||hasRpL (bsA l))=false;rw[bs_rp l];rfl
theorem is_rp:∀ l:List Int,hasRpL (isA l)=false
 | []=>rfl
 | b::l=>by show(hasRp (avI b)||hasRpL (isA l))=false;rw[is_rp l];rfl
theorem sps_rp:∀ l:List Sp,hasRpL (spsA l)=false
 | []=>rfl
 | b::l=>by show(hasRp (.d (.int .i64 b.1))||(hasRp (.d (ints b.2))||hasRpL (spsA l)))=false;rw[sps_rp l];rfl
attribute [go_sem] is_refs is_ren bs_rp is_rp sps_rp
theorem left_e(hx:TX ext)(k:Int)(l:List Int)(hl:l.length≤1000000)(e:Nat)(cs:List AV)(hcs:cs=isA l):G ext 83 [.d (.int .i64 k),.ptr 0 0] [.cells [.stk 1 e l.length],.stk e 1 cs]=some (.ret (.tuple []),[.cells [.stk 1 (e+1) (l.length+1)],.stk (e+1) 1 (isA (l++[k]))]):=by
 have hrm:room (l.length+1) 8:=by unfold room;simp;omega
 have htk:cs.take l.length=isA l:=by rw[hcs,←is_len,List.take_length]
 have hle:l.length≤cs.length:=by rw[hcs,is_len];exact Nat.le_refl _
 have hap:isA l++[.d (.int .i64 k)]=isA (l++[k]):=by simp[isA,avI]
 rw[G_body hx.clear rfl Tryz.func83 rfl Tryz.results83 hv_83 rfl];simp(maxSteps:=9^9)(disch:=first|(intros;contradiction)|omega)only[go_sem,hrm,htk,hle,hap,Nat.mul_one]
theorem enter2(hx:TF ext)(c:Cd1)(k:Nat)(hk1:k<c.ins.length)(hk:c.ins.length≤1000000)(hr:inrC c)(S:List Bool)(hS:S.length=c.ins.length)(l:List Sp)(hl:l.length≤1000000)(e:Nat)(cs:List AV)(hcs:cs.take (l.length*2)=spsA l) :
  G ext 117 [.d (.int .i64 k),.ptr 0 0,.ptr 2 0,.ptr 4 0,.ptr 5 0] [.cells [.arr 1 0 c.ins.length 1],.cells (bsA S),.cells [.stk 3 e l.length],.stk e 2 cs,.cells (cC c),.cells [.fn 82 [] []]]
   = some (.ret (.d (.bool true)),[.cells [.arr 1 0 c.ins.length 1],.cells (bsA (S.set k true)),.cells [.stk 3 (e+1) (l.length+1)],.stk (e+1) 2 (spsA (l++[(k,nxC c k)])),.cells (cC c),.cells [.fn 82 [] []]]):=by
 have hg:c.ins[k]?=some c.ins[k]:=List.getElem?_eq_getElem hk1
 have hnx:nxC c k=nxtI c.ins[k] k:=by unfold nxC;rw[hg]
 rw[hnx];refine enter_e hx c k hg hk (fun x hx2=>?_) S hS l hl e cs hcs
 have:=hr k hk1 x (by rw[hnx];exact hx2)
 unfold offP;simp;omega
theorem sps_take(T J:List Sp):(spsA (T++J)).take (T.length*2)=spsA T:=by
 rw[sps_app,List.take_append_of_le_length (by rw[sps_len];exact Nat.le_refl _),←sps_len,List.take_length]
theorem sps_cut(T J:List Sp)(a:Nat)(l:List Int):spsA (T++(a,l)::J)=(spsA T++[.d (.int .i64 a)])++(.d (ints l)::spsA J):=by
 rw[sps_app];simp[spsA,spA]
theorem sps_top{T J:List Sp}{a:Nat}{l:List Int}:(spsA (T++(a,l)::J))[T.length*2]?=some (.d (.int .i64 a))∧(spsA (T++(a,l)::J))[T.length*2+1]?=some (.d (ints l))∧T.length*2+1+1≤(spsA (T++(a,l)::J)).length:=by
 have h3:=sps_len T
 rw[sps_cut];refine⟨?_,?_,?_⟩
 ·rw[List.getElem?_append_left (by simp;omega),List.getElem?_append_right (by omega),h3,Nat.sub_self];rfl
 ·rw[List.getElem?_append_right (by simp;omega)];simp[h3]
 ·simp[h3];omega
theorem sps_put{T J:List Sp}{a:Nat}{l l':List Int}:List.take (T.length*2+1) (spsA (T++(a,l)::J))++[AV.d (ints l')]++List.drop (T.length*2+1+1) (spsA (T++(a,l)::J))=spsA (T++(a,l')::J):=by
 have h3:=sps_len T
 have h4:(spsA T++[AV.d (.int .i64 a)]).length=T.length*2+1:=by simp[h3]
 rw[sps_cut,sps_cut,←h4,List.take_left',List.drop_append,List.drop_of_length_le (by omega)]
 ·rw[h4];simp
 ·rfl
def wkM(S:List Bool)(st:List Sp):Nat:=4*S.count false+(st.map fun x=>x.2.length).sum+st.length
structure Ws where
 S:List Bool
 st:List Sp
 out:List Int
 eo:Nat
 es:Nat
 J:List Sp
set_option maxHeartbeats 2000000 in
theorem walk_e(hx:TF ext)(c:Cd1)(hk:c.ins.length≤1000000)(hn:0<c.ins.length)(hr:inrC c) :
  ∃ S out e,WkOk (nxC c) c.ins.length S [] out∧G ext 81 [c.av,.d (.int .i64 0),.fn 82 [] [],.fn 83 [] [.ptr 0 0]] [.cells [.stk 1 0 0],.stk 0 1 []]=some (.ret (.tuple []),[.cells [.stk 1 e out.length],.stk e 1 (isA out)]):=by
 have h0:=enter2 hx c 0 hn hk hr (List.replicate c.ins.length false) (by simp) [] (by simp) 0 [] rfl
 have hrep:List.replicate c.ins.length (AV.d (.bool false))=bsA (List.replicate c.ins.length false):=by unfold bsA;rw[List.map_replicate];rfl
 have hrm:room c.ins.length 1:=by unfold room;simp;omega
 have hil:(c.ins.map In1.row).length=c.ins.length:=List.length_map _
 have h01:0≤(c.ins.length:Int):=by omega
 have hfl:(List.replicate c.ins.length [AV.d (.bool false)]).flatten=bsA (List.replicate c.ins.length false):=by
  rw[←hrep];generalize c.ins.length=n;induction n with
  | zero=>rfl
  | succ n ih=>simp only[List.replicate_succ,List.flatten_cons,ih];rfl
 simp only[List.length_nil,Nat.zero_add,List.nil_append]at h0;rw[show((0:Nat):Int)=0 from rfl]at h0
 suffices hs:∃ r,G ext 81 [c.av,.d (.int .i64 0),.fn 82 [] [],.fn 83 [] [.ptr 0 0]] [.cells [.stk 1 0 0],.stk 0 1 []]=r∧∃ S out e,WkOk (nxC c) c.ins.length S [] out∧r=some (.ret (.tuple []),[.cells [.stk 1 e out.length],.stk e 1 (isA out)])by
  obtain⟨r,h1,S,out,e,h2,h3⟩:=hs
  exact⟨S,out,e,h2,h1.trans h3⟩
 refine⟨_,rfl,?_⟩
 rw[G_body hx.clear rfl Tryz.func81 rfl Tryz.results81 hv_81 rfl];simp only[Cd1.av];simp only[cC]at h0;have hle:=Int.le_refl (c.ins.length:Int)
 simp(maxSteps:=9^9)(disch:=first|(intros;contradiction)|omega)only[go_sem,hil,hrm,h01,hle,hfl,h0]
 generalize hL:loopA _ _ _=L;have hw0:=WkOk.init (nx:=nxC c) hr hn
 have hnl:∀ a,(nxC c a).length≤2:=fun a=>by
  unfold nxC
  cases c.ins[a]? with
  | none=>simp
  | some i=>exact nxtI_len i a
 apply loop_upd hL (by simp(maxSteps:=9^9)(disch:=first|(intros;contradiction)|omega)only[go_sem]<;>rfl) (α:=Ws) (fun x=>WkOk (nxC c) c.ins.length x.S x.st x.out) (fun x=>wkM x.S x.st) (fun _=>[])
  (fun x=>[(0,.cells [.stk 1 x.eo x.out.length]),(1,.stk x.eo 1 (isA x.out)),(4,.cells (bsA x.S)),(6,.cells [.stk 7 x.es x.st.length]),(7,.stk x.es 2 (spsA (x.st++x.J)))])
  ⟨(List.replicate c.ins.length false).set 0 true,[(0,nxC c 0)],[],0,1,[]⟩ (by simp(maxSteps:=9^9)(disch:=first|(intros;contradiction)|omega)only[go_sem]<;>rfl) hw0 ?_
 rintro⟨S,st,out,eo,es,J⟩ w1 next ih
 clear hL h0 hw0;simp only at w1 ih ⊢
 rcases List.eq_nil_or_concat st with rfl|⟨T,⟨a,l⟩,rfl⟩
 ·refine⟨S,out,eo,w1,?_⟩
  simp(maxSteps:=9^9)(disch:=first|(intros;contradiction)|omega)only[go_sem]
 ·rw[List.concat_eq_append]at *;have hsl:(T++[(a,l)]).length=T.length+1:=by simp
  have hcnt:=w1.cnt
  rw[hsl]at hcnt;have hpos:0<((T.length+1:Nat):Int):=by omega
  have hsub:((T.length+1:Nat):Int)-1=(T.length:Int):=by omega
  have hi0:0≤(T.length:Int):=by omega
  have hi1:(T.length:Int)<((T.length+1:Nat):Int):=by omega
  have hi2:(T.length:Int)≤((T.length+1:Nat):Int):=by omega
  have hass:T++[(a,l)]++J=T++(a,l)::J:=by simp
  rw[hsl,hass];simp(maxSteps:=9^9)(disch:=first|(intros;contradiction)|omega)only[go_sem,hpos,hsub,hi0,hi1,wrap64]
  generalize hL:loopA _ _ _=L
  apply loop_upd hL (by simp(maxSteps:=9^9)(disch:=first|(intros;contradiction)|omega)only[go_sem]<;>rfl) (α:=List Int) (fun x=>WkOk (nxC c) c.ins.length S (T++[(a,x)]) out∧x.length≤l.length) (fun x=>x.length) (fun _=>[])
   (fun x=>[(7,.stk es 2 (spsA (T++(a,x)::J)))]) l (by simp(maxSteps:=9^9)(disch:=first|(intros;contradiction)|omega)only[go_sem]<;>rfl) ⟨w1,Nat.le_refl _⟩ ?_
  rintro l' ⟨v1,v3⟩ next2 ih2
  clear hL w1;obtain⟨t1,t2,t3⟩:=sps_top (T:=T) (J:=J) (a:=a) (l:=l')
  have hout:out.length≤1000000:=by omega
  have hT:T.length≤1000000:=by omega
  cases l' with
  | nil=>
   clear ih2;replace t2:_=some (AV.d (.sl [])):=t2
   have hlf:=left_e hx.toTX (a:Int) out hout eo (isA out) rfl
   have hla:(out++[(a:Int)]).length=out.length+1:=by simp
   simp(maxSteps:=9^9)(disch:=first|(intros;contradiction)|omega)only[go_sem,t1,t2,hlf,hsub,hi0,hi1,hi2,wrap64]
   exact ih ⟨S,T,out++[(a:Int)],eo+1,es,(a,[])::J⟩ _ v1.pop (by unfold wkM;simp;omega) (by simp(maxSteps:=9^9)(disch:=first|(intros;contradiction)|omega)only[go_sem,hla]<;>rfl)
  | cons y q=>
   replace t2:_=some (AV.d (.sl (rowI y::q.map rowI))):=t2
   simp only[rowI]at t2;obtain⟨h1,h2,h3,h4⟩:=v1.sts (a,y::q) (by simp)
   obtain⟨y1,y2⟩:=hr a h1 y (h4 y (.head _))
   have hS:=v1.len
   have hyl:y.toNat<S.length:=by omega
   have hg:S[y.toNat]?=some S[y.toNat]:=List.getElem?_eq_getElem hyl
   have hb:=bs_at hg
   have hq0:0<(((q.map rowI).length+1:Nat):Int):=by omega
   have hq1:1≤(((q.map rowI).length+1:Nat):Int):=by omega
   have hput:List.take (T.length*2+1) (spsA (T++(a,y::q)::J))++[AV.d (.sl (q.map rowI))]++List.drop (T.length*2+1+1) (spsA (T++(a,y::q)::J))=spsA (T++(a,q)::J):=sps_put
   have hfit:fits 1 (q.map rowI):=by intro row h;obtain⟨x,_,rfl⟩:=List.mem_map.1 h;rfl
   cases hc:S[y.toNat]with
   | true=>
    rw[hc]at hb hg;simp(maxSteps:=9^9)(disch:=first|(intros;contradiction)|omega)only[go_sem,t1,t2,t3,y1,y2,hb,Nat.mul_one,hq0,hq1,hput,hfit]
    exact ih2 q _ ⟨v1.drop hg,by simp at v3;omega⟩ (by simp) (by simp(maxSteps:=9^9)(disch:=first|(intros;contradiction)|omega)only[go_sem]<;>rfl)
   | false=>
    rw[hc]at hb hg;have hsl2:(T++[(a,q)]).length=T.length+1:=by simp
    have hass2:T++[(a,q)]++J=T++(a,q)::J:=by simp
    have he:=enter2 hx c y.toNat (by omega) hk hr S hS (T++[(a,q)]) (by omega) es (spsA (T++(a,q)::J)) (by rw[←hass2];exact sps_take _ _)
    rw[hsl2,Int.toNat_of_nonneg y1]at he;simp only[cC]at he;have hpu:=v1.push hr hg
    have hcs:=count_set hg
    have hla:(T++[(a,q)]++[(y.toNat,nxC c y.toNat)]).length=T.length+1+1:=by simp
    have hmu:wkM (S.set y.toNat true) (T++[(a,q)]++[(y.toNat,nxC c y.toNat)])<wkM S (T++[(a,l)]):=by
     unfold wkM;have:=hnl y.toNat
     simp at v3 ⊢;omega
    simp(maxSteps:=9^9)(disch:=first|(intros;contradiction)|omega)only[go_sem,t1,t2,t3,y1,y2,hb,Nat.mul_one,hq0,hq1,hput,hfit,he]
    exact ih ⟨S.set y.toNat true,T++[(a,q)]++[(y.toNat,nxC c y.toNat)],out,eo,es+1,[]⟩ _ hpu hmu (by simp(maxSteps:=9^9)(disch:=first|(intros;contradiction)|omega)only[go_sem,hla,List.append_nil]<;>rfl)
end Go.Proofs.YticliodhjfednaaGreat
namespace Go.Proofs.YticliodhjfednaaGreat
open Go Go.Ab
variable {ext:Sem'}
theorem is_at{l:List Int}{i:Nat}(h:i<l.length):(isA l)[i]?=some (.d (.int .i64 (l.getD i 0))):=by
 unfold isA;rw[List.getElem?_map,List.getElem?_eq_getElem h]
 simp[avI,List.getD_eq_getElem?_getD,List.getElem?_eq_getElem h]
theorem is_set{l:List Int}{i:Nat}(h:i<l.length)(x:Int):List.take i (isA l)++[AV.d (.int .i64 x)]++List.drop (i+1) (isA l)=isA (l.set i x):=by
 unfold isA;rw[List.set_eq_take_append_cons_drop,if_pos h];simp[avI]
theorem getDI_set{A:List Int}{i j:Nat}{x:Int}(h:i<A.length):(A.set i x).getD j 0=if i=j then x else A.getD j 0:=by
 rw[List.getD_eq_getElem?_getD,List.getD_eq_getElem?_getD,List.getElem?_set]
 split
 ·subst_vars;simp[h]
 ·rfl
theorem rev_e(hx:TX ext)(l:List Int)(hl:l.length≤1000000)(e:Nat):G ext 84 [.stk 0 e l.length] [.stk e 1 (isA l)]=some (.ret (.tuple []),[.stk e 1 (isA l.reverse)]):=by
 have hw:((l.length:Int)-1)=(l.length:Int)-1:=rfl
 rw[G_body hx.clear rfl Tryz.func84 rfl Tryz.results84 hv_84 rfl];simp(maxSteps:=9^9)(disch:=first|(intros;contradiction)|omega)only[go_sem,wrap64]
 generalize hL:loopA _ _ _=L
 apply loop_upd hL (by simp(maxSteps:=9^9)(disch:=first|(intros;contradiction)|omega)only[go_sem]<;>rfl) (α:=Nat×Int×List Int) (fun x=>x.2.1=(l.length:Int)-1-x.1∧x.2.2.length=l.length∧x.1≤l.length∧∀ k,k<l.length→x.2.2.getD k 0=if k<x.1∨l.length≤k+x.1 then l.getD (l.length-1-k) 0 else l.getD k 0) (fun x=>l.length-x.1)
  (fun x=>[(2,.d (.int .i64 x.1)),(3,.d (.int .i64 x.2.1))]) (fun x=>[(0,.stk e 1 (isA x.2.2))]) (0,(l.length:Int)-1,l) (by simp(maxSteps:=9^9)(disch:=first|(intros;contradiction)|omega)only[go_sem]<;>rfl) ⟨by simp,rfl,by omega,fun k hk=>by rw[if_neg (by omega)]⟩ ?_
 rintro⟨i,j,A⟩ ⟨q1,q2,q3,q4⟩ next ih
 clear hL;simp only at q1 q2 q3 q4 ih ⊢
 by_cases hlt:(i:Int)<j
 ·obtain⟨jn,rfl⟩:∃ jn:Nat,j=(jn:Int):=⟨j.toNat,by omega⟩
  have ai:=is_at (l:=A) (i:=i) (by omega)
  have aj:=is_at (l:=A) (i:=jn) (by omega)
  have s1:=is_set (l:=A) (i:=i) (by omega) (A.getD jn 0)
  have s2:=is_set (l:=A.set i (A.getD jn 0)) (i:=jn) (by rw[List.length_set];omega) (A.getD i 0)
  have b1:i+1≤(isA A).length:=by rw[is_len];omega
  have b2:jn+1≤(isA (A.set i (A.getD jn 0))).length:=by rw[is_len,List.length_set];omega
  have b3:jn+1≤(isA A).length:=by rw[is_len];omega
  have c1:(i:Int)<(l.length:Int):=by omega
  have c2:(jn:Int)<(l.length:Int):=by omega
  have c3:0≤(i:Int):=by omega
  have c4:0≤(jn:Int):=by omega
  have hI:(jn:Int)-1=(l.length:Int)-1-((i+1:Nat):Int)∧((A.set i (A.getD jn 0)).set jn (A.getD i 0)).length=l.length∧i+1≤l.length∧∀ k,k<l.length→((A.set i (A.getD jn 0)).set jn (A.getD i 0)).getD k 0=if k<i+1∨l.length≤k+(i+1)then l.getD (l.length-1-k) 0 else l.getD k 0:=by
   refine⟨by omega,by simp[q2],by omega,fun k hk=>?_⟩
   rw[getDI_set (by rw[List.length_set];omega),getDI_set (by omega)]
   by_cases e1:jn=k
   ·subst e1;rw[if_pos rfl,q4 i (by omega),if_neg (by omega),if_pos (by omega),show l.length-1-jn=i by omega]
   ·rw[if_neg e1];by_cases e2:i=k
    ·subst e2;rw[if_pos rfl,q4 jn (by omega),if_neg (by omega),if_pos (by omega),show l.length-1-i=jn by omega]
    ·rw[if_neg e2,q4 k hk];by_cases e3:k<i∨l.length≤k+i
     ·rw[if_pos e3,if_pos (by omega)]
     ·rw[if_neg e3,if_neg (by omega)]
  clear q4;have hmu:l.length-(i+1)<l.length-i:=by omega
  simp(maxSteps:=9^9)(disch:=first|(intros;contradiction)|omega)only[go_sem,hlt,ai,aj,s1,s2,b1,b2,b3,c1,c2,c3,c4,Nat.mul_one,wrap64]
  exact ih (i+1,(jn:Int)-1,_) _ hI hmu (by simp(maxSteps:=9^9)(disch:=first|(intros;contradiction)|omega)only[go_sem]<;>rfl)
 ·have eA:A=l.reverse:=by
   apply List.ext_getElem (by simp[q2])
   intro k h1 h2;have:=q4 k (by omega)
   rw[List.getD_eq_getElem?_getD,List.getElem?_eq_getElem h1]at this
   simp only[Option.getD_some]at this;rw[this,List.getElem_reverse];split
   ·rw[List.getD_eq_getElem?_getD,List.getElem?_eq_getElem (by omega)];rfl
   ·rename_i hn;have hkk:k=l.length-1-k:=by omega
    rw[List.getD_eq_getElem?_getD,List.getElem?_eq_getElem (by omega)]
    simp only[Option.getD_some];congr 1
  simp(maxSteps:=9^9)(disch:=first|(intros;contradiction)|omega)only[go_sem,hlt]
  rw[eA]
theorem isData(l:List Int):dataAs (isA l)=some (l.map fun x=>Dt.int .i64 x):=by
 induction l with
 | nil=>rfl
 | cons x l ih=>show(match some (Dt.int .i64 x),dataAs (isA l)with|some x,some xs=>some (x::xs)|_,_=>none)=_;rw[ih];rfl
theorem chunkI(l:List Int):chunk 1 l.length (l.map fun x=>Dt.int .i64 x)=l.map rowI:=by
 induction l with
 | nil=>rfl
 | cons x l ih=>simp only[List.length_cons,List.map_cons,chunk,List.take_succ_cons,List.take_zero,List.drop_succ_cons,List.drop_zero,ih];rfl
theorem isChunk(l:List Int):chunkK 1 l.length (dataAs (List.take (l.length*1) (isA l)))=some (l.map rowI):=by
 rw[Nat.mul_one,←is_len l,List.take_length,isData,is_len];simp only[chunkK];rw[chunkI]
theorem order_e(hx:TF ext)(c:Cd1)(hk:c.ins.length≤1000000)(hn:0<c.ins.length)(hr:inrC c) :
  ∃ l,OrderOk (nxC c) c.ins.length l∧G ext 45 [c.av] []=some (.ret (.d (ints l)),[]):=by
 obtain⟨S,out,e,h1,h2⟩:=walk_e hx c hk hn hr
 have hd:=h1.done
 have hol:out.length≤1000000:=by have:=hd.len;simp at this;omega
 have h3:=rev_e hx.toTX out hol e
 refine⟨out.reverse,hd,?_⟩
 have hil:(c.ins.map In1.row).length=c.ins.length:=List.length_map _
 have hne:((c.ins.length:Int)=0)=False:=eq_false (by omega)
 have hch:=isChunk out.reverse
 rw[List.length_reverse]at hch;have hlc:out.length*1≤(isA out.reverse).length:=by rw[is_len];simp
 have hii:ints out.reverse=.sl (out.reverse.map rowI):=rfl
 rw[G_body hx.clear rfl Tryz.func45 rfl Tryz.results45 hv_45 rfl];simp only[Cd1.av]at h2 ⊢;simp(maxSteps:=9^9)(disch:=first|(intros;contradiction)|omega)only[go_sem,hil,hne,h2,h3,hch,hlc,hii]
end Go.Proofs.YticliodhjfednaaGreat
namespace Go.Proofs.YticliodhjfednaaGreat
open Go Go.Ab
variable {ext:Sem'}
def givesL(l:List (Int×Int)):List Int:=match l with
 | []=>[]
 | (v,k)::l=>if k=3 then v::givesL l else givesL l
def awayI(i:In1):List Int:=givesL (usesL i)
theorem gives_len:∀ l:List (Int×Int),(givesL l).length≤l.length
 | []=>Nat.le_refl _
 | (v,k)::l=>by
  have:=gives_len l
  unfold givesL;split<;>simp<;>omega
theorem away_e(hx:TF ext)(R:List Rw)(c:Cd1)(n W:Nat)(E P:List (Option Nat))(k:Nat){i:In1}(hi:c.ins[k]?=some i)(hk:c.ins.length≤1000000)(hul:(usesL i).length≤1000)
  (hti:G ext 85 [c.av,i.av] []=some (.ret (.d (.sl ((usesL i).map useRow))),[])) :
  G ext 46 [.ptr 1 0,.d (.int .i64 k)] (tbH R c n W E P)=some (.ret (.d (ints (awayI i))),tbH R c n W E P):=by
 have hlt:=(List.getElem?_eq_some_iff.1 hi).1
 have hi2:(c.ins.map In1.row)[k]?=some i.row:=by rw[List.getElem?_map,hi];rfl
 have hl2:(k:Int)<((c.ins.map In1.row).length:Int):=by rw[List.length_map];omega
 have hul2:((usesL i).map useRow).length=(usesL i).length:=List.length_map _
 simp only[Cd1.av,In1.av]at hti;simp only[In1.row]at hi2;rw[G_body hx.clear rfl Tryz.func46 rfl Tryz.results46 hv_46 rfl];simp only[tbH,tbC];simp(maxSteps:=9^9)(disch:=first|(intros;contradiction)|omega)only[go_sem,hi2,hl2,hti]
 generalize hL:loopA _ _ _=L;apply range_upd hL (by simp(maxSteps:=9^9)(disch:=first|(intros;contradiction)|omega)only[go_sem]<;>rfl) (usesL i) useRow (α:=List Int×Nat) (fun rest q x=>x.1++givesL rest=awayI i∧x.1.length≤q) (fun q x=>[(4,.grow 4 x.2 (x.1.map rowI)),(21,.d (.int .i64 q))]) (fun _ x=>[(4,.grow x.2 1)]) ([],0) (by simp(maxSteps:=9^9)(disch:=first|(intros;contradiction)|omega)only[go_sem]<;>rfl) ⟨rfl,Nat.le_refl _⟩ ?_ ?_
 ·rintro⟨v,kd⟩ rest q ⟨acc,e⟩ ⟨q1,q2⟩ hlt2 hr2 hget hq _ next ih
  clear hL;simp only at q1 q2 ih ⊢
  simp only[useRow]at hr2;have hal:(acc.map rowI).length=acc.length:=List.length_map _
  have hrm:room ((acc.map rowI).length+1) 8:=by unfold room;simp;omega
  have hf1:fits 1 (acc.map rowI):=by intro row h;obtain⟨x,_,rfl⟩:=List.mem_map.1 h;rfl
  have hap:acc.map rowI++[[Dt.int .i64 v]]=(acc++[v]).map rowI:=by simp[rowI]
  by_cases h3:kd=3
  ·subst h3;simp(maxSteps:=9^9)(disch:=first|(intros;contradiction)|omega)only[go_sem,hlt2,hr2,hrm,hf1,hap,wrap64]
   have hal2:(acc++[v]).length=acc.length+1:=by simp
   exact ih (acc++[v],e+1) _ ⟨by rw[←q1];simp[givesL],by show(acc++[v]).length≤q+1;omega⟩ (by simp(maxSteps:=9^9)(disch:=first|(intros;contradiction)|omega)only[go_sem]<;>rfl)
  ·have h3':=eq_false h3
   simp(maxSteps:=9^9)(disch:=first|(intros;contradiction)|omega)only[go_sem,hlt2,hr2,h3',wrap64]
   exact ih (acc,e) _ ⟨by rw[←q1];simp[givesL,h3],by show acc.length≤q+1;omega⟩ (by simp(maxSteps:=9^9)(disch:=first|(intros;contradiction)|omega)only[go_sem]<;>rfl)
 ·rintro q ⟨acc,e⟩ ⟨q1,q2⟩ hlt2 hq next
  clear hL;have q1:acc=awayI i:=by rw[←q1];simp[givesL]
  subst q1;have hii:ints (awayI i)=.sl ((awayI i).map rowI):=rfl
  simp(maxSteps:=9^9)(disch:=first|(intros;contradiction)|omega)only[go_sem,hlt2,hii]
end Go.Proofs.YticliodhjfednaaGreat
namespace Go.Proofs.YticliodhjfednaaGreat
def pc(w:BitVec 64):Nat:=(List.range 64).countP fun i=>w.getLsbD i
def cnt(r:Rw):Nat:=((List.range r.length).map fun i=>pc (r.getD i 0#64)).sum
theorem sum_le{f g:Nat→Nat}:∀ {l:List Nat},(∀ i,i∈l→f i≤g i)→(l.map f).sum≤(l.map g).sum
 | [],_=>Nat.le_refl _
 | x::l,h=>by
  have h1:=h x (.head _)
  have h2:=sum_le (l:=l) fun i hi=>h i (.tail _ hi)
  simp only[List.map_cons,List.sum_cons];omega
theorem sum_lt{f g:Nat→Nat}:∀ {l:List Nat},(∀ i,i∈l→f i≤g i)→(∃ i,i∈l∧f i<g i)→(l.map f).sum<(l.map g).sum
 | [],_,⟨i,hi,_⟩=>by cases hi
 | x::l,h,⟨i,hi,hlt⟩=>by
  have h1:=h x (.head _)
  simp only[List.map_cons,List.sum_cons];rcases List.mem_cons.1 hi with rfl|hi
  ·have h2:=sum_le (l:=l) fun i hi=>h i (.tail _ hi)
   omega
  ·have h2:=sum_lt (l:=l) (fun i hi=>h i (.tail _ hi)) ⟨i,hi,hlt⟩
   omega
theorem countP_le{p q:Nat→Bool}:∀ {l:List Nat},(∀ i,i∈l→p i=true→q i=true)→l.countP p≤l.countP q
 | [],_=>Nat.le_refl _
 | x::l,h=>by
  have h2:=countP_le (l:=l) fun i hi=>h i (.tail _ hi)
  have h1:=h x (.head _)
  simp only[List.countP_cons]
  cases hp:p x<;>cases hq:q x<;>simp_all<;>omega
theorem countP_lt{p q:Nat→Bool}:∀ {l:List Nat},(∀ i,i∈l→p i=true→q i=true)→(∃ i,i∈l∧p i=false∧q i=true)→l.countP p<l.countP q
 | [],_,⟨i,hi,_⟩=>by cases hi
 | x::l,h,⟨i,hi,hp,hq⟩=>by
  have h1:=h x (.head _)
  simp only[List.countP_cons];rcases List.mem_cons.1 hi with rfl|hi
  ·have h2:=countP_le (l:=l) fun i hi=>h i (.tail _ hi)
   rw[hp,hq];simp;omega
  ·have h2:=countP_lt (l:=l) (fun i hi=>h i (.tail _ hi)) ⟨i,hi,hp,hq⟩
   cases hp:p x<;>cases hq:q x<;>simp_all<;>omega
theorem bit_ex{w:BitVec 64}(h:w≠0#64):∃ i,i<64∧w.getLsbD i=true:=by
 apply Classical.byContradiction
 intro hn;apply h
 apply BitVec.eq_of_getLsbD_eq
 intro i hi
 cases hb:w.getLsbD i with
 | false=>simp
 | true=>exact absurd ⟨i,hi,hb⟩ hn
theorem pc_and(a b:BitVec 64):pc (a&&&b)≤pc a:=countP_le fun i _ h=>by
 rw[BitVec.getLsbD_and,Bool.and_eq_true]at h;exact h.1
theorem pc_and_lt{a b:BitVec 64}(h:a&&&~~~b≠0#64):pc (a&&&b)<pc a:=by
 obtain⟨i,hi,hb⟩:=bit_ex h
 refine countP_lt (fun i _ h=>by rw[BitVec.getLsbD_and,Bool.and_eq_true]at h;exact h.1) ⟨i,List.mem_range.2 hi,?_⟩
 rw[BitVec.getLsbD_and,BitVec.getLsbD_not]at hb;rw[BitVec.getLsbD_and]
 cases ha:a.getLsbD i<;>cases hbb:b.getLsbD i<;>simp_all
theorem pc_or(a b:BitVec 64):pc a≤pc (a|||b):=countP_le fun i _ h=>by
 rw[BitVec.getLsbD_or,h];rfl
theorem pc_or_lt{a b:BitVec 64}(h:b&&&~~~a≠0#64):pc a<pc (a|||b):=by
 obtain⟨i,hi,hb⟩:=bit_ex h
 refine countP_lt (fun i _ h=>by rw[BitVec.getLsbD_or,h];rfl) ⟨i,List.mem_range.2 hi,?_⟩
 rw[BitVec.getLsbD_and,BitVec.getLsbD_not]at hb;rw[BitVec.getLsbD_or]
 cases ha:a.getLsbD i<;>cases hbb:b.getLsbD i<;>simp_all
theorem pc_le(w:BitVec 64):pc w≤64:=by
 have:=List.countP_le_length (p:=fun i=>w.getLsbD i) (l:=List.range 64)
 rw[List.length_range]at this;exact this
theorem cnt_le(r:Rw):cnt r≤64*r.length:=by
 have h:=sum_le (l:=List.range r.length) (f:=fun i=>pc (r.getD i 0#64)) (g:=fun _=>64) fun i _=>pc_le _
 have e:((List.range r.length).map fun _=>64).sum=64*r.length:=by
  rw[List.map_const',List.sum_replicate_nat,List.length_range];omega
 rw[e]at h;exact h
theorem and_false{a b:BitVec 64}(h:a&&&~~~b=0#64):a&&&b=a:=by
 apply BitVec.eq_of_getLsbD_eq
 intro i hi;have:=congrArg (fun w=>w.getLsbD i) h
 simp only[BitVec.getLsbD_and,BitVec.getLsbD_not,BitVec.getLsbD_zero]at this;rw[BitVec.getLsbD_and]
 cases ha:a.getLsbD i<;>cases hbb:b.getLsbD i<;>simp_all
theorem or_false'{a b:BitVec 64}(h:b&&&~~~a=0#64):a|||b=a:=by
 apply BitVec.eq_of_getLsbD_eq
 intro i hi;have:=congrArg (fun w=>w.getLsbD i) h
 simp only[BitVec.getLsbD_and,BitVec.getLsbD_not,BitVec.getLsbD_zero]at this;rw[BitVec.getLsbD_or]
 cases ha:a.getLsbD i<;>cases hbb:b.getLsbD i<;>simp_all
theorem andL_len{a b:Rw}(h:b.length=a.length):(andL a b).length=a.length:=by unfold andL;simp[h]
theorem orL_len{a b:Rw}(h:b.length=a.length):(orL a b).length=a.length:=by unfold orL;simp[h]
def wt(x:Rw×Rw):Nat:=cnt x.1+(64*x.2.length-cnt x.2)
theorem meet_same{e0 p0 e p:Rw}(h1:e.length=e0.length)(h2:p0.length=e0.length)(h3:p.length=e0.length)(h:chgL e0 e p0 p=false):andL e0 e=e0∧orL p0 p=p0:=by
 unfold chgL at h;rw[List.any_eq_false]at h
 have hc:∀ i,i<e0.length→e0.getD i 0#64&&&~~~(e.getD i 0#64)=0#64∧p.getD i 0#64&&&~~~(p0.getD i 0#64)=0#64:=fun i hi=>by
  have:=h i (List.mem_range.2 hi)
  unfold chgAt at this;simpa using this
 refine⟨ext_getD (by rw[andL_len h1]) fun j hj=>?_,ext_getD (by rw[orL_len (by omega)]) fun j hj=>?_⟩
 ·unfold andL;rw[zip_getD hj (by omega)]
  exact and_false (hc j hj).1
 ·unfold orL;rw[zip_getD hj (by omega)]
  exact or_false' (hc j (by omega)).2
theorem meet_less{e0 p0 e p:Rw}(h1:e.length=e0.length)(h2:p0.length=e0.length)(h3:p.length=e0.length)(h:chgL e0 e p0 p=true):wt (andL e0 e,orL p0 p)<wt (e0,p0):=by
 unfold chgL at h;rw[List.any_eq_true]at h;obtain⟨i,hi,hc⟩:=h
 have hi:=List.mem_range.1 hi
 have ga:∀ j,j<e0.length→(andL e0 e).getD j 0#64=e0.getD j 0#64&&&e.getD j 0#64:=fun j hj=>zip_getD hj (by omega)
 have go:∀ j,j<e0.length→(orL p0 p).getD j 0#64=p0.getD j 0#64|||p.getD j 0#64:=fun j hj=>zip_getD (by omega) (by omega)
 have la:=andL_len h1
 have lo:=orL_len (a:=p0) (b:=p) (by omega)
 have a1:cnt (andL e0 e)≤cnt e0:=by
  unfold cnt;rw[la];exact sum_le fun j hj=>by rw[ga j (List.mem_range.1 hj)];exact pc_and _ _
 have o1:cnt p0≤cnt (orL p0 p):=by
  unfold cnt;rw[lo];exact sum_le fun j hj=>by rw[go j (by have:=List.mem_range.1 hj;omega)];exact pc_or _ _
 have o2:=cnt_le (orL p0 p)
 unfold wt;simp only
 rw[lo]at o2 ⊢;unfold chgAt at hc;simp only[Bool.or_eq_true,decide_eq_true_eq]at hc;rcases hc with hc|hc
 ·have a2:cnt (andL e0 e)<cnt e0:=by
   unfold cnt;rw[la];exact sum_lt (fun j hj=>by rw[ga j (List.mem_range.1 hj)];exact pc_and _ _) ⟨i,List.mem_range.2 hi,by rw[ga i hi];exact pc_and_lt hc⟩
  omega
 ·have a2:cnt p0<cnt (orL p0 p):=by
   unfold cnt;rw[lo];exact sum_lt (fun j hj=>by rw[go j (by have:=List.mem_range.1 hj;omega)];exact pc_or _ _) ⟨i,List.mem_range.2 (by omega),by rw[go i hi];exact pc_or_lt hc⟩
  omega
abbrev Val:=List (Option (Rw×Rw))
def stepV(i:In1)(aw:List Int)(x:Rw×Rw)(y:Nat)(V:Val):Val×Bool:=
 match V[y]? with
 | some (some z)=>(V.set y (some (andL z.1 (behB i aw x.1),orL z.2 (behB i aw x.2))),chgL z.1 (behB i aw x.1) z.2 (behB i aw x.2))
 | _=>(V.set y (some (behB i aw x.1,behB i aw x.2)),true)
structure Rel(W n:Nat)(R:List Rw)(E P:List (Option Nat))(V:Val):Prop where
 lE:E.length=n
 lP:P.length=n
 lV:V.length=n
 none_:∀ k:Nat,V[k]?=some none→E[k]?=some none
 some_:∀ (k:Nat) (x:Rw×Rw),V[k]?=some (some x)→∃ a b,E[k]?=some (some a)∧P[k]?=some (some b)∧R[a]?=some x.1∧R[b]?=some x.2∧x.1.length=W∧x.2.length=W
 dE:∀ (k k' a:Nat),E[k]?=some (some a)→E[k']?=some (some a)→k=k'
 dP:∀ (k k' a:Nat),P[k]?=some (some a)→P[k']?=some (some a)→k=k'
 dX:∀ (k k' a:Nat),E[k]?=some (some a)→P[k']?=some (some a)→False
 bE:∀ (k a:Nat),E[k]?=some (some a)→a<R.length
 bP:∀ (k a:Nat),P[k]?=some (some a)→a<R.length
def wtO(W:Nat):Option (Rw×Rw)→Nat
 | none=>128*W+1
 | some x=>wt x
def wtV(W:Nat)(V:Val):Nat:=(V.map (wtO W)).sum
theorem sum_set{W:Nat}:∀ {V:Val} {y:Nat} {z:Option (Rw×Rw)} {z':Option (Rw×Rw)},V[y]?=some z→wtV W (V.set y z')+wtO W z=wtV W V+wtO W z'
 | v::V,0,z,z',h=>by
  simp at h;subst h;simp[wtV];omega
 | v::V,y+1,z,z',h=>by
  have:=sum_set (W:=W) (V:=V) (y:=y) (z:=z) (z':=z') (by simpa using h)
  simp only[wtV,List.set_cons_succ,List.map_cons,List.sum_cons]at this ⊢;omega
theorem wt_le(x:Rw×Rw){W:Nat}(h1:x.1.length=W)(h2:x.2.length=W):wt x≤128*W:=by
 have a:=cnt_le x.1
 rw[h1]at a;unfold wt;rw[h2];omega
section
variable {W n:Nat}{R:List Rw}{E P:List (Option Nat)}{V:Val}{i:In1}{aw:List Int}{x:Rw×Rw}{y:Nat}
theorem step_false(h:Rel W n R E P V)(hx1:x.1.length=W)(hx2:x.2.length=W)(hs:(stepV i aw x y V).2=false):(stepV i aw x y V).1=V:=by
 unfold stepV at hs ⊢;split at hs
 ·rename_i z hz;obtain⟨a,b,_,_,_,_,q5,q6⟩:=h.some_ y z hz
  obtain⟨m1,m2⟩:=meet_same (by rw[behB_len];omega) (by omega) (by rw[behB_len];omega) hs
  simp only
  rw[m1,m2];obtain⟨g1,g2⟩:=List.getElem?_eq_some_iff.1 hz
  rw[←g2];exact List.set_getElem_self g1
 ·cases hs
theorem step_true(h:Rel W n R E P V)(hy:y<n)(hx1:x.1.length=W)(hx2:x.2.length=W)(hs:(stepV i aw x y V).2=true):wtV W (stepV i aw x y V).1<wtV W V:=by
 unfold stepV at hs ⊢;split at hs
 ·rename_i z hz;obtain⟨a,b,_,_,_,_,q5,q6⟩:=h.some_ y z hz
  have m:wt _<wt z:=meet_less (by rw[behB_len];omega) (by omega) (by rw[behB_len];omega) hs
  have:=sum_set (W:=W) (z':=some (andL z.1 (behB i aw x.1),orL z.2 (behB i aw x.2))) hz
  simp only[wtO]at this ⊢;omega
 ·rename_i hn;have hyl:y<V.length:=by rw[h.lV];exact hy
  have hz:V[y]?=some none:=by
   rw[List.getElem?_eq_getElem hyl]
   cases hv:V[y]with
   | none=>rfl
   | some z=>exact absurd (by rw[List.getElem?_eq_getElem hyl,hv]) (hn z)
  have:=sum_set (W:=W) (z':=some (behB i aw x.1,behB i aw x.2)) hz
  have w1:=wt_le (behB i aw x.1,behB i aw x.2) (W:=W) (by rw[behB_len];exact hx1) (by rw[behB_len];exact hx2)
  simp only[wtO]at this ⊢;omega
theorem step_len:(stepV i aw x y V).1.length=V.length:=by
 unfold stepV;split<;>exact List.length_set ..
theorem step_keep{k:Nat}{z:Rw×Rw}(h:V[k]?=some (some z)):∃ z',(stepV i aw x y V).1[k]?=some (some z'):=by
 have hk:=(List.getElem?_eq_some_iff.1 h).1
 unfold stepV;split
 ·simp only[List.getElem?_set]
  split
  ·subst_vars;rw[if_pos hk];exact⟨_,rfl⟩
  ·exact⟨z,h⟩
 ·simp only[List.getElem?_set]
  split
  ·subst_vars;rw[if_pos hk];exact⟨_,rfl⟩
  ·exact⟨z,h⟩
theorem step_made(hy:y<V.length):∃ z',(stepV i aw x y V).1[y]?=some (some z'):=by
 unfold stepV;split
 ·exact⟨_,List.getElem?_set_self hy⟩
 ·exact⟨_,List.getElem?_set_self hy⟩
theorem app_at{R:List Rw}{a:Nat}{r u v:Rw}(h:R[a]?=some r):(R++[u]++[v])[a]?=some r:=by
 have hk:=(List.getElem?_eq_some_iff.1 h).1
 rw[List.append_assoc,List.getElem?_append_left hk];exact h
theorem rel_new(h:Rel W n R E P V)(hx1:x.1.length=W)(hx2:x.2.length=W)(hy:y<n)(hz:V[y]?=some none) :
  Rel W n (R++[behB i aw x.1]++[behB i aw x.2]) (E.set y (some R.length)) (P.set y (some (R.length+1))) (stepV i aw x y V).1:=by
 have e1:(stepV i aw x y V).1=V.set y (some (behB i aw x.1,behB i aw x.2)):=by unfold stepV;rw[hz]
 rw[e1];have hyE:y<E.length:=by rw[h.lE];exact hy
 have hyP:y<P.length:=by rw[h.lP];exact hy
 have hyV:y<V.length:=by rw[h.lV];exact hy
 have cE:∀ k a,(E.set y (some R.length))[k]?=some (some a)→(k=y∧a=R.length)∨(k≠y∧E[k]?=some (some a)):=fun k a hk=>by
  rw[List.getElem?_set]at hk
  split at hk
  ·subst_vars;simp at hk;exact .inl ⟨rfl,hk.symm⟩
  ·exact .inr ⟨fun e=>by simp_all,hk⟩
 have cP:∀ k a,(P.set y (some (R.length+1)))[k]?=some (some a)→(k=y∧a=R.length+1)∨(k≠y∧P[k]?=some (some a)):=fun k a hk=>by
  rw[List.getElem?_set]at hk
  split at hk
  ·subst_vars;simp at hk;exact .inl ⟨rfl,hk.symm⟩
  ·exact .inr ⟨fun e=>by simp_all,hk⟩
 refine⟨by rw[List.length_set];exact h.lE,by rw[List.length_set];exact h.lP,by rw[List.length_set];exact h.lV,fun k hk=>?_,fun k z hk=>?_,fun k k' a h1 h2=>?_,fun k k' a h1 h2=>?_,fun k k' a h1 h2=>?_,fun k a h1=>?_,fun k a h1=>?_⟩
 ·rw[List.getElem?_set]at hk ⊢
  split at hk
  ·subst_vars;simp at hk
  ·rename_i hne;rw[if_neg hne];exact h.none_ k hk
 ·rw[List.getElem?_set]at hk
  split at hk
  ·subst_vars
   simp at hk;subst hk;refine⟨R.length,R.length+1,List.getElem?_set_self hyE,List.getElem?_set_self hyP,?_,?_,by rw[behB_len],by rw[behB_len];exact hx2⟩
   ·rw[List.append_assoc,List.getElem?_append_right (Nat.le_refl _),Nat.sub_self];rfl
   ·rw[List.append_assoc,List.getElem?_append_right (by omega),Nat.add_sub_cancel_left];rfl
  ·rename_i hne;obtain⟨a,b,q1,q2,q3,q4,q5,q6⟩:=h.some_ k z hk
   exact⟨a,b,by rw[List.getElem?_set_ne hne];exact q1,by rw[List.getElem?_set_ne hne];exact q2,app_at q3,app_at q4,q5,q6⟩
 ·rcases cE k a h1 with⟨rfl,rfl⟩|⟨n1,h3⟩
  ·rcases cE k' R.length h2 with⟨rfl,_⟩|⟨_,h4⟩
   ·rfl
   ·exact absurd (h.bE _ _ h4) (Nat.lt_irrefl _)
  ·rcases cE k' a h2 with⟨rfl,rfl⟩|⟨_,h4⟩
   ·exact absurd (h.bE _ _ h3) (Nat.lt_irrefl _)
   ·exact h.dE k k' a h3 h4
 ·rcases cP k a h1 with⟨rfl,rfl⟩|⟨n1,h3⟩
  ·rcases cP k' (R.length+1) h2 with⟨rfl,_⟩|⟨_,h4⟩
   ·rfl
   ·have:=h.bP _ _ h4;omega
  ·rcases cP k' a h2 with⟨rfl,rfl⟩|⟨_,h4⟩
   ·have:=h.bP _ _ h3;omega
   ·exact h.dP k k' a h3 h4
 ·rcases cE k a h1 with⟨rfl,rfl⟩|⟨n1,h3⟩
  ·rcases cP k' R.length h2 with⟨_,q⟩|⟨_,h4⟩
   ·omega
   ·exact absurd (h.bP _ _ h4) (Nat.lt_irrefl _)
  ·rcases cP k' a h2 with⟨_,rfl⟩|⟨_,h4⟩
   ·have:=h.bE _ _ h3;omega
   ·exact h.dX k k' a h3 h4
 ·simp only[List.length_append,List.length_cons,List.length_nil];rcases cE k a h1 with⟨_,rfl⟩|⟨_,h3⟩
  ·omega
  ·have:=h.bE _ _ h3;omega
 ·simp only[List.length_append,List.length_cons,List.length_nil];rcases cP k a h1 with⟨_,rfl⟩|⟨_,h3⟩
  ·omega
  ·have:=h.bP _ _ h3;omega
theorem rel_old(h:Rel W n R E P V)(hx1:x.1.length=W)(hx2:x.2.length=W){z:Rw×Rw}(hz:V[y]?=some (some z)){a b:Nat}(ha:E[y]?=some (some a))(hb:P[y]?=some (some b)) :
  Rel W n (((R++[behB i aw x.1]++[behB i aw x.2]).set a (andL z.1 (behB i aw x.1))).set b (orL z.2 (behB i aw x.2))) E P (stepV i aw x y V).1:=by
 have e1:(stepV i aw x y V).1=V.set y (some (andL z.1 (behB i aw x.1),orL z.2 (behB i aw x.2))):=by unfold stepV;rw[hz]
 rw[e1];have hyV:=(List.getElem?_eq_some_iff.1 hz).1
 have ba:=h.bE _ _ ha
 have bb:=h.bP _ _ hb
 have hab:a≠b:=fun e=>h.dX y y a ha (e▸hb)
 obtain⟨a',b',q1,q2,q3,q4,q5,q6⟩:=h.some_ y z hz
 rw[ha]at q1;rw[hb]at q2;simp at q1 q2;subst q1 q2;refine⟨h.lE,h.lP,by rw[List.length_set];exact h.lV,fun k hk=>?_,fun k u hk=>?_,h.dE,h.dP,h.dX,fun k c hk=>by have:=h.bE k c hk;simp;omega,fun k c hk=>by have:=h.bP k c hk;simp;omega⟩
 ·rw[List.getElem?_set]at hk
  split at hk
  ·subst_vars;simp at hk
  ·exact h.none_ k hk
 ·rw[List.getElem?_set]at hk
  split at hk
  ·subst_vars
   simp at hk;subst hk;refine⟨a,b,ha,hb,?_,?_,by rw[andL_len (by rw[behB_len];omega)];exact q5,by rw[orL_len (by rw[behB_len];omega)];exact q6⟩
   ·rw[List.getElem?_set_ne (Ne.symm hab),List.getElem?_set_self (by simp;omega)]
   ·rw[List.getElem?_set_self (by simp;omega)]
  ·rename_i hne;obtain⟨c,d,p1,p2,p3,p4,p5,p6⟩:=h.some_ k u hk
   have ca:c≠a:=fun e=>hne (h.dE y k a ha (e▸p1))
   have cb:c≠b:=fun e=>h.dX k y b (e▸p1) hb
   have da:d≠a:=fun e=>h.dX y k a ha (e▸p2)
   have db:d≠b:=fun e=>hne (h.dP y k b hb (e▸p2))
   refine⟨c,d,p1,p2,?_,?_,p5,p6⟩
   ·rw[List.getElem?_set_ne (Ne.symm cb),List.getElem?_set_ne (Ne.symm ca)];exact app_at p3
   ·rw[List.getElem?_set_ne (Ne.symm db),List.getElem?_set_ne (Ne.symm da)];exact app_at p4
end
end Go.Proofs.YticliodhjfednaaGreat
namespace Go.Proofs.YticliodhjfednaaGreat
open Go Go.Ab
variable {ext:Sem'}
def wOf(c:Cd1):Nat:=(c.vars.length+63)/64
structure CkF(ext:Sem')(c:Cd1):Prop where
 n:0<c.ins.length
 nl:c.ins.length≤100000
 v:c.vars.length≤60000
 p0:0≤c.params
 p1:c.params≤c.vars.length
 inr:inrC c
 ins:∀ (k:Nat) (i:In1),c.ins[k]?=some i→(usesL i).length≤1000∧G ext 85 [c.av,i.av] []=some (.ret (.d (.sl ((usesL i).map useRow))),[])∧(∀ v,v∈awayI i→0≤v∧v<64*(wOf c:Int))∧(hasD i.op=true→0≤i.d∧i.d<64*(wOf c:Int))
def parB(W:Nat):Nat→Rw
 | 0=>List.replicate W 0#64
 | k+1=>putB (parB W k) k true
theorem parB_len(W:Nat):∀ k,(parB W k).length=W
 | 0=>List.length_replicate
 | k+1=>by rw[parB,putB_len,parB_len W k]
def awV:Option (List Int)→AV
 | none=>.full []
 | some l=>.d (ints l)
def aws(A:List (Option (List Int))):List AV:=A.map awV
theorem aws_refs(A:List (Option (List Int))):((aws A).map refs).flatten=[]:=by
 induction A with
 | nil=>rfl
 | cons k l ih=>show refs (awV k)++((aws l).map refs).flatten=[];rw[ih];cases k<;>rfl
theorem aws_ren(f:Nat→Nat)(A:List (Option (List Int))):(aws A).map (ren f)=aws A:=by
 induction A with
 | nil=>rfl
 | cons k l ih=>show ren f (awV k)::(aws l).map (ren f)=awV k::aws l;rw[ih];cases k<;>rfl
attribute [go_sem] aws_refs aws_ren
theorem aws_len(A:List (Option (List Int))):(aws A).length=A.length:=List.length_map _
theorem aws_at{A:List (Option (List Int))}{i:Nat}{x:Option (List Int)}(h:A[i]?=some x):(aws A)[i]?=some (awV x):=by unfold aws;rw[List.getElem?_map,h];rfl
theorem aws_set{A:List (Option (List Int))}{i:Nat}(h:i<A.length)(l:List Int):List.take i (aws A)++[AV.d (ints l)]++List.drop (i+1) (aws A)=aws (A.set i (some l)):=by
 unfold aws;rw[List.set_eq_take_append_cons_drop,if_pos h];simp[awV]
theorem rowB_refs:∀ r:Rw,refsAL (rowB r)=[]
 | []=>rfl
 | w::r=>by show refs (wA w)++refsAL (rowB r)=[];rw[rowB_refs r];rfl
theorem rgB_one(R:List Rw)(r:Rw):rgB R++[rowB r]=rgB (R++[r]):=by simp[rgB]
theorem rgB_len(R:List Rw):(rgB R).length=R.length:=List.length_map _
attribute [go_sem] rowB_refs rgB_one rgB_len
def of0(W n:Nat)(f:Rw):Val:=(List.replicate n none).set 0 (some (f,f))
theorem rel0{W n:Nat}(hn:0<n)(R:List Rw)(f:Rw)(hf:f.length=W):Rel W n (R++[f]++[f]) ((List.replicate n none).set 0 (some (R.length+1))) ((List.replicate n none).set 0 (some R.length)) (of0 W n f):=by
 have key:∀ (k a b:Nat),((List.replicate n (none:Option Nat)).set 0 (some b))[k]?=some (some a)→k=0∧a=b:=fun k a b h=>by
  cases k with
  | zero=>rw[List.getElem?_set_self (by simpa using hn)]at h;simp at h;exact⟨rfl,h.symm⟩
  | succ k=>
   rw[List.getElem?_set_ne (by omega),List.getElem?_replicate]at h
   split at h<;>simp at h
 refine⟨by simp,by simp,by simp[of0],fun k h=>?_,fun k x h=>?_,fun k k' a h1 h2=>?_,fun k k' a h1 h2=>?_,fun k k' a h1 h2=>?_,fun k a h1=>?_,fun k a h1=>?_⟩
 ·cases k with
  | zero=>unfold of0 at h;rw[List.getElem?_set_self (by simpa using hn)]at h;simp at h
  | succ k=>
   unfold of0 at h;rw[List.getElem?_set_ne (by omega),List.getElem?_replicate]at h ⊢
   split at h
   ·rename_i hk;rw[if_pos hk]
   ·simp at h
 ·cases k with
  | zero=>
   unfold of0 at h;rw[List.getElem?_set_self (by simpa using hn)]at h
   simp at h;subst h;refine⟨R.length+1,R.length,List.getElem?_set_self (by simpa using hn),List.getElem?_set_self (by simpa using hn),?_,?_,hf,hf⟩
   ·rw[List.append_assoc,List.getElem?_append_right (by omega),Nat.add_sub_cancel_left];rfl
   ·rw[List.append_assoc,List.getElem?_append_right (Nat.le_refl _),Nat.sub_self];rfl
  | succ k=>
   unfold of0 at h;rw[List.getElem?_set_ne (by omega),List.getElem?_replicate]at h
   split at h<;>simp at h
 ·rw[(key _ _ _ h1).1,(key _ _ _ h2).1]
 ·rw[(key _ _ _ h1).1,(key _ _ _ h2).1]
 ·have a1:=(key _ _ _ h1).2
  have a2:=(key _ _ _ h2).2
  omega
 ·rw[(key _ _ _ h1).2];simp
 ·rw[(key _ _ _ h1).2];simp
inductive Rv (c:Cd1):Val→Prop
 | zero:Rv c (of0 (wOf c) c.ins.length (parB (wOf c) c.params.toNat))
 | step {V:Val} {k y:Nat} {i:In1} {x:Rw×Rw} (h:Rv c V) (hi:c.ins[k]?=some i) (hx:V[k]?=some (some x)) (hy:(y:Int)∈nxC c k):Rv c (stepV i (awayI i) x y V).1
def Fix(c:Cd1)(V:Val):Prop:=(∃ x,V[0]?=some (some x))∧∀ (k:Nat) (i:In1) (x:Rw×Rw) (y:Nat),c.ins[k]?=some i→V[k]?=some (some x)→(y:Int)∈nxC c k→(stepV i (awayI i) x y V).2=false∧∃ z,V[y]?=some (some z)
structure Pg(c:Cd1)(V0:Val)(D:Nat→Nat→Prop)(R:List Rw)(E P:List (Option Nat))(V:Val)(ch:Bool):Prop where
 rel:Rel (wOf c) c.ins.length R E P V
 rv:Rv c V
 z:∃ x,V[0]?=some (some x)
 made:∀ k y,D k y→∃ x,V[y]?=some (some x)
 same:ch=false→V=V0∧∀ (k y:Nat) (i:In1) (x:Rw×Rw),D k y→c.ins[k]?=some i→V[k]?=some (some x)→(stepV i (awayI i) x y V).2=false
 le:wtV (wOf c) V≤wtV (wOf c) V0
 lt:ch=true→wtV (wOf c) V<wtV (wOf c) V0
theorem Pg.mono{c:Cd1}{V0:Val}{D D':Nat→Nat→Prop}{R:List Rw}{E P:List (Option Nat)}{V:Val}{ch:Bool}(h:Pg c V0 D R E P V ch)(hd:∀ k y,D' k y→D k y):Pg c V0 D' R E P V ch:=
 ⟨h.rel,h.rv,h.z,fun k y q=>h.made k y (hd k y q),fun e=>⟨(h.same e).1,fun k y i x q=>(h.same e).2 k y i x (hd k y q)⟩,h.le,h.lt⟩
theorem Pg.step{c:Cd1}{V0:Val}{D:Nat→Nat→Prop}{R R':List Rw}{E P E' P':List (Option Nat)}{V:Val}{ch:Bool}(h:Pg c V0 D R E P V ch){k y:Nat}{i:In1}{x:Rw×Rw}(hi:c.ins[k]?=some i)(hx:V[k]?=some (some x))(hy:(y:Int)∈nxC c k)(hyn:y<c.ins.length)
  (hr:Rel (wOf c) c.ins.length R' E' P' (stepV i (awayI i) x y V).1):Pg c V0 (fun a b=>D a b∨(a=k∧b=y)) R' E' P' (stepV i (awayI i) x y V).1 ((stepV i (awayI i) x y V).2||ch):=by
 obtain⟨_,_,_,_,_,_,l1,l2⟩:=h.rel.some_ k x hx
 refine⟨hr,.step h.rv hi hx hy,?_,fun a b q=>?_,fun e=>?_,?_,fun e=>?_⟩
 ·obtain⟨z,hz⟩:=h.z
  exact step_keep hz
 ·rcases q with q|⟨_,rfl⟩
  ·obtain⟨z,hz⟩:=h.made a b q
   exact step_keep hz
  ·exact step_made (by rw[h.rel.lV];exact hyn)
 ·rw[Bool.or_eq_false_iff]at e;have hv:=step_false h.rel l1 l2 e.1
  obtain⟨s1,s2⟩:=h.same e.2
  rw[hv];refine⟨s1,fun a b j u q hj hu=>?_⟩
  rcases q with q|⟨rfl,rfl⟩
  ·exact s2 a b j u q hj hu
  ·rw[hi]at hj;rw[hx]at hu
   cases hj
   cases hu;exact e.1
 ·cases hs:(stepV i (awayI i) x y V).2 with
  | false=>rw[step_false h.rel l1 l2 hs];exact h.le
  | true=>have:=step_true h.rel hyn l1 l2 hs;have:=h.le;omega
 ·cases hs:(stepV i (awayI i) x y V).2 with
  | false=>rw[step_false h.rel l1 l2 hs];rw[hs]at e;exact h.lt (by simpa using e)
  | true=>have:=step_true h.rel hyn l1 l2 hs;have:=h.le;omega
theorem rv_in{c:Cd1}{l:List Int}(hl:OrderOk (nxC c) c.ins.length l){V:Val}(h:Rv c V):∀ (k:Nat) (x:Rw×Rw),V[k]?=some (some x)→(k:Int)∈l:=by
 induction h with
 | zero=>
  intro k x hk
  cases k with
  | zero=>exact hl.zero
  | succ k=>
   unfold of0 at hk;rw[List.getElem?_set_ne (by omega),List.getElem?_replicate]at hk
   split at hk<;>simp at hk
 | step hv hi hx hy ih=>
  intro k' x' hk';rename_i V k y i x;by_cases e:y=k'
  ·subst e;exact hl.closed k (ih k x hx) y (by simpa using hy) (by omega)
  ·refine ih k' x' ?_
   unfold stepV at hk';split at hk'
   ·simp only at hk';rw[List.getElem?_set_ne e]at hk';exact hk'
   ·simp only at hk';rw[List.getElem?_set_ne e]at hk';exact hk'
structure OsT where
 R:List Rw
 E:List (Option Nat)
 P:List (Option Nat)
 V:Val
 ch:Bool
theorem set_last{α:Type}(R:List α)(a b:α):(R++[a]).set R.length b=R++[b]:=by rw[List.set_append_right _ _ (Nat.le_refl _),Nat.sub_self];rfl
theorem last_at{α:Type}(R:List α)(a:α):(R++[a])[R.length]?=some a:=by rw[List.getElem?_append_right (Nat.le_refl _),Nat.sub_self];rfl
set_option maxHeartbeats 4000000 in
theorem of1_e(hx:TF ext)(c:Cd1)(h:CkF ext c)(R:List Rw) :
  ∃ R' E P V,Rel (wOf c) c.ins.length R' E P V∧Rv c V∧Fix c V∧G ext 26 [c.av] [.reg (rgB R)]=some (.ret (.ptr 1 0),tbH R' c c.ins.length (wOf c) E P):=by
 have hil:(c.ins.map In1.row).length=c.ins.length:=List.length_map _
 have hvl:(c.vars.map Vr1.row).length=c.vars.length:=List.length_map _
 have hn:=h.n
 have hnl:=h.nl
 have hv:=h.v
 have h01:0≤(c.ins.length:Int):=by omega
 have hle:=Int.le_refl (c.ins.length:Int)
 have hrm:room c.ins.length 24:=by unfold room;simp;omega
 have hq:((c.vars.length:Int)+63).tdiv 64=(wOf c:Int):=by unfold wOf;rfl
 have hw0:0≤(wOf c:Int):=by omega
 have hwl:wOf c≤1000:=by unfold wOf;omega
 have hle2:=Int.le_refl (wOf c:Int)
 have hrm2:room (wOf c) 8:=by unfold room;simp;omega
 have hz1:(List.replicate c.ins.length [AV.nils]).flatten=rws (wOf c) (List.replicate c.ins.length none):=by
  generalize c.ins.length=n;induction n with
  | zero=>rfl
  | succ n ih=>simp only[List.replicate_succ,List.flatten_cons,ih];rfl
 have hz2:(List.replicate (wOf c) [AV.d (.int .u64 0)]).flatten=rowB (List.replicate (wOf c) 0#64):=by
  generalize wOf c=n;induction n with
  | zero=>rfl
  | succ n ih=>simp only[List.replicate_succ,List.flatten_cons,ih];rfl
 suffices hs:∃ r,G ext 26 [c.av] [.reg (rgB R)]=r∧∃ R' E P V,Rel (wOf c) c.ins.length R' E P V∧Rv c V∧Fix c V∧r=some (.ret (.ptr 1 0),tbH R' c c.ins.length (wOf c) E P)by
  obtain⟨r,h1,R',E,P,V,h2,h3,h4,h5⟩:=hs
  exact⟨R',E,P,V,h2,h3,h4,h1.trans h5⟩
 refine⟨_,rfl,?_⟩
 rw[G_body hx.clear rfl Tryz.func26 rfl Tryz.results26 hv_26 rfl];simp only[Cd1.av];simp(maxSteps:=9^9)(disch:=first|(intros;contradiction)|omega)only[go_sem,hil,hvl,h01,hle,hrm,hq,hw0,hle2,hrm2,hz1,hz2,wrap64]
 generalize hL:loopA _ _ _=L;have hp0:=h.p0
 have hp1:=h.p1
 have hwv:c.vars.length≤64*wOf c:=by unfold wOf;omega
 apply loop_upd hL (by simp(maxSteps:=9^9)(disch:=first|(intros;contradiction)|omega)only[go_sem]<;>rfl) (α:=Nat) (fun k=>k≤c.params.toNat) (fun k=>c.params.toNat-k) (fun k=>[(36,.d (.int .i64 k))]) (fun k=>[(0,.reg (rgB (R++[parB (wOf c) k])))]) 0 (by simp(maxSteps:=9^9)(disch:=first|(intros;contradiction)|omega)only[go_sem]<;>rfl) (Nat.zero_le _) ?_
 intro k hk next ih;clear hL;by_cases hkp:(k:Int)<c.params
 ·have hp:=put_e hx.toTX (last_at R (parB (wOf c) k)) k true (by rw[parB_len];omega) (by omega) (by rw[parB_len];omega)
  rw[parB_len,set_last]at hp;simp(maxSteps:=9^9)(disch:=first|(intros;contradiction)|omega)only[go_sem,hkp,hp,wrap64]
  exact ih (k+1) _ (by omega) (by omega) (by simp(maxSteps:=9^9)(disch:=first|(intros;contradiction)|omega)only[go_sem]<;>rfl)
 ·have hkk:k=c.params.toNat:=by omega
  subst hkk;clear ih;generalize hf:parB (wOf c) c.params.toNat=f;have hfl:f.length=wOf c:=by rw[←hf];exact parB_len _ _
  have hcl:=G_ext (hx.clone (R++[f]) R.length f (last_at R f) (by omega))
  have hmn:=meet_new (n:=c.ins.length) hx (R++[f]++[f]) c (wOf c) (E:=List.replicate c.ins.length none) (P:=List.replicate c.ins.length none) 0 (R.length+1) R.length (by rw[List.getElem?_replicate,if_pos hn]) (by simpa using hn) (by simp) (by simp) (by omega)
  rw[hfl]at hcl;unfold cIx cRg at hcl;rw[show(R++[f]).length=R.length+1 by simp]at hcl
  rw[show((0:Nat):Int)=0 from rfl]at hmn
  simp only[tbH,tbC]at hmn;obtain⟨l,hl,hor⟩:=order_e hx c (by omega) hn h.inr
  simp only[Cd1.av]at hor;rw[show ints l=.sl (l.map rowI)from rfl]at hor
  have hz3:(List.replicate c.ins.length [AV.full []]).flatten=aws (List.replicate c.ins.length none):=by
   generalize c.ins.length=n;induction n with
   | zero=>rfl
   | succ n ih=>simp only[List.replicate_succ,List.flatten_cons,ih];rfl
  simp(maxSteps:=9^9)(disch:=first|(intros;contradiction)|omega)only[go_sem,hkp,hcl,hmn,hor,h01,hle,hrm,hz3,wrap64]
  generalize hL:loopA _ _ _=L;have hll:l.length≤100000:=by have:=hl.len;omega
  have hlm:(l.map rowI).length=l.length:=List.length_map _
  apply range_upd hL (by simp(maxSteps:=9^9)(disch:=first|(intros;contradiction)|omega)only[go_sem]<;>rfl) l rowI (α:=List (Option (List Int))) (fun rest q A=>A.length=c.ins.length∧(∀ v,v∈rest→v∈l)∧∀ (k:Nat) (i:In1),(k:Int)∈l→c.ins[k]?=some i→(k:Int)∈rest∨A[k]?=some (some (awayI i)))
   (fun q _=>[(54,.d (.int .i64 q))]) (fun _ A=>[(6,.cells (aws A))]) (List.replicate c.ins.length none) (by simp(maxSteps:=9^9)(disch:=first|(intros;contradiction)|omega)only[go_sem]<;>rfl) ⟨by simp,fun v hv=>hv,fun k i hk _=>.inl hk⟩ ?_ ?_
  ·rintro v rest q A ⟨q1,q2,q3⟩ hlt2 hr2 hget hq _ next ih
   clear hL;obtain⟨v0,v1⟩:=hl.inr v (q2 v (.head _))
   obtain⟨vn,rfl⟩:∃ vn:Nat,v=(vn:Int):=⟨v.toNat,by omega⟩
   have hvi:c.ins[vn]?=some c.ins[vn]:=List.getElem?_eq_getElem (by omega)
   obtain⟨u1,u2,_,_⟩:=h.ins vn _ hvi
   have haw:=away_e hx (R++[f]++[f]) c c.ins.length (wOf c) ((List.replicate c.ins.length none).set 0 (some (R.length+1))) ((List.replicate c.ins.length none).set 0 (some R.length)) vn hvi (by omega) u1 u2
   simp only[tbH,tbC]at haw;have hset:=aws_set (A:=A) (i:=vn) (by omega) (awayI c.ins[vn])
   have hsl:vn+1≤(aws A).length:=by rw[aws_len];omega
   simp only[rowI]at hr2
   have q3':∀ (k:Nat) (i:In1),(k:Int)∈l→c.ins[k]?=some i→(k:Int)∈rest∨(A.set vn (some (awayI c.ins[vn])))[k]?=some (some (awayI i)):=by
    intro k i hk hi;by_cases e:vn=k
    ·subst e;rw[hvi]at hi
     cases hi;exact .inr (List.getElem?_set_self (by omega))
    ·rcases q3 k i hk hi with hm|hm
     ·rcases List.mem_cons.1 hm with hm|hm
      ·exact absurd (by omega) e
      ·exact .inl hm
     ·exact .inr (by rw[List.getElem?_set_ne e];exact hm)
   clear q3;have v0:0≤(vn:Int):=by omega
   have v1:(vn:Int)<(c.ins.length:Int):=by omega
   simp(maxSteps:=9^9)(disch:=first|(intros;contradiction)|omega)only[go_sem,hlt2,hr2,haw,v0,v1,hset,hsl,Nat.mul_one,wrap64]
   exact ih (A.set vn (some (awayI c.ins[vn]))) _ ⟨by rw[List.length_set];exact q1,fun u hu=>q2 u (.tail _ hu),q3'⟩ (by simp(maxSteps:=9^9)(disch:=first|(intros;contradiction)|omega)only[go_sem]<;>rfl)
  ·rintro q A ⟨q1,q2,q3⟩ hlt2 hq next
   clear hL;simp(maxSteps:=9^9)(disch:=first|(intros;contradiction)|omega)only[go_sem,hlt2]
   generalize hL:loopA _ _ _=L
   have hV0:Pg c (of0 (wOf c) c.ins.length f) (fun _ _=>False) (R++[f]++[f]) ((List.replicate c.ins.length none).set 0 (some (R.length+1))) ((List.replicate c.ins.length none).set 0 (some R.length)) (of0 (wOf c) c.ins.length f) false:=
    ⟨rel0 hn R f hfl,by rw[←hf];exact .zero,⟨(f,f),by unfold of0;exact List.getElem?_set_self (by simpa using hn)⟩,fun _ _ q=>q.elim,fun _=>⟨rfl,fun _ _ _ _ q=>q.elim⟩,Nat.le_refl _,fun e=>by cases e⟩
   have q3:∀ (k:Nat) (i:In1),(k:Int)∈l→c.ins[k]?=some i→A[k]?=some (some (awayI i)):=fun k i hk hi=>(q3 k i hk hi).resolve_left (by simp)
   clear hcl hmn hor hz1 hz2 hz3
   apply loop_upd hL (by simp(maxSteps:=9^9)(disch:=first|(intros;contradiction)|omega)only[go_sem]<;>rfl) (α:=OsT) (fun s=>Pg c s.V (fun _ _=>False) s.R s.E s.P s.V false) (fun s=>wtV (wOf c) s.V) (fun _=>[]) (fun s=>[(0,.reg (rgB s.R)),(2,.cells (rws (wOf c) s.E)),(3,.cells (rws (wOf c) s.P))])
    ⟨_,_,_,_,false⟩ (by simp(maxSteps:=9^9)(disch:=first|(intros;contradiction)|omega)only[go_sem]<;>rfl) hV0 ?_
   clear hV0;rintro⟨R0,E0,P0,V0,ch0⟩ hpg next ih
   clear hL;simp only at hpg ih ⊢
   simp(maxSteps:=9^9)(disch:=first|(intros;contradiction)|omega)only[go_sem]
   generalize hL:loopA _ _ _=L
   apply range_upd hL (by simp(maxSteps:=9^9)(disch:=first|(intros;contradiction)|omega)only[go_sem]<;>rfl) l rowI (α:=OsT) (fun rest _ s=>∃ A4,l=A4++rest∧Pg c V0 (fun k y=>(k:Int)∈A4∧(y:Int)∈nxC c k) s.R s.E s.P s.V s.ch)
    (fun q s=>[(13,.d (.bool s.ch)),(71,.d (.int .i64 q))]) (fun _ s=>[(0,.reg (rgB s.R)),(2,.cells (rws (wOf c) s.E)),(3,.cells (rws (wOf c) s.P))]) ⟨R0,E0,P0,V0,false⟩ (by simp(maxSteps:=9^9)(disch:=first|(intros;contradiction)|omega)only[go_sem]<;>rfl) ⟨[],rfl,hpg.mono fun k y q=>by simp at q⟩ ?_ ?_
   ·rintro v rest q2 ⟨R1,E1,P1,V1,ch1⟩ ⟨A4,hA4,pg1⟩ hlt3 hr3 hget3 hq3 _ next2 ih2
    clear hL ih;simp only at pg1 ih2 ⊢
    obtain⟨v0,v1⟩:=hl.inr v (by rw[hA4];simp)
    obtain⟨k,rfl⟩:∃ k:Nat,v=(k:Int):=⟨v.toNat,by omega⟩
    have hki:c.ins[k]?=some c.ins[k]:=List.getElem?_eq_getElem (by omega)
    obtain⟨u1,u2,u3,u4⟩:=h.ins k _ hki
    have hVk:∃ x,V1[k]?=some (some x):=by
     rcases hl.pre A4 (k:Int) rest hA4 with⟨_,e⟩|⟨p,hp,hpk⟩
     ·have:k=0:=by omega
      subst this;exact pg1.z
     ·exact pg1.made p k ⟨hp,hpk⟩
    have hnx:=next_e hx c.ins[k] k (by omega) (by omega)
    have hnn:nxC c k=nxtI c.ins[k] k:=by unfold nxC;rw[hki]
    rw[←hnn,show ints (nxC c k)=.sl ((nxC c k).map rowI)from rfl]at hnx
    have hki2:(c.ins.map In1.row)[k]?=some c.ins[k].row:=by rw[List.getElem?_map,hki];rfl
    simp only[In1.av]at hnx;simp only[In1.row]at hki2;simp only[rowI]at hr3;have v0:0≤(k:Int):=by omega
    have v1:(k:Int)<(c.ins.length:Int):=by omega
    have hkl:(k:Int)<((c.ins.map In1.row).length:Int):=by rw[hil];exact v1
    have hAk:=aws_at (q3 k _ (by rw[hA4];simp) hki)
    simp only[awV]at hAk;simp(maxSteps:=9^9)(disch:=first|(intros;contradiction)|omega)only[go_sem,hlt3,hr3,hnx,hki2,hkl,wrap64]
    generalize hL:loopA _ _ _=L;generalize hI:c.ins[k]=i at hki u1 u2 u3 u4 hki2 hAk hnx hnn;clear hnx hki2 hr3 hget3
    apply range_upd hL (by simp(maxSteps:=9^9)(disch:=first|(intros;contradiction)|omega)only[go_sem]<;>rfl) (nxC c k) rowI (α:=OsT) (fun rest _ s=>∃ A5,nxC c k=A5++rest∧(∃ x,s.V[k]?=some (some x))∧Pg c V0 (fun a y=>((a:Int)∈A4∧(y:Int)∈nxC c a)∨(a=k∧(y:Int)∈A5)) s.R s.E s.P s.V s.ch)
     (fun q s=>[(13,.d (.bool s.ch)),(83,.d (.int .i64 q))]) (fun _ s=>[(0,.reg (rgB s.R)),(2,.cells (rws (wOf c) s.E)),(3,.cells (rws (wOf c) s.P))]) ⟨R1,E1,P1,V1,ch1⟩ (by simp(maxSteps:=9^9)(disch:=first|(intros;contradiction)|omega)only[go_sem]<;>rfl) ⟨[],rfl,hVk,pg1.mono fun a y q=>by
      rcases q with q|⟨_,q⟩
      ·exact q
      ·cases q⟩ ?_ ?_
    ·clear pg1 hVk;rintro y rest5 r5 ⟨R2,E2,P2,V2,ch2⟩ ⟨A5,hA5,⟨x,hx2⟩,pg2⟩ hlt5 hr5 hget5 hq5 _ next3 ih3
     clear hL ih2;simp only at hx2 pg2 ih3 ⊢
     have hyn:y∈nxC c k:=by rw[hA5];simp
     have hr5l:r5<2:=by have:=nxtI_len i k;rw[←hnn]at this;omega
     obtain⟨y0,y1⟩:=h.inr k (by omega) y hyn
     obtain⟨yn,rfl⟩:∃ yn:Nat,y=(yn:Int):=⟨y.toNat,by omega⟩
     obtain⟨a,b,p1,p2,p3,p4,p5,p6⟩:=pg2.rel.some_ k x hx2
     have eE:=rws_at (W:=wOf c) p1
     have eP:=rws_at (W:=wOf c) p2
     simp only[rwV]at eE eP;have gl:=gives_len (usesL i)
     have hb1:=behind_e hx p3 (by omega) c c.ins.length E2 P2 k hki (by omega) (awayI i) (by unfold awayI;omega) (by rw[p5];exact u3) (by rw[p5];exact u4)
     have hb2:=behind_e hx (R:=R2++[behB i (awayI i) x.1]) (k:=b) (r:=x.2) (by rw[List.getElem?_append_left (List.getElem?_eq_some_iff.1 p4).1];exact p4) (by omega) c c.ins.length E2 P2 k hki (by omega) (awayI i) (by unfold awayI;omega) (by rw[p6];exact u3) (by rw[p6];exact u4)
     unfold cIx cRg at hb1 hb2;rw[set_last,p5]at hb1;rw[set_last,p6,show(R2++[behB i (awayI i) x.1]).length=R2.length+1 by simp]at hb2
     simp only[tbH,tbC]at hb1 hb2;have hnl5:yn<c.ins.length:=by omega
     have hyV:yn<V2.length:=by rw[pg2.rel.lV];exact hnl5
     have y0:0≤(yn:Int):=by omega
     have y1:(yn:Int)<(c.ins.length:Int):=by omega
     have hVk':=step_keep (i:=i) (aw:=awayI i) (x:=x) (y:=yn) hx2
     have hA5':nxC c k=(A5++[(yn:Int)])++rest5:=by rw[hA5];simp
     simp only[rowI]at hr5
     cases hz:V2[yn]? with
     | none=>rw[List.getElem?_eq_getElem hyV]at hz;cases hz
     | some z0=>
      cases z0 with
      | none=>
       have hr':=rel_new (i:=i) (aw:=awayI i) (x:=x) pg2.rel p5 p6 hnl5 hz
       have hs:(stepV i (awayI i) x yn V2).2=true:=by unfold stepV;rw[hz]
       have pg':=Pg.step pg2 hki hx2 hyn hnl5 hr'
       rw[hs,Bool.true_or]at pg';have hm:=meet_new (n:=c.ins.length) hx (R2++[behB i (awayI i) x.1]++[behB i (awayI i) x.2]) c (wOf c) (E:=E2) (P:=P2) yn R2.length (R2.length+1) (pg2.rel.none_ yn hz) (by rw[pg2.rel.lP];exact hnl5) pg2.rel.lE pg2.rel.lP (by omega)
       simp only[tbH,tbC]at hm;simp(maxSteps:=9^9)(disch:=first|(intros;contradiction)|omega)only[go_sem,hlt5,hr5,v0,v1,y0,y1,eE,eP,hAk,hb1,hb2,hm,Nat.mul_one,wrap64]
       exact ih3 ⟨_,_,_,(stepV i (awayI i) x yn V2).1,true⟩ _ ⟨A5++[(yn:Int)],hA5',hVk',pg'.mono fun a y q=>by
        rcases q with q|⟨rfl,q⟩
        ·exact .inl (.inl q)
        ·rcases List.mem_append.1 q with q|q
         ·exact .inl (.inr ⟨rfl,q⟩)
         ·exact .inr ⟨rfl,by simp at q;omega⟩⟩ (by simp(maxSteps:=9^9)(disch:=first|(intros;contradiction)|omega)only[go_sem]<;>rfl)
      | some z=>
       obtain⟨a2,b2,s1,s2,s3,s4,s5,s6⟩:=pg2.rel.some_ yn z hz
       have bE:=pg2.rel.bE _ _ s1
       have bP:=pg2.rel.bP _ _ s2
       have hr':=rel_old (i:=i) (aw:=awayI i) (x:=x) pg2.rel p5 p6 hz s1 s2
       have hs:(stepV i (awayI i) x yn V2).2=chgL z.1 (behB i (awayI i) x.1) z.2 (behB i (awayI i) x.2):=by unfold stepV;rw[hz]
       have pg':=Pg.step pg2 hki hx2 hyn hnl5 hr'
       have hm:=meet_old (n:=c.ins.length) hx (R:=R2++[behB i (awayI i) x.1]++[behB i (awayI i) x.2]) c (W:=wOf c) (E:=E2) (P:=P2) yn R2.length (R2.length+1) a2 b2 s1 s2 pg2.rel.lE pg2.rel.lP (by omega) hwl (app_at s3) (app_at s4)
        (r1:=behB i (awayI i) x.1) (r2:=behB i (awayI i) x.2) (by rw[List.append_assoc,List.getElem?_append_right (Nat.le_refl _),Nat.sub_self];rfl) (by rw[List.append_assoc,List.getElem?_append_right (by omega),Nat.add_sub_cancel_left];rfl) s5 s6 (by rw[behB_len];exact p5) (by rw[behB_len];exact p6)
        (fun _=>⟨fun e=>pg2.rel.dX yn yn a2 s1 (e▸s2),by omega,by omega,by omega,by omega⟩)
       simp only[tbH,tbC]at hm;rw[hs]at pg'
       cases hch:chgL z.1 (behB i (awayI i) x.1) z.2 (behB i (awayI i) x.2)with
       | true=>
        rw[hch,Bool.true_or]at pg';rw[hch]at hm;simp(maxSteps:=9^9)(disch:=first|(intros;contradiction)|omega)only[go_sem,hlt5,hr5,v0,v1,y0,y1,eE,eP,hAk,hb1,hb2,hm,Nat.mul_one,wrap64]
        exact ih3 ⟨_,_,_,(stepV i (awayI i) x yn V2).1,true⟩ _ ⟨A5++[(yn:Int)],hA5',hVk',pg'.mono fun a y q=>by
         rcases q with q|⟨rfl,q⟩
         ·exact .inl (.inl q)
         ·rcases List.mem_append.1 q with q|q
          ·exact .inl (.inr ⟨rfl,q⟩)
          ·exact .inr ⟨rfl,by simp at q;omega⟩⟩ (by simp(maxSteps:=9^9)(disch:=first|(intros;contradiction)|omega)only[go_sem]<;>rfl)
       | false=>
        rw[hch,Bool.false_or]at pg';rw[hch]at hm;simp(maxSteps:=9^9)(disch:=first|(intros;contradiction)|omega)only[go_sem,hlt5,hr5,v0,v1,y0,y1,eE,eP,hAk,hb1,hb2,hm,Nat.mul_one,wrap64]
        exact ih3 ⟨_,_,_,(stepV i (awayI i) x yn V2).1,ch2⟩ _ ⟨A5++[(yn:Int)],hA5',hVk',pg'.mono fun a y q=>by
         rcases q with q|⟨rfl,q⟩
         ·exact .inl (.inl q)
         ·rcases List.mem_append.1 q with q|q
          ·exact .inl (.inr ⟨rfl,q⟩)
          ·exact .inr ⟨rfl,by simp at q;omega⟩⟩ (by simp(maxSteps:=9^9)(disch:=first|(intros;contradiction)|omega)only[go_sem]<;>rfl)
    ·rintro r5 ⟨R2,E2,P2,V2,ch2⟩ ⟨A5,hA5,hVk2,pg2⟩ hlt5 hq5 next3
     clear hL pg1 hVk;simp only at pg2 ⊢
     rw[List.append_nil]at hA5;simp(maxSteps:=9^9)(disch:=first|(intros;contradiction)|omega)only[go_sem,hlt5,wrap64]
     exact ih2 ⟨R2,E2,P2,V2,ch2⟩ _ ⟨A4++[(k:Int)],by rw[hA4];simp,pg2.mono fun a y q=>by
      rcases List.mem_append.1 q.1 with q1|q1
      ·exact .inl ⟨q1,q.2⟩
      ·have e:a=k:=by simp at q1;omega
       exact .inr ⟨e,by rw[←hA5,←e];exact q.2⟩⟩ (by simp(maxSteps:=9^9)(disch:=first|(intros;contradiction)|omega)only[go_sem]<;>rfl)
   ·rintro q2 ⟨R3,E3,P3,V3,ch3⟩ ⟨A4,hA4,pg3⟩ hlt3 hq3 next2
    clear hL;simp only at pg3 ⊢
    rw[List.append_nil]at hA4
    cases ch3 with
    | true=>
     simp(maxSteps:=9^9)(disch:=first|(intros;contradiction)|omega)only[go_sem,hlt3]
     exact ih ⟨R3,E3,P3,V3,true⟩ _ ⟨pg3.rel,pg3.rv,pg3.z,fun _ _ q=>q.elim,fun _=>⟨rfl,fun _ _ _ _ q=>q.elim⟩,Nat.le_refl _,fun e=>by cases e⟩ (pg3.lt rfl) (by simp(maxSteps:=9^9)(disch:=first|(intros;contradiction)|omega)only[go_sem]<;>rfl)
    | false=>
     have hfix:Fix c V3:=⟨pg3.z,fun k i x y hi hx hy=>by
      have hk:=rv_in hl pg3.rv k x hx
      rw[hA4]at hk;exact⟨(pg3.same rfl).2 k y i x ⟨hk,hy⟩ hi hx,pg3.made k y ⟨hk,hy⟩⟩⟩
     refine⟨R3,E3,P3,V3,pg3.rel,pg3.rv,hfix,?_⟩
     clear ih;simp only[tbH,tbC];simp(maxSteps:=9^9)(disch:=first|(intros;contradiction)|omega)only[go_sem,hlt3,Bool.true_or]
end Go.Proofs.YticliodhjfednaaGreat
namespace Go.Proofs.YticliodhjfednaaGreat
open Go Go.Ab
variable {ext:Sem'}
def inT(c:Cd1)(V:Val)(a v:Int):Option (Rw×Rw):=if 0≤a∧a<c.ins.length∧0≤v∧v<c.vars.length then(V[a.toNat]?).getD none else none
def thereT(c:Cd1)(V:Val)(a v:Int):Bool:=match inT c V a v with
 | some x=>hasQ x.1 v.toNat
 | none=>false
def perT(c:Cd1)(V:Val)(a v:Int):Bool:=match inT c V a v with
 | some x=>hasQ x.2 v.toNat
 | none=>false
def isS{α:Type}:Option α→Bool
 | some _=>true
 | none=>false
section
variable {c:Cd1}{R:List Rw}{E P:List (Option Nat)}{V:Val}
theorem in_nil(hx:TX ext)(R:List Rw)(a v:Int):G ext 28 [.d .nilp,.d (.int .i64 a),.d (.int .i64 v)] [.reg (rgB R)]=some (.ret (.d (.bool false)),[.reg (rgB R)]):=by
 rw[G_body hx.clear rfl Tryz.func28 rfl Tryz.results28 hv_28 rfl];simp(maxSteps:=9^9)(disch:=first|(intros;contradiction)|omega)only[go_sem]
theorem there_nil(hx:TX ext)(R:List Rw)(a v:Int):G ext 11 [.d .nilp,.d (.int .i64 a),.d (.int .i64 v)] [.reg (rgB R)]=some (.ret (.d (.bool false)),[.reg (rgB R)]):=by
 have h:=in_nil hx R a v
 rw[G_body hx.clear rfl Tryz.func11 rfl Tryz.results11 hv_11 rfl];simp(maxSteps:=9^9)(disch:=first|(intros;contradiction)|omega)only[go_sem,h]
theorem per_nil(hx:TX ext)(R:List Rw)(a v:Int):G ext 12 [.d .nilp,.d (.int .i64 a),.d (.int .i64 v)] [.reg (rgB R)]=some (.ret (.d (.bool false)),[.reg (rgB R)]):=by
 have h:=in_nil hx R a v
 rw[G_body hx.clear rfl Tryz.func12 rfl Tryz.results12 hv_12 rfl];simp(maxSteps:=9^9)(disch:=first|(intros;contradiction)|omega)only[go_sem,h]
theorem gone_nil(hx:TX ext)(R:List Rw)(a:Int):G ext 13 [.d .nilp,.d (.int .i64 a)] [.reg (rgB R)]=some (.ret (.d (.sl [])),[.reg (rgB R)]):=by
 rw[G_body hx.clear rfl Tryz.func13 rfl Tryz.results13 hv_13 rfl];simp(maxSteps:=9^9)(disch:=first|(intros;contradiction)|omega)only[go_sem]
set_option maxHeartbeats 2000000 in
theorem in_e2(hx:TX ext)(hn:c.ins.length≤100000)(hv:c.vars.length≤60000)(hr:Rel (wOf c) c.ins.length R E P V)(a v:Int) :
  G ext 28 [.ptr 1 0,.d (.int .i64 a),.d (.int .i64 v)] (tbH R c c.ins.length (wOf c) E P)=some (.ret (.d (.bool (isS (inT c V a v)))),tbH R c c.ins.length (wOf c) E P):=by
 have hvl:(c.vars.map Vr1.row).length=c.vars.length:=List.length_map _
 rw[G_body hx.clear rfl Tryz.func28 rfl Tryz.results28 hv_28 rfl];simp only[tbH,tbC];unfold inT;by_cases h1:0≤a
 ·by_cases h2:a<c.ins.length
  ·have hal:a.toNat<V.length:=by rw[hr.lV];omega
   cases hz:V[a.toNat]? with
   | none=>rw[List.getElem?_eq_getElem hal]at hz;cases hz
   | some z=>
    cases z with
    | none=>
     have e1:=rws_at (W:=wOf c) (hr.none_ _ hz)
     simp only[rwV]at e1;have hq:isS (if 0≤a∧a<(c.ins.length:Int)∧0≤v∧v<(c.vars.length:Int)then(some (none:Option (Rw×Rw))).getD none else none)=false:=by split<;>rfl
     rw[hq];simp(maxSteps:=9^9)(disch:=first|(intros;contradiction)|omega)only[go_sem,h1,h2,hvl,e1,Nat.mul_one]
    | some z=>
     obtain⟨i,j,p1,p2,_⟩:=hr.some_ _ z hz
     have e1:=rws_at (W:=wOf c) p1
     simp only[rwV]at e1;by_cases h3:0≤v
     ·by_cases h4:v<c.vars.length
      ·rw[if_pos ⟨h1,h2,h3,h4⟩];simp(maxSteps:=9^9)(disch:=first|(intros;contradiction)|omega)only[go_sem,h1,h2,h3,h4,hvl,e1,Nat.mul_one]
       rfl
      ·rw[if_neg (fun h=>h4 h.2.2.2)]
       have h4:=eq_false h4
       simp(maxSteps:=9^9)(disch:=first|(intros;contradiction)|omega)only[go_sem,h1,h2,h3,h4,hvl,e1,Nat.mul_one]
       rfl
     ·rw[if_neg (fun h=>h3 h.2.2.1)]
      have h3:=eq_false h3
      simp(maxSteps:=9^9)(disch:=first|(intros;contradiction)|omega)only[go_sem,h1,h2,h3,hvl,e1,Nat.mul_one]
      rfl
  ·rw[if_neg (fun h=>h2 h.2.1)]
   have h2:=eq_false h2
   simp(maxSteps:=9^9)(disch:=first|(intros;contradiction)|omega)only[go_sem,h1,h2,hvl]
   rfl
 ·rw[if_neg (fun h=>h1 h.1)]
  have h1:=eq_false h1
  simp(maxSteps:=9^9)(disch:=first|(intros;contradiction)|omega)only[go_sem,h1,hvl]
  rfl
theorem there_e2(hx:TX ext)(hn:c.ins.length≤100000)(hv:c.vars.length≤60000)(hr:Rel (wOf c) c.ins.length R E P V)(a v:Int) :
  G ext 11 [.ptr 1 0,.d (.int .i64 a),.d (.int .i64 v)] (tbH R c c.ins.length (wOf c) E P)=some (.ret (.d (.bool (thereT c V a v))),tbH R c c.ins.length (wOf c) E P):=by
 have h:=in_e2 hx hn hv hr a v
 unfold thereT;rw[G_body hx.clear rfl Tryz.func11 rfl Tryz.results11 hv_11 rfl];simp only[tbH,tbC]at h ⊢
 cases hz:inT c V a v with
 | none=>
  rw[hz]at h;simp only[isS]at h;simp(maxSteps:=9^9)(disch:=first|(intros;contradiction)|omega)only[go_sem,h]
 | some x=>
  rw[hz]at h;simp only[isS]at h;unfold inT at hz;split at hz
  ·rename_i hc;obtain⟨c1,c2,c3,c4⟩:=hc
   have hal:a.toNat<V.length:=by rw[hr.lV];omega
   rw[List.getElem?_eq_getElem hal]at hz
   have hz:V[a.toNat]?=some (some x):=by rw[List.getElem?_eq_getElem hal];exact congrArg some hz
   obtain⟨i,j,p1,p2,p3,p4,p5,p6⟩:=hr.some_ _ x hz
   have e1:=rws_at (W:=wOf c) p1
   simp only[rwV]at e1;have hwv:c.vars.length≤64*wOf c:=by unfold wOf;omega
   have hwl:wOf c≤1000:=by unfold wOf;omega
   have hh:=has_e hx p3 v.toNat (by omega) (by omega) (by omega)
   rw[p5,Int.toNat_of_nonneg c3]at hh;simp(maxSteps:=9^9)(disch:=first|(intros;contradiction)|omega)only[go_sem,h,c1,c2,e1,hh,Nat.mul_one]
  ·cases hz
theorem per_e2(hx:TX ext)(hn:c.ins.length≤100000)(hv:c.vars.length≤60000)(hr:Rel (wOf c) c.ins.length R E P V)(a v:Int) :
  G ext 12 [.ptr 1 0,.d (.int .i64 a),.d (.int .i64 v)] (tbH R c c.ins.length (wOf c) E P)=some (.ret (.d (.bool (perT c V a v))),tbH R c c.ins.length (wOf c) E P):=by
 have h:=in_e2 hx hn hv hr a v
 unfold perT;rw[G_body hx.clear rfl Tryz.func12 rfl Tryz.results12 hv_12 rfl];simp only[tbH,tbC]at h ⊢
 cases hz:inT c V a v with
 | none=>
  rw[hz]at h;simp only[isS]at h;simp(maxSteps:=9^9)(disch:=first|(intros;contradiction)|omega)only[go_sem,h]
 | some x=>
  rw[hz]at h;simp only[isS]at h;unfold inT at hz;split at hz
  ·rename_i hc;obtain⟨c1,c2,c3,c4⟩:=hc
   have hal:a.toNat<V.length:=by rw[hr.lV];omega
   rw[List.getElem?_eq_getElem hal]at hz
   have hz:V[a.toNat]?=some (some x):=by rw[List.getElem?_eq_getElem hal];exact congrArg some hz
   obtain⟨i,j,p1,p2,p3,p4,p5,p6⟩:=hr.some_ _ x hz
   have e1:=rws_at (W:=wOf c) p2
   simp only[rwV]at e1;have hwv:c.vars.length≤64*wOf c:=by unfold wOf;omega
   have hwl:wOf c≤1000:=by unfold wOf;omega
   have hh:=has_e hx p4 v.toNat (by omega) (by omega) (by omega)
   rw[p6,Int.toNat_of_nonneg c3]at hh;simp(maxSteps:=9^9)(disch:=first|(intros;contradiction)|omega)only[go_sem,h,c1,c2,e1,hh,Nat.mul_one]
  ·cases hz
end
end Go.Proofs.YticliodhjfednaaGreat
namespace Go.Proofs.YticliodhjfednaaGreat
open Go Go.Ab
variable {ext:Sem'}
theorem ix_e(hx:TX ext)(l:List Int)(v:Int)(hl:l.length≤1000000):G ext 58 [.d (.sl (l.map rowI)),.d (.int .i64 v)] []=some (.ret (.d (.int .i64 (idxN (fun x=>decide (v=x)) l))),[]):=by
 have hll:(l.map rowI).length=l.length:=List.length_map _
 rw[G_body hx.clear rfl Tryz.func58 rfl Tryz.results58 hv_58 rfl];simp(maxSteps:=9^9)(disch:=first|(intros;contradiction)|omega)only[go_sem]
 generalize hL:loopA _ _ _=L;apply range_upd hL (by simp(maxSteps:=9^9)(disch:=first|(intros;contradiction)|omega)only[go_sem]<;>rfl) l rowI (α:=Unit) (fun rest k _=>idxP (fun x=>decide (v=x)) l=(idxP (fun x=>decide (v=x)) rest).map (·+k)) (fun k _=>[(8,.d (.int .i64 k))]) (fun _ _=>[]) () (by simp(maxSteps:=9^9)(disch:=first|(intros;contradiction)|omega)only[go_sem]<;>rfl) (by simp) ?_ ?_
 ·rintro x rest k _ q1 hlt hr hget hk _ next ih
  clear hL;simp only[rowI]at hr;by_cases e:x=v
  ·subst e;have hi:idxN (fun y=>decide (x=y)) l=k:=by unfold idxN;rw[q1];simp[idxP]
   simp(maxSteps:=9^9)(disch:=first|(intros;contradiction)|omega)only[go_sem,hlt,hr,hi]
  ·have e':=eq_false e
   have e2:¬v=x:=fun h=>e h.symm
   have e2':=eq_false e2
   simp(maxSteps:=9^9)(disch:=first|(intros;contradiction)|omega)only[go_sem,hlt,hr,e',e2',wrap64]
   exact ih () _ (by rw[q1];simp[idxP,e2,Function.comp_def];congr 1;funext n;omega) (by simp(maxSteps:=9^9)(disch:=first|(intros;contradiction)|omega)only[go_sem]<;>rfl)
 ·rintro k _ q1 hlt hk next
  clear hL;have hi:idxN (fun x=>decide (v=x)) l=-1:=by unfold idxN;rw[q1];simp[idxP]
  simp(maxSteps:=9^9)(disch:=first|(intros;contradiction)|omega)only[go_sem,hlt,hi]
theorem ct_e(hx:TX ext)(l:List Int)(v:Int)(hl:l.length≤1000000):G ext 59 [.d (.sl (l.map rowI)),.d (.int .i64 v)] []=some (.ret (.d (.bool (l.any fun x=>decide (v=x)))),[]):=by
 have h:=ix_e hx l v hl
 rw[←idxN_any];rw[G_body hx.clear rfl Tryz.func59 rfl Tryz.results59 hv_59 rfl];simp(maxSteps:=9^9)(disch:=first|(intros;contradiction)|omega)only[go_sem,h]
theorem idxN_bound(p:Int→Bool)(l:List Int):-1≤idxN p l∧idxN p l<(l.length:Int)∨l=[]∧idxN p l=-1:=by
 unfold idxN
 cases h:idxP p l with
 | none=>cases l with
  | nil=>exact .inr ⟨rfl,rfl⟩
  | cons x l=>exact .inl ⟨Int.le_refl _,by simp only[List.length_cons];omega⟩
 | some i=>have:=(idxP_some h).1;exact .inl ⟨by show(-1:Int)≤(i:Int);omega,by show(i:Int)<_;omega⟩
section
variable {c:Cd1}{R:List Rw}{E P:List (Option Nat)}{V:Val}
def dupAt(rs:List Int)(v:Int):Bool:=(rs.drop (idxN (fun x=>decide (v=x)) rs+1).toNat).any fun x=>decide (v=x)
def rightT(c:Cd1)(V:Val)(k:Nat)(i:In1):Bool:=(awayI i).all (fun v=>!dupAt (readsP i) v)&&(readsP i).all fun v=>thereT c V k v
def tbD(c:Cd1)(n i j:Nat):List AV:=[.d (.str c.name),.d (.int .i64 c.params),.d (.sl (c.vars.map Vr1.row)),.d (.bool c.ret.t.ptr),.d (.str c.ret.t.to),.d (.int .i64 c.ret.cls),.d (ints c.frm),.d (.sl (c.ins.map In1.row)),.arr i 0 n 1,.arr j 0 n 1]
theorem rt1_e(hx:TF ext)(h:CkF ext c)(hr:Rel (wOf c) c.ins.length R E P V)(k v:Int) :
  G ext 57 [.d (.int .i64 v),.ptr 1 0,.ptr 5 0] [.reg (rgB R),.cells [.ptr 2 0],.cells (tbD c c.ins.length 3 4),.cells (rws (wOf c) E),.cells (rws (wOf c) P),.cells [.d (.int .i64 k)]]
   = some (.ret (.d (.bool (thereT c V k v))),[.reg (rgB R),.cells [.ptr 2 0],.cells (tbD c c.ins.length 3 4),.cells (rws (wOf c) E),.cells (rws (wOf c) P),.cells [.d (.int .i64 k)]]):=by
 have ht:=there_e2 hx.toTX h.nl h.v hr k v
 simp only[tbH,tbC]at ht;rw[G_body hx.clear rfl Tryz.func57 rfl Tryz.results57 hv_57 rfl];simp only[tbD];simp(maxSteps:=9^9)(disch:=first|(intros;contradiction)|omega)only[go_sem,ht]
def rtH(c:Cd1)(R:List Rw)(E P:List (Option Nat))(k:Int):List AObj:=[.reg (rgB R),.cells [.fn 57 [] [.ptr 2 0,.ptr 6 0]],.cells [.ptr 3 0],.cells (tbD c c.ins.length 4 5),.cells (rws (wOf c) E),.cells (rws (wOf c) P),.cells [.d (.int .i64 k)]]
theorem rt2_e(hx:TF ext)(h:CkF ext c)(hr:Rel (wOf c) c.ins.length R E P V)(k v:Int) :
  G ext 61 [.d (.int .i64 v),.ptr 1 0] (rtH c R E P k)=some (.ret (.d (.bool (!thereT c V k v))),rtH c R E P k):=by
 have ht:=rt1_e hx h hr k v
 simp only[tbD]at ht;rw[G_body hx.clear rfl Tryz.func61 rfl Tryz.results61 hv_61 rfl];simp only[rtH,tbD];simp(maxSteps:=9^9)(disch:=first|(intros;contradiction)|omega)only[go_sem,ht]
theorem rtx_e(hx:TF ext)(h:CkF ext c)(hr:Rel (wOf c) c.ins.length R E P V)(k:Int)(l:List Int)(hl:l.length≤1000000) :
  G ext 101 [.d (.sl (l.map rowI)),.fn 61 [] [.ptr 1 0]] (rtH c R E P k)=some (.ret (.d (.int .i64 (idxN (fun v=>!thereT c V k v) l))),rtH c R E P k):=by
 have hll:(l.map rowI).length=l.length:=List.length_map _
 have ht:=fun v=>rt2_e hx h hr k v
 simp only[rtH,tbD]at ht;rw[G_body hx.clear rfl Tryz.func101 rfl Tryz.results101 hv_101 rfl];simp only[rtH,tbD];simp(maxSteps:=9^9)(disch:=first|(intros;contradiction)|omega)only[go_sem]
 generalize hL:loopA _ _ _=L;apply range_upd hL (by simp(maxSteps:=9^9)(disch:=first|(intros;contradiction)|omega)only[go_sem]<;>rfl) l rowI (α:=Unit) (fun rest q _=>idxP (fun v=>!thereT c V k v) l=(idxP (fun v=>!thereT c V k v) rest).map (·+q)) (fun q _=>[(8,.d (.int .i64 q))]) (fun _ _=>[]) () (by simp(maxSteps:=9^9)(disch:=first|(intros;contradiction)|omega)only[go_sem]<;>rfl) (by simp) ?_ ?_
 ·rintro x rest q _ q1 hlt hr2 hget hk _ next ih
  clear hL;simp only[rowI]at hr2;have ht:=ht x
  cases e:thereT c V k x with
  | false=>
   rw[e]at ht;have hi:idxN (fun v=>!thereT c V k v) l=q:=by unfold idxN;rw[q1];simp[idxP,e]
   simp(maxSteps:=9^9)(disch:=first|(intros;contradiction)|omega)only[go_sem,hlt,hr2,hi,ht]
  | true=>
   rw[e]at ht;simp(maxSteps:=9^9)(disch:=first|(intros;contradiction)|omega)only[go_sem,hlt,hr2,ht,wrap64]
   exact ih () _ (by rw[q1];simp[idxP,e,Function.comp_def];congr 1;funext n;omega) (by simp(maxSteps:=9^9)(disch:=first|(intros;contradiction)|omega)only[go_sem]<;>rfl)
 ·rintro q _ q1 hlt hk next
  clear hL;have hi:idxN (fun v=>!thereT c V k v) l=-1:=by unfold idxN;rw[q1];simp[idxP]
  simp(maxSteps:=9^9)(disch:=first|(intros;contradiction)|omega)only[go_sem,hlt,hi]
theorem rtc_e(hx:TF ext)(h:CkF ext c)(hr:Rel (wOf c) c.ins.length R E P V)(k:Int)(l:List Int)(hl:l.length≤1000000) :
  G ext 60 [.d (.sl (l.map rowI)),.fn 61 [] [.ptr 1 0]] (rtH c R E P k)=some (.ret (.d (.bool (l.any fun v=>!thereT c V k v))),rtH c R E P k):=by
 have ht:=rtx_e hx h hr k l hl
 rw[←idxN_any];simp only[rtH,tbD]at ht;rw[G_body hx.clear rfl Tryz.func60 rfl Tryz.results60 hv_60 rfl];simp only[rtH,tbD];simp(maxSteps:=9^9)(disch:=first|(intros;contradiction)|omega)only[go_sem,ht]
theorem mright_e(hx:TF ext)(h:CkF ext c)(hr:Rel (wOf c) c.ins.length R E P V)(k:Nat){i:In1}(hi:c.ins[k]?=some i)(hrl:i.args.length≤1000) :
  G ext 32 [.ptr 1 0,.d (.int .i64 k)] (tbH R c c.ins.length (wOf c) E P)=some (.ret (.d (.bool (rightT c V k i))),tbH R c c.ins.length (wOf c) E P):=by
 have hn:=h.nl
 have hv:=h.v
 obtain⟨u1,u2,u3,u4⟩:=h.ins k i hi
 have hrd:=reads_e hx.toTX i hrl
 have haw:=away_e hx R c c.ins.length (wOf c) E P k hi (by omega) u1 u2
 rw[show ints (awayI i)=.sl ((awayI i).map rowI)from rfl]at haw
 have hi2:(c.ins.map In1.row)[k]?=some i.row:=by rw[List.getElem?_map,hi];rfl
 have hl2:(k:Int)<((c.ins.map In1.row).length:Int):=by rw[List.length_map];have:=(List.getElem?_eq_some_iff.1 hi).1;omega
 simp only[tbH,tbC]at haw;simp only[In1.av]at hrd;simp only[In1.row]at hi2;rw[G_body hx.clear rfl Tryz.func32 rfl Tryz.results32 hv_32 rfl];simp only[tbH,tbC];have hc:=rtc_e hx h hr k (readsP i) (by have:=reads_len i;omega)
 simp only[rtH,tbD]at hc;have hrl2:(readsP i).length≤1002:=by have:=reads_len i;omega
 have hrl3:((readsP i).map rowI).length=(readsP i).length:=List.length_map _
 have hal:(awayI i).length≤1000:=by have:=gives_len (usesL i);unfold awayI;omega
 have hal2:((awayI i).map rowI).length=(awayI i).length:=List.length_map _
 simp(maxSteps:=9^9)(disch:=first|(intros;contradiction)|omega)only[go_sem,hi2,hl2,hrd,haw]
 generalize hL:loopA _ _ _=L;apply range_upd hL (by simp(maxSteps:=9^9)(disch:=first|(intros;contradiction)|omega)only[go_sem]<;>rfl) (awayI i) rowI (α:=Unit) (fun rest q _=>(awayI i).all (fun v=>!dupAt (readsP i) v)=rest.all fun v=>!dupAt (readsP i) v) (fun q _=>[(24,.d (.int .i64 q))]) (fun _ _=>[]) () (by simp(maxSteps:=9^9)(disch:=first|(intros;contradiction)|omega)only[go_sem]<;>rfl) rfl ?_ ?_
 ·rintro v rest q _ q1 hlt hr2 hget hk _ next ih
  clear hL;simp only[rowI]at hr2;have hix:=ix_e hx.toTX (readsP i) v (by omega)
  have hb:=idxN_bound (fun x=>decide (v=x)) (readsP i)
  generalize hj:idxN (fun x=>decide (v=x)) (readsP i)=j at hix hb
  have j1:0≤j+1:=by omega
  have j2:j+1≤((readsP i).length:Int):=by omega
  have hct:=ct_e hx.toTX ((readsP i).drop (j+1).toNat) v (by simp;omega)
  have hdm:((readsP i).map rowI).drop (j+1).toNat=((readsP i).drop (j+1).toNat).map rowI:=List.map_drop.symm
  have hfi:fits 1 ((readsP i).map rowI):=by intro row h;obtain⟨x,_,rfl⟩:=List.mem_map.1 h;rfl
  have hdu:dupAt (readsP i) v=((readsP i).drop (j+1).toNat).any fun x=>decide (v=x):=by unfold dupAt;rw[hj]
  rw[←hdu]at hct
  cases hd:dupAt (readsP i) v with
  | true=>
   have hre:rightT c V k i=false:=by unfold rightT;rw[q1];simp[hd]
   rw[hd]at hct;simp(maxSteps:=9^9)(disch:=first|(intros;contradiction)|omega)only[go_sem,hlt,hr2,hix,j1,j2,hdm,hfi,hct,hre,hrl3,wrap64]
  | false=>
   rw[hd]at hct;simp(maxSteps:=9^9)(disch:=first|(intros;contradiction)|omega)only[go_sem,hlt,hr2,hix,j1,j2,hdm,hfi,hct,hrl3,wrap64]
   exact ih () _ (by rw[q1];simp[hd]) (by simp(maxSteps:=9^9)(disch:=first|(intros;contradiction)|omega)only[go_sem]<;>rfl)
 ·rintro q _ q1 hlt hk next
  clear hL
  have hre:rightT c V k i=!((readsP i).any fun v=>!thereT c V k v):=by
   unfold rightT;rw[q1];simp[List.all_eq_not_any_not]
  simp(maxSteps:=9^9)(disch:=first|(intros;contradiction)|omega)only[go_sem,hlt,hc,hre]
end
end Go.Proofs.YticliodhjfednaaGreat
namespace Go.Proofs.YticliodhjfednaaGreat
def trI(i:In1)(v:Nat)(b:Bool):Bool:=if hasD i.op=true∧i.d=v then true else if(v:Int)∈awayI i then false else b
inductive Rch (c:Cd1):Nat→Prop
 | zero:Rch c 0
 | step {k y:Nat} {i:In1} (h:Rch c k) (hi:c.ins[k]?=some i) (hy:(y:Int)∈nxC c k):Rch c y
inductive Can (c:Cd1) (v:Nat):Nat→Bool→Prop
 | zero:Can c v 0 (decide (v<c.params.toNat))
 | step {k y:Nat} {i:In1} {b:Bool} (h:Can c v k b) (hi:c.ins[k]?=some i) (hy:(y:Int)∈nxC c k):Can c v y (trI i v b)
theorem clr_bit(w:BitVec 64)(k i:Nat)(hi:i<64):(clrW w k).getLsbD i=(if k=i then false else w.getLsbD i):=by
 unfold clrW;rw[BitVec.getLsbD_and,BitVec.getLsbD_not,BitVec.getLsbD_shiftLeft];by_cases h:k=i
 ·subst h;simp[hi]
 ·rw[if_neg h];by_cases h2:i<k
  ·simp[hi,h2]
  ·have:(1#64).getLsbD (i-k)=false:=by rw[BitVec.getLsbD_one];simp;omega
   simp[hi,h2,this]
theorem set_bit(w:BitVec 64)(k i:Nat)(hi:i<64):(setW w k).getLsbD i=(if k=i then true else w.getLsbD i):=by
 unfold setW;rw[BitVec.getLsbD_or,BitVec.getLsbD_shiftLeft];by_cases h:k=i
 ·subst h;simp[hi]
 ·rw[if_neg h];by_cases h2:i<k
  ·simp[hi,h2]
  ·have:(1#64).getLsbD (i-k)=false:=by rw[BitVec.getLsbD_one];simp;omega
   simp[hi,h2,this]
theorem has_put{r:Rw}{u v:Nat}{b:Bool}(hu:u<64*r.length):hasQ (putB r u b) v=if u=v then b else hasQ r v:=by
 unfold hasQ putB;have hul:u/64<r.length:=by omega
 rw[getD_set hul];by_cases h1:u/64=v/64
 ·rw[if_pos h1,h1];have hm:v%64<64:=Nat.mod_lt _ (by omega)
  cases b with
  | false=>
   rw[if_neg (by decide),clr_bit _ _ _ hm]
   by_cases h2:u=v
   ·subst h2;simp
   ·rw[if_neg h2,if_neg (by omega)]
  | true=>
   rw[if_pos rfl,set_bit _ _ _ hm,clr_bit _ _ _ hm];by_cases h2:u=v
   ·subst h2;simp
   ·rw[if_neg h2,if_neg (by omega),if_neg (by omega)]
 ·rw[if_neg h1,if_neg (by omega)]
theorem has_clrs{v:Nat}:∀ (l:List Int) (r:Rw),(∀ u,u∈l→0≤u∧u<64*(r.length:Int))→hasQ (clrs r l) v=if(v:Int)∈l then false else hasQ r v
 | [],r,_=>by simp[clrs]
 | u::l,r,h=>by
  obtain⟨u0,u1⟩:=h u (.head _)
  rw[clrs,has_clrs l _ (fun w hw=>by rw[putB_len];exact h w (.tail _ hw)),has_put (by omega)]
  by_cases h1:(v:Int)∈l
  ·rw[if_pos h1,if_pos (.tail _ h1)]
  ·rw[if_neg h1];by_cases h2:u.toNat=v
   ·rw[if_pos h2,if_pos (by rw[show(v:Int)=u by omega];exact .head _)]
   ·rw[if_neg h2,if_neg];intro hm;rcases List.mem_cons.1 hm with e|e
    ·omega
    ·exact h1 e
theorem has_beh{r:Rw}{i:In1}{v:Nat}(ha:∀ u,u∈awayI i→0≤u∧u<64*(r.length:Int))(hd:hasD i.op=true→0≤i.d∧i.d<64*(r.length:Int)):hasQ (behB i (awayI i) r) v=trI i v (hasQ r v):=by
 unfold behB trI
 cases h:hasD i.op with
 | false=>simp[has_clrs _ _ ha]
 | true=>
  obtain⟨d0,d1⟩:=hd h
  rw[if_pos rfl,has_put (by rw[clrs_len];omega),has_clrs _ _ ha]
  by_cases e:i.d=v
  ·rw[if_pos (by omega),if_pos ⟨rfl,e⟩]
  ·have hne:¬(true=true∧i.d=(v:Int)):=fun q=>e q.2
   rw[if_neg (show ¬i.d.toNat=v by omega),if_neg hne]
theorem has_and{a b:Rw}{v:Nat}(h:b.length=a.length)(hv:v<64*a.length):hasQ (andL a b) v=(hasQ a v&&hasQ b v):=by
 unfold hasQ andL;rw[zip_getD (by omega) (by omega),BitVec.getLsbD_and]
theorem has_or{a b:Rw}{v:Nat}(h:b.length=a.length)(hv:v<64*a.length):hasQ (orL a b) v=(hasQ a v||hasQ b v):=by
 unfold hasQ orL;rw[zip_getD (by omega) (by omega),BitVec.getLsbD_or]
theorem has_par(W v:Nat):∀ k,k≤64*W→hasQ (parB W k) v=decide (v<k)
 | 0,_=>by
  unfold hasQ parB;rw[List.getD_eq_getElem?_getD,List.getElem?_replicate]
  split<;>simp
 | k+1,h=>by
  rw[parB,has_put (by rw[parB_len];omega),has_par W v k (by omega)]
  by_cases e:k=v
  ·subst e;simp
  ·rw[if_neg e,decide_eq_decide];omega
structure Cd0(c:Cd1):Prop where
 n:0<c.ins.length
 inr:inrC c
 par:c.params.toNat≤64*wOf c
 ins:∀ (k:Nat) (i:In1),c.ins[k]?=some i→(∀ v,v∈awayI i→0≤v∧v<64*(wOf c:Int))∧(hasD i.op=true→0≤i.d∧i.d<64*(wOf c:Int))
theorem rv_len{c:Cd1}{V:Val}(h:Rv c V):V.length=c.ins.length∧∀ (k:Nat) (x:Rw×Rw),V[k]?=some (some x)→x.1.length=wOf c∧x.2.length=wOf c:=by
 induction h with
 | zero=>
  refine⟨by simp[of0],fun k x hk=>?_⟩
  unfold of0 at hk;rw[List.getElem?_set]at hk
  split at hk
  ·split at hk
   ·simp at hk;subst hk;exact⟨parB_len _ _,parB_len _ _⟩
   ·cases hk
  ·rw[List.getElem?_replicate]at hk
   split at hk<;>simp at hk
 | step hv hi hx hy ih=>
  rename_i V k y i x;obtain⟨l1,l2⟩:=ih
  refine⟨by rw[step_len];exact l1,fun k' z hk'=>?_⟩
  obtain⟨x1,x2⟩:=l2 k x hx
  unfold stepV at hk';split at hk'
  ·rename_i z0 hz;obtain⟨z1,z2⟩:=l2 y z0 hz
   simp only[List.getElem?_set]at hk'
   split at hk'
   ·split at hk'
    ·simp at hk';subst hk';exact⟨by rw[andL_len (by rw[behB_len];omega)];exact z1,by rw[orL_len (by rw[behB_len];omega)];exact z2⟩
    ·cases hk'
   ·exact l2 k' z hk'
  ·simp only[List.getElem?_set]at hk'
   split at hk'
   ·split at hk'
    ·simp at hk';subst hk';exact⟨by rw[behB_len];exact x1,by rw[behB_len];exact x2⟩
    ·cases hk'
   ·exact l2 k' z hk'
theorem can_ex{c:Cd1}{v k:Nat}(h:Rch c k):∃ b,Can c v k b:=by
 induction h with
 | zero=>exact⟨_,.zero⟩
 | step h hi hy ih=>
  obtain⟨b,hb⟩:=ih
  exact⟨_,.step hb hi hy⟩
theorem can_tr{c:Cd1}{v k y:Nat}{i:In1}(hr:Rch c k)(hi:c.ins[k]?=some i)(hy:(y:Int)∈nxC c k){B b:Bool}(h:trI i v B=b)(hc:B=b→Can c v k b):Can c v y b:=by
 obtain⟨b0,hb0⟩:=can_ex (v:=v) hr
 have h0:=Can.step hb0 hi hy
 unfold trI at h;by_cases h1:hasD i.op=true∧i.d=(v:Int)
 ·rw[if_pos h1]at h;have e:trI i v b0=true:=by unfold trI;rw[if_pos h1]
  rw[e]at h0;rw[←h];exact h0
 ·rw[if_neg h1]at h;by_cases h2:(v:Int)∈awayI i
  ·rw[if_pos h2]at h;have e:trI i v b0=false:=by unfold trI;rw[if_neg h1,if_pos h2]
   rw[e]at h0;rw[←h];exact h0
  ·rw[if_neg h2]at h;have h3:=Can.step (hc h) hi hy
   have e:trI i v b=b:=by unfold trI;rw[if_neg h1,if_neg h2]
   rw[e]at h3;exact h3
theorem rv_sound{c:Cd1}(h0:Cd0 c){V:Val}(h:Rv c V):∀ (k:Nat) (x:Rw×Rw),V[k]?=some (some x)→Rch c k∧∀ v,v<64*wOf c→(hasQ x.2 v=true→Can c v k true)∧(hasQ x.1 v=false→Can c v k false):=by
 induction h with
 | zero=>
  intro k x hk;unfold of0 at hk;rw[List.getElem?_set]at hk
  split at hk
  ·split at hk
   ·simp at hk;subst hk;rename_i e _;subst e;refine⟨.zero,fun v hv=>⟨fun q=>?_,fun q=>?_⟩⟩
    ·rw[has_par _ _ _ h0.par]at q;rw[←q];exact .zero
    ·rw[has_par _ _ _ h0.par]at q;rw[←q];exact .zero
   ·cases hk
  ·rw[List.getElem?_replicate]at hk
   split at hk<;>simp at hk
 | step hv hi hx hy ih=>
  rename_i V k y i x;obtain⟨i1,i2⟩:=h0.ins k i hi
  obtain⟨l1,l2⟩:=rv_len hv
  obtain⟨x1,x2⟩:=l2 k x hx
  obtain⟨r1,r2⟩:=ih k x hx
  have hbe:∀ v,v<64*wOf c→(hasQ (behB i (awayI i) x.2) v=true→Can c v y true)∧(hasQ (behB i (awayI i) x.1) v=false→Can c v y false):=fun v hv=>by
   refine⟨fun q=>?_,fun q=>?_⟩
   ·rw[has_beh (by rw[x2];exact i1) (by rw[x2];exact i2)]at q
    exact can_tr r1 hi hy q (r2 v hv).1
   ·rw[has_beh (by rw[x1];exact i1) (by rw[x1];exact i2)]at q
    exact can_tr r1 hi hy q (r2 v hv).2
  intro k' z hk';unfold stepV at hk';split at hk'
  ·rename_i z0 hz;obtain⟨z1,z2⟩:=l2 y z0 hz
   simp only[List.getElem?_set]at hk'
   split at hk'
   ·rename_i e;subst e;split at hk'
    ·simp at hk';subst hk';refine⟨.step r1 hi hy,fun v hv=>?_⟩
     obtain⟨_,s2⟩:=ih y z0 hz
     simp only
     rw[has_or (by rw[behB_len];omega) (by omega),has_and (by rw[behB_len];omega) (by omega)]
     refine⟨fun q=>?_,fun q=>?_⟩
     ·rw[Bool.or_eq_true]at q;exact q.elim (s2 v hv).1 (hbe v hv).1
     ·rw[Bool.and_eq_false_iff]at q;exact q.elim (s2 v hv).2 (hbe v hv).2
    ·cases hk'
   ·exact ih k' z hk'
  ·simp only[List.getElem?_set]at hk'
   split at hk'
   ·rename_i e;subst e;split at hk'
    ·simp at hk';subst hk';exact⟨.step r1 hi hy,hbe⟩
    ·cases hk'
   ·exact ih k' z hk'
theorem rv_zero{c:Cd1}(h0:Cd0 c){V:Val}(h:Rv c V):∃ x,V[0]?=some (some x)∧∀ v,v<64*wOf c→(v<c.params.toNat→hasQ x.2 v=true)∧(¬v<c.params.toNat→hasQ x.1 v=false):=by
 induction h with
 | zero=>
  have:=h0.n
  refine⟨_,by unfold of0;exact List.getElem?_set_self (by simpa using this),fun v hv=>?_⟩
  simp only
  rw[has_par _ _ _ h0.par];simp
 | step hv hi hx hy ih=>
  rename_i V k y i x;obtain⟨u,hu,h1⟩:=ih
  obtain⟨l1,l2⟩:=rv_len hv
  obtain⟨x1,x2⟩:=l2 k x hx
  obtain⟨u1,u2⟩:=l2 0 u hu
  have hl0:=(List.getElem?_eq_some_iff.1 hu).1
  by_cases e:y=0
  ·subst e;refine⟨_,by unfold stepV;rw[hu];exact List.getElem?_set_self hl0,fun v hv=>?_⟩
   simp only
   rw[has_or (by rw[behB_len];omega) (by omega),has_and (by rw[behB_len];omega) (by omega)]
   exact⟨fun q=>by rw[(h1 v hv).1 q];rfl,fun q=>by rw[(h1 v hv).2 q];rfl⟩
  ·refine⟨u,?_,h1⟩
   unfold stepV;split<;>(simp only;rw[List.getElem?_set_ne e];exact hu)
theorem fix_step{c:Cd1}(h0:Cd0 c){V:Val}(hr:Rv c V)(hf:Fix c V){k y:Nat}{i:In1}{x:Rw×Rw}(hi:c.ins[k]?=some i)(hx:V[k]?=some (some x))(hy:(y:Int)∈nxC c k) :
  ∃ z,V[y]?=some (some z)∧∀ v,v<64*wOf c→(trI i v (hasQ x.2 v)=true→hasQ z.2 v=true)∧(trI i v (hasQ x.1 v)=false→hasQ z.1 v=false):=by
 obtain⟨h1,z,hz⟩:=hf.2 k i x y hi hx hy
 obtain⟨l1,l2⟩:=rv_len hr
 obtain⟨x1,x2⟩:=l2 k x hx
 obtain⟨z1,z2⟩:=l2 y z hz
 obtain⟨i1,i2⟩:=h0.ins k i hi
 unfold stepV at h1;rw[hz]at h1;obtain⟨m1,m2⟩:=meet_same (by rw[behB_len];omega) (by omega) (by rw[behB_len];omega) h1
 refine⟨z,hz,fun v hv=>?_⟩
 have e1:=has_and (a:=z.1) (b:=behB i (awayI i) x.1) (v:=v) (by rw[behB_len];omega) (by omega)
 have e2:=has_or (a:=z.2) (b:=behB i (awayI i) x.2) (v:=v) (by rw[behB_len];omega) (by omega)
 rw[m1,has_beh (by rw[x1];exact i1) (by rw[x1];exact i2)]at e1
 rw[m2,has_beh (by rw[x2];exact i1) (by rw[x2];exact i2)]at e2
 refine⟨fun q=>?_,fun q=>?_⟩
 ·rw[q]at e2;rw[e2];simp
 ·rw[q]at e1;rw[e1];simp
theorem fix_all{c:Cd1}(h0:Cd0 c){V:Val}(hr:Rv c V)(hf:Fix c V){k:Nat}(h:Rch c k):∃ x,V[k]?=some (some x):=by
 induction h with
 | zero=>exact hf.1
 | step h hi hy ih=>
  obtain⟨x,hx⟩:=ih
  exact(hf.2 _ _ x _ hi hx hy).2
theorem fix_can{c:Cd1}(h0:Cd0 c){V:Val}(hr:Rv c V)(hf:Fix c V){v k:Nat}{b:Bool}(hv:v<64*wOf c)(h:Can c v k b):∃ x,V[k]?=some (some x)∧(b=true→hasQ x.2 v=true)∧(b=false→hasQ x.1 v=false):=by
 induction h with
 | zero=>
  obtain⟨x,hx,h1⟩:=rv_zero h0 hr
  refine⟨x,hx,fun e=>(h1 v hv).1 (by simpa using e),fun e=>(h1 v hv).2 (by simpa using e)⟩
 | step h hi hy ih=>
  rename_i k y i b;obtain⟨x,hx,h1,h2⟩:=ih
  obtain⟨z,hz,h3⟩:=fix_step h0 hr hf hi hx hy
  refine⟨z,hz,fun e=>(h3 v hv).1 ?_,fun e=>(h3 v hv).2 ?_⟩
  ·unfold trI at e ⊢;split
   ·rfl
   ·rename_i g1;rw[if_neg g1]at e;split
    ·rename_i g2;rw[if_pos g2]at e;exact e
    ·rename_i g2;rw[if_neg g2]at e;exact h1 e
  ·unfold trI at e ⊢;split
   ·rename_i g1;rw[if_pos g1]at e;exact e
   ·rename_i g1;rw[if_neg g1]at e;split
    ·rfl
    ·rename_i g2;rw[if_neg g2]at e;exact h2 e
theorem tab_says{c:Cd1}(h0:Cd0 c){V:Val}(hr:Rv c V)(hf:Fix c V)(k:Nat):((∃ x,V[k]?=some (some x))↔Rch c k)∧∀ (x:Rw×Rw),V[k]?=some (some x)→∀ v,v<64*wOf c→(hasQ x.2 v=true↔Can c v k true)∧(hasQ x.1 v=false↔Can c v k false):=by
 refine⟨⟨fun⟨x,hx⟩=>(rv_sound h0 hr k x hx).1,fix_all h0 hr hf⟩,fun x hx v hv=>?_⟩
 have hs:=(rv_sound h0 hr k x hx).2 v hv
 refine⟨⟨hs.1,fun q=>?_⟩,⟨hs.2,fun q=>?_⟩⟩
 ·obtain⟨z,hz,h1,_⟩:=fix_can h0 hr hf hv q
  rw[hx]at hz;cases hz;exact h1 rfl
 ·obtain⟨z,hz,_,h2⟩:=fix_can h0 hr hf hv q
  rw[hx]at hz;cases hz;exact h2 rfl
end Go.Proofs.YticliodhjfednaaGreat
namespace Go.Proofs.YticliodhjfednaaGreat
open Go Go.Ab
variable {ext:Sem'}
theorem usesL_len(i:In1):(usesL i).length≤2+i.mode.length+i.args.length:=by
 have h1:=byAll_len i.a i.mode
 have h2:=zipBy_len (i.args.zip i.mode)
 rw[List.length_zip]at h2;have h3:=byP_len (modeAt i 0) 2 i.a
 unfold usesL;repeat' split
 all_goals (try simp only[List.length_cons,List.length_nil])
 all_goals omega
theorem gives_mem:∀ {l:List (Int×Int)} {v:Int},v∈givesL l→(v,(3:Int))∈l
 | (u,k)::l,v,h=>by
  unfold givesL at h;split at h
  ·rename_i e;subst e;rcases List.mem_cons.1 h with rfl|h
   ·exact .head _
   ·exact .tail _ (gives_mem h)
  ·exact .tail _ (gives_mem h)
theorem code_last{m:Md1}{c:Cd1}(h:codeP m c=0):16≤lastOp c:=by
 unfold codeP at h;split at h
 ·cases h
 ·split at h
  ·cases h
  ·split at h
   ·unfold unlessP at h;split at h
    ·rename_i h5;simpa using h5
    ·cases h
   ·rename_i h4;exact absurd h h4
theorem nx_in{m:Md1}{c:Cd1}(h:codeP m c=0):inrC c:=by
 obtain⟨_,_,h1,h2⟩:=code_ins h
 have hlast:=code_last h
 intro a ha y hy;have hg:c.ins[a]?=some c.ins[a]:=List.getElem?_eq_getElem ha
 have hi:=h2 c.ins[a] (List.getElem_mem ha)
 unfold nxC at hy;rw[hg]at hy;simp only at hy
 generalize c.ins[a]=i at hi hy hg;obtain⟨⟨o1,o2⟩,_⟩:=instr_uses hi
 unfold nxtI at hy;unfold instrP at hi;split at hi
 ·cases hi
 ·split at hi
  ·cases hi
  ·split at hi
   ·rename_i e;rw[if_neg (by omega),if_neg (by omega),if_neg (by omega)]at hy
    simp at hy;refine⟨by omega,?_⟩
    by_cases hl:a=c.ins.length-1
    ·unfold lastOp at hlast;rw[←hl,hg]at hlast;simp at hlast;omega
    ·omega
   ·split at hi
    ·rename_i e;rw[if_pos e]at hy;simp at hy;subst hy;unfold unlessP at hi;split at hi
     ·rename_i hq;simpa[lineIn]using hq
     ·cases hi
    ·split at hi
     ·rename_i e;rw[if_neg (by omega),if_pos e]at hy
      split at hi
      ·cases hi
      ·rename_i hq;simp[lineIn]at hq;split at hy
       ·simp at hy;subst hy;omega
       ·simp at hy;rcases hy with rfl|rfl<;>omega
     ·split at hi
      ·rename_i e;rw[if_neg (by omega),if_neg (by omega),if_pos e]at hy
       cases hy
      ·rename_i e1 e2 e3;rw[if_neg (by omega),if_neg (by omega),if_neg (by omega)]at hy
       simp at hy;refine⟨by omega,?_⟩
       by_cases hl:a=c.ins.length-1
       ·unfold lastOp at hlast;rw[←hl,hg]at hlast;simp at hlast;omega
       ·omega
theorem cd_ok(hx:TX ext){m:Md1}(hm:LightM m)(h:formedP m=0){c:Cd1}(hc:c∈m.funcs):CkF ext c:=by
 obtain⟨hri,_,hforms⟩:=formedP_zero h
 obtain⟨_,_,hcodes⟩:=right_codes hri
 have hco:=hcodes c hc
 obtain⟨k1,k2,k3,k4⟩:=code_ins hco
 obtain⟨l1,l2,_,_⟩:=hm.vars c hc
 have hw:(c.vars.length:Int)≤64*(wOf c:Int):=by unfold wOf;omega
 refine⟨by omega,by omega,by omega,k1,k2,nx_in hco,fun k i hi=>?_⟩
 have hmem:=List.mem_of_getElem? hi
 obtain⟨a1,a2,_⟩:=hm.ins c hc i hmem
 obtain⟨f1,f2⟩:=formed_in h hc hmem
 refine⟨by have:=usesL_len i;omega,tInstr_e hx m hm h hc hmem,fun v hv=>?_,fun hd=>?_⟩
 ·have:=use_in f1 f2 (gives_mem hv)
  unfold inV at this;simp at this;omega
 ·have:=(uses_vars (instr_uses f1).2).d hd
  unfold inV at this;simp at this;omega
theorem CkF.cd0{c:Cd1}(h:CkF ext c):Cd0 c:=by
 have h1:=h.p0
 have h2:=h.p1
 have hw:c.vars.length≤64*wOf c:=by unfold wOf;omega
 exact⟨h.n,h.inr,by omega,fun k i hi=>(h.ins k i hi).2.2⟩
def okI(c:Cd1)(k:Nat)(i:In1):Prop:=Rch c k→(∀ v,v∈awayI i→dupAt (readsP i) v=false)∧∀ v,v∈readsP i→0≤v∧v<c.vars.length∧¬Can c v.toNat k false
theorem ok_right{c:Cd1}(h0:Cd0 c){V:Val}(hr:Rv c V)(hf:Fix c V){k:Nat}{i:In1}(hi:c.ins[k]?=some i){x:Rw×Rw}(hx:V[k]?=some (some x)):rightT c V k i=true↔okI c k i:=by
 have hk:=(List.getElem?_eq_some_iff.1 hi).1
 obtain⟨t1,t2⟩:=tab_says h0 hr hf k
 have hrch:=t1.1 ⟨x,hx⟩
 have hw:c.vars.length≤64*wOf c:=by unfold wOf;omega
 have hth:∀ v:Int,thereT c V k v=true↔0≤v∧v<c.vars.length∧¬Can c v.toNat k false:=by
  intro v;unfold thereT inT;by_cases h1:0≤v∧v<c.vars.length
  ·rw[if_pos ⟨by omega,by omega,h1.1,h1.2⟩,Int.toNat_natCast,hx]
   simp only[Option.getD_some];have:=(t2 x hx v.toNat (by omega)).2
   rw[←this];simp[h1]
  ·rw[if_neg (fun q=>h1 ⟨q.2.2.1,q.2.2.2⟩)]
   simp only[Bool.false_eq_true,false_iff];exact fun q=>h1 ⟨q.1,q.2.1⟩
 unfold rightT okI;rw[Bool.and_eq_true,List.all_eq_true,List.all_eq_true];constructor
 ·rintro⟨q1,q2⟩ _
  exact⟨fun v hv=>by have:=q1 v hv;simpa using this,fun v hv=>(hth v).1 (q2 v hv)⟩
 ·intro q;obtain⟨q1,q2⟩:=q hrch
  exact⟨fun v hv=>by rw[q1 v hv];rfl,fun v hv=>(hth v).2 (q2 v hv)⟩
end Go.Proofs.YticliodhjfednaaGreat
namespace Go.Proofs.YticliodhjfednaaGreat
open Go Go.Ab
variable {ext:Sem'}
structure TG(ext:Sem'):Prop extends TF ext where
 tm:TM ext
 chk:∀ xs H,ext 16 xs H=none
open Classical in
noncomputable def badK(c:Cd1):List In1→Nat→Option Nat
 | [],_=>none
 | i::l,k=>if okI c k i then badK c l (k+1)else some k
noncomputable def badF:List Cd1→Nat→Option (Nat×Nat)
 | [],_=>none
 | c::l,f=>match badK c c.ins 0 with
  | some k=>some (f,k)
  | none=>badF l (f+1)
def diag23:Option (Nat×Nat)→AV
 | some (f,k)=>.agg [.d (.int .i64 23),.d (.int .i64 11),.d (.int .i64 ((f:Int)+1)),.d (.int .i64 ((k:Int)+1))]
 | none=>.agg [.d (.int .i64 0),.d (.int .i64 0),.d (.int .i64 0),.d (.int .i64 0)]
noncomputable def mcheckA(m:Md1):AV:=if formedP m=0∧badC m m.funcs 0=none then diag23 (badF m.funcs 0)else checkA m
set_option maxHeartbeats 4000000 in
theorem mcheck_e(hx:TG ext)(m:Md1)(hm:LightM m)(hnm:∀ s,s∈m.structs→∀ f,f∈s.fields→f.name.length≤9223372036854775807) :
  ∃ H',G ext 16 [m.av] [.reg []]=some (.ret (mcheckA m),H'):=by
 have hcl:(m.funcs.map Cd1.row).length=m.funcs.length:=List.length_map _
 have hf70:=hm.funcs
 have hch:=check_e hx.tm m hm hnm
 suffices hs:∃ r,G ext 16 [m.av] [.reg []]=r∧∃ H',r=some (.ret (mcheckA m),H')by
  obtain⟨r,h1,H',h2⟩:=hs
  exact⟨H',h1.trans h2⟩
 refine⟨_,rfl,?_⟩
 rw[G_bodyF (hx.chk _ _) Tryz.func16 rfl Tryz.results16 hv_16 rfl];simp only[Md1.av,Md1.sr,Md1.fr]at hch ⊢;unfold mcheckA;by_cases h1:formedP m=0∧badC m m.funcs 0=none
 ·rw[if_pos h1];have hd:checkA m=.agg [.d (.int .i64 0),.d (.int .i64 0),.d (.int .i64 0),.d (.int .i64 0)]:=by unfold checkA;rw[if_pos h1.1,h1.2];rfl
  rw[hd]at hch;simp(maxSteps:=9^9)(disch:=first|(intros;contradiction)|omega)only[go_sem,hch]
  generalize hL:loopA _ _ _=L;apply range_upd hL (by simp(maxSteps:=9^9)(disch:=first|(intros;contradiction)|omega)only[go_sem]<;>rfl) m.funcs Cd1.row (α:=List Rw) (fun rest f _=>badF m.funcs 0=badF rest f) (fun f _=>[(16,.d (.int .i64 f))]) (fun _ R=>[(0,.reg (rgB R))]) [] (by simp(maxSteps:=9^9)(disch:=first|(intros;contradiction)|omega)only[go_sem]<;>rfl) rfl ?_ ?_
  ·rintro c rest f R q1 hlt hr hget hf _ next ih
   clear hL;have hcm:c∈m.funcs:=List.mem_of_getElem? hget
   have hcd:=cd_ok hx.toTX hm h1.1 hcm
   obtain⟨R',E,P,V,rel,rv,fix,hof⟩:=of1_e hx.toTF c hcd R
   simp only[Cd1.av,tbH,tbC]at hof;simp only[Cd1.row]at hr;simp only[badF]at q1;have hil:(c.ins.map In1.row).length=c.ins.length:=List.length_map _
   have hn:=hcd.nl
   simp(maxSteps:=9^9)(disch:=first|(intros;contradiction)|omega)only[go_sem,hlt,hr,hof]
   generalize hL:loopA _ _ _=L;apply range_upd hL (by simp(maxSteps:=9^9)(disch:=first|(intros;contradiction)|omega)only[go_sem]<;>rfl) c.ins In1.row (α:=Unit) (fun rest q _=>badK c c.ins 0=badK c rest q) (fun q _=>[(31,.d (.int .i64 q))]) (fun _ _=>[]) () (by simp(maxSteps:=9^9)(disch:=first|(intros;contradiction)|omega)only[go_sem]<;>rfl) rfl ?_ ?_
   ·rintro i rest2 q _ p1 hlt2 hr2 hget2 hq _ next2 ih2
    clear hL ih;have hga:=hm.ins c hcm i (List.mem_of_getElem? hget2)
    have hmr:=mright_e hx.toTF hcd rel q hget2 (by omega)
    simp only[tbH,tbC]at hmr;simp only[badK]at p1;obtain⟨t1,t2⟩:=tab_says hcd.cd0 rv fix q
    have hqV:q<V.length:=by rw[rel.lV];exact hq
    have hlt3:(q:Int)<(c.ins.length:Int):=by omega
    have hq0:0≤(q:Int):=by omega
    cases hz:V[q]? with
    | none=>rw[List.getElem?_eq_getElem hqV]at hz;cases hz
    | some z=>
     cases z with
     | none=>
      have e1:=rws_at (W:=wOf c) (rel.none_ q hz)
      simp only[rwV]at e1
      have hok:okI c q i:=fun hrc=>by
       obtain⟨x,hx2⟩:=t1.2 hrc
       rw[hz]at hx2
       cases hx2
      rw[if_pos hok]at p1;simp(maxSteps:=9^9)(disch:=first|(intros;contradiction)|omega)only[go_sem,hlt2,hlt3,hq0,e1,Nat.mul_one,wrap64]
      exact ih2 () _ p1 (by simp(maxSteps:=9^9)(disch:=first|(intros;contradiction)|omega)only[go_sem]<;>rfl)
     | some x=>
      obtain⟨a,b,g1,_⟩:=rel.some_ q x hz
      have e1:=rws_at (W:=wOf c) g1
      simp only[rwV]at e1;have hor:=ok_right hcd.cd0 rv fix hget2 hz
      cases hrt:rightT c V q i with
      | true=>
       rw[hrt]at hmr hor;rw[if_pos (hor.1 rfl)]at p1;simp(maxSteps:=9^9)(disch:=first|(intros;contradiction)|omega)only[go_sem,hlt2,hlt3,hq0,e1,hmr,Nat.mul_one,wrap64]
       exact ih2 () _ p1 (by simp(maxSteps:=9^9)(disch:=first|(intros;contradiction)|omega)only[go_sem]<;>rfl)
      | false=>
       rw[hrt]at hmr hor;rw[if_neg (fun q=>by have:=hor.2 q;cases this)]at p1
       rw[p1]at q1;simp only at q1
       rw[q1];simp only[diag23];simp(maxSteps:=9^9)(disch:=first|(intros;contradiction)|omega)only[go_sem,hlt2,hlt3,hq0,e1,hmr,Nat.mul_one,wrap64]
       exact⟨_,rfl⟩
   ·rintro q _ p1 hlt2 hq next2
    clear hL;have p1:badK c c.ins 0=none:=p1
    rw[p1]at q1;simp only at q1
    simp(maxSteps:=9^9)(disch:=first|(intros;contradiction)|omega)only[go_sem,hlt2,wrap64]
    exact ih R' _ q1 (by simp(maxSteps:=9^9)(disch:=first|(intros;contradiction)|omega)only[go_sem]<;>rfl)
  ·rintro f R q1 hlt hf next
   clear hL;have q1:badF m.funcs 0=none:=q1
   rw[q1];simp only[diag23];simp(maxSteps:=9^9)(disch:=first|(intros;contradiction)|omega)only[go_sem,hlt]
   exact⟨_,rfl⟩
 ·rw[if_neg h1]
  have hne:∃ a b s d:Int,checkA m=.agg [.d (.int .i64 s),.d (.int .i64 a),.d (.int .i64 b),.d (.int .i64 d)]∧a≠0:=by
   unfold checkA;by_cases h2:formedP m=0
   ·rw[if_pos h2]
    cases hb:badC m m.funcs 0 with
    | none=>exact absurd ⟨h2,hb⟩ h1
    | some x=>exact⟨7,_,22,_,rfl,by decide⟩
   ·rw[if_neg h2];exact⟨formedP m,0,22,0,rfl,h2⟩
  obtain⟨a,b,s,d,e,ha⟩:=hne
  rw[e]at hch ⊢;have ha:=eq_false ha
  simp(maxSteps:=9^9)(disch:=first|(intros;contradiction)|omega)only[go_sem,hch,ha]
  exact⟨_,rfl⟩
end Go.Proofs.YticliodhjfednaaGreat
namespace Go.Proofs.YticliodhjfednaaGreat
open Go Go.Ab
variable {ext:Sem'}
theorem rnx_e(hx:TX ext)(i:In1)(k:Int)(h0:0≤k)(h1:k≤1000000):G ext 37 [i.av,.d (.int .i64 k)] []=some (.ret (.d (ints (nxtI i k))),[]):=by
 rw[G_body hx.clear rfl Tryz.func37 rfl Tryz.results37 hv_37 rfl];unfold nxtI;simp only[In1.av,ints];by_cases o1:i.op=16
 ·rw[if_pos o1];simp(maxSteps:=9^9)(disch:=first|(intros;contradiction)|omega)only[go_sem,o1,List.map_cons,List.map_nil,rowI]
 ·rw[if_neg o1];by_cases o2:i.op=17
  ·rw[if_pos o2];by_cases ho:i.to=i.els
   ·rw[if_pos ho];have o1:=eq_false o1
    simp(maxSteps:=9^9)(disch:=first|(intros;contradiction)|omega)only[go_sem,o1,o2,ho,List.map_cons,List.map_nil,rowI]
   ·rw[if_neg ho];have o1:=eq_false o1
    have ho:=eq_false ho
    simp(maxSteps:=9^9)(disch:=first|(intros;contradiction)|omega)only[go_sem,o1,o2,ho,List.map_cons,List.map_nil,rowI]
  ·rw[if_neg o2];by_cases o3:i.op=18
   ·rw[if_pos o3];have o1:=eq_false o1
    have o2:=eq_false o2
    simp(maxSteps:=9^9)(disch:=first|(intros;contradiction)|omega)only[go_sem,o1,o2,o3,List.map_cons,List.map_nil,rowI]
   ·rw[if_neg o3];have o1:=eq_false o1
    have o2:=eq_false o2
    have o3:=eq_false o3
    simp(maxSteps:=9^9)(disch:=first|(intros;contradiction)|omega)only[go_sem,o1,o2,o3,wrap64,List.map_cons,List.map_nil,rowI]
theorem rnx08_e(hx:TX ext)(c:Cd1)(k:Nat){i:In1}(hi:c.ins[k]?=some i)(hk:c.ins.length≤100000)(hin:∀ y,y∈nxtI i k→0≤y∧y<c.ins.length):G ext 21 [c.av,.d (.int .i64 k)] []=some (.ret (.d (ints (nxtI i k))),[]):=by
 have hlt:=(List.getElem?_eq_some_iff.1 hi).1
 have h1:=rnx_e hx i k (by omega) (by omega)
 have hi2:(c.ins.map In1.row)[k]?=some i.row:=by rw[List.getElem?_map,hi];rfl
 have hl2:(k:Int)<((c.ins.map In1.row).length:Int):=by rw[List.length_map];omega
 have hil:(c.ins.map In1.row).length=c.ins.length:=List.length_map _
 have hn2:=nxtI_len i k
 have hll:((nxtI i k).map rowI).length=(nxtI i k).length:=List.length_map _
 simp only[In1.av]at h1;simp only[In1.row]at hi2;rw[show ints (nxtI i k)=.sl ((nxtI i k).map rowI)from rfl]at h1 ⊢
 rw[G_body hx.clear rfl Tryz.func21 rfl Tryz.results21 hv_21 rfl];simp only[Cd1.av];simp(maxSteps:=9^9)(disch:=first|(intros;contradiction)|omega)only[go_sem,hi2,hl2,h1]
 generalize hL:loopA _ _ _=L;apply range_upd hL (by simp(maxSteps:=9^9)(disch:=first|(intros;contradiction)|omega)only[go_sem]<;>rfl) (nxtI i k) rowI (α:=List Int×Nat) (fun rest q x=>x.1++rest=nxtI i k) (fun q x=>[(5,.grow 2 x.2 (x.1.map rowI)),(7,.d (.int .i64 q))]) (fun _ x=>[(2,.grow x.2 1)]) ([],0) (by simp(maxSteps:=9^9)(disch:=first|(intros;contradiction)|omega)only[go_sem]<;>rfl) rfl ?_ ?_
 ·rintro y rest q ⟨acc,e⟩ q1 hlt3 hr3 hget hq _ next ih
  clear hL;have q1:acc++y::rest=nxtI i k:=q1
  obtain⟨y0,y1⟩:=hin y (by rw[←q1];simp)
  simp only[rowI]at hr3;have hql:q<2:=by omega
  have hal:acc.length≤2:=by have:=congrArg List.length q1;simp at this;omega
  have hrm:room ((acc.map rowI).length+1) 8:=by unfold room;simp;omega
  have hf1:fits 1 (acc.map rowI):=by intro row h;obtain⟨x,_,rfl⟩:=List.mem_map.1 h;rfl
  have hap:acc.map rowI++[[Dt.int .i64 y]]=(acc++[y]).map rowI:=by simp[rowI]
  have y1':y<((c.ins.map In1.row).length:Int):=by rw[hil];exact y1
  simp(maxSteps:=9^9)(disch:=first|(intros;contradiction)|omega)only[go_sem,hlt3,hr3,y0,y1',hrm,hf1,hap,wrap64]
  exact ih (acc++[y],e+1) _ (by show acc++[y]++rest=_;rw[←q1];simp) (by simp(maxSteps:=9^9)(disch:=first|(intros;contradiction)|omega)only[go_sem]<;>rfl)
 ·rintro q ⟨acc,e⟩ q1 hlt3 hq next
  clear hL;have q1:acc++[]=nxtI i k:=q1
  rw[List.append_nil]at q1;subst q1;simp(maxSteps:=9^9)(disch:=first|(intros;contradiction)|omega)only[go_sem,hlt3]
end Go.Proofs.YticliodhjfednaaGreat
