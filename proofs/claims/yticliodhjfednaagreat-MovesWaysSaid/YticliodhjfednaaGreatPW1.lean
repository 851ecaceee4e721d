/- slices.Clone of a row of bits, by its walk: the new block, cell by cell; ir.Word, for the evaluator; slices.Clone of variables, by its walk; A slice's cells in memory of one's own, for the evaluator; slices.Clone of variables, for the evaluator; Programs as a row reads them; Moves: what is known of the library, and of ir.Next of a branch to one place, is right; MovesWays answers true for all arguments, and leaves them as they read. Conditions: none. -/
import Derived.Test.YticliodhjfednaaGreatUtil
import Derived.Test.YticliodhjfednaaGreatAbX4
import Derived.Shelf.SlicesE.Clone
import Derived.Test.YticliodhjfednaaGreatW1
import Derived.Test.YticliodhjfednaaGreatM3
import Derived.Test.YticliodhjfednaaGreatM1
import Derived.Test.YticliodhjfednaaGreatNxS
import Derived.Test.YticliodhjfednaaGreatG9
import Derived.Test.YticliodhjfednaaGreatRows
set_option linter.unusedSimpArgs false
set_option linter.unusedVariables false
namespace Go.Proofs.YticliodhjfednaaGreat
open Go Go.RowKit Go.Lib
theorem under_row:Tryz.prog.underlying 68 = some (.slice 84):=by kernel_rfl
theorem infoU1:(Tryz.prog.info? 84).map (fun i=>(i.size,i.bytes)) = some (1,8):=by kernel_rfl
theorem infoU2:((Tryz.prog.info? 84).bind (·.zero)).map (fun z=>z.cells.size) = some 1:=by kernel_rfl
theorem infoU3:((Tryz.prog.info? 84).bind (·.zero)).map (fun z=>z.cells.toList.all Value.oneCell') = some true:=by kernel_rfl
theorem info_u64:∃ i z,Tryz.prog.info? 84 = some i∧i.zero = some z∧i.size = 1∧i.bytes = 8∧z.cells.size = 1∧z.cells.toList.all Value.oneCell' = true:=by
 have h1:=infoU1
 have h2:=infoU2
 have h3:=infoU3
 generalize Tryz.prog.info? 84 = x at h1 h2 h3 ⊢
 cases x with
 | none=>cases h1
 | some i=>
  cases hz:i.zero with
  | none=>simp [hz] at h2
  | some z=>
   simp only [Option.map_some,Option.bind_some,hz,Option.some.injEq,Prod.mk.injEq] at h1 h2 h3
   exact ⟨i,z,rfl,hz,h1.1,h1.2,h2,h3⟩
structure ClonedU (w:World) (news:List Value) (n gb cap:Nat) (cur:Array Value) (w':World):Prop where
 base:w.heap.size ≤ gb
 block:w'.heap[gb]? = some (.cells cur 84 (0,0))
 fit:n ≤ cap
 size:cur.size = cap
 take:cur.toList.take n = news
 one:∀ u,u ∈ cur.toList→u.oneCell' = true
 most:cap ≤ maxLen
 below:Below w.heap.size w w'
theorem append_madeU {W:World} {t ty:TypeId} (ht:Tryz.prog.underlying t = some (.slice 84)) (g:Nat) (hg:W.heap[g]? = some (.cells #[] 84 (0,0))) (a:Addr) (n c:Nat) (news:List Value) (hl:news.length = n) (hn0:0 < n) (hn:n ≤ 1000000)
  (hnews:∀ j u,news[j]? = some u→W.cell? (a.add j) = some u) (h1:∀ u ∈ news,u.oneCell' = true) :
  ∃ cap cur w',(Builtin.append_ #[t,t] ty #[.slice (some ⟨g,0,none⟩) 0 0,.slice (some a) n c]).run Tryz.prog W = .ok (.slice (some ⟨W.heap.size,0,none⟩) n cap) w'∧ClonedU W news n W.heap.size cap cur w':=by
 obtain ⟨i,z,hi,hz,hs,hby,hzs,hz1⟩:=info_u64
 have hr:=run_append_grow (P:=Tryz.prog) W t ty 84 i z ht hi hz ⟨g,0,none⟩ 0 0 [] (by simp) (fun j u h=>by simp at h) a n c news (by rw [hl,hs,Nat.mul_one]) hnews (by omega) (by omega) (by
  rw [hby]
  exact growslice_fits (by omega) (by omega))
 rw [Nat.zero_add] at hr
 refine ⟨grownCap W n 0 84,#[] ++ news.toArray ++ Builtin.zeroCells z.cells (grownCap W n 0 84 - n),_,hr,?_⟩
 have hge:=grownCap_ge W n 0 84
 have hmost:=grownCap_le_maxLen W n 0 84 (by unfold maxLen; omega)
 generalize grownCap W n 0 84 = gc at hge hmost
 refine ⟨Nat.le_refl _,heap_alloc_new W.drew _,hge,?_,?_,?_,hmost,?_⟩
 ·rw [Array.size_append,Array.size_append,size_zeroCells,hzs]
  simp [hl]
  omega
 ·simp [← hl]
 ·intro u hu
  simp only [Array.toList_append,List.append_assoc,List.mem_append] at hu
  rcases hu with h | h | h
  ·simp at h
  ·exact h1 u (by simpa using h)
  ·have:u ∈ z.cells.toList:=by
    unfold Builtin.zeroCells at h
    simp only [Array.toList_map,List.mem_map] at h
    obtain ⟨k,hk,rfl⟩:=h
    have hm:k % z.cells.size < z.cells.size:=Nat.mod_lt _ (by omega)
    rw [getElem!_pos z.cells _ hm]
    simp
   exact List.all_eq_true.1 hz1 u this
 ·exact ((Below.refl _ W).drew).alloc (Nat.le_refl _) _
theorem wpList_append_madeU {w:World} {ops:Array Oper} {rest:List Oper} {o:Oper} {a:Act} {Q:Exit→Act→World→Prop} (hgd:o.guard = none) (s x:Operand) (t:TypeId)
  (ho:o.op = .call { callee:=.builtin .append,args:=#[s,x],argTypes:=#[t,t] }) (ht:Tryz.prog.underlying t = some (.slice 84))
  (g:Nat) (hs:a.eval s = .slice (some ⟨g,0,none⟩) 0 0) (hg:w.heap[g]? = some (.cells #[] 84 (0,0)))
  (ad:Addr) (n c:Nat) (news:List Value) (hx:a.eval x = .slice (some ad) n c) (hl:news.length = n) (hn0:0 < n) (hn:n ≤ 1000000) (hnews:∀ j u,news[j]? = some u→w.cell? (ad.add j) = some u) (h1:∀ u ∈ news,u.oneCell' = true)
  (h:∀ cap cur w',ClonedU w news n w.heap.size cap cur w'→wpList Tryz.prog ops Q rest (a.put o.dst (.slice (some ⟨w.heap.size,0,none⟩) n cap)) w'):wpList Tryz.prog ops Q (o :: rest) a w:=by
 refine wpList_plain hgd fun _ hK=>?_
 obtain ⟨cap,cur,w',hr,hc⟩:=append_madeU (W:=w) (ty:=o.type) ht g hg ad n c news hl hn0 hn hnews h1
 have:=hK _ _ (h cap cur w' hc)
 unfold Oper.wp execOp
 simp only [ho,resolve,invoke,builtin,Sem.run_bind,Sem.run_pure,Result.andThen_ok,List.map_toArray,List.map_cons,List.map_nil,hs,hx,hr]
 exact this
set_option maxHeartbeats 2000000 in
theorem cloneU_some (a:Addr) (n c:Nat) (news:List Value) (w:World) (hl:news.length = n) (hn0:0 < n) (hn:n ≤ 1000000) (hc:∀ j u,news[j]? = some u→w.cell? (a.add j) = some u) (h1:∀ u ∈ news,u.oneCell' = true) :
  Calls Tryz.prog 44 #[.slice (some a) n c] w fun e w'=>∃ gb cap cur,e = .returned (.slice (some ⟨gb,0,none⟩) n cap)∧ClonedU w news n gb cap cur w':=by
 have q22:∀ (w:World) (a:Option Addr) (n c n' c':Nat),(binOp .eql 68 (.slice a n c) (.slice none n' c')).run Tryz.prog w = .ok (.bool a.isNone) w:=fun w a n c n' c'=>Lib.run_eql_slice_nil w _ _ a n c n' c' under_row
 have A:Aside (∀ j u,news[j]? = some u→w.cell? (a.add j) = some u):=hc
 clear hc
 go_enter Tryz.func44,Tryz.ntmps44
 go_wp2_with (at_builtin; refine wpList_append_madeU rfl _ _ 68 rfl under_row w.heap.size rfl (heap_alloc_new w _) a n c news rfl hl hn0 hn (fun j u hj=>Lib.cell?_alloc_some _ (A.out j u hj)) h1 ?_)
 intro cap cur w' hcl
 go_wp2
 go_ret
 have hb:=(Below.refl w.heap.size w).alloc (Nat.le_refl _) (.cells #[] 84)
 exact ⟨_,cap,cur,rfl,Nat.le_trans hb.size hcl.base,hcl.block,hcl.fit,hcl.size,hcl.take,hcl.one,hcl.most,hb.trans (hcl.below.mono hb.size)⟩
theorem wpList_append_noneU {w:World} {ops:Array Oper} {rest:List Oper} {o:Oper} {a:Act} {Q:Exit→Act→World→Prop} (hgd:o.guard = none) (s x:Operand) (t:TypeId)
  (ho:o.op = .call { callee:=.builtin .append,args:=#[s,x],argTypes:=#[t,t] }) (ht:Tryz.prog.underlying t = some (.slice 84))
  (g:Nat) (hs:a.eval s = .slice (some ⟨g,0,none⟩) 0 0) (ad:Addr) (c:Nat) (hx:a.eval x = .slice (some ad) 0 c)
  (h:wpList Tryz.prog ops Q rest (a.put o.dst (.slice (some ⟨g,0,none⟩) 0 0)) w):wpList Tryz.prog ops Q (o :: rest) a w:=by
 refine wpList_plain hgd fun _ hK=>?_
 have hr:=Go.Ab.run_append_zero (P:=Tryz.prog) (w:=w) (t:=t) (ty:=o.type) ht (s:=1) (by kernel_rfl) (base:=some g) (n:=0) (cap:=0) (c:=c) (a:=some ad) (Nat.le_refl _)
 have:=hK _ _ h
 unfold Oper.wp execOp
 simp only [Option.map_some] at hr
 simp only [ho,resolve,invoke,builtin,Sem.run_bind,Sem.run_pure,Result.andThen_ok,List.map_toArray,List.map_cons,List.map_nil,hs,hx,hr]
 exact this
set_option maxHeartbeats 2000000 in
theorem cloneU_none (a:Addr) (c:Nat) (w:World):Calls Tryz.prog 44 #[.slice (some a) 0 c] w fun e w'=>∃ gb cap cur,e = .returned (.slice (some ⟨gb,0,none⟩) 0 cap)∧ClonedU w [] 0 gb cap cur w':=by
 have q22:∀ (w:World) (a:Option Addr) (n c n' c':Nat),(binOp .eql 68 (.slice a n c) (.slice none n' c')).run Tryz.prog w = .ok (.bool a.isNone) w:=fun w a n c n' c'=>Lib.run_eql_slice_nil w _ _ a n c n' c' under_row
 go_enter Tryz.func44,Tryz.ntmps44
 go_wp2_with (at_builtin; refine wpList_append_noneU rfl _ _ 68 rfl under_row w.heap.size rfl a c rfl ?_)
 go_wp2
 go_ret
 have hb:=(Below.refl w.heap.size w).alloc (Nat.le_refl _) (.cells #[] 84)
 exact ⟨_,0,#[],rfl,Nat.le_refl _,heap_alloc_new w _,Nat.le_refl _,rfl,rfl,fun u h=>by simp at h,by simp [maxLen],hb⟩
end Go.Proofs.YticliodhjfednaaGreat
namespace Go.Proofs.YticliodhjfednaaGreat
open Go Go.Ab Go.RowKit
def wordX:List AV→List AObj→Option (Out × List AObj)
 | [.d (.int .i64 op)],H=>some (.ret (.d (.str (wordP op))),H)
 | _,_=>none
theorem word_sound (as0:List AV) (H:List AObj) (out:Out) (H':List AObj) (h:wordX as0 H = some (out,H')):(∀ args w,(callFunc 131 args).run Tryz.prog w = .ok (.enter 131 args) w)∧H.length ≤ H'.length ∧
  ∀ (w:World) (Im:Imm) (g:List Gh) (vs:List Value),HR Tryz.prog w Im g H→RepAs w Im g vs as0→Calls Tryz.prog 131 ⟨vs⟩ w (CallPost Tryz.prog w Im g out H'):=by
 unfold wordX at h
 split at h
 ·cases h
  refine ext_calls (enter_of Tryz.func131 (by kernel_rfl) rfl) fun w Im g vs hH hr=>?_
  obtain ⟨hl,hr⟩:=hr
  match vs,hl with
  | [v],_=>
   rw [repA_int (hr 0 _ _ rfl rfl)]
   refine (irword_any _ _).mono ?_
   rintro e w' ⟨rfl,hb⟩
   exact ⟨hb,_,rfl,fun w'=>.d (.str _)⟩
 ·cases h
end Go.Proofs.YticliodhjfednaaGreat
namespace Go.Proofs.YticliodhjfednaaGreat
open Go Go.RowKit Go.Lib
theorem under_vars:Tryz.prog.underlying 34 = some (.slice 38):=by kernel_rfl
theorem info_var1:(Tryz.prog.info? 38).map (fun i=>(i.size,i.bytes)) = some (3,32):=by kernel_rfl
theorem info_var2:((Tryz.prog.info? 38).bind (·.zero)).map (fun z=>z.cells.size) = some 3:=by kernel_rfl
theorem info_var:∃ i z,Tryz.prog.info? 38 = some i∧i.zero = some z∧i.size = 3∧i.bytes = 32∧z.cells.size = 3:=by
 have h1:=info_var1
 have h2:=info_var2
 generalize Tryz.prog.info? 38 = x at h1 h2 ⊢
 cases x with
 | none=>cases h1
 | some i=>
  cases hz:i.zero with
  | none=>simp [hz] at h2
  | some z=>
   simp [hz] at h1 h2
   exact ⟨i,z,rfl,hz,h1.1,h1.2,h2⟩
set_option maxHeartbeats 2000000 in
theorem clone_some (a:Addr) (n c:Nat) (news:List Value) (w:World) (hl:news.length = n * 3) (hn:n ≤ 1000) (hc:∀ j u,news[j]? = some u→w.cell? (a.add j) = some u) (h1:∀ u ∈ news,u.oneCell' = true) :
  Calls Tryz.prog 76 #[.slice (some a) n c] w fun e w'=>∃ v',e = .returned v'∧w'.ownsRow w.heap.size 38 3 v' n news∧Below w.heap.size w w':=by
 obtain ⟨i0,z,hi,hz0,hz1,hz2,hzs⟩:=info_var
 have q22:∀ (w:World) (a:Option Addr) (n c n' c':Nat),(binOp .eql 34 (.slice a n c) (.slice none n' c')).run Tryz.prog w = .ok (.bool a.isNone) w:=fun w a n c n' c'=>Lib.run_eql_slice_nil w _ _ a n c n' c' under_vars
 have A:Aside (∀ j u,news[j]? = some u→w.cell? (a.add j) = some u):=hc
 clear hc
 go_enter Tryz.func76,Tryz.ntmps76
 go_wp2_with (at_builtin; refine wpList_append_own _ rfl _ _ 34 rfl w.heap.size 38 i0 z 3 32 under_vars hi hz0 hz1 hz2 hzs (by decide) _ _ _ rfl (World.ownsRow_made w #[] 0 (Nat.le_refl _) (Nat.zero_le _) (by simp)) a n c news rfl ?qc1 ?qc2 ?qc3 ?qc4 ?qc5 ?qc6 ?_)
 case qc1=>exact hl
 case qc2=>
  intro j u hj
  exact Lib.cell?_alloc_some _ (A.out j u hj)
 case qc3=>exact h1
 case qc4=>rw [Nat.zero_add]; simp only [maxLen]; omega
 case qc5=>rw [Nat.zero_add]; omega
 case qc6=>simp
 intro v' w1 hown hgrow hnil
 go_wp2
 go_ret
 refine ⟨v',rfl,by simpa using hown,?_⟩
 exact ((Below.refl _ w).alloc (Nat.le_refl _) _).grown hgrow (by simp) (by intro k hk; simp [Value.ownBlock] at hk; omega)
set_option maxHeartbeats 1000000 in
theorem clone_nil (n c:Nat) (w:World):Calls Tryz.prog 76 #[.slice none n c] w fun e w'=>e = .returned (.slice none 0 0)∧w' = w:=by
 have q22:∀ (w:World) (a:Option Addr) (n c n' c':Nat),(binOp .eql 34 (.slice a n c) (.slice none n' c')).run Tryz.prog w = .ok (.bool a.isNone) w:=fun w a n c n' c'=>Lib.run_eql_slice_nil w _ _ a n c n' c' under_vars
 go_enter Tryz.func76,Tryz.ntmps76
 go_wp2
 go_ret
 exact ⟨rfl,rfl⟩
end Go.Proofs.YticliodhjfednaaGreat
namespace Go.Proofs.YticliodhjfednaaGreat
open Go Go.Ab Go.RowKit
theorem flatN {sz:Nat} {rows:List (List Dt)} (h:∀ row,row ∈ rows→row.length = sz):rows.flatten.length = rows.length * sz:=by
 induction rows with
 | nil=>simp
 | cons r rows ih=>
  have h1:=h r (by simp)
  have h2:=ih (fun row hr=>h row (by simp [hr]))
  simp only [List.flatten_cons,List.length_append,List.length_cons,Nat.add_mul,Nat.one_mul]
  omega
theorem add_none (b o j:Nat):(⟨b,o,none⟩:Addr).add j = ⟨b,o + j,none⟩:=by unfold Addr.add; split <;> simp_all
theorem one_gh {α:Type} {x y:α} {r:Nat} (h:[x][r]? = some y):r = 0∧y = x:=by
 cases r with
 | zero=>simp at h; exact ⟨rfl,h.symm⟩
 | succ r=>simp at h
theorem gle_nil (g:List Gh):GLe [] g:=⟨fun r b h=>by simp at h,fun r _ _ _ _ _ h=>by simp at h,fun r _ _ h=>by simp at h,fun r _ _ h=>by simp at h,fun r _ h=>by simp at h⟩
theorem own_post {P:Program} {w w':World} {Im:Imm} {t:TypeId} {v':Value} {sz:Nat} {rows:List (List Dt)} {news:List Value} (hH:HR P w Im [] []) (h3:∀ row,row ∈ rows→row.length = sz)
  (hr:∀ (k:Nat) (u:Value) (x:Dt),news[k]? = some u→rows.flatten[k]? = some x→RepD w Im u x) (ho:w'.ownsRow w.heap.size t sz v' rows.length news) (hb:Below w.heap.size w w') :
  CallPost P w Im [] (.ret (.grow 0 0 rows)) [.grow 0 sz] (.returned v') w':=by
 have hIm:=hH.im
 have hfl:=flatN h3
 have keep:∀ (b o:Nat),Im b o→w'.cell? ⟨b,o,none⟩ = w.cell? ⟨b,o,none⟩:=fun b o h=>by unfold World.cell?; rw [hb.block b (hIm b o h)]
 obtain ⟨hl,ho⟩:=ho
 rcases ho with ⟨rfl,h0⟩ | ⟨gb,cap,cur,rfl,hbase,hcur,hcap,_,hsize,htake⟩
 ·have hrows:rows = []:=List.length_eq_zero_iff.1 h0
  subst hrows
  have e:Ext w Im [] w' Im [.gr 0 sz none 0 0]:=⟨hb.os,hb.tape,hb.output,hb.size,fun _ _ h=>h,keep,fun k hk _=>hb.block k hk,fun _ _ h=>.inl h,fun k hk=>by
   obtain ⟨r,x,h1,h2⟩:=hk
   obtain ⟨_,rfl⟩:=one_gh h1
   exact absurd h2.1 (by simp),gle_nil _⟩
  refine ⟨Im,[.gr 0 sz none 0 0],hH.go e rfl (fun r=>r = 0) (fun r h=>?_) (fun r x k h hx=>by simp at hx) (fun r cs h hc=>?_) (fun r ep s h hc=>?_) (fun r es h hc=>?_) (fun r a b c h hc=>?_) (fun r acc h hc=>?_) (fun r r' k x x' h hne h1 h2=>?_) (fun r k x h h1 h2=>?_) (fun b o h=>Nat.lt_of_lt_of_le (hIm b o h) hb.size),e,_,rfl,?_⟩
  ·cases r with
   | zero=>exact absurd rfl h
   | succ r=>simp
  ·cases (one_gh hc).2
  ·obtain ⟨rfl,hc⟩:=one_gh hc
   cases hc
   exact ⟨none,0,0,rfl,Nat.le_refl _,fun _=>rfl,fun b hb=>by cases hb⟩
  ·cases (one_gh hc).2
  ·cases (one_gh hc).2
  ·cases (one_gh hc).2
  ·exact absurd ((one_gh h1).1.trans (one_gh h2).1.symm) hne
  ·obtain ⟨_,rfl⟩:=one_gh h1
   exact absurd h2.1 (by simp)
  ·exact .grow (.sl0 _ _) (by rfl) h3 (Nat.le_refl _) (fun _=>⟨rfl,rfl⟩)
 ·have hglt:gb < w'.heap.size:=(Array.getElem?_eq_some_iff.1 hcur).1
  have e:Ext w Im [] w' (fun b o=>Im b o ∨ (b = gb∧o < rows.length * sz)) [.gr 0 sz (some gb) rows.length cap]:=⟨hb.os,hb.tape,hb.output,hb.size,fun _ _ h=>.inl h,keep,fun k hk _=>hb.block k hk,fun b o h=>by
   rcases h with h | ⟨rfl,_⟩
   ·exact .inl h
   ·exact .inr (.inl hbase),fun k hk=>by
   obtain ⟨r,x,h1,h2⟩:=hk
   obtain ⟨_,rfl⟩:=one_gh h1
   obtain ⟨h2,_⟩:=h2
   cases h2
   exact .inr hbase,gle_nil _⟩
  refine ⟨fun b o=>Im b o ∨ (b = gb∧o < rows.length * sz),[.gr 0 sz (some gb) rows.length cap],hH.go e rfl (fun r=>r = 0) (fun r h=>?_) (fun r x k h hx=>by simp at hx) (fun r cs h hc=>?_) (fun r ep s h hc=>?_) (fun r es h hc=>?_) (fun r a b c h hc=>?_) (fun r acc h hc=>?_) (fun r r' k x x' h hne h1 h2=>?_) (fun r k x h h1 h2=>?_) (fun b o h=>?_),e,_,rfl,?_⟩
  ·cases r with
   | zero=>exact absurd rfl h
   | succ r=>simp
  ·cases (one_gh hc).2
  ·obtain ⟨rfl,hc⟩:=one_gh hc
   cases hc
   refine ⟨some gb,rows.length,cap,rfl,hcap,(fun h=>by cases h),fun b hb hlt=>?_⟩
   cases hb
   refine ⟨cur.toList,t,hcur,by simp [hsize],fun o ho=>?_⟩
   rintro (h | ⟨_,h⟩)
   ·have:=hIm _ _ h; omega
   ·omega
  ·cases (one_gh hc).2
  ·cases (one_gh hc).2
  ·cases (one_gh hc).2
  ·exact absurd ((one_gh h1).1.trans (one_gh h2).1.symm) hne
  ·obtain ⟨_,rfl⟩:=one_gh h1
   obtain ⟨h2,_⟩:=h2
   cases h2
   exact hglt
  ·rcases h with h | ⟨rfl,_⟩
   ·exact Nat.lt_of_lt_of_le (hIm b o h) hb.size
   ·exact hglt
  ·refine .grow (len:=rows.length) (cap:=cap) (base:=some gb) ?_ (by rfl) h3 (Nat.le_refl _) (fun _=>⟨rfl,rfl⟩)
   refine .sl gb 0 cap sz rows (fun k=>news.getD k undef) hcap h3 (fun k hk=>?_) (fun k x hx=>?_)
   ·rw [hfl] at hk
    refine ⟨.inr ⟨rfl,by omega⟩,?_⟩
    rw [List.getD_eq_getElem?_getD,List.getElem?_eq_getElem (by omega),Option.getD_some]
    have:=cell_of_row w' gb k cur t (0,0) hcur
    rw [Nat.zero_add,this]
    have h4:(cur.toList.take (rows.length * sz))[k]? = some news[k]:=by rw [htake,List.getElem?_eq_getElem]
    rw [List.getElem?_take,if_pos hk] at h4
    simpa using h4
   ·have hk:=(List.getElem?_eq_some_iff.1 hx).1
    rw [hfl] at hk
    have hn:news[k]? = some (news.getD k undef):=by
     rw [List.getD_eq_getElem?_getD,List.getElem?_eq_getElem (by omega),Option.getD_some]
    exact (hr k _ x hn hx).ext (fun b o h=>⟨.inl h,keep b o h⟩)
end Go.Proofs.YticliodhjfednaaGreat
namespace Go.Proofs.YticliodhjfednaaGreat
open Go Go.Ab Go.RowKit
def rows3:List (List Dt)→Bool
 | []=>true
 | r :: l=>decide (r.length = 3) && rows3 l
theorem rows3_all:∀ {l:List (List Dt)},rows3 l = true→∀ row,row ∈ l→row.length = 3
 | [],_,row,h=>by cases h
 | r :: l,h,row,hr=>by
  simp only [rows3,Bool.and_eq_true,decide_eq_true_eq] at h
  rcases List.mem_cons.1 hr with rfl | hr
  ·exact h.1
  ·exact rows3_all h.2 row hr
theorem rows3_map (l:List Vr1):rows3 (l.map Vr1.row) = true:=by
 induction l with
 | nil=>rfl
 | cons v l ih=>simp only [List.map_cons,rows3,Vr1.row,ih]; rfl
def cloneX:List AV→List AObj→Option (Out × List AObj)
 | [.d (.sl rows)],[]=>if rows.length ≤ 1000∧rows3 rows = true then some (.ret (.grow 0 0 rows),[.grow 0 3]) else none
 | _,_=>none
theorem clone_sound (as0:List AV) (H:List AObj) (out:Out) (H':List AObj) (h:cloneX as0 H = some (out,H')):(∀ args w,(callFunc 76 args).run Tryz.prog w = .ok (.enter 76 args) w)∧H.length ≤ H'.length ∧
  ∀ (w:World) (Im:Imm) (g:List Gh) (vs:List Value),HR Tryz.prog w Im g H→RepAs w Im g vs as0→Calls Tryz.prog 76 ⟨vs⟩ w (CallPost Tryz.prog w Im g out H'):=by
 unfold cloneX at h
 split at h
 ·rename_i rows
  split at h
  ·rename_i hc
   cases h
   refine ⟨enter_of Tryz.func76 (by kernel_rfl) rfl,by simp,fun w Im g vs hH hr=>?_⟩
   have hg:g = []:=List.length_eq_zero_iff.1 hH.len
   subst hg
   have h3:=rows3_all hc.2
   have hfl:=flatN h3
   obtain ⟨hl,hr⟩:=hr
   match vs,hl with
   | [v],_=>
    have hv:=hr 0 v _ rfl rfl
    cases hv with
    | d hd=>
     cases hd with
     | sl0 a cap=>
      cases a with
      | none=>
       refine (clone_nil 0 cap w).mono ?_
       rintro e w' ⟨rfl,rfl⟩
       exact own_post (news:=[]) (t:=38) hH h3 (fun k u x h=>by simp at h) (World.ownsRow_nil _ _ _ _) (Below.refl _ _)
      | some a=>
       refine (clone_some a 0 cap [] w (by simp) (by omega) (fun j u h=>by simp at h) (fun u h=>by simp at h)).mono ?_
       rintro e w' ⟨v',rfl,ho,hb⟩
       exact own_post (news:=[]) hH h3 (fun k u x h=>by simp at h) ho hb
     | sl b o cap sz rows us hcap hsz him hrr=>
      have hat:∀ (j:Nat) (u:Value),((List.range (rows.length * 3)).map us)[j]? = some u→j < rows.flatten.length∧u = us j:=by
       intro j u h
       rw [List.getElem?_map] at h
       have hj:j < rows.length * 3:=by
        rcases Nat.lt_or_ge j (rows.length * 3) with hj | hj
        ·exact hj
        ·rw [List.getElem?_eq_none (by simpa using hj)] at h; cases h
       rw [List.getElem?_range hj] at h
       simp at h
       exact ⟨by omega,h.symm⟩
      have hrx:∀ (k:Nat),k < rows.flatten.length→RepD w Im (us k) (rows.flatten[k]?.getD .nilp):=fun k hk=>hrr k _ (by rw [List.getElem?_eq_getElem hk]; rfl)
      refine (clone_some ⟨b,o,none⟩ rows.length cap ((List.range (rows.length * 3)).map us) w (by simp) hc.1 (fun j u h=>?_) (fun u h=>?_)).mono ?_
      ·obtain ⟨hj,rfl⟩:=hat j u h
       rw [add_none]
       exact (him j hj).2
      ·obtain ⟨j,hj0⟩:=List.getElem?_of_mem h
       obtain ⟨hj,rfl⟩:=hat j u hj0
       exact repD_one (hrx j hj)
      ·rintro e w' ⟨v',rfl,ho,hb⟩
       refine own_post hH h3 (fun k u x h hx=>?_) ho hb
       obtain ⟨hj,rfl⟩:=hat k u h
       exact hrr k x hx
  ·cases h
 ·cases h
end Go.Proofs.YticliodhjfednaaGreat
namespace Go.Proofs.YticliodhjfednaaGreat
open Go Go.Ab
theorem rows_of {α:Type} {f:α→List Dt} {Q:α→Prop} {T:DT} (hT:∀ xs,WfD T xs→∃ x,xs = f x∧Q x):∀ {rows:List (List Dt)},(∀ row,row ∈ rows→WfD T row)→∃ l:List α,rows = l.map f∧∀ x,x ∈ l→Q x
 | [],_=>⟨[],rfl,fun x h=>by cases h⟩
 | row :: rows,h=>by
  obtain ⟨x,rfl,hx⟩:=hT row (h row (by simp))
  obtain ⟨l,rfl,hl⟩:=rows_of hT (rows:=rows) (fun r hr=>h r (by simp [hr]))
  exact ⟨x :: l,rfl,fun y hy=>by rcases List.mem_cons.1 hy with h1 | h1; (subst h1; exact hx); exact hl y h1⟩
theorem sl_of {α:Type} {f:α→List Dt} {Q:α→Prop} {T:DT} (hT:∀ xs,WfD T xs→∃ x,xs = f x∧Q x) {xs:List Dt} (h:WfD (.sl T) xs):∃ l:List α,xs = [.sl (l.map f)]∧l.length ≤ maxLen∧∀ x,x ∈ l→Q x:=by
 simp only [WfD] at h
 obtain ⟨rows,rfl,hl,h⟩:=h
 obtain ⟨l,rfl,hQ⟩:=rows_of hT h
 exact ⟨l,rfl,by simpa using hl,hQ⟩
def typeT:DT:=.st [.bool,.str]
def posT:DT:=.st [.int .i64,.int .i64]
def varT1:DT:=.st [typeT,.int .i64]
def fieldT:DT:=.st [.str,typeT,posT]
def structT:DT:=.st [.str,.sl fieldT,posT]
def insT:DT:=.st [.int .i64,.int .i64,.int .i64,.int .i64,.int .i64,.int .i64,.str,.sl (.int .i64),.sl (.int .i64),.int .i64,.int .i64,posT]
def codeT:DT:=.st [.str,.int .i64,.sl varT1,varT1,.sl (.int .i64),.sl insT]
def modT:DT:=.st [.sl structT,.sl codeT]
def I64 (n:Int):Prop:=-9223372036854775808 ≤ n∧n ≤ 9223372036854775807
theorem lit_i64 {n:Int} (h:(Lit.int .i64 n).wf = true):I64 n:=by
 unfold I64
 simpa [Lit.wf,IntKind.signed,IntKind.bits,IntKind.min,IntKind.max,Bool.and_eq_true,decide_eq_true_eq] using h
theorem int_wf {xs:List Dt} (h:WfD (.int .i64) xs):∃ n,xs = rowI n∧I64 n:=by
 simp only [WfD] at h
 obtain ⟨n,rfl,h⟩:=h
 exact ⟨n,rfl,lit_i64 h⟩
theorem ints_wf {xs:List Dt} (h:WfD (.sl (.int .i64)) xs):∃ l:List Int,xs = [ints l]∧l.length ≤ maxLen∧∀ n,n ∈ l→I64 n:=sl_of (f:=rowI) (fun _ h=>int_wf h) h
theorem str_wf {xs:List Dt} (h:WfD .str xs):∃ s,xs = [.str s]∧s.length ≤ maxLen:=by simpa only [WfD] using h
theorem bool_wf {xs:List Dt} (h:WfD .bool xs):∃ b,xs = [.bool b]:=by simpa only [WfD] using h
theorem st1 {T:DT} {Ts:List DT} {xs:List Dt} (h:WfD (.st (T :: Ts)) xs):∃ a b,xs = a ++ b∧WfD T a∧WfD (.st Ts) b:=by
 simp only [WfD,WfL] at h
 exact h
theorem st0 {xs:List Dt} (h:WfD (.st []) xs):xs = []:=by simpa only [WfD,WfL] using h
theorem pos_wf {xs:List Dt} (h:WfD posT xs):∃ p:Int × Int,xs = [.int .i64 p.1,.int .i64 p.2]∧I64 p.1∧I64 p.2:=by
 obtain ⟨_,_,rfl,h1,h⟩:=st1 h
 obtain ⟨_,_,rfl,h2,h⟩:=st1 h
 obtain rfl:=st0 h
 obtain ⟨a,rfl,ha⟩:=int_wf h1
 obtain ⟨b,rfl,hb⟩:=int_wf h2
 exact ⟨(a,b),rfl,ha,hb⟩
theorem type_wf {xs:List Dt} (h:WfD typeT xs):∃ t:Ty1,xs = t.row∧t.to.length ≤ maxLen:=by
 obtain ⟨_,_,rfl,h1,h⟩:=st1 h
 obtain ⟨_,_,rfl,h2,h⟩:=st1 h
 obtain rfl:=st0 h
 obtain ⟨a,rfl⟩:=bool_wf h1
 obtain ⟨b,rfl,hb⟩:=str_wf h2
 exact ⟨⟨a,b⟩,rfl,hb⟩
structure VrOk (v:Vr1):Prop where
 t:v.t.to.length ≤ maxLen
 cls:I64 v.cls
theorem var_wf {xs:List Dt} (h:WfD varT1 xs):∃ v:Vr1,xs = v.row∧VrOk v:=by
 obtain ⟨_,_,rfl,h1,h⟩:=st1 h
 obtain ⟨_,_,rfl,h2,h⟩:=st1 h
 obtain rfl:=st0 h
 obtain ⟨t,rfl,ht⟩:=type_wf h1
 obtain ⟨b,rfl,hb⟩:=int_wf h2
 exact ⟨⟨t,b⟩,rfl,ht,hb⟩
structure FdOk (f:Fd1):Prop where
 name:f.name.length ≤ maxLen
 t:f.t.to.length ≤ maxLen
 pos:I64 f.pos.1∧I64 f.pos.2
theorem field_wf {xs:List Dt} (h:WfD fieldT xs):∃ f:Fd1,xs = f.row∧FdOk f:=by
 obtain ⟨_,_,rfl,h1,h⟩:=st1 h
 obtain ⟨_,_,rfl,h2,h⟩:=st1 h
 obtain ⟨_,_,rfl,h3,h⟩:=st1 h
 obtain rfl:=st0 h
 obtain ⟨s,rfl,hs⟩:=str_wf h1
 obtain ⟨t,rfl,ht⟩:=type_wf h2
 obtain ⟨p,rfl,hp⟩:=pos_wf h3
 exact ⟨⟨s,t,p⟩,rfl,hs,ht,hp⟩
structure ScOk (s:Sc1):Prop where
 name:s.name.length ≤ maxLen
 flen:s.fields.length ≤ maxLen
 fields:∀ f,f ∈ s.fields→FdOk f
 pos:I64 s.pos.1∧I64 s.pos.2
theorem struct_wf {xs:List Dt} (h:WfD structT xs):∃ s:Sc1,xs = s.row∧ScOk s:=by
 obtain ⟨_,_,rfl,h1,h⟩:=st1 h
 obtain ⟨_,_,rfl,h2,h⟩:=st1 h
 obtain ⟨_,_,rfl,h3,h⟩:=st1 h
 obtain rfl:=st0 h
 obtain ⟨s,rfl,hs⟩:=str_wf h1
 obtain ⟨l,rfl,hl,hf⟩:=sl_of (fun _ h=>field_wf h) h2
 obtain ⟨p,rfl,hp⟩:=pos_wf h3
 exact ⟨⟨s,l,p⟩,rfl,hs,hl,hf,hp⟩
structure InOk (i:In1):Prop where
 op:I64 i.op
 d:I64 i.d
 a:I64 i.a
 b:I64 i.b
 f:I64 i.f
 n:I64 i.n
 sign:i.sign.length ≤ maxLen
 args:i.args.length ≤ maxLen∧∀ x,x ∈ i.args→I64 x
 mode:i.mode.length ≤ maxLen∧∀ x,x ∈ i.mode→I64 x
 dest:I64 i.to
 els:I64 i.els
 pos:I64 i.pos.1∧I64 i.pos.2
theorem ins_wf {xs:List Dt} (h:WfD insT xs):∃ i:In1,xs = i.row∧InOk i:=by
 obtain ⟨_,_,rfl,h1,h⟩:=st1 h
 obtain ⟨_,_,rfl,h2,h⟩:=st1 h
 obtain ⟨_,_,rfl,h3,h⟩:=st1 h
 obtain ⟨_,_,rfl,h4,h⟩:=st1 h
 obtain ⟨_,_,rfl,h5,h⟩:=st1 h
 obtain ⟨_,_,rfl,h6,h⟩:=st1 h
 obtain ⟨_,_,rfl,h7,h⟩:=st1 h
 obtain ⟨_,_,rfl,h8,h⟩:=st1 h
 obtain ⟨_,_,rfl,h9,h⟩:=st1 h
 obtain ⟨_,_,rfl,h10,h⟩:=st1 h
 obtain ⟨_,_,rfl,h11,h⟩:=st1 h
 obtain ⟨_,_,rfl,h12,h⟩:=st1 h
 obtain rfl:=st0 h
 obtain ⟨x1,rfl,k1⟩:=int_wf h1
 obtain ⟨x2,rfl,k2⟩:=int_wf h2
 obtain ⟨x3,rfl,k3⟩:=int_wf h3
 obtain ⟨x4,rfl,k4⟩:=int_wf h4
 obtain ⟨x5,rfl,k5⟩:=int_wf h5
 obtain ⟨x6,rfl,k6⟩:=int_wf h6
 obtain ⟨x7,rfl,k7⟩:=str_wf h7
 obtain ⟨x8,rfl,k8⟩:=ints_wf h8
 obtain ⟨x9,rfl,k9⟩:=ints_wf h9
 obtain ⟨x10,rfl,k10⟩:=int_wf h10
 obtain ⟨x11,rfl,k11⟩:=int_wf h11
 obtain ⟨x12,rfl,k12⟩:=pos_wf h12
 exact ⟨⟨x1,x2,x3,x4,x5,x6,x7,x8,x9,x10,x11,x12⟩,rfl,k1,k2,k3,k4,k5,k6,k7,k8,k9,k10,k11,k12⟩
structure CdOk (c:Cd1):Prop where
 name:c.name.length ≤ maxLen
 params:I64 c.params
 vars:c.vars.length ≤ maxLen∧∀ v,v ∈ c.vars→VrOk v
 ret:VrOk c.ret
 frm:c.frm.length ≤ maxLen∧∀ x,x ∈ c.frm→I64 x
 ins:c.ins.length ≤ maxLen∧∀ i,i ∈ c.ins→InOk i
theorem code_wf {xs:List Dt} (h:WfD codeT xs):∃ c:Cd1,xs = c.row∧CdOk c:=by
 obtain ⟨_,_,rfl,h1,h⟩:=st1 h
 obtain ⟨_,_,rfl,h2,h⟩:=st1 h
 obtain ⟨_,_,rfl,h3,h⟩:=st1 h
 obtain ⟨_,_,rfl,h4,h⟩:=st1 h
 obtain ⟨_,_,rfl,h5,h⟩:=st1 h
 obtain ⟨_,_,rfl,h6,h⟩:=st1 h
 obtain rfl:=st0 h
 obtain ⟨x1,rfl,k1⟩:=str_wf h1
 obtain ⟨x2,rfl,k2⟩:=int_wf h2
 obtain ⟨x3,rfl,k3⟩:=sl_of (fun _ h=>var_wf h) h3
 obtain ⟨x4,rfl,k4⟩:=var_wf h4
 obtain ⟨x5,rfl,k5⟩:=ints_wf h5
 obtain ⟨x6,rfl,k6⟩:=sl_of (fun _ h=>ins_wf h) h6
 exact ⟨⟨x1,x2,x3,x4,x5,x6⟩,rfl,k1,k2,k3,k4,k5,k6⟩
structure MdOk (m:Md1):Prop where
 structs:m.structs.length ≤ maxLen∧∀ s,s ∈ m.structs→ScOk s
 funcs:m.funcs.length ≤ maxLen∧∀ c,c ∈ m.funcs→CdOk c
theorem mod_wf {xs:List Dt} (h:WfD modT xs):∃ m:Md1,argOf modT xs = m.av∧MdOk m:=by
 obtain ⟨_,_,rfl,h1,h⟩:=st1 h
 obtain ⟨_,_,rfl,h2,h⟩:=st1 h
 obtain rfl:=st0 h
 obtain ⟨x1,rfl,k1⟩:=sl_of (fun _ h=>struct_wf h) h1
 obtain ⟨x2,rfl,k2⟩:=sl_of (fun _ h=>code_wf h) h2
 exact ⟨⟨x1,x2⟩,rfl,k1,k2⟩
theorem MdOk.names {m:Md1} (h:MdOk m):∀ s,s ∈ m.structs→∀ f,f ∈ s.fields→f.name.length ≤ 9223372036854775807:=fun s hs f hf=>(((h.structs.2 s hs).fields f hf).name)
theorem int_arg {xs:List Dt} (h:WfD (.int .i64) xs):∃ n,argOf (.int .i64) xs = .d (.int .i64 n)∧I64 n:=by
 obtain ⟨n,rfl,k⟩:=int_wf h
 exact ⟨n,rfl,k⟩
theorem str_arg {xs:List Dt} (h:WfD .str xs):∃ s,argOf .str xs = .d (.str s)∧s.length ≤ maxLen:=by
 obtain ⟨n,rfl,k⟩:=str_wf h
 exact ⟨n,rfl,k⟩
end Go.Proofs.YticliodhjfednaaGreat
namespace Go.Proofs.YticliodhjfednaaGreat
open Go Go.Ab Go.RowKit
theorem two_gh {α:Type} {x y z:α} {r:Nat} (h:[x,z][r]? = some y):(r = 0∧y = x) ∨ (r = 1∧y = z):=by
 rcases r with _ | _ | r
 ·simp at h; exact .inl ⟨rfl,h.symm⟩
 ·simp at h; exact .inr ⟨rfl,h.symm⟩
 ·simp at h
def isU (c:AV):Bool:=match c with
 | .d (.int .u64 _)=>true
 | _=>false
theorem isU_of {c:AV} (h:isU c = true):∃ z,c = .d (.int .u64 z):=by
 unfold isU at h
 split at h
 ·exact ⟨_,rfl⟩
 ·cases h
theorem new_post {P:Program} {w w':World} {Im:Imm} {x:Gh} {bs:List (List AV)} {cs:List AV} {gb cap:Nat} {cur:Array Value} {t:TypeId} (hH:HR P w Im [x] [.reg bs]) (hu:∀ c,c ∈ cs→isU c = true) (hbase:w.heap.size ≤ gb) (hblk:w'.heap[gb]? = some (.cells cur t (0,0)))
  (hcap:cs.length ≤ cap) (hsz:cs.length ≤ cur.size) (hrep:∀ (i:Nat) (v:Value) (c:AV),cur.toList[i]? = some v→cs[i]? = some c→∃ z,v = .int .u64 z∧c = .d (.int .u64 z)) (hone:∀ u,u ∈ cur.toList→u.oneCell' = true) (hb:Below w.heap.size w w') :
  CallPost P w Im [x] (.ret (.arr 1 0 cs.length 1)) [.reg bs,.cells cs] (.returned (.slice (some ⟨gb,0,none⟩) cs.length cap)) w':=by
 have hIm:=hH.im
 have hglt:gb < w'.heap.size:=(Array.getElem?_eq_some_iff.1 hblk).1
 have keep:∀ (b o:Nat),Im b o→w'.cell? ⟨b,o,none⟩ = w.cell? ⟨b,o,none⟩:=fun b o h=>by unfold World.cell?; rw [hb.block b (hIm b o h)]
 have e:Ext w Im [x] w' Im ([x] ++ [.cell gb]):=⟨hb.os,hb.tape,hb.output,hb.size,fun _ _ h=>h,keep,fun k hk _=>hb.block k hk,fun _ _ h=>.inl h,fun k hk=>by
  obtain ⟨r,y,h1,h2⟩:=hk
  rcases two_gh h1 with ⟨rfl,rfl⟩ | ⟨rfl,rfl⟩
  ·exact .inl ⟨0,y,rfl,h2⟩
  ·exact .inr (by rw [← show gb = k from h2]; exact hbase),gle_more _ _⟩
 refine ⟨Im,[x,.cell gb],hH.go e rfl (fun r=>r = 1) (fun r h=>?_) (fun r y k h hx ho=>?_) (fun r cs2 h hc=>?_) (fun r ep s h hc=>?_) (fun r es h hc=>?_) (fun r a b c h hc=>?_) (fun r acc h hc=>?_) (fun r r' k y y' h hne h1 h2 ho=>?_) (fun r k y h h1 h2=>?_) (fun b o h=>Nat.lt_of_lt_of_le (hIm b o h) hb.size),e,_,rfl,.arr (b:=gb) rfl (.inl rfl) hcap⟩
 ·rcases r with _ | _ | r
  ·exact ⟨rfl,rfl⟩
  ·exact absurd rfl h
  ·exact ⟨rfl,rfl⟩
 ·have hl:=hH.lt k ⟨r,y,hx,ho⟩
  exact ⟨hb.block k hl,fun _ h=>h⟩
 ·subst h
  simp only [List.getElem?_cons_succ,List.getElem?_cons_zero,Option.some.injEq,AObj.cells.injEq] at hc
  subst hc
  refine ⟨gb,rfl,cur.toList,t,hblk,by simpa using hsz,fun i v c hv hc=>?_,hone,fun o ho=>?_⟩
  ·obtain ⟨z,rfl,rfl⟩:=hrep i v c hv hc
   exact .d (.int _ _)
  ·have:=hIm _ _ ho; omega
 ·subst h; cases hc
 ·subst h; cases hc
 ·subst h; cases hc
 ·subst h; cases hc
 ·subst h
  simp only [List.getElem?_cons_succ,List.getElem?_cons_zero,Option.some.injEq] at h1
  subst h1
  have hk:gb = k:=ho
  subst hk
  rcases two_gh h2 with ⟨rfl,rfl⟩ | ⟨rfl,rfl⟩
  ·intro ho2
   have:=hH.lt gb ⟨0,_,rfl,ho2⟩
   omega
  ·exact absurd rfl hne
 ·subst h
  simp only [List.getElem?_cons_succ,List.getElem?_cons_zero,Option.some.injEq] at h1
  subst h1
  have hk:gb = k:=h2
  omega
def rcloneX:List AV→List AObj→Option (Out × List AObj)
 | [.rs k 0 n 1],[.reg bs]=>match bs[k]? with
  | some cs=>if cs.length = n∧n ≤ 1000∧cs.all isU = true then some (.ret (.arr 1 0 n 1),[.reg bs,.cells cs]) else none
  | none=>none
 | _,_=>none
theorem rclone_sound (as0:List AV) (H:List AObj) (out:Out) (H':List AObj) (h:rcloneX as0 H = some (out,H')):(∀ args w,(callFunc 44 args).run Tryz.prog w = .ok (.enter 44 args) w)∧H.length ≤ H'.length ∧
  ∀ (w:World) (Im:Imm) (g:List Gh) (vs:List Value),HR Tryz.prog w Im g H→RepAs w Im g vs as0→Calls Tryz.prog 44 ⟨vs⟩ w (CallPost Tryz.prog w Im g out H'):=by
 unfold rcloneX at h
 split at h
 ·rename_i k n bs
  split at h
  ·rename_i cs hk
   split at h
   ·rename_i hc
    obtain ⟨rfl,hn,hu⟩:=hc
    cases h
    refine ⟨enter_of Tryz.func44 (by kernel_rfl) rfl,by simp,fun w Im g vs hH hr=>?_⟩
    have hu2:∀ c,c ∈ cs→isU c = true:=fun c hc=>List.all_eq_true.1 hu c hc
    match g,hH.len with
    | [x],_=>
     obtain ⟨hl,hr⟩:=hr
     match vs,hl with
     | [v],_=>
      have hv:=hr 0 v _ rfl rfl
      cases hv with
      | rs hg0 hk0 ho hc0=>
       rename_i off' b cap blks _
       obtain ⟨blks',q1,q2,q3,q4⟩:=hH.rg.at_ bs rfl
       rw [hg0] at q1
       cases q1
       obtain ⟨us,t,j1,j2,j3,j4,j5⟩:=q4 k b cs hk0 hk
       rcases Nat.eq_zero_or_pos cs.length with hz | hz
       ·have hcs:cs = []:=List.length_eq_zero_iff.1 hz
        subst hcs
        refine (cloneU_none ⟨b,off',none⟩ cap w).mono ?_
        rintro e w' ⟨gb,cap2,cur,rfl,hcl⟩
        exact new_post (cs:=[]) hH hu2 hcl.base hcl.block (Nat.zero_le _) (Nat.zero_le _) (fun i v c _ h=>by simp at h) hcl.one hcl.below
       ·have ho':off' = 0:=by omega
        subst ho'
        have htl:(us.take cs.length).length = cs.length:=by rw [List.length_take]; omega
        refine (cloneU_some ⟨b,0,none⟩ cs.length cap (us.take cs.length) w htl hz (by omega) (fun j u hj=>?_) (fun u hm=>?_)).mono ?_
        ·have hj2:=(List.getElem?_eq_some_iff.1 hj).1
         rw [List.getElem?_take,if_pos (by omega)] at hj
         rw [add_none,Nat.zero_add,cell_of_row w b j _ t (0,0) j1]
         simpa using hj
        ·exact j4 u (List.mem_of_mem_take hm)
        ·rintro e w' ⟨gb,cap2,cur,rfl,hcl⟩
         refine new_post hH hu2 hcl.base hcl.block hcl.fit (by have:=hcl.size; have:=hcl.fit; omega) (fun i v c hv hc=>?_) hcl.one hcl.below
         have hi:=(List.getElem?_eq_some_iff.1 hc).1
         have h1:(cur.toList.take cs.length)[i]? = some v:=by rw [List.getElem?_take,if_pos hi]; exact hv
         rw [hcl.take,List.getElem?_take,if_pos hi] at h1
         have h2:=j3 i v c h1 hc
         obtain ⟨z,rfl⟩:=isU_of (hu2 c (List.mem_of_getElem? hc))
         exact ⟨z,repA_int h2,rfl⟩
   ·cases h
  ·cases h
 ·cases h
theorem frz_post {P:Program} {w w':World} {Im:Imm} {rows:List (List Dt)} {sz:Nat} {e:Ending} (h:CallPost P w Im [] (.ret (.grow 0 0 rows)) [.grow 0 sz] e w'):CallPost P w Im [] (.ret (.d (.sl rows))) [] e w':=by
 obtain ⟨Im',g',j1,j2,v,rfl,j3⟩:=h
 have noOwn:∀ k,¬ Owns [] k:=by
  rintro k ⟨r,x,h,hk⟩
  simp at h
 refine ⟨Im',[],⟨rfl,fun r cs hr=>by simp at hr,fun r e sz hr=>by simp at hr,fun r e sz cs hr=>by simp at hr,fun r es hr=>by simp at hr,fun r s n q hr=>by simp at hr,fun r a hr=>by simp at hr,fun r r' k x x' _ hr=>by simp at hr,fun k hk=>by obtain ⟨r,x,hr,_⟩:=hk; simp at hr,j1.im,j1.tab,fun r t cs hr=>by simp at hr,.none (fun r bs hr=>by simp at hr) (fun r x hr=>by simp at hr)⟩,⟨j2.os,j2.tape,j2.output,j2.size,j2.mono,j2.keep,fun k hk _=>j2.frame k hk (noOwn k),j2.new,fun k hk=>by obtain ⟨r,x,hr,_⟩:=hk; simp at hr,GLe.refl _⟩,v,rfl,?_⟩
 cases j3 with
 | grow h hg hsz hle he=>exact .d h
def nextX:List AV→List AObj→Option (Out × List AObj)
 | [.agg [.d (.int .i64 op),.d (.int .i64 _),.d (.int .i64 _),.d (.int .i64 _),.d (.int .i64 _),.d (.int .i64 _),.d (.str _),.d _,.d _,.d (.int .i64 t),.d (.int .i64 els),.d (.int .i64 _),.d (.int .i64 _)],.d (.int .i64 _)],[]=>if op = 17∧t = els then some (.ret (.d (.sl [[.int .i64 t]])),[]) else none
 | _,_=>none
theorem next_sound (as0:List AV) (H:List AObj) (out:Out) (H':List AObj) (h:nextX as0 H = some (out,H')):(∀ args w,(callFunc 48 args).run Tryz.prog w = .ok (.enter 48 args) w)∧H.length ≤ H'.length ∧
  ∀ (w:World) (Im:Imm) (g:List Gh) (vs:List Value),HR Tryz.prog w Im g H→RepAs w Im g vs as0→Calls Tryz.prog 48 ⟨vs⟩ w (CallPost Tryz.prog w Im g out H'):=by
 unfold nextX at h
 split at h
 ·rename_i op d a b f n s x7 x8 t els p q k
  split at h
  ·rename_i hc
   obtain ⟨rfl,rfl⟩:=hc
   cases h
   refine ⟨enter_of Tryz.func48 (by kernel_rfl) rfl,Nat.le_refl _,fun w Im g vs hH hr=>?_⟩
   have hg:g = []:=List.length_eq_zero_iff.1 hH.len
   subst hg
   obtain ⟨v0,v1,rfl,h0,h1⟩:=repAs_two hr
   rw [repA_int h1]
   cases h0 with
   | agg us cs hl ho hh=>
    match us,hl with
    | [u0,u1,u2,u3,u4,u5,u6,u7,u8,u9,u10,u11,u12],_=>
     have e0:=repA_int (hh 0 _ _ rfl rfl)
     have e1:=repA_int (hh 1 _ _ rfl rfl)
     have e2:=repA_int (hh 2 _ _ rfl rfl)
     have e3:=repA_int (hh 3 _ _ rfl rfl)
     have e4:=repA_int (hh 4 _ _ rfl rfl)
     have e5:=repA_int (hh 5 _ _ rfl rfl)
     have e6:=repA_str (hh 6 _ _ rfl rfl)
     have e9:=repA_int (hh 9 _ _ rfl rfl)
     have e10:=repA_int (hh 10 _ _ rfl rfl)
     have e11:=repA_int (hh 11 _ _ rfl rfl)
     have e12:=repA_int (hh 12 _ _ rfl rfl)
     subst e0 e1 e2 e3 e4 e5 e6 e9 e10 e11 e12
     refine (next_same d a b f n p q k ⟨⟨s⟩⟩ u7 u8 (ho _ (by simp)) (ho _ (by simp)) t w).mono ?_
     rintro e w' ⟨v',rfl,ho2,hb⟩
     refine frz_post (sz:=1) (own_post (rows:=[[.int .i64 t]]) hH (fun row hrow=>by simp at hrow; subst hrow; rfl) (fun k u x h hx=>?_) ho2 hb)
     cases k with
     | zero=>
      simp at h hx
      subst h hx
      exact .int _ _
     | succ k=>simp at h
  ·cases h
 ·cases h
noncomputable def extF0:Sem':=fun f as0 H=>if f = 131 then wordX as0 H else if f = 76 then cloneX as0 H else if f = 44 then rcloneX as0 H else if f = 48 then nextX as0 H else none
theorem extF0_ok:Sound Tryz.prog extF0:=by
 intro f as0 H out H' h
 unfold extF0 at h
 split at h
 ·subst f
  exact word_sound as0 H out H' h
 ·split at h
  ·subst f
   exact clone_sound as0 H out H' h
  ·split at h
   ·subst f
    exact rclone_sound as0 H out H' h
   ·split at h
    ·subst f
     exact next_sound as0 H out H' h
    ·cases h
def isRcl (f:Nat):Bool:=f == 44
noncomputable def extF:Sem':=fun f as0 H=>if isRcl f = true then absS extF0 isRcl f as0 H else extF0 f as0 H
theorem extF_ok:Sound Tryz.prog extF:=by
 intro f as0 H out H' h
 unfold extF at h
 split at h
 ·exact absS_ok extF0_ok isRcl f as0 H out H' h
 ·exact extF0_ok f as0 H out H' h
theorem rowB_isU (r:Rw):(rowB r).all isU = true:=by
 unfold rowB
 rw [List.all_map,List.all_eq_true]
 intro x _
 rfl
theorem mv_row (m:Nat) (r:Rw):(rowB r).map (mvA 1 m) = rowB r:=by
 unfold rowB
 rw [List.map_map]
 exact List.map_congr_left fun x _=>rfl
theorem extF_tg:TG extF:=by
 have hne:∀ f xs H,f ≠ 131→f ≠ 76→f ≠ 44→f ≠ 48→extF f xs H = none:=by
  intro f xs H h1 h2 h3 h4
  unfold extF
  rw [if_neg (by unfold isRcl; simpa using h3)]
  unfold extF0
  rw [if_neg h1,if_neg h2,if_neg h3,if_neg h4]
 have hcl:Clear extF:=fun f xs H h=>hne f xs H (by rintro rfl; cases h) (by rintro rfl; cases h) (by rintro rfl; cases h) (by rintro rfl; cases h)
 refine ⟨⟨⟨hcl⟩,fun R k r hk hr=>?_,fun i k h1 h2=>?_,fun i k h=>?_⟩,⟨⟨hcl⟩,fun op=>?_,fun l hl=>?_⟩,fun xs H=>hne _ xs H (by decide) (by decide) (by decide) (by decide)⟩
 ·unfold extF
  rw [if_pos (by decide)]
  unfold absS
  rw [if_pos (by decide)]
  unfold extF0
  rw [if_neg (by decide),if_neg (by decide),if_pos rfl]
  have hk2:(rgB R)[k]? = some (rowB r):=by unfold rgB; rw [List.getElem?_map,hk]; rfl
  unfold rcloneX
  simp only [hk2]
  rw [if_pos ⟨rowB_len r,hr,rowB_isU r⟩]
  show absorbK 1 _ _ _ = _
  unfold absorbK
  rw [if_pos]
  ·show some (Out.ret (.rs ((rgB R).length + 0) 0 r.length 1),[AObj.reg (rgB R ++ [mvL 1 (rgB R).length (rowB r)])]) = _
   rw [mvL_map,mv_row,rgB_one,rgB_len]
   rfl
  ·refine ⟨by decide,Nat.zero_le _,fun o ho=>?_,fun o ho=>by simp at ho,fun q hq=>?_⟩
   ·simp at ho
    subst ho
    intro c hc
    unfold rowB at hc
    obtain ⟨x,_,rfl⟩:=List.mem_map.1 hc
    rfl
   ·simp [outC,mvA,refs] at hq
 ·unfold extF
  rw [if_neg (by decide)]
  unfold extF0
  rw [if_neg (by decide),if_neg (by decide),if_neg (by decide),if_pos rfl]
  unfold nextX In1.av
  simp only [h1,h2]
  simp [ints,rowI]
 ·unfold extF
  rw [if_neg (by decide)]
  unfold extF0
  rw [if_neg (by decide),if_neg (by decide),if_neg (by decide),if_pos rfl]
  unfold nextX In1.av
  simp only
  rw [if_neg h]
 ·unfold extF
  rw [if_neg (by decide)]
  unfold extF0
  rw [if_pos rfl]
  rfl
 ·unfold extF
  rw [if_neg (by decide)]
  unfold extF0
  rw [if_neg (by decide),if_pos rfl]
  unfold cloneX
  simp only
  rw [if_pos ⟨by simpa using hl,rows3_map l⟩]
noncomputable def extL:Sem':=fun f as0 H=>if f = 16 then dropR (G extF) f as0 H else extF f as0 H
theorem extL_ok:Sound Tryz.prog extL:=by
 intro f as0 H out H' h
 unfold extL at h
 split at h
 ·exact dropR_ok rfl (G_ok extF_ok) f as0 H out H' h
 ·exact extF_ok f as0 H out H' h
theorem drop_plain {c:AV} {H:List AObj} (h:refs c = []∧hasRp c = false):dropK (some (.ret c,H)) = some (.ret c,[]):=by
 unfold dropK
 exact if_pos h
theorem mcheckA_plain (m:Md1):refs (mcheckA m) = []∧hasRp (mcheckA m) = false:=by
 rcases mcheck_ok (m:=m) with ⟨s,a,b,d,h,_⟩ | ⟨h,_⟩
 ·rw [h]; constructor <;> simp [refs,refsAL,hasRp,hasRpL]
 ·rw [h]; constructor <;> simp [refs,refsAL,hasRp,hasRpL]
theorem extL_tl:TL extL:=by
 have hw:=extF_tg
 have key:∀ f xs H,f ≠ 16→extL f xs H = extF f xs H:=fun f xs H h=>if_neg h
 refine ⟨⟨⟨fun f xs H h=>?_⟩,fun op=>?_,fun l hl=>?_⟩,fun m hm hnm=>?_⟩
 ·rw [key f xs H (by rintro rfl; cases h)]
  exact hw.tm.toTX.clear f xs H h
 ·rw [key _ _ _ (by decide)]; exact hw.tm.word op
 ·rw [key _ _ _ (by decide)]; exact hw.tm.clone l hl
 ·unfold extL
  rw [if_pos rfl]
  obtain ⟨H',h⟩:=mcheck_e hw m hm hnm
  show dropK (G extF 16 _ [.reg []]) = _
  rw [h]
  exact drop_plain (mcheckA_plain m)
theorem bools_arg {xs:List Dt} (h:WfD (.sl .bool) xs):∃ l:List Bool,argOf (.sl .bool) xs = .d (.sl (l.map rowT)):=by
 obtain ⟨l,rfl,_⟩:=sl_of (f:=rowT) (Q:=fun _=>True) (fun xs h=>by obtain ⟨b,rfl⟩:=bool_wf h; exact ⟨b,rfl,trivial⟩) h
 exact ⟨l,rfl⟩
end Go.Proofs.YticliodhjfednaaGreat
namespace Go.Proofs.YticliodhjfednaaGreat
open Go Go.Ab Go.ChangeShapes Go.WideShapes Go.ChangeAt Go.RowKit
theorem movesWays_own:ownKnob Tryz.prog.godebug = none:=by kernel_rfl
theorem movesWays_laidOut:laidOutB Tryz.prog = true:=by kernel_rfl
theorem movesWays_reads {l:List AV} (h:Reads [modT,.int .i64,.sl .bool] l):G extL 5 l [] = some (.ret (.d (.bool true)),[]):=by
 obtain ⟨x0,l0,h0,rfl,x1,l1,h1,rfl,x2,l2,h2,rfl,rfl⟩:=h
 obtain ⟨m,e,hm⟩:=mod_wf h0
 obtain ⟨f,e1,_⟩:=int_arg h1
 obtain ⟨way,e2⟩:=bools_arg h2
 rw [e,e1,e2]
 exact ways_e extL_tl (malive_e extL_tl) m f way hm.names
set_option maxRecDepth 100000 in
theorem movesWays_lifted (os:Os) (started:os.Started) (H:Type) (enc:TypeId × Value→H) :
  ReturnsInHanded {} Tryz.checked os 5 .any (Rows.movesWaysSpec.pre6 enc Tryz.prog Tryz.f5 Rows.movesWaysRow.domain false) (Rows.movesWaysSpec.post enc Tryz.prog Tryz.f5 false true false false):=by
 refine returnsInHanded_of_change (C:=Tryz.checked) movesWays_own started (by kernel_rfl) Tryz.func5
  (ChangeSpec.witness6 (enc:=enc) (C:=Tryz.checked) false ⟨#[],#[.agg ⟨[.slice none 0 0,.slice none 0 0]⟩,.int .i64 0,.slice none 0 0],[]⟩ 8 (by kernel_rfl) (by kernel_rfl) (by kernel_rfl) (by kernel_rfl)) ?_
 intro W base args ds gs before hval hW _ _
 refine law_contract movesWays_laidOut (G_ok extL_ok) (Ts:=[modT,.int .i64,.sl .bool]) (by rw [Tryz.params5]; kernel_rfl) rfl ?_ (by kernel_rfl) Tryz.underlying4 (by rw [Tryz.params5]; decide +kernel) (fun l hl=>movesWays_reads hl) W base args ds gs before hval hW
 intro ds hl
 match ds,hl with
 | [d0,d1,d2],_=>exact ⟨rfl,rfl,rfl⟩
theorem movesWays_holds:Rows.MovesWaysSaid:=
 OpenClaim.holds_of_wide 5 Tryz.f5 rfl rfl rfl rfl rfl rfl rfl ⟨rfl,rfl,rfl,rfl,rfl⟩ rfl rfl rfl rfl rfl (by kernel_rfl) Tryz.func5 (by kernel_rfl)
  (of_decide_eq_true (by kernel_rfl)) (by unfold Func.isWrapper; first | (rw [if_pos (by decide +kernel)]; kernel_rfl) | (rw [if_neg (by decide +kernel)]; exact ⟨rfl,rfl⟩))
  (fun os started H enc _=>movesWays_lifted os started H enc)
end Go.Proofs.YticliodhjfednaaGreat
