/- bytes.Clone, for the evaluator: a clone of data grows on. Conditions: none. -/
import Derived.Test.YtkflggjdlflndaaGreatByS
import Derived.Test.YtkflggjdlflndaaGreatAbX4
set_option linter.unusedSimpArgs false
set_option linter.unusedVariables false
namespace Go.Proofs.YtkflggjdlflndaaGreat
open Go Go.Ab Go.RowKit
theorem flatN {sz:Nat} {rows:List (List Dt)} (h:∀ row,row ∈ rows→row.length = sz):rows.flatten.length = rows.length * sz:=by
 induction rows with
 | nil=>simp
 | cons r rows ih=>
  have h1:=h r (by simp)
  have h2:=ih (fun row hr=>h row (by simp [hr]))
  simp only [List.flatten_cons,List.length_append,List.length_cons,Nat.add_mul,Nat.one_mul]
  omega
theorem add_none (b o j:Nat):(⟨b,o,none⟩:Addr).add j = ⟨b,o + j,none⟩:=by unfold Addr.add; split <;> simp_all
theorem one_gh {α:Type} {x y:α} {r:Nat} (h:[x][r]? = some y):r = 0∧y = x:=by
 cases r with
 | zero=>simp at h; exact ⟨rfl,h.symm⟩
 | succ r=>simp at h
theorem gle_nil (g:List Gh):GLe [] g:=⟨fun r b h=>by simp at h,fun r _ _ _ _ _ h=>by simp at h,fun r _ _ h=>by simp at h,fun r _ _ h=>by simp at h,fun r _ h=>by simp at h⟩
theorem own_post {P:Program} {w w':World} {Im:Imm} {t:TypeId} {v':Value} {sz:Nat} {rows:List (List Dt)} {news:List Value} (hH:HR P w Im [] []) (h3:∀ row,row ∈ rows→row.length = sz)
  (hr:∀ (k:Nat) (u:Value) (x:Dt),news[k]? = some u→rows.flatten[k]? = some x→RepD w Im u x) (ho:w'.ownsRow w.heap.size t sz v' rows.length news) (hb:Below w.heap.size w w') :
  CallPost P w Im [] (.ret (.grow 0 0 rows)) [.grow 0 sz] (.returned v') w':=by
 have hIm:=hH.im
 have hfl:=flatN h3
 have keep:∀ (b o:Nat),Im b o→w'.cell? ⟨b,o,none⟩ = w.cell? ⟨b,o,none⟩:=fun b o h=>by unfold World.cell?; rw [hb.block b (hIm b o h)]
 obtain ⟨hl,ho⟩:=ho
 rcases ho with ⟨rfl,h0⟩ | ⟨gb,cap,cur,rfl,hbase,hcur,hcap,_,hsize,htake⟩
 ·have hrows:rows = []:=List.length_eq_zero_iff.1 h0
  subst hrows
  have e:Ext w Im [] w' Im [.gr 0 sz none 0 0]:=⟨hb.os,hb.tape,hb.output,hb.size,fun _ _ h=>h,keep,fun k hk _=>hb.block k hk,fun _ _ h=>.inl h,fun k hk=>by
   obtain ⟨r,x,h1,h2⟩:=hk
   obtain ⟨_,rfl⟩:=one_gh h1
   exact absurd h2.1 (by simp),gle_nil _⟩
  refine ⟨Im,[.gr 0 sz none 0 0],hH.go e rfl (fun r=>r = 0) (fun r h=>?_) (fun r x k h hx=>by simp at hx) (fun r cs h hc=>?_) (fun r ep s h hc=>?_) (fun r es h hc=>?_) (fun r a b c h hc=>?_) (fun r acc h hc=>?_) (fun r r' k x x' h hne h1 h2=>?_) (fun r k x h h1 h2=>?_) (fun b o h=>Nat.lt_of_lt_of_le (hIm b o h) hb.size),e,_,rfl,?_⟩
  ·cases r with
   | zero=>exact absurd rfl h
   | succ r=>simp
  ·cases (one_gh hc).2
  ·obtain ⟨rfl,hc⟩:=one_gh hc
   cases hc
   exact ⟨none,0,0,rfl,Nat.le_refl _,fun _=>rfl,fun b hb=>by cases hb⟩
  ·cases (one_gh hc).2
  ·cases (one_gh hc).2
  ·cases (one_gh hc).2
  ·exact absurd ((one_gh h1).1.trans (one_gh h2).1.symm) hne
  ·obtain ⟨_,rfl⟩:=one_gh h1
   exact absurd h2.1 (by simp)
  ·exact .grow (.sl0 _ _) (by rfl) h3 (Nat.le_refl _) (fun _=>⟨rfl,rfl⟩)
 ·have hglt:gb < w'.heap.size:=(Array.getElem?_eq_some_iff.1 hcur).1
  have e:Ext w Im [] w' (fun b o=>Im b o ∨ (b = gb∧o < rows.length * sz)) [.gr 0 sz (some gb) rows.length cap]:=⟨hb.os,hb.tape,hb.output,hb.size,fun _ _ h=>.inl h,keep,fun k hk _=>hb.block k hk,fun b o h=>by
   rcases h with h | ⟨rfl,_⟩
   ·exact .inl h
   ·exact .inr (.inl hbase),fun k hk=>by
   obtain ⟨r,x,h1,h2⟩:=hk
   obtain ⟨_,rfl⟩:=one_gh h1
   obtain ⟨h2,_⟩:=h2
   cases h2
   exact .inr hbase,gle_nil _⟩
  refine ⟨fun b o=>Im b o ∨ (b = gb∧o < rows.length * sz),[.gr 0 sz (some gb) rows.length cap],hH.go e rfl (fun r=>r = 0) (fun r h=>?_) (fun r x k h hx=>by simp at hx) (fun r cs h hc=>?_) (fun r ep s h hc=>?_) (fun r es h hc=>?_) (fun r a b c h hc=>?_) (fun r acc h hc=>?_) (fun r r' k x x' h hne h1 h2=>?_) (fun r k x h h1 h2=>?_) (fun b o h=>?_),e,_,rfl,?_⟩
  ·cases r with
   | zero=>exact absurd rfl h
   | succ r=>simp
  ·cases (one_gh hc).2
  ·obtain ⟨rfl,hc⟩:=one_gh hc
   cases hc
   refine ⟨some gb,rows.length,cap,rfl,hcap,(fun h=>by cases h),fun b hb hlt=>?_⟩
   cases hb
   refine ⟨cur.toList,t,hcur,by simp [hsize],fun o ho=>?_⟩
   rintro (h | ⟨_,h⟩)
   ·have:=hIm _ _ h; omega
   ·omega
  ·cases (one_gh hc).2
  ·cases (one_gh hc).2
  ·cases (one_gh hc).2
  ·exact absurd ((one_gh h1).1.trans (one_gh h2).1.symm) hne
  ·obtain ⟨_,rfl⟩:=one_gh h1
   obtain ⟨h2,_⟩:=h2
   cases h2
   exact hglt
  ·rcases h with h | ⟨rfl,_⟩
   ·exact Nat.lt_of_lt_of_le (hIm b o h) hb.size
   ·exact hglt
  ·refine .grow (len:=rows.length) (cap:=cap) (base:=some gb) ?_ (by rfl) h3 (Nat.le_refl _) (fun _=>⟨rfl,rfl⟩)
   refine .sl gb 0 cap sz rows (fun k=>news.getD k undef) hcap h3 (fun k hk=>?_) (fun k x hx=>?_)
   ·rw [hfl] at hk
    refine ⟨.inr ⟨rfl,by omega⟩,?_⟩
    rw [List.getD_eq_getElem?_getD,List.getElem?_eq_getElem (by omega),Option.getD_some]
    have:=cell_of_row w' gb k cur t (0,0) hcur
    rw [Nat.zero_add,this]
    have h4:(cur.toList.take (rows.length * sz))[k]? = some news[k]:=by rw [htake,List.getElem?_eq_getElem]
    rw [List.getElem?_take,if_pos hk] at h4
    simpa using h4
   ·have hk:=(List.getElem?_eq_some_iff.1 hx).1
    rw [hfl] at hk
    have hn:news[k]? = some (news.getD k undef):=by
     rw [List.getD_eq_getElem?_getD,List.getElem?_eq_getElem (by omega),Option.getD_some]
    exact (hr k _ x hn hx).ext (fun b o h=>⟨.inl h,keep b o h⟩)

def rowU (n:Int):List Dt:=[.int .u8 n]
def bytesB:List (List Dt)→Option (List Int)
 | []=>some []
 | [.int .u8 x] :: l=>(bytesB l).map (x :: ·)
 | _=>none
theorem bytesB_map:∀ {rows:List (List Dt)} {l:List Int},bytesB rows = some l→rows = l.map rowU
 | [],l,h=>by simp only [bytesB] at h; cases h; rfl
 | c :: cs,l,h=>by
  unfold bytesB at h
  split at h
  ·rename_i heq; cases heq
  ·rename_i x l' heq
   cases heq
   cases h2:bytesB cs with
   | none=>rw [h2] at h; cases h
   | some m=>rw [h2] at h; cases h; rw [bytesB_map h2]; rfl
  ·cases h
theorem bytesB_of (l:List Int):bytesB (l.map rowU) = some l:=by
 induction l with
 | nil=>rfl
 | cons x l ih=>simp only [List.map_cons,rowU,bytesB,ih]; rfl
theorem rowU_flat (l:List Int):(l.map rowU).flatten = l.map fun x=>Dt.int .u8 x:=by
 induction l with
 | nil=>rfl
 | cons x l ih=>simp only [List.map_cons,List.flatten_cons,ih]; rfl
theorem repD_bytes {w:World} {Im:Imm} {v:Value} {l:List Int} (h:RepD w Im v (.sl (l.map rowU))) :
  (∃ a cap,v = .slice a 0 cap∧l = []) ∨ ∃ b o cap,v = .slice (some ⟨b,o,none⟩) l.length cap∧l.length ≤ cap∧∀ (j:Nat) (x:Int),l[j]? = some x→Im b (o + j)∧w.cell? ⟨b,o + j,none⟩ = some (Value.int .u8 x):=by
 generalize hrows:l.map rowU = rows at h
 cases h with
 | sl0 a cap=>left; exact ⟨a,cap,rfl,by simpa using hrows⟩
 | sl b o cap sz rows us hc hsz him hr=>
  right
  have hl:rows.length = l.length:=by rw [← hrows]; simp
  refine ⟨b,o,cap,by rw [hl],by omega,fun j x hx=>?_⟩
  have hfl:rows.flatten = l.map fun x=>Dt.int .u8 x:=by rw [← hrows]; exact rowU_flat l
  have hj:=(List.getElem?_eq_some_iff.1 hx).1
  have hxf:rows.flatten[j]? = some (.int .u8 x):=by rw [hfl,List.getElem?_map,hx]; rfl
  have h1:=him j (by rw [hfl]; simpa using hj)
  refine ⟨h1.1,?_⟩
  rw [h1.2]
  have h2:=hr j _ hxf
  generalize us j = u at h2
  cases h2
  rfl
def bcloneK:Option (List Int)→Option (Out × List AObj)
 | some l=>if l.length ≤ 1000000 then some (.ret (.grow 0 0 (l.map rowU)),[.grow 0 1]) else none
 | none=>none
def bcloneX:List AV→List AObj→Option (Out × List AObj)
 | [.d (.sl rows)],[]=>bcloneK (bytesB rows)
 | [.nils],[]=>some (.ret (.grow 0 0 []),[.grow 0 1])
 | _,_=>none
theorem bcloneX_d (l:List Int) (h:l.length ≤ 1000000):bcloneX [.d (.sl (l.map rowU))] [] = some (.ret (.grow 0 0 (l.map rowU)),[.grow 0 1]):=by
 simp only [bcloneX,bytesB_of,bcloneK]
 rw [if_pos h]
theorem bclone_sound (as0:List AV) (H:List AObj) (out:Out) (H':List AObj) (h:bcloneX as0 H = some (out,H')):(∀ args w,(callFunc 25 args).run Tryz.prog w = .ok (.enter 25 args) w)∧H.length ≤ H'.length ∧
  ∀ (w:World) (Im:Imm) (g:List Gh) (vs:List Value),HR Tryz.prog w Im g H→RepAs w Im g vs as0→Calls Tryz.prog 25 ⟨vs⟩ w (CallPost Tryz.prog w Im g out H'):=by
 have hE:∀ args w,(callFunc 25 args).run Tryz.prog w = .ok (.enter 25 args) w:=enter_of Tryz.func25 (by kernel_rfl) rfl
 unfold bcloneX at h
 split at h
 ·rename_i rows
  unfold bcloneK at h
  cases hi:bytesB rows with
  | none=>rw [hi] at h; cases h
  | some l=>
   rw [hi] at h
   have hrows:=bytesB_map hi
   subst hrows
   simp only at h
   split at h
   ·rename_i hlen
    cases h
    refine ⟨hE,by simp,fun w Im g vs hH hr=>?_⟩
    have hg:g = []:=List.length_eq_zero_iff.1 hH.len
    subst hg
    have h3:∀ row,row ∈ l.map rowU→row.length = 1:=by
     intro row hrow
     obtain ⟨x,_,rfl⟩:=List.mem_map.1 hrow
     rfl
    have hrl:(l.map rowU).length = l.length:=List.length_map _
    have hfl:=rowU_flat l
    obtain ⟨hl,hr⟩:=hr
    match vs,hl with
    | [v],_=>
     cases hr 0 v _ rfl rfl with
     | d hd=>
      have key:∀ (a:Addr) (cap:Nat),v = .slice (some a) l.length cap→(∀ (j:Nat) (x:Int),l[j]? = some x→w.cell? (a.add j) = some (Value.int .u8 x))→Calls Tryz.prog 25 ⟨[v]⟩ w (CallPost Tryz.prog w Im [] (.ret (.grow 0 0 (l.map rowU))) [.grow 0 1]):=by
       rintro a cap rfl hat
       refine (Tryz.bytes_Clone_at a l.length cap l w rfl (by omega) (fun i hi=>?_)).mono ?_
       ·rw [hat i (l.getD i 0) (by rw [List.getD_eq_getElem?_getD,List.getElem?_eq_getElem hi]; rfl)]
       ·rintro e w' ⟨v',rfl,ho,_,hb⟩
        rw [← hrl] at ho
        refine own_post hH h3 (fun k u x h hx=>?_) ho hb
        rw [hfl,List.getElem?_map] at hx
        rw [List.getElem?_map] at h
        cases hz:l[k]? with
        | none=>rw [hz] at h; cases h
        | some z=>
         rw [hz] at h hx
         cases h
         cases hx
         exact .int _ _
      rcases repD_bytes hd with ⟨a,cap,rfl,rfl⟩ | ⟨b,o,cap,rfl,hcap,hat⟩
      ·cases a with
       | none=>
        refine (Tryz.bytes_Clone_nil 0 cap w).mono ?_
        rintro e w' ⟨rfl,rfl⟩
        exact own_post (news:=[]) (t:=5) hH h3 (fun k u x h=>by simp at h) (World.ownsRow_nil _ _ _ _) (Below.refl _ _)
       | some a=>exact key a cap rfl (fun j x h=>by simp at h)
      ·refine key ⟨b,o,none⟩ cap rfl (fun j x h=>?_)
       rw [add_none]
       exact (hat j x h).2
   ·cases h
 ·cases h
  refine ⟨hE,by simp,fun w Im g vs hH hr=>?_⟩
  have hg:g = []:=List.length_eq_zero_iff.1 hH.len
  subst hg
  obtain ⟨hl,hr⟩:=hr
  match vs,hl with
  | [v],_=>
   have hv:=hr 0 v _ rfl rfl
   cases hv
   refine (Tryz.bytes_Clone_nil 0 0 w).mono ?_
   rintro e w' ⟨rfl,rfl⟩
   exact own_post (rows:=[]) (news:=[]) (t:=5) hH (fun row h=>by cases h) (fun k u x h=>by simp at h) (World.ownsRow_nil _ _ _ _) (Below.refl _ _)
 ·cases h
end Go.Proofs.YtkflggjdlflndaaGreat
