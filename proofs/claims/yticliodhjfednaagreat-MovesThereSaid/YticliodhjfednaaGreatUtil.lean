/- Small notions of memory for this seat: 'Chg S w w'': outside the blocks S the world w' is as w was, and has more blocks; slices of integers; objects in blocks. Conditions: none. -/
import Derived.Test.YticliodhjfednaaGreatProg
import Derived.WalkKit
import Derived.ProofKit
import Derived.Lib.Hide
import Derived.Deep.LoopGhost
import Derived.RangeFuncRecord
import Derived.Deep.QuietTactic
import Derived.BigQuiet
import Derived.BigRegion
import Derived.WalkSpells
import Derived.WalkLawsBesides
import Derived.Outline
import Derived.Deep.DeepFit
import Derived.Deep.DeepCutAuto
namespace Go.Proofs.YticliodhjfednaaGreat
open Go.RowKit

structure Chg(S:Nat→Prop)(w w':World):Prop where
 os:w'.os=w.os
 tape:w'.tape=w.tape
 output:w'.output=w.output
 size:w.heap.size≤w'.heap.size
 block:∀ k,k<w.heap.size→¬S k→w'.heap[k]?=w.heap[k]?

theorem Chg.refl(S:Nat→Prop)(w:World):Chg S w w:=⟨rfl,rfl,rfl,Nat.le_refl _,fun _ _ _=>rfl⟩
theorem Chg.trans'{S S':Nat→Prop}{a b c:World}(h:Chg S a b)(k:Chg S' b c)(hs:∀ i,i<a.heap.size→S' i→S i):Chg S a c:=
 ⟨k.os.trans h.os,k.tape.trans h.tape,k.output.trans h.output,Nat.le_trans h.size k.size,
  fun i hi hn=>(k.block i (Nat.lt_of_lt_of_le hi h.size) (fun hx=>hn (hs i hi hx))).trans (h.block i hi hn)⟩
theorem Chg.trans{S:Nat→Prop}{a b c:World}(h:Chg S a b)(k:Chg S b c):Chg S a c:=h.trans' k fun _ _ x=>x
theorem Chg.mono{S S':Nat→Prop}{a b:World}(h:Chg S a b)(hs:∀ i,i<a.heap.size→S i→S' i):Chg S' a b:=
 ⟨h.os,h.tape,h.output,h.size,fun i hi hn=>h.block i hi fun hx=>hn (hs i hi hx)⟩
theorem Chg.drew{S:Nat→Prop}{a w:World}(h:Chg S a w):Chg S a w.drew:=⟨h.os,h.tape,h.output,h.size,h.block⟩
theorem Chg.drewN{S:Nat→Prop}{a w:World}(h:Chg S a w)(n:Nat):Chg S a (w.drewN n):=⟨h.os,h.tape,h.output,h.size,h.block⟩
theorem Chg.alloc{S:Nat→Prop}{a w:World}(h:Chg S a w)(o:Obj):Chg S a (w.alloc o):=
 h.trans' (S':=fun _=>False) ⟨rfl,rfl,rfl,by simp,fun k hk _=>Below.heap_alloc _ _ _ hk⟩ (fun _ _ x=>x.elim)
theorem Chg.setCell{S:Nat→Prop}{a w:World}(h:Chg S a w){p:Addr}(hp:p.block<a.heap.size→S p.block)(u:Value):Chg S a (w.setCell p u):=
 h.trans' (S':=fun k=>k=p.block) ⟨rfl,rfl,rfl,by simp[World.setCell],fun k _ hk=>Below.heap_setCell _ _ _ _ hk⟩ (fun i hi hx=>by subst hx;exact hp hi)
theorem Chg.putObj{S:Nat→Prop}{a w:World}(h:Chg S a w){l:Nat}(hp:l<a.heap.size→S l)(o:Obj):Chg S a (w.putObj l o):=
 h.trans' (S':=fun k=>k=l) ⟨rfl,rfl,rfl,by simp,fun _ _ hk=>World.putObj_heap_other hk⟩ (fun i hi hx=>by subst hx;exact hp hi)
theorem Chg.grown{S:Nat→Prop}{a w w':World}{row:Option Nat}(h:Chg S a w)(hg:w.grownBy w' row)(hr:∀ k,row=some k→k<a.heap.size→S k):Chg S a w':=
 h.trans' (S':=fun k=>row=some k) ⟨hg.os,hg.tape,hg.output,hg.size,fun k hk hn=>hg.block k hk (fun e=>hn e.symm)⟩ (fun i hi hx=>hr i hx hi)
theorem Chg.cell{S:Nat→Prop}{w w':World}(h:Chg S w w'){p:Addr}(hp:p.block<w.heap.size)(hn:¬S p.block):w'.cell? p=w.cell? p:=World.cell?_of_block (w:=w) (h.block p.block hp hn)
theorem Chg.frozen{S:Nat→Prop}{w w':World}(h:Chg S w w'){p:Addr}(hp:p.block<w.heap.size)(hn:¬S p.block):w'.frozen? p=w.frozen? p:=World.frozen?_of_block (w:=w) (h.block p.block hp hn)
theorem Chg.heap{S:Nat→Prop}{w w':World}(h:Chg S w w'){k:Nat}{o:Obj}(hn:¬S k)(ho:w.heap[k]?=some o):w'.heap[k]?=some o:=
 (h.block k (Array.getElem?_eq_some_iff.1 ho).1 hn).trans ho
theorem Chg.below{B:Nat}{w w':World}(h:Chg (fun k=>B≤k) w w')(hB:B≤w.heap.size):Below B w w':=
 ⟨h.os,h.tape,h.output,h.size,fun k hk=>h.block k (by omega) (by omega)⟩



def SliceOf(D:Nat→Prop)(w:World)(v:Value)(cs:List Value):Prop:=
 ∃ a cap,v=.slice a cs.length cap∧cs.length≤cap∧cs.length≤9223372036854775807∧(cs=[]∨∃ b off,a=some ⟨b,off,none⟩∧D b∧∀ i,i<cs.length→w.cell? ⟨b,off+i,none⟩=cs[i]?)
def Ints(D:Nat→Prop)(w:World)(v:Value)(l:List Int):Prop:=SliceOf D w v (l.map (Value.int .i64))
def Bools(D:Nat→Prop)(w:World)(v:Value)(l:List Bool):Prop:=SliceOf D w v (l.map Value.bool)
def IntRows(D:Nat→Prop)(w:World)(v:Value)(ls:List (List Int)):Prop:=
 ∃ vs,SliceOf D w v vs∧vs.length=ls.length∧∀ i,i<ls.length→∃ u,vs[i]?=some u∧Ints D w u (ls[i]?.getD [])

theorem Chg.cell'{S:Nat→Prop}{w w':World}(h:Chg S w w'){p:Addr}{v:Value}(hv:w.cell? p=some v)(hn:¬S p.block):w'.cell? p=some v:=
 (h.cell (World.block_lt_of_cell? w p hv) hn).trans hv

theorem SliceOf.chg{D:Nat→Prop}{w w':World}{v:Value}{cs:List Value}{S:Nat→Prop}(h:SliceOf D w v cs)(hc:Chg S w w')(hs:∀ k,D k→¬S k):SliceOf D w' v cs:=by
 obtain⟨a,cap,rfl,h1,h2,h3⟩:=h
 refine⟨a,cap,rfl,h1,h2,?_⟩
 rcases h3 with h3|⟨b,off,rfl,hb,h4⟩
 ·exact .inl h3
 ·refine .inr ⟨b,off,rfl,hb,fun i hi=>?_⟩
  have h5:=h4 i hi
  rw[List.getElem?_eq_getElem hi]at h5 ⊢
  exact hc.cell' h5 (hs b hb)
theorem SliceOf.mono{D D':Nat→Prop}{w:World}{v:Value}{cs:List Value}(h:SliceOf D w v cs)(hD:∀ k,D k→k<w.heap.size→D' k):SliceOf D' w v cs:=by
 obtain⟨a,cap,rfl,h1,h2,h3⟩:=h
 refine⟨a,cap,rfl,h1,h2,?_⟩
 rcases h3 with h3|⟨b,off,rfl,hb,h4⟩
 ·exact .inl h3
 ·by_cases hc:cs=[]
  ·exact .inl hc
  ·refine .inr ⟨b,off,rfl,hD b hb ?_,h4⟩
   have hl:0<cs.length:=List.length_pos_iff.2 hc
   have h5:=h4 0 hl
   rw[List.getElem?_eq_getElem hl]at h5
   exact World.block_lt_of_cell? w _ h5
theorem Ints.chg{D:Nat→Prop}{w w':World}{v:Value}{l:List Int}{S:Nat→Prop}(h:Ints D w v l)(hc:Chg S w w')(hs:∀ k,D k→¬S k):Ints D w' v l:=SliceOf.chg h hc hs
theorem Bools.chg{D:Nat→Prop}{w w':World}{v:Value}{l:List Bool}{S:Nat→Prop}(h:Bools D w v l)(hc:Chg S w w')(hs:∀ k,D k→¬S k):Bools D w' v l:=SliceOf.chg h hc hs
theorem IntRows.chg{D:Nat→Prop}{w w':World}{v:Value}{ls:List (List Int)}{S:Nat→Prop}(h:IntRows D w v ls)(hc:Chg S w w')(hs:∀ k,D k→¬S k):IntRows D w' v ls:=by
 obtain⟨vs,h1,h2,h3⟩:=h
 refine⟨vs,h1.chg hc hs,h2,fun i hi=>?_⟩
 obtain⟨u,h4,h5⟩:=h3 i hi
 exact⟨u,h4,h5.chg hc hs⟩
theorem IntRows.mono{D D':Nat→Prop}{w:World}{v:Value}{ls:List (List Int)}(h:IntRows D w v ls)(hD:∀ k,D k→k<w.heap.size→D' k):IntRows D' w v ls:=by
 obtain⟨vs,h1,h2,h3⟩:=h
 refine⟨vs,h1.mono hD,h2,fun i hi=>?_⟩
 obtain⟨u,h4,h5⟩:=h3 i hi
 exact⟨u,h4,SliceOf.mono h5 hD⟩
theorem Ints.open{D:Nat→Prop}{w:World}{v:Value}{l:List Int}(h:Ints D w v l):∃ a cap,v=.slice a l.length cap∧l.length≤cap∧l.length≤9223372036854775807 ∧
  (l=[]∨∃ b off,a=some ⟨b,off,none⟩∧D b∧∀ i,i<l.length→w.cell? ⟨b,off+i,none⟩=some (.int .i64 (l[i]?.getD 0))):=by
 obtain⟨a,cap,rfl,h1,h2,h3⟩:=h
 rw[List.length_map]at h1 h2 ⊢;refine⟨a,cap,rfl,h1,h2,?_⟩
 rcases h3 with h3|⟨b,off,rfl,hb,h4⟩
 ·exact .inl (by simpa using h3)
 ·refine .inr ⟨b,off,rfl,hb,fun i hi=>?_⟩
  rw[h4 i (by simpa using hi)]
  simp[hi]
theorem Bools.open{D:Nat→Prop}{w:World}{v:Value}{l:List Bool}(h:Bools D w v l):∃ a cap,v=.slice a l.length cap∧l.length≤cap∧l.length≤9223372036854775807 ∧
  (l=[]∨∃ b off,a=some ⟨b,off,none⟩∧D b∧∀ i,i<l.length→w.cell? ⟨b,off+i,none⟩=some (.bool (l[i]?.getD false))):=by
 obtain⟨a,cap,rfl,h1,h2,h3⟩:=h
 rw[List.length_map]at h1 h2 ⊢;refine⟨a,cap,rfl,h1,h2,?_⟩
 rcases h3 with h3|⟨b,off,rfl,hb,h4⟩
 ·exact .inl (by simpa using h3)
 ·refine .inr ⟨b,off,rfl,hb,fun i hi=>?_⟩
  rw[h4 i (by simpa using hi)]
  simp[hi]
theorem IntRows.open{D:Nat→Prop}{w:World}{v:Value}{ls:List (List Int)}(h:IntRows D w v ls):∃ a cap,v=.slice a ls.length cap∧ls.length≤cap∧ls.length≤9223372036854775807 ∧
  (ls=[]∨∃ b off,a=some ⟨b,off,none⟩∧D b∧∀ i,i<ls.length→∃ u,w.cell? ⟨b,off+i,none⟩=some u∧Ints D w u (ls[i]?.getD [])):=by
 obtain⟨vs,⟨a,cap,rfl,h1,h2,h3⟩,h4,h5⟩:=h
 rw[h4]at h1 h2 ⊢;refine⟨a,cap,rfl,h1,h2,?_⟩
 rcases h3 with h3|⟨b,off,rfl,hb,h6⟩
 ·subst h3;exact .inl (List.eq_nil_of_length_eq_zero (by simpa using h4.symm))
 ·refine .inr ⟨b,off,rfl,hb,fun i hi=>?_⟩
  obtain⟨u,h7,h8⟩:=h5 i hi
  exact⟨u,by rw[h6 i (by omega),h7],h8⟩

end Go.Proofs.YticliodhjfednaaGreat
