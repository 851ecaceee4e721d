/- Loops whose states are told by what changes. Conditions: none. -/
import Derived.Test.YticliodhjfednaaGreatAbX4
namespace Go.Ab
open Go
def newV(k:Nat)(v:AV):List (Nat×AV)→AV
 | []=>v
 | (j,x)::l=>if k=j then x else newV k v l
def updV(V:List (Nat×AV)):List (Nat×AV)→List (Nat×AV)
 | []=>[]
 | (k,v)::l=>(k,newV k v V)::updV V l
def updO(H:List AObj):List (Nat×AObj)→List AObj
 | []=>H
 | (r,o)::W=>updO (H.set r o) W
def St.upd(st:St)(V:List (Nat×AV))(W:List (Nat×AObj)):St:=⟨updV V st.vs,st.ts,updO st.H W⟩
theorem upd_mk(vs ts H V W):St.upd ⟨vs,ts,H⟩ V W=⟨updV V vs,ts,updO H W⟩:=rfl
theorem newV_nil(k:Nat)(v:AV):newV k v []=v:=rfl
theorem newV_cons(k:Nat)(v:AV)(j:Nat)(x:AV)(l):newV k v ((j,x)::l)=if k=j then x else newV k v l:=rfl
theorem updV_nil(V):updV V []=[]:=rfl
theorem updV_cons(V)(k:Nat)(v:AV)(l):updV V ((k,v)::l)=(k,newV k v V)::updV V l:=rfl
theorem updO_nil(H):updO H []=H:=rfl
theorem updO_cons(H)(r:Nat)(o:AObj)(W):updO H ((r,o)::W)=updO (H.set r o) W:=rfl
attribute [go_sem] upd_mk newV_nil newV_cons updV_nil updV_cons updO_nil updO_cons
section
variable {f:RC→RC}{h:St→Option St}{st0 st1:St}{L:RC}
theorem loop_upd(hL:loopA f h st0=L)(h1:h st0=some st1){K:RC→Prop}{α:Type}(I:α→Prop)(m:α→Nat)(V:α→List (Nat×AV))(W:α→List (Nat×AObj))(x0:α)(e0:st1.upd (V x0) (W x0)=st1)(hI:I x0)
  (step:∀ x,I x→∀ next:St→RC,(∀ y st',I y→m y<m x→h st'=some (st1.upd (V y) (W y))→K (next st'))→K (loopK next (f (.go (st1.upd (V x) (W x)))))):K L:=
 loop_post hL I m (fun x=>st1.upd (V x) (W x)) x0 (by rw[e0,h1]) hI step
theorem range_upd(hL:loopA f h st0=L)(h1:h st0=some st1){K:RC→Prop}{α β:Type}(l:List β)(row:β→List Dt)(I:List β→Nat→α→Prop)(V:Nat→α→List (Nat×AV))(W:Nat→α→List (Nat×AObj))(a0:α)(e0:st1.upd (V 0 a0) (W 0 a0)=st1)(hI:I l 0 a0)
  (step:∀ x rest k a,I (x::rest) k a→(k:Int)<((l.map row).length:Int)→(l.map row)[k]?=some (row x)→l[k]?=some x→k<l.length→rest=l.drop (k+1)→∀ next:St→RC,
   (∀ b st',I rest (k+1) b→h st'=some (st1.upd (V (k+1) b) (W (k+1) b))→K (next st'))→K (loopK next (f (.go (st1.upd (V k a) (W k a))))))
  (last:∀ k a,I [] k a→¬(k:Int)<((l.map row).length:Int)→k=l.length→∀ next:St→RC,K (loopK next (f (.go (st1.upd (V k a) (W k a)))))):K L:=by
 refine loop_upd hL h1 (fun x:Nat×α=>x.1≤l.length∧I (l.drop x.1) x.1 x.2) (fun x=>l.length-x.1) (fun x=>V x.1 x.2) (fun x=>W x.1 x.2) (0,a0) e0 ⟨Nat.zero_le _,by simpa using hI⟩ ?_
 rintro⟨k,a⟩ ⟨k1,k2⟩ next ih
 simp only at k1 k2 ih ⊢
 by_cases hk:k<l.length
 ·rw[List.drop_eq_getElem_cons hk]at k2;refine step l[k] (l.drop (k+1)) k a k2 (by rw[List.length_map];omega) (by rw[List.getElem?_map,List.getElem?_eq_getElem hk];rfl) (List.getElem?_eq_getElem hk) hk rfl next (fun b st' hb hs=>ih (k+1,b) st' ⟨by simp only;omega,hb⟩ (by simp only;omega) hs)
 ·rw[List.drop_eq_nil_of_le (by omega)]at k2
  exact last k a k2 (by rw[List.length_map];omega) (by omega) next
end
end Go.Ab
