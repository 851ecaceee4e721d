/- ir.Word, by its walk. Conditions: none. -/
import Derived.Test.YticliodhjfednaaGreatUtil
namespace Go.Proofs.YticliodhjfednaaGreat
open Go
def irWords:List (List UInt8):=[[110,117,109],[110,117,108,108],[99,111,112,121],[98,105,110],[103,101,116],[112,117,116],[108,111,97,100],[115,116,111,114,101],[103,105,118,101],[116,97,107,101],[115,101,116],[110,101,119],[102,114,101,101],[105,115,110,117,108,108],[99,97,108,108],[106,117,109,112],[98,114,97,110,99,104],[114,101,116]]
def wordP(op:Int):List UInt8:=if 1≤op∧op≤18 then irWords.getD (op-1).toNat []else []
set_option maxHeartbeats 2000000 in
theorem irword_any(op:Int)(w:World):Calls Tryz.prog 131 #[.int .i64 op] w fun e w'=>e=.returned (.string ⟨⟨wordP op⟩⟩)∧RowKit.Below w.heap.size w w':=by
 by_cases h1:1≤op∧op≤18
 ·obtain⟨k,hk,rfl⟩:∃ k:Nat,k<18∧op=(k:Int)+1:=⟨(op-1).toNat,by omega,by omega⟩
  have e1:¬(k:Int)+1<1:=by omega
  have e2:¬(18:Int)<(k:Int)+1:=by omega
  go_enter Tryz.func131,Tryz.ntmps131
  go_wp2
  go_ret
  refine⟨?_,(RowKit.Below.refl _ _).alloc (Nat.le_refl _) _⟩
  have hkk:k=0∨k=1∨k=2∨k=3∨k=4∨k=5∨k=6∨k=7∨k=8∨k=9∨k=10∨k=11∨k=12∨k=13∨k=14∨k=15∨k=16∨k=17:=by omega
  rcases hkk with rfl|rfl|rfl|rfl|rfl|rfl|rfl|rfl|rfl|rfl|rfl|rfl|rfl|rfl|rfl|rfl|rfl|rfl<;>rfl
 ·have hw:wordP op=[]:=by unfold wordP;rw[if_neg h1]
  rw[hw];have h2:op<1∨18<op:=by omega
  go_enter Tryz.func131,Tryz.ntmps131
  go_wp2
  all_goals (go_ret;exact⟨rfl,(RowKit.Below.refl _ _).alloc (Nat.le_refl _) _⟩)
end Go.Proofs.YticliodhjfednaaGreat
