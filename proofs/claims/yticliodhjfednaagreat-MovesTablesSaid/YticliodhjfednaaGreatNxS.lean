/- ir.Next of a branch to one place, by its walk. Conditions: none. -/
import Derived.Test.YticliodhjfednaaGreatUtil
import Derived.Test.YticliodhjfednaaGreatCptS
import Derived.Lib.LazyBuf
set_option linter.unusedSimpArgs false
set_option linter.unusedVariables false
namespace Go.Proofs.YticliodhjfednaaGreat
open Go Go.RowKit Go.Lib
set_option maxHeartbeats 2000000 in
theorem next_same(d a b f n p q k:Int)(s:ByteArray)(v7 v8:Value)(h7:v7.oneCell'=true)(h8:v8.oneCell'=true)(t:Int)(w:World) :
  Calls Tryz.prog 48 #[.agg #[.int .i64 17,.int .i64 d,.int .i64 a,.int .i64 b,.int .i64 f,.int .i64 n,.string s,v7,v8,.int .i64 t,.int .i64 t,.int .i64 p,.int .i64 q],.int .i64 k] w fun e w'=>∃ v',e=.returned v'∧w'.ownsRow w.heap.size 3 1 v' 1 [.int .i64 t]∧RowKit.Below w.heap.size w w':=by
 go_enter Tryz.func48,Tryz.ntmps48
 go_wp2_with (go_at_call 131)
 generalize hW:((w.alloc (.cells #[.int .i64 17,.int .i64 d,.int .i64 a,.int .i64 b,.int .i64 f,.int .i64 n,.string s,v7,v8,.int .i64 t,.int .i64 t,.int .i64 p,.int .i64 q] 53)).alloc (.cells #[.int .i64 t,.int .i64 t] 3))=W;have hsz:W.heap.size=w.heap.size+2:=by subst hW;simp
 have hrow:W.heap[w.heap.size+1]?=some (.cells #[.int .i64 t,.int .i64 t] 3 (0,0)):=by
  subst hW;simp only[World.alloc,Array.getElem?_push,Array.size_push]
  simp only[if_true]
 have hbel:RowKit.Below w.heap.size w W:=by subst hW;exact((Below.refl _ w).alloc (Nat.le_refl _) _).alloc (by simp) _
 clear hW;refine(Tryz.slices_Compact_int_cells (w.heap.size+1) 0 2 2 [t,t] W (by simp) (by omega) (by omega) ?_ ?_).mono ?_
 ·intro j hj;have hj2:j=0∨j=1:=by simp at hj;omega
  rcases hj2 with rfl|rfl<;>simp[World.cell?,hrow]
 ·intro j hj;have hj2:j=0∨j=1:=by omega
  rcases hj2 with rfl|rfl<;>simp[World.frozen?,hrow]
 ·rintro e w' ⟨rfl,q0,rfl⟩
  have hc:Lib.compact ([t,t].take 2)=[t]:=by simp[Lib.compact,Lib.compactUpTo,Lib.keeps,List.range_succ]
  rw[hc];generalize hW2:(W.drewN q0).setCells (w.heap.size+1) 0 (List.map (Value.int .i64) ([t]++List.replicate (2 - [t].length) 0))=W2
  have hb2:RowKit.Below w.heap.size w W2:=by
   subst hW2;exact below_setCells (by omega) _ _ _ ⟨hbel.os,hbel.tape,hbel.output,hbel.size,hbel.block⟩
  have hr2:W2.heap[w.heap.size+1]?=some (.cells #[.int .i64 t,.int .i64 0] 3 (0,0)):=by
   subst hW2;simp[World.setCells,World.setCell,World.drewN,Array.getElem?_modify,hrow]
  clear hW2;dsimp only;go_wp2
  go_ret
  exact⟨_,rfl,⟨rfl,.inr ⟨w.heap.size+1,2,_,rfl,by omega,hr2,by decide,by decide,rfl,rfl⟩⟩,hb2⟩
end Go.Proofs.YticliodhjfednaaGreat
