/- McrunRuns answers true for all arguments, and leaves them as they read. Conditions: none. -/
import Derived.Test.YtkflggjdlflndaaGreatRows
import Derived.Test.YtkflggjdlflndaaGreatVWX
import Derived.Test.YtkflggjdlflndaaGreatAbX4
namespace Go.Proofs.YtkflggjdlflndaaGreat
open Go Go.Ab Go.ChangeShapes Go.WideShapes Go.ChangeAt Go.RowKit
theorem mcrunRuns_own:ownKnob Tryz.prog.godebug = none:=by kernel_rfl
theorem mcrunRuns_laidOut:laidOutB Tryz.prog = true:=by kernel_rfl
theorem mcrunRuns_reads {l:List AV} (h:Reads [modT,.sl (.int .u8),.sl .bool,.int .i64] l):G extR 3 l [] = some (.ret (.d (.bool true)),[]):=by
 obtain ⟨x0,l0,h0,rfl,x1,l1,h1,rfl,x2,l2,h2,rfl,x3,l3,h3,rfl,rfl⟩:=h
 obtain ⟨m,e,hm⟩:=mod_wf h0
 obtain ⟨inp,e1⟩:=bytes_arg h1
 obtain ⟨fails,e2⟩:=bools_arg h2
 obtain ⟨n3,e3,_⟩:=int_arg h3
 rw [e,e1,e2,e3]
 exact runs_e extR_t6 m hm.names inp fails n3
set_option maxRecDepth 100000 in
theorem mcrunRuns_lifted (os:Os) (started:os.Started) (H:Type) (enc:TypeId × Value→H) :
  ReturnsInHanded {} Tryz.checked os 3 .any (Rows.mcrunRunsSpec.pre6 enc Tryz.prog Tryz.f3 Rows.mcrunRunsRow.domain false) (Rows.mcrunRunsSpec.post enc Tryz.prog Tryz.f3 false true false false):=by
 refine returnsInHanded_of_change (C:=Tryz.checked) mcrunRuns_own started (by kernel_rfl) Tryz.func3
  (ChangeSpec.witness6 (enc:=enc) (C:=Tryz.checked) false ⟨#[],#[.agg ⟨[.slice none 0 0,.slice none 0 0]⟩,.slice none 0 0,.slice none 0 0,.int .i64 0],[]⟩ 8 (by kernel_rfl) (by kernel_rfl) (by kernel_rfl) (by kernel_rfl)) ?_
 intro W base args ds gs before hval hW _ _
 refine law_contract mcrunRuns_laidOut (G_ok extR_ok) (Ts:=[modT,.sl (.int .u8),.sl .bool,.int .i64]) (by rw [Tryz.params3]; kernel_rfl) rfl ?_ (by kernel_rfl) Tryz.underlying4 (by rw [Tryz.params3]; decide +kernel) (fun l hl=>mcrunRuns_reads hl) W base args ds gs before hval hW
 intro ds hl
 match ds,hl with
 | [d0,d1,d2,d3],_=>exact ⟨rfl,rfl,rfl⟩
theorem mcrunRuns_holds:Rows.McrunRunsSaid:=
 OpenClaim.holds_of_wide 3 Tryz.f3 rfl rfl rfl rfl rfl rfl rfl ⟨rfl,rfl,rfl,rfl,rfl⟩ rfl rfl rfl rfl rfl (by kernel_rfl) Tryz.func3 (by kernel_rfl)
  (of_decide_eq_true (by kernel_rfl)) (by unfold Func.isWrapper; first | (rw [if_pos (by decide +kernel)]; kernel_rfl) | (rw [if_neg (by decide +kernel)]; exact ⟨rfl,rfl⟩))
  (fun os started H enc _=>mcrunRuns_lifted os started H enc)
end Go.Proofs.YtkflggjdlflndaaGreat
