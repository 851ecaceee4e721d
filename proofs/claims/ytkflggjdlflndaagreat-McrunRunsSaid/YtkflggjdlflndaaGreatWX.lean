/- ir.Word, for the evaluator. Conditions: none. -/
import Derived.Test.YtkflggjdlflndaaGreatW1
import Derived.Test.YtkflggjdlflndaaGreatAbX4
namespace Go.Proofs.YtkflggjdlflndaaGreat
open Go Go.Ab Go.RowKit
def wordX:List AV→List AObj→Option (Out × List AObj)
 | [.d (.int .i64 op)],H=>some (.ret (.d (.str (wordP op))),H)
 | _,_=>none
theorem word_sound (as0:List AV) (H:List AObj) (out:Out) (H':List AObj) (h:wordX as0 H = some (out,H')):(∀ args w,(callFunc 116 args).run Tryz.prog w = .ok (.enter 116 args) w)∧H.length ≤ H'.length ∧
  ∀ (w:World) (Im:Imm) (g:List Gh) (vs:List Value),HR Tryz.prog w Im g H→RepAs w Im g vs as0→Calls Tryz.prog 116 ⟨vs⟩ w (CallPost Tryz.prog w Im g out H'):=by
 unfold wordX at h
 split at h
 ·cases h
  refine ext_calls (enter_of Tryz.func116 (by kernel_rfl) rfl) fun w Im g vs hH hr=>?_
  obtain ⟨hl,hr⟩:=hr
  match vs,hl with
  | [v],_=>
   rw [repA_int (hr 0 _ _ rfl rfl)]
   refine (irword_any _ _).mono ?_
   rintro e w' ⟨rfl,hb⟩
   exact ⟨hb,_,rfl,fun w'=>.d (.str _)⟩
 ·cases h
end Go.Proofs.YtkflggjdlflndaaGreat
