/- Law 7: the example's instructions. Conditions: none. -/
import Derived.Test.YtkflggjdlflndaaGreatHints
set_option linter.unusedSimpArgs false
set_option linter.unusedVariables false
namespace Go.Proofs.YtkflggjdlflndaaGreat
open Go Go.Ab
variable {ext:Sem'}
theorem fnil:∀ x,x ∈ ([]:List Fact)→G ext x.f x.as x.H = some x.r:=fun _ h=>by cases h
theorem fcons {f:Nat} {xs:List AV} {H:List AObj} {r:Out × List AObj} {t:List Fact} (h:G ext f xs H = some r) (ht:∀ x,x ∈ t→G ext x.f x.as x.H = some x.r):∀ x,x ∈ (⟨f,xs,H,r⟩:Fact) :: t→G ext x.f x.as x.H = some x.r:=fun x hx=>by
 rcases List.mem_cons.1 hx with rfl | hx
 ·exact h
 ·exact ht x hx
def srcA:List UInt8:=[105,110,116,32,109,97,105,110,40,41,32,123,32,112,117,116,40,54,53,41,59,32,114,101,116,117,114,110,32,55,59,32,125]
def toksA:AV:=.d (.sl [[.int .i64 2,.str [105,110,116],.int .i64 0,.int .i64 1,.int .i64 1],[.int .i64 1,.str [109,97,105,110],.int .i64 0,.int .i64 1,.int .i64 5],[.int .i64 4,.str [40],.int .i64 0,.int .i64 1,.int .i64 9],[.int .i64 4,.str [41],.int .i64 0,.int .i64 1,.int .i64 10],[.int .i64 4,.str [123],.int .i64 0,.int .i64 1,.int .i64 12],[.int .i64 2,.str [112,117,116],.int .i64 0,.int .i64 1,.int .i64 14],[.int .i64 4,.str [40],.int .i64 0,.int .i64 1,.int .i64 17],[.int .i64 3,.str [54,53],.int .i64 65,.int .i64 1,.int .i64 18],[.int .i64 4,.str [41],.int .i64 0,.int .i64 1,.int .i64 20],[.int .i64 4,.str [59],.int .i64 0,.int .i64 1,.int .i64 21],[.int .i64 2,.str [114,101,116,117,114,110],.int .i64 0,.int .i64 1,.int .i64 23],[.int .i64 3,.str [55],.int .i64 7,.int .i64 1,.int .i64 30],[.int .i64 4,.str [59],.int .i64 0,.int .i64 1,.int .i64 31],[.int .i64 4,.str [125],.int .i64 0,.int .i64 1,.int .i64 33],[.int .i64 5,.str [],.int .i64 0,.int .i64 1,.int .i64 34]])
def progA:AV:=.agg [.d (.sl []),.d (.sl [[.str [109,97,105,110],.sl [],.bool false,.str [],.sl [[.int .i64 10,.bool false,.str [],.str [],.sl [[.int .i64 1,.int .i64 65,.str [],.str [],.sl [],.int .i64 1,.int .i64 18]],.sl [],.sl [],.int .i64 1,.int .i64 14],[.int .i64 8,.bool false,.str [],.str [],.sl [[.int .i64 1,.int .i64 7,.str [],.str [],.sl [],.int .i64 1,.int .i64 30]],.sl [],.sl [],.int .i64 1,.int .i64 23]],.int .i64 1,.int .i64 1]])]
def modA:AV:=.agg [.d (.sl []),.d (.sl [[.str [109,97,105,110],.int .i64 0,.sl [[.bool false,.str [],.int .i64 0],[.bool false,.str [],.int .i64 0]],.bool false,.str [],.int .i64 0,.sl [],.sl [[.int .i64 1,.int .i64 0,.int .i64 0,.int .i64 0,.int .i64 0,.int .i64 65,.str [],.sl [],.sl [],.int .i64 0,.int .i64 0,.int .i64 1,.int .i64 18],[.int .i64 6,.int .i64 0,.int .i64 0,.int .i64 0,.int .i64 0,.int .i64 0,.str [],.sl [],.sl [],.int .i64 0,.int .i64 0,.int .i64 1,.int .i64 14],[.int .i64 1,.int .i64 1,.int .i64 0,.int .i64 0,.int .i64 0,.int .i64 7,.str [],.sl [],.sl [],.int .i64 0,.int .i64 0,.int .i64 1,.int .i64 30],[.int .i64 18,.int .i64 0,.int .i64 1,.int .i64 0,.int .i64 0,.int .i64 0,.str [],.sl [],.sl [],.int .i64 0,.int .i64 0,.int .i64 1,.int .i64 23]]]])]
def okA:AV:=.agg [.d (.int .i64 0),.d (.int .i64 0),.d (.int .i64 0),.d (.int .i64 0)]
theorem aScan (hc:Clear ext):G ext 37 [.d (.str srcA)] [] = some (.ret (.tuple [toksA,okA]),[]):=G_run hc 40 20 (by kernel_rfl)
theorem aParse (hc:Clear ext):G ext 38 [toksA] [] = some (.ret (.tuple [progA,okA]),[]):=G_run hc 40 40 (by kernel_rfl)
theorem aText (hc:Clear ext):G ext 22 [.d (.str srcA)] [] = some (.ret (.tuple [progA,okA]),[]):=G_runT hc _ (fcons (aScan hc) (fcons (aParse hc) fnil)) 4 4 (by kernel_rfl)
theorem aCheck (hc:Clear ext):G ext 39 [progA] [] = some (.ret okA,[]):=G_run hc 40 40 (by kernel_rfl)
theorem aLower (hc:Clear ext):G ext 23 [progA] [] = some (.ret (.tuple [modA,okA]),[]):=G_runT hc _ (fcons (aCheck hc) fnil) 40 40 (by kernel_rfl)
theorem aLow (hc:Clear ext):G ext 13 [.d (.str srcA)] [] = some (.ret (.tuple [modA,okA]),[]):=G_runT hc _ (fcons (aText hc) (fcons (aLower hc) fnil)) 4 4 (by kernel_rfl)
def outA7:AV:=.agg [.d (.int .i64 1),.d (.int .i64 7),.d (.sl [[.int .u8 65]]),.d (.int .i64 4),.d (.int .i64 0)]
theorem alive7 (hc:Clear ext) (hr:G ext 11 [modA,.d (.sl []),.d (.sl []),.d (.int .i64 10)] [] = some (.ret outA7,[])):G ext 9 [] [] = some (.ret (.d (.bool true)),[]):=
 G_runT hc _ (fcons (aLow hc) (fcons hr fnil)) 8 8 (by kernel_rfl)
end Go.Proofs.YtkflggjdlflndaaGreat
