/- Law 7: what is known; the example. Conditions: none. -/
import Derived.Test.YtibkpedaplbbpaaGreatWX
import Derived.Test.YtibkpedaplbbpaaGreatByX
import Derived.Test.YtibkpedaplbbpaaGreatHints
set_option linter.unusedSimpArgs false
set_option linter.unusedVariables false
namespace Go.Proofs.YtibkpedaplbbpaaGreat
open Go Go.Ab
variable {ext : Sem'}
structure TG (ext : Sem') : Prop where
  clear : Clear ext
  word : ∀ (op : Int) (H : List AObj), ext 97 [.d (.int .i64 op)] H = some (.ret (.d (.str (wordP op))), H)
  clone : ∀ l : List Int, l.length ≤ 1000000 → ext 25 [.d (.sl (l.map rowU))] [] = some (.ret (.grow 0 0 (l.map rowU)), [.grow 0 1])
  clonen : ext 25 [.nils] [] = some (.ret (.grow 0 0 []), [.grow 0 1])
theorem fnil : ∀ x, x ∈ ([] : List Fact) → G ext x.f x.as x.H = some x.r := fun _ h => by cases h
theorem fcons {f : Nat} {xs : List AV} {H : List AObj} {r : Out × List AObj} {t : List Fact} (h : G ext f xs H = some r) (ht : ∀ x, x ∈ t → G ext x.f x.as x.H = some x.r) : ∀ x, x ∈ (⟨f, xs, H, r⟩ : Fact) :: t → G ext x.f x.as x.H = some x.r := fun x hx => by
  rcases List.mem_cons.1 hx with rfl | hx
  · exact h
  · exact ht x hx
def srcA : List UInt8 := [105, 110, 116, 32, 109, 97, 105, 110, 40, 41, 32, 123, 32, 112, 117, 116, 40, 54, 53, 41, 59, 32, 114, 101, 116, 117, 114, 110, 32, 55, 59, 32, 125]
def toksA : AV := .d (.sl [[.int .i64 2, .str [105, 110, 116], .int .i64 0, .int .i64 1, .int .i64 1], [.int .i64 1, .str [109, 97, 105, 110], .int .i64 0, .int .i64 1, .int .i64 5], [.int .i64 4, .str [40], .int .i64 0, .int .i64 1, .int .i64 9], [.int .i64 4, .str [41], .int .i64 0, .int .i64 1, .int .i64 10], [.int .i64 4, .str [123], .int .i64 0, .int .i64 1, .int .i64 12], [.int .i64 2, .str [112, 117, 116], .int .i64 0, .int .i64 1, .int .i64 14], [.int .i64 4, .str [40], .int .i64 0, .int .i64 1, .int .i64 17], [.int .i64 3, .str [54, 53], .int .i64 65, .int .i64 1, .int .i64 18], [.int .i64 4, .str [41], .int .i64 0, .int .i64 1, .int .i64 20], [.int .i64 4, .str [59], .int .i64 0, .int .i64 1, .int .i64 21], [.int .i64 2, .str [114, 101, 116, 117, 114, 110], .int .i64 0, .int .i64 1, .int .i64 23], [.int .i64 3, .str [55], .int .i64 7, .int .i64 1, .int .i64 30], [.int .i64 4, .str [59], .int .i64 0, .int .i64 1, .int .i64 31], [.int .i64 4, .str [125], .int .i64 0, .int .i64 1, .int .i64 33], [.int .i64 5, .str [], .int .i64 0, .int .i64 1, .int .i64 34]])
def progA : AV := .agg [.d (.sl []), .d (.sl [[.str [109, 97, 105, 110], .sl [], .bool false, .str [], .sl [[.int .i64 10, .bool false, .str [], .str [], .sl [[.int .i64 1, .int .i64 65, .str [], .str [], .sl [], .int .i64 1, .int .i64 18]], .sl [], .sl [], .int .i64 1, .int .i64 14], [.int .i64 8, .bool false, .str [], .str [], .sl [[.int .i64 1, .int .i64 7, .str [], .str [], .sl [], .int .i64 1, .int .i64 30]], .sl [], .sl [], .int .i64 1, .int .i64 23]], .int .i64 1, .int .i64 1]])]
def modA : AV := .agg [.d (.sl []), .d (.sl [[.str [109, 97, 105, 110], .int .i64 0, .sl [[.bool false, .str [], .int .i64 0], [.bool false, .str [], .int .i64 0]], .bool false, .str [], .int .i64 0, .sl [], .sl [[.int .i64 1, .int .i64 0, .int .i64 0, .int .i64 0, .int .i64 0, .int .i64 65, .str [], .sl [], .sl [], .int .i64 0, .int .i64 0, .int .i64 1, .int .i64 18], [.int .i64 6, .int .i64 0, .int .i64 0, .int .i64 0, .int .i64 0, .int .i64 0, .str [], .sl [], .sl [], .int .i64 0, .int .i64 0, .int .i64 1, .int .i64 14], [.int .i64 1, .int .i64 1, .int .i64 0, .int .i64 0, .int .i64 0, .int .i64 7, .str [], .sl [], .sl [], .int .i64 0, .int .i64 0, .int .i64 1, .int .i64 30], [.int .i64 18, .int .i64 0, .int .i64 1, .int .i64 0, .int .i64 0, .int .i64 0, .str [], .sl [], .sl [], .int .i64 0, .int .i64 0, .int .i64 1, .int .i64 23]]]])]
def okA : AV := .agg [.d (.int .i64 0), .d (.int .i64 0), .d (.int .i64 0), .d (.int .i64 0)]
theorem aScan (hx : TG ext) : G ext 19 [.d (.str srcA)] [] = some (.ret (.tuple [toksA, okA]), []) := G_run hx.clear 40 20 (by kernel_rfl)
theorem aParse (hx : TG ext) : G ext 20 [toksA] [] = some (.ret (.tuple [progA, okA]), []) := G_run hx.clear 40 40 (by kernel_rfl)
theorem aText (hx : TG ext) : G ext 14 [.d (.str srcA)] [] = some (.ret (.tuple [progA, okA]), []) := G_runT hx.clear _ (fcons (aScan hx) (fcons (aParse hx) fnil)) 4 4 (by kernel_rfl)
theorem aCheck (hx : TG ext) : G ext 21 [progA] [] = some (.ret okA, []) := G_run hx.clear 40 40 (by kernel_rfl)
theorem aLower (hx : TG ext) : G ext 15 [progA] [] = some (.ret (.tuple [modA, okA]), []) := G_runT hx.clear _ (fcons (aCheck hx) fnil) 40 40 (by kernel_rfl)
theorem aLow (hx : TG ext) : G ext 9 [.d (.str srcA)] [] = some (.ret (.tuple [modA, okA]), []) := G_runT hx.clear _ (fcons (aText hx) (fcons (aLower hx) fnil)) 4 4 (by kernel_rfl)
theorem aRight (hx : TG ext) : G ext 24 [modA] [] = some (.ret (.d (.int .i64 0)), []) :=
  G_runT hx.clear _ (fcons (G_ext (hx.word 1 [])) (fcons (G_ext (hx.word 6 [])) (fcons (G_ext (hx.word 18 [])) fnil))) 40 40 (by kernel_rfl)
theorem alive_e (hx : TG ext) : G ext 4 [] [] = some (.ret (.d (.bool true)), []) :=
  G_runT hx.clear _ (fcons (aLow hx) (fcons (aRight hx) (fcons (G_ext hx.clonen) (fcons (G_ext (hx.clone [] (by decide))) (fcons (G_ext (hx.clone [65] (by decide))) fnil))))) 40 40 (by kernel_rfl)
end Go.Proofs.YtibkpedaplbbpaaGreat
