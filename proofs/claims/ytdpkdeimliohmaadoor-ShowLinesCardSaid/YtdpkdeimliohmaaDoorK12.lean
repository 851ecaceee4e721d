/- What must come at any rate; the text of any program; the texts of its parts. Conditions: none. -/
import Derived.Test.YtdpkdeimliohmaaDoorK11
set_option linter.unusedSimpArgs false
set_option linter.unusedVariables false
namespace Go.Proofs.YtdpkdeimliohmaaDoor
open Go Go.Ab
variable {ext : Sem'}
def srcA : Str := [105, 110, 116, 32, 102, 40, 41, 32, 123, 32, 114, 101, 116, 117, 114, 110, 32, 40, 120, 32, 45, 32, 49, 41, 32, 45, 32, 40, 121, 32, 45, 32, 50, 41, 59, 32, 125]
def tokA3 : List Tok := [⟨2, [105, 110, 116], 0, (1, 1)⟩, ⟨1, [102], 0, (1, 5)⟩, ⟨4, [40], 0, (1, 6)⟩, ⟨4, [41], 0, (1, 7)⟩, ⟨4, [123], 0, (1, 9)⟩, ⟨2, [114, 101, 116, 117, 114, 110], 0, (1, 11)⟩, ⟨4, [40], 0, (1, 18)⟩, ⟨1, [120], 0, (1, 19)⟩, ⟨4, [45], 0, (1, 21)⟩, ⟨3, [49], 1, (1, 23)⟩, ⟨4, [41], 0, (1, 24)⟩, ⟨4, [45], 0, (1, 26)⟩, ⟨4, [40], 0, (1, 28)⟩, ⟨1, [121], 0, (1, 29)⟩, ⟨4, [45], 0, (1, 31)⟩, ⟨3, [50], 2, (1, 33)⟩, ⟨4, [41], 0, (1, 34)⟩, ⟨4, [59], 0, (1, 35)⟩, ⟨4, [125], 0, (1, 37)⟩, ⟨5, [], 0, (1, 38)⟩]
theorem tokA3_e : refR (eachL srcA) = (tokA3, Dg.zero) := by kernel_rfl
def expA : Ex0 := .mk 4 0 [] [45] [.mk 4 0 [] [45] [.mk 2 0 [120] [] [] ⟨1, 19⟩, .mk 1 1 [] [] [] ⟨1, 23⟩] ⟨1, 21⟩, .mk 4 0 [] [45] [.mk 2 0 [121] [] [] ⟨1, 29⟩, .mk 1 2 [] [] [] ⟨1, 33⟩] ⟨1, 31⟩] ⟨1, 26⟩
def progA : Pr0 := ⟨[], [⟨[102], [], ⟨false, []⟩, [.mk 8 ⟨false, []⟩ [] [expA] [] [] ⟨1, 11⟩], ⟨1, 1⟩⟩]⟩
theorem parseA_e {ext : Sem'} (hx : Clear ext) : G ext 19 [.d (.sl (rowsT tokA3))] [] = some (.ret (.tuple [progA.av, Dg.zero.av]), []) := G_run hx 40 60 (by kernel_rfl)
theorem textA_e (hx : T3 ext) : G ext 7 [.d (.str srcA)] [] = some (.ret (.tuple [progA.av, Dg.zero.av]), []) := by
  have hsc := rscan_e hx.toT0.tx srcA (by decide)
  rw [tokA3_e] at hsc
  have hp := parseA_e hx.clear
  unfold Pr0.av Dg.av Dg.zero at *
  rw [G_body hx.clear rfl Tryd.func7 rfl Tryd.results7 hv_7 rfl]
  simp (maxSteps := 4000000) (disch := first | (intros; contradiction) | omega) only [go_sem, hsc, hp]
  done
theorem okA : okE expA := by
  simp [expA, okE, okEs, okN, okT, arity]
theorem showA : showE expA = [120, 32, 45, 32, 49, 32, 45, 32, 40, 121, 32, 45, 32, 50, 41] := by
  have d1 : Lib.decDigits 1 = [49] := by rw [Lib.decDigits, dif_pos (by decide)]; rfl
  have d2 : Lib.decDigits 2 = [50] := by rw [Lib.decDigits, dif_pos (by decide)]; rfl
  simp [expA, showE, showEs, showK, Lib.itoa, d1, d2, brk, bindsP, Ex0.kind, Ex0.op]
theorem alive3_e (hx : T3 ext) : G ext 6 [] [] = some (.ret (.d (.bool true)), []) := by
  have ht := textA_e hx
  have hs := sexpr_e hx (cntE expA) expA (Nat.le_refl _) (by decide) okA
  unfold ShE at hs
  rw [showA] at hs
  unfold Ex0.agg expA at hs
  simp only [Ex0.kind, Ex0.n, Ex0.name, Ex0.op, Ex0.kids, Ex0.pos] at hs
  unfold Pr0.av progA expA Dg.av Dg.zero srcA at ht
  simp only [List.map_cons, List.map_nil, Fn0.row, St0.row_eq, Ex0.row_eq, St0.kind, St0.t, St0.name, St0.e, St0.body, St0.els, St0.pos, Ex0.kind, Ex0.n, Ex0.name, Ex0.op, Ex0.kids, Ex0.pos] at ht hs
  rw [G_body hx.clear rfl Tryd.func6 rfl Tryd.results6 hv_6 rfl]
  simp (maxSteps := 4000000) (disch := first | (intros; contradiction) | omega) only [go_sem, ht, hs]
  done
theorem progs_e (hx : T3 ext) (s : Str) : G ext 5 [.d (.str s)] [] = some (.ret (.d (.bool true)), []) := by
  have ha := alive3_e hx
  by_cases h : (3000 : Int) < (s.length : Int)
  · have h' := eq_true h
    rw [G_body hx.clear rfl Tryd.func5 rfl Tryd.results5 hv_5 rfl]
    simp (maxSteps := 4000000) (disch := first | (intros; contradiction) | omega) only [go_sem, h', ha]
    done
  · obtain ⟨p, d, ht, hp⟩ := rtext_e hx.toT0 s (by omega)
    have h1 := sProg_e hx p hp
    have h2 := dProg_e hx p hp
    unfold Pr0.av Dg.av at *
    generalize txtL (linP p) = t at *
    rw [G_body hx.clear rfl Tryd.func5 rfl Tryd.results5 hv_5 rfl]
    simp (maxSteps := 4000000) (disch := first | (intros; contradiction) | omega) only [go_sem, h, ht, h1, h2, ha]
    done
end Go.Proofs.YtdpkdeimliohmaaDoor
