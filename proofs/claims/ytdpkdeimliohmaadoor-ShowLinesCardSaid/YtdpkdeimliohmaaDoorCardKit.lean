/- The library's table, as a row lists it: what it holds. Conditions: none. -/
import Derived.Test.YtdpkdeimliohmaaDoorIntX
import Derived.Lib.LaidTab
import Derived.LaidMore
import Derived.ProofKit
namespace Go.Proofs.YtdpkdeimliohmaaDoor
open Go Go.Ab Go.RowKit
theorem laid_mem {P : Program} {W : World} {name : String} {d : DataW Unit} : ∀ {l : List (String × DataW Unit)} {ps : List MemPlace}, DataW.LaidVars P W l ps → (name, d) ∈ l →
    ∃ g t cs fuel p, P.globalNamed name = some g ∧ (P.globals[g]?).map (·.type) = some t ∧ W.var? P name = some cs ∧ DataW.trod (fun _ => ()) P W 0 (fun _ => true) false fuel t cs.toList = some (d, p)
  | [], _, _, h => by cases h
  | (n, e) :: r, _, h, hm => by
    obtain ⟨g, t, cs, fuel, p, q, h1, h2, h3, h4, h5, _⟩ := h
    rcases List.mem_cons.1 hm with hm | hm
    · cases hm
      exact ⟨g, t, cs, fuel, p, h1, h2, h3, h4⟩
    · exact laid_mem h5 hm
theorem tab_facts : ∃ t n e, (Tryd.prog.globals[0]?).map (·.type) = some t ∧ Tryd.prog.underlying t = some (.array n e) ∧ Tryd.prog.underlying e = some (.int .u64) ∧ Tryd.prog.cellsOf e = 1 ∧ Tryd.prog.cellsOf t = n :=
  ⟨133, 20, 106, by kernel_rfl, by kernel_rfl, by kernel_rfl, by kernel_rfl, by kernel_rfl⟩
theorem tabs_ok {W : World} {l : List (String × DataW Unit)} (h : laidMetH Tryd.prog l W) (hp : (l.all fun x => x.2.handleName?.isNone) = true) (hm : ("internal/strconv.uint64pow10", Lib.tabData .u64 Lib.pow10Tab) ∈ l) : TabOk W (Old W) := by
  rw [MakeChecks.laidMetH_plain _ _ _ hp] at h
  obtain ⟨ps, h, _, _⟩ := h
  obtain ⟨g, t, cs, fuel, p, h1, h2, h3, h4⟩ := laid_mem h hm
  obtain rfl := Option.some.inj (tab_g.symm.trans h1)
  obtain ⟨t', n, e, k1, k2, k3, k4, k5⟩ := tab_facts
  obtain rfl := Option.some.inj (k1.symm.trans h2)
  have hcs := Lib.cells_of_tab k2 k3 k4 k5 h4
  rintro b o v ⟨rfl, ho, rfl⟩
  refine ⟨?_, ?_⟩
  · unfold World.var? at h3
    rw [tab_g, Option.bind_some] at h3
    show _ < W.heap.size
    rcases Nat.lt_or_ge 0 W.heap.size with hlt | hge
    · exact hlt
    · rw [Array.getElem?_eq_none hge] at h3
      cases h3
  · rw [World.var?_cell tab_g h3 o, ← List.getElem?_map, ← hcs, Array.getElem?_toList]
end Go.Proofs.YtdpkdeimliohmaaDoor
