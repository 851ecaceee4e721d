/- Decimal numerals of the library, for the evaluator. Conditions: none. -/
import Derived.Test.YtdpkdeimliohmaaDoorBldS
import Derived.Test.YtdpkdeimliohmaaDoorAbX4
set_option linter.unusedSimpArgs false
set_option linter.unusedVariables false
namespace Go.Proofs.YtdpkdeimliohmaaDoor
open Go Go.Ab Go.RowKit
theorem tab_g : Tryd.prog.globalNamed "internal/strconv.uint64pow10" = some 0 := by kernel_rfl
theorem tab_is {w : World} {Im : Imm} (h : TabOk w Im) : Lib.TabIs Tryd.prog w "internal/strconv.uint64pow10" .u64 Lib.pow10Tab := by
  have hc : ∀ o : Nat, o ≤ 20 → w.cell? ⟨0, o, none⟩ = (Lib.pow10Tab[o]?).map (Value.int .u64) := fun o ho => (h _ o _ ⟨rfl, ho, rfl⟩).2
  unfold Lib.TabIs World.var?
  rw [tab_g, Option.bind_some]
  have h0 := hc 0 (by omega)
  unfold World.cell? at h0 hc
  dsimp only at h0 hc
  generalize w.heap[0]? = ob at h0 hc ⊢
  have hp0 : (Lib.pow10Tab[0]?).map (Value.int .u64) = some (.int .u64 1) := rfl
  rw [hp0] at h0
  match ob, h0, hc with
  | some (.cells cs t fr), h0, hc =>
    obtain ⟨lo, hi⟩ := fr
    show some cs = _
    refine congrArg some ?_
    have hsz : cs.size = 20 := by
      have h20 := hc 20 (by omega)
      have h19 := hc 19 (by omega)
      have e20 : (Lib.pow10Tab[20]?).map (Value.int .u64) = none := rfl
      have e19 : (Lib.pow10Tab[19]?).map (Value.int .u64) = some (.int .u64 10000000000000000000) := rfl
      rw [e20] at h20
      rw [e19] at h19
      have h20' : cs[20]? = none := h20
      have h19' : cs[19]? = some (.int .u64 10000000000000000000) := h19
      rw [Array.getElem?_eq_none_iff] at h20'
      have := (Array.getElem?_eq_some_iff.1 h19').1
      omega
    apply Array.ext
    · rw [hsz]; rfl
    · intro i h1 h2
      have hci := hc i (by omega)
      have hi' : i < Lib.pow10Tab.length := by rw [Lib.pow10Tab_length]; omega
      have e1 : cs[i]? = some cs[i] := Array.getElem?_eq_getElem h1
      have e2 : (Lib.pow10Tab[i]?).map (Value.int .u64) = some (Value.int .u64 Lib.pow10Tab[i]) := by rw [List.getElem?_eq_getElem hi']; rfl
      have this : cs[i]? = (Lib.pow10Tab[i]?).map (Value.int .u64) := hci
      rw [e1, e2] at this
      simp only [Option.some.injEq] at this
      simp [this]
/-- A world that lies behind, with new blocks. -/
theorem grow_below (w : World) (k : Nat) (os : Array Obj) : Below w.heap.size w (Go.Sort.grow (w.drewN k) os) := by
  refine ⟨rfl, rfl, rfl, ?_, fun j hj => ?_⟩
  · show w.heap.size ≤ (w.heap ++ os).size
    simp
  · show (w.heap ++ os)[j]? = w.heap[j]?
    rw [Array.getElem?_append_left hj]
def isI64 (n : Int) : Bool := decide (-9223372036854775808 ≤ n) && decide (n ≤ 9223372036854775807)
def fmX : List AV → List AObj → Option (Out × List AObj)
  | [.d (.int .i64 n), .d (.int .i64 10)], H => if isI64 n = true then some (.ret (.d (.str (Lib.itoa n))), H) else none
  | _, _ => none
theorem fm_sound (as0 : List AV) (H : List AObj) (out : Out) (H' : List AObj) (h : fmX as0 H = some (out, H')) : (∀ args w, (callFunc 25 args).run Tryd.prog w = .ok (.enter 25 args) w) ∧ H.length ≤ H'.length ∧
    ∀ (w : World) (Im : Imm) (g : List Gh) (vs : List Value), HR Tryd.prog w Im g H → RepAs w Im g vs as0 → Calls Tryd.prog 25 ⟨vs⟩ w (CallPost Tryd.prog w Im g out H') := by
  unfold fmX at h
  split at h
  · rename_i n
    split at h
    · rename_i hc
      cases h
      unfold isI64 at hc
      rw [Bool.and_eq_true, decide_eq_true_eq, decide_eq_true_eq] at hc
      refine ext_calls (enter_of Tryd.func25 (by kernel_rfl) rfl) fun w Im g vs hH hr => ?_
      obtain ⟨v1, v2, rfl, h1, h2⟩ := repAs_two hr
      rw [repA_int h1, repA_int h2]
      refine (Tryd.strconv_FormatInt_10 n hc.1 hc.2 w (tab_is hH.tab)).mono ?_
      rintro e w' ⟨he, k, os, rfl⟩
      exact ⟨grow_below w k os, _, he, fun w' => .d (.str (Lib.itoa n))⟩
    · cases h
  · cases h
end Go.Proofs.YtdpkdeimliohmaaDoor
