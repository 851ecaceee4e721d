/- From a row's reading to the walk's facts, and from the walk back to the row's post: for laws that answer a bool and write nothing that was there. Conditions: none. -/
import Derived.Test.YtbeidiaejcbgoaaUtil
import Derived.Deep.Grids
import Derived.Deep.Matrix
import Derived.Lib.SmallJoins
namespace Go.Proofs.Ytbeidiaejcbgoaa
open Go.ChangeShapes Go.WideShapes Go.ChangeAt Go.RowKit Go.Deep

section
variable {H : Type} {enc : TypeId × Value → H} {P : Program}

theorem trodAll_stays (hl : laidOutB P = true) {W W' : World} (hb : Below W.heap.size W W') : ∀ {ts : List TypeId} {vs : List Value} {ds : List (DataW H)} {ps : List MemPlace},
    (∀ t ∈ ts, P.readableRec t = true ∧ t < P.types.size) → DataW.TrodAll enc P W 0 (fun _ => true) true ts vs ds ps → (∀ x ∈ ps, x.block < W.heap.size) →
    DataW.TrodAll enc P W' 0 (fun b => decide (b < W.heap.size)) true ts vs ds ps
  | [], vs, ds, ps, _, h, _ => by
    obtain ⟨rfl, rfl, rfl⟩ := trodAll_nil h
    exact trodAll_mk0
  | t :: ts, vs, ds, ps, hr, h, hp => by
    obtain ⟨v, vs1, d, ds1, p, q, rfl, rfl, rfl, h1, h2⟩ := trodAll_cons h
    have := hr t (by simp)
    exact trodAll_cons_mk (Below.trod hl this.1 this.2 h1 hb (fun x hx => hp x (by simp [hx]))) (trodAll_stays hl hb (fun t ht => hr t (by simp [ht])) h2 (fun x hx => hp x (by simp [hx])))

/-- A law's post: it answered true, and nothing that was there has turned. -/
theorem law_post (hl : laidOutB P = true) {f : Func} {s : ChangeSpec} {W W' : World} {args : Array Value} {ds gs : List (DataW H)} {before : List MemPlace} {tb : TypeId}
    (hW : DataW.Whole enc P f.params.toList s.vars false W args.toList ds gs before) (hvars : s.vars = [])
    (hs : (s.fn H (ds ++ gs)).results = [.lit (.bool true)] ∧ (s.fn H (ds ++ gs)).args = ds ∧ (s.fn H (ds ++ gs)).vars = [])
    (hrt : f.resultTypes = #[tb]) (htb : P.underlying tb = some .bool) (hr : ∀ t ∈ f.params.toList, P.readableRec t = true ∧ t < P.types.size) (hb : Below W.heap.size W W') :
    s.post enc P f false true false false W args (.bool true) W' := by
  have hW' := hW
  obtain ⟨p, q, hA, hV, rfl, _, _⟩ := hW
  rw [hvars] at hV
  obtain ⟨rfl, rfl⟩ := trodVars_none hV
  have hlt : ∀ x ∈ p, x.block < W.heap.size := fun x hx => hW'.lt x (by simp [hx])
  refine ⟨ds, [], p ++ [], [], p, [], hW', ?_, ?_, ?_, hb.frame _, fun h => by cases h⟩
  · rw [hs.1, hrt]
    exact trodAll_cons_mk (shut_bool htb true) trodAll_mk0
  · rw [hs.2.1]
    exact trodAll_stays hl hb hr hA hlt
  · rw [hs.2.2, hvars]
    rfl

def InI64 (x : Int) : Prop := -9223372036854775808 ≤ x ∧ x ≤ 9223372036854775807
theorem inI64_of_wf {x : Int} (h : (Lit.int .i64 x).wf = true) : InI64 x := by
  simpa [InI64, Lit.wf, IntKind.min, IntKind.max, IntKind.signed, IntKind.bits] using h

theorem addr_plain {w : World} {a : Addr} {v : Value} (h : w.cell? (a.add 0) = some v) : ∃ b off, a = ⟨b, off, none⟩ := by
  obtain ⟨b, off, spot⟩ := a
  cases spot with
  | none => exact ⟨b, off, rfl⟩
  | some s =>
    exfalso
    simp only [Addr.add, if_true] at h
    unfold World.cell? at h
    simp only at h
    split at h <;> simp_all
theorem add_plain (b off i : Nat) : (⟨b, off, none⟩ : Addr).add i = ⟨b, off + i, none⟩ := by
  unfold Addr.add; split <;> simp_all

/-- A slice whose elements are known one by one. -/
theorem sliceOf_addr {w : World} {a : Addr} {len cap : Nat} (V : Nat → Value) (hl : len ≤ cap) (hm : cap ≤ maxLen) (hV : ∀ i, i < len → w.cell? (a.add i) = some (V i)) :
    SliceOf (fun k => k < w.heap.size) w (.slice (some a) len cap) ((List.range len).map V) := by
  refine ⟨some a, cap, by simp, by simpa using hl, by unfold maxLen at hm; simp; omega, ?_⟩
  by_cases h : len = 0
  · subst h; exact .inl (by simp)
  · obtain ⟨b, off, rfl⟩ := addr_plain (hV 0 (by omega))
    refine .inr ⟨b, off, rfl, ?_, fun i hi => ?_⟩
    · have := hV 0 (by omega)
      rw [add_plain] at this
      exact World.block_lt_of_cell? w _ this
    · have hi : i < len := by simpa using hi
      rw [← add_plain, hV i hi]
      simp [hi]

theorem ints_of_trod {t e : TypeId} {n : Nat} {w : World} {v : Value} {y : DataW H × List MemPlace} (ht : P.underlying t = some (.slice e)) (he : P.underlying e = some (.int .i64)) (hc : P.cellsOf e = 1)
    (h : DataW.trod enc P w 0 (fun _ => true) true n t [v] = some y) : ∃ l, Ints (fun k => k < w.heap.size) w v l ∧ ∀ x ∈ l, InI64 x := by
  rcases open_slice1 ht hc h with ⟨hcs, _⟩ | ⟨a, len, cap, m, n', V, D, Pl, hcs, _, hl, hm, hmm, _, hx⟩
  · cases hcs
    exact ⟨[], ⟨none, 0, rfl, by simp, by simp, .inl rfl⟩, by simp⟩
  · cases hcs
    simp only [if_true] at hmm
    subst hmm
    obtain ⟨Z, hZ⟩ := choose_lt (α := Int) (p := fun i z => V i = .int .i64 z ∧ InI64 z) (fun i hi => by
      obtain ⟨z, h1, _, h3⟩ := DataW.trod_int he (hx i hi).2
      exact ⟨z, by simpa using h1, inI64_of_wf h3⟩)
    refine ⟨(List.range len).map Z, ?_, ?_⟩
    · have := sliceOf_addr (w := w) (a := a) V hl hm (fun i hi => (hx i (by omega)).1)
      unfold Ints
      rw [List.map_map]
      have e1 : (List.range len).map (Value.int .i64 ∘ Z) = (List.range len).map V := List.map_congr_left (fun i hi => by have := List.mem_range.1 hi; exact ((hZ i (by omega)).1).symm)
      rw [e1]
      exact this
    · intro x hx'
      obtain ⟨i, hi, rfl⟩ := List.mem_map.1 hx'
      have := List.mem_range.1 hi
      exact (hZ i (by omega)).2

theorem bools_of_trod {t e : TypeId} {n : Nat} {w : World} {v : Value} {y : DataW H × List MemPlace} (ht : P.underlying t = some (.slice e)) (he : P.underlying e = some .bool) (hc : P.cellsOf e = 1)
    (h : DataW.trod enc P w 0 (fun _ => true) true n t [v] = some y) : ∃ l, Bools (fun k => k < w.heap.size) w v l := by
  rcases open_slice1 ht hc h with ⟨hcs, _⟩ | ⟨a, len, cap, m, n', V, D, Pl, hcs, _, hl, hm, hmm, _, hx⟩
  · cases hcs
    exact ⟨[], none, 0, rfl, by simp, by simp, .inl rfl⟩
  · cases hcs
    simp only [if_true] at hmm
    subst hmm
    obtain ⟨Z, hZ⟩ := choose_lt (α := Bool) (p := fun i z => V i = .bool z) (fun i hi => by
      obtain ⟨z, h1, _⟩ := DataW.trod_bool he (hx i hi).2
      exact ⟨z, by simpa using h1⟩)
    refine ⟨(List.range len).map Z, ?_⟩
    have := sliceOf_addr (w := w) (a := a) V hl hm (fun i hi => (hx i (by omega)).1)
    unfold Bools
    rw [List.map_map]
    have e1 : (List.range len).map (Value.bool ∘ Z) = (List.range len).map V := List.map_congr_left (fun i hi => by have := List.mem_range.1 hi; exact (hZ i (by omega)).symm)
    rw [e1]
    exact this

theorem rows_of_trod {t e q : TypeId} {n : Nat} {w : World} {v : Value} {y : DataW H × List MemPlace} (ht : P.underlying t = some (.slice e)) (he : P.underlying e = some (.slice q)) (hq : P.underlying q = some (.int .i64)) (ce : P.cellsOf e = 1) (cq : P.cellsOf q = 1)
    (h : DataW.trod enc P w 0 (fun _ => true) true n t [v] = some y) : ∃ ls, IntRows (fun k => k < w.heap.size) w v ls ∧ ∀ c ∈ ls, ∀ x ∈ c, InI64 x := by
  rcases open_slice1 ht ce h with ⟨hcs, _⟩ | ⟨a, len, cap, m, n', V, D, Pl, hcs, _, hl, hm, hmm, _, hx⟩
  · cases hcs
    exact ⟨[], ⟨[], ⟨none, 0, rfl, by simp, by simp, .inl rfl⟩, rfl, fun i hi => absurd hi (Nat.not_lt_zero _)⟩, by simp⟩
  · cases hcs
    simp only [if_true] at hmm
    subst hmm
    obtain ⟨Z, hZ⟩ := choose_lt (α := List Int) (p := fun i z => Ints (fun k => k < w.heap.size) w (V i) z ∧ ∀ x ∈ z, InI64 x) (fun i hi => ints_of_trod he hq cq (hx i hi).2)
    refine ⟨(List.range len).map Z, ⟨(List.range len).map V, sliceOf_addr V hl hm (fun i hi => (hx i (by omega)).1), by simp, ?_⟩, ?_⟩
    · intro i hi
      have hi : i < len := by simpa using hi
      refine ⟨V i, by simp [hi], ?_⟩
      have := (hZ i (by omega)).1
      simpa [hi] using this
    · intro c hc
      obtain ⟨i, hi, rfl⟩ := List.mem_map.1 hc
      have := List.mem_range.1 hi
      exact (hZ i (by omega)).2
end
end Go.Proofs.Ytbeidiaejcbgoaa
