/- solve: put walked. Conditions: a search object in memory. -/
import Derived.Test.YtbeidiaejcbgoaaSearch1
import Derived.Test.YtbeidiaejcbgoaaAppend
namespace Go.Proofs.Ytbeidiaejcbgoaa
open Go.RowKit

theorem infoSet : (Try.prog.info? 79).map (fun i => (i.zero, i.size, i.bytes)) = some (some (.agg #[.int .i64 0, .int .i64 0]), 2, 16) := by kernel_rfl

/-- What put leaves. -/
def PutPost (w : World) (B b vb : Nat) (tv : Value) (n : Nat) (Lv : Value) (val : Nat → Int) (tr : List (Int × Int)) (st : Int) (x how : Int) (w' : World) : Prop :=
  ∃ tv', Srch w' B b vb tv' n Lv (upd val x) (tr ++ [(x, how)]) (wrap64 (st + 1)) ∧ Chg (sblk b vb tv) w w' ∧ (tv'.ownBlock = tv.ownBlock ∨ ∃ k, tv'.ownBlock = some k ∧ w.heap.size ≤ k)

theorem flat_snoc (tr : List (Int × Int)) (x how : Int) : flat (tr ++ [(x, how)]) = flat tr ++ [.int .i64 x, .int .i64 how] := by simp [flat]
theorem flat_length (tr : List (Int × Int)) : (flat tr).length = tr.length * 2 := by
  induction tr with
  | nil => rfl
  | cons p tr ih => simp [flat] at ih ⊢; omega

theorem upd_three {val : Nat → Int} (h : lits3 val) (x : Int) : lits3 (upd val x) := by
  intro i; unfold upd; split
  · split <;> omega
  · exact h i

theorem put_close {w w1 : World} {B b vb : Nat} {tv tv' : Value} {n : Nat} {Lv : Value} {val : Nat → Int} {tr : List (Int × Int)} {st : Int} (h : Srch w B b vb tv n Lv val tr st)
    (x how : Int) (i : Nat) (hx : x.natAbs = i) (hi : i ≤ n)
    (hown' : w1.ownsRow B 79 2 tv' (tr.length + 1) (flat tr ++ [.int .i64 x, .int .i64 how])) (hg : Chg (fun k => tv.ownBlock = some k) w w1)
    (hnew : tv'.ownBlock = tv.ownBlock ∨ ∃ k, tv'.ownBlock = some k ∧ w.heap.size ≤ k) :
    PutPost w B b vb tv n Lv val tr st x how (((w1.setCell ⟨b, 3, none⟩ tv').setCell ⟨b, 4, none⟩ (.int .i64 (wrap64 (st + 1)))).setCell ⟨vb, i, none⟩ (.int .i64 (if x < 0 then -1 else 1))) := by
  obtain ⟨arr, ha, hv⟩ := h.vals
  have hbt : ¬ tv.ownBlock = some b := fun e => by have := (h.trail.lt b e).1; have := h.hb; omega
  have hvt : ¬ tv.ownBlock = some vb := fun e => by have := (h.trail.lt vb e).1; have := h.hvb; omega
  have hob := hg.heap hbt h.obj
  have hav := hg.heap hvt ha
  have hbt' : ¬ tv'.ownBlock = some b := fun e => by have := (hown'.lt b e).1; have := h.hb; omega
  have hvt' : ¬ tv'.ownBlock = some vb := fun e => by have := (hown'.lt vb e).1; have := h.hvb; omega
  have h1 := heap_setCell_at (o := 3) hob tv'
  have h2 := heap_setCell_at (o := 4) h1 (.int .i64 (wrap64 (st + 1)))
  have h3 : ((((w1.setCell ⟨b, 3, none⟩ tv').setCell ⟨b, 4, none⟩ (.int .i64 (wrap64 (st + 1)))).setCell ⟨vb, i, none⟩ (.int .i64 (if x < 0 then -1 else 1)))).heap[b]? = _ :=
    (heap_setCell_ne (p := ⟨vb, i, none⟩) h.ne _).trans h2
  have k1 : ((w1.setCell ⟨b, 3, none⟩ tv').setCell ⟨b, 4, none⟩ (.int .i64 (wrap64 (st + 1)))).heap[vb]? = some (.cells arr 3 (0, 0)) := by
    rw [heap_setCell_ne (p := ⟨b, 4, none⟩) (Ne.symm h.ne), heap_setCell_ne (p := ⟨b, 3, none⟩) (Ne.symm h.ne)]; exact hav
  have k2 := heap_setCell_at (o := i) k1 (.int .i64 (if x < 0 then -1 else 1))
  refine ⟨tv', ⟨h.ne, h.hb, h.hvb, ?_, ?_, ⟨_, k2, ?_⟩, ?_, h.small, upd_three h.three x⟩, ?_, hnew⟩
  · have := hg.size; have := h.hB; simp [World.setCell]; omega
  · rw [h3]; simp
  · intro j hj
    unfold upd
    rw [Array.getElem?_setIfInBounds]
    by_cases e : i = j
    · subst e
      rw [if_pos rfl, if_pos hx.symm, if_pos]
      have := hv i hi
      exact (Array.getElem?_eq_some_iff.1 this).1
    · rw [if_neg e, if_neg (by omega)]
      exact hv j hj
  · rw [flat_snoc, List.length_append, List.length_singleton]
    obtain ⟨q1, q2⟩ := hown'
    refine ⟨q1, ?_⟩
    rcases q2 with q2 | ⟨g, cap, cur, rfl, hgB, hh, r⟩
    · exact .inl q2
    · refine .inr ⟨g, cap, cur, rfl, hgB, ?_, r⟩
      have n1 : g ≠ b := by have := h.hb; omega
      have n2 : g ≠ vb := by have := h.hvb; omega
      rw [heap_setCell_ne (p := ⟨vb, i, none⟩) n2, heap_setCell_ne (p := ⟨b, 4, none⟩) n1, heap_setCell_ne (p := ⟨b, 3, none⟩) n1]
      exact hh
  · exact (((hg.mono (fun k _ hk => .inr (.inr hk))).setCell (p := ⟨b, 3, none⟩) (fun _ => .inl rfl) _).setCell (p := ⟨b, 4, none⟩) (fun _ => .inl rfl) _).setCell (p := ⟨vb, i, none⟩) (fun _ => .inr (.inl rfl)) _

set_option maxHeartbeats 1000000 in
theorem put_pos {w : World} {B b vb : Nat} {tv : Value} {n : Nat} {Lv : Value} {val : Nat → Int} {tr : List (Int × Int)} {st : Int} (h : Srch w B b vb tv n Lv val tr st)
    (i : Nat) (how : Int) (hi0 : 0 < i) (hi : i ≤ n) (htr : tr.length ≤ 1000000000) :
    Calls Try.prog 50 #[.pointer (some ⟨b, 0, none⟩), .int .i64 i, .int .i64 how] w fun e w' => e = .returned (.tuple #[]) ∧ PutPost w B b vb tv n Lv val tr st i how w' := by
  obtain ⟨i0, hinf, hz0, hz1, hz2⟩ := info_parts infoSet
  have c2 := h.c2
  have c3 := h.c3
  have c4 := h.c4
  have hf := h.f
  have hfv := h.fv
  have hown := h.trail
  have hne := h.ne
  have hcv := h.cv i hi
  have hsm := h.small
  go_enter Try.func50, Try.ntmps50
  go_wp2_with (at_builtin; refine wpList_append_two rfl _ _ 64 rfl B 79 i0 (.agg #[.int .i64 0, .int .i64 0]) 2 16 Try.underlying64 hinf hz0 hz1 hz2 rfl (by decide) _ _ _ rfl (hown.alloc _) ⟨w.heap.size, 0, none⟩ 1 1 [.int .i64 i, .int .i64 how] rfl rfl ?c1 ?c2 ?c3 ?c4 ?c5 ?_)
  case c1 => exact new_cells w _ _
  case c2 => simp [Value.oneCell']
  case c3 => simp [maxLen]; omega
  case c4 => omega
  case c5 => have := h.hB; simp; omega
  intro tv' w1 hap _
  have hg : Chg (fun k => tv.ownBlock = some k) w w1 := ((Chg.refl _ _).alloc _).grown hap.grown (fun k hk _ => hk)
  have hown' := hap.own
  have hnew : SameOrNew w.heap.size tv tv' := by
    rcases hap.fresh with h | ⟨k, h1, h2⟩
    · exact .inl h
    · exact .inr ⟨k, h1, by simp at h2; omega⟩
  obtain ⟨g, cap, rfl⟩ := ownsRow_shape hown' (by omega)
  clear hap
  have hbt : ¬ tv.ownBlock = some b := fun e => by have := (h.trail.lt b e).1; have := h.hb; omega
  have hvt : ¬ tv.ownBlock = some vb := fun e => by have := (h.trail.lt vb e).1; have := h.hvb; omega
  have hlb : b < w.heap.size := by have := h.hb; have := h.hB; omega
  have hlv : vb < w.heap.size := by have := h.hvb; have := h.hB; omega
  have d2 := (hg.cell (p := ⟨b, 2, none⟩) hlb hbt).trans c2
  have d3 := (hg.cell (p := ⟨b, 3, none⟩) hlb hbt).trans c3
  have d4 := (hg.cell (p := ⟨b, 4, none⟩) hlb hbt).trans c4
  have df3 := (hg.frozen (p := ⟨b, 3, none⟩) hlb hbt).trans (hf 3)
  have df4 := (hg.frozen (p := ⟨b, 4, none⟩) hlb hbt).trans (hf 4)
  have dv := (hg.cell (p := ⟨vb, i, none⟩) hlv hvt).trans hcv
  have dfv := (hg.frozen (p := ⟨vb, i, none⟩) hlv hvt).trans (hfv i)
  have HC := Lib.hid (put_close h i how i (by omega) hi hown' hg hnew)
  rw [if_neg (by omega)] at HC
  clear hown hown' hbt hvt hnew c2 c3 c4 hf hfv hcv
  go_wp2
  go_end0
  exact ⟨rfl, HC.out⟩
set_option maxHeartbeats 1000000 in
theorem put_neg {w : World} {B b vb : Nat} {tv : Value} {n : Nat} {Lv : Value} {val : Nat → Int} {tr : List (Int × Int)} {st : Int} (h : Srch w B b vb tv n Lv val tr st)
    (i : Nat) (how : Int) (hi0 : 0 < i) (hi : i ≤ n) (htr : tr.length ≤ 1000000000) :
    Calls Try.prog 50 #[.pointer (some ⟨b, 0, none⟩), .int .i64 (-(i : Int)), .int .i64 how] w fun e w' => e = .returned (.tuple #[]) ∧ PutPost w B b vb tv n Lv val tr st (-(i : Int)) how w' := by
  obtain ⟨i0, hinf, hz0, hz1, hz2⟩ := info_parts infoSet
  have c2 := h.c2
  have c3 := h.c3
  have c4 := h.c4
  have hf := h.f
  have hfv := h.fv
  have hown := h.trail
  have hne := h.ne
  have hcv := h.cv i hi
  have hsm := h.small
  go_enter Try.func50, Try.ntmps50
  go_wp2_with (at_builtin; refine wpList_append_two rfl _ _ 64 rfl B 79 i0 (.agg #[.int .i64 0, .int .i64 0]) 2 16 Try.underlying64 hinf hz0 hz1 hz2 rfl (by decide) _ _ _ rfl (hown.alloc _) ⟨w.heap.size, 0, none⟩ 1 1 [.int .i64 (-(i : Int)), .int .i64 how] rfl rfl ?c1 ?c2 ?c3 ?c4 ?c5 ?_)
  case c1 => exact new_cells w _ _
  case c2 => simp [Value.oneCell']
  case c3 => simp [maxLen]; omega
  case c4 => omega
  case c5 => have := h.hB; simp; omega
  intro tv' w1 hap _
  have hg : Chg (fun k => tv.ownBlock = some k) w w1 := ((Chg.refl _ _).alloc _).grown hap.grown (fun k hk _ => hk)
  have hown' := hap.own
  have hnew : SameOrNew w.heap.size tv tv' := by
    rcases hap.fresh with h | ⟨k, h1, h2⟩
    · exact .inl h
    · exact .inr ⟨k, h1, by simp at h2; omega⟩
  obtain ⟨g, cap, rfl⟩ := ownsRow_shape hown' (by omega)
  clear hap
  have hbt : ¬ tv.ownBlock = some b := fun e => by have := (h.trail.lt b e).1; have := h.hb; omega
  have hvt : ¬ tv.ownBlock = some vb := fun e => by have := (h.trail.lt vb e).1; have := h.hvb; omega
  have hlb : b < w.heap.size := by have := h.hb; have := h.hB; omega
  have hlv : vb < w.heap.size := by have := h.hvb; have := h.hB; omega
  have d2 := (hg.cell (p := ⟨b, 2, none⟩) hlb hbt).trans c2
  have d3 := (hg.cell (p := ⟨b, 3, none⟩) hlb hbt).trans c3
  have d4 := (hg.cell (p := ⟨b, 4, none⟩) hlb hbt).trans c4
  have df3 := (hg.frozen (p := ⟨b, 3, none⟩) hlb hbt).trans (hf 3)
  have df4 := (hg.frozen (p := ⟨b, 4, none⟩) hlb hbt).trans (hf 4)
  have dv := (hg.cell (p := ⟨vb, i, none⟩) hlv hvt).trans hcv
  have dfv := (hg.frozen (p := ⟨vb, i, none⟩) hlv hvt).trans (hfv i)
  have HC := Lib.hid (put_close h (-(i : Int)) how i (by omega) hi hown' hg hnew)
  rw [if_pos (by omega)] at HC
  clear hown hown' hbt hvt hnew c2 c3 c4 hf hfv hcv
  go_wp2
  go_end0
  exact ⟨rfl, HC.out⟩

theorem put_any {w : World} {B b vb : Nat} {tv : Value} {n : Nat} {Lv : Value} {val : Nat → Int} {tr : List (Int × Int)} {st : Int} (h : Srch w B b vb tv n Lv val tr st)
    (x how : Int) (h0 : x ≠ 0) (h1 : -(n:Int) ≤ x) (h2 : x ≤ n) (htr : tr.length ≤ 1000000000) :
    Calls Try.prog 50 #[.pointer (some ⟨b, 0, none⟩), .int .i64 x, .int .i64 how] w fun e w' => e = .returned (.tuple #[]) ∧ PutPost w B b vb tv n Lv val tr st x how w' := by
  by_cases hx : x < 0
  · obtain ⟨i, rfl⟩ : ∃ i : Nat, x = -(i : Int) := ⟨(-x).toNat, by omega⟩
    exact put_neg h i how (by omega) (by omega) htr
  · obtain ⟨i, rfl⟩ : ∃ i : Nat, x = (i : Int) := ⟨x.toNat, by omega⟩
    exact put_pos h i how (by omega) (by omega) htr
end Go.Proofs.Ytbeidiaejcbgoaa
