/- The document's models, by trying all lists of truths: walked. Conditions: a formula in memory. -/
import Derived.Test.YtbeidiaejcbgoaaLaw15d
import Derived.Test.YtbeidiaejcbgoaaAppend
namespace Go.Proofs.Ytbeidiaejcbgoaa
open Go.RowKit

/-- v is a slice of slices of truths. -/
def BoolRows (D : Nat → Prop) (w : World) (v : Value) (ms : List (List Bool)) : Prop :=
  ∃ vs, SliceOf D w v vs ∧ vs.length = ms.length ∧ ∀ i, i < ms.length → ∃ u, vs[i]? = some u ∧ Bools D w u (ms[i]?.getD [])
theorem BoolRows.chg {D : Nat → Prop} {w w' : World} {v : Value} {ls : List (List Bool)} {S : Nat → Prop} (h : BoolRows D w v ls) (hc : Chg S w w') (hs : ∀ k, D k → ¬ S k) : BoolRows D w' v ls := by
  obtain ⟨vs, h1, h2, h3⟩ := h
  refine ⟨vs, h1.chg hc hs, h2, fun i hi => ?_⟩
  obtain ⟨u, h4, h5⟩ := h3 i hi
  exact ⟨u, h4, h5.chg hc hs⟩
theorem BoolRows.open {D : Nat → Prop} {w : World} {v : Value} {ls : List (List Bool)} (h : BoolRows D w v ls) : ∃ a cap, v = .slice a ls.length cap ∧ ls.length ≤ cap ∧ ls.length ≤ 9223372036854775807 ∧
    (ls = [] ∨ ∃ b off, a = some ⟨b, off, none⟩ ∧ D b ∧ ∀ i, i < ls.length → ∃ u, w.cell? ⟨b, off + i, none⟩ = some u ∧ Bools D w u (ls[i]?.getD [])) := by
  obtain ⟨vs, ⟨a, cap, rfl, h1, h2, h3⟩, h4, h5⟩ := h
  rw [h4] at h1 h2 ⊢
  refine ⟨a, cap, rfl, h1, h2, ?_⟩
  rcases h3 with h3 | ⟨b, off, rfl, hb, h6⟩
  · subst h3; exact .inl (List.eq_nil_of_length_eq_zero (by simpa using h4.symm))
  · refine .inr ⟨b, off, rfl, hb, fun i hi => ?_⟩
    obtain ⟨u, h7, h8⟩ := h5 i hi
    exact ⟨u, by rw [h6 i (by omega), h7], h8⟩

theorem BoolRows.mono {D D' : Nat → Prop} {w : World} {v : Value} {ls : List (List Bool)} (h : BoolRows D w v ls) (hD : ∀ k, D k → k < w.heap.size → D' k) : BoolRows D' w v ls := by
  obtain ⟨vs, h1, h2, h3⟩ := h
  refine ⟨vs, h1.mono hD, h2, fun i hi => ?_⟩
  obtain ⟨u, h4, h5⟩ := h3 i hi
  exact ⟨u, h4, SliceOf.mono h5 hD⟩

/-- A row of slices of truths that the call owns: elements in blocks E. -/
structure OwnRows (w0 : World) (w : World) (v : Value) (ms : List (List Bool)) (E : Nat → Prop) (vs : List Value) : Prop where
  row : w.ownsRow w0.heap.size 25 1 v ms.length vs
  len : vs.length = ms.length
  els : ∀ i, i < ms.length → ∃ u, vs[i]? = some u ∧ Bools E w u (ms[i]?.getD [])
  new : ∀ k, E k → w0.heap.size ≤ k ∧ k < w.heap.size ∧ v.ownBlock ≠ some k

theorem OwnRows.rows {w0 w : World} {v : Value} {ms : List (List Bool)} {E : Nat → Prop} {vs : List Value} (h : OwnRows w0 w v ms E vs) (hm : ms.length ≤ 9223372036854775807) : BoolRows (fun k => w0.heap.size ≤ k) w v ms := by
  have h2 := h.len
  refine ⟨vs, ?_, h2, fun i hi => ?_⟩
  · rcases h.row.2 with ⟨rfl, h0⟩ | ⟨g, cap, cur, rfl, hg, hh, hc, hcm, hs, ht⟩
    · have : vs = [] := List.eq_nil_of_length_eq_zero (by omega)
      subst this
      exact ⟨none, 0, rfl, by simp, by simp, .inl rfl⟩
    · refine ⟨_, cap, by rw [h2], by omega, by omega, .inr ⟨g, 0, rfl, hg, fun i hi => ?_⟩⟩
      rw [cell_of_heap hh, Nat.zero_add, ← ht, Nat.mul_one, List.getElem?_take_of_lt (by omega)]
      simp
  · obtain ⟨u, h3, h4⟩ := h.els i hi
    exact ⟨u, h3, SliceOf.mono h4 (fun k hk _ => (h.new k hk).1)⟩

theorem OwnRows.chg {w0 w w' : World} {v : Value} {ms : List (List Bool)} {E : Nat → Prop} {vs : List Value} (h : OwnRows w0 w v ms E vs) (hc : Chg (fun _ => False) w w') : OwnRows w0 w' v ms E vs := by
  refine ⟨?_, h.len, fun i hi => ?_, fun k hk => ⟨(h.new k hk).1, Nat.lt_of_lt_of_le (h.new k hk).2.1 hc.size, (h.new k hk).2.2⟩⟩
  · obtain ⟨h1, h2⟩ := h.row
    refine ⟨h1, ?_⟩
    rcases h2 with h2 | ⟨g, cap, cur, rfl, hg, hh, r⟩
    · exact .inl h2
    · exact .inr ⟨g, cap, cur, rfl, hg, hc.heap id hh, r⟩
  · obtain ⟨u, h3, h4⟩ := h.els i hi
    exact ⟨u, h3, h4.chg hc (fun _ _ x => x)⟩

/-- One more row: behind an append. -/
theorem OwnRows.snoc {w0 wr w w' : World} {v v' : Value} {ms : List (List Bool)} {E : Nat → Prop} {vs : List Value} (h : OwnRows w0 wr v ms E vs) (hc : Chg (fun _ => False) wr w) {o : Obj} {u : Value} {x : List Bool} {n : Nat}
    (hx : Bools (fun k => k = wr.heap.size) w u x) (hlt : wr.heap.size < w.heap.size) (hw0 : w0.heap.size ≤ wr.heap.size) (hn : n = ms.length + 1)
    (ha : Appended (w.alloc o) w0.heap.size 25 1 v n (vs ++ [u]) v' w') : OwnRows w0 w' v' (ms ++ [x]) (fun k => E k ∨ k = wr.heap.size) (vs ++ [u]) ∧ Chg (fun k => v.ownBlock = some k) w w' := by
  subst hn
  have hg : Chg (fun k => v.ownBlock = some k) w w' := ((Chg.refl _ _).alloc _).grown ha.grown (fun k hk _ => hk)
  refine ⟨⟨by simpa using ha.own, by simp [h.len], fun i hi => ?_, fun k hk => ?_⟩, hg⟩
  · by_cases hlt' : i < ms.length
    · obtain ⟨u', h3, h4⟩ := (h.chg hc).els i hlt'
      refine ⟨u', by rw [List.getElem?_append_left (by rw [h.len]; exact hlt')]; exact h3, ?_⟩
      rw [List.getElem?_append_left hlt']
      exact SliceOf.mono (h4.chg hg (fun k hk e => (h.new k hk).2.2 e)) (fun k hk _ => .inl hk)
    · have hi' : i = ms.length := by simp at hi; omega
      subst hi'
      refine ⟨u, by rw [List.getElem?_append_right (by rw [h.len]; exact Nat.le_refl _)]; simp [h.len], ?_⟩
      rw [List.getElem?_append_right (Nat.le_refl _)]
      simp only [Nat.sub_self, List.getElem?_cons_zero, Option.getD_some]
      refine SliceOf.mono (hx.chg hg (fun k hk e => ?_)) (fun k hk _ => .inr hk)
      subst hk
      have := (h.row.lt _ e).2; omega
  · have hs := hg.size
    have hcs := hc.size
    have hfr : v'.ownBlock = v.ownBlock ∨ ∃ q, v'.ownBlock = some q ∧ w.heap.size ≤ q := by
      rcases ha.fresh with h | ⟨q, h1, h2⟩
      · exact .inl h
      · exact .inr ⟨q, h1, by simp at h2; omega⟩
    rcases hk with hk | rfl
    · obtain ⟨h1, h2, h3⟩ := h.new k hk
      refine ⟨h1, by omega, fun e => ?_⟩
      rcases hfr with hf | ⟨q, hf, hq⟩
      · exact h3 (hf ▸ e)
      · rw [e] at hf; cases hf; omega
    · refine ⟨hw0, by omega, fun e => ?_⟩
      rcases hfr with hf | ⟨q, hf, hq⟩
      · have := (h.row.lt _ (hf ▸ e)).2; omega
      · rw [e] at hf; cases hf; omega

theorem infoRow : (Try.prog.info? 25).map (fun i => (i.zero, i.size, i.bytes)) = some (some (.slice none 0 0), 1, 24) := by kernel_rfl

def refModelsL (n : Nat) (ls : List (List Int)) (k : Nat) : List (List Bool) := ((List.range k).map (bitsL n)).filter (fT · ls)
theorem refModelsL_yes {n k : Nat} {ls : List (List Int)} (h : fT (bitsL n k) ls = true) : refModelsL n ls (k + 1) = refModelsL n ls k ++ [bitsL n k] := by
  unfold refModelsL; rw [List.range_succ, List.map_append, List.filter_append]; simp [h]
theorem refModelsL_no {n k : Nat} {ls : List (List Int)} (h : fT (bitsL n k) ls = false) : refModelsL n ls (k + 1) = refModelsL n ls k := by
  unfold refModelsL; rw [List.range_succ, List.map_append, List.filter_append]; simp [h]
theorem refModelsL_all (n : Nat) (ls : List (List Int)) : refModelsL n ls (2 ^ n) = Mods n ls := by unfold refModelsL Mods; rw [bits_all]
theorem refModelsL_pre {n : Nat} {ls : List (List Int)} {k j : Nat} (h : k ≤ j) : refModelsL n ls k <+: refModelsL n ls j := by
  obtain ⟨d, rfl⟩ : ∃ d, j = k + d := ⟨j - k, by omega⟩
  unfold refModelsL
  rw [List.range_add, List.map_append, List.filter_append]
  exact List.prefix_append _ _
theorem refModelsL_len (n : Nat) (ls : List (List Int)) (k : Nat) : (refModelsL n ls k).length ≤ k := by
  unfold refModelsL; have := List.length_filter_le (fT · ls) ((List.range k).map (bitsL n)); simp at this; exact this
theorem refModelsL_take {n : Nat} {ls : List (List Int)} {k most : Nat} (h : k ≤ 2 ^ n) (hl : (refModelsL n ls k).length ≤ most) (hs : k = 2 ^ n ∨ (refModelsL n ls k).length = most) : (Mods n ls).take most = refModelsL n ls k := by
  rw [← refModelsL_all]
  rcases hs with rfl | hs
  · exact List.take_of_length_le hl
  · rw [← hs]
    exact (List.prefix_iff_eq_take.1 (refModelsL_pre h)).symm

set_option maxHeartbeats 4000000 in
theorem refModels_main (n : Nat) (most : Nat) (ls : List (List Int)) (v : Value) (D : Nat → Prop) (w : World) (hl : IntRows D w v ls) (hr : rightB n ls = true) (hn : n ≤ 12) (hmost : most ≤ 100000) :
    Calls Try.prog 15 #[.agg #[.int .i64 n, v], .int .i64 most] w fun e w' => ∃ ov, e = .returned ov ∧ BoolRows (fun k => w.heap.size ≤ k) w' ov ((Mods n ls).take most) ∧ Chg (fun _ => False) w w' := by
  obtain ⟨i0, hinf, hz0, hz1, hz2⟩ := info_parts infoRow
  obtain ⟨la, lcap, rfl, hlc, hlm, hjunk⟩ := hl.open
  have hbox := World.alloc_heap_new w (.cells #[.int .i64 n, .slice la ls.length lcap] 24)
  have hc0 := (Chg.refl (fun _ => False) w).alloc (.cells #[.int .i64 n, .slice la ls.length lcap] 24)
  have HRT := Lib.hid (refRight_any n ls _ D _ (hl.chg hc0 (fun _ _ x => x)))
  rw [hr] at HRT
  have HB := Lib.hid (And.intro hbox (And.intro hc0 (And.intro hl hr)))
  have HINF := Lib.hid (And.intro hinf (And.intro hz0 (And.intro hz1 hz2)))
  have g12 : decide (12 < (n : Int)) = false := by simp; omega
  clear hbox hc0 hl hr hjunk hinf hz0 hz1 hz2
  go_enter Try.func15, Try.ntmps15
  go_wp2_with fail
  refine HRT.out.mono ?_
  rintro e w1 ⟨rfl, hc1⟩
  have hb1 := hc1.heap id HB.out.1
  have e0 : w1.cell? ⟨w.heap.size, 0, none⟩ = some (.int .i64 n) := by rw [cell_of_heap hb1]; rfl
  have H1 := Lib.hid (And.intro (HB.out.2.1.trans hc1) hb1)
  clear hc1 hb1
  go_wp2
  go_loop [6, 7] (fun p i => ∃ (k : Nat) (q : Nat), k ≤ n ∧ i = .int .i64 k ∧ p = .int .i64 q ∧ q ≤ 4096 ∧ Hid (q = 2 ^ k)) (fun _ i => n - (intOf i).toNat)
  case atStart => exact ⟨0, 1, Nat.zero_le _, rfl, rfl, by omega, rfl⟩
  case round =>
    obtain ⟨k, q, hk, rfl, rfl, hq, HQ⟩ := hrel
    by_cases hlt : k < n
    · have hq2 : q * 2 ≤ 4096 := by
        rw [HQ.out, ← Nat.pow_succ]
        exact Nat.pow_le_pow_right (by omega) (show k + 1 ≤ 12 by omega)
      go_wp2
      go_round
      case rel => exact ⟨k + 1, q * 2, by omega, by go_num, by go_num, hq2, by show _ = _; rw [HQ.out, Nat.pow_succ]⟩
      case measure => simp [intOf]; omega
    · obtain rfl : k = n := by omega
      go_wp2
      clear e0
      go_loopw [5, 8, 9] (fun ov i _ wr => ∃ (j : Nat) (ms : List (List Bool)), j ≤ q ∧ i = .int .i64 j ∧ ms.length ≤ most ∧ ms.length ≤ j ∧ (∃ a c, ov = .slice a ms.length c) ∧ Hid (ms = refModelsL k ls j ∧ Chg (fun _ => False) w wr ∧ Chg (fun _ => False) w1 wr ∧ ∃ vs E, OwnRows w1 wr ov ms E vs)) (fun _ i _ _ => q - (intOf i).toNat)
      case atStart =>
        exact ⟨0, [], Nat.zero_le _, rfl, Nat.zero_le _, Nat.zero_le _, ⟨none, 0, rfl⟩, rfl, H1.out.1, Chg.refl _ _, [], fun _ => False, World.ownsRow_nil _ _ _ _, rfl, fun i hi => absurd hi (Nat.not_lt_zero _), fun _ h => h.elim⟩
      case round =>
        obtain ⟨j, ms, hj, rfl, hm1, hm2, ⟨oa, oc, rfl⟩, HR⟩ := hrel
        by_cases hlt2 : j < q
        · by_cases hlt3 : ms.length < most
          · have d0 : wr.cell? ⟨w.heap.size, 0, none⟩ = some (.int .i64 k) := by rw [cell_of_heap (HR.out.2.2.1.heap id H1.out.2)]; rfl
            have d1 : wr.cell? ⟨w.heap.size, 1, none⟩ = some (.slice la ls.length lcap) := by rw [cell_of_heap (HR.out.2.2.1.heap id H1.out.2)]; rfl
            have g3 : decide ((ms.length : Int) < (most : Int)) = true := by simp; omega
            go_wp2_with fail
            refine (bits_any k j wr hn (by omega)).mono ?_
            rintro e w2 ⟨arr, rfl, hc2, hh, hs, hv⟩
            have f0 := hc2.cell' d0 id
            have f1 := hc2.cell' d1 id
            have hb1 : Bools (fun q => q = wr.heap.size) w2 (.slice (some ⟨wr.heap.size, 0, none⟩) k k) (bitsL k j) := by
              refine ⟨_, _, by rw [List.length_map, bitsL_length], by simp [bitsL_length], by simp [bitsL_length]; omega, .inr ⟨wr.heap.size, 0, rfl, rfl, fun i hi => ?_⟩⟩
              rw [cell_of_heap hh, Nat.zero_add]
              simp [bitsL_length] at hi
              rw [hv i hi]
              simp [bitsL_length, hi]
            have hb2 : Bools (fun q => D q ∨ q = wr.heap.size) w2 (.slice (some ⟨wr.heap.size, 0, none⟩) k k) (bitsL k j) := SliceOf.mono hb1 (fun q hq _ => .inr hq)
            have H2 := Lib.hid (And.intro hc2 (And.intro hb1 (Array.getElem?_eq_some_iff.1 hh).1))
            have HE := Lib.hid (refEval_any k ls _ (bitsL k j) _ _ w2 (((HB.out.2.2.1.chg HR.out.2.1 (fun _ _ x => x)).chg hc2 (fun _ _ x => x)).mono (fun q hq _ => .inl hq)) hb2 (by omega))
            have hev : evalB k ls (bitsL k j) = fT (bitsL k j) ls := by
              unfold evalB; rw [HB.out.2.2.2, bitsL_length]; simp
            rw [hev] at HE
            clear hc2 hh hs hv d0 d1 hb1 hb2 hev
            go_wp2_with fail
            refine HE.out.mono ?_
            rintro e w3 ⟨rfl, hc3⟩
            have H3 := Lib.hid hc3
            clear hc3 f0 f1
            cases hq : fT (bitsL k j) ls with
            | false =>
              have HQF := Lib.hid hq
              clear hq
              go_wp2
              go_roundw
              case rel =>
                obtain ⟨h1, h2, h3, vs, E, ho⟩ := HR.out
                have hc := H2.out.1.trans H3.out
                refine ⟨j + 1, ms, by omega, by go_num, hm1, by omega, ⟨_, _, rfl⟩, by rw [refModelsL_no HQF.out]; exact h1, h2.trans hc, h3.trans hc, vs, E, ho.chg hc⟩
              case measure => simp [intOf]; omega
            | true =>
              have HQF := Lib.hid hq
              clear hq
              obtain ⟨hms, hc, hc1, vs, E, ho⟩ := HR.out
              obtain ⟨hinf, hz0, hz1, hz2⟩ := HINF.out
              have hc23 := H2.out.1.trans H3.out
              have hrow := (ho.chg hc23).row
              have HS := Lib.hid (And.intro hms (And.intro hc (And.intro hc1 (And.intro ho hc23))))
              clear hms hc hc1 ho hc23
              go_wp2_with (at_builtin; refine wpList_append_two rfl _ _ 33 rfl w1.heap.size 25 i0 (.slice none 0 0) 1 24 Try.underlying33 hinf hz0 hz1 hz2 rfl (by decide) _ _ _ rfl (hrow.alloc _) ⟨w3.heap.size, 0, none⟩ 1 1 [.slice (some ⟨wr.heap.size, 0, none⟩) k k] rfl rfl ?c1 ?c2 ?c3 ?c4 ?c5 ?_)
              case c1 => exact new_cells w3 _ _
              case c2 => simp [Value.oneCell']
              case c3 => simp [maxLen]; omega
              case c4 => omega
              case c5 => have := HS.out.2.2.1.size; have := HS.out.2.2.2.2.size; simp; omega
              intro ov' w4 hap _
              obtain ⟨hms, hc, hc1, ho, hc23⟩ := HS.out
              have hbx := H2.out.2.1.chg H3.out (fun _ _ x => x)
              obtain ⟨ho', hg'⟩ := ho.snoc hc23 hbx (by have := H2.out.2.2; have := H3.out.size; omega) hc1.size rfl hap
              obtain ⟨g, cp, rfl⟩ := ownsRow_shape hap.own (by omega)
              have H4 := Lib.hid (And.intro ho' hg')
              clear hap hrow hinf hz0 hz1 hz2 ho' hg' hbx hms hc hc1 ho hc23
              go_wp2
              go_roundw
              case rel =>
                obtain ⟨hms, hc, hc1, ho, hc23⟩ := HS.out
                obtain ⟨ho', hg'⟩ := H4.out
                have hc4 : Chg (fun _ => False) w1 w4 := (hc1.trans hc23).trans' hg' (fun q hq hx => by have := (ho.row.lt q hx).1; omega)
                refine ⟨j + 1, ms ++ [bitsL k j], by omega, by go_num, by simp; omega, by simp; omega, ⟨some ⟨g, 0, none⟩, cp, by simp⟩, by rw [refModelsL_yes HQF.out, ← hms], H1.out.1.trans hc4, hc4, _, _, ho'⟩
              case measure => simp [intOf]; omega
          · have g3 : decide ((ms.length : Int) < (most : Int)) = false := by simp; omega
            go_wp2
            go_ret
            obtain ⟨hms, hc, hc1, vs, E, ho⟩ := HR.out
            have hq := HQ.out
            refine ⟨_, rfl, ?_, hc⟩
            rw [refModelsL_take (k := j) (by omega) (by rw [← hms]; exact hm1) (.inr (by rw [← hms]; omega)), ← hms]
            exact BoolRows.mono (ho.rows (by omega)) (fun q hq _ => Nat.le_trans H1.out.1.size hq)
        · obtain rfl : j = q := by omega
          go_wp2
          go_ret
          obtain ⟨hms, hc, hc1, vs, E, ho⟩ := HR.out
          have hq := HQ.out
          refine ⟨_, rfl, ?_, hc⟩
          rw [refModelsL_take (k := j) (by omega) (by rw [← hms]; exact hm1) (.inl hq), ← hms]
          exact BoolRows.mono (ho.rows (by omega)) (fun q hq _ => Nat.le_trans H1.out.1.size hq)
theorem refModels_any (n : Int) (most : Nat) (ls : List (List Int)) (v : Value) (D : Nat → Prop) (w : World) (hl : IntRows D w v ls) (hn : n ≤ 12) (hmost : most ≤ 100000) :
    Calls Try.prog 15 #[.agg #[.int .i64 n, v], .int .i64 most] w fun e w' => ∃ ov, e = .returned ov ∧ BoolRows (fun k => w.heap.size ≤ k) w' ov ((modelsOf n ls).take most) ∧ Chg (fun _ => False) w w' := by
  cases hr : rightB n ls with
  | true =>
    obtain ⟨h0, h1, _⟩ := rightB_all hr
    obtain ⟨k, rfl⟩ : ∃ k : Nat, n = k := ⟨n.toNat, by omega⟩
    have : modelsOf k ls = Mods k ls := by unfold modelsOf; rw [hr]; rfl
    rw [this]
    exact refModels_main k most ls v D w hl hr (by omega) hmost
  | false =>
    have : modelsOf n ls = [] := by unfold modelsOf; rw [hr]; rfl
    rw [this]
    have hc0 := (Chg.refl (fun _ => False) w).alloc (.cells #[.int .i64 n, v] 24)
    have HRT := Lib.hid (refRight_any n ls _ D _ (hl.chg hc0 (fun _ _ x => x)))
    rw [hr] at HRT
    have HC := Lib.hid hc0
    obtain ⟨la, lcap, rfl, _⟩ := hl.open
    clear hl hr this hc0
    go_enter Try.func15, Try.ntmps15
    go_wp2_with fail
    refine HRT.out.mono ?_
    rintro e w1 ⟨rfl, hc1⟩
    have H1 := Lib.hid (HC.out.trans hc1)
    clear hc1
    go_wp2
    go_ret
    exact ⟨_, rfl, ⟨[], ⟨none, 0, rfl, by simp, by simp, .inl rfl⟩, by simp, fun i hi => absurd hi (by simp)⟩, H1.out⟩

theorem modelsOf_len {n : Int} {ls : List (List Int)} (h : n ≤ 10) : (modelsOf n ls).length ≤ 1024 := by
  unfold modelsOf
  split
  · have : (Mods n.toNat ls).length ≤ 2 ^ n.toNat := by rw [← refModelsL_all]; exact refModelsL_len _ _ _
    have h2 : 2 ^ n.toNat ≤ 2 ^ 10 := Nat.pow_le_pow_right (by omega) (by omega)
    omega
  · simp
theorem modelsOf_length {n : Int} {ls : List (List Int)} {m : List Bool} (h : m ∈ modelsOf n ls) : (m.length : Int) ≤ 100000 := by
  unfold modelsOf at h
  split at h
  · rename_i hr
    obtain ⟨h0, h1, _⟩ := rightB_all hr
    unfold Mods at h
    have := mem_allM.1 (List.mem_filter.1 h).1
    omega
  · cases h
end Go.Proofs.Ytbeidiaejcbgoaa
