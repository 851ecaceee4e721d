/- solve: Count walked. Conditions: a formula in memory, with fewer than 2^40 models. -/
import Derived.Test.YtbeidiaejcbgoaaModels2
namespace Go.Proofs.Ytbeidiaejcbgoaa
open Go.RowKit
attribute [local go_sem] Oper.semAt_some

theorem results_count (t0 t1 t2 t3 t5 t6 t7 t8 t9 t10 t11 t12 t13 t14 t15 : Value) {W : World} {p : Nat} {u : Value} (hp : W.cell? ⟨p, 0, none⟩ = some u) :
    (results Try.f18 #[t0, t1, t2, t3, .pointer (some ⟨p, 0, none⟩), t5, t6, t7, t8, t9, t10, t11, t12, t13, t14, t15]).run Try.prog W = .ok u W := by
  simp [results, Try.results18, go_sem, hp]

/-- A block just laid, and those before it. -/
theorem heap_laid (w : World) (a b c d : Obj) : (((((w.alloc a).alloc b).alloc c).alloc d)).heap[w.heap.size]? = some a ∧ (((((w.alloc a).alloc b).alloc c).alloc d)).heap[w.heap.size + 1]? = some b ∧
    (((((w.alloc a).alloc b).alloc c).alloc d)).heap[w.heap.size + 2]? = some c ∧ (((((w.alloc a).alloc b).alloc c).alloc d)).heap[w.heap.size + 3]? = some d := by
  refine ⟨?_, ?_, ?_, ?_⟩
  · rw [Below.heap_alloc _ _ _ (by simp; omega), Below.heap_alloc _ _ _ (by simp; omega), Below.heap_alloc _ _ _ (by simp)]; exact World.alloc_heap_new w a
  · rw [Below.heap_alloc _ _ _ (by simp), Below.heap_alloc _ _ _ (by simp)]; have := World.alloc_heap_new (w.alloc a) b; simpa using this
  · rw [Below.heap_alloc _ _ _ (by simp)]; have := World.alloc_heap_new ((w.alloc a).alloc b) c; simpa using this
  · have := World.alloc_heap_new (((w.alloc a).alloc b).alloc c) d; simpa using this

def countZ (n : Int) (ls : List (List Int)) (most : Int) : Int := if most < 1 then 0 else min most (modelsOf n ls).length

set_option maxHeartbeats 2000000 in
theorem count_any (n : Int) (Lv : Value) (ls : List (List Int)) (most : Int) (D : Nat → Prop) (w : World) (hL : IntRows D w Lv ls) (hD : ∀ k, D k → k < w.heap.size) (hM : (modelsOf n ls).length ≤ 1000000000) :
    Calls Try.prog 18 #[.agg #[.int .i64 n, Lv], .int .i64 most] w fun e w' => e = .returned (.int .i64 (countZ n ls most)) ∧ Chg (fun _ => False) w w' := by
  obtain ⟨la, lcap, hLv, hjunk⟩ := hL.open
  have hone : ∃ a len cap, Lv = .slice a len cap := ⟨_, _, _, hLv⟩
  clear hjunk
  have H0 := Lib.hid (And.intro hL (And.intro hD hM))
  clear hL hD hM
  subst hLv
  by_cases hmo : most < 1
  · have hF : countZ n ls most = 0 := by unfold countZ; rw [if_pos hmo]
    rw [hF]
    have b1 : decide (most < 1) = true := by simpa using hmo
    clear hF
    refine (callsIn_wide (n := 0)).1 ?_
    refine callsIn_of_wp_marks Try.func18 rfl trivial ?_
    simp only [Try.ntmps18, List.size_toArray, List.length_cons, List.length_nil, Nat.reduceAdd, Nat.reduceSub, Array.replicate_succ, Array.replicate_zero, List.push_toArray, List.append_toArray, List.nil_append, List.cons_append]
    gi_wp2
    refine wpIn_scope_straight ?_
    gi_wp2
    rw [Exit.noGoto_ret]
    refine ⟨_, results_count _ _ _ _ _ _ _ _ _ _ _ _ _ _ _ (u := .int .i64 0) ?_, rfl, (((Chg.refl _ _).alloc _).alloc _).alloc _⟩
    have := World.alloc_heap_new ((w.alloc (.cells #[.int .i64 n, .slice la ls.length lcap] 30)).alloc (.cells #[.int .i64 most] 3)) (.cells #[.int .i64 0] 3)
    rw [cell_of_heap (by simpa using this)]
    rfl
  · have b1 : decide (most < 1) = false := by simpa using hmo
    have hF : countZ n ls most = min most (modelsOf n ls).length := by unfold countZ; rw [if_neg hmo]
    rw [hF]
    clear hF
    refine (callsIn_wide (n := 0)).1 ?_
    refine callsIn_of_wp_marks Try.func18 rfl trivial ?_
    simp only [Try.ntmps18, List.size_toArray, List.length_cons, List.length_nil, Nat.reduceAdd, Nat.reduceSub, Array.replicate_succ, Array.replicate_zero, List.push_toArray, List.append_toArray, List.nil_append, List.cons_append]
    gi_wp2
    refine wpIn_scope_straight ?_
    gi_wp2
    refine wpIn_label ?_
    gi_wp2_with fail
    refine ⟨trivial, rfl, ?_⟩
    refine (callsIn_wide.2 (models_any n _ _ hone)).mono ?_
    rintro e w' ⟨rfl, rfl⟩
    gi_wp2_with fail
    obtain ⟨N, hN⟩ : ∃ N, N = w.heap.size := ⟨_, rfl⟩
    obtain ⟨W, hW⟩ : ∃ W, W = (((w.alloc (.cells #[.int .i64 n, .slice la ls.length lcap] 30)).alloc (.cells #[.int .i64 most] 3)).alloc (.cells #[.int .i64 0] 3)).alloc (.cells #[.int .i64 n, .slice la ls.length lcap] 30) := ⟨_, rfl⟩
    have hWc : Chg (fun _ => False) w W := by rw [hW]; exact ((((Chg.refl _ _).alloc _).alloc _).alloc _).alloc _
    have hWs : W.heap.size = N + 4 := by rw [hW, hN]; simp
    obtain ⟨_, hW1, hW2, hW3⟩ := heap_laid w (.cells #[.int .i64 n, .slice la ls.length lcap] 30) (.cells #[.int .i64 most] 3) (.cells #[.int .i64 0] 3) (.cells #[.int .i64 n, .slice la ls.length lcap] 30)
    rw [← hW, ← hN] at hW1 hW2 hW3
    simp only [← hW, ← hN]
    clear hW
    have HN := Lib.hid hN
    have HW := Lib.hid (And.intro hWc (And.intro hWs (And.intro hW3 (And.intro hW2 hW1))))
    clear hN hWc hWs hW3 hW2 hW1
    refine wp_range (gf := 33) (lb := #[.pointer (some ⟨N + 3, 0, none⟩)]) rfl (enters_of Try.func33 (by kernel_rfl) rfl)
      (D := fun k => D k ∨ k = N + 3) (enc := encB) (xs := modelsOf n ls) ?seq ?size ?keep (fun k => k = N + 2) ?hT0 ?hD
      (fun pre T W => (pre.length : Int) < most ∧ (∀ k, T k ↔ k = N + 2) ∧ W.heap[N + 1]? = some (.cells #[.int .i64 most] 3 (0, 0)) ∧ W.heap[N + 2]? = some (.cells #[.int .i64 pre.length] 3 (0, 0)))
      (fun c pre T W => c = .exit 0 ∧ (pre.length : Int) = most ∧ T (N + 2) ∧ W.heap[N + 2]? = some (.cells #[.int .i64 pre.length] 3 (0, 0)))
      ?hI ?hIx ?h0 (fun args => { tmps := #[.agg #[.int .i64 n, .slice la ls.length lcap], .int .i64 most, .pointer (some ⟨N, 0, none⟩), .pointer (some ⟨N + 1, 0, none⟩), .pointer (some ⟨N + 2, 0, none⟩), .int .i64 most, .bool false, .agg #[.int .i64 n, .slice la ls.length lcap], .func (.func 33) #[] #[.pointer (some ⟨N + 3, 0, none⟩)], args.getD 0 undef, undef, undef, undef, undef, undef, undef], defers := [] }) ?assign ?body ?done ?stop
    case seq =>
      intro W1 hc hs
      obtain ⟨hWc, hWs, hW3, hW2, hW1⟩ := HW.out
      refine models1_gen n _ ls (N + 3) _ W1 (hc.heap id hW3) (.inr rfl) (((H0.out.1.chg hWc (fun _ _ x => x)).chg hc (fun _ _ x => x)).mono (fun k hk _ => .inl hk)) ?_
      rintro k (hk | hk)
      · have := H0.out.2.1 k hk; have := HN.out; omega
      · omega
    case size =>
      rintro x W args fresh ⟨g, arr, rfl, _⟩
      rfl
    case keep =>
      rintro x W W' args fresh ⟨g, arr, h1, h2, h3, h4, h5⟩ hc
      exact ⟨g, arr, h1, hc.heap (fun h => h ((h5 g).2 rfl)) h2, h3, h4, h5⟩
    case hT0 =>
      obtain ⟨hWc, hWs, hW3, hW2, hW1⟩ := HW.out
      have := HN.out
      rintro k rfl
      exact ⟨by omega, fun h => by rcases h with h | h; have := H0.out.2.1 _ h; omega; omega⟩
    case hD =>
      obtain ⟨hWc, hWs, hW3, hW2, hW1⟩ := HW.out
      rintro k (hk | rfl)
      · have := H0.out.2.1 k hk; have := HN.out; omega
      · omega
    case hI =>
      rintro pre T W1 W2 ⟨h1, h2, h3, h4⟩ hc
      obtain ⟨hWc, hWs, _⟩ := HW.out
      exact ⟨h1, h2, hc.heap (fun h => by omega) h3, hc.heap (fun h => by omega) h4⟩
    case hIx =>
      rintro c pre T W1 W2 ⟨h1, h2, h3, h4⟩ hc
      obtain ⟨hWc, hWs, _⟩ := HW.out
      exact ⟨h1, h2, h3, hc.heap (fun h => by omega) h4⟩
    case h0 =>
      obtain ⟨hWc, hWs, hW3, hW2, hW1⟩ := HW.out
      exact ⟨by simp; omega, fun _ => Iff.rfl, hW1, hW2⟩
    case assign =>
      rintro l x W1 args fresh K ⟨g, arr, rfl, _⟩ hK
      gi_wp2
      simpa using hK
    case body =>
      rintro l pre x T W1 args fresh ⟨h1, hT, h3, h4⟩ hpre ⟨g, arr, rfl, h5, h6, h7, h8⟩ hTl hfr hsz
      have c1 : W1.cell? ⟨N + 1, 0, none⟩ = some (.int .i64 most) := by rw [cell_of_heap h3]; rfl
      have c2 : W1.cell? ⟨N + 2, 0, none⟩ = some (.int .i64 pre.length) := by rw [cell_of_heap h4]; rfl
      have f2 := frozen_of_heap h4 0
      have hlen : pre.length + 1 ≤ 1000000000 := by
        have := hpre.length_le; have := H0.out.2.2; simp at *; omega
      have HB := Lib.hid (And.intro h1 (And.intro hT (And.intro h3 (And.intro h4 (And.intro hTl hsz)))))
      clear h1 hT h3 h4 h5 h6 h7 h8 hTl hfr hsz hpre
      have hstep : ∀ W2, W2 = W1.setCell ⟨N + 2, 0, none⟩ (.int .i64 ((pre.length : Int) + 1)) → (∀ k, T k → k < W2.heap.size ∧ (T k ∨ fresh k ∨ W1.heap.size ≤ k)) ∧ Chg T W1 W2 ∧ W2.heap[N + 1]? = some (.cells #[.int .i64 most] 3 (0, 0)) ∧ W2.heap[N + 2]? = some (.cells #[.int .i64 (pre ++ [x]).length] 3 (0, 0)) := by
        rintro W2 rfl
        obtain ⟨h1, hT, h3, h4, hTl, hsz⟩ := HB.out
        refine ⟨fun k hk => ⟨by have := hTl k hk; simp [World.setCell]; exact this, .inl hk⟩, (Chg.refl _ _).setCell (p := ⟨N + 2, 0, none⟩) (fun _ => (hT _).2 rfl) _, ?_, ?_⟩
        · rw [heap_setCell_ne (p := ⟨N + 2, 0, none⟩) (by show N + 1 ≠ N + 2; omega)]; exact h3
        · rw [heap_setCell_at h4]; simp
      have HST := Lib.hid hstep
      clear hstep
      by_cases hq : (pre.length : Int) + 1 = most
      · have b2 : ((pre.length : Int) + 1 == most) = true := by simpa using hq
        have HQ := Lib.hid hq
        clear hq
        gi_wp2
        obtain ⟨h1, hT, h3, h4, hTl, hsz⟩ := HB.out
        obtain ⟨s1, s2, s3, s4⟩ := HST.out _ rfl
        exact ⟨T, s1, s2, rfl, by simp; exact HQ.out, (hT _).2 rfl, s4⟩
      · have b2 : ((pre.length : Int) + 1 == most) = false := by simpa using hq
        have HQ := Lib.hid hq
        clear hq
        gi_wp2
        obtain ⟨h1, hT, h3, h4, hTl, hsz⟩ := HB.out
        obtain ⟨s1, s2, s3, s4⟩ := HST.out _ rfl
        exact ⟨T, s1, s2, by have := HQ.out; simp; omega, hT, s3, s4⟩
    case done =>
      rintro T W1 ⟨h1, h2, h3, h4⟩ hc hd hsz
      have c2 : W1.cell? ⟨N + 2, 0, none⟩ = some (.int .i64 (modelsOf n ls).length) := by rw [cell_of_heap h4]; rfl
      have f2 := frozen_of_heap h4 0
      have HB := Lib.hid (And.intro h1 (And.intro h2 (And.intro h3 (And.intro h4 (And.intro hc (And.intro hd hsz))))))
      clear h1 h2 h3 h4 hc hd hsz
      gi_wp2
      rw [Exit.noGoto_ret]
      obtain ⟨h1, h2, h3, h4, hc, hd, hsz⟩ := HB.out
      obtain ⟨hWc, hWs, hW3, hW2, hW1⟩ := HW.out
      have e2 := heap_setCell_at (o := 0) h4 (.int .i64 (modelsOf n ls).length)
      have e3 : (W1.setCell ⟨N + 2, 0, none⟩ (.int .i64 (modelsOf n ls).length)).heap[W.heap.size]? = some (.deferred (some [])) := by
        rw [heap_setCell_ne (p := ⟨N + 2, 0, none⟩) (by show _ ≠ N + 2; omega)]; exact hd
      refine ⟨by simp, .inl ⟨_, _, rfl, run_takeDeferred e3, ?_⟩⟩
      have k2 := (World.putObj_heap_other (o := .deferred none) (show N + 2 ≠ W.heap.size by omega)).trans e2
      refine ⟨_, results_count _ _ _ _ _ _ _ _ _ _ _ _ _ _ _ (by rw [cell_of_heap k2]; rfl), ?_, ?_⟩
      · exact ret_int (by omega)
      · have := HN.out
        refine ((hWc.trans' hc (fun k hk hx => by omega)).setCell (p := ⟨N + 2, 0, none⟩) (fun h => ?_) _).putObj (fun h => ?_) _
        all_goals first | omega | (simp at h; omega)
    case stop =>
      rintro c pre T W1 hpre ⟨rfl, h2, h3, h4⟩ hc hd hsz
      have c2 : W1.cell? ⟨N + 2, 0, none⟩ = some (.int .i64 pre.length) := by rw [cell_of_heap h4]; rfl
      have f2 := frozen_of_heap h4 0
      have HB := Lib.hid (And.intro hpre (And.intro h2 (And.intro h3 (And.intro h4 (And.intro hc (And.intro hd hsz))))))
      clear h2 h3 h4 hc hd hsz hpre
      gi_wp2
      rw [Exit.noGoto_ret]
      obtain ⟨hpre, h2, h3, h4, hc, hd, hsz⟩ := HB.out
      obtain ⟨hWc, hWs, hW3, hW2, hW1⟩ := HW.out
      have e2 := heap_setCell_at (o := 0) h4 (.int .i64 pre.length)
      have e3 : (W1.setCell ⟨N + 2, 0, none⟩ (.int .i64 pre.length)).heap[W.heap.size]? = some (.deferred (some [])) := by
        rw [heap_setCell_ne (p := ⟨N + 2, 0, none⟩) (by show _ ≠ N + 2; omega)]; exact hd
      refine ⟨by simp, .inl ⟨_, _, rfl, run_takeDeferred e3, ?_⟩⟩
      have k2 := (World.putObj_heap_other (o := .deferred none) (show N + 2 ≠ W.heap.size by omega)).trans e2
      refine ⟨_, results_count _ _ _ _ _ _ _ _ _ _ _ _ _ _ _ (by rw [cell_of_heap k2]; rfl), ?_, ?_⟩
      · exact ret_int (by have := hpre.length_le; omega)
      · have := HN.out
        refine ((hWc.trans' hc (fun k hk hx => by omega)).setCell (p := ⟨N + 2, 0, none⟩) (fun h => ?_) _).putObj (fun h => ?_) _
        all_goals first | omega | (simp at h; omega)
end Go.Proofs.Ytbeidiaejcbgoaa
