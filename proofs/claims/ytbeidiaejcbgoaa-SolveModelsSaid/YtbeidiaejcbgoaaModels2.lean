/- solve: Solve walked: the first model, if there is one. Conditions: a formula in memory. -/
import Derived.Test.YtbeidiaejcbgoaaModels1
namespace Go.Proofs.Ytbeidiaejcbgoaa
open Go.RowKit
attribute [local go_sem] Oper.semAt_some

def SolvePost (n : Int) (ls : List (List Int)) (w : World) (e : Ending) (w' : World) : Prop :=
  Chg (fun _ => False) w w' ∧
    match modelsOf n ls with
    | [] => e = .returned (.tuple #[.slice none 0 0, .bool false])
    | m :: _ => ∃ g arr, e = .returned (.tuple #[.slice (some ⟨g, 0, none⟩) m.length m.length, .bool true]) ∧ w.heap.size ≤ g ∧ w'.heap[g]? = some (.cells arr 4 (0, 0)) ∧ arr.size = m.length ∧ ∀ i, i < m.length → arr[i]? = some (.bool (m[i]?.getD false))

theorem results_two (t0 t1 t4 t5 t6 t7 t8 : Value) {W : World} {p q : Nat} {u v : Value} (hp : W.cell? ⟨p, 0, none⟩ = some u) (hq : W.cell? ⟨q, 0, none⟩ = some v) :
    (results Try.f11 #[t0, t1, .pointer (some ⟨p, 0, none⟩), .pointer (some ⟨q, 0, none⟩), t4, t5, t6, t7, t8]).run Try.prog W = .ok (.tuple #[u, v]) W := by
  simp [results, Try.results11, go_sem, hp, hq]

set_option maxHeartbeats 2000000 in
theorem solve_any (n : Int) (Lv : Value) (ls : List (List Int)) (D : Nat → Prop) (w : World) (hL : IntRows D w Lv ls) (hD : ∀ k, D k → k < w.heap.size) :
    Calls Try.prog 11 #[.agg #[.int .i64 n, Lv]] w (SolvePost n ls w) := by
  obtain ⟨la, lcap, hLv, hjunk⟩ := hL.open
  have hone : ∃ a len cap, Lv = .slice a len cap := ⟨_, _, _, hLv⟩
  clear hjunk
  have H0 := Lib.hid (And.intro hL hD)
  clear hL hD
  subst hLv
  refine (callsIn_wide (n := 0)).1 ?_
  refine callsIn_of_wp_marks Try.func11 rfl trivial ?_
  simp only [Try.ntmps11, List.size_toArray, List.length_cons, List.length_nil, Nat.reduceAdd, Nat.reduceSub, Array.replicate_succ, Array.replicate_zero, List.push_toArray, List.append_toArray, List.nil_append, List.cons_append]
  gi_wp2_with fail
  refine ⟨trivial, rfl, ?_⟩
  refine (callsIn_wide.2 (models_any n _ _ hone)).mono ?_
  rintro e w' ⟨rfl, rfl⟩
  gi_wp2_with fail
  -- the world in which the loop begins
  obtain ⟨N, hN⟩ : ∃ N, N = w.heap.size := ⟨_, rfl⟩
  obtain ⟨W, hW⟩ : ∃ W, W = (((w.alloc (.cells #[.int .i64 n, .slice la ls.length lcap] 30)).alloc (.cells #[.slice none 0 0] 25)).alloc (.cells #[.bool false] 4)).alloc (.cells #[.int .i64 n, .slice la ls.length lcap] 30) := ⟨_, rfl⟩
  have hWc : Chg (fun _ => False) w W := by rw [hW]; exact ((((Chg.refl _ _).alloc _).alloc _).alloc _).alloc _
  have hWs : W.heap.size = N + 4 := by rw [hW, hN]; simp
  have hW3 : W.heap[N + 3]? = some (.cells #[.int .i64 n, .slice la ls.length lcap] 30 (0, 0)) := by
    have := World.alloc_heap_new (((w.alloc (.cells #[.int .i64 n, .slice la ls.length lcap] 30)).alloc (.cells #[.slice none 0 0] 25)).alloc (.cells #[.bool false] 4)) (.cells #[.int .i64 n, .slice la ls.length lcap] 30)
    rw [hW, hN]; simpa using this
  have hW2 : W.heap[N + 2]? = some (.cells #[.bool false] 4 (0, 0)) := by
    have := World.alloc_heap_new ((w.alloc (.cells #[.int .i64 n, .slice la ls.length lcap] 30)).alloc (.cells #[.slice none 0 0] 25)) (.cells #[.bool false] 4)
    rw [hW, Below.heap_alloc _ _ _ (by simp; omega), hN]; simpa using this
  have hW1 : W.heap[N + 1]? = some (.cells #[.slice none 0 0] 25 (0, 0)) := by
    have := World.alloc_heap_new (w.alloc (.cells #[.int .i64 n, .slice la ls.length lcap] 30)) (.cells #[.slice none 0 0] 25)
    rw [hW, Below.heap_alloc _ _ _ (by simp; omega), Below.heap_alloc _ _ _ (by simp; omega), hN]; simpa using this
  simp only [← hW, ← hN]
  clear hW
  have HN := Lib.hid hN
  have HW := Lib.hid (And.intro hWc (And.intro hWs (And.intro hW3 (And.intro hW2 hW1))))
  clear hN hWc hWs hW3 hW2 hW1
  refine wp_range (gf := 33) (lb := #[.pointer (some ⟨N + 3, 0, none⟩)]) rfl (enters_of Try.func33 (by kernel_rfl) rfl)
    (D := fun k => D k ∨ k = N + 3) (enc := encB) (xs := modelsOf n ls) ?seq ?size ?keep (fun k => k = N + 1 ∨ k = N + 2) ?hT0 ?hD
    (fun pre T W => pre = [] ∧ (∀ k, T k ↔ k = N + 1 ∨ k = N + 2) ∧ W.heap[N + 1]? = some (.cells #[.slice none 0 0] 25 (0, 0)) ∧ W.heap[N + 2]? = some (.cells #[.bool false] 4 (0, 0)))
    (fun c pre T W => c = .ret ∧ ∃ m g arr, pre = [m] ∧ T g ∧ W.heap[N + 1]? = some (.cells #[.slice (some ⟨g, 0, none⟩) m.length m.length] 25 (0, 0)) ∧ W.heap[N + 2]? = some (.cells #[.bool true] 4 (0, 0)) ∧
      N + 6 ≤ g ∧ W.heap[g]? = some (.cells arr 4 (0, 0)) ∧ arr.size = m.length ∧ ∀ i, i < m.length → arr[i]? = some (.bool (m[i]?.getD false)))
    ?hI ?hIx ?h0 (fun args => { tmps := #[.agg #[.int .i64 n, .slice la ls.length lcap], .pointer (some ⟨N, 0, none⟩), .pointer (some ⟨N + 1, 0, none⟩), .pointer (some ⟨N + 2, 0, none⟩), args.getD 0 undef, .agg #[.int .i64 n, .slice la ls.length lcap], .func (.func 33) #[] #[.pointer (some ⟨N + 3, 0, none⟩)], args.getD 0 undef, undef], defers := [] }) ?assign ?body ?done ?stop
  case seq =>
    intro W1 hc hs
    obtain ⟨hWc, hWs, hW3, hW2, hW1⟩ := HW.out
    refine models1_gen n _ ls (N + 3) _ W1 (hc.heap id hW3) (.inr rfl) (((H0.out.1.chg hWc (fun _ _ x => x)).chg hc (fun _ _ x => x)).mono (fun k hk _ => .inl hk)) ?_
    rintro k (hk | hk)
    · have := H0.out.2 k hk; have := HN.out; omega
    · omega
  case size =>
    rintro x W args fresh ⟨g, arr, rfl, _⟩
    rfl
  case keep =>
    rintro x W W' args fresh ⟨g, arr, h1, h2, h3, h4, h5⟩ hc
    exact ⟨g, arr, h1, hc.heap (fun h => h ((h5 g).2 rfl)) h2, h3, h4, h5⟩
  case hT0 =>
    obtain ⟨hWc, hWs, hW3, hW2, hW1⟩ := HW.out
    have := HN.out
    rintro k (rfl | rfl)
    · exact ⟨by omega, fun h => by rcases h with h | h; have := H0.out.2 _ h; omega; omega⟩
    · exact ⟨by omega, fun h => by rcases h with h | h; have := H0.out.2 _ h; omega; omega⟩
  case hD =>
    obtain ⟨hWc, hWs, hW3, hW2, hW1⟩ := HW.out
    rintro k (hk | rfl)
    · have := H0.out.2 k hk; have := HN.out; omega
    · omega
  case hI =>
    rintro pre T W1 W2 ⟨h1, h2, h3, h4⟩ hc
    exact ⟨h1, h2, hc.heap (fun h => h.2 ((h2 _).2 (.inl rfl))) h3, hc.heap (fun h => h.2 ((h2 _).2 (.inr rfl))) h4⟩
  case hIx =>
    rintro c pre T W1 W2 ⟨h1, m, g, arr, h2, h3, h4, h5, h6, h7, h8⟩ hc
    obtain ⟨hWc, hWs, _⟩ := HW.out
    exact ⟨h1, m, g, arr, h2, h3, hc.heap (fun h => by omega) h4, hc.heap (fun h => by omega) h5, h6, hc.heap (fun h => h.2 h3) h7, h8⟩
  case h0 =>
    obtain ⟨hWc, hWs, hW3, hW2, hW1⟩ := HW.out
    exact ⟨rfl, fun _ => Iff.rfl, hW1, hW2⟩
  case assign =>
    rintro l x W1 args fresh K ⟨g, arr, rfl, _⟩ hK
    gi_wp2
    exact hK
  case body =>
    rintro l pre x T W1 args fresh ⟨rfl, hT, h3, h4⟩ hpre ⟨g, arr, rfl, h5, h6, h7, h8⟩ hTl hfr hsz
    have c1 : W1.cell? ⟨N + 1, 0, none⟩ = some (.slice none 0 0) := by rw [cell_of_heap h3]; rfl
    have c2 : W1.cell? ⟨N + 2, 0, none⟩ = some (.bool false) := by rw [cell_of_heap h4]; rfl
    have f1 := frozen_of_heap h3 0
    have f2 := frozen_of_heap h4 0
    have HB := Lib.hid (And.intro hT (And.intro h3 (And.intro h4 (And.intro h5 (And.intro h6 (And.intro h7 (And.intro h8 (And.intro hTl (And.intro hfr hsz)))))))))
    clear hT h3 h4 h5 h6 h7 h8 hTl hfr hsz
    gi_wp2
    obtain ⟨hT, h3, h4, h5, h6, h7, h8, hTl, hfr, hsz⟩ := HB.out
    obtain ⟨hWc, hWs, hW3, hW2, hW1⟩ := HW.out
    have hg := hfr g ((h8 g).2 rfl)
    have hg4 : N + 6 ≤ g := by omega
    refine ⟨fun k => T k ∨ k = g, ?_, ?_, rfl, x, g, arr, rfl, .inr rfl, ?_, ?_, hg4, ?_, h6, h7⟩
    · rintro k (hk | rfl)
      · exact ⟨by have := hTl k hk; simp [World.setCell]; exact this, .inl hk⟩
      · exact ⟨by simp [World.setCell]; exact hg.1, .inr (.inl ((h8 _).2 rfl))⟩
    · exact ((Chg.refl _ _).setCell (p := ⟨N + 1, 0, none⟩) (fun _ => (hT _).2 (.inl rfl)) _).setCell (p := ⟨N + 2, 0, none⟩) (fun _ => (hT _).2 (.inr rfl)) _
    · rw [heap_setCell_ne (p := ⟨N + 2, 0, none⟩) (by show N + 1 ≠ N + 2; omega), heap_setCell_at h3]; rfl
    · rw [heap_setCell_at ((heap_setCell_ne (p := ⟨N + 1, 0, none⟩) (by show N + 2 ≠ N + 1; omega) _).trans h4)]; rfl
    · rw [heap_setCell_ne (p := ⟨N + 2, 0, none⟩) (by show g ≠ N + 2; omega), heap_setCell_ne (p := ⟨N + 1, 0, none⟩) (by show g ≠ N + 1; omega)]; exact h5
  case done =>
    rintro T W1 ⟨h1, h2, h3, h4⟩ hc hd hsz
    have c1 : W1.cell? ⟨N + 1, 0, none⟩ = some (.slice none 0 0) := by rw [cell_of_heap h3]; rfl
    have c2 : W1.cell? ⟨N + 2, 0, none⟩ = some (.bool false) := by rw [cell_of_heap h4]; rfl
    have f1 := frozen_of_heap h3 0
    have f2 := frozen_of_heap h4 0
    have HB := Lib.hid (And.intro h1 (And.intro h2 (And.intro h3 (And.intro h4 (And.intro hc (And.intro hd hsz))))))
    clear h1 h2 h3 h4 hc hd hsz
    gi_wp2
    obtain ⟨h1, h2, h3, h4, hc, hd, hsz⟩ := HB.out
    obtain ⟨hWc, hWs, hW3, hW2, hW1⟩ := HW.out
    have e1 := heap_setCell_ne (p := ⟨N + 2, 0, none⟩) (show N + 1 ≠ N + 2 by omega) (.bool false) |>.trans (heap_setCell_at (o := 0) h3 (.slice none 0 0))
    have e2 := heap_setCell_at (o := 0) ((heap_setCell_ne (p := ⟨N + 1, 0, none⟩) (show N + 2 ≠ N + 1 by omega) (.slice none 0 0)).trans h4) (.bool false)
    have e3 : ((W1.setCell ⟨N + 1, 0, none⟩ (.slice none 0 0)).setCell ⟨N + 2, 0, none⟩ (.bool false)).heap[W.heap.size]? = some (.deferred (some [])) := by
      rw [heap_setCell_ne (p := ⟨N + 2, 0, none⟩) (by show _ ≠ N + 2; omega), heap_setCell_ne (p := ⟨N + 1, 0, none⟩) (by show _ ≠ N + 1; omega)]; exact hd
    refine ⟨by simp, .inl ⟨_, _, rfl, run_takeDeferred e3, ?_⟩⟩
    have k1 := (World.putObj_heap_other (o := .deferred none) (show N + 1 ≠ W.heap.size by omega)).trans e1
    have k2 := (World.putObj_heap_other (o := .deferred none) (show N + 2 ≠ W.heap.size by omega)).trans e2
    refine ⟨_, results_two _ _ _ _ _ _ _ (by rw [cell_of_heap k1]; rfl) (by rw [cell_of_heap k2]; rfl), ?_⟩
    have hfin : Chg (fun _ => False) w (((W1.setCell ⟨N + 1, 0, none⟩ (.slice none 0 0)).setCell ⟨N + 2, 0, none⟩ (.bool false)).putObj W.heap.size (.deferred none)) := by
      have := HN.out
      refine (((hWc.trans' hc (fun k hk hx => by omega)).setCell (p := ⟨N + 1, 0, none⟩) (fun h => ?_) _).setCell (p := ⟨N + 2, 0, none⟩) (fun h => ?_) _).putObj (fun h => ?_) _
      all_goals first | omega | (simp at h; omega)
    refine ⟨hfin, ?_⟩
    rw [h1]
    rfl
  case stop =>
    rintro c pre T W1 hpre ⟨rfl, m, g, arr, h2, h3, h4, h5, h6, h7, h8, h9⟩ hc hd hsz
    gi_wp2
    obtain ⟨hWc, hWs, hW3, hW2, hW1⟩ := HW.out
    refine ⟨by simp, .inl ⟨_, _, rfl, run_takeDeferred hd, ?_⟩⟩
    have k1 := (World.putObj_heap_other (o := .deferred none) (show N + 1 ≠ W.heap.size by omega)).trans h4
    have k2 := (World.putObj_heap_other (o := .deferred none) (show N + 2 ≠ W.heap.size by omega)).trans h5
    refine ⟨_, results_two _ _ _ _ _ _ _ (by rw [cell_of_heap k1]; rfl) (by rw [cell_of_heap k2]; rfl), ?_⟩
    have hfin : Chg (fun _ => False) w (W1.putObj W.heap.size (.deferred none)) := by
      have := HN.out
      exact (hWc.trans' hc (fun k hk hx => by omega)).putObj (fun h => by omega) _
    refine ⟨hfin, ?_⟩
    subst h2
    obtain ⟨tl, htl⟩ := hpre
    rw [← htl]
    exact ⟨g, arr, rfl, by have := HN.out; omega, (World.putObj_heap_other (by omega)).trans h7, h8, h9⟩
end Go.Proofs.Ytbeidiaejcbgoaa
