/- SolveModels walked: it answers true. Conditions: its arguments in memory. -/
import Derived.Test.YtbeidiaejcbgoaaLaw15e
import Derived.Test.YtbeidiaejcbgoaaLaw15a
import Derived.Test.YtbeidiaejcbgoaaSatLex
import Derived.Deep.RegionHeld3
import Derived.Sort.CutIn
import Derived.Test.YtbeidiaejcbgoaaModels3
namespace Go.Proofs.Ytbeidiaejcbgoaa
open Go.RowKit
attribute [local go_sem] Oper.semAt_some

/-- How many models are met when the loop may stop. -/
def metN (stop : Int) (N : Nat) : Nat := if 0 < stop ∧ stop < N then stop.toNat else N

theorem prefix_at {α : Type} {pre : List α} {x : α} {M : List α} (h : pre ++ [x] <+: M) (d : α) : pre.length < M.length ∧ M[pre.length]?.getD d = x := by
  obtain ⟨t, rfl⟩ := h
  constructor
  · simp
  · simp

theorem results_law4 {W : World} {p : Nat} {u : Value} (tmps : Array Value) (h6 : tmps[6]? = some (.pointer (some ⟨p, 0, none⟩))) (hp : W.cell? ⟨p, 0, none⟩ = some u) :
    (results Try.f4 tmps).run Try.prog W = .ok u W := by
  simp [results, Try.results4, go_sem, h6, hp]

theorem modelsOf_mem {n : Int} {ls : List (List Int)} {m : List Bool} (h : m ∈ modelsOf n ls) : m.length = n.toNat := by
  unfold modelsOf at h
  split at h
  · exact (mem_mods.1 h).1
  · cases h

/-- Two ways out of a loop that join behind it. -/
theorem wpIn_join {F : Fence} {P : Program} {c : Code} {Q : Exit → Act → World → Prop} {a : Act} {w : World} (d : Deferred) (X : World → Prop)
    (h : c.wpIn F 0 P (fun e a' w' => (e = .normal ∨ e = .exit 0) ∧ a' = { a with defers := d :: a.defers } ∧ X w') a w)
    (hx : ∀ a w, Q .normal a w → Q (.exit 0) a w) (hr : ∀ w', X w' → Q .normal { a with defers := d :: a.defers } w') : c.wpIn F 0 P Q a w := by
  refine wpIn_mono h ?_
  rintro e a' w' ⟨rfl | rfl, rfl, h⟩
  · exact hr _ h
  · exact hx _ _ (hr _ h)

/-- A cut: only the plain end is let go on. -/
theorem wpIn_plain {F : Fence} {P : Program} {c : Code} {K : Act → World → Prop} {Q : Exit → Act → World → Prop} {a : Act} {w : World} (h : c.wpIn F 0 P (Exit.then K (fun _ _ _ => False)) a w) : c.wpIn F 0 P (Exit.then K Q) a w := by
  refine wpIn_mono h ?_
  rintro e a' w' h
  cases e with
  | normal => exact h
  | _ => exact h.elim

theorem bools_of_enc {x : List Bool} {W : World} {g : Nat} {arr : Array Value} (h2 : W.heap[g]? = some (.cells arr 4 (0, 0))) (h4 : ∀ i, i < x.length → arr[i]? = some (.bool (x[i]?.getD false))) (hx : x.length ≤ 9223372036854775807) :
    Bools (fun k => k = g) W (.slice (some ⟨g, 0, none⟩) x.length x.length) x := by
  refine ⟨_, _, by rw [List.length_map], by simp, by simpa using hx, .inr ⟨g, 0, rfl, rfl, fun i hi => ?_⟩⟩
  rw [cell_of_heap h2, Nat.zero_add]
  simp at hi
  rw [h4 i hi]
  simp [hi]

set_option maxRecDepth 100000 in
set_option maxHeartbeats 8000000 in
theorem models_law (n : Int) (la : Option Addr) (lcap : Nat) (ls : List (List Int)) (stop most : Int) (D : Nat → Prop) (w : World) (hl : IntRows D w (.slice la ls.length lcap) ls) (hD : ∀ k, D k → k < w.heap.size) (_hs : -9223372036854775808 ≤ stop ∧ stop ≤ 9223372036854775807) :
    Calls Try.prog 4 #[.agg #[.int .i64 n, .slice la ls.length lcap], .int .i64 stop, .int .i64 most] w fun e w' => e = .returned (.bool true) ∧ Chg (fun _ => False) w w' := by
  have H0 := Lib.hid (And.intro hl hD)
  clear hl hD
  refine (callsIn_wide (n := 0)).1 ?_
  refine callsIn_of_wp_marks Try.func4 rfl trivial ?_
  simp only [Try.ntmps4, List.size_toArray, List.length_cons, List.length_nil, Nat.reduceAdd, Nat.reduceSub, Array.replicate_succ, Array.replicate_zero, List.push_toArray, List.append_toArray, List.nil_append, List.cons_append]
  gi_wp2_with fail
  obtain ⟨N, hN⟩ : ∃ N, N = w.heap.size := ⟨_, rfl⟩
  obtain ⟨W0, hW0⟩ : ∃ W, W = ((w.alloc (.cells #[.int .i64 n, .slice la ls.length lcap] 24)).alloc (.cells #[.int .i64 stop] 3)).alloc (.cells #[.bool false] 4) := ⟨_, rfl⟩
  have hc0 : Chg (fun _ => False) w W0 := by rw [hW0]; exact (((Chg.refl _ _).alloc _).alloc _).alloc _
  obtain ⟨hb0, hb1, hb2⟩ := three_blocks w (.cells #[.int .i64 n, .slice la ls.length lcap] 24) (.cells #[.int .i64 stop] 3) (.cells #[.bool false] 4)
  rw [← hW0, ← hN] at hb0 hb1 hb2
  have hs0 : W0.heap.size = N + 3 := by rw [hW0, hN]; simp
  simp only [← hW0, ← hN]
  clear hW0
  have HN := Lib.hid hN
  have HB := Lib.hid (And.intro hc0 (And.intro hb0 (And.intro hb1 (And.intro hb2 hs0))))
  clear hN hc0 hb0 hb1 hb2 hs0
  -- alive
  refine ⟨trivial, rfl, ?_⟩
  refine (callsIn_wide.2 (alive_any W0)).mono ?_
  rintro e w1 ⟨rfl, hc1⟩
  have e0 : w1.cell? ⟨N, 0, none⟩ = some (.int .i64 n) := by rw [cell_of_heap (hc1.heap id HB.out.2.1)]; rfl
  have e1 : w1.cell? ⟨N, 1, none⟩ = some (.slice la ls.length lcap) := by rw [cell_of_heap (hc1.heap id HB.out.2.1)]; rfl
  have H1 := Lib.hid hc1
  clear hc1
  gi_wp2_with fail
  refine ⟨trivial, rfl, ?_⟩
  refine (callsIn_wide.2 (light15_any n ls _ D w1 ((H0.out.1.chg HB.out.1 (fun _ _ x => x)).chg H1.out (fun _ _ x => x)))).mono ?_
  rintro e w2 ⟨rfl, hc2⟩
  have f0 := hc2.cell' e0 id
  have f1 := hc2.cell' e1 id
  have H2 := Lib.hid (H1.out.trans hc2)
  clear hc2 e0 e1
  have hq : light15 n ls = false ∨ (light15 n ls = true ∧ n ≤ 10) := by
    cases h : light15 n ls
    · exact .inl rfl
    · refine .inr ⟨rfl, ?_⟩
      unfold light15 at h
      simp only [Bool.and_eq_true, decide_eq_true_eq] at h
      exact h.1.2
  rcases hq with hq | ⟨hq, hn10⟩
  · rw [hq]
    clear hq
    gi_wp2_with fail
    refine ⟨trivial, rfl, ?_⟩
    refine (callsIn_wide.2 (alive_any w2)).mono ?_
    rintro e w3 ⟨rfl, hc3⟩
    have g2 : w3.cell? ⟨N + 2, 0, none⟩ = some (.bool false) := by rw [cell_of_heap ((H2.out.trans hc3).heap id HB.out.2.2.2.1)]; rfl
    have gf := frozen_of_heap ((H2.out.trans hc3).heap id HB.out.2.2.2.1) 0
    have H3 := Lib.hid (H2.out.trans hc3)
    clear hc3
    gi_wp2
    have k2 := heap_setCell_at (o := 0) (H3.out.heap id HB.out.2.2.2.1) (.bool true)
    refine ⟨_, results_law4 _ (by rfl) (by rw [cell_of_heap k2]; rfl), rfl, ?_⟩
    have := HN.out
    exact (HB.out.1.trans H3.out).setCell (p := ⟨N + 2, 0, none⟩) (fun h => by simp at h; omega) _
  · rw [hq]
    clear hq
    gi_wp2_with fail
    refine ⟨trivial, rfl, ?_⟩
    refine (callsIn_wide.2 (refModels_any n 2000 ls _ D w2 ((H0.out.1.chg HB.out.1 (fun _ _ x => x)).chg H2.out (fun _ _ x => x)) (by omega) (by omega))).mono ?_
    rintro e w3 ⟨ov, rfl, hov, hc3⟩
    rw [List.take_of_length_le (by have := modelsOf_len (ls := ls) hn10; omega)] at hov
    have g0 := hc3.cell' f0 id
    have g1 := hc3.cell' f1 id
    have H3 := Lib.hid (H2.out.trans hc3)
    have H23 := Lib.hid hc3
    obtain ⟨oa, oc, rfl, ho1, ho2, hjunk⟩ := hov.open
    have HOV := Lib.hid hov
    have HM := Lib.hid (modelsOf_len (ls := ls) hn10)
    clear hc3 f0 f1 hov hjunk
    generalize hM : modelsOf n ls = M at *
    have HMO := Lib.hid hM
    clear hM
    have hs3 : N + 3 ≤ w3.heap.size := by have := H3.out.size; have := HB.out.2.2.2.2; omega
    have hl0 : N < w3.heap.size := by omega
    have hl1 : N + 1 < w3.heap.size := by omega
    have hl2 : N + 1 + 1 < w3.heap.size := by omega
    gi_wp2_with fail
    obtain ⟨W3, hW3⟩ : ∃ W, W = (w3.alloc (.cells #[.slice oa M.length oc] 33)).alloc (.cells #[.int .i64 0] 3) := ⟨_, rfl⟩
    simp only [← hW3]
    have hcW3 : Chg (fun _ => False) w3 W3 := by rw [hW3]; exact ((Chg.refl _ _).alloc _).alloc _
    have hA : W3.heap[w3.heap.size]? = some (.cells #[.slice oa M.length oc] 33 (0, 0)) := by rw [hW3, Below.heap_alloc _ _ _ (by simp)]; exact World.alloc_heap_new _ _
    have hBb : W3.heap[w3.heap.size + 1]? = some (.cells #[.int .i64 0] 3 (0, 0)) := by rw [hW3]; have := World.alloc_heap_new (w3.alloc (.cells #[.slice oa M.length oc] 33)) (.cells #[.int .i64 0] 3); simpa using this
    clear hW3
    have h03 := hcW3.cell' g0 id
    have h13 := hcW3.cell' g1 id
    generalize hAe : w3.heap.size = A at *
    have HW3 := Lib.hid (And.intro hcW3 (And.intro hA (And.intro hBb hAe)))
    clear hcW3 hA hBb hAe g0 g1
    refine ⟨trivial, rfl, ?_⟩
    refine (callsIn_wide.2 (own_any n la ls.length lcap W3)).mono ?_
    rintro e w4 ⟨rfl, hc4⟩
    have i0 := hc4.cell' h03 id
    have i1 := hc4.cell' h13 id
    have H4 := Lib.hid hc4
    clear hc4 h03 h13
    gi_wp2_with fail
    refine ⟨trivial, rfl, ?_⟩
    refine (callsIn_wide.2 (models_any n _ w4 ⟨_, _, _, rfl⟩)).mono ?_
    rintro e w' ⟨rfl, rfl⟩
    obtain ⟨W5, hW5⟩ : ∃ W, W = w4.alloc (.cells #[.int .i64 n, .slice la ls.length lcap] 30) := ⟨_, rfl⟩
    obtain ⟨fb, hfb⟩ : ∃ fb, fb = w4.heap.size := ⟨_, rfl⟩
    have hc5 : Chg (fun _ => False) w4 W5 := by rw [hW5]; exact (Chg.refl _ _).alloc _
    have hF : W5.heap[fb]? = some (.cells #[.int .i64 n, .slice la ls.length lcap] 30 (0, 0)) := by rw [hW5, hfb]; exact World.alloc_heap_new _ _
    have hs5 : W5.heap.size = fb + 1 := by rw [hW5, hfb]; simp
    simp only [← hW5, ← hfb]
    clear hW5
    have H5 := Lib.hid (And.intro hc5 (And.intro hF (And.intro hs5 hfb)))
    clear hc5 hF hs5 hfb
    gi_wp2_with fail
    -- the loop
    have HX : Hid (Chg (fun _ => False) w W5 ∧ W5.heap[N]? = some (.cells #[.int .i64 n, .slice la ls.length lcap] 24 (0, 0)) ∧ W5.heap[N + 1]? = some (.cells #[.int .i64 stop] 3 (0, 0)) ∧ W5.heap[N + 2]? = some (.cells #[.bool false] 4 (0, 0)) ∧
        W5.heap[A]? = some (.cells #[.slice oa M.length oc] 33 (0, 0)) ∧ W5.heap[A + 1]? = some (.cells #[.int .i64 0] 3 (0, 0)) ∧ BoolRows (fun k => w2.heap.size ≤ k ∧ k < A) W5 (.slice oa M.length oc) M ∧ A + 2 ≤ fb ∧ N + 3 ≤ w2.heap.size ∧ w2.heap.size ≤ A ∧ W5.heap.size = fb + 1) := by
      have c35 := (HW3.out.1.trans H4.out).trans H5.out.1
      have c05 := H3.out.trans c35
      have s2 := H2.out.size
      have s3 := H4.out.size
      have s4 := (Array.getElem?_eq_some_iff.1 HW3.out.2.2.1).1
      have := HB.out.2.2.2.2
      have h23 := H23.out.size
      have hAe := HW3.out.2.2.2
      refine ⟨HB.out.1.trans c05, c05.heap id HB.out.2.1, c05.heap id HB.out.2.2.1, c05.heap id HB.out.2.2.2.1, (H4.out.trans H5.out.1).heap id HW3.out.2.1, (H4.out.trans H5.out.1).heap id HW3.out.2.2.1, ?_, by have := H5.out.2.2.2; omega, by omega, by omega, H5.out.2.2.1⟩
      exact (HOV.out.mono (fun k hk hk' => ⟨hk, by omega⟩)).chg c35 (fun _ _ x => x)
    clear i0 i1 hl0 hl1 hl2 hs3
    refine wpIn_join { target := .collected W5.heap.size, args := #[] } (fun W => W.heap[A + 1]? = some (.cells #[.int .i64 (metN stop M.length)] 3 (0, 0)) ∧ Chg (fun k => k = A + 1) W5 W ∧ W.heap[W5.heap.size]? = some (.deferred (some [])) ∧ W5.heap.size < W.heap.size) ?loop (fun _ _ h => h) ?rest
    case loop =>
      refine wp_range2 (gf := 33) (lb := #[.pointer (some ⟨fb, 0, none⟩)]) rfl (enters_of Try.func33 (by kernel_rfl) rfl)
        (D := fun k => D k ∨ k = fb) (enc := encB) (xs := M) ?seq ?size ?keep (fun k => k = A + 1) ?hT0 ?hD
        (fun pre T W => (stop ≤ 0 ∨ (pre.length : Int) < stop) ∧ (∀ k, T k ↔ k = A + 1) ∧ W.heap[A + 1]? = some (.cells #[.int .i64 pre.length] 3 (0, 0)) ∧ Chg (fun k => k = A + 1 ∨ fb < k) W5 W)
        (fun c pre T W => c = .exit 0 ∧ (pre.length : Int) = stop ∧ 0 < stop ∧ T (A + 1) ∧ W.heap[A + 1]? = some (.cells #[.int .i64 pre.length] 3 (0, 0)))
        ?hI ?hIx ?h0 ?round ?done ?stop
      case seq =>
        intro W1 hc hs
        obtain ⟨x1, x2, x3, x4, x5, x6, x7, x8, x9, x10, x11⟩ := HX.out
        rw [← HMO.out]
        refine models1_gen n _ ls fb _ W1 (hc.heap id H5.out.2.1) (.inr rfl) (((H0.out.1.chg x1 (fun _ _ x => x)).chg hc (fun _ _ x => x)).mono (fun k hk _ => .inl hk)) ?_
        rintro k (hk | rfl)
        · have := H0.out.2 k hk; have := x1.size; omega
        · omega
      case size =>
        rintro x W args fresh ⟨g, arr, rfl, _⟩
        rfl
      case keep =>
        rintro x W W' args fresh ⟨g, arr, h1, h2, h3, h4, h5⟩ hc
        exact ⟨g, arr, h1, hc.heap (fun h => h ((h5 g).2 rfl)) h2, h3, h4, h5⟩
      case hT0 =>
        obtain ⟨x1, x2, x3, x4, x5, x6, x7, x8, x9, x10, x11⟩ := HX.out
        have := HN.out
        rintro k rfl
        exact ⟨by omega, fun h => by rcases h with h | h; have := H0.out.2 _ h; omega; omega⟩
      case hD =>
        obtain ⟨x1, x2, x3, x4, x5, x6, x7, x8, x9, x10, x11⟩ := HX.out
        rintro k (hk | rfl)
        · have := H0.out.2 k hk; have := x1.size; omega
        · omega
      case hI =>
        rintro pre T W1 W2 ⟨h1, h2, h3, h4⟩ hc
        obtain ⟨x1, x2, x3, x4, x5, x6, x7, x8, x9, x10, x11⟩ := HX.out
        exact ⟨h1, h2, hc.heap (fun h => h.2 ((h2 _).2 rfl)) h3, h4.trans' hc (fun k hk hx => by omega)⟩
      case hIx =>
        rintro c pre T W1 W2 ⟨h1, h2, h3, h4, h5⟩ hc
        exact ⟨h1, h2, h3, h4, hc.heap (fun h => h.2 h4) h5⟩
      case h0 =>
        obtain ⟨x1, x2, x3, x4, x5, x6, x7, x8, x9, x10, x11⟩ := HX.out
        exact ⟨by simp; omega, fun _ => Iff.rfl, x6, Chg.refl _ _⟩
      case round =>
        rintro l pre x T W1 W2 args fresh K ⟨h1, hT, h3, h4⟩ hpre ⟨g, arr, rfl, h5, h6, h7, h8⟩ hTl hfr hsz hK
        obtain ⟨x1, x2, x3, x4, x5, x6, x7, x8, x9, x10, x11⟩ := HX.out
        have HK := Lib.hid hK
        obtain ⟨hlt, hat⟩ := prefix_at hpre []
        have hM24 := HM.out
        have hfr' := hfr g ((h8 g).2 rfl)
        have hxl : x.length ≤ 9223372036854775807 := by
          have := modelsOf_mem (n := n) (ls := ls) (m := x) (by rw [HMO.out]; obtain ⟨t, ht⟩ := hpre; rw [← ht]; simp)
          omega
        have hbx := bools_of_enc h5 h7 hxl
        have hrows := x7.chg h4 (fun k hk hx => by omega)
        obtain ⟨oa', oc', ho', _, _, hcs⟩ := hrows.open
        cases ho'
        rcases hcs with hcs | ⟨ob, oo, rfl, hob, hcs⟩
        · rw [hcs] at hlt; exact absurd hlt (Nat.not_lt_zero _)
        obtain ⟨u, hu1, hu2⟩ := hcs pre.length hlt
        rw [hat] at hu2
        have HT := Lib.hid (truths_any x x _ u (fun k => k = g ∨ (w2.heap.size ≤ k ∧ k < A)) W2 (SliceOf.mono hbx (fun k hk _ => .inl hk)) (SliceOf.mono hu2 (fun k hk _ => .inr hk)))
        have c0 : W2.cell? ⟨A, 0, none⟩ = some (.slice (some ⟨ob, oo, none⟩) M.length oc) := by rw [cell_of_heap (h4.heap (by omega) x5)]; rfl
        have c1 : W2.cell? ⟨A + 1, 0, none⟩ = some (.int .i64 pre.length) := by rw [cell_of_heap h3]; rfl
        have c2 : W2.cell? ⟨N + 1, 0, none⟩ = some (.int .i64 stop) := by rw [cell_of_heap (h4.heap (by omega) x3)]; rfl
        have f1 := frozen_of_heap h3 0
        have b1 : decide (M.length ≤ pre.length) = false := by simp; omega
        have HB := Lib.hid (And.intro h1 (And.intro hT (And.intro h3 (And.intro h4 (And.intro hTl hsz)))))
        clear h1 hT h3 h4 h5 h6 h7 h8 hTl hfr hsz hpre x1 x2 x3 x4 x5 x6 x7 x8 x9 x10 x11 hK hbx hrows hu2 hcs hat hM24
        gi_wp2
        refine HK.out _ ?_
        clear HK
        gi_wp2_with fail
        refine ⟨trivial, rfl, ?_⟩
        refine (callsIn_wide.2 HT.out).mono ?_
        rintro e W7 ⟨rfl, hc7⟩
        rw [beq_self_eq_true]
        have c1' := hc7.cell' c1 id
        have c2' := hc7.cell' c2 id
        have f1' := frozen_of_heap (hc7.heap id HB.out.2.2.1) 0
        have hlen : pre.length + 1 ≤ 1000000000 := by have := HM.out; omega
        have hstep : ∀ W8, W8 = W7.setCell ⟨A + 1, 0, none⟩ (.int .i64 ((pre.length : Int) + 1)) → (∀ k, T k → k < W8.heap.size ∧ (T k ∨ fresh k ∨ W2.heap.size ≤ k)) ∧ Chg T W2 W8 ∧ W8.heap[A + 1]? = some (.cells #[.int .i64 (pre ++ [x]).length] 3 (0, 0)) ∧ Chg (fun k => k = A + 1 ∨ fb < k) W5 W8 := by
          rintro W8 rfl
          obtain ⟨h1, hT, h3, h4, hTl, hsz⟩ := HB.out
          refine ⟨fun k hk => ⟨by have := hTl k hk; have := hc7.size; simp [World.setCell]; omega, .inl hk⟩, (hc7.mono (fun _ _ x => x.elim)).setCell (p := ⟨A + 1, 0, none⟩) (fun _ => (hT _).2 rfl) _, ?_, ?_⟩
          · rw [heap_setCell_at (hc7.heap id h3)]; simp
          · exact (h4.trans (hc7.mono (fun _ _ x => x.elim))).setCell (p := ⟨A + 1, 0, none⟩) (fun _ => .inl rfl) _
        have hNA : N ≠ A := by have := HX.out; omega
        have HST := Lib.hid (And.intro hc7 hstep)
        clear hstep hc7 c1 c2 f1 HT
        by_cases hq : (pre.length : Int) + 1 = stop
        · have b2 : ((pre.length : Int) + 1 == stop) = true := by simpa using hq
          have HQ := Lib.hid hq
          clear hq
          gi_wp2
          obtain ⟨h1, hT, h3, h4, hTl, hsz⟩ := HB.out
          obtain ⟨s1, s2, s3, s4⟩ := HST.out.2 _ rfl
          exact ⟨T, s1, s2, rfl, by simp; exact HQ.out, by have := HQ.out; omega, (hT _).2 rfl, s3⟩
        · have b2 : ((pre.length : Int) + 1 == stop) = false := by simpa using hq
          have HQ := Lib.hid hq
          clear hq
          gi_wp2
          obtain ⟨h1, hT, h3, h4, hTl, hsz⟩ := HB.out
          obtain ⟨s1, s2, s3, s4⟩ := HST.out.2 _ rfl
          exact ⟨T, s1, s2, by have := HQ.out; simp; omega, hT, s3, s4⟩
      case done =>
        rintro T W1 ⟨h1, h2, h3, h4⟩ hc hd hsz
        refine ⟨.inl rfl, rfl, ?_, hc, hd, by omega⟩
        rw [h3]
        unfold metN
        rw [if_neg (by omega)]
      case stop =>
        rintro c pre T W1 hpre ⟨rfl, h2, h3, h4, h5⟩ hc hd hsz
        refine wpIn_exit ?_
        refine ⟨.inr rfl, rfl, ?_, hc, hd, by omega⟩
        rw [h5]
        unfold metN
        have := hpre.length_le
        by_cases h : stop < M.length
        · rw [if_pos ⟨h3, h⟩]
          have : (pre.length : Int) = stop.toNat := by omega
          rw [this]
        · rw [if_neg (fun x => h x.2)]
          have : (pre.length : Int) = M.length := by omega
          rw [this]
    case rest =>
      rintro W6 ⟨h1, h2, h3, h4⟩
      obtain ⟨x1, x2, x3, x4, x5, x6, x7, x8, x9, x10, x11⟩ := HX.out
      have hc6 : Chg (fun _ => False) w W6 := x1.trans' h2 (fun k hk hx => by have := HN.out; omega)
      have c0 : W6.cell? ⟨A, 0, none⟩ = some (.slice oa M.length oc) := by rw [cell_of_heap (h2.heap (by omega) x5)]; rfl
      have c1 : W6.cell? ⟨A + 1, 0, none⟩ = some (.int .i64 (metN stop M.length)) := by rw [cell_of_heap h1]; rfl
      have c2 : W6.cell? ⟨N + 1, 0, none⟩ = some (.int .i64 stop) := by rw [cell_of_heap (h2.heap (by omega) x3)]; rfl
      have d0 : W6.cell? ⟨N, 0, none⟩ = some (.int .i64 n) := by rw [cell_of_heap (h2.heap (by omega) x2)]; rfl
      have d1 : W6.cell? ⟨N, 1, none⟩ = some (.slice la ls.length lcap) := by rw [cell_of_heap (h2.heap (by omega) x2)]; rfl
      have d2 : W6.cell? ⟨N + 2, 0, none⟩ = some (.bool false) := by rw [cell_of_heap (h2.heap (by omega) x4)]; rfl
      have HR := Lib.hid (And.intro hc6 (And.intro (x7.chg h2 (fun k hk hx => by omega)) (And.intro (h2.heap (by omega) x4) (And.intro h3 (And.intro h4 (And.intro (H0.out.1.chg hc6 (fun _ _ x => x)) (by omega : A < W6.heap.size)))))))
      clear h1 h2 h3 h4 x1 x2 x3 x4 x5 x6 x7 x8 x9 x10 x11 hc6
      obtain ⟨bb, hbb⟩ : ∃ bb, (decide (0 < stop) && decide (stop < (M.length : Int))) = bb := ⟨_, rfl⟩
      obtain ⟨top, htop, hcase⟩ : ∃ top : Int, (metN stop M.length : Int) = top ∧ ((bb = false ∧ top = M.length) ∨ (bb = true ∧ top = stop)) := by
        refine ⟨_, rfl, ?_⟩
        unfold metN
        cases bb
        · refine .inl ⟨rfl, ?_⟩
          rw [if_neg]
          intro h
          simp [h.1, h.2] at hbb
        · refine .inr ⟨rfl, ?_⟩
          simp at hbb
          rw [if_pos hbb]
          omega
      have HBB := Lib.hid hbb
      clear hbb
      rw [htop] at c1
      have HTOP := Lib.hid (And.intro htop _hs)
      clear htop _hs
      have HSO := Lib.hid (fun w3 hL => solve_any n (.slice la ls.length lcap) ls D w3 hL)
      have HCO := Lib.hid (fun w3 hL hD => count_any n (.slice la ls.length lcap) ls most D w3 hL hD (by rw [HMO.out]; have := HM.out; omega))
      gi_upto_region 14 with fail
      gi_cut [10, 51] from 45 (fun s10 s51 wx => s10 = .int .i64 M.length ∧ s51 = .bool bb ∧ W6 = wx)
      case first =>
        cases h1 : decide (0 < stop) <;> cases h2 : decide (stop < (M.length : Int))
        all_goals
          gi_wp2_with fail
          gi_meet
          exact ⟨rfl, by rw [← HBB.out, h1, h2]; rfl, rfl⟩
      obtain ⟨rfl, rfl, rfl⟩ := hcut
      gi_upto_if 51 with fail
      gi_cut [10] from 45 (fun s10 wx => s10 = .int .i64 top ∧ W6 = wx)
      case first =>
        rcases hcase with ⟨rfl, rfl⟩ | ⟨rfl, rfl⟩
        all_goals
          gi_wp2_with fail
          gi_meet
          exact ⟨rfl, rfl⟩
      obtain ⟨rfl, rfl⟩ := hcut
      clear hcase
      gi_wp2_with fail
      refine ⟨trivial, rfl, ?_⟩
      refine (callsIn_wide.2 (own_any n la ls.length lcap W6)).mono ?_
      rintro e w7 ⟨rfl, hc7⟩
      have k0 := hc7.cell' c0 id
      have k1 := hc7.cell' c1 id
      have l0 := hc7.cell' d0 id
      have l1 := hc7.cell' d1 id
      have l2 := hc7.cell' d2 id
      have H7 := Lib.hid hc7
      clear hc7 c0 c1 d0 d1 d2 c2
      gi_wp2_with fail
      refine ⟨trivial, rfl, ?_⟩
      refine (callsIn_wide.2 (HSO.out w7 (HR.out.2.2.2.2.2.1.chg H7.out (fun _ _ x => x)) (fun k hk => Nat.lt_of_lt_of_le (H0.out.2 k hk) (HR.out.1.trans H7.out).size))).mono ?_
      rintro e w8 ⟨hc8, hp8⟩
      rw [HMO.out] at hp8
      have c0 := hc8.cell' k0 id
      have c1 := hc8.cell' k1 id
      have d0 := hc8.cell' l0 id
      have d1 := hc8.cell' l1 id
      have d2 := hc8.cell' l2 id
      have H8 := Lib.hid (H7.out.trans hc8)
      clear hc8 k0 k1 l0 l1 l2
      have hsol : ∃ mv is, e = .returned (.tuple #[mv, .bool is]) ∧ ((mv = .slice none 0 0 ∧ is = false ∧ M = []) ∨ ∃ m0 tl g arr, M = m0 :: tl ∧ mv = .slice (some ⟨g, 0, none⟩) m0.length m0.length ∧ is = true ∧ w8.heap[g]? = some (.cells arr 4 (0, 0)) ∧ ∀ i, i < m0.length → arr[i]? = some (.bool (m0[i]?.getD false))) := by
        cases M with
        | nil => exact ⟨_, _, hp8, .inl ⟨rfl, rfl, rfl⟩⟩
        | cons m0 tl =>
          obtain ⟨g, arr, rfl, hg, hh, hs, hv⟩ := hp8
          exact ⟨_, _, rfl, .inr ⟨m0, tl, g, arr, rfl, rfl, rfl, hh, hv⟩⟩
      obtain ⟨mv, is, rfl, hsol⟩ := hsol
      clear hp8
      have HSOL := Lib.hid hsol
      clear hsol
      gi_upto_region 17 with fail
      gi_cut [88] from 45 (fun s88 wx => s88 = .bool false ∧ Chg (fun _ => False) w8 wx)
      case first =>
        rcases HSOL.out with ⟨rfl, rfl, hM⟩ | ⟨m0, tl, g, arr, hM, rfl, rfl, hh, hv⟩
        · subst hM
          simp only [List.length_nil] at *
          gi_wp2_with fail
          refine ⟨trivial, ?_⟩
          gi_wp2_with fail
          gi_meet
          exact ⟨rfl, Chg.refl _ _⟩
        · have hm0l : m0.length ≤ 9223372036854775807 := by
            have := modelsOf_mem (n := n) (ls := ls) (m := m0) (by rw [HMO.out, hM]; simp)
            omega
          have b4 : decide (0 < M.length) = true := by simp [hM]
          have hrows : BoolRows (fun k => w2.heap.size ≤ k ∧ k < A) w8 (.slice oa M.length oc) M := HR.out.2.1.chg H8.out (fun _ _ x => x)
          obtain ⟨oa', oc', ho', _, _, hcs⟩ := hrows.open
          cases ho'
          rcases hcs with hcs | ⟨ob, oo, rfl, hob, hcs⟩
          · rw [hcs] at hM; cases hM
          obtain ⟨u, hu1, hu2⟩ := hcs 0 (by simp [hM])
          have hm0 : M[0]?.getD [] = m0 := by simp [hM]
          rw [hm0] at hu2
          rw [Nat.add_zero] at hu1
          have HT := Lib.hid (truths_any m0 m0 _ u (fun k => k = g ∨ (w2.heap.size ≤ k ∧ k < A)) w8 (SliceOf.mono (bools_of_enc hh hv hm0l) (fun k hk _ => .inl hk)) (SliceOf.mono hu2 (fun k hk _ => .inr hk)))
          have hML : 0 < M.length := by simp [hM]
          clear hrows hcs hu2 hm0 hh hv hM hm0l
          gi_wp2_with fail
          refine ⟨trivial, rfl, ?_⟩
          refine (callsIn_wide.2 HT.out).mono ?_
          rintro e w9 ⟨rfl, hc9⟩
          rw [beq_self_eq_true]
          gi_wp2_with fail
          gi_meet
          exact ⟨rfl, hc9⟩
      obtain ⟨rfl, hc9⟩ := hcut
      obtain ⟨w9, hw9⟩ : ∃ w9, w9 = wc := ⟨_, rfl⟩
      rw [← hw9] at hc9 ⊢
      clear hw9
      have k0 := hc9.cell' c0 id
      have l0 := hc9.cell' d0 id
      have l1 := hc9.cell' d1 id
      have l2 := hc9.cell' d2 id
      have H9 := Lib.hid (H8.out.trans hc9)
      clear hc9 c0 c1 d0 d1 d2
      gi_upto_region 19 with fail
      have HEND := Lib.hid (And.intro (H0.out.1.chg (HR.out.1.trans H9.out) (fun _ _ x => x)) (fun k (hk : D k) => Nat.lt_of_lt_of_le (H0.out.2 k hk) (HR.out.1.trans H9.out).size))
      have HQ2 := Lib.hid (H9.out.heap id HR.out.2.2.1)
      have HF := Lib.hid (And.intro (HR.out.1.trans H9.out) (H9.out.heap id HR.out.2.2.2.1))
      have hNA : N + 3 ≤ A := by have := HX.out; omega
      have h5le := Lib.hid (HX.out.1.size)
      clear HR HX HW3 HOV H5 H4 H3 H23 H2 H1 HB HTOP HBB HSOL H7 H8 H9
      have hcz : ((M.length : Int) < most ∧ ¬ (M.length : Int) < 0 ∧ countZ n ls most = M.length) ∨ (¬ (M.length : Int) < most ∧ most < 0 ∧ countZ n ls most = 0) ∨ (¬ (M.length : Int) < most ∧ ¬ most < 0 ∧ countZ n ls most = most) := by
        unfold countZ
        rw [HMO.out]
        split <;> omega
      have HS : Hid (∀ w', Chg (fun k => k = N + 2) w9 w' → w'.cell? ⟨A, 0, none⟩ = some (.slice oa M.length oc) ∧ w'.cell? ⟨N, 0, none⟩ = some (.int .i64 n) ∧ w'.cell? ⟨N, 1, none⟩ = some (.slice la ls.length lcap) ∧ Chg (fun k => k = N + 2) w9 w') := by
        intro w' hc
        exact ⟨hc.cell' k0 (by simp; omega), hc.cell' l0 (by simp), hc.cell' l1 (by simp), hc⟩
      gi_cut [] from 45 (fun wx => ∃ w12, Chg (fun _ => False) w9 w12 ∧ wx = w12.setCell ⟨N + 1 + 1, 0, none⟩ (.bool true))
      case first =>
        rcases hcz with ⟨z1, z2, z3⟩ | ⟨z1, z2, z3⟩ | ⟨z1, z2, z3⟩
        all_goals rw [z3] at HCO
        all_goals clear z3
        all_goals refine wpIn_plain ?_
        all_goals refine wpIn_wide.2 ?_
        all_goals go_region_held3 (fun w' => w'.cell? ⟨A, 0, none⟩ = some (.slice oa M.length oc) ∧ w'.cell? ⟨N, 0, none⟩ = some (.int .i64 n) ∧ w'.cell? ⟨N, 1, none⟩ = some (.slice la ls.length lcap) ∧ Chg (fun k => k = N + 2) w9 w')
          (first | exact HS.out _ (Chg.refl _ _).drew | exact HS.out _ (hd10.mono (fun _ _ x => x.elim)) | exact HS.out _ (hd11.mono (fun _ _ x => x.elim)) | exact HS.out _ (hd12.mono (fun _ _ x => x.elim)) | exact HS.out _ (Chg.setCell (S := fun k => k = N + 2) (p := ⟨N + 1 + 1, 0, none⟩) (hd12.mono (fun _ _ x => x.elim)) (fun _ => rfl) _))
          (first
            | (go_at_call 12; refine (own_any n la ls.length lcap _).mono ?_; rintro e w10 ⟨rfl, hc10⟩; have hd10 := ((Chg.refl (fun _ => False) w9).drew.trans hc10); clear hc10)
            | (go_at_call 18; refine (HCO.out _ (HEND.out.1.chg hd10 (fun _ _ x => x)) (fun k hk => Nat.lt_of_lt_of_le (HEND.out.2 k hk) hd10.size)).mono ?_; rintro e w11 ⟨rfl, hc11⟩; have hd11 := hd10.trans hc11; clear hc11)
            | (go_at_call 10; refine (alive_any _).mono ?_; rintro e w12 ⟨rfl, hc12⟩; have hd12 := hd11.trans hc12; have m222 := hd12.cell' l2 id; have q222 := frozen_of_heap (hd12.heap id HQ2.out) 0; clear hc12))
        all_goals
          gi_wp2_with fail
          gi_meet
          exact ⟨_, hd12, rfl⟩
      obtain ⟨w12, hc12, rfl⟩ := hcut
      have hN2 := hc12.heap id HQ2.out
      have hdef := hc12.heap id HF.out.2
      have hcw := HF.out.1.trans hc12
      have HEND2 := Lib.hid (And.intro hN2 (And.intro hdef hcw))
      have hne : N + 1 + 1 ≠ W5.heap.size := by
        intro h
        rw [← h, hN2] at hdef
        cases hdef
      clear hN2 hdef hcw hc12 HF HQ2 HEND k0 l0 l1 l2
      gi_wp2_with fail
      obtain ⟨hN2, hdef, hcw⟩ := HEND2.out
      have e2 := heap_setCell_at (o := 0) hN2 (.bool true)
      have e3 : (w12.setCell ⟨N + 1 + 1, 0, none⟩ (.bool true)).heap[W5.heap.size]? = some (.deferred (some [])) := by
        rw [heap_setCell_ne (p := ⟨N + 1 + 1, 0, none⟩) (Ne.symm hne)]; exact hdef
      refine ⟨by simp, .inl ⟨_, _, rfl, run_takeDeferred e3, ?_⟩⟩
      have k2 := (World.putObj_heap_other (o := .deferred none) hne).trans e2
      refine ⟨_, results_law4 _ (by rfl) (by rw [cell_of_heap k2]; rfl), rfl, ?_⟩
      have hNw := HN.out
      refine (Chg.setCell (p := ⟨N + 1 + 1, 0, none⟩) hcw (fun h => ?_) _).putObj (fun h => ?_) _
      · simp at h; omega
      · have := h5le.out; omega
end Go.Proofs.Ytbeidiaejcbgoaa
