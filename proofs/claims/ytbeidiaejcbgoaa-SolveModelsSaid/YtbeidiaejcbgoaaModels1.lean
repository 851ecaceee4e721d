/- solve: Models walked: its iterator gives all models in their order. Conditions: a formula in memory. -/
import Derived.Test.YtbeidiaejcbgoaaSearch7
import Derived.Test.YtbeidiaejcbgoaaCnf2
import Derived.Test.YtbeidiaejcbgoaaRangeF
import Derived.Sort.LoopGhostIn
namespace Go.Proofs.Ytbeidiaejcbgoaa
open Go.RowKit
attribute [local go_sem] Oper.semAt_some

theorem models_any (n : Int) (Lv : Value) (w : World) (hone : ∃ a len cap, Lv = .slice a len cap) :
    Calls Try.prog 16 #[.agg #[.int .i64 n, Lv]] w fun e w' => e = .returned (.func (.func 33) #[] #[.pointer (some ⟨w.heap.size, 0, none⟩)]) ∧ w' = w.alloc (.cells #[.int .i64 n, Lv] 30) := by
  have hmf : ∀ (fn : Fn) (first cap : Array Value) (w : World), (Instr.makeFunc fn first cap).run Try.prog w = .ok (.func fn first cap) w := fun _ _ _ _ => rfl
  obtain ⟨a, len, cap, rfl⟩ := hone
  go_enter Try.func16, Try.ntmps16
  go_wp2
  go_ret
  exact ⟨rfl, rfl⟩

/-- The models of a formula, in their order. -/
def modelsOf (n : Int) (ls : List (List Int)) : List (List Bool) := if rightB n ls then Mods n.toNat ls else []

/-- yield's arguments at a model. -/
def encB (x : List Bool) (W : World) (args : Array Value) (fresh : Nat → Prop) : Prop :=
  ∃ g arr, args = #[.slice (some ⟨g, 0, none⟩) x.length x.length] ∧ W.heap[g]? = some (.cells arr 4 (0, 0)) ∧ arr.size = x.length ∧ (∀ i, i < x.length → arr[i]? = some (.bool (x[i]?.getD false))) ∧ (∀ k, fresh k ↔ k = g)

theorem rightB_right {n : Int} {ls : List (List Int)} (h : rightB n ls = true) : 0 ≤ n ∧ n ≤ 100000 ∧ RightL n.toNat ls := by
  unfold rightB at h
  simp only [Bool.and_eq_true, decide_eq_true_eq] at h
  obtain ⟨⟨h1, _⟩, h3⟩ := h
  refine ⟨h1.1, h1.2, fun c hc x hx => ?_⟩
  have := List.all_eq_true.1 h3 c hc
  unfold allB at this
  simp only [Bool.not_eq_true', List.any_eq_false, Bool.not_eq_true', Bool.not_eq_false] at this
  have := this x hx
  unfold litB at this
  simp only [decide_eq_true_eq] at this
  omega

/-- Where the iterator stands between two rounds. tnew: T's blocks are T0's or came later. -/
structure MInv (n : Nat) (ls : List (List Int)) (b vb B : Nat) (Lv : Value) (D T0 : Nat → Prop) (J : List (List Bool) → (Nat → Prop) → World → Prop) (W0 : World)
    (r : List (Int × Int)) (st : Int) (tv : Value) (T : Nat → Prop) (pre : List (List Bool)) (W : World) : Prop where
  srch : Srch W B b vb tv n Lv (valR r) r.reverse st
  inv : TrInv n r
  j : J pre T W
  sep : ∀ k, sblk b vb tv k → W0.heap.size ≤ k ∧ ¬ T k
  lt : ∀ k, T k → k < W.heap.size
  old : ∀ k, T k → ¬ D k
  tnew : ∀ k, T k → k < W0.heap.size → T0 k
  chg : Chg T0 W0 W
  all : pre ++ (ext n ls r ++ rest n ls r) = Mods n ls

theorem sep_step {w : World} {b vb : Nat} {tv tv' : Value} {T : Nat → Prop} {N0 : Nat} (hsep : ∀ k, sblk b vb tv k → N0 ≤ k ∧ ¬ T k) (hT : ∀ k, T k → k < w.heap.size) (hN : N0 ≤ w.heap.size) (hn : SameOrNew w.heap.size tv tv') :
    ∀ k, sblk b vb tv' k → N0 ≤ k ∧ ¬ T k := by
  rintro k (hk | hk | hk)
  · exact hsep k (.inl hk)
  · exact hsep k (.inr (.inl hk))
  · rcases hn with hn | ⟨q, hq, hq'⟩
    · exact hsep k (.inr (.inr (hn ▸ hk)))
    · rw [hk] at hq; cases hq
      exact ⟨by omega, fun h => by have := hT _ h; omega⟩

theorem T_step {D T T' : Nat → Prop} {g N : Nat} (hold : ∀ k, T k → ¬ D k) (hD : ∀ k, D k → k < N) (hg : N ≤ g) {M : Nat} (hM : N ≤ M) (hT' : ∀ k, T' k → T k ∨ k = g ∨ M ≤ k) : ∀ k, T' k → ¬ D k := by
  intro k hk hd
  have := hD k hd
  rcases hT' k hk with h | h | h
  · exact hold k h hd
  · omega
  · omega

set_option maxHeartbeats 2000000 in
theorem models1_gen (n : Int) (Lv : Value) (ls : List (List Int)) (fb : Nat) (D : Nat → Prop) (W0 : World) (hb : W0.heap[fb]? = some (.cells #[.int .i64 n, Lv] 30 (0, 0))) (hfb : D fb)
    (hL : IntRows D W0 Lv ls) (hD : ∀ k, D k → k < W0.heap.size) :
    Gen Try.prog 33 #[.pointer (some ⟨fb, 0, none⟩)] D encB (modelsOf n ls) W0 := by
  intro l J Jx T0 hT0 hJ hJx hround h0
  obtain ⟨la, lcap, rfl, hjunk⟩ := hL.open
  clear hjunk
  have HR := Lib.hid (right_any n ls (.slice la ls.length lcap) D W0 hL)
  have c0 : W0.cell? ⟨fb, 0, none⟩ = some (.int .i64 n) := by rw [cell_of_heap hb]; rfl
  have c1 : W0.cell? ⟨fb, 1, none⟩ = some (.slice la ls.length lcap) := by rw [cell_of_heap hb]; rfl
  have HROUND := Lib.hid hround
  have HJ := Lib.hid (And.intro hJ (And.intro hJx (And.intro h0 (And.intro hT0 (And.intro hb (And.intro hfb (And.intro hL hD)))))))
  clear hround hJ hJx h0 hT0 hb hfb hL hD
  refine callsIn_of_wp Try.func33 rfl trivial ?_ rfl
  simp only [Try.ntmps33, List.size_toArray, List.length_cons, List.length_nil, Nat.reduceAdd, Nat.reduceSub, Array.replicate_succ, Array.replicate_zero, List.push_toArray, List.append_toArray, List.nil_append, List.cons_append]
  gi_wp2_with fail
  refine ⟨trivial, rfl, ?_⟩
  refine (callsIn_wide.2 HR.out).mono ?_
  rintro e w1 ⟨rfl, hc1⟩
  have d0 := hc1.cell' c0 id
  have d1 := hc1.cell' c1 id
  have HC1 := Lib.hid hc1
  clear hc1 c0 c1 HR
  cases hq : rightB n ls
  · have HQ := Lib.hid hq
    clear hq
    gi_wp2
    go_end0
    obtain ⟨hJ, hJx, h0, hT0, hb, hfb, hL, hD⟩ := HJ.out
    refine ⟨⟨_, rfl⟩, HC1.out.mono (fun _ _ h => h.elim), T0, .inl ?_⟩
    have : modelsOf n ls = [] := by unfold modelsOf; rw [HQ.out]; rfl
    rw [this]
    exact hJ _ _ _ _ h0 (HC1.out.mono (fun _ _ h => h.elim))
  · have hn : 0 ≤ n ∧ n ≤ 100000 ∧ RightL n.toNat ls := rightB_right hq
    obtain ⟨nn, rfl⟩ : ∃ nn : Nat, n = nn := ⟨n.toNat, by omega⟩
    obtain ⟨_, hn1, hn2⟩ := hn
    have HQ := Lib.hid (And.intro hq hn2)
    clear hq hn2
    gi_wp2_with fail
    refine ⟨trivial, rfl, ?_⟩
    refine (callsIn_wide.2 (newSearch_any nn _ w1 (by omega) ⟨_, _, _, rfl⟩)).mono ?_
    rintro e w2 ⟨rfl, hS2, hc2⟩
    have HS2 := Lib.hid (And.intro hS2 hc2)
    clear hS2 hc2
    have hmo : modelsOf nn ls = Mods nn ls := by unfold modelsOf; rw [HQ.out.1]; rfl
    have HMO := Lib.hid hmo
    clear hmo
    obtain ⟨b, hb⟩ : ∃ b, b = w1.heap.size + 2 := ⟨_, rfl⟩
    obtain ⟨vb, hvb⟩ : ∃ vb, vb = w1.heap.size + 1 := ⟨_, rfl⟩
    obtain ⟨B, hB⟩ : ∃ B, B = w1.heap.size + 3 := ⟨_, rfl⟩
    rw [← hb]
    rw [← hb, ← hvb, ← hB] at HS2
    have HBV := Lib.hid (And.intro hb (And.intro hvb hB))
    clear hb hvb hB
    gi_wp2
    gi_loopg [9] ((Mods nn ls).length + 1) (fun g _ wr => ∃ (r : List (Int × Int)) (st : Int) (tv : Value) (T : Nat → Prop) (pre : List (List Bool)), Hid (g + pre.length = (Mods nn ls).length + 1 ∧ MInv nn ls b vb B (.slice la ls.length lcap) D T0 J W0 r st tv T pre wr))
    case atStart =>
      obtain ⟨hJ, hJx, h0, hT0, hb, hfb, hL, hD⟩ := HJ.out
      obtain ⟨hbb, hvb, hB⟩ := HBV.out
      have hc := HC1.out.trans HS2.out.2
      refine ⟨[], 0, _, T0, [], rfl, HS2.out.1, trivial, hJ _ _ _ _ h0 (hc.mono (fun _ _ h => h.elim)), ?_, fun k hk => Nat.lt_of_lt_of_le (hT0 k hk).1 hc.size, fun k hk => (hT0 k hk).2, fun _ h _ => h, hc.mono (fun _ _ h => h.elim), ?_⟩
      · have := HC1.out.size
        rintro k (hk | hk | hk)
        · exact ⟨by omega, fun h => by have := (hT0 k h).1; omega⟩
        · exact ⟨by omega, fun h => by have := (hT0 k h).1; omega⟩
        · cases hk
      · simp [ext, rest, satR, Mods]
    case round =>
      obtain ⟨r, st, tv, T, pre, HR⟩ := hrel
      have hnx : Calls Try.prog 36 #[.pointer (some ⟨b, 0, none⟩)] wr fun e w' => NextPost ls wr B b vb tv nn (.slice la ls.length lcap) r st e w' := by
        obtain ⟨hJ, hJx, h0, hT0, hb, hfb, hL, hD⟩ := HJ.out
        obtain ⟨_, hM⟩ := HR.out
        refine next_any hM.srch (D := D) (hL.chg hM.chg (fun k hk h => (hT0 k h).2 hk)) (fun q hq => ⟨Nat.lt_of_lt_of_le (hD q hq) hM.chg.size, fun h => ?_⟩) HQ.out.2 hM.inv
        have := (hM.sep q h).1; have := hD q hq; omega
      have HNX := Lib.hid hnx
      clear hnx
      gi_wp2_with fail
      refine ⟨trivial, rfl, ?_⟩
      refine (callsIn_wide.2 HNX.out).mono ?_
      rintro e w3 ⟨r', st', d, _, _, hcase⟩
      rcases hcase with ⟨rfl, hat, heq, hrl, _⟩ | ⟨rfl, hc3, _, heq⟩
      · have H3 := Lib.hid (And.intro hat (And.intro heq hrl))
        clear hat heq hrl
        obtain ⟨tv1, hS1, hn1⟩ := H3.out.1.ex
        have HS1 := Lib.hid (And.intro hS1 hn1)
        clear hS1 hn1
        gi_wp2_with fail
        refine ⟨trivial, rfl, ?_⟩
        refine (callsIn_wide.2 (model_any HS1.out.1)).mono ?_
        rintro e w4 ⟨arr, rfl, hc4, hh, hs, hv⟩
        -- what holds now
        have H4 : Hid (Srch w4 B b vb tv1 nn (.slice la ls.length lcap) (valR r') r'.reverse st' ∧ J pre T w4 ∧ (∀ k, sblk b vb tv1 k → (W0.heap.size ≤ k ∧ ¬ T k) ∧ k < w3.heap.size) ∧ Chg T0 W0 w4 ∧ w3.heap.size < w4.heap.size ∧ W0.heap.size ≤ w3.heap.size ∧ (∀ k, T k → k < w3.heap.size)) := by
          obtain ⟨hJ, hJx, h0, hT0, hb, hfb, hL, hD⟩ := HJ.out
          obtain ⟨_, hM⟩ := HR.out
          obtain ⟨hat, heq, hrl⟩ := H3.out
          obtain ⟨hS1, hn1⟩ := HS1.out
          have hN : W0.heap.size ≤ wr.heap.size := hM.chg.size
          have hsep := sep_step hM.sep hM.lt hN hn1
          have hlt3 := hat.chg.size
          refine ⟨hS1.chg hc4 (fun _ _ x => x), hJ _ _ _ _ (hJ _ _ _ _ hM.j (hat.chg.mono (fun k _ hk => hM.sep k hk))) (hc4.mono (fun _ _ h => h.elim)), fun k hk => ⟨hsep k hk, ?_⟩, ?_, ?_, by omega, fun k hk => Nat.lt_of_lt_of_le (hM.lt k hk) hlt3⟩
          · rcases hk with hk | hk | hk
            · have := hS1.hb; have := hS1.hB; omega
            · have := hS1.hvb; have := hS1.hB; omega
            · exact (hS1.trail.lt k hk).2
          · exact (hM.chg.trans' hat.chg (fun k hk hx => by have := (hM.sep k hx).1; omega)).trans (hc4.mono (fun _ _ h => h.elim))
          · exact (Array.getElem?_eq_some_iff.1 hh).1
        have hyr := HROUND.out pre (modelL (valR r') nn) T w4 #[.slice (some ⟨w3.heap.size, 0, none⟩) nn nn] (fun k => k = w3.heap.size) H4.out.2.1 (by
            rw [HMO.out, ← HR.out.2.all, H3.out.2.1]
            exact ⟨rest nn ls r', by simp⟩)
          ⟨w3.heap.size, arr, by simp [modelL_length], hh, by rw [hs, modelL_length], by
            intro i hi
            rw [modelL_length] at hi
            rw [modelL_get _ _ _ hi]; exact hv i hi, fun _ => Iff.rfl⟩
          (by rintro k rfl; exact ⟨H4.out.2.2.2.2.2.1, H4.out.2.2.2.2.1, fun h => Nat.lt_irrefl _ (H4.out.2.2.2.2.2.2 _ h)⟩)
        obtain ⟨fn, tmps, assign, body, hy, hR⟩ := hyr
        have HYR := Lib.hid hR
        clear hR hc4 hh hs hv
        gi_wp2
        refine ⟨rfl, ?_⟩
        refine HYR.out.mono ?_
        rintro e w5 ⟨T', hT', hc5, hcase⟩
        -- what holds behind the round
        have H5 : Hid (Srch w5 B b vb tv1 nn (.slice la ls.length lcap) (valR r') r'.reverse st' ∧ (∀ k, sblk b vb tv1 k → W0.heap.size ≤ k ∧ ¬ T' k) ∧ (∀ k, T' k → k < w5.heap.size) ∧ (∀ k, T' k → ¬ D k) ∧ (∀ k, T' k → k < W0.heap.size → T0 k) ∧ Chg T0 W0 w5 ∧ W0.heap.size ≤ w5.heap.size) := by
          obtain ⟨hJ, hJx, h0, hT0, hb, hfb, hL, hD⟩ := HJ.out
          obtain ⟨_, hM⟩ := HR.out
          obtain ⟨hS4, _, hsep, hc04, hlt, hN, hT3⟩ := H4.out
          have hc5s := hc5.size
          refine ⟨hS4.chg hc5 (fun k hk => (hsep k hk).1.2), fun k hk => ⟨(hsep k hk).1.1, fun h => ?_⟩, fun k hk => (hT' k hk).1, T_step hM.old hD hN (M := w4.heap.size) (by omega) (fun k hk => (hT' k hk).2), ?_, ?_, by omega⟩
          · rcases (hT' k h).2 with h1 | h1 | h1
            · exact (hsep k hk).1.2 h1
            · have := (hsep k hk).2; omega
            · have := (hsep k hk).2; omega
          · intro k hk hlt0
            rcases (hT' k hk).2 with h1 | h1 | h1
            · exact hM.tnew k h1 hlt0
            · have : W0.heap.size ≤ k := by rw [h1]; exact hN
              omega
            · omega
          · refine hc04.trans' hc5 (fun k hk hx => ?_)
            exact hM.tnew k hx hk
        rcases hcase with ⟨rfl, hJ5⟩ | ⟨rfl, hJx5⟩
        · have HJ5 := Lib.hid hJ5
          have hok : TrOk nn r'.reverse := fun p hp => by
            obtain ⟨g1, g2⟩ := trInv_in H3.out.1.inv p (by simpa using hp)
            exact ⟨g1, by omega, by omega⟩
          have HOK := Lib.hid hok
          have HLEN := Lib.hid (trInv_length H3.out.1.inv)
          clear hy hT' hc5 hJ5 hok
          gi_wp2_with fail
          refine ⟨trivial, rfl, ?_⟩
          refine (callsIn_wide.2 (back_any H5.out.1 HOK.out (by have := HLEN.out; simp; omega))).mono ?_
          rintro e w6 hbp
          unfold BackPost at hbp
          rw [List.reverse_reverse] at hbp
          rcases back_spec ls H3.out.1.inv with ⟨b1, b2⟩ | ⟨rr, y, b1, _, _, _, b5, b6, _⟩
          · rw [b1] at hbp
            obtain ⟨rfl, tv2, val2, hS6, hc6, hn6⟩ := hbp
            have H6 := Lib.hid (And.intro hc6 b2)
            clear hS6 hc6 hn6 b1 b2
            gi_wp2
            try rw [Exit.noGoto_ret]
            go_end0
            obtain ⟨hJ, hJx, h0, hT0, hb, hfb, hL, hD⟩ := HJ.out
            obtain ⟨_, hM⟩ := HR.out
            obtain ⟨hS5, hsep5, hlt5, hold5, htn5, hc05, hN5⟩ := H5.out
            refine ⟨⟨_, rfl⟩, hc05.trans' H6.out.1 (fun k hk hx => by have := (hsep5 k hx).1; omega), T', .inl ?_⟩
            have hx : modelsOf nn ls = pre ++ [modelL (valR r') nn] := by
              rw [HMO.out, ← hM.all, H3.out.2.1, H6.out.2]
            rw [hx]
            exact hJ _ _ _ _ HJ5.out (H6.out.1.mono (fun k _ hx => hsep5 k hx))
          · rw [b1] at hbp
            obtain ⟨rfl, tv2, hS6, hc6, hn6⟩ := hbp
            have H6 := Lib.hid (And.intro hS6 (And.intro hc6 (And.intro hn6 (And.intro b5 b6))))
            clear hS6 hc6 hn6 b1 b5 b6
            gi_wp2
            obtain ⟨hJ, hJx, h0, hT0, hb, hfb, hL, hD⟩ := HJ.out
            obtain ⟨hgp, hM⟩ := HR.out
            obtain ⟨hS5, hsep5, hlt5, hold5, htn5, hc05, hN5⟩ := H5.out
            obtain ⟨hS6, hc6, hn6, b5, b6⟩ := H6.out
            have e2 : ((y, (2 : Int)) :: rr).reverse = rr.reverse ++ [(y, 2)] := by simp
            have hlen : (pre ++ [modelL (valR r') nn]).length ≤ (Mods nn ls).length := by
              rw [← hM.all, H3.out.2.1]; simp
            simp at hlen
            gi_roundg (gk - 1)
            case measure => omega
            case rel =>
              refine ⟨(y, 2) :: rr, _, tv2, T', pre ++ [modelL (valR r') nn], by simp; omega, by rw [e2]; exact hS6, b5, hJ _ _ _ _ HJ5.out (hc6.mono (fun k _ hx => hsep5 k hx)), sep_step hsep5 hlt5 hN5 hn6,
                fun k hk => Nat.lt_of_lt_of_le (hlt5 k hk) hc6.size, hold5, htn5, hc05.trans' hc6 (fun k hk hx => by have := (hsep5 k hx).1; omega), ?_⟩
              rw [← hM.all, H3.out.2.1, b6]
              simp [rest]
        · have HX5 := Lib.hid hJx5
          clear hy hT' hc5 hJx5
          gi_wp2
          refine ⟨trivial, ?_⟩
          gi_wp2
          try rw [Exit.noGoto_ret]
          go_end0
          obtain ⟨hS5, hsep5, hlt5, hold5, htn5, hc05, hN5⟩ := H5.out
          refine ⟨⟨_, rfl⟩, hc05, T', .inr ⟨_, ?_, HX5.out⟩⟩
          rw [HMO.out, ← HR.out.2.all, H3.out.2.1]
          exact ⟨rest nn ls r', by simp⟩
      · have H3 := Lib.hid (And.intro hc3 heq)
        clear hc3 heq
        gi_wp2
        go_end0
        obtain ⟨hJ, hJx, h0, hT0, hb, hfb, hL, hD⟩ := HJ.out
        obtain ⟨_, hM⟩ := HR.out
        refine ⟨⟨_, rfl⟩, hM.chg.trans' H3.out.1 (fun k hk hx => by have := (hM.sep k hx).1; omega), T, .inl ?_⟩
        have hx : modelsOf nn ls = pre := by rw [HMO.out, ← hM.all, H3.out.2]; simp
        rw [hx]
        exact hJ _ _ _ _ hM.j (H3.out.1.mono (fun k _ hk => hM.sep k hk))
end Go.Proofs.Ytbeidiaejcbgoaa
