/- A range over a function, for iterators that keep state of their own in cells: who may change what is told by blocks. Conditions: one goroutine; an outermost loop. -/
import Derived.Test.YtbeidiaejcbgoaaUtil
import Derived.RangeFuncNested
import Derived.RangeFuncBound
import Derived.RangeFuncCalls
import Derived.RangeFuncLeaves
import Derived.Shelf.Abstract
import Derived.Shelf.RegionOpen
import Derived.OwnWalkIn
import Derived.TacticsInMore
import Derived.LoopNIn
import Derived.LoopIn
import Derived.Scope
namespace Go.Proofs.Ytbeidiaejcbgoaa
open Go.RowKit

/-- A scope through which the run goes without a goto, inside a fence. -/
theorem wpIn_scope_straight {F : Fence} {n : Nat} {P : Program} {c : Code} {Q : Exit → Act → World → Prop} {a : Act} {w : World} (h : c.wpIn F n P (Exit.noGoto Q) a w) : (Code.scope c).wpIn F n P Q a w := by
  intro b k cs hro hb hr
  have h0 : (lone (b.atR a (.code (.scope c) :: k)) cs w).fenced P F := fenced_calm hb hr rfl
  have s0 : step P (lone (b.atR a (.code (.scope c) :: k)) cs w) = .next (lone (b.atR a (.code c :: .inScope c :: k)) cs w) :=
    step_lone_go (by simp [stepG, stepG.exec, Frame.atR])
  obtain ⟨e, a₁, w₁, hq, harr⟩ := h b (.inScope c :: k) cs hro hb hr
  cases e with
  | normal =>
    have s1 : step P (lone (b.atR a₁ (.inScope c :: k)) cs w₁) = .next (lone (b.atR a₁ k) cs w₁) := step_lone_go (by simp [stepG, stepG.exec, Frame.atR])
    exact ⟨.normal, a₁, w₁, hq, .head h0 s0 (StepsIn.trans harr (.one (fenced_calm hb hr rfl) s1))⟩
  | exit id =>
    have hx : exitTo id (.inScope c :: k) = exitTo id k := by simp [exitTo]
    exact ⟨.exit id, a₁, w₁, hq, fun k' hk => .head h0 s0 (harr.1 k' (by rw [hx]; exact hk)),
      fun hr' hk => let ⟨k₁, h1, h2⟩ := harr.2 hr' (by rw [hx]; exact hk); ⟨k₁, h1, .head h0 s0 h2⟩⟩
  | goto l => exact hq.elim
  | ret => exact ⟨_, a₁, w₁, hq, .of_steps (.one h0 s0) harr⟩
  | panic ch => exact ⟨_, a₁, w₁, hq, .of_steps (.one h0 s0) harr⟩
  | outgrown => exact ⟨_, a₁, w₁, hq, .of_steps (.one h0 s0) harr⟩

section
variable {α : Type} {P : Program}

/-- How an iterator's call ends. -/
def GenEnd (xs : List α) (J Jx : List α → (Nat → Prop) → World → Prop) (T0 : Nat → Prop) (W0 : World) (e : Ending) (W' : World) : Prop :=
  (∃ v, e = .returned v) ∧ Chg T0 W0 W' ∧ ∃ T, (J xs T W' ∨ ∃ pre, pre <+: xs ∧ Jx pre T W')

/-- What an iterator gives: xs, one by one. D: the blocks that it reads, which nobody may change meanwhile. 'enc x W args fresh': yield's arguments stand for x in W; the blocks 'fresh' are handed over. J: what holds between two rounds, of the caller's own blocks T and of what was there before; Jx: what holds when a round has said 'no more'. -/
def Gen (P : Program) (gf : FuncId) (lb : Array Value) (D : Nat → Prop) (enc : α → World → Array Value → (Nat → Prop) → Prop) (xs : List α) (W0 : World) : Prop :=
  ∀ (l : Nat) (J Jx : List α → (Nat → Prop) → World → Prop) (T0 : Nat → Prop),
    (∀ k, T0 k → k < W0.heap.size ∧ ¬ D k) →
    (∀ pre T W W', J pre T W → Chg (fun k => W0.heap.size ≤ k ∧ ¬ T k) W W' → J pre T W') →
    (∀ pre T W W', Jx pre T W → Chg (fun k => W0.heap.size ≤ k ∧ ¬ T k) W W' → Jx pre T W') →
    (∀ pre x T W args fresh, J pre T W → pre ++ [x] <+: xs → enc x W args fresh → (∀ k, fresh k → W0.heap.size ≤ k ∧ k < W.heap.size ∧ ¬ T k) →
      YieldAt Fence.wide 0 P l args W fun e W' => ∃ T', (∀ k, T' k → k < W'.heap.size ∧ (T k ∨ fresh k ∨ W.heap.size ≤ k)) ∧ Chg T W W' ∧
        ((e = .returned (.bool true) ∧ J (pre ++ [x]) T' W') ∨ (e = .returned (.bool false) ∧ Jx (pre ++ [x]) T' W'))) →
    J [] T0 W0 →
    CallsIn Fence.wide 0 P gf (#[.func (.yield l) #[] #[]] ++ lb) W0 (GenEnd xs J Jx T0 W0)

/-- How the body of a round may be left. -/
def rndPost (I : List α → (Nat → Prop) → World → Prop) (Ix : Code → List α → (Nat → Prop) → World → Prop) (xs : List α) (T fresh : Nat → Prop) (W : World) : Exit → Act → World → Prop
  | .normal, _, W' => ∃ T', (∀ k, T' k → k < W'.heap.size ∧ (T k ∨ fresh k ∨ W.heap.size ≤ k)) ∧ Chg T W W' ∧ I xs T' W'
  | .ret, _, W' => ∃ T', (∀ k, T' k → k < W'.heap.size ∧ (T k ∨ fresh k ∨ W.heap.size ≤ k)) ∧ Chg T W W' ∧ Ix .ret xs T' W'
  | .exit id, _, W' => ∃ T', (∀ k, T' k → k < W'.heap.size ∧ (T k ∨ fresh k ∨ W.heap.size ≤ k)) ∧ Chg T W W' ∧ Ix (.exit id) xs T' W'
  | .goto t, _, W' => ∃ T', (∀ k, T' k → k < W'.heap.size ∧ (T k ∨ fresh k ∨ W.heap.size ≤ k)) ∧ Chg T W W' ∧ Ix (.goto t) xs T' W'
  | .panic _, _, _ => False
  | .outgrown, _, _ => False

theorem wp_range {g : Operand} {ps : Array Tmp} {assign body : Code} {Q : Exit → Act → World → Prop} {a : Act} {w : World}
    {gf : Nat} {lb : Array Value} (hg : a.eval g = .func (.func gf) #[] lb) (eg : ∀ args w, (callFunc gf args).run P w = .ok (.enter gf args) w)
    {D : Nat → Prop} {enc : α → World → Array Value → (Nat → Prop) → Prop} {xs : List α}
    (hseq : ∀ W1, Chg (fun _ => False) w W1 → W1.heap.size = w.heap.size + 2 → Gen P gf lb D enc xs W1)
    (hsize : ∀ x W args fresh, enc x W args fresh → args.size = ps.size)
    (hkeep : ∀ x W W' args fresh, enc x W args fresh → Chg (fun k => ¬ fresh k) W W' → enc x W' args fresh)
    (T0 : Nat → Prop) (hT0 : ∀ k, T0 k → k < w.heap.size ∧ ¬ D k) (hD : ∀ k, D k → k < w.heap.size)
    (I : List α → (Nat → Prop) → World → Prop) (Ix : Code → List α → (Nat → Prop) → World → Prop)
    (hI : ∀ pre T W W', I pre T W → Chg (fun k => w.heap.size ≤ k ∧ ¬ T k) W W' → I pre T W')
    (hIx : ∀ c pre T W W', Ix c pre T W → Chg (fun k => w.heap.size ≤ k ∧ ¬ T k) W W' → Ix c pre T W')
    (h0 : I [] T0 w) (a₁ : Array Value → Act)
    (hassign : ∀ (l : Nat) (x : α) (W : World) (args : Array Value) (fresh : Nat → Prop) (K : Act → World → Prop), enc x W args fresh → K (a₁ args) W →
      assign.wpIn (Fence.wide.inRound l) 0 P (Exit.then K (fun _ _ _ => False)) { tmps := (ps.zip args).foldl (fun t (p, v) => t.setIfInBounds p v) a.tmps, defers := [] } W)
    (hbody : ∀ (l : Nat) (pre : List α) (x : α) (T : Nat → Prop) (W : World) (args : Array Value) (fresh : Nat → Prop), I pre T W → pre ++ [x] <+: xs → enc x W args fresh →
      (∀ k, T k → k < W.heap.size) → (∀ k, fresh k → k < W.heap.size ∧ ¬ T k ∧ w.heap.size + 2 ≤ k) → w.heap.size + 2 ≤ W.heap.size →
      body.wpIn (Fence.wide.inRound l) 0 P (rndPost I Ix (pre ++ [x]) T fresh W) (a₁ args) W)
    (hdone : ∀ (T : Nat → Prop) (W : World), I xs T W → Chg T0 w W → W.heap[w.heap.size]? = some (.deferred (some [])) → w.heap.size + 2 ≤ W.heap.size →
      Q .normal { a with defers := { target := .collected w.heap.size, args := #[] } :: a.defers } W)
    (hstop : ∀ (c : Code) (pre : List α) (T : Nat → Prop) (W : World), pre <+: xs → Ix c pre T W → Chg T0 w W → W.heap[w.heap.size]? = some (.deferred (some [])) → w.heap.size + 2 ≤ W.heap.size →
      c.wpIn Fence.wide 0 P Q { a with defers := { target := .collected w.heap.size, args := #[] } :: a.defers } W) :
    (Code.rangeFunc g ps assign body).wpIn Fence.wide 0 P Q a w := by
  refine wpIn_rangeFunc ?_
  intro fn hfn
  obtain ⟨rec, hrec⟩ : ∃ rec : LoopState → Option Code → Loop, rec = fun st pe => { state := st, pending := pe, fn, tmps := a.tmps, params := ps, assign, body, defers := w.heap.size } := ⟨_, rfl⟩
  obtain ⟨l, hl⟩ : ∃ l, l = w.heap.size + 1 := ⟨_, rfl⟩
  obtain ⟨d, hd⟩ : ∃ d, d = w.heap.size := ⟨_, rfl⟩
  obtain ⟨W1, hW1⟩ : ∃ W1, (w.alloc (.deferred (some []))).alloc (.loop (rec .ready none)) = W1 := ⟨_, rfl⟩
  have hL1 : W1.heap[l]? = some (.loop (rec .ready none)) := by
    rw [← hW1, hl]; have := World.alloc_heap_new (w.alloc (.deferred (some []))) (.loop (rec .ready none)); rwa [World.size_alloc] at this
  have hK1 : W1.heap[d]? = some (.deferred (some [])) := by
    rw [← hW1, hd]; exact (Below.heap_alloc _ _ _ (by simp)).trans (World.alloc_heap_new w _)
  have hc1 : Chg (fun _ => False) w W1 := by rw [← hW1]; exact ((Chg.refl _ _).alloc _).alloc _
  have hs1 : W1.heap.size = w.heap.size + 2 := by rw [← hW1]; simp
  refine ⟨l, [{ target := .collected d, args := #[] }], W1, { target := .fn (.func gf) lb, args := #[.func (.yield l) #[] #[]] }, W1, gf, #[.func (.yield l) #[] #[]] ++ lb, W1, ?_, ?_, ?_, ?_, fun h => by simp [Fence.wide] at h, ?_⟩
  · rw [← hW1, hrec, hl, hd]; exact run_enterLoop_outer _ _ _ _ _
  · simp only [resolve, hg]
    simp [go_sem]
  · intro f' _; trivial
  · simp [invoke, go_sem, eg]
  · have hmine : ∀ (T To : Nat → Prop) (W W' : World), (∀ k, T k ↔ To k ∨ k = l ∨ k = d) → Chg (fun k => W1.heap.size ≤ k ∧ ¬ T k) W W' → Chg (fun k => w.heap.size ≤ k ∧ ¬ To k) W W' :=
      fun T To W W' hTo hc => hc.mono fun k _ hk => ⟨by omega, fun h => hk.2 ((hTo k).2 (.inl h))⟩
    refine (hseq W1 hc1 hs1 l
      (fun pre T W => ∃ To, (∀ k, T k ↔ To k ∨ k = l ∨ k = d) ∧ (∀ k, To k → k < W.heap.size ∧ k ≠ l ∧ k ≠ d) ∧ I pre To W ∧ W.heap[l]? = some (.loop (rec .ready none)) ∧ W.heap[d]? = some (.deferred (some [])) ∧ W1.heap.size ≤ W.heap.size)
      (fun pre T W => ∃ To c, (∀ k, T k ↔ To k ∨ k = l ∨ k = d) ∧ (∀ k, To k → k ≠ l ∧ k ≠ d) ∧ Ix c pre To W ∧ W.heap[l]? = some (.loop (rec .done (some c))) ∧ W.heap[d]? = some (.deferred (some [])) ∧ W1.heap.size ≤ W.heap.size)
      (fun k => T0 k ∨ k = l ∨ k = d) ?_ ?_ ?_ ?_ ?_).mono ?_
    · rintro k (hk | rfl | rfl)
      · exact ⟨by have := (hT0 k hk).1; omega, (hT0 k hk).2⟩
      · exact ⟨by omega, fun h => by have := hD _ h; omega⟩
      · exact ⟨by omega, fun h => by have := hD _ h; omega⟩
    · rintro pre T W W' ⟨To, hTo, hlt, hi, hl', hd', hsz⟩ hc
      refine ⟨To, hTo, fun k hk => ⟨Nat.lt_of_lt_of_le (hlt k hk).1 hc.size, (hlt k hk).2⟩, hI _ _ _ _ hi (hmine T To W W' hTo hc), hc.heap ?_ hl', hc.heap ?_ hd', Nat.le_trans hsz hc.size⟩
      · exact fun h => h.2 ((hTo l).2 (.inr (.inl rfl)))
      · exact fun h => h.2 ((hTo d).2 (.inr (.inr rfl)))
    · rintro pre T W W' ⟨To, c, hTo, hlt, hi, hl', hd', hsz⟩ hc
      refine ⟨To, c, hTo, hlt, hIx _ _ _ _ _ hi (hmine T To W W' hTo hc), hc.heap ?_ hl', hc.heap ?_ hd', Nat.le_trans hsz hc.size⟩
      · exact fun h => h.2 ((hTo l).2 (.inr (.inl rfl)))
      · exact fun h => h.2 ((hTo d).2 (.inr (.inr rfl)))
    · rintro pre x T W args fresh ⟨To, hTo, hlt, hi, hl', hd', hsz⟩ hpre henc hfr
      have hlW : l < W.heap.size := (Array.getElem?_eq_some_iff.1 hl').1
      have hy := run_yield (P := P) (args := args) hl' (by rw [hrec]; exact hsize _ _ _ _ henc)
      rw [hrec] at hy
      refine ⟨fn, _, assign, body, hy, roundIn_of_wpIn hfn (hassign l x W args fresh _ henc ⟨_, run_beginRound hl' (by rw [hrec]), ?_⟩)⟩
      obtain ⟨W2, hW2⟩ : ∃ W2, W.putObj l (.loop { rec .ready none with state := .busy }) = W2 := ⟨_, rfl⟩
      rw [hW2]
      have hl2 : W2.heap[l]? = some (.loop { rec .ready none with state := .busy }) := by rw [← hW2]; exact World.putObj_heap_same hlW
      have hd2 : W2.heap[d]? = some (.deferred (some [])) := by rw [← hW2]; exact (World.putObj_heap_other (by omega)).trans hd'
      have hc2 : Chg (fun k => k = l) W W2 := by rw [← hW2]; exact (Chg.refl (fun k => k = l) _).putObj (fun _ => rfl) _
      have hs2 : W2.heap.size = W.heap.size := by rw [← hW2]; simp
      have hlfr : ¬ fresh l := fun h => by have := (hfr l h).1; omega
      have hdfr : ¬ fresh d := fun h => by have := (hfr d h).1; omega
      have hi2 : I pre To W2 := hI _ _ _ _ hi (hc2.mono fun k _ hk => by subst hk; exact ⟨by omega, fun h => (hlt k h).2.1 rfl⟩)
      have he2 : enc x W2 args fresh := hkeep _ _ _ _ _ henc (hc2.mono fun k _ hk => by subst hk; exact hlfr)
      refine wpIn_mono (hbody l pre x To W2 args fresh hi2 hpre he2 (fun k hk => by rw [hs2]; exact (hlt k hk).1) (fun k hk => ⟨by rw [hs2]; exact (hfr k hk).2.1, fun h => (hfr k hk).2.2 ((hTo k).2 (.inl h)), by have := (hfr k hk).1; omega⟩) (by omega)) ?_
      have fin : ∀ (jump : Option Code) (W3 : World) (To' : Nat → Prop), (∀ k, To' k → k < W3.heap.size ∧ (To k ∨ fresh k ∨ W2.heap.size ≤ k)) → Chg To W2 W3 →
          ∃ W4, (Instr.endRound l jump).run P W3 = .ok (.bool jump.isNone) W4 ∧ W4.heap[l]? = some (.loop (rec (if jump.isNone then .ready else .done) jump)) ∧ W4.heap[d]? = some (.deferred (some [])) ∧
            Chg T W W4 ∧ (∀ k, To' k → k < W4.heap.size ∧ k ≠ l ∧ k ≠ d) ∧ Chg (fun k => w.heap.size ≤ k ∧ ¬ To' k) W3 W4 ∧ W1.heap.size ≤ W4.heap.size ∧
            (∀ k, (To' k ∨ k = l ∨ k = d) → k < W4.heap.size ∧ (T k ∨ fresh k ∨ W.heap.size ≤ k)) := by
        intro jump W3 To' hTo' hc3
        have hnl : ¬ To l := fun h => (hlt l h).2.1 rfl
        have hnd : ¬ To d := fun h => (hlt d h).2.2 rfl
        have hl3 := hc3.heap hnl hl2
        have hd3 := hc3.heap hnd hd2
        have hl3' : l < W3.heap.size := (Array.getElem?_eq_some_iff.1 hl3).1
        have hd3' : d < W3.heap.size := (Array.getElem?_eq_some_iff.1 hd3).1
        have hto : ∀ k, To' k → k < W3.heap.size ∧ k ≠ l ∧ k ≠ d := by
          intro k hk
          obtain ⟨h1, h2⟩ := hTo' k hk
          refine ⟨h1, ?_, ?_⟩
          · rintro rfl
            rcases h2 with h2 | h2 | h2
            · exact hnl h2
            · exact hlfr h2
            · omega
          · rintro rfl
            rcases h2 with h2 | h2 | h2
            · exact hnd h2
            · exact hdfr h2
            · omega
        have hrun := run_endRound (P := P) jump hl3
        refine ⟨_, hrun, ?_, ?_, ?_, ?_, ?_, ?_, ?_⟩
        · rw [World.putObj_heap_same hl3', hrec]
        · rw [World.putObj_heap_other (by omega)]; exact hd3
        · refine ((hc2.mono fun k _ hk => by subst hk; exact (hTo k).2 (.inr (.inl rfl))).trans (hc3.mono fun k _ hk => (hTo k).2 (.inl hk))).putObj (fun _ => (hTo l).2 (.inr (.inl rfl))) _
        · intro k hk; simp; exact hto k hk
        · exact (Chg.refl _ _).putObj (fun _ => ⟨by omega, fun h => (hto l h).2.1 rfl⟩) _
        · have := hc3.size; simp; omega
        · rintro k (hk | rfl | rfl)
          · refine ⟨by simp; exact (hto k hk).1, ?_⟩
            rcases (hTo' k hk).2 with h | h | h
            · exact .inl ((hTo k).2 (.inl h))
            · exact .inr (.inl h)
            · exact .inr (.inr (by omega))
          · exact ⟨by simp; exact hl3', .inl ((hTo _).2 (.inr (.inl rfl)))⟩
          · exact ⟨by simp; exact hd3', .inl ((hTo _).2 (.inr (.inr rfl)))⟩
      rintro e a3 W3 hp
      cases e with
      | normal =>
        obtain ⟨To', hTo', hc3, hi3⟩ := hp
        obtain ⟨W4, hr, hl4, hd4, hc4, hto4, hc34, hs4, hT4⟩ := fin none W3 To' hTo' hc3
        exact ⟨_, W4, hr, _, hT4, hc4, .inl ⟨rfl, To', fun _ => Iff.rfl, hto4, hI _ _ _ _ hi3 hc34, hl4, hd4, hs4⟩⟩
      | ret =>
        obtain ⟨To', hTo', hc3, hi3⟩ := hp
        obtain ⟨W4, hr, hl4, hd4, hc4, hto4, hc34, hs4, hT4⟩ := fin (some .ret) W3 To' hTo' hc3
        exact ⟨_, W4, hr, _, hT4, hc4, .inr ⟨rfl, To', .ret, fun _ => Iff.rfl, fun k hk => (hto4 k hk).2, hIx _ _ _ _ _ hi3 hc34, hl4, hd4, hs4⟩⟩
      | exit id =>
        obtain ⟨To', hTo', hc3, hi3⟩ := hp
        obtain ⟨W4, hr, hl4, hd4, hc4, hto4, hc34, hs4, hT4⟩ := fin (some (.exit id)) W3 To' hTo' hc3
        exact ⟨_, W4, hr, _, hT4, hc4, .inr ⟨rfl, To', .exit id, fun _ => Iff.rfl, fun k hk => (hto4 k hk).2, hIx _ _ _ _ _ hi3 hc34, hl4, hd4, hs4⟩⟩
      | goto t =>
        obtain ⟨To', hTo', hc3, hi3⟩ := hp
        obtain ⟨W4, hr, hl4, hd4, hc4, hto4, hc34, hs4, hT4⟩ := fin (some (.goto t)) W3 To' hTo' hc3
        exact ⟨_, W4, hr, _, hT4, hc4, .inr ⟨rfl, To', .goto t, fun _ => Iff.rfl, fun k hk => (hto4 k hk).2, hIx _ _ _ _ _ hi3 hc34, hl4, hd4, hs4⟩⟩
      | panic ch => exact hp.elim
      | outgrown => exact hp.elim
    · exact ⟨T0, fun _ => Iff.rfl, fun k hk => ⟨by have := (hT0 k hk).1; omega, by have := (hT0 k hk).1; omega, by have := (hT0 k hk).1; omega⟩, hI _ _ _ _ h0 (hc1.mono fun _ _ h => h.elim), hL1, hK1, Nat.le_refl _⟩
    · have hfin : ∀ W2, Chg (fun k => T0 k ∨ k = l ∨ k = d) W1 W2 → ∀ o, Chg T0 w (W2.putObj l o) := fun W2 hc o =>
        ((hc1.mono (S' := T0) (fun _ _ h => h.elim)).trans' hc (fun i hi hx => by
          rcases hx with h | h | h
          · exact h
          · omega
          · omega)).putObj (fun h => by omega) _
      have hend : ∀ (W W' : World) (o : Obj), (W.putObj l o).heap.size = W.heap.size := fun W _ o => by simp
      rintro e W2 ⟨⟨v, rfl⟩, hc, T, (⟨To, hTo, hlt, hi, hl', hd', hsz⟩ | ⟨pre, hpre, To, c, hTo, hlt, hi, hl', hd', hsz⟩)⟩
      · refine ⟨none, _, by have := run_endLoop (P := P) hl' (by rw [hrec]; simp); rw [hrec] at this; exact this, ?_⟩
        have hq := hdone To (W2.putObj l (.loop { rec .ready none with state := .exhausted })) (hI _ _ _ _ hi ((Chg.refl _ _).putObj (fun _ => ⟨by omega, fun h => (hlt l h).2.1 rfl⟩) _)) (hfin W2 hc _)
          (by rw [← hd]; exact (World.putObj_heap_other (by omega)).trans hd') (by simp; omega)
        rw [hrec] at hq
        subst hd
        exact hq
      · refine ⟨some c, _, by have := run_endLoop (P := P) hl' (by rw [hrec]; simp); rw [hrec] at this; exact this, ?_⟩
        have hq := hstop c pre To (W2.putObj l (.loop { rec .done (some c) with state := .exhausted })) hpre (hIx _ _ _ _ _ hi ((Chg.refl _ _).putObj (fun _ => ⟨by omega, fun h => (hlt l h).1 rfl⟩) _)) (hfin W2 hc _)
          (by rw [← hd]; exact (World.putObj_heap_other (by omega)).trans hd') (by simp; omega)
        rw [hrec] at hq
        subst hd
        exact hq

/-- The same; assignment and body are walked in one. -/
theorem wp_range2 {g : Operand} {ps : Array Tmp} {assign body : Code} {Q : Exit → Act → World → Prop} {a : Act} {w : World}
    {gf : Nat} {lb : Array Value} (hg : a.eval g = .func (.func gf) #[] lb) (eg : ∀ args w, (callFunc gf args).run P w = .ok (.enter gf args) w)
    {D : Nat → Prop} {enc : α → World → Array Value → (Nat → Prop) → Prop} {xs : List α}
    (hseq : ∀ W1, Chg (fun _ => False) w W1 → W1.heap.size = w.heap.size + 2 → Gen P gf lb D enc xs W1)
    (hsize : ∀ x W args fresh, enc x W args fresh → args.size = ps.size)
    (hkeep : ∀ x W W' args fresh, enc x W args fresh → Chg (fun k => ¬ fresh k) W W' → enc x W' args fresh)
    (T0 : Nat → Prop) (hT0 : ∀ k, T0 k → k < w.heap.size ∧ ¬ D k) (hD : ∀ k, D k → k < w.heap.size)
    (I : List α → (Nat → Prop) → World → Prop) (Ix : Code → List α → (Nat → Prop) → World → Prop)
    (hI : ∀ pre T W W', I pre T W → Chg (fun k => w.heap.size ≤ k ∧ ¬ T k) W W' → I pre T W')
    (hIx : ∀ c pre T W W', Ix c pre T W → Chg (fun k => w.heap.size ≤ k ∧ ¬ T k) W W' → Ix c pre T W')
    (h0 : I [] T0 w)
    (hround : ∀ (l : Nat) (pre : List α) (x : α) (T : Nat → Prop) (W W2 : World) (args : Array Value) (fresh : Nat → Prop) (K : Act → World → Prop), I pre T W2 → pre ++ [x] <+: xs → enc x W2 args fresh →
      (∀ k, T k → k < W2.heap.size) → (∀ k, fresh k → k < W2.heap.size ∧ ¬ T k ∧ w.heap.size + 2 ≤ k) → w.heap.size + 2 ≤ W2.heap.size →
      (∀ a', body.wpIn (Fence.wide.inRound l) 0 P (rndPost I Ix (pre ++ [x]) T fresh W2) a' W2 → K a' W) →
      assign.wpIn (Fence.wide.inRound l) 0 P (Exit.then K (fun _ _ _ => False)) { tmps := (ps.zip args).foldl (fun t (p, v) => t.setIfInBounds p v) a.tmps, defers := [] } W)
    (hdone : ∀ (T : Nat → Prop) (W : World), I xs T W → Chg T0 w W → W.heap[w.heap.size]? = some (.deferred (some [])) → w.heap.size + 2 ≤ W.heap.size →
      Q .normal { a with defers := { target := .collected w.heap.size, args := #[] } :: a.defers } W)
    (hstop : ∀ (c : Code) (pre : List α) (T : Nat → Prop) (W : World), pre <+: xs → Ix c pre T W → Chg T0 w W → W.heap[w.heap.size]? = some (.deferred (some [])) → w.heap.size + 2 ≤ W.heap.size →
      c.wpIn Fence.wide 0 P Q { a with defers := { target := .collected w.heap.size, args := #[] } :: a.defers } W) :
    (Code.rangeFunc g ps assign body).wpIn Fence.wide 0 P Q a w := by
  refine wpIn_rangeFunc ?_
  intro fn hfn
  obtain ⟨rec, hrec⟩ : ∃ rec : LoopState → Option Code → Loop, rec = fun st pe => { state := st, pending := pe, fn, tmps := a.tmps, params := ps, assign, body, defers := w.heap.size } := ⟨_, rfl⟩
  obtain ⟨l, hl⟩ : ∃ l, l = w.heap.size + 1 := ⟨_, rfl⟩
  obtain ⟨d, hd⟩ : ∃ d, d = w.heap.size := ⟨_, rfl⟩
  obtain ⟨W1, hW1⟩ : ∃ W1, (w.alloc (.deferred (some []))).alloc (.loop (rec .ready none)) = W1 := ⟨_, rfl⟩
  have hL1 : W1.heap[l]? = some (.loop (rec .ready none)) := by
    rw [← hW1, hl]; have := World.alloc_heap_new (w.alloc (.deferred (some []))) (.loop (rec .ready none)); rwa [World.size_alloc] at this
  have hK1 : W1.heap[d]? = some (.deferred (some [])) := by
    rw [← hW1, hd]; exact (Below.heap_alloc _ _ _ (by simp)).trans (World.alloc_heap_new w _)
  have hc1 : Chg (fun _ => False) w W1 := by rw [← hW1]; exact ((Chg.refl _ _).alloc _).alloc _
  have hs1 : W1.heap.size = w.heap.size + 2 := by rw [← hW1]; simp
  refine ⟨l, [{ target := .collected d, args := #[] }], W1, { target := .fn (.func gf) lb, args := #[.func (.yield l) #[] #[]] }, W1, gf, #[.func (.yield l) #[] #[]] ++ lb, W1, ?_, ?_, ?_, ?_, fun h => by simp [Fence.wide] at h, ?_⟩
  · rw [← hW1, hrec, hl, hd]; exact run_enterLoop_outer _ _ _ _ _
  · simp only [resolve, hg]
    simp [go_sem]
  · intro f' _; trivial
  · simp [invoke, go_sem, eg]
  · have hmine : ∀ (T To : Nat → Prop) (W W' : World), (∀ k, T k ↔ To k ∨ k = l ∨ k = d) → Chg (fun k => W1.heap.size ≤ k ∧ ¬ T k) W W' → Chg (fun k => w.heap.size ≤ k ∧ ¬ To k) W W' :=
      fun T To W W' hTo hc => hc.mono fun k _ hk => ⟨by omega, fun h => hk.2 ((hTo k).2 (.inl h))⟩
    refine (hseq W1 hc1 hs1 l
      (fun pre T W => ∃ To, (∀ k, T k ↔ To k ∨ k = l ∨ k = d) ∧ (∀ k, To k → k < W.heap.size ∧ k ≠ l ∧ k ≠ d) ∧ I pre To W ∧ W.heap[l]? = some (.loop (rec .ready none)) ∧ W.heap[d]? = some (.deferred (some [])) ∧ W1.heap.size ≤ W.heap.size)
      (fun pre T W => ∃ To c, (∀ k, T k ↔ To k ∨ k = l ∨ k = d) ∧ (∀ k, To k → k ≠ l ∧ k ≠ d) ∧ Ix c pre To W ∧ W.heap[l]? = some (.loop (rec .done (some c))) ∧ W.heap[d]? = some (.deferred (some [])) ∧ W1.heap.size ≤ W.heap.size)
      (fun k => T0 k ∨ k = l ∨ k = d) ?_ ?_ ?_ ?_ ?_).mono ?_
    · rintro k (hk | rfl | rfl)
      · exact ⟨by have := (hT0 k hk).1; omega, (hT0 k hk).2⟩
      · exact ⟨by omega, fun h => by have := hD _ h; omega⟩
      · exact ⟨by omega, fun h => by have := hD _ h; omega⟩
    · rintro pre T W W' ⟨To, hTo, hlt, hi, hl', hd', hsz⟩ hc
      refine ⟨To, hTo, fun k hk => ⟨Nat.lt_of_lt_of_le (hlt k hk).1 hc.size, (hlt k hk).2⟩, hI _ _ _ _ hi (hmine T To W W' hTo hc), hc.heap ?_ hl', hc.heap ?_ hd', Nat.le_trans hsz hc.size⟩
      · exact fun h => h.2 ((hTo l).2 (.inr (.inl rfl)))
      · exact fun h => h.2 ((hTo d).2 (.inr (.inr rfl)))
    · rintro pre T W W' ⟨To, c, hTo, hlt, hi, hl', hd', hsz⟩ hc
      refine ⟨To, c, hTo, hlt, hIx _ _ _ _ _ hi (hmine T To W W' hTo hc), hc.heap ?_ hl', hc.heap ?_ hd', Nat.le_trans hsz hc.size⟩
      · exact fun h => h.2 ((hTo l).2 (.inr (.inl rfl)))
      · exact fun h => h.2 ((hTo d).2 (.inr (.inr rfl)))
    · rintro pre x T W args fresh ⟨To, hTo, hlt, hi, hl', hd', hsz⟩ hpre henc hfr
      have hlW : l < W.heap.size := (Array.getElem?_eq_some_iff.1 hl').1
      have hy := run_yield (P := P) (args := args) hl' (by rw [hrec]; exact hsize _ _ _ _ henc)
      rw [hrec] at hy
      obtain ⟨W2, hW2⟩ : ∃ W2, W.putObj l (.loop { rec .ready none with state := .busy }) = W2 := ⟨_, rfl⟩
      have hl2 : W2.heap[l]? = some (.loop { rec .ready none with state := .busy }) := by rw [← hW2]; exact World.putObj_heap_same hlW
      have hd2 : W2.heap[d]? = some (.deferred (some [])) := by rw [← hW2]; exact (World.putObj_heap_other (by omega)).trans hd'
      have hc2 : Chg (fun k => k = l) W W2 := by rw [← hW2]; exact (Chg.refl (fun k => k = l) _).putObj (fun _ => rfl) _
      have hs2 : W2.heap.size = W.heap.size := by rw [← hW2]; simp
      have hlfr : ¬ fresh l := fun h => by have := (hfr l h).1; omega
      have hdfr : ¬ fresh d := fun h => by have := (hfr d h).1; omega
      have hi2 : I pre To W2 := hI _ _ _ _ hi (hc2.mono fun k _ hk => by subst hk; exact ⟨by omega, fun h => (hlt k h).2.1 rfl⟩)
      have he2 : enc x W2 args fresh := hkeep _ _ _ _ _ henc (hc2.mono fun k _ hk => by subst hk; exact hlfr)
      refine ⟨fn, _, assign, body, hy, roundIn_of_wpIn hfn (hround l pre x To W W2 args fresh _ hi2 hpre he2 (fun k hk => by rw [hs2]; exact (hlt k hk).1) (fun k hk => ⟨by rw [hs2]; exact (hfr k hk).2.1, fun h => (hfr k hk).2.2 ((hTo k).2 (.inl h)), by have := (hfr k hk).1; omega⟩) (by omega) ?_)⟩
      intro a' hbody
      refine ⟨W2, by rw [← hW2]; exact run_beginRound hl' (by rw [hrec]), ?_⟩
      refine wpIn_mono hbody ?_
      have fin : ∀ (jump : Option Code) (W3 : World) (To' : Nat → Prop), (∀ k, To' k → k < W3.heap.size ∧ (To k ∨ fresh k ∨ W2.heap.size ≤ k)) → Chg To W2 W3 →
          ∃ W4, (Instr.endRound l jump).run P W3 = .ok (.bool jump.isNone) W4 ∧ W4.heap[l]? = some (.loop (rec (if jump.isNone then .ready else .done) jump)) ∧ W4.heap[d]? = some (.deferred (some [])) ∧
            Chg T W W4 ∧ (∀ k, To' k → k < W4.heap.size ∧ k ≠ l ∧ k ≠ d) ∧ Chg (fun k => w.heap.size ≤ k ∧ ¬ To' k) W3 W4 ∧ W1.heap.size ≤ W4.heap.size ∧
            (∀ k, (To' k ∨ k = l ∨ k = d) → k < W4.heap.size ∧ (T k ∨ fresh k ∨ W.heap.size ≤ k)) := by
        intro jump W3 To' hTo' hc3
        have hnl : ¬ To l := fun h => (hlt l h).2.1 rfl
        have hnd : ¬ To d := fun h => (hlt d h).2.2 rfl
        have hl3 := hc3.heap hnl hl2
        have hd3 := hc3.heap hnd hd2
        have hl3' : l < W3.heap.size := (Array.getElem?_eq_some_iff.1 hl3).1
        have hd3' : d < W3.heap.size := (Array.getElem?_eq_some_iff.1 hd3).1
        have hto : ∀ k, To' k → k < W3.heap.size ∧ k ≠ l ∧ k ≠ d := by
          intro k hk
          obtain ⟨h1, h2⟩ := hTo' k hk
          refine ⟨h1, ?_, ?_⟩
          · rintro rfl
            rcases h2 with h2 | h2 | h2
            · exact hnl h2
            · exact hlfr h2
            · omega
          · rintro rfl
            rcases h2 with h2 | h2 | h2
            · exact hnd h2
            · exact hdfr h2
            · omega
        have hrun := run_endRound (P := P) jump hl3
        refine ⟨_, hrun, ?_, ?_, ?_, ?_, ?_, ?_, ?_⟩
        · rw [World.putObj_heap_same hl3', hrec]
        · rw [World.putObj_heap_other (by omega)]; exact hd3
        · refine ((hc2.mono fun k _ hk => by subst hk; exact (hTo k).2 (.inr (.inl rfl))).trans (hc3.mono fun k _ hk => (hTo k).2 (.inl hk))).putObj (fun _ => (hTo l).2 (.inr (.inl rfl))) _
        · intro k hk; simp; exact hto k hk
        · exact (Chg.refl _ _).putObj (fun _ => ⟨by omega, fun h => (hto l h).2.1 rfl⟩) _
        · have := hc3.size; simp; omega
        · rintro k (hk | rfl | rfl)
          · refine ⟨by simp; exact (hto k hk).1, ?_⟩
            rcases (hTo' k hk).2 with h | h | h
            · exact .inl ((hTo k).2 (.inl h))
            · exact .inr (.inl h)
            · exact .inr (.inr (by omega))
          · exact ⟨by simp; exact hl3', .inl ((hTo _).2 (.inr (.inl rfl)))⟩
          · exact ⟨by simp; exact hd3', .inl ((hTo _).2 (.inr (.inr rfl)))⟩
      rintro e a3 W3 hp
      cases e with
      | normal =>
        obtain ⟨To', hTo', hc3, hi3⟩ := hp
        obtain ⟨W4, hr, hl4, hd4, hc4, hto4, hc34, hs4, hT4⟩ := fin none W3 To' hTo' hc3
        exact ⟨_, W4, hr, _, hT4, hc4, .inl ⟨rfl, To', fun _ => Iff.rfl, hto4, hI _ _ _ _ hi3 hc34, hl4, hd4, hs4⟩⟩
      | ret =>
        obtain ⟨To', hTo', hc3, hi3⟩ := hp
        obtain ⟨W4, hr, hl4, hd4, hc4, hto4, hc34, hs4, hT4⟩ := fin (some .ret) W3 To' hTo' hc3
        exact ⟨_, W4, hr, _, hT4, hc4, .inr ⟨rfl, To', .ret, fun _ => Iff.rfl, fun k hk => (hto4 k hk).2, hIx _ _ _ _ _ hi3 hc34, hl4, hd4, hs4⟩⟩
      | exit id =>
        obtain ⟨To', hTo', hc3, hi3⟩ := hp
        obtain ⟨W4, hr, hl4, hd4, hc4, hto4, hc34, hs4, hT4⟩ := fin (some (.exit id)) W3 To' hTo' hc3
        exact ⟨_, W4, hr, _, hT4, hc4, .inr ⟨rfl, To', .exit id, fun _ => Iff.rfl, fun k hk => (hto4 k hk).2, hIx _ _ _ _ _ hi3 hc34, hl4, hd4, hs4⟩⟩
      | goto t =>
        obtain ⟨To', hTo', hc3, hi3⟩ := hp
        obtain ⟨W4, hr, hl4, hd4, hc4, hto4, hc34, hs4, hT4⟩ := fin (some (.goto t)) W3 To' hTo' hc3
        exact ⟨_, W4, hr, _, hT4, hc4, .inr ⟨rfl, To', .goto t, fun _ => Iff.rfl, fun k hk => (hto4 k hk).2, hIx _ _ _ _ _ hi3 hc34, hl4, hd4, hs4⟩⟩
      | panic ch => exact hp.elim
      | outgrown => exact hp.elim
    · exact ⟨T0, fun _ => Iff.rfl, fun k hk => ⟨by have := (hT0 k hk).1; omega, by have := (hT0 k hk).1; omega, by have := (hT0 k hk).1; omega⟩, hI _ _ _ _ h0 (hc1.mono fun _ _ h => h.elim), hL1, hK1, Nat.le_refl _⟩
    · have hfin : ∀ W2, Chg (fun k => T0 k ∨ k = l ∨ k = d) W1 W2 → ∀ o, Chg T0 w (W2.putObj l o) := fun W2 hc o =>
        ((hc1.mono (S' := T0) (fun _ _ h => h.elim)).trans' hc (fun i hi hx => by
          rcases hx with h | h | h
          · exact h
          · omega
          · omega)).putObj (fun h => by omega) _
      have hend : ∀ (W W' : World) (o : Obj), (W.putObj l o).heap.size = W.heap.size := fun W _ o => by simp
      rintro e W2 ⟨⟨v, rfl⟩, hc, T, (⟨To, hTo, hlt, hi, hl', hd', hsz⟩ | ⟨pre, hpre, To, c, hTo, hlt, hi, hl', hd', hsz⟩)⟩
      · refine ⟨none, _, by have := run_endLoop (P := P) hl' (by rw [hrec]; simp); rw [hrec] at this; exact this, ?_⟩
        have hq := hdone To (W2.putObj l (.loop { rec .ready none with state := .exhausted })) (hI _ _ _ _ hi ((Chg.refl _ _).putObj (fun _ => ⟨by omega, fun h => (hlt l h).2.1 rfl⟩) _)) (hfin W2 hc _)
          (by rw [← hd]; exact (World.putObj_heap_other (by omega)).trans hd') (by simp; omega)
        rw [hrec] at hq
        subst hd
        exact hq
      · refine ⟨some c, _, by have := run_endLoop (P := P) hl' (by rw [hrec]; simp); rw [hrec] at this; exact this, ?_⟩
        have hq := hstop c pre To (W2.putObj l (.loop { rec .done (some c) with state := .exhausted })) hpre (hIx _ _ _ _ _ hi ((Chg.refl _ _).putObj (fun _ => ⟨by omega, fun h => (hlt l h).1 rfl⟩) _)) (hfin W2 hc _)
          (by rw [← hd]; exact (World.putObj_heap_other (by omega)).trans hd') (by simp; omega)
        rw [hrec] at hq
        subst hd
        exact hq
end
end Go.Proofs.Ytbeidiaejcbgoaa
