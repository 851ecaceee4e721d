/- strings.Builder, for the evaluator: what is written, what its text is. Conditions: none. -/
import Derived.Test.YtdpkdeimliohmaaDoorBldA
import Derived.Test.YtdpkdeimliohmaaDoorAbX4
set_option linter.unusedSimpArgs false
set_option linter.unusedVariables false
namespace Go.Proofs.YtdpkdeimliohmaaDoor
open Go Go.Ab Go.RowKit
/-- A row of bytes that a slice shows. -/
def RowAt (w : World) (te : TypeId) (row : Option Nat) (v : Value) (s : List UInt8) : Prop :=
  (row = none ∧ v = .slice none 0 0 ∧ s = []) ∨ ∃ (gb cap : Nat) (cur : Array Value), row = some gb ∧ v = .slice (some ⟨gb, 0, none⟩) s.length cap ∧ w.heap[gb]? = some (.cells cur te (0, 0)) ∧ s.length ≤ cap ∧ cur.size = cap ∧ s ≠ [] ∧
    ∀ (j : Nat) (x : UInt8), s[j]? = some x → cur[j]? = some (.int .u8 (x.toNat : Int))
theorem strCells_at (l : List UInt8) (j : Nat) : (Lib.strCells ⟨⟨l⟩⟩)[j]? = (l[j]?).map fun x => Value.int .u8 (x.toNat : Int) := by
  show (l.map fun b => Value.int .u8 (b.toNat : Int))[j]? = _
  rw [List.getElem?_map]
theorem strCells_len (l : List UInt8) : (Lib.strCells ⟨⟨l⟩⟩).length = l.length := List.length_map _
/-- Bytes are appended. -/
theorem app_bytes {P : Program} {w : World} {t u ty te : TypeId} {i : TypeInfo} (ht : P.underlying t = some (.slice te)) (hu : P.underlying u = some .string) (hi : P.info? te = some i) (hz : i.zero = some (.int .u8 0)) (hs1 : i.size = 1) (hb1 : i.bytes = 1)
    {row : Option Nat} {v : Value} {s l : List UInt8} (hR : RowAt w te row v s) (hlt : ∀ gb, row = some gb → gb < w.heap.size) (hlen : s.length + l.length ≤ 140737488355328) :
    ∃ ao n c ao' n' c' w2 row', v = .slice ao n c ∧ (Builtin.append_ #[t, u] ty #[v, .string ⟨⟨l⟩⟩]).run P w = .ok (.slice ao' n' c') w2 ∧ RowAt w2 te row' (.slice ao' n' c') (s ++ l) ∧ w2.os = w.os ∧ w2.tape = w.tape ∧ w2.output = w.output ∧ w.heap.size ≤ w2.heap.size ∧
      (∀ k, k < w.heap.size → row ≠ some k → w2.heap[k]? = w.heap[k]?) ∧ ∀ gb, row' = some gb → gb < w2.heap.size ∧ (row = some gb ∨ w.heap.size ≤ gb) := by
  have hsz : (⟨⟨l⟩⟩ : ByteArray).size = l.length := rfl
  rcases hR with ⟨rfl, rfl, rfl⟩ | ⟨gb, cap, cur, rfl, rfl, hg, hn, hcs, hne, hcell⟩
  · obtain ⟨v', w2, hr, ho, hgr, hiff⟩ := Lib.run_append_own_string (P := P) w w.heap.size t u ty te i ht hu hi hz hs1 hb1 (.slice none 0 0) 0 [] (World.ownsRow_nil w w.heap.size te 1) ⟨⟨l⟩⟩ (by rw [hsz]; simp only [maxLen]; simp at hlen; omega) (by rw [hsz]; simpa using hlen) (Nat.le_refl _)
    obtain ⟨ho1, ho2⟩ := ho
    rw [hsz] at ho1 ho2
    rcases ho2 with ⟨rfl, h0⟩ | ⟨gb, cap, cur, rfl, k1, k2, k3, k4, k5, k6⟩
    · have hl0 : l = [] := by
        have := (hiff.1 rfl).2
        rw [hsz] at this
        simpa using this
      subst hl0
      exact ⟨none, 0, 0, none, 0, 0, w2, none, rfl, hr, .inl ⟨rfl, rfl, rfl⟩, hgr.os, hgr.tape, hgr.output, hgr.size, fun k hk _ => hgr.block k hk (by simp [Value.ownBlock]), fun gb h => by cases h⟩
    · have hlne : l ≠ [] := by
        rintro rfl
        have := hiff.2 ⟨rfl, rfl⟩
        cases this
      refine ⟨none, 0, 0, some ⟨gb, 0, none⟩, 0 + l.length, cap, w2, some gb, rfl, hr, .inr ⟨gb, cap, cur, rfl, by simp, k2, by simpa using k3, by simpa using k5, by simpa using hlne, fun j x hx => ?_⟩, hgr.os, hgr.tape, hgr.output, hgr.size, fun k hk _ => hgr.block k hk (by simp [Value.ownBlock]), fun gb' h => ?_⟩
      · have hj := (List.getElem?_eq_some_iff.1 hx).1
        simp at hj
        have : (cur.toList.take ((0 + l.length) * 1))[j]? = some (.int .u8 (x.toNat : Int)) := by
          rw [k6, List.nil_append, strCells_at]
          simp only [List.nil_append] at hx
          rw [hx]; rfl
        rw [List.getElem?_take, if_pos (by omega)] at this
        simpa using this
      · cases h
        refine ⟨?_, .inr k1⟩
        exact (Array.getElem?_eq_some_iff.1 k2).1
  · have hlt' := hlt gb rfl
    by_cases hroom : s.length + l.length ≤ cap
    · have hr := Lib.run_append_room_string (P := P) w t u ty te i ht hu hi hs1 gb s.length cap cur hg ⟨⟨l⟩⟩ (by rw [hsz]; exact hroom) (by rw [hsz]; omega)
      rw [hsz] at hr
      refine ⟨_, _, _, _, _, _, _, some gb, rfl, hr, .inr ⟨gb, cap, _, rfl, by simp, setRow_heap w gb cur _ te _ hg, by simpa using hroom, ?_, by simp [hne], fun j x hx => ?_⟩, rfl, rfl, rfl, by simp, fun k _ hk => setRow_other w gb k _ (fun e => hk (by rw [e])), fun gb' h => ?_⟩
      · simp only [List.size_toArray, List.length_append, List.length_take, List.length_drop, Array.length_toList, strCells_len]
        omega
      · simp only [List.getElem?_toArray]
        by_cases hj : j < s.length
        · rw [List.append_assoc, List.getElem?_append_left (by simp; omega), List.getElem?_take, if_pos hj]
          rw [List.getElem?_append_left hj] at hx
          simpa using hcell j x hx
        · rw [List.getElem?_append_right (by omega)] at hx
          have hj2 := (List.getElem?_eq_some_iff.1 hx).1
          have hmin : (cur.toList.take s.length).length = s.length := by simp; omega
          rw [List.append_assoc, List.getElem?_append_right (by omega), hmin, List.getElem?_append_left (by rw [strCells_len]; omega), strCells_at, hx]
          rfl
      · cases h
        simp only [setRow_size]
        exact ⟨hlt', .inl trivial⟩
    · have hr := Lib.run_append_grow_string (P := P) w t u ty te i (.int .u8 0) ht hu hi hz ⟨gb, 0, none⟩ s.length cap (cur.toList.take s.length) (by rw [hs1]; simp; omega) (fun j u hu => by
          rw [List.getElem?_take] at hu
          split at hu
          · rw [Addr.add_lit, Lib.cell_of_heap hg, Nat.zero_add]
            simpa using hu
          · cases hu) ⟨⟨l⟩⟩ (by rw [hsz]; omega) (by rw [hsz]; omega) (by rw [hb1, hsz]; exact growslice_fits (by omega) (by omega))
      rw [hsz] at hr
      have hge := grownCap_ge w (s.length + l.length) cap te
      have hmin : (cur.toList.take s.length).length = s.length := by simp; omega
      refine ⟨_, _, _, _, _, _, _, some w.heap.size, rfl, hr, .inr ⟨w.heap.size, grownCap w (s.length + l.length) cap te, _, rfl, by simp, heap_alloc_new w.drew _, (by simpa using hge : (s ++ l).length ≤ grownCap w (s.length + l.length) cap te), ?_, by simp [hne], fun j x hx => ?_⟩, rfl, rfl, rfl, by simp, fun k hk _ => heap_alloc_old w.drew _ hk, fun gb' h => ?_⟩
      · have hz1 : (Value.int IntKind.u8 0).cells.size = 1 := rfl
        simp only [Array.size_append, List.size_toArray, size_zeroCells, hz1, hmin, strCells_len]
        omega
      · rw [Array.append_assoc, Array.getElem?_append]
        simp only [List.size_toArray, hmin]
        by_cases hj : j < s.length
        · rw [if_pos hj]
          rw [List.getElem?_append_left hj] at hx
          simp only [List.getElem?_toArray]
          rw [List.getElem?_take, if_pos hj]
          simpa using hcell j x hx
        · rw [if_neg hj]
          rw [List.getElem?_append_right (by omega)] at hx
          have hj2 := (List.getElem?_eq_some_iff.1 hx).1
          rw [Array.getElem?_append]
          simp only [List.size_toArray, strCells_len]
          rw [if_pos hj2]
          simp only [List.getElem?_toArray]
          rw [strCells_at, hx]
          rfl
      · cases h
        simp
theorem hr_bld {P : Program} {w : World} {Im : Imm} {g : List Gh} {t : TypeId} {s : List UInt8} (hH : HR P w Im g [.bld t s]) : ∃ b row, g = [.bld b row] ∧ BldAt P w Im b row t s := by
  obtain ⟨b, row, h1, h2⟩ := hH.box 0 t s rfl
  have hl : g.length = 1 := hH.len
  match g, hl with
  | [x], _ =>
    simp at h1
    subst h1
    exact ⟨b, row, rfl, h2⟩
/-- The builder alone is turned. -/
theorem bld_turn {P : Program} {w w' : World} {Im : Imm} {b : Nat} {row row' : Option Nat} {t : TypeId} {s s' : List UInt8} (hH : HR P w Im [.bld b row] [.bld t s]) (hos : w'.os = w.os) (htp : w'.tape = w.tape) (hout : w'.output = w.output) (hsz : w.heap.size ≤ w'.heap.size)
    (hfr : ∀ k, k < w.heap.size → k ≠ b → row ≠ some k → w'.heap[k]? = w.heap[k]?) (hrow : ∀ gb, row' = some gb → gb < w'.heap.size ∧ (row = some gb ∨ w.heap.size ≤ gb)) {o : AObj} (ho : o = .no ∨ o = .bld t s' ∧ BldAt P w' Im b row' t s') :
    HR P w' Im [.bld b row'] [o] ∧ Ext w Im [.bld b row] w' Im [.bld b row'] := by
  obtain ⟨b2, row2, e2, hB⟩ := hr_bld hH
  cases e2
  have hnb : ∀ o, ¬ Im b o := by
    obtain ⟨p, v, te, _, _, _, h4, _⟩ := hB
    exact h4
  have hng : ∀ gb, row = some gb → ∀ o, ¬ Im gb o := by
    intro gb hgb
    obtain ⟨p, v, te, _, _, _, _, h5⟩ := hB
    rcases h5 with ⟨h5, _⟩ | ⟨gb', cap, cur, h6, _, _, _, _, _, _, _, h7⟩
    · rw [h5] at hgb; cases hgb
    · rw [h6] at hgb; cases hgb; exact h7
  have hb : b < w.heap.size := hH.lt b ⟨0, _, rfl, .inl rfl⟩
  have hkeep : ∀ k, (∃ o, Im k o) → w'.heap[k]? = w.heap[k]? := fun k ⟨o, h⟩ => hfr k (hH.im k o h) (fun e => hnb o (e ▸ h)) (fun e => hng k e o h)
  have hm : ∀ b o, Im b o → Im b o ∧ w'.cell? ⟨b, o, none⟩ = w.cell? ⟨b, o, none⟩ := fun k o h => ⟨h, by unfold World.cell?; rw [hkeep k ⟨o, h⟩]⟩
  refine ⟨⟨rfl, ?_, ?_, ?_, ?_, ?_, ?_, ?_, ?_, ?_, hH.tab.go hm, ?_⟩, ⟨hos, htp, hout, hsz, fun _ _ h => h, fun k o h => (hm k o h).2, fun k hk hn => hfr k hk (fun e => hn ⟨0, _, rfl, .inl e.symm⟩) (fun e => hn ⟨0, _, rfl, .inr e⟩), fun _ _ h => .inl h, ?_, ⟨?_, ?_, ?_, ?_⟩⟩⟩
  · intro r cs h
    match r with
    | 0 => rcases ho with rfl | ⟨rfl, _⟩ <;> cases h
    | r + 1 => cases h
  · intro r e sz h
    match r with
    | 0 => rcases ho with rfl | ⟨rfl, _⟩ <;> cases h
    | r + 1 => cases h
  · intro r e sz cs h
    match r with
    | 0 => rcases ho with rfl | ⟨rfl, _⟩ <;> cases h
    | r + 1 => cases h
  · intro r es h
    match r with
    | 0 => rcases ho with rfl | ⟨rfl, _⟩ <;> cases h
    | r + 1 => cases h
  · intro r a n rest h
    match r with
    | 0 => rcases ho with rfl | ⟨rfl, _⟩ <;> cases h
    | r + 1 => cases h
  · intro r acc h
    match r with
    | 0 => rcases ho with rfl | ⟨rfl, _⟩ <;> cases h
    | r + 1 => cases h
  · intro r r' k x x' hne h1 h2
    match r, r' with
    | 0, 0 => exact absurd rfl hne
    | r + 1, _ => cases h1
    | 0, r' + 1 => cases h2
  · rintro k ⟨r, x, h1, h2⟩
    match r with
    | 0 =>
      cases h1
      rcases h2 with rfl | h2
      · omega
      · exact (hrow k h2).1
    | r + 1 => cases h1
  · intro k o h
    have := hH.im k o h
    omega
  · intro r t' s'' h
    match r with
    | 0 =>
      rcases ho with rfl | ⟨rfl, hB'⟩
      · cases h
      · cases h; exact ⟨b, row', rfl, hB'⟩
    | r + 1 => cases h
  · rintro k ⟨r, x, h1, h2⟩
    match r with
    | 0 =>
      cases h1
      rcases h2 with rfl | h2
      · exact .inl ⟨0, _, rfl, .inl rfl⟩
      · rcases (hrow k h2).2 with h3 | h3
        · exact .inl ⟨0, _, rfl, .inr h3⟩
        · exact .inr h3
    | r + 1 => cases h1
  · intro r k h
    match r with
    | 0 => cases h
    | r + 1 => cases h
  · intro r ep esz base len cap h
    match r with
    | 0 => cases h
    | r + 1 => cases h
  · intro r y T h
    match r with
    | 0 => cases h
    | r + 1 => cases h
  · intro r k q h
    match r with
    | 0 => cases h; exact ⟨row', rfl⟩
    | r + 1 => cases h
/-- What is written. -/
def bwX : List AV → List AObj → Option (Out × List AObj)
  | [.bp 0, .d (.str l)], [.bld t s] => if t = 96 ∧ s.length + l.length ≤ 140737488355328 then some (.ret (.tuple [.d (.int .i64 l.length), .any]), [.bld t (s ++ l)]) else none
  | _, _ => none
/-- A builder's text. -/
def bsX : List AV → List AObj → Option (Out × List AObj)
  | [.bp 0], [.bld t s] => if t = 96 ∧ s.length ≤ 140737488355328 then some (.ret (.d (.str s)), [.no]) else none
  | _, _ => none
theorem bld_buf : bufE Tryd.prog 96 = some 5 := by kernel_rfl
theorem byte_info : (Tryd.prog.info? 5).map (fun i => (i.zero, i.size, i.bytes)) = some (some (.int .u8 0), 1, 1) := by kernel_rfl
set_option maxHeartbeats 1000000 in
theorem bw_sound (as0 : List AV) (H : List AObj) (out : Out) (H' : List AObj) (h : bwX as0 H = some (out, H')) : (∀ args w, (callFunc 46 args).run Tryd.prog w = .ok (.enter 46 args) w) ∧ H.length ≤ H'.length ∧
    ∀ (w : World) (Im : Imm) (g : List Gh) (vs : List Value), HR Tryd.prog w Im g H → RepAs w Im g vs as0 → Calls Tryd.prog 46 ⟨vs⟩ w (CallPost Tryd.prog w Im g out H') := by
  refine ⟨enter_of Tryd.func46 (by kernel_rfl) rfl, ?_⟩
  unfold bwX at h
  split at h
  · rename_i l t s
    split at h
    · rename_i hc
      obtain ⟨rfl, hlen⟩ := hc
      cases h
      refine ⟨by simp, fun w Im g vs hH hr => ?_⟩
      obtain ⟨v1, v2, rfl, r1, r2⟩ := repAs_two hr
      rw [repA_str r2]
      obtain ⟨b, row, rfl, hB⟩ := hr_bld hH
      have hv1 : v1 = .pointer (some ⟨b, 0, none⟩) := by cases r1 with | bp hg => simp at hg; obtain ⟨rfl, _⟩ := hg; rfl
      subst hv1
      obtain ⟨p, v, te, hb, hp, hte, hnb, h5⟩ := hB
      rw [bld_buf] at hte
      cases hte
      have hblt : b < w.heap.size := (Array.getElem?_eq_some_iff.1 hb).1
      obtain ⟨i, hi, hi'⟩ := Option.map_eq_some_iff.1 byte_info
      simp only [Prod.mk.injEq] at hi'
      -- the check
      have hcc : ∃ w1, (Calls Tryd.prog 61 #[.pointer (some ⟨b, 0, none⟩)] w fun e w' => e = .returned (.tuple #[]) ∧ w' = w1) ∧ w1.os = w.os ∧ w1.tape = w.tape ∧ w1.output = w.output ∧ w1.heap.size = w.heap.size ∧ (∀ k, k ≠ b → w1.heap[k]? = w.heap[k]?) ∧ w1.heap[b]? = some (.cells #[.pointer (some ⟨b, 0, none⟩), v] 96 (0, 0)) := by
        rcases hp with rfl | rfl
        · have hset : w.setCell ⟨b, 0, none⟩ (.pointer (some ⟨b, 0, none⟩)) = w.setRow b ⟨[.pointer (some ⟨b, 0, none⟩), v]⟩ := setCell_eq_setRow w b 0 #[.pointer none, v] _ _ _ hb
          have hcc := cc_fresh b w (by rw [Lib.cell_of_heap hb]; rfl) (by simp [World.shape?, hb]) (Lib.frozen_of_heap hb 0)
          rw [hset] at hcc
          exact ⟨_, hcc, rfl, rfl, rfl, by simp, fun k hk => setRow_other w b k _ hk, setRow_heap w b #[.pointer none, v] _ _ _ hb⟩
        · exact ⟨w, cc_used b w (by rw [Lib.cell_of_heap hb]; rfl), rfl, rfl, rfl, rfl, fun _ _ => rfl, hb⟩
      obtain ⟨w1, hcc, q1, q2, q3, q4, q5, q6⟩ := hcc
      have hgl : ∀ gb, row = some gb → gb < w.heap.size := fun gb e => hH.lt gb ⟨0, _, rfl, .inr e⟩
      have hRow : RowAt w1 5 row v s := by
        rcases h5 with h5 | ⟨gb, cap, cur, z1, z2, z3, z4, z5, z6, z7, z8, z9⟩
        · exact .inl h5
        · exact .inr ⟨gb, cap, cur, z1, z3, (q5 gb z2).trans z4, z5, z6, z7, z8⟩
      have hrb : row ≠ some b := by
        rcases h5 with ⟨h5, _⟩ | ⟨gb, cap, cur, z1, z2, _⟩
        · rw [h5]; exact fun e => by cases e
        · rw [z1]; intro e; cases e; exact z2 rfl
      have hnr : ∀ gb, row = some gb → ∀ o, ¬ Im gb o := by
        intro gb hgb
        rcases h5 with ⟨h5, _⟩ | ⟨gb', cap, cur, z1, _, _, _, _, _, _, _, z9⟩
        · rw [h5] at hgb; cases hgb
        · rw [z1] at hgb; cases hgb; exact z9
      obtain ⟨ao, n, c, ao', n', c', w2, row', rfl, hap, hR2, p1, p2, p3, p4, p5, p6⟩ := app_bytes (P := Tryd.prog) (ty := 94) (te := 5) Tryd.underlying94 Tryd.underlying9 hi hi'.1 hi'.2.1 hi'.2.2 hRow (fun gb e => by rw [q4]; exact hgl gb e) hlen
      have hb2 : w2.heap[b]? = some (.cells #[.pointer (some ⟨b, 0, none⟩), .slice ao n c] 96 (0, 0)) := (p5 b (by rw [q4]; exact hblt) hrb).trans q6
      refine (bw_run b w w1 w2 (.slice ao n c) ao ao' n c n' c' ⟨⟨l⟩⟩ hcc (by rw [Lib.cell_of_heap q6]; rfl) hap (by rw [Lib.cell_of_heap hb2]; rfl) (Lib.frozen_of_heap hb2 1)).mono ?_
      rintro e' w' ⟨rfl, rfl⟩
      have hset : w2.setCell ⟨b, 1, none⟩ (.slice ao' n' c') = w2.setRow b ⟨[.pointer (some ⟨b, 0, none⟩), .slice ao' n' c']⟩ := setCell_eq_setRow w2 b 1 #[.pointer (some ⟨b, 0, none⟩), .slice ao n c] _ _ _ hb2
      rw [hset]
      have hrb' : row' ≠ some b := fun e => by
        rcases (p6 b e).2 with h | h
        · exact hrb h
        · rw [q4] at h; omega
      obtain ⟨k1, k2⟩ := bld_turn (w' := w2.setRow b ⟨[.pointer (some ⟨b, 0, none⟩), .slice ao' n' c']⟩) (row' := row') (s' := s ++ l) (o := .bld 96 (s ++ l)) hH (p1.trans q1) (p2.trans q2) (p3.trans q3) (by simp; omega) (fun k hk hkb hkr => by rw [setRow_other w2 b k _ hkb, p5 k (by omega) hkr, q5 k hkb]) (fun gb e => by
          obtain ⟨y1, y2⟩ := p6 gb e
          rw [q4] at y2
          simp only [setRow_size]
          exact ⟨y1, y2⟩) (.inr ⟨rfl, _, _, 5, setRow_heap w2 b _ _ _ _ hb2, .inr rfl, bld_buf, hnb, by
          rcases hR2 with hR2 | ⟨gb, cap, cur, z1, z2, z3, z4, z5, z6, z7⟩
          · exact .inl hR2
          · have hgb : gb ≠ b := fun e => hrb' (by rw [z1, e])
            refine .inr ⟨gb, cap, cur, z1, hgb, z2, (setRow_other w2 b gb _ hgb).trans z3, z4, z5, z6, z7, fun o ho => ?_⟩
            rcases (p6 gb z1).2 with h | h
            · exact hnr gb h o ho
            · have := hH.im gb o ho
              omega⟩)
      refine ⟨Im, _, k1, k2, _, rfl, ?_⟩
      exact .tuple [_, _] _ rfl (fun i u d hu hd => by
        match i with
        | 0 => simp at hu hd; subst hu hd; exact .d (.int _ _)
        | 1 => simp at hu hd; subst hu hd; exact .any _
        | i + 2 => simp at hu)
    · cases h
  · cases h
theorem freeze_other (w : World) (gb n k : Nat) (h : k ≠ gb) : (w.freeze ⟨gb, 0, none⟩ n).heap[k]? = w.heap[k]? := by
  unfold World.freeze
  split
  · rfl
  · simp only [Array.getElem?_modify]
    rw [if_neg (fun e => h e.symm)]
theorem freeze_size (w : World) (gb n : Nat) : (w.freeze ⟨gb, 0, none⟩ n).heap.size = w.heap.size := by
  unfold World.freeze
  split
  · rfl
  · simp
theorem freeze_os (w : World) (a : Addr) (n : Nat) : (w.freeze a n).os = w.os ∧ (w.freeze a n).tape = w.tape ∧ (w.freeze a n).output = w.output := by
  unfold World.freeze
  split <;> exact ⟨rfl, rfl, rfl⟩
theorem bs_sound (as0 : List AV) (H : List AObj) (out : Out) (H' : List AObj) (h : bsX as0 H = some (out, H')) : (∀ args w, (callFunc 47 args).run Tryd.prog w = .ok (.enter 47 args) w) ∧ H.length ≤ H'.length ∧
    ∀ (w : World) (Im : Imm) (g : List Gh) (vs : List Value), HR Tryd.prog w Im g H → RepAs w Im g vs as0 → Calls Tryd.prog 47 ⟨vs⟩ w (CallPost Tryd.prog w Im g out H') := by
  refine ⟨enter_of Tryd.func47 (by kernel_rfl) rfl, ?_⟩
  unfold bsX at h
  split at h
  · rename_i t s
    split at h
    · rename_i hc
      obtain ⟨rfl, hlen⟩ := hc
      cases h
      refine ⟨by simp, fun w Im g vs hH hr => ?_⟩
      obtain ⟨b, row, rfl, hB⟩ := hr_bld hH
      have hv1 : vs = [.pointer (some ⟨b, 0, none⟩)] := by
        obtain ⟨hl, hr⟩ := hr
        match vs, hl with
        | [v1], _ =>
          have r1 := hr 0 v1 _ rfl rfl
          cases r1 with | bp hg => simp at hg; obtain ⟨rfl, _⟩ := hg; rfl
      subst hv1
      have hB' := hB
      obtain ⟨p, v, te, hb, hp, hte, hnb, h5⟩ := hB'
      rw [bld_buf] at hte
      cases hte
      rcases h5 with ⟨rfl, rfl, rfl⟩ | ⟨gb, cap, cur, rfl, z2, rfl, z4, z5, z6, z7, z8, z9⟩
      · refine (bs_nil b p w hb).mono ?_
        rintro e' w' ⟨rfl, rfl⟩
        obtain ⟨k1, k2⟩ := bld_turn (w' := w.drew) (row' := none) (s' := []) (o := .no) hH rfl rfl rfl (Nat.le_refl _) (fun _ _ _ _ => rfl) (fun gb e => by cases e) (.inl rfl)
        exact ⟨Im, _, k1, k2, _, rfl, .d (.str _)⟩
      · refine (bs_run b gb cap cur p s w z7 hb z4 z5 (by omega) hlen z8).mono ?_
        rintro e' w' ⟨rfl, rfl⟩
        obtain ⟨f1, f2, f3⟩ := freeze_os w.drew ⟨gb, 0, none⟩ s.length
        obtain ⟨k1, k2⟩ := bld_turn (w' := w.drew.freeze ⟨gb, 0, none⟩ s.length) (row' := some gb) (s' := s) (o := .no) hH f1 f2 f3 (Nat.le_of_eq (freeze_size w.drew gb _).symm) (fun k hk hkb hkr => by rw [freeze_other w.drew gb _ k (fun e => hkr (by rw [e]))]; rfl) (fun gb' e => by
          cases e
          refine ⟨?_, .inl rfl⟩
          rw [freeze_size]
          exact hH.lt gb ⟨0, _, rfl, .inr rfl⟩) (.inl rfl)
        exact ⟨Im, _, k1, k2, _, rfl, .d (.str _)⟩
    · cases h
  · cases h
end Go.Proofs.YtdpkdeimliohmaaDoor
