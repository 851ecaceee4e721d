/- solve: spread walked. Conditions: a search object in memory, clauses of its variables. -/
import Derived.Test.YtbeidiaejcbgoaaSearch4
namespace Go.Proofs.Ytbeidiaejcbgoaa
open Go.RowKit

/-- One thing after another that a clause forces (the newest first). -/
inductive Forced (ls : List (List Int)) : List (Int × Int) → List (Int × Int) → Prop
  | refl (r : List (Int × Int)) : Forced ls r r
  | step {r r' : List (Int × Int)} {c : List Int} {x : Int} : Forced ls r r' → c ∈ ls → lastZ (valR r') c 0 = (x, true) → x ≠ 0 → Forced ls r ((x, 0) :: r')

/-- The count of steps. -/
def Stepped (st st' d : Int) : Prop := 0 ≤ d ∧ (0 ≤ st → st + d < 4611686018427387904 → st' = st + d)
theorem Stepped.refl (st : Int) : Stepped st st 0 := ⟨by omega, fun _ _ => by omega⟩
theorem Stepped.one {a b d : Int} (h : Stepped a b d) : Stepped a (wrap64 (b + 1)) (d + 1) := by
  obtain ⟨h1, h2⟩ := h
  refine ⟨by omega, fun h3 h4 => ?_⟩
  have := h2 h3 (by omega)
  subst this
  rw [IntWalk.wrap64_in _ ⟨by omega, by omega⟩]
  omega
theorem Stepped.trans {a b c d e : Int} (h : Stepped a b d) (k : Stepped b c e) : Stepped a c (d + e) := by
  obtain ⟨h1, h2⟩ := h
  obtain ⟨k1, k2⟩ := k
  refine ⟨by omega, fun h3 h4 => ?_⟩
  have := h2 h3 (by omega)
  subst this
  have := k2 (by omega) (by omega)
  omega

/-- Where a search stands. -/
structure At (w w' : World) (B b vb : Nat) (tv : Value) (n : Nat) (Lv : Value) (r' : List (Int × Int)) (st st' d : Int) : Prop where
  ex : ∃ tv', Srch w' B b vb tv' n Lv (valR r') r'.reverse st' ∧ SameOrNew w.heap.size tv tv'
  chg : Chg (sblk b vb tv) w w'
  inv : TrInv n r'
  steps : Stepped st st' d

def SpreadPost (ls : List (List Int)) (w : World) (B b vb : Nat) (tv : Value) (n : Nat) (Lv : Value) (r : List (Int × Int)) (st : Int) (e : Ending) (w' : World) : Prop :=
  ∃ r' st', Forced ls r r' ∧ At w w' B b vb tv n Lv r' st st' ((r'.length : Int) - r.length) ∧
    ((e = .returned (.bool true) ∧ ∀ c ∈ ls, lastZ (valR r') c 0 = (0, true)) ∨ (e = .returned (.bool false) ∧ ∃ c ∈ ls, lastZ (valR r') c 0 = (0, false)))

/-- Footprints of a search compose. -/
theorem At.next {w w1 w2 : World} {B b vb : Nat} {tv tv1 : Value} {n : Nat} {Lv : Value} {r r1 : List (Int × Int)} {st st1 d : Int} (h : At w w1 B b vb tv n Lv r st st1 d)
    (hfr : SameOrNew w.heap.size tv tv1) {tv2 : Value} {st2 d' : Int}
    (hs : Srch w2 B b vb tv2 n Lv (valR r1) r1.reverse st2) (hc : Chg (sblk b vb tv1) w1 w2) (hn : SameOrNew w1.heap.size tv1 tv2) (hi : TrInv n r1) (hst : Stepped st st2 d') :
    At w w2 B b vb tv n Lv r1 st st2 d' := by
  refine ⟨⟨tv2, hs, ?_⟩, h.chg.trans' hc ?_, hi, hst⟩
  · rcases hn with hn | ⟨k, hk, hk'⟩
    · rcases hfr with hf | ⟨k, hk, hk'⟩
      · exact .inl (hn.trans hf)
      · exact .inr ⟨k, hn.trans hk, hk'⟩
    · exact .inr ⟨k, hk, Nat.le_trans h.chg.size hk'⟩
  · intro i hi' hx
    rcases hx with hx | hx | hx
    · exact .inl hx
    · exact .inr (.inl hx)
    · rcases hfr with hf | ⟨k, hk, hk'⟩
      · exact .inr (.inr (hf ▸ hx))
      · rw [hx] at hk; cases hk; omega

set_option maxHeartbeats 1000000 in
theorem spread_any {w : World} {B b vb : Nat} {tv : Value} {n : Nat} {Lv : Value} {r : List (Int × Int)} {st : Int} {D : Nat → Prop} {ls : List (List Int)} (h : Srch w B b vb tv n Lv (valR r) r.reverse st)
    (hL : IntRows D w Lv ls) (hsb : ∀ q, D q → ¬ sblk b vb tv q) (hf : RightL n ls) (ht : TrInv n r) :
    Calls Try.prog 40 #[.pointer (some ⟨b, 0, none⟩)] w fun e w' => SpreadPost ls w B b vb tv n Lv r st e w' := by
  have hmf : ∀ (fn : Fn) (first cap : Array Value) (w : World), (Instr.makeFunc fn first cap).run Try.prog w = .ok (.func fn first cap) w := fun _ _ _ _ => rfl
  obtain ⟨la, lcap, rfl, hlc, hlm, hcs⟩ := hL.open
  have hrl : r.length ≤ n := trInv_length ht
  have H0 := Lib.hid (And.intro h (And.intro hL (And.intro hcs ht)))
  have HF := Lib.hid hf
  have HSB := Lib.hid hsb
  clear h hL hcs hf ht hsb
  go_enter Try.func40, Try.ntmps40
  go_wp2
  go_step3
  go_wp2
  go_step3
  go_wp2
  go_loopg [2] (n - r.length) (fun g _ wr => ∃ (r' : List (Int × Int)) (st' : Int) (tv' : Value), Hid (g = n - r'.length ∧ Forced ls r r' ∧ At w wr B b vb tv n (.slice la ls.length lcap) r' st st' ((r'.length : Int) - r.length) ∧
      Srch wr B b vb tv' n (.slice la ls.length lcap) (valR r') r'.reverse st' ∧ SameOrNew w.heap.size tv tv'))
  case atStart =>
    obtain ⟨h, hL, hcs, ht⟩ := H0.out
    exact ⟨r, st, tv, rfl, .refl _, ⟨⟨tv, h, .inl rfl⟩, Chg.refl _ _, ht, by simpa using Stepped.refl st⟩, h, .inl rfl⟩
  case round =>
    obtain ⟨r', st', tv', HR⟩ := hrel
    have hS := HR.out.2.2.2.1
    have c0 := hS.c0
    have c1 := hS.c1
    have hlb : b < wr.heap.size := by have := hS.hb; have := hS.hB; omega
    clear hS
    go_wp2
    go_loop [16] (fun i => ∃ k : Nat, k ≤ ls.length ∧ i = .int .i64 k ∧ Hid (∀ j, j < k → lastZ (valR r') (ls[j]?.getD []) 0 = (0, true))) (fun i => ls.length - (intOf i).toNat)
    case atStart => exact ⟨0, Nat.zero_le _, rfl, fun j hj => absurd hj (Nat.not_lt_zero _)⟩
    case round =>
      obtain ⟨k, hk, rfl, HK⟩ := hrel
      by_cases hlt : k < ls.length
      · have hcs := H0.out.2.2.1
        rcases hcs with h0 | ⟨lb, lo, rfl, hlR, hcs⟩
        · rw [h0] at hlt; exact absurd hlt (Nat.not_lt_zero _)
        obtain ⟨u, hu, hI⟩ := hcs k hlt
        have hcg := HR.out.2.2.1.chg
        have du : wr.cell? ⟨lb, lo + k, none⟩ = some u := hcg.cell' hu (HSB.out lb hlR)
        have dI : Ints D wr u (ls[k]?.getD []) := hI.chg hcg HSB.out
        have hmem : ls[k]?.getD [] ∈ ls := by
          rw [List.getElem?_eq_getElem hlt]; exact List.getElem_mem hlt
        generalize hck : ls[k]?.getD [] = c at dI hmem
        have hS := HR.out.2.2.2.1
        have hrc := HF.out c hmem
        have hla := last_any hS u c dI (fun x hx => (hrc x hx).2)
        have hsp := lastZ_spec (lits3_valR r') c 0 (fun y hy => (hrc y hy).1) (fun h => absurd rfl h)
        have HC := Lib.hid hck
        clear hck hcg hu hI hS dI hcs
        rcases hsp with ⟨h1, _⟩ | ⟨z, h1, h2, h3, h4, h5⟩ | ⟨h1, _, _⟩
        · rw [h1] at hla
          have HLA := Lib.hid hla
          have H1 := Lib.hid h1
          clear hla h1 hrc
          go_wp2_with (go_at_call 52; refine HLA.out.mono ?_; rintro e w' ⟨rfl, rfl⟩)
          go_round
          case rel =>
            refine ⟨k + 1, by omega, by go_num, fun j hj => ?_⟩
            by_cases e : j = k
            · subst e; rw [HC.out]; exact H1.out
            · exact HK.out j (by omega)
          case measure => simp [intOf]; omega
        · rw [h1] at hla
          have HLA := Lib.hid hla
          have H1 := Lib.hid h1
          obtain ⟨hz1, hz2⟩ := hrc z (h3.resolve_left h2)
          have hput := put_any HR.out.2.2.2.1 z 0 h2 hz2.1 hz2.2 (by have := trInv_length HR.out.2.2.1.inv; have := HR.out.2.2.2.1.small; simp; omega)
          have HPUT := Lib.hid hput
          have HT := Lib.hid h4
          clear hla h1 hrc hput h3 h4 h5
          go_wp2_with (first | (go_at_call 52; refine HLA.out.mono ?_; rintro e w' ⟨rfl, rfl⟩) | (go_at_call 50; refine HPUT.out.mono ?_; rintro e w' ⟨rfl, HPP⟩))
          obtain ⟨hg, hfo, hat, hSr, hfr⟩ := HR.out
          obtain ⟨hti, hlt'⟩ := trInv_room hat.inv h2 hz2.1 hz2.2 HT.out 0
          obtain ⟨tv2, hS2, hc2, hn2⟩ := HPP
          have e2 : ((z, (0 : Int)) :: r').reverse = r'.reverse ++ [(z, 0)] := by simp
          go_roundg (n - (r'.length + 1))
          case measure => omega
          case rel =>
            refine ⟨(z, 0) :: r', wrap64 (st' + 1), tv2, rfl, .step hfo hmem H1.out h2, ?_, by rw [e2]; exact hS2, ?_⟩
            · refine hat.next hfr (tv2 := tv2) ?_ hc2 hn2 hti ?_
              · rw [e2]; exact hS2
              · have := hat.steps.one; simp only [List.length_cons]; rw [show ((r'.length + 1 : Nat) : Int) - r.length = (r'.length : Int) - r.length + 1 by omega]; exact this
            · rcases hn2 with h | ⟨q, h, h'⟩
              · rcases hfr with f | ⟨q, f, f'⟩
                · exact .inl (h.trans f)
                · exact .inr ⟨q, h.trans f, f'⟩
              · exact .inr ⟨q, h, Nat.le_trans hat.chg.size h'⟩
        · rw [h1] at hla
          have HLA := Lib.hid hla
          have H1 := Lib.hid h1
          clear hla h1 hrc
          go_wp2_with (go_at_call 52; refine HLA.out.mono ?_; rintro e w' ⟨rfl, rfl⟩)
          rw [Exit.noGoto_ret]
          go_ret
          exact ⟨r', st', HR.out.2.1, HR.out.2.2.1, .inr ⟨rfl, c, hmem, H1.out⟩⟩
      · obtain rfl : k = ls.length := by omega
        go_wp2
        try rw [Exit.noGoto_ret]
        go_ret
        refine ⟨r', st', HR.out.2.1, HR.out.2.2.1, .inl ⟨rfl, fun c hc => ?_⟩⟩
        obtain ⟨j, hj, rfl⟩ := List.getElem_of_mem hc
        have := HK.out j hj
        simpa [hj] using this
end Go.Proofs.Ytbeidiaejcbgoaa
