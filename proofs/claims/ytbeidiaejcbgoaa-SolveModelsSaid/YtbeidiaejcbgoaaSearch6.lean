/- solve: next walked: from where a search stands to the next model. Conditions: a search object in memory, clauses of its variables. -/
import Derived.Test.YtbeidiaejcbgoaaSearch5
namespace Go.Proofs.Ytbeidiaejcbgoaa
open Go.RowKit

theorem forced_keep {n : Nat} {ls : List (List Int)} (hr : RightL n ls) {r r1 : List (Int × Int)} (h : Forced ls r r1) :
    TrInv n r1 → ext n ls r1 = ext n ls r ∧ rest n ls r1 = rest n ls r ∧ mu n r1 + (r1.length - r.length) ≤ mu n r ∧ r.length ≤ r1.length := by
  induction h with
  | refl => intro _; exact ⟨rfl, rfl, by omega, Nat.le_refl _⟩
  | @step r' c x hf hc hl h0 ih =>
    intro ht
    have hlen := trInv_length ht
    obtain ⟨_, _, _, _, ht'⟩ := ht
    obtain ⟨h1, h2, h3, h4⟩ := ih ht'
    refine ⟨(ext_forced hr hc hl h0).trans h1, by simp [rest, h2], ?_, by simp; omega⟩
    have := mu_put (n := n) (r := r') (by simp at hlen; omega) x 0
    simp only [List.length_cons]
    omega

def NextPost (ls : List (List Int)) (w : World) (B b vb : Nat) (tv : Value) (n : Nat) (Lv : Value) (r : List (Int × Int)) (st : Int) (e : Ending) (w' : World) : Prop :=
  ∃ (r' : List (Int × Int)) (st' : Int) (d : Nat), (d : Int) + mu n r' ≤ mu n r ∧ Stepped st st' d ∧
    ((e = .returned (.bool true) ∧ At w w' B b vb tv n Lv r' st st' d ∧ ext n ls r ++ rest n ls r = modelL (valR r') n :: rest n ls r' ∧ r'.length = n ∧ r'.length ≤ r.length + d) ∨
     (e = .returned (.bool false) ∧ Chg (sblk b vb tv) w w' ∧ (∃ tv' val' tr', Srch w' B b vb tv' n Lv val' tr' st') ∧ ext n ls r ++ rest n ls r = []))

/-- The head of a search's loop. -/
def NextInv (ls : List (List Int)) (w : World) (B b vb : Nat) (tv : Value) (n : Nat) (Lv : Value) (r : List (Int × Int)) (st : Int) (r' : List (Int × Int)) (st' : Int) (tv' : Value) (d : Nat) (w' : World) : Prop :=
  At w w' B b vb tv n Lv r' st st' d ∧ Srch w' B b vb tv' n Lv (valR r') r'.reverse st' ∧ SameOrNew w.heap.size tv tv' ∧
    ext n ls r' ++ rest n ls r' = ext n ls r ++ rest n ls r ∧ d + mu n r' ≤ mu n r ∧ r'.length ≤ r.length + d

theorem SameOrNew.trans {w w1 : World} {S : Nat → Prop} {a b c : Value} (h : SameOrNew w.heap.size a b) (hc : Chg S w w1) (k : SameOrNew w1.heap.size b c) : SameOrNew w.heap.size a c := by
  rcases k with k | ⟨q, k, k'⟩
  · rcases h with h | ⟨q, h, h'⟩
    · exact .inl (k.trans h)
    · exact .inr ⟨q, k.trans h, h'⟩
  · exact .inr ⟨q, k, Nat.le_trans hc.size k'⟩

theorem all_set {n : Nat} {r : List (Int × Int)} (ht : TrInv n r) (hs : ∀ i, i < n → valR r (i + 1) ≠ 0) : r.length = n := by
  have h1 := trInv_length ht
  have h2 : ∀ i ∈ (List.range n).map (· + 1), i ∈ r.map fun p => p.1.natAbs := by
    intro i hi
    obtain ⟨j, hj, rfl⟩ := List.mem_map.1 hi
    have := hs j (by simpa using hj)
    exact mem_of_val this
  have h3 : ((List.range n).map (· + 1)).Nodup := List.Pairwise.map _ (fun a b h => by simpa using h) List.nodup_range
  have := nodup_le h3 h2
  simp at this
  omega
where
  mem_of_val : ∀ {r : List (Int × Int)} {i : Nat}, valR r i ≠ 0 → i ∈ r.map fun p => p.1.natAbs
    | [], i, h => by simp [valR] at h
    | p :: r, i, h => by
      by_cases e : i = p.1.natAbs
      · simp [e]
      · have : valR r i ≠ 0 := by
          have : valR (p :: r) i = valR r i := by show upd (valR r) p.1 i = _; unfold upd; rw [if_neg e]
          rwa [this] at h
        have := mem_of_val this
        simp only [List.map_cons, List.mem_cons]
        exact .inr this

theorem chg_next {w w1 w2 : World} {b vb : Nat} {tv tv1 : Value} (h : Chg (sblk b vb tv) w w1) (hfr : SameOrNew w.heap.size tv tv1) (hc : Chg (sblk b vb tv1) w1 w2) : Chg (sblk b vb tv) w w2 := by
  refine h.trans' hc ?_
  intro i hi' hx
  rcases hx with hx | hx | hx
  · exact .inl hx
  · exact .inr (.inl hx)
  · rcases hfr with hf | ⟨k, hk, hk'⟩
    · exact .inr (.inr (hf ▸ hx))
    · rw [hx] at hk; cases hk; omega

theorem backZ_length : ∀ {r : List (Int × Int)} {v v' : Nat → Int} {r' : List (Int × Int)} {y : Int}, backZ r v = some (v', r', y) → r'.length < r.length
  | [], _, _, _, _, h => by simp [backZ] at h
  | (x, how) :: r, v, v', r', y, h => by
    unfold backZ at h
    split at h
    · simp at h; rw [← h.2.1]; simp
    · have := backZ_length h; simp; omega

set_option maxHeartbeats 2000000 in
theorem next_any {w : World} {B b vb : Nat} {tv : Value} {n : Nat} {Lv : Value} {r : List (Int × Int)} {st : Int} {D : Nat → Prop} {ls : List (List Int)} (h : Srch w B b vb tv n Lv (valR r) r.reverse st)
    (hL : IntRows D w Lv ls) (hD : ∀ q, D q → q < w.heap.size ∧ ¬ sblk b vb tv q) (hf : RightL n ls) (ht : TrInv n r) :
    Calls Try.prog 36 #[.pointer (some ⟨b, 0, none⟩)] w fun e w' => NextPost ls w B b vb tv n Lv r st e w' := by
  have hsm := h.small
  have H0 := Lib.hid (And.intro h (And.intro hL (And.intro hD (And.intro hf ht))))
  clear h hL hD hf ht
  go_enter Try.func36, Try.ntmps36
  go_wp2
  go_loopg [2] (mu n r) (fun g _ wr => ∃ (r' : List (Int × Int)) (st' : Int) (tv' : Value) (d : Nat), Hid (g = mu n r' ∧ NextInv ls w B b vb tv n Lv r st r' st' tv' d wr))
  case atStart =>
    obtain ⟨h, hL, hD, hf, ht⟩ := H0.out
    exact ⟨r, st, tv, 0, rfl, ⟨⟨tv, h, .inl rfl⟩, Chg.refl _ _, ht, Stepped.refl st⟩, h, .inl rfl, rfl, by omega, by omega⟩
  case round =>
    obtain ⟨r', st', tv', d, HR⟩ := hrel
    have hsp : Calls Try.prog 40 #[.pointer (some ⟨b, 0, none⟩)] wr fun e w' => SpreadPost ls wr B b vb tv' n Lv r' st' e w' := by
      obtain ⟨h, hL, hD, hf, ht⟩ := H0.out
      obtain ⟨_, hat, hS, hfr, _⟩ := HR.out
      refine spread_any hS (hL.chg hat.chg (fun q hq => (hD q hq).2)) ?_ hf hat.inv
      intro q hq hx
      obtain ⟨h1, h2⟩ := hD q hq
      rcases hx with hx | hx | hx
      · exact h2 (.inl hx)
      · exact h2 (.inr (.inl hx))
      · rcases hfr with hf' | ⟨k, hk, hk'⟩
        · exact h2 (.inr (.inr (hf' ▸ hx)))
        · rw [hx] at hk; cases hk; omega
    have HSP := Lib.hid hsp
    clear hsp
    go_wp2_with fail
    refine HSP.out.mono ?_
    rintro e w1 ⟨r1, st1, hfo, hat1, hcase⟩
    obtain ⟨tv1, hS1, hn1⟩ := hat1.ex
    -- where the search stands now
    have HN : Hid (∃ d1 : Nat, NextInv ls w B b vb tv n Lv r st r1 st1 tv1 d1 w1 ∧ mu n r1 ≤ mu n r' ∧ ext n ls r1 = ext n ls r' ∧ rest n ls r1 = rest n ls r') := by
      obtain ⟨h, hL, hD, hf, ht⟩ := H0.out
      obtain ⟨_, hat, hS, hfr, heq, hmu, hlen⟩ := HR.out
      obtain ⟨k1, k2, k3, k4⟩ := forced_keep hf hfo hat1.inv
      have hst := hat.steps.trans hat1.steps
      refine ⟨d + (r1.length - r'.length), ⟨hat.next hfr hS1 hat1.chg hn1 hat1.inv ?_, hS1, hfr.trans hat.chg hn1, by rw [k1, k2, heq], by omega, by omega⟩, by omega, k1, k2⟩
      rw [show ((d + (r1.length - r'.length) : Nat) : Int) = (d : Int) + ((r1.length : Int) - r'.length) by omega]
      exact hst
    have HC := Lib.hid hcase
    have HA1 := Lib.hid (And.intro hat1 (And.intro hS1 hn1))
    clear hfo hat1 hcase hS1 hn1
    rcases HC.out with ⟨rfl, hall⟩ | ⟨rfl, c, hc, hcl⟩
    · have HAL := Lib.hid hall
      clear hall HC
      go_wp2_with fail
      refine (open_any HA1.out.2.1).mono ?_
      rintro e w' ⟨rfl, rfl⟩
      have hlo := openZ_lo (valR r1) n
      have hhi := openZ_hi (valR r1) n
      generalize ho : openZ (valR r1) n = o at hlo hhi
      have HO := Lib.hid ho
      clear ho
      by_cases h0 : o = 0
      · subst h0
        go_wp2
        go_ret
        obtain ⟨h, hL, hD, hf, ht⟩ := H0.out
        obtain ⟨d1, ⟨hat, hS, hfr, heq, hmu, hlen⟩, _, _, _⟩ := HN.out
        have hall := openZ_none HO.out
        refine ⟨r1, st1, d1, by omega, hat.steps, .inl ⟨rfl, hat, ?_, all_set hat.inv hall, hlen⟩⟩
        rw [← heq, ext_full hf hat.inv hall HAL.out]
        rfl
      · obtain ⟨v, rfl⟩ : ∃ v : Nat, o = (v : Int) := ⟨o.toNat, by omega⟩
        have hb0 : (((v : Nat) : Int) == 0) = false := by simpa using h0
        obtain ⟨hvn, hv0, hvs⟩ := openZ_some HO.out (by omega)
        have HV := Lib.hid (And.intro hv0 hvs)
        clear hv0 hvs
        have HR1 := Lib.hid (trInv_length HA1.out.1.inv)
        have HS1 := Lib.hid HA1.out.2.1.small
        go_wp2_with fail
        refine (put_any HA1.out.2.1 (-(v : Int)) 1 (by omega) (by omega) (by omega) (by have := HR1.out; have := HS1.out; simp; omega)).mono ?_
        rintro e w2 ⟨rfl, tv2, hS2, hc2, hn2⟩
        have HP := Lib.hid (And.intro hS2 (And.intro hc2 hn2))
        clear hS2 hc2 hn2
        go_wp2
        obtain ⟨h, hL, hD, hf, ht⟩ := H0.out
        obtain ⟨d1, ⟨hat, hS, hfr, heq, hmu, hlen⟩, k1, _, _⟩ := HN.out
        obtain ⟨hS2, hc2, hn2⟩ := HP.out
        obtain ⟨hti, hlt⟩ := trInv_room hat.inv (x := -(v : Int)) (by omega) (by omega) (by omega) (by rw [truthZ_val, Int.natAbs_neg, Int.natAbs_natCast, HV.out.1]; split <;> rfl) 1
        have hm := mu_put hlt (-(v : Int)) 1
        have e2 : ((-(v : Int), (1 : Int)) :: r1).reverse = r1.reverse ++ [(-(v : Int), 1)] := by simp
        go_roundg (mu n ((-(v : Int), 1) :: r1))
        case measure => have := HR.out.1; omega
        case rel =>
          refine ⟨(-(v : Int), 1) :: r1, wrap64 (st1 + 1), tv2, d1 + 1, rfl, ?_, by rw [e2]; exact hS2, hfr.trans hat.chg hn2, ?_, by omega, by simp; omega⟩
          · refine hat.next hfr (tv2 := tv2) ?_ hc2 hn2 hti ?_
            · rw [e2]; exact hS2
            · have := hat.steps.one; rw [show ((d1 + 1 : Nat) : Int) = (d1 : Int) + 1 by omega]; exact this
          · rw [← heq, ext_choose (ls := ls) (r := r1) (v := v) (by omega) hvn HV.out.2]
            simp [rest]
    · clear HC
      have HR1 := Lib.hid (trInv_length HA1.out.1.inv)
      have HS1 := Lib.hid HA1.out.2.1.small
      have hok : TrOk n r1.reverse := fun p hp => by
        obtain ⟨g1, g2⟩ := trInv_in HA1.out.1.inv p (by simpa using hp)
        exact ⟨g1, by omega, by omega⟩
      have HOK := Lib.hid hok
      clear hok
      go_wp2_with fail
      refine (back_any HA1.out.2.1 HOK.out (by have := HR1.out; have := HS1.out; simp; omega)).mono ?_
      rintro e w2 hbp
      unfold BackPost at hbp
      rw [List.reverse_reverse] at hbp
      rcases back_spec ls HA1.out.1.inv with ⟨b1, b2⟩ | ⟨rr, y, b1, b2, b3, b4, b5, b6, b7⟩
      · rw [b1] at hbp
        obtain ⟨rfl, tv2, val2, hS2, hc2, hn2⟩ := hbp
        have HP := Lib.hid (And.intro hS2 (And.intro hc2 (And.intro hn2 b2)))
        clear hS2 hc2 hn2 b1 b2
        go_wp2
        try rw [Exit.noGoto_ret]
        go_ret
        obtain ⟨h, hL, hD, hf, ht⟩ := H0.out
        obtain ⟨d1, ⟨hat, hS, hfr, heq, hmu, hlen⟩, _, _, _⟩ := HN.out
        obtain ⟨hS2, hc2, hn2, b2⟩ := HP.out
        refine ⟨r1, st1, d1, by omega, hat.steps, .inr ⟨rfl, chg_next hat.chg hfr hc2, ⟨tv2, val2, [], hS2⟩, ?_⟩⟩
        rw [← heq, ext_conflict hf hc hcl, b2]
        rfl
      · rw [b1] at hbp
        obtain ⟨rfl, tv2, hS2, hc2, hn2⟩ := hbp
        have hlen2 := backZ_length b1
        have HP := Lib.hid (And.intro hS2 (And.intro hc2 (And.intro hn2 (And.intro b2 (And.intro b5 (And.intro b6 (And.intro b7 hlen2)))))))
        clear hS2 hc2 hn2 b1 b2 b3 b4 b5 b6 b7 hlen2
        go_wp2
        obtain ⟨h, hL, hD, hf, ht⟩ := H0.out
        obtain ⟨d1, ⟨hat, hS, hfr, heq, hmu, hlen⟩, k1, _, _⟩ := HN.out
        obtain ⟨hS2, hc2, hn2, b2, b5, b6, b7, hlen2⟩ := HP.out
        have e2 : ((y, (2 : Int)) :: rr).reverse = rr.reverse ++ [(y, 2)] := by simp
        have hcp := cost_pos (n - r1.length)
        have hmm : mu n r1 = cost (n - r1.length) + pend n r1 := rfl
        go_roundg (mu n ((y, 2) :: rr))
        case measure => have := HR.out.1; omega
        case rel =>
          refine ⟨(y, 2) :: rr, wrap64 (st1 + 1), tv2, d1 + 1, rfl, ?_, by rw [e2]; exact hS2, hfr.trans hat.chg hn2, ?_, by omega, by simp; omega⟩
          · refine hat.next hfr (tv2 := tv2) ?_ hc2 hn2 b5 ?_
            · rw [e2]; exact hS2
            · have := hat.steps.one; rw [show ((d1 + 1 : Nat) : Int) = (d1 : Int) + 1 by omega]; exact this
          · rw [← heq, ext_conflict hf hc hcl, b6]
            simp [rest]
end Go.Proofs.Ytbeidiaejcbgoaa
