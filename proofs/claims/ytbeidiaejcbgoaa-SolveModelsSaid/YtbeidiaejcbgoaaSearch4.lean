/- solve: back walked. Conditions: a search object in memory. -/
import Derived.Test.YtbeidiaejcbgoaaSearch3
import Derived.WalkSmall
namespace Go.Proofs.Ytbeidiaejcbgoaa
open Go.RowKit

/-- The trail's lits. -/
def TrOk (n : Nat) (tr : List (Int × Int)) : Prop := ∀ p ∈ tr, p.1 ≠ 0 ∧ -(n : Int) ≤ p.1 ∧ p.1 ≤ n

theorem Srch.drew {w : World} {B b vb : Nat} {tv : Value} {n : Nat} {Lv : Value} {val : Nat → Int} {tr : List (Int × Int)} {st : Int} (h : Srch w B b vb tv n Lv val tr st) : Srch w.drew B b vb tv n Lv val tr st :=
  h.chg (S := fun _ => False) ((Chg.refl _ _).drew) (fun _ _ x => x)
theorem Srch.alloc {w : World} {B b vb : Nat} {tv : Value} {n : Nat} {Lv : Value} {val : Nat → Int} {tr : List (Int × Int)} {st : Int} (h : Srch w B b vb tv n Lv val tr st) (o : Obj) : Srch (w.alloc o) B b vb tv n Lv val tr st :=
  h.chg (S := fun _ => False) ((Chg.refl _ _).alloc _) (fun _ _ x => x)

theorem zero_three {val : Nat → Int} (h : lits3 val) (x : Int) : lits3 (zeroV val x) := by
  intro i; unfold zeroV; split
  · omega
  · exact h i

theorem pop_close {w : World} {B b vb g cap j : Nat} {n : Nat} {Lv : Value} {val : Nat → Int} {tr tr' : List (Int × Int)} {st : Int} (h : Srch w B b vb (.slice (some ⟨g, 0, none⟩) (j+1) cap) n Lv val tr st)
    {x how : Int} (htr : tr = tr' ++ [(x, how)]) (hj : tr'.length = j) (i : Nat) (hx : x.natAbs = i) (hi : i ≤ n) :
    Srch ((w.setCell ⟨b, 3, none⟩ (.slice (some ⟨g, 0, none⟩) j cap)).setCell ⟨vb, i, none⟩ (.int .i64 0)) B b vb (.slice (some ⟨g, 0, none⟩) j cap) n Lv (zeroV val x) tr' st ∧
    Chg (sblk b vb (.slice (some ⟨g, 0, none⟩) (j+1) cap)) w ((w.setCell ⟨b, 3, none⟩ (.slice (some ⟨g, 0, none⟩) j cap)).setCell ⟨vb, i, none⟩ (.int .i64 0)) := by
  obtain ⟨arr, ha, hv⟩ := h.vals
  have hgb := h.trail.lt g rfl
  have n1 : g ≠ b := by have := h.hb; omega
  have n2 : g ≠ vb := by have := h.hvb; omega
  have h1 := heap_setCell_at (o := 3) h.obj (.slice (some ⟨g, 0, none⟩) j cap)
  have k1 : (w.setCell ⟨b, 3, none⟩ (.slice (some ⟨g, 0, none⟩) j cap)).heap[vb]? = some (.cells arr 3 (0, 0)) := by
    rw [heap_setCell_ne (p := ⟨b, 3, none⟩) (Ne.symm h.ne)]; exact ha
  have k2 := heap_setCell_at (o := i) k1 (.int .i64 0)
  refine ⟨⟨h.ne, h.hb, h.hvb, ?_, ?_, ⟨_, k2, ?_⟩, ?_, h.small, zero_three h.three x⟩, ?_⟩
  · have := h.hB; simp [World.setCell]; omega
  · rw [heap_setCell_ne (p := ⟨vb, i, none⟩) h.ne, h1]; simp
  · intro m hm
    unfold zeroV
    rw [Array.getElem?_setIfInBounds]
    by_cases e : i = m
    · subst e
      rw [if_pos rfl, if_pos hx.symm, if_pos]
      exact (Array.getElem?_eq_some_iff.1 (hv i hi)).1
    · rw [if_neg e, if_neg (by omega)]
      exact hv m hm
  · have ho := h.trail
    subst htr
    rw [flat_snoc, List.length_append, List.length_singleton, hj] at ho
    have ho := ownsRow_pop (by rw [flat_length, hj]) ho
    obtain ⟨q1, q2⟩ := ho
    rw [hj]
    refine ⟨q1, ?_⟩
    rcases q2 with ⟨hv', _⟩ | ⟨g', cap', cur, hv', hgB, hh, r⟩
    · cases hv'
    · cases hv'
      refine .inr ⟨g, cap, cur, rfl, hgB, ?_, r⟩
      rw [heap_setCell_ne (p := ⟨vb, i, none⟩) n2, heap_setCell_ne (p := ⟨b, 3, none⟩) n1]
      exact hh
  · exact (((Chg.refl _ _).setCell (p := ⟨b, 3, none⟩) (fun _ => .inl rfl) _).setCell (p := ⟨vb, i, none⟩) (fun _ => .inr (.inl rfl)) _)

/-- What back leaves. -/
def BackPost (w : World) (B b vb : Nat) (tv : Value) (n : Nat) (Lv : Value) (val : Nat → Int) (tr : List (Int × Int)) (st : Int) (e : Ending) (w' : World) : Prop :=
  match backZ tr.reverse val with
  | some (val', r, y) => e = .returned (.bool true) ∧ ∃ tv', Srch w' B b vb tv' n Lv (upd val' y) (r.reverse ++ [(y, 2)]) (wrap64 (st + 1)) ∧ Chg (sblk b vb tv) w w' ∧ SameOrNew w.heap.size tv tv'
  | none => e = .returned (.bool false) ∧ ∃ tv' val', Srch w' B b vb tv' n Lv val' [] st ∧ Chg (sblk b vb tv) w w' ∧ SameOrNew w.heap.size tv tv'

theorem sblk_congr {b vb : Nat} {tv tv' : Value} (h : tv'.ownBlock = tv.ownBlock) : sblk b vb tv' = sblk b vb tv := by funext k; unfold sblk; rw [h]

set_option maxHeartbeats 1000000 in
theorem back_any {w : World} {B b vb : Nat} {tv : Value} {n : Nat} {Lv : Value} {val : Nat → Int} {tr : List (Int × Int)} {st : Int} (h : Srch w B b vb tv n Lv val tr st)
    (hok : TrOk n tr) (htr : tr.length ≤ 1000000000) :
    Calls Try.prog 38 #[.pointer (some ⟨b, 0, none⟩)] w fun e w' => BackPost w B b vb tv n Lv val tr st e w' := by
  have c3 := h.c3
  have htv : ∃ a cap, tv = .slice a tr.length cap := by
    rcases h.trail.2 with ⟨rfl, h0⟩ | ⟨g, cap, cur, rfl, _⟩
    · exact ⟨none, 0, by rw [h0]⟩
    · exact ⟨_, _, rfl⟩
  obtain ⟨a0, cap0, htv⟩ := htv
  subst htv
  go_enter Try.func38, Try.ntmps38
  go_wp2
  go_loopw [3, 4] (fun nn _ wr => ∃ (k : Nat) (tvk : Value) (valk : Nat → Int), k ≤ tr.length ∧ nn = .int .i64 ((k : Int) - 1) ∧
      Hid (Srch wr B b vb tvk n Lv valk (tr.take k) st ∧ tvk.ownBlock = (Value.slice a0 tr.length cap0).ownBlock ∧ Chg (sblk b vb (Value.slice a0 tr.length cap0)) w wr ∧ backZ (tr.take k).reverse valk = backZ tr.reverse val)) (fun nn _ _ => (intOf nn + 1).toNat)
  case atStart => exact ⟨tr.length, _, val, Nat.le_refl _, rfl, by rw [List.take_length]; exact h, rfl, Chg.refl _ _, by rw [List.take_length]⟩
  case round =>
    obtain ⟨k, tvk, valk, hk, rfl, HR⟩ := hrel
    cases k with
    | zero =>
      obtain ⟨hS, hob, hcg, hbk⟩ := HR.out
      have HF : Hid (BackPost w B b vb (Value.slice a0 tr.length cap0) n Lv val tr st (.returned (.bool false)) wr) := by
        show BackPost _ _ _ _ _ _ _ _ _ _ _ _
        unfold BackPost
        rw [← hbk]
        simp only [List.take_zero, List.reverse_nil, backZ]
        exact ⟨trivial, tvk, valk, hS, hcg, .inl hob⟩
      clear hS hob hcg hbk HR
      go_wp2
      go_ret
      exact HF.out
    | succ j =>
      obtain ⟨hS, hob, hcg, hbk⟩ := HR.out
      have hlen : (tr.take (j+1)).length = j + 1 := by simp; omega
      have hown := hS.trail
      rw [hlen] at hown
      obtain ⟨g, cap, rfl⟩ := ownsRow_shape hown (by omega)
      have htk : tr.take (j+1) = tr.take j ++ [tr[j]'(by omega)] := by rw [List.take_succ_eq_append_getElem]
      have hpo := hok (tr[j]'(by omega)) (List.getElem_mem _)
      rw [htk] at hown
      generalize tr[j]'(by omega) = p at htk hpo hown
      obtain ⟨x, how⟩ := p
      rw [flat_snoc] at hown
      have hfl : (flat (tr.take j)).length = j * 2 := by rw [flat_length]; simp; omega
      have hx := hown.cells (g := g) rfl (j * 2) (.int .i64 x) (by rw [List.getElem?_append_right (by omega)]; simp [hfl])
      have hhow := hown.cells (g := g) rfl (j * 2 + 1) (.int .i64 how) (by rw [List.getElem?_append_right (by omega)]; simp [hfl])
      have hx' : wr.cell? ⟨g, j * 2, none⟩ = some (.int .i64 x) := by rw [← hx]; congr 1; unfold Addr.add; split <;> simp_all
      have hhow' : wr.cell? ⟨g, j * 2 + 1, none⟩ = some (.int .i64 how) := by rw [← hhow]; congr 1; unfold Addr.add; split <;> simp_all
      have d2 := hS.c2
      have d3 := hS.c3
      have df := hS.f
      have hne := hS.ne
      have hsm := hS.small
      have hlb : b < wr.heap.size := by have := hS.hb; have := hS.hB; omega
      have hlv : vb < wr.heap.size := by have := hS.hvb; have := hS.hB; omega
      have hlg : g < wr.heap.size := (hown.lt g rfl).2
      have hcap : j + 1 ≤ cap := by
        rcases hown.2 with ⟨hv, _⟩ | ⟨_, _, _, hv, _, _, hh, _⟩
        · cases hv
        · cases hv; exact hh
      obtain ⟨hp0, hp1, hp2⟩ := hpo
      have HX := Lib.hid (And.intro hS (And.intro hob (And.intro hcg (And.intro hbk (And.intro hown (And.intro htk hfl))))))
      clear hS hob hcg hbk hown htk hfl hx hhow hlen h HR hok
      have hj : (tr.take j).length = j := by simp; omega
      have HJ := Lib.hid hj
      clear hj
      by_cases hneg : x < 0
      · obtain ⟨i, rfl⟩ : ∃ i : Nat, x = -(i : Int) := ⟨(-x).toNat, by omega⟩
        have hcv := HX.out.1.cv i (by omega)
        have hfv := HX.out.1.fv i
        have HP := Lib.hid (pop_close HX.out.1 HX.out.2.2.2.2.2.1 HJ.out i (by omega) (by omega))
        go_wp2
        go_region
        go_wp2_with fail
        · have hone : (how == 1) = true := by assumption
          have hone : how = 1 := by simpa using hone
          subst hone
          refine (put_any (HP.out.1.drew.alloc _) (i : Int) 2 (by omega) (by omega) (by omega) (by rw [HJ.out]; omega)).mono ?_
          rintro e w' ⟨rfl, tv', hS', hcg', hfr'⟩
          have HF : Hid (BackPost w B b vb (Value.slice a0 tr.length cap0) n Lv val tr st (.returned (.bool true)) w') := by
            obtain ⟨hS, hob, hcg, hbk, hown, htk, hfl⟩ := HX.out
            show BackPost _ _ _ _ _ _ _ _ _ _ _ _
            unfold BackPost
            rw [← hbk, htk]
            simp only [List.reverse_append, List.reverse_cons, List.reverse_nil, List.nil_append, List.cons_append, backZ, if_pos]
            have hc2 := (HP.out.2.drew.alloc (.cells #[.int .i64 (-(i : Int)), .int .i64 1] 79)).trans' hcg' (fun _ _ x => x)
            refine ⟨trivial, tv', by simpa using hS', hcg.trans' hc2 (fun q hq hx => by rw [sblk_congr hob] at hx; exact hx), ?_⟩
            rcases hfr' with h1 | ⟨q, h1, h2⟩
            · exact .inl (h1.trans hob)
            · exact .inr ⟨q, h1, by have := hcg.size; simp [World.setCell] at h2; omega⟩
          clear HX HP hS' hcg' hfr' HJ
          go_wp2
          go_ret
          exact HF.out
        · have hone : (how == 1) = false := by assumption
          go_roundw
          case rel =>
            obtain ⟨hS, hob, hcg, hbk, hown, htk, hfl⟩ := HX.out
            refine ⟨j, _, _, by omega, rfl, HP.out.1.drew.alloc _, hob, hcg.trans' (HP.out.2.drew.alloc _) (fun q hq hx => by rw [sblk_congr hob] at hx; exact hx), ?_⟩
            rw [← hbk, htk]
            simp only [List.reverse_append, List.reverse_cons, List.reverse_nil, List.nil_append, List.cons_append, backZ]
            rw [if_neg (by simpa using hone)]
          case measure => simp [intOf]
      · obtain ⟨i, rfl⟩ : ∃ i : Nat, x = (i : Int) := ⟨x.toNat, by omega⟩
        have hcv := HX.out.1.cv i (by omega)
        have hfv := HX.out.1.fv i
        have HP := Lib.hid (pop_close HX.out.1 HX.out.2.2.2.2.2.1 HJ.out i (by omega) (by omega))
        go_wp2
        go_region
        go_wp2_with fail
        · have hone : (how == 1) = true := by assumption
          have hone : how = 1 := by simpa using hone
          subst hone
          refine (put_any (HP.out.1.drew.alloc _) (-(i : Int)) 2 (by omega) (by omega) (by omega) (by rw [HJ.out]; omega)).mono ?_
          rintro e w' ⟨rfl, tv', hS', hcg', hfr'⟩
          have HF : Hid (BackPost w B b vb (Value.slice a0 tr.length cap0) n Lv val tr st (.returned (.bool true)) w') := by
            obtain ⟨hS, hob, hcg, hbk, hown, htk, hfl⟩ := HX.out
            show BackPost _ _ _ _ _ _ _ _ _ _ _ _
            unfold BackPost
            rw [← hbk, htk]
            simp only [List.reverse_append, List.reverse_cons, List.reverse_nil, List.nil_append, List.cons_append, backZ, if_pos]
            have hc2 := (HP.out.2.drew.alloc (.cells #[.int .i64 (i : Int), .int .i64 1] 79)).trans' hcg' (fun _ _ x => x)
            refine ⟨trivial, tv', by simpa using hS', hcg.trans' hc2 (fun q hq hx => by rw [sblk_congr hob] at hx; exact hx), ?_⟩
            rcases hfr' with h1 | ⟨q, h1, h2⟩
            · exact .inl (h1.trans hob)
            · exact .inr ⟨q, h1, by have := hcg.size; simp [World.setCell] at h2; omega⟩
          clear HX HP hS' hcg' hfr' HJ
          go_wp2
          go_ret
          exact HF.out
        · have hone : (how == 1) = false := by assumption
          go_roundw
          case rel =>
            obtain ⟨hS, hob, hcg, hbk, hown, htk, hfl⟩ := HX.out
            refine ⟨j, _, _, by omega, rfl, HP.out.1.drew.alloc _, hob, hcg.trans' (HP.out.2.drew.alloc _) (fun q hq hx => by rw [sblk_congr hob] at hx; exact hx), ?_⟩
            rw [← hbk, htk]
            simp only [List.reverse_append, List.reverse_cons, List.reverse_nil, List.nil_append, List.cons_append, backZ]
            rw [if_neg (by simpa using hone)]
          case measure => simp [intOf]

end Go.Proofs.Ytbeidiaejcbgoaa
