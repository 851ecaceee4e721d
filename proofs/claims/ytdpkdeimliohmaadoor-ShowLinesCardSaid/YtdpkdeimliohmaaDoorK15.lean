/- A program's lines, one by one. Conditions: none. -/
import Derived.Test.YtdpkdeimliohmaaDoorK12
import Derived.Test.YtdpkdeimliohmaaDoorK14
set_option linter.unusedSimpArgs false
set_option linter.unusedVariables false
namespace Go.Proofs.YtdpkdeimliohmaaDoor
open Go Go.Ab
variable {ext : Sem'}
/-- Where a text is cut. -/
def cutS (s : Str) (a b : Nat) : Str := (s.drop a).take (b - a)
theorem cut_next {s : Str} {a i : Nat} {c : UInt8} (h : s[i]? = some c) (ha : a ≤ i) : cutS s a (i + 1) = cutS s a i ++ [c] := by
  unfold cutS
  rw [show i + 1 - a = (i - a) + 1 by omega, List.take_add_one, List.getElem?_drop, show a + (i - a) = i by omega, h]
  rfl
theorem cut_same (s : Str) (a : Nat) : cutS s a a = [] := by unfold cutS; simp
theorem strR_map (l : List Str) : strR l = l.map fun x => [.str x] := rfl
theorem splitN_len : ∀ (l cur : Str), (splitN cur l).length ≤ l.length
  | [], _ => Nat.le_refl _
  | c :: l, cur => by
    simp only [splitN]
    split
    · have := splitN_len l []; simp only [List.length_cons]; omega
    · have := splitN_len l (cur ++ [c]); simp only [List.length_cons]; omega
set_option maxHeartbeats 4000000 in
theorem lines_e (hx : T3 ext) (s : Str) (hs : s.length ≤ 200000000) : G ext 14 [.d (.str s)] [] = some (.ret (.d (.sl (strR (splitN [] s)))), []) := by
  rw [G_body hx.clear rfl Tryd.func14 rfl Tryd.results14 hv_14 rfl]
  simp (maxSteps := 4000000) (disch := first | (intros; contradiction) | omega) only [go_sem]
  generalize hL : loopA _ _ _ = L
  apply loop_upd hL (by simp (maxSteps := 4000000) (disch := first | (intros; contradiction) | omega) only [go_sem] <;> rfl) (fun x : List Str × Nat × Nat => x.2.1 ≤ x.2.2 ∧ x.2.2 ≤ s.length ∧ x.1 ++ splitN (cutS s x.2.1 x.2.2) (s.drop x.2.2) = splitN [] s) (fun x => s.length - x.2.2) (fun x => [(3, .grow 1 x.1.length (strR x.1)), (4, .d (.int .i64 x.2.1)), (5, .d (.int .i64 x.2.2))]) (fun x => [(1, .grow x.1.length 1)]) ([], 0, 0) (by simp (maxSteps := 4000000) (disch := first | (intros; contradiction) | omega) only [go_sem] <;> rfl) ⟨Nat.le_refl _, Nat.zero_le _, by simp [cut_same]⟩ ?_
  clear hL
  rintro ⟨out, a, i⟩ ⟨h1, h2, h3⟩ next ih
  simp only at h1 h2 h3 ih ⊢
  by_cases hi : i < s.length
  · have hi' : ((i : Int) < (s.length : Int)) = True := eq_true (by omega)
    have hget : s[i]? = some s[i] := List.getElem?_eq_getElem hi
    have hd : s.drop i = s[i] :: s.drop (i + 1) := List.drop_eq_getElem_cons hi
    have hcn := cut_next hget h1
    have hwk : IntKind.wrap .i64 ((i : Int) + 1) = ((i + 1 : Nat) : Int) := by rw [wrap64 (by omega) (by omega)]; omega
    have hk0 : (0 : Int) ≤ (i : Int) := by omega
    have hk1 : (0 : Int) ≤ (a : Int) := by omega
    have hk2 : (a : Int) ≤ (i : Int) := by omega
    have hk3 : (i : Int) ≤ (s.length : Int) := by omega
    have hsub : ((i : Int).toNat - (a : Int).toNat) = i - a := by omega
    have hcut : (s.drop a).take (i - a) = cutS s a i := rfl
    rw [hd] at h3
    simp only [splitN] at h3
    have hol : out.length ≤ s.length := by
      have := splitN_len s []
      rw [← h3] at this
      simp only [List.length_append] at this
      omega
    have hrl : (strR out).length = out.length := strR_len out
    have hroom : ∀ b : Nat, b ≤ 1000 → room (out.length + 1) b := fun b hb => by
      unfold room
      have : max b 1 ≤ 1000 := by omega
      have := Nat.mul_le_mul (show out.length + 1 ≤ 200000001 by omega) this
      omega
    generalize hc : s[i] = c at *
    by_cases hn : c = 10
    · have hn' : ((c.toNat : Int) = 10) = True := eq_true (by rw [hn]; rfl)
      rw [if_pos hn] at h3
      have hsn := strR_snoc out (cutS s a i)
      simp (maxSteps := 4000000) (disch := first | (intros; contradiction) | omega) only [go_sem, hi', hk0, hget, hc, hn', hk1, hk2, hk3, hsub, hcut, hrl, hroom, hwk]
      exact ih (out ++ [cutS s a i], i + 1, i + 1) _ ⟨Nat.le_refl _, hi, by rw [cut_same, ← h3]; simp⟩ (by simp only; omega) (by simp (maxSteps := 4000000) (disch := first | (intros; contradiction) | omega) only [go_sem, hsn, List.length_append] <;> rfl)
    · have hn' : ¬ ((c.toNat : Int) = 10) := fun h => hn (by apply UInt8.toNat_inj.1; have : (10 : UInt8).toNat = 10 := rfl; omega)
      rw [if_neg hn, ← hcn] at h3
      simp (maxSteps := 4000000) (disch := first | (intros; contradiction) | omega) only [go_sem, hi', hk0, hget, hc, hn', hwk]
      exact ih (out, a, i + 1) _ ⟨by simp only; omega, hi, h3⟩ (by simp only; omega) (by simp (maxSteps := 4000000) (disch := first | (intros; contradiction) | omega) only [go_sem] <;> rfl)
  · have hi' : ¬ (i : Int) < (s.length : Int) := by omega
    have hie : i = s.length := by omega
    subst hie
    rw [List.drop_length] at h3
    simp only [splitN, List.append_nil] at h3
    simp (maxSteps := 4000000) (disch := first | (intros; contradiction) | omega) only [go_sem, hi', h3]
    done
theorem strR_get {l : List Str} {i : Nat} {x : Str} (h : l[i]? = some x) : (strR l)[i]? = some [.str x] := by unfold strR; rw [List.getElem?_map, h]; rfl
theorem lineV_get {l : List Str} {i : Nat} {x : List AV} (h : (lineV l)[i]? = some x) : ∃ y, l[i]? = some y ∧ x = [.d (.str y)] := by
  unfold lineV at h
  rw [List.getElem?_map] at h
  cases hl : l[i]? with
  | none => rw [hl] at h; cases h
  | some y => rw [hl] at h; cases h; exact ⟨y, rfl, rfl⟩
theorem lineV_len (l : List Str) : (lineV l).length = l.length := by simp [lineV]
theorem txtL_count : ∀ ls : List Str, ls.length ≤ (txtL ls).length
  | [] => Nat.le_refl _
  | x :: ls => by
    have := txtL_count ls
    have e : txtL (x :: ls) = x ++ 10 :: txtL ls := by simp [txtL]
    rw [e]
    simp only [List.length_append, List.length_cons]
    omega
set_option maxHeartbeats 8000000 in
theorem slines_e (hx : T3 ext) (s : Str) (stop : Int) : G ext 4 [.d (.str s), .d (.int .i64 stop)] [] = some (.ret (.d (.bool true)), []) := by
  have ha := alive3_e hx
  by_cases h : (3000 : Int) < (s.length : Int)
  · have h' := eq_true h
    rw [G_body hx.clear rfl Tryd.func4 rfl Tryd.results4 hv_4 rfl]
    simp (maxSteps := 4000000) (disch := first | (intros; contradiction) | omega) only [go_sem, h', ha]
    done
  obtain ⟨p, d, ht, hp⟩ := rtext_e hx.toT0 s (by omega)
  have h2 := dProg_e hx p hp
  have hli := sLines_e hx p
  have hroom : (txtL (linP p)).length ≤ 200000000 := by have := linP_len hp; have := hp.total; omega
  have hln := lines_e hx (txtL (linP p)) hroom
  rw [splitN_txt (nonl_P hp)] at hln
  have hcnt := txtL_count (linP p)
  obtain ⟨g1, g2, g3⟩ := gen3 (Γ := G ext) (Hs := [prO p]) (lineV_plain (linP p)) (fun o o' hl ho => slinG_e hx p hp o o' hl ho)
  simp only [List.cons_append, List.nil_append] at g1 g2 g3
  have hrl := strR_len (linP p)
  have hvl := lineV_len (linP p)
  unfold Pr0.av Dg.av prO at *
  generalize txtL (linP p) = tx at *
  generalize linP p = ls at *
  rw [G_body hx.clear rfl Tryd.func4 rfl Tryd.results4 hv_4 rfl]
  simp (maxSteps := 4000000) (disch := first | (intros; contradiction) | omega) only [go_sem, h, ha, ht, h2, hln, hli, g1]
  generalize hR : rfFold _ _ _ _ _ _ = R
  have hst := rfFold_stop hR (fun i => [.cells [.d (.int .i64 stop)], .cells [.d (.bool false)], .cells [.d (.sl (p.structs.map Sr0.row)), .d (.sl (p.funcs.map Fn0.row))], .cells [.d (.int .i64 d.stage), .d (.int .i64 d.what), .d (.int .i64 d.pos.1), .d (.int .i64 d.pos.2)], .cells [.d (.sl (strR ls))], .cells [.d (.int .i64 i)], .no]) rfl (fun i => (i : Int) + 1 = stop) (.exit 0) (fun i => [.cells [.d (.int .i64 stop)], .cells [.d (.bool false)], .cells [.d (.sl (p.structs.map Sr0.row)), .d (.sl (p.funcs.map Fn0.row))], .cells [.d (.int .i64 d.stage), .d (.int .i64 d.what), .d (.int .i64 d.pos.1), .d (.int .i64 d.pos.2)], .cells [.d (.sl (strR ls))], .cells [.d (.int .i64 stop)], .no]) (fun i x next hxi => by
    obtain ⟨y, hy, rfl⟩ := lineV_get hxi
    have hi := (List.getElem?_eq_some_iff.1 hy).1
    have hrow := strR_get hy
    have hq : IntKind.wrap .i64 ((i : Int) + 1) = (i : Int) + 1 := wrap64 (by omega) (by omega)
    have hq2 : ((i + 1 : Nat) : Int) = (i : Int) + 1 := by omega
    have f1 : ¬ ((strR ls).length : Int) ≤ (i : Int) := by omega
    have hk0 : (0 : Int) ≤ (i : Int) := by omega
    by_cases hc : (i : Int) + 1 = stop
    · rw [if_pos hc]
      have hws : IntKind.wrap .i64 stop = stop := wrap64 (by omega) (by omega)
      simp (maxSteps := 4000000) (disch := first | (intros; contradiction) | omega) only [go_sem, f1, hk0, hrow, hc, hws]
      done
    · rw [if_neg hc]
      simp (maxSteps := 4000000) (disch := first | (intros; contradiction) | omega) only [go_sem, f1, hk0, hrow, hq, hq2, hc]
      done)
  clear hR
  rcases hst with ⟨rfl, hno⟩ | ⟨i, hi, hc, _, rfl⟩
  · rw [hvl] at g2 hno ⊢
    by_cases s1 : 0 < stop
    · have s2 : ¬ stop < (ls.length : Int) := fun h => hno (stop.toNat - 1) (by omega) (by omega)
      simp (maxSteps := 4000000) (disch := first | (intros; contradiction) | omega) only [go_sem, ha, g2, s1, s2, hrl]
      done
    · simp (maxSteps := 4000000) (disch := first | (intros; contradiction) | omega) only [go_sem, ha, g2, s1, hrl]
      done
  · have g4 := g3 i hi
    rw [hvl] at hi
    have s1 : 0 < stop := by omega
    by_cases s2 : stop < (ls.length : Int)
    · simp (maxSteps := 4000000) (disch := first | (intros; contradiction) | omega) only [go_sem, ha, g4, s1, s2, hrl]
      done
    · have s3 : (ls.length : Int) = stop := by omega
      simp (maxSteps := 4000000) (disch := first | (intros; contradiction) | omega) only [go_sem, ha, g4, s1, Int.lt_irrefl, s3, hrl]
      done
end Go.Proofs.YtdpkdeimliohmaaDoor
