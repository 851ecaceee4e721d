/- the example; the tokens one by one. Conditions: none. -/
import Derived.Test.YtknonjnbeajooaaT11
namespace Go.Proofs.Ytknonjnbeajooaa
open Go Go.Ab
variable {ext : Sem'}
def exText : List UInt8 := [120, 45, 62, 121, 60, 61, 49, 48]
def exToks : List Tok := [⟨1, [120], 0, (1, 1)⟩, ⟨4, [45, 62], 0, (1, 2)⟩, ⟨1, [121], 0, (1, 4)⟩, ⟨4, [60, 61], 0, (1, 5)⟩, ⟨3, [49, 48], 10, (1, 7)⟩, ⟨5, [], 0, (1, 9)⟩]
theorem exEach : eachL exText = exToks.map fun t => (t, Dg.zero) := by kernel_rfl
theorem alive_e (hx : TX ext) : G ext 7 [] [] = some (.ret (.d (.bool true)), []) := by
  have h := scan_e hx exText
  rw [exEach, scanR_good (fun x hx => by obtain ⟨t, _, rfl⟩ := List.mem_map.1 hx; rfl)] at h
  simp only [rowsT, exToks, exText, List.map_cons, List.map_nil, Tok.row, Dg.av, Dg.zero] at h
  rw [G_body hx.clear rfl Try.func7 rfl Try.results7 hv_7 rfl]
  simp (config := { maxSteps := 4000000 }) (disch := first | (intros; contradiction) | omega) only [go_sem, h]
theorem eachL_split (s : List UInt8) : ∃ ts d, refR (eachL s) = (ts, d) ∧ (eachL s = ts.map (fun t => (t, Dg.zero)) ∧ d = Dg.zero ∨ eachL s = ts.map (fun t => (t, Dg.zero)) ++ [(Tok.zero, d)] ∧ d.what ≠ 0) := by
  have key : ∀ gs : List (Tok × Dg), (∀ x, x ∈ gs → x.2 = Dg.zero) → gs = (gs.map (·.1)).map fun t => (t, Dg.zero) := by
    intro gs h
    induction gs with
    | nil => rfl
    | cons x gs ih =>
      simp only [List.map_cons]
      rw [← ih (fun y hy => h y (by simp [hy]))]
      congr 1
      have := h x (by simp)
      obtain ⟨a, b⟩ := x
      simp only at this
      rw [this]
  rcases eachL_shape s with h | ⟨gs, d, h1, h2, h3⟩
  · exact ⟨(eachL s).map (·.1), Dg.zero, by rw [key _ h, refR_good]; simp [Function.comp_def], .inl ⟨key _ h, rfl⟩⟩
  · exact ⟨gs.map (·.1), d, by rw [h1, key gs h3, refR_bad _ h2]; simp [Function.comp_def], .inr ⟨by rw [← key gs h3]; exact h1, h2⟩⟩
set_option maxHeartbeats 8000000 in
theorem law3_e (hx : TX ext) (s : List UInt8) (stop : Int) (hs : s.length ≤ 9223372036854775807) : G ext 3 [.d (.str s), .d (.int .i64 stop)] [] = some (.ret (.d (.bool true)), []) := by
  rw [G_body hx.clear rfl Try.func3 rfl Try.results3 hv_3 rfl]
  by_cases hlen : (3000 : Int) < s.length
  · simp (config := { maxSteps := 4000000 }) (disch := first | (intros; contradiction) | omega) only [go_sem, alive_e hx, hlen]
  · have hr := rscan_e hx s (by omega)
    obtain ⟨h1, h2, h3⟩ := gen3 (Hs := [.cells [.d (.str s)]]) (eachI_plain (eachL s)) (fun o o' hl ho => each1_e hx s o o' hl ho)
    simp only [List.cons_append, List.nil_append] at h1 h2 h3
    obtain ⟨ts, e, hre, hsh⟩ := eachL_split s
    rw [hre] at hr
    simp only [Dg.av] at hr
    simp (config := { maxSteps := 4000000 }) (disch := first | (intros; contradiction) | omega) only [go_sem, alive_e hx, hlen, hr, each_e hx, h1]
    generalize hR : rfFold _ _ _ _ _ _ = R
    have hxl : (eachI (eachL s)).length = ts.length + (if e.what = 0 then 0 else 1) := by
      rw [eachI_len]
      rcases hsh with ⟨h1, rfl⟩ | ⟨h1, h2⟩ <;> rw [h1]
      · simp [Dg.zero]
      · simp [h2]
    have hb := eachL_len s
    have hrl : (rowsT ts).length = ts.length := by unfold rowsT; simp
    have hst := rfFold_stop hR (fun i => [.cells [.d (.int .i64 stop)], .cells [.d (.bool false)], .cells [.d (.sl (rowsT ts))], .cells [.d (.int .i64 e.stage), .d (.int .i64 e.what), .d (.int .i64 e.pos.1), .d (.int .i64 e.pos.2)], .cells [.d (.int .i64 i)], .cells [.d (.bool (decide (ts.length < i)))], .no]) (by simp) (fun i => (i : Int) + 1 = stop) (.exit 0)
      (fun i => [.cells [.d (.int .i64 stop)], .cells [.d (.bool false)], .cells [.d (.sl (rowsT ts))], .cells [.d (.int .i64 e.stage), .d (.int .i64 e.what), .d (.int .i64 e.pos.1), .d (.int .i64 e.pos.2)], .cells [.d (.int .i64 stop)], .cells [.d (.bool (decide (ts.length < i + 1)))], .no]) (fun i x next hx => by
      obtain ⟨t, d, hl, rfl⟩ := eachI_get hx
      have hi := (List.getElem?_eq_some_iff.1 hl).1
      have hq : ((i + 1 : Nat) : Int) = (i : Int) + 1 := by omega
      by_cases h5 : i < ts.length
      · have hget : ts[i]? = some t ∧ d = Dg.zero := by
          have : (ts.map (fun t => (t, Dg.zero)))[i]? = some (t, d) := by
            rcases hsh with ⟨h1, _⟩ | ⟨h1, _⟩
            · rw [← h1]; exact hl
            · rw [h1, List.getElem?_append_left (by simpa using h5)] at hl; exact hl
          rw [List.getElem?_map, List.getElem?_eq_getElem h5] at this
          cases this
          exact ⟨List.getElem?_eq_getElem h5, rfl⟩
        obtain ⟨hg, rfl⟩ := hget
        have ht : (rowsT ts)[i]? = some [.int .i64 t.kind, .str t.text, .int .i64 t.num, .int .i64 t.pos.1, .int .i64 t.pos.2] := by
          unfold rowsT; rw [List.getElem?_map, hg]; rfl
        have f1 : (i : Int) < ((rowsT ts).length : Int) := by omega
        have f2 : decide (ts.length < i) = false := by simp; omega
        have f3 : decide (ts.length < i + 1) = false := by simp; omega
        simp only [Tok.av, Dg.av, Dg.zero]
        by_cases hc : (i : Int) + 1 = stop
        · rw [if_pos hc]
          simp (config := { maxSteps := 4000000 }) (disch := first | (intros; contradiction) | omega) only [go_sem, f1, f2, f3, ht, hc, wrap64]
        · rw [if_neg hc]
          simp (config := { maxSteps := 4000000 }) (disch := first | (intros; contradiction) | omega) only [go_sem, f1, f2, f3, ht, hc, hq, wrap64]
      · rcases hsh with ⟨h1, _⟩ | ⟨h1, h2⟩
        · rw [h1] at hi; simp at hi; omega
        · have hii : i = ts.length := by rw [h1] at hi; simp at hi; omega
          rw [h1, List.getElem?_append_right (by simp; omega), hii] at hl
          simp at hl
          obtain ⟨rfl, rfl⟩ := hl
          have f1 : ¬ (i : Int) < ((rowsT ts).length : Int) := by omega
          have f4 : ¬ ((rowsT ts).length : Int) < (i : Int) := by omega
          have f2 : decide (ts.length < i) = false := by simp; omega
          have f3 : decide (ts.length < i + 1) = true := by simp; omega
          simp only [Tok.av, Dg.av, Tok.zero]
          by_cases hc : (i : Int) + 1 = stop
          · rw [if_pos hc]
            simp (config := { maxSteps := 4000000 }) (disch := first | (intros; contradiction) | omega) only [go_sem, f1, f2, f3, f4, h2, hc, wrap64]
          · rw [if_neg hc]
            simp (config := { maxSteps := 4000000 }) (disch := first | (intros; contradiction) | omega) only [go_sem, f1, f2, f3, f4, h2, hc, hq, wrap64])
    clear hR
    have htl : ts.length ≤ 1048577 := by rw [eachI_len] at hxl; omega
    rcases hst with ⟨rfl, hno⟩ | ⟨i, hi, hc, _, rfl⟩
    · rw [hxl] at h2 hno ⊢
      by_cases he : e.what = 0
      · rw [if_pos he] at h2 hno ⊢
        by_cases s1 : 0 < stop
        · have s2 : ¬ stop < (ts.length : Int) := fun h => hno (stop.toNat - 1) (by omega) (by omega)
          simp (config := { maxSteps := 4000000 }) (disch := first | (intros; contradiction) | omega) only [go_sem, alive_e hx, h2, he, s1, s2, hrl]
        · simp (config := { maxSteps := 4000000 }) (disch := first | (intros; contradiction) | omega) only [go_sem, alive_e hx, h2, he, s1, hrl]
      · rw [if_neg he] at h2 hno ⊢
        have hq : ((ts.length + 1 : Nat) : Int) = (ts.length : Int) + 1 := by omega
        by_cases s1 : 0 < stop
        · have s2 : ¬ stop < (ts.length : Int) + 1 := fun h => hno (stop.toNat - 1) (by omega) (by omega)
          simp (config := { maxSteps := 4000000 }) (disch := first | (intros; contradiction) | omega) only [go_sem, alive_e hx, h2, he, s1, s2, hrl, hq, wrap64]
        · simp (config := { maxSteps := 4000000 }) (disch := first | (intros; contradiction) | omega) only [go_sem, alive_e hx, h2, he, s1, hrl, hq, wrap64]
    · have h3 := h3 i hi
      rw [hxl] at hi
      have s1 : 0 < stop := by omega
      by_cases he : e.what = 0
      · rw [if_pos he] at hi
        by_cases s2 : stop < (ts.length : Int)
        · simp (config := { maxSteps := 4000000 }) (disch := first | (intros; contradiction) | omega) only [go_sem, alive_e hx, h3, he, s1, s2, hrl]
        · have s3 : (ts.length : Int) = stop := by omega
          simp (config := { maxSteps := 4000000 }) (disch := first | (intros; contradiction) | omega) only [go_sem, alive_e hx, h3, he, s1, Int.lt_irrefl, s3, hrl]
      · rw [if_neg he] at hi
        by_cases s2 : stop < (ts.length : Int) + 1
        · simp (config := { maxSteps := 4000000 }) (disch := first | (intros; contradiction) | omega) only [go_sem, alive_e hx, h3, he, s1, s2, hrl, wrap64]
        · have s3 : (ts.length : Int) + 1 = stop := by omega
          simp (config := { maxSteps := 4000000 }) (disch := first | (intros; contradiction) | omega) only [go_sem, alive_e hx, h3, he, s1, Int.lt_irrefl, s3, hrl, wrap64]
end Go.Proofs.Ytknonjnbeajooaa
