/- Law 4: as many structs and functions as there may be. Conditions: what is known of names.Check and the document's Check. -/
import Derived.Test.YthfollapianblaaN44
set_option linter.unusedSimpArgs false
set_option linter.unusedVariables false
namespace Go.Proofs.Ythfollapianblaa
open Go Go.Ab
variable {ext : Sem'}
theorem limP_ok (n m : Nat) (hn : n ≤ 35) (hm : m ≤ 70) : OkP (limP n m) := by
  refine ⟨by show (limSs n).length ≤ _; rw [limSs_len]; omega, by show (limFs m ++ [mainF]).length ≤ _; rw [List.length_append, limFs_len]; show m + 1 ≤ _; omega, ?_, ?_, ?_, ?_⟩
  · intro s hs
    obtain ⟨i, _, rfl⟩ := List.mem_map.1 (show s ∈ limSs n from hs)
    simp
  · intro f hf
    rcases List.mem_append.1 (show f ∈ limFs m ++ [mainF] from hf) with h | h
    · obtain ⟨i, _, rfl⟩ := List.mem_map.1 (show f ∈ limFs m from h)
      simp [zeroF]
    · simp only [List.mem_singleton] at h
      subst h
      simp [mainF, zeroF]
  · intro f hf
    rcases List.mem_append.1 (show f ∈ limFs m ++ [mainF] from hf) with h | h
    · obtain ⟨i, _, rfl⟩ := List.mem_map.1 (show f ∈ limFs m from h)
      exact Nat.le_of_ble_eq_true rfl
    · simp only [List.mem_singleton] at h
      subst h
      exact Nat.le_of_ble_eq_true rfl
  · intro f hf
    rcases List.mem_append.1 (show f ∈ limFs m ++ [mainF] from hf) with h | h
    · obtain ⟨i, _, rfl⟩ := List.mem_map.1 (show f ∈ limFs m from h)
      simp [zeroF, zeroB, okSs, okS, okEs, okE, arS, arity]
    · simp only [List.mem_singleton] at h
      subst h
      simp [mainF, zeroF, zeroB, okSs, okS, okEs, okE, arS, arity]
set_option maxHeartbeats 8000000 in
theorem limitsL_e (hx : T4 ext) (hr : RCk ext) (n m : Int) : G ext 5 [.d (.int .i64 n), .d (.int .i64 m)] [] = some (.ret (.d (.bool true)), []) := by
  have ha := alive4_e hx
  by_cases h1 : n < 0
  · rw [G_body hx.clear rfl Try.func5 rfl Try.results5 hv_5 rfl]
    simp (maxSteps := 4000000) (disch := first | (intros; contradiction) | omega) only [go_sem, h1, ha]
    done
  by_cases h2 : 35 < n
  · rw [G_body hx.clear rfl Try.func5 rfl Try.results5 hv_5 rfl]
    simp (maxSteps := 4000000) (disch := first | (intros; contradiction) | omega) only [go_sem, h1, h2, ha]
    done
  by_cases h3 : m < 0
  · rw [G_body hx.clear rfl Try.func5 rfl Try.results5 hv_5 rfl]
    simp (maxSteps := 4000000) (disch := first | (intros; contradiction) | omega) only [go_sem, h1, h2, h3, ha]
    done
  by_cases h4 : 70 < m
  · rw [G_body hx.clear rfl Try.func5 rfl Try.results5 hv_5 rfl]
    simp (maxSteps := 4000000) (disch := first | (intros; contradiction) | omega) only [go_sem, h1, h2, h3, h4, ha]
    done
  obtain ⟨n, rfl⟩ : ∃ k : Nat, n = (k : Int) := ⟨n.toNat, by omega⟩
  obtain ⟨m, rfl⟩ : ∃ k : Nat, m = (k : Int) := ⟨m.toNat, by omega⟩
  rw [G_body hx.clear rfl Try.func5 rfl Try.results5 hv_5 rfl]
  simp (maxSteps := 4000000) (disch := first | (intros; contradiction) | omega) only [go_sem, h1, h2, h3, h4]
  generalize hL : loopA _ _ _ = L
  apply loop_upd hL (by simp (maxSteps := 4000000) (disch := first | (intros; contradiction) | omega) only [go_sem] <;> rfl) (fun i : Nat => i ≤ n) (fun i => n - i) (fun i => [(6, .d (.int .i64 i))]) (fun i => [(0, .cells [.grow 1 i ((limSs i).map Sr0.row), .grow 2 0 []]), (1, .grow i 4)]) 0 (by simp (maxSteps := 4000000) (disch := first | (intros; contradiction) | omega) only [go_sem] <;> rfl) (Nat.zero_le _) ?_
  clear hL
  intro i hin next ih
  by_cases hi : i < n
  · have hlt : (i : Int) < (n : Int) := by omega
    have hw := G_ext (hx.word [115] i (by simp) (by omega))
    have hwi : IntKind.wrap .i64 ((i : Int) + 1) = ((i + 1 : Nat) : Int) := by rw [wrap64 (by omega) (by omega)]; omega
    have hsn : (limSs (i + 1)).map Sr0.row = (limSs i).map Sr0.row ++ [[.str (wrdP [115] i), .sl [], .int .i64 1, .int .i64 i]] := by rw [limSs_succ, List.map_append]; rfl
    have hrl : ((limSs i).map Sr0.row).length = i := by rw [List.length_map, limSs_len]
    have hroom : room (i + 1) 56 := by unfold room; simp; omega
    generalize (limSs i).map Sr0.row = rows at hsn hrl ⊢
    simp (maxSteps := 4000000) (disch := first | (intros; contradiction) | omega) only [go_sem, hlt, hw, hrl, hroom, hwi]
    exact ih (i + 1) _ (by omega) (by omega) (by simp (maxSteps := 4000000) (disch := first | (intros; contradiction) | omega) only [go_sem, hsn] <;> rfl)
  have hlt : ¬ (i : Int) < (n : Int) := by omega
  obtain rfl : i = n := by omega
  have hrl1 : ((limSs i).map Sr0.row).length = i := by rw [List.length_map, limSs_len]
  clear ih hi
  simp (maxSteps := 4000000) (disch := first | (intros; contradiction) | omega) only [go_sem, hlt]
  generalize hL : loopA _ _ _ = L
  generalize hrows1 : (limSs i).map Sr0.row = rows1 at hrl1 hL
  apply loop_upd hL (by simp (maxSteps := 4000000) (disch := first | (intros; contradiction) | omega) only [go_sem] <;> rfl) (fun j : Nat => j ≤ m) (fun j => m - j) (fun j => [(8, .d (.int .i64 j))]) (fun j => [(0, .cells [.grow 1 i rows1, .grow 2 j ((limFs j).map Fn0.row)]), (2, .grow j 7)]) 0 (by simp (maxSteps := 4000000) (disch := first | (intros; contradiction) | omega) only [go_sem] <;> rfl) (Nat.zero_le _) ?_
  clear hL
  intro j hjm next ih
  by_cases hj : j < m
  · have hlt : (j : Int) < (m : Int) := by omega
    have hw := G_ext (hx.word [102] j (by simp) (by omega))
    have hwj : IntKind.wrap .i64 ((j : Int) + 1) = ((j + 1 : Nat) : Int) := by rw [wrap64 (by omega) (by omega)]; omega
    have hsn : (limFs (j + 1)).map Fn0.row = (limFs j).map Fn0.row ++ [[.str (wrdP [102] j), .sl [], .bool false, .str [], .sl [[.int .i64 8, .bool false, .str [], .str [], .sl [[.int .i64 1, .int .i64 0, .str [], .str [], .sl [], .int .i64 0, .int .i64 0]], .sl [], .sl [], .int .i64 0, .int .i64 0]], .int .i64 2, .int .i64 j]] := by rw [limFs_succ, List.map_append]; rfl
    have hrl : ((limFs j).map Fn0.row).length = j := by rw [List.length_map, limFs_len]
    have hroom : room (j + 1) 104 := by unfold room; simp; omega
    generalize (limFs j).map Fn0.row = rows at hsn hrl ⊢
    simp (maxSteps := 4000000) (disch := first | (intros; contradiction) | omega) only [go_sem, hlt, hw, hrl, hroom, hwj]
    exact ih (j + 1) _ (by omega) (by omega) (by simp (maxSteps := 4000000) (disch := first | (intros; contradiction) | omega) only [go_sem, hsn] <;> rfl)
  have hlt : ¬ (j : Int) < (m : Int) := by omega
  obtain rfl : j = m := by omega
  have hrl : ((limFs j).map Fn0.row).length = j := by rw [List.length_map, limFs_len]
  have hroom : room (j + 1) 104 := by unfold room; simp; omega
  clear ih hj
  have hpav : (limP i j).av = .agg [.d (.sl rows1), .d (.sl ((limFs j).map Fn0.row ++ [[.str [109, 97, 105, 110], .sl [], .bool false, .str [], .sl [[.int .i64 8, .bool false, .str [], .str [], .sl [[.int .i64 1, .int .i64 0, .str [], .str [], .sl [], .int .i64 0, .int .i64 0]], .sl [], .sl [], .int .i64 0, .int .i64 0]], .int .i64 3, .int .i64 1]]))] := by
    unfold limP Pr0.av
    rw [← hrows1, List.map_append]
    rfl
  have hpo := limP_ok i j (by omega) (by omega)
  have hpc := limP_check i j (by omega) (by omega)
  have c1 := G_ext (hx.check _ hpo)
  have c2 := hr _ hpo
  rw [hpav] at c1 c2
  generalize dgOf (checkP (limP i j)) = c at hpc c1 c2
  generalize (limFs j).map Fn0.row = rows at hrl c1 c2 ⊢
  unfold Dg.av at *
  by_cases g1 : 30 < i
  · rw [if_pos (.inl g1)] at hpc
    have g1' : (30 : Int) < (i : Int) := by omega
    simp (maxSteps := 4000000) (disch := first | (intros; contradiction) | omega) only [go_sem, hlt, hrl, hroom, c1, c2, g1', hpc, ha]
    done
  · have g1' : ¬ (30 : Int) < (i : Int) := by omega
    have hwj : IntKind.wrap .i64 ((j : Int) + 1) = (j : Int) + 1 := wrap64 (by omega) (by omega)
    by_cases g2 : 60 < j + 1
    · rw [if_pos (.inr g2)] at hpc
      have g2' : (60 : Int) < (j : Int) + 1 := by omega
      simp (maxSteps := 4000000) (disch := first | (intros; contradiction) | omega) only [go_sem, hlt, hrl, hroom, c1, c2, g1', hwj, g2', hpc, ha]
      done
    · rw [if_neg (by omega)] at hpc
      have g2' : ¬ (60 : Int) < (j : Int) + 1 := by omega
      simp (maxSteps := 4000000) (disch := first | (intros; contradiction) | omega) only [go_sem, hlt, hrl, hroom, c1, c2, g1', hwj, g2', hpc, ha]
      done
end Go.Proofs.Ythfollapianblaa
