/- TokenBack comes to true. Conditions: none. -/
import Derived.Test.YtknonjnbeajooaaT15
namespace Go.Proofs.Ytknonjnbeajooaa
open Go Go.Ab
variable {ext : Sem'}
set_option maxHeartbeats 1000000 in
theorem law5_e (hx : TXJ ext) (s : List UInt8) (hs : s.length ≤ 9223372036854775807) : G ext 5 [.d (.str s)] [] = some (.ret (.d (.bool true)), []) := by
  rw [G_body hx.clear rfl Try.func5 rfl Try.results5 hv_5 rfl]
  by_cases hlen : (3000 : Int) < s.length
  · simp (config := { maxSteps := 4000000 }) (disch := first | (intros; contradiction) | omega) only [go_sem, alive_e hx.toTX, hlen]
  · have hr := scan_e hx.toTX s
    rcases eachL_shape s with hg | ⟨gs, d, he, hd, hg⟩
    · obtain ⟨h1, h2, h3, h4, h5⟩ := scan_again (by omega) hg
      rw [scanR_good hg] at hr
      have hl := eachF_len s (1, 1) (s.length + 1)
      have hl' : ((eachL s).map (·.1)).length ≤ 1048576 := by
        rw [List.length_map]
        unfold eachL
        rw [if_neg (by omega)]
        omega
      clear hl
      generalize (eachL s).map (·.1) = ts at hr h1 h2 h4 h5 hl'
      have hr2 := scan_e hx.toTX (textL ts)
      rw [scanR_good h1] at hr2
      have hr3 := scan_e hx.toTX (32 :: 10 :: 9 :: (s ++ tailE))
      rw [scanR_good h3] at hr3
      generalize (eachL (textL ts)).map (·.1) = ms at hr2 h2
      generalize (eachL (32 :: 10 :: 9 :: (s ++ tailE))).map (·.1) = ns at hr3 h4
      have hm := same_e hx.toTX ts ms (by omega)
      have hn := same_e hx.toTX ts ns (by omega)
      rw [h2] at hm
      rw [h4] at hn
      simp only [Dg.av, Dg.zero, tailE] at hr hr2 hr3
      have htx := text_e hx ts hl' (by omega)
      have hc1 : 3 + s.length ≤ 9223372036854775807 := by omega
      have hc2 : s.length ≤ 9223372036854775796 := by omega
      simp (config := { maxSteps := 4000000 }) (disch := first | (intros; contradiction) | omega) only [go_sem, alive_e hx.toTX, hlen, hr, hr2, hr3, htx, hm, hn, hc1, hc2, List.cons_append]
    · rw [he, scanR_bad hg hd] at hr
      simp only [Dg.av] at hr
      simp (config := { maxSteps := 4000000 }) (disch := first | (intros; contradiction) | omega) only [go_sem, alive_e hx.toTX, hlen, hr, hd, rowsT]
end Go.Proofs.Ytknonjnbeajooaa
