/- Law 7: signs. Conditions: none. -/
import Derived.Test.YtibkpedaplbbpaaGreatSgA
set_option linter.unusedSimpArgs false
set_option linter.unusedVariables false
namespace Go.Proofs.YtibkpedaplbbpaaGreat
open Go Go.Ab
variable {ext : Sem'}
def w3 (n : Int) : Int := IntKind.wrap .i64 (IntKind.wrap .i32 n)
def rw3 (n : Int) : Int :=
  if n.tmod 4294967296 < 0 then (if 2147483648 ≤ IntKind.wrap .i64 (n.tmod 4294967296 + 4294967296) then IntKind.wrap .i64 (IntKind.wrap .i64 (n.tmod 4294967296 + 4294967296) - 4294967296) else IntKind.wrap .i64 (n.tmod 4294967296 + 4294967296))
  else (if 2147483648 ≤ n.tmod 4294967296 then IntKind.wrap .i64 (n.tmod 4294967296 - 4294967296) else n.tmod 4294967296)
def tI (b : Bool) : Int := if b then 1 else 0
theorem wrap32_of (n : Int) : IntKind.wrap .i32 n = (n + 2147483648) % 4294967296 - 2147483648 := by
  simp only [IntKind.wrap, IntKind.bits, IntKind.signed]
  simp
  omega
theorem wrap64_of (n : Int) : IntKind.wrap .i64 n = (n + 9223372036854775808) % 18446744073709551616 - 9223372036854775808 := by
  simp only [IntKind.wrap, IntKind.bits, IntKind.signed]
  simp
  omega
theorem w3_rw3 (n : Int) : rw3 n = w3 n := by
  have h := Int.tmod_eq_emod (a := n) (b := 4294967296)
  unfold rw3 w3
  simp only [wrap64_of, wrap32_of]
  generalize n.tmod 4294967296 = m at h ⊢
  simp only [show Int.natAbs 4294967296 = 4294967296 from rfl] at h
  split at h <;> (repeat' split) <;> omega
def quotP (op : List UInt8) (a b : Int) : Int × Bool :=
  if b = 0 then (0, false) else if op = [47] then (w3 (IntKind.wrap .i64 (a.tdiv b)), true) else if op = [37] then (w3 (a.tmod b), true) else (0, false)
def signP (op : List UInt8) (a b : Int) : Int × Bool :=
  if op = [43] then (w3 (IntKind.wrap .i64 (a + b)), true) else
  if op = [45] then (w3 (IntKind.wrap .i64 (a - b)), true) else
  if op = [42] then (w3 (IntKind.wrap .i64 (a * b)), true) else
  if op = [60] then (tI (decide (a < b)), true) else
  if op = [60, 61] then (tI (decide (a ≤ b)), true) else
  if op = [62] then (tI (decide (b < a)), true) else
  if op = [62, 61] then (tI (decide (b ≤ a)), true) else
  if op = [61, 61] then (tI (decide (a = b)), true) else
  if op = [33, 61] then (tI (!decide (a = b)), true) else
  quotP op a b
def rsignP (op : List UInt8) (a b : Int) : Int × Bool :=
  if op = [43] then (rw3 (IntKind.wrap .i64 (a + b)), true) else
  if op = [45] then (rw3 (IntKind.wrap .i64 (a - b)), true) else
  if op = [42] then (rw3 (IntKind.wrap .i64 (a * b)), true) else
  if op = [47] then (if b = 0 then (0, false) else (rw3 (IntKind.wrap .i64 (a.tdiv b)), true)) else
  if op = [37] then (if b = 0 then (0, false) else (rw3 (a.tmod b), true)) else
  if op = [60] then (tI (decide (a < b)), true) else
  if op = [60, 61] then (tI (decide (a ≤ b)), true) else
  if op = [62] then (tI (decide (b < a)), true) else
  if op = [62, 61] then (tI (decide (b ≤ a)), true) else
  if op = [61, 61] then (tI (decide (a = b)), true) else
  if op = [33, 61] then (tI (!decide (a = b)), true) else
  (0, false)
def pairA (p : Int × Bool) : AV := .tuple [.d (.int .i64 p.1), .d (.bool p.2)]
theorem wrap_e (hx : TG ext) (n : Int) : G ext 7 [.d (.int .i64 n)] [] = some (.ret (.d (.int .i64 (w3 n))), []) := by
  unfold w3
  rw [G_body hx.clear rfl Tryz.func7 rfl Tryz.results7 hv_7 rfl]
  simp (maxSteps := 4000000) (disch := first | (intros; contradiction) | omega) only [go_sem]
  done
theorem truth_e (hx : TG ext) (b : Bool) : G ext 11 [.d (.bool b)] [] = some (.ret (.d (.int .i64 (tI b))), []) := by
  unfold tI
  rw [G_body hx.clear rfl Tryz.func11 rfl Tryz.results11 hv_11 rfl]
  cases b <;> simp (maxSteps := 4000000) (disch := first | (intros; contradiction) | omega) only [go_sem]
  done
theorem rtruth_e (hx : TG ext) (b : Bool) : G ext 13 [.d (.bool b)] [] = some (.ret (.tuple [.d (.int .i64 (tI b)), .d (.bool true)]), []) := by
  unfold tI
  rw [G_body hx.clear rfl Tryz.func13 rfl Tryz.results13 hv_13 rfl]
  cases b <;> simp (maxSteps := 4000000) (disch := first | (intros; contradiction) | omega) only [go_sem]
  done
theorem rwrap_e (hx : TG ext) (n : Int) : G ext 8 [.d (.int .i64 n)] [] = some (.ret (.d (.int .i64 (rw3 n))), []) := by
  unfold rw3
  rw [G_body hx.clear rfl Tryz.func8 rfl Tryz.results8 hv_8 rfl]
  by_cases h1 : n.tmod 4294967296 < 0
  · have h1 := eq_true h1
    simp (maxSteps := 4000000) (disch := first | (intros; contradiction) | omega) only [go_sem, h1]
    by_cases h2 : 2147483648 ≤ IntKind.wrap .i64 (n.tmod 4294967296 + 4294967296)
    · have h2 := eq_true h2
      simp (maxSteps := 4000000) (disch := first | (intros; contradiction) | omega) only [go_sem, h1, h2]
      done
    · simp (maxSteps := 4000000) (disch := first | (intros; contradiction) | omega) only [go_sem, h1, h2]
      done
  · simp (maxSteps := 4000000) (disch := first | (intros; contradiction) | omega) only [go_sem, h1]
    by_cases h2 : 2147483648 ≤ n.tmod 4294967296
    · have h2 := eq_true h2
      simp (maxSteps := 4000000) (disch := first | (intros; contradiction) | omega) only [go_sem, h1, h2]
      done
    · simp (maxSteps := 4000000) (disch := first | (intros; contradiction) | omega) only [go_sem, h1, h2]
      done
theorem quot_e (hx : TG ext) (op : List UInt8) (a b : Int) : G ext 12 [.d (.str op), .d (.int .i64 a), .d (.int .i64 b)] [] = some (.ret (pairA (quotP op a b)), []) := by
  unfold pairA quotP
  rw [G_body hx.clear rfl Tryz.func12 rfl Tryz.results12 hv_12 rfl]
  by_cases hb : b = 0
  · have hb := eq_true hb
    simp (maxSteps := 4000000) (disch := first | (intros; contradiction) | omega) only [go_sem, hb]
    done
  · by_cases h1 : op = [47]
    · have h1 := eq_true h1
      simp (maxSteps := 4000000) (disch := first | (intros; contradiction) | omega) only [go_sem, hb, h1, wrap_e hx]
      done
    · by_cases h2 : op = [37]
      · have h2 := eq_true h2
        simp (maxSteps := 4000000) (disch := first | (intros; contradiction) | omega) only [go_sem, hb, h1, h2, wrap_e hx]
        done
      · simp (maxSteps := 4000000) (disch := first | (intros; contradiction) | omega) only [go_sem, hb, h1, h2]
        done
set_option maxHeartbeats 4000000 in
theorem sign_e (hx : TG ext) (op : List UInt8) (a b : Int) : G ext 5 [.d (.str op), .d (.int .i64 a), .d (.int .i64 b)] [] = some (.ret (pairA (signP op a b)), []) := by
  unfold pairA signP
  rw [G_body hx.clear rfl Tryz.func5 rfl Tryz.results5 hv_5 rfl]
  by_cases h0 : op = [43]
  · have h0 := eq_true h0
    simp (maxSteps := 4000000) (disch := first | (intros; contradiction) | omega) only [go_sem, h0, wrap_e hx, truth_e hx]
    done
  · skip
    by_cases h1 : op = [45]
    · have h1 := eq_true h1
      simp (maxSteps := 4000000) (disch := first | (intros; contradiction) | omega) only [go_sem, h0, h1, wrap_e hx, truth_e hx]
      done
    · skip
      by_cases h2 : op = [42]
      · have h2 := eq_true h2
        simp (maxSteps := 4000000) (disch := first | (intros; contradiction) | omega) only [go_sem, h0, h1, h2, wrap_e hx, truth_e hx]
        done
      · skip
        by_cases h3 : op = [60]
        · have h3 := eq_true h3
          simp (maxSteps := 4000000) (disch := first | (intros; contradiction) | omega) only [go_sem, h0, h1, h2, h3, wrap_e hx, truth_e hx]
          done
        · skip
          by_cases h4 : op = [60, 61]
          · have h4 := eq_true h4
            simp (maxSteps := 4000000) (disch := first | (intros; contradiction) | omega) only [go_sem, h0, h1, h2, h3, h4, wrap_e hx, truth_e hx]
            done
          · skip
            by_cases h5 : op = [62]
            · have h5 := eq_true h5
              simp (maxSteps := 4000000) (disch := first | (intros; contradiction) | omega) only [go_sem, h0, h1, h2, h3, h4, h5, wrap_e hx, truth_e hx]
              done
            · skip
              by_cases h6 : op = [62, 61]
              · have h6 := eq_true h6
                simp (maxSteps := 4000000) (disch := first | (intros; contradiction) | omega) only [go_sem, h0, h1, h2, h3, h4, h5, h6, wrap_e hx, truth_e hx]
                done
              · skip
                by_cases h7 : op = [61, 61]
                · have h7 := eq_true h7
                  simp (maxSteps := 4000000) (disch := first | (intros; contradiction) | omega) only [go_sem, h0, h1, h2, h3, h4, h5, h6, h7, wrap_e hx, truth_e hx]
                  done
                · skip
                  by_cases h8 : op = [33, 61]
                  · have h8 := eq_true h8
                    simp (maxSteps := 4000000) (disch := first | (intros; contradiction) | omega) only [go_sem, h0, h1, h2, h3, h4, h5, h6, h7, h8, wrap_e hx, truth_e hx]
                    done
                  · skip
                    have hq := quot_e hx op a b
                    unfold pairA at hq
                    simp (maxSteps := 4000000) (disch := first | (intros; contradiction) | omega) only [go_sem, h0, h1, h2, h3, h4, h5, h6, h7, h8, hq]
                    done
set_option maxHeartbeats 4000000 in
theorem rsign_e (hx : TG ext) (op : List UInt8) (a b : Int) : G ext 6 [.d (.str op), .d (.int .i64 a), .d (.int .i64 b)] [] = some (.ret (pairA (rsignP op a b)), []) := by
  unfold pairA rsignP
  rw [G_body hx.clear rfl Tryz.func6 rfl Tryz.results6 hv_6 rfl]
  by_cases h0 : op = [43]
  · have h0 := eq_true h0
    simp (maxSteps := 4000000) (disch := first | (intros; contradiction) | omega) only [go_sem, h0, rwrap_e hx, rtruth_e hx]
    done
  · skip
    by_cases h1 : op = [45]
    · have h1 := eq_true h1
      simp (maxSteps := 4000000) (disch := first | (intros; contradiction) | omega) only [go_sem, h0, h1, rwrap_e hx, rtruth_e hx]
      done
    · skip
      by_cases h2 : op = [42]
      · have h2 := eq_true h2
        simp (maxSteps := 4000000) (disch := first | (intros; contradiction) | omega) only [go_sem, h0, h1, h2, rwrap_e hx, rtruth_e hx]
        done
      · skip
        by_cases h3 : op = [47]
        · have h3 := eq_true h3
          by_cases hb : b = 0
          · have hb := eq_true hb
            simp (maxSteps := 4000000) (disch := first | (intros; contradiction) | omega) only [go_sem, h0, h1, h2, h3, hb]
            done
          · simp (maxSteps := 4000000) (disch := first | (intros; contradiction) | omega) only [go_sem, h0, h1, h2, h3, hb, rwrap_e hx]
            done
        · skip
          by_cases h4 : op = [37]
          · have h4 := eq_true h4
            by_cases hb : b = 0
            · have hb := eq_true hb
              simp (maxSteps := 4000000) (disch := first | (intros; contradiction) | omega) only [go_sem, h0, h1, h2, h3, h4, hb]
              done
            · simp (maxSteps := 4000000) (disch := first | (intros; contradiction) | omega) only [go_sem, h0, h1, h2, h3, h4, hb, rwrap_e hx]
              done
          · skip
            by_cases h5 : op = [60]
            · have h5 := eq_true h5
              simp (maxSteps := 4000000) (disch := first | (intros; contradiction) | omega) only [go_sem, h0, h1, h2, h3, h4, h5, rwrap_e hx, rtruth_e hx]
              done
            · skip
              by_cases h6 : op = [60, 61]
              · have h6 := eq_true h6
                simp (maxSteps := 4000000) (disch := first | (intros; contradiction) | omega) only [go_sem, h0, h1, h2, h3, h4, h5, h6, rwrap_e hx, rtruth_e hx]
                done
              · skip
                by_cases h7 : op = [62]
                · have h7 := eq_true h7
                  simp (maxSteps := 4000000) (disch := first | (intros; contradiction) | omega) only [go_sem, h0, h1, h2, h3, h4, h5, h6, h7, rwrap_e hx, rtruth_e hx]
                  done
                · skip
                  by_cases h8 : op = [62, 61]
                  · have h8 := eq_true h8
                    simp (maxSteps := 4000000) (disch := first | (intros; contradiction) | omega) only [go_sem, h0, h1, h2, h3, h4, h5, h6, h7, h8, rwrap_e hx, rtruth_e hx]
                    done
                  · skip
                    by_cases h9 : op = [61, 61]
                    · have h9 := eq_true h9
                      simp (maxSteps := 4000000) (disch := first | (intros; contradiction) | omega) only [go_sem, h0, h1, h2, h3, h4, h5, h6, h7, h8, h9, rwrap_e hx, rtruth_e hx]
                      done
                    · skip
                      by_cases h10 : op = [33, 61]
                      · have h10 := eq_true h10
                        simp (maxSteps := 4000000) (disch := first | (intros; contradiction) | omega) only [go_sem, h0, h1, h2, h3, h4, h5, h6, h7, h8, h9, h10, rwrap_e hx, rtruth_e hx]
                        done
                      · skip
                        simp (maxSteps := 4000000) (disch := first | (intros; contradiction) | omega) only [go_sem, h0, h1, h2, h3, h4, h5, h6, h7, h8, h9, h10]
                        done
theorem rsign_sign (op : List UInt8) (a b : Int) : rsignP op a b = signP op a b := by
  unfold rsignP signP quotP
  simp only [w3_rw3]
  by_cases h1 : op = [47]
  · subst h1
    by_cases hb : b = 0 <;> simp [hb]
  · by_cases h2 : op = [37]
    · subst h2
      by_cases hb : b = 0 <;> simp [hb]
    · by_cases hb : b = 0 <;> simp [hb, h1, h2]
set_option maxHeartbeats 4000000 in
theorem signs_e (hx : TG ext) (op : List UInt8) (a b n : Int) : G ext 3 [.d (.str op), .d (.int .i64 a), .d (.int .i64 b), .d (.int .i64 n)] [] = some (.ret (.d (.bool true)), []) := by
  have ha := alive_e hx
  have h1 := sign_e hx op a b
  have h2 := rsign_e hx op a b
  have h3 := wrap_e hx n
  have h4 := rwrap_e hx n
  rw [rsign_sign] at h2
  rw [w3_rw3] at h4
  generalize signP op a b = p at h1 h2
  obtain ⟨x, y⟩ := p
  unfold pairA at h1 h2
  generalize w3 n = z at h3 h4
  rw [G_body hx.clear rfl Tryz.func3 rfl Tryz.results3 hv_3 rfl]
  by_cases q1 : (9 : Int) < (op.length : Int)
  · have q1 := eq_true q1
    simp (maxSteps := 4000000) (disch := first | (intros; contradiction) | omega) only [go_sem, q1, ha]
    done
  by_cases q2 : a < -2147483648
  · have q2 := eq_true q2
    simp (maxSteps := 4000000) (disch := first | (intros; contradiction) | omega) only [go_sem, q1, q2, ha]
    done
  by_cases q3 : 2147483648 ≤ a
  · have q3 := eq_true q3
    simp (maxSteps := 4000000) (disch := first | (intros; contradiction) | omega) only [go_sem, q1, q2, q3, ha]
    done
  by_cases q4 : b < -2147483648
  · have q4 := eq_true q4
    simp (maxSteps := 4000000) (disch := first | (intros; contradiction) | omega) only [go_sem, q1, q2, q3, q4, ha]
    done
  by_cases q5 : 2147483648 ≤ b
  · have q5 := eq_true q5
    simp (maxSteps := 4000000) (disch := first | (intros; contradiction) | omega) only [go_sem, q1, q2, q3, q4, q5, ha]
    done
  simp (maxSteps := 4000000) (disch := first | (intros; contradiction) | omega) only [go_sem, q1, q2, q3, q4, q5, ha, h1, h2, h3, h4]
  done
end Go.Proofs.YtibkpedaplbbpaaGreat
