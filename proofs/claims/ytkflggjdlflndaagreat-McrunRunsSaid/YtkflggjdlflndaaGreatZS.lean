/- Signs of numbers. Conditions: none. -/
import Derived.Test.YtkflggjdlflndaaGreatZ12
set_option linter.unusedSimpArgs false
set_option linter.unusedVariables false
namespace Go.Proofs.YtkflggjdlflndaaGreat
open Go Go.Ab
variable {ext:Sem'}
def w3 (n:Int):Int:=IntKind.wrap .i64 (IntKind.wrap .i32 n)
def rw3 (n:Int):Int:=
 if n.tmod 4294967296 < 0 then (if 2147483648 ≤ IntKind.wrap .i64 (n.tmod 4294967296 + 4294967296) then IntKind.wrap .i64 (IntKind.wrap .i64 (n.tmod 4294967296 + 4294967296) - 4294967296) else IntKind.wrap .i64 (n.tmod 4294967296 + 4294967296))
 else (if 2147483648 ≤ n.tmod 4294967296 then IntKind.wrap .i64 (n.tmod 4294967296 - 4294967296) else n.tmod 4294967296)
def tI (b:Bool):Int:=if b then 1 else 0
theorem wrap32_of (n:Int):IntKind.wrap .i32 n = (n + 2147483648) % 4294967296 - 2147483648:=by
 simp only [IntKind.wrap,IntKind.bits,IntKind.signed]
 simp
 omega
theorem wrap64_of (n:Int):IntKind.wrap .i64 n = (n + 9223372036854775808) % 18446744073709551616 - 9223372036854775808:=by
 simp only [IntKind.wrap,IntKind.bits,IntKind.signed]
 simp
 omega
theorem w3_rw3 (n:Int):rw3 n = w3 n:=by
 have h:=Int.tmod_eq_emod (a:=n) (b:=4294967296)
 unfold rw3 w3
 simp only [wrap64_of,wrap32_of]
 generalize n.tmod 4294967296 = m at h ⊢
 simp only [show Int.natAbs 4294967296 = 4294967296 from rfl] at h
 split at h <;> (repeat' split) <;> omega
def quotP (op:List UInt8) (a b:Int):Int × Bool:=
 if b = 0 then (0,false) else if op = [47] then (w3 (IntKind.wrap .i64 (a.tdiv b)),true) else if op = [37] then (w3 (a.tmod b),true) else (0,false)
def signP (op:List UInt8) (a b:Int):Int × Bool:=
 if op = [43] then (w3 (IntKind.wrap .i64 (a + b)),true) else
 if op = [45] then (w3 (IntKind.wrap .i64 (a - b)),true) else
 if op = [42] then (w3 (IntKind.wrap .i64 (a * b)),true) else
 if op = [60] then (tI (decide (a < b)),true) else
 if op = [60,61] then (tI (decide (a ≤ b)),true) else
 if op = [62] then (tI (decide (b < a)),true) else
 if op = [62,61] then (tI (decide (b ≤ a)),true) else
 if op = [61,61] then (tI (decide (a = b)),true) else
 if op = [33,61] then (tI (!decide (a = b)),true) else
 quotP op a b
def rsignP (op:List UInt8) (a b:Int):Int × Bool:=
 if op = [43] then (rw3 (IntKind.wrap .i64 (a + b)),true) else
 if op = [45] then (rw3 (IntKind.wrap .i64 (a - b)),true) else
 if op = [42] then (rw3 (IntKind.wrap .i64 (a * b)),true) else
 if op = [47] then (if b = 0 then (0,false) else (rw3 (IntKind.wrap .i64 (a.tdiv b)),true)) else
 if op = [37] then (if b = 0 then (0,false) else (rw3 (a.tmod b),true)) else
 if op = [60] then (tI (decide (a < b)),true) else
 if op = [60,61] then (tI (decide (a ≤ b)),true) else
 if op = [62] then (tI (decide (b < a)),true) else
 if op = [62,61] then (tI (decide (b ≤ a)),true) else
 if op = [61,61] then (tI (decide (a = b)),true) else
 if op = [33,61] then (tI (!decide (a = b)),true) else
 (0,false)
def pairA (p:Int × Bool):AV:=.tuple [.d (.int .i64 p.1),.d (.bool p.2)]
theorem wrap_e (hx:TX ext) (n:Int):G ext 49 [.d (.int .i64 n)] [] = some (.ret (.d (.int .i64 (w3 n))),[]):=by
 unfold w3
 rw [G_body hx.clear rfl Tryz.func49 rfl Tryz.results49 hv_49 rfl]
 simp (maxSteps:=4000000) (disch:=first | (intros; contradiction) | omega) only [go_sem]
 done
theorem truth_e (hx:TX ext) (b:Bool):G ext 52 [.d (.bool b)] [] = some (.ret (.d (.int .i64 (tI b))),[]):=by
 unfold tI
 rw [G_body hx.clear rfl Tryz.func52 rfl Tryz.results52 hv_52 rfl]
 cases b <;> simp (maxSteps:=4000000) (disch:=first | (intros; contradiction) | omega) only [go_sem]
 done
theorem rtruth_e (hx:TX ext) (b:Bool):G ext 70 [.d (.bool b)] [] = some (.ret (.tuple [.d (.int .i64 (tI b)),.d (.bool true)]),[]):=by
 unfold tI
 rw [G_body hx.clear rfl Tryz.func70 rfl Tryz.results70 hv_70 rfl]
 cases b <;> simp (maxSteps:=4000000) (disch:=first | (intros; contradiction) | omega) only [go_sem]
 done
theorem rwrap_e (hx:TX ext) (n:Int):G ext 64 [.d (.int .i64 n)] [] = some (.ret (.d (.int .i64 (rw3 n))),[]):=by
 unfold rw3
 rw [G_body hx.clear rfl Tryz.func64 rfl Tryz.results64 hv_64 rfl]
 by_cases h1:n.tmod 4294967296 < 0
 ·have h1:=eq_true h1
  simp (maxSteps:=4000000) (disch:=first | (intros; contradiction) | omega) only [go_sem,h1]
  by_cases h2:2147483648 ≤ IntKind.wrap .i64 (n.tmod 4294967296 + 4294967296)
  ·have h2:=eq_true h2
   simp (maxSteps:=4000000) (disch:=first | (intros; contradiction) | omega) only [go_sem,h1,h2]
   done
  ·simp (maxSteps:=4000000) (disch:=first | (intros; contradiction) | omega) only [go_sem,h1,h2]
   done
 ·simp (maxSteps:=4000000) (disch:=first | (intros; contradiction) | omega) only [go_sem,h1]
  by_cases h2:2147483648 ≤ n.tmod 4294967296
  ·have h2:=eq_true h2
   simp (maxSteps:=4000000) (disch:=first | (intros; contradiction) | omega) only [go_sem,h1,h2]
   done
  ·simp (maxSteps:=4000000) (disch:=first | (intros; contradiction) | omega) only [go_sem,h1,h2]
   done
theorem quot_e (hx:TX ext) (op:List UInt8) (a b:Int):G ext 90 [.d (.str op),.d (.int .i64 a),.d (.int .i64 b)] [] = some (.ret (pairA (quotP op a b)),[]):=by
 unfold pairA quotP
 rw [G_body hx.clear rfl Tryz.func90 rfl Tryz.results90 hv_90 rfl]
 by_cases hb:b = 0
 ·have hb:=eq_true hb
  simp (maxSteps:=4000000) (disch:=first | (intros; contradiction) | omega) only [go_sem,hb]
  done
 ·by_cases h1:op = [47]
  ·have h1:=eq_true h1
   simp (maxSteps:=4000000) (disch:=first | (intros; contradiction) | omega) only [go_sem,hb,h1,wrap_e hx]
   done
  ·by_cases h2:op = [37]
   ·have h2:=eq_true h2
    simp (maxSteps:=4000000) (disch:=first | (intros; contradiction) | omega) only [go_sem,hb,h1,h2,wrap_e hx]
    done
   ·simp (maxSteps:=4000000) (disch:=first | (intros; contradiction) | omega) only [go_sem,hb,h1,h2]
    done
set_option maxHeartbeats 4000000 in
theorem sign_e (hx:TX ext) (op:List UInt8) (a b:Int):G ext 50 [.d (.str op),.d (.int .i64 a),.d (.int .i64 b)] [] = some (.ret (pairA (signP op a b)),[]):=by
 unfold pairA signP
 rw [G_body hx.clear rfl Tryz.func50 rfl Tryz.results50 hv_50 rfl]
 by_cases h0:op = [43]
 ·have h0:=eq_true h0
  simp (maxSteps:=4000000) (disch:=first | (intros; contradiction) | omega) only [go_sem,h0,wrap_e hx,truth_e hx]
  done
 ·skip
  by_cases h1:op = [45]
  ·have h1:=eq_true h1
   simp (maxSteps:=4000000) (disch:=first | (intros; contradiction) | omega) only [go_sem,h0,h1,wrap_e hx,truth_e hx]
   done
  ·skip
   by_cases h2:op = [42]
   ·have h2:=eq_true h2
    simp (maxSteps:=4000000) (disch:=first | (intros; contradiction) | omega) only [go_sem,h0,h1,h2,wrap_e hx,truth_e hx]
    done
   ·skip
    by_cases h3:op = [60]
    ·have h3:=eq_true h3
     simp (maxSteps:=4000000) (disch:=first | (intros; contradiction) | omega) only [go_sem,h0,h1,h2,h3,wrap_e hx,truth_e hx]
     done
    ·skip
     by_cases h4:op = [60,61]
     ·have h4:=eq_true h4
      simp (maxSteps:=4000000) (disch:=first | (intros; contradiction) | omega) only [go_sem,h0,h1,h2,h3,h4,wrap_e hx,truth_e hx]
      done
     ·skip
      by_cases h5:op = [62]
      ·have h5:=eq_true h5
       simp (maxSteps:=4000000) (disch:=first | (intros; contradiction) | omega) only [go_sem,h0,h1,h2,h3,h4,h5,wrap_e hx,truth_e hx]
       done
      ·skip
       by_cases h6:op = [62,61]
       ·have h6:=eq_true h6
        simp (maxSteps:=4000000) (disch:=first | (intros; contradiction) | omega) only [go_sem,h0,h1,h2,h3,h4,h5,h6,wrap_e hx,truth_e hx]
        done
       ·skip
        by_cases h7:op = [61,61]
        ·have h7:=eq_true h7
         simp (maxSteps:=4000000) (disch:=first | (intros; contradiction) | omega) only [go_sem,h0,h1,h2,h3,h4,h5,h6,h7,wrap_e hx,truth_e hx]
         done
        ·skip
         by_cases h8:op = [33,61]
         ·have h8:=eq_true h8
          simp (maxSteps:=4000000) (disch:=first | (intros; contradiction) | omega) only [go_sem,h0,h1,h2,h3,h4,h5,h6,h7,h8,wrap_e hx,truth_e hx]
          done
         ·skip
          have hq:=quot_e hx op a b
          unfold pairA at hq
          simp (maxSteps:=4000000) (disch:=first | (intros; contradiction) | omega) only [go_sem,h0,h1,h2,h3,h4,h5,h6,h7,h8,hq]
          done
end Go.Proofs.YtkflggjdlflndaaGreat
