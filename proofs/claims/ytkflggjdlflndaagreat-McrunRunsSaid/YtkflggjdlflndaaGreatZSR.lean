/- The document's signs. Conditions: none. -/
import Derived.Test.YtkflggjdlflndaaGreatZS
set_option linter.unusedSimpArgs false
set_option linter.unusedVariables false
namespace Go.Proofs.YtkflggjdlflndaaGreat
open Go Go.Ab
variable {ext:Sem'}
set_option maxHeartbeats 4000000 in
theorem rsign_e (hx:TX ext) (op:List UInt8) (a b:Int):G ext 65 [.d (.str op),.d (.int .i64 a),.d (.int .i64 b)] [] = some (.ret (pairA (rsignP op a b)),[]):=by
 unfold pairA rsignP
 rw [G_body hx.clear rfl Tryz.func65 rfl Tryz.results65 hv_65 rfl]
 by_cases h0:op = [43]
 ·have h0:=eq_true h0
  simp (maxSteps:=4000000) (disch:=first | (intros; contradiction) | omega) only [go_sem,h0,rwrap_e hx,rtruth_e hx]
  done
 ·skip
  by_cases h1:op = [45]
  ·have h1:=eq_true h1
   simp (maxSteps:=4000000) (disch:=first | (intros; contradiction) | omega) only [go_sem,h0,h1,rwrap_e hx,rtruth_e hx]
   done
  ·skip
   by_cases h2:op = [42]
   ·have h2:=eq_true h2
    simp (maxSteps:=4000000) (disch:=first | (intros; contradiction) | omega) only [go_sem,h0,h1,h2,rwrap_e hx,rtruth_e hx]
    done
   ·skip
    by_cases h3:op = [47]
    ·have h3:=eq_true h3
     by_cases hb:b = 0
     ·have hb:=eq_true hb
      simp (maxSteps:=4000000) (disch:=first | (intros; contradiction) | omega) only [go_sem,h0,h1,h2,h3,hb]
      done
     ·simp (maxSteps:=4000000) (disch:=first | (intros; contradiction) | omega) only [go_sem,h0,h1,h2,h3,hb,rwrap_e hx]
      done
    ·skip
     by_cases h4:op = [37]
     ·have h4:=eq_true h4
      by_cases hb:b = 0
      ·have hb:=eq_true hb
       simp (maxSteps:=4000000) (disch:=first | (intros; contradiction) | omega) only [go_sem,h0,h1,h2,h3,h4,hb]
       done
      ·simp (maxSteps:=4000000) (disch:=first | (intros; contradiction) | omega) only [go_sem,h0,h1,h2,h3,h4,hb,rwrap_e hx]
       done
     ·skip
      by_cases h5:op = [60]
      ·have h5:=eq_true h5
       simp (maxSteps:=4000000) (disch:=first | (intros; contradiction) | omega) only [go_sem,h0,h1,h2,h3,h4,h5,rwrap_e hx,rtruth_e hx]
       done
      ·skip
       by_cases h6:op = [60,61]
       ·have h6:=eq_true h6
        simp (maxSteps:=4000000) (disch:=first | (intros; contradiction) | omega) only [go_sem,h0,h1,h2,h3,h4,h5,h6,rwrap_e hx,rtruth_e hx]
        done
       ·skip
        by_cases h7:op = [62]
        ·have h7:=eq_true h7
         simp (maxSteps:=4000000) (disch:=first | (intros; contradiction) | omega) only [go_sem,h0,h1,h2,h3,h4,h5,h6,h7,rwrap_e hx,rtruth_e hx]
         done
        ·skip
         by_cases h8:op = [62,61]
         ·have h8:=eq_true h8
          simp (maxSteps:=4000000) (disch:=first | (intros; contradiction) | omega) only [go_sem,h0,h1,h2,h3,h4,h5,h6,h7,h8,rwrap_e hx,rtruth_e hx]
          done
         ·skip
          by_cases h9:op = [61,61]
          ·have h9:=eq_true h9
           simp (maxSteps:=4000000) (disch:=first | (intros; contradiction) | omega) only [go_sem,h0,h1,h2,h3,h4,h5,h6,h7,h8,h9,rwrap_e hx,rtruth_e hx]
           done
          ·skip
           by_cases h10:op = [33,61]
           ·have h10:=eq_true h10
            simp (maxSteps:=4000000) (disch:=first | (intros; contradiction) | omega) only [go_sem,h0,h1,h2,h3,h4,h5,h6,h7,h8,h9,h10,rwrap_e hx,rtruth_e hx]
            done
           ·skip
            simp (maxSteps:=4000000) (disch:=first | (intros; contradiction) | omega) only [go_sem,h0,h1,h2,h3,h4,h5,h6,h7,h8,h9,h10]
            done
theorem rsign_sign (op:List UInt8) (a b:Int):rsignP op a b = signP op a b:=by
 unfold rsignP signP quotP
 simp only [w3_rw3]
 by_cases h1:op = [47]
 ·subst h1
  by_cases hb:b = 0 <;> simp [hb]
 ·by_cases h2:op = [37]
  ·subst h2
   by_cases hb:b = 0 <;> simp [hb]
  ·by_cases hb:b = 0 <;> simp [hb,h1,h2]
end Go.Proofs.YtkflggjdlflndaaGreat
