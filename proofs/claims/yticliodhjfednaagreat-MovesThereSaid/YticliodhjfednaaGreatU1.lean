/- The document's answer for bltype: the uses of an instruction. Conditions: none. -/
import Derived.Test.YticliodhjfednaaGreatP22
import Derived.Test.YticliodhjfednaaGreatR1
set_option linter.unusedSimpArgs false
set_option linter.unusedVariables false
namespace Go.Proofs.YticliodhjfednaaGreat
open Go Go.Ab
variable {ext:Sem'}
theorem rchange_e(hx:TX ext)(cls:Int):G ext 103 [.d (.int .i64 cls)] []=some (.ret (.d (.bool (changeP cls))),[]):=by
 rw[G_body hx.clear rfl Tryz.func103 rfl Tryz.results103 hv_103 rfl];unfold changeP;by_cases h1:cls=1
 ·simp(maxSteps:=9^9)(disch:=first|(intros;contradiction)|omega)only[go_sem,h1]<;>rfl
 ·by_cases h2:cls=2
  ·simp(maxSteps:=9^9)(disch:=first|(intros;contradiction)|omega)only[go_sem,h1,h2]<;>rfl
  ·rw[decide_eq_false h1,decide_eq_false h2];simp(maxSteps:=9^9)(disch:=first|(intros;contradiction)|omega)only[go_sem,h1,h2]<;>rfl
theorem rfits_e(hx:TX ext)(mode cls:Int):G ext 102 [.d (.int .i64 mode),.d (.int .i64 cls)] []=some (.ret (.d (.bool (fitsP mode cls))),[]):=by
 rw[G_body hx.clear rfl Tryz.func102 rfl Tryz.results102 hv_102 rfl];unfold fitsP changeP;by_cases m1:mode=1
 ·rw[if_pos m1];simp(maxSteps:=9^9)(disch:=first|(intros;contradiction)|omega)only[go_sem,m1]
 ·rw[if_neg m1];by_cases m2:mode=2
  ·rw[if_pos m2];by_cases h1:cls=1
   ·simp(maxSteps:=9^9)(disch:=first|(intros;contradiction)|omega)only[go_sem,m2,h1]<;>rfl
   ·by_cases h2:cls=2
    ·simp(maxSteps:=9^9)(disch:=first|(intros;contradiction)|omega)only[go_sem,m2,h1,h2]<;>rfl
    ·rw[decide_eq_false h1,decide_eq_false h2];simp(maxSteps:=9^9)(disch:=first|(intros;contradiction)|omega)only[go_sem,m2,h1,h2]<;>rfl
  ·rw[if_neg m2];by_cases m3:mode=3
   ·rw[if_pos m3];by_cases h1:1≤cls
    ·by_cases h2:cls≤3
     ·have e:(decide (cls=1)||decide (cls=2)||decide (cls=3))=true:=by simp;omega
      rw[e];simp(maxSteps:=9^9)(disch:=first|(intros;contradiction)|omega)only[go_sem,m3,h1,h2]<;>rfl
     ·have e:(decide (cls=1)||decide (cls=2)||decide (cls=3))=false:=by simp;omega
      rw[e];simp(maxSteps:=9^9)(disch:=first|(intros;contradiction)|omega)only[go_sem,m3,h1,h2]<;>rfl
    ·have e:(decide (cls=1)||decide (cls=2)||decide (cls=3))=false:=by simp;omega
     rw[e];simp(maxSteps:=9^9)(disch:=first|(intros;contradiction)|omega)only[go_sem,m3,h1]<;>rfl
   ·rw[if_neg m3];simp(maxSteps:=9^9)(disch:=first|(intros;contradiction)|omega)only[go_sem,m1,m2,m3]<;>rfl
theorem rmd_e(hx:TX ext)(v mode:Int)(h1:1≤mode)(h2:mode≤3):G ext 36 [.d (.int .i64 v),.d (.int .i64 mode)] []=some (.ret (.agg [.d (.int .i64 v),.d (.int .i64 (kindOf mode))]),[]):=by
 have e:kindOf mode=4-mode:=by unfold kindOf;split<;>(try split)<;>(try split)<;>omega
 rw[e];rw[G_body hx.clear rfl Tryz.func36 rfl Tryz.results36 hv_36 rfl];simp(maxSteps:=9^9)(disch:=first|(intros;contradiction)|omega)only[go_sem,wrap64]
theorem one_mode3{t:Ty1}{l:List Int}(ht:t.ptr=true)(h:modeOk [t] l=true):∃ md,l=[md]∧1≤md∧md≤3:=by
 obtain⟨md,h1,h2⟩:=one_mode h
 refine⟨md,h1,?_⟩
 unfold classedP at h2;rw[if_pos ht]at h2;simp at h2;omega
theorem by_one3{md v:Int}(h1:1≤md)(h2:md≤3):byP md 3 v=[(v,kindOf md)]:=by
 unfold byP kindOf;split<;>(try split)<;>(try split)<;>first|rfl|omega
set_option maxHeartbeats 4000000 in
theorem rinstr22_e(hx:TX ext)(m:Md1)(c:Cd1)(i:In1)(hi:instrP m c i=0)(hm:modeOk (modesP c i) i.mode=true)(hl:i.args.length≤900):G ext 19 [c.av,i.av] []=some (.ret (.d (.sl ((usesL i).map useRow))),[]):=by
 have hop:=(instr_uses hi).1
 unfold instrP at hi;rw[if_neg (by omega)]at hi
 split at hi
 ·cases hi
 rename_i hall;unfold modesP at hm;unfold plainP at hi;rw[G_body hx.clear rfl Tryz.func19 rfl Tryz.results19 hv_19 rfl];simp only[Cd1.av,In1.av,ints];have hr1:room 1 16:=room_use (by omega)
 have hr2:room 2 16:=room_use (by omega)
 unfold usesL;by_cases h7:i.op=7
 ·rw[if_pos (.inl h7)];have h7:=eq_true h7
  simp(maxSteps:=9^9)(disch:=first|(intros;contradiction)|omega)only[go_sem,h7,hr1,hr2,List.map_cons,List.map_nil,useRow]
 ·by_cases h14:i.op=14
  ·rw[if_pos (.inr h14)];have h14:=eq_true h14
   simp(maxSteps:=9^9)(disch:=first|(intros;contradiction)|omega)only[go_sem,h7,h14,hr1,hr2,List.map_cons,List.map_nil,useRow]
  ·rw[if_neg (by omega)]
   by_cases h8:i.op=8
   ·rw[if_pos h8];have h8:=eq_true h8
    simp(maxSteps:=9^9)(disch:=first|(intros;contradiction)|omega)only[go_sem,h7,h14,h8,hr1,hr2,List.map_cons,List.map_nil,useRow]
   ·rw[if_neg h8];by_cases h11:i.op=11
    ·rw[if_pos h11];have h11:=eq_true h11
     simp(maxSteps:=9^9)(disch:=first|(intros;contradiction)|omega)only[go_sem,h7,h14,h8,h11,hr1,hr2,List.map_cons,List.map_nil,useRow]
    ·rw[if_neg h11];by_cases h13:i.op=13
     ·rw[if_pos h13];have h13:=eq_true h13
      simp(maxSteps:=9^9)(disch:=first|(intros;contradiction)|omega)only[go_sem,h7,h14,h8,h11,h13,hr1,hr2,List.map_cons,List.map_nil,useRow]
     ·rw[if_neg h13];by_cases h9:i.op=9
      ·rw[if_neg (by omega),if_pos (.inl h9)]
       have hp:=unless_zero (f:=7) (by decide) (by simpa[h9]using hi)
       simp only[Bool.and_eq_true,decide_eq_true_eq]at hp;obtain⟨md,h1,h2,h3⟩:=one_mode3 (t:=varT c i.d) (by rw[←hp.2];exact hp.1) (by simpa[h9]using hm)
       have hmd:=rmd_e hx i.a md h2 h3
       rw[h1];simp only[List.flatMap_cons,List.flatMap_nil,List.append_nil,by_one3 h2 h3];have h9:=eq_true h9
       simp(maxSteps:=9^9)(disch:=first|(intros;contradiction)|omega)only[go_sem,h7,h14,h8,h11,h13,h9,hmd,hr1,hr2,List.map_cons,List.map_nil,useRow,rowI]
      ·by_cases h10:i.op=10
       ·rw[if_pos h10];have hp:=heap_ptr (by simpa[h10]using hi)
        obtain⟨md,h1,h2,h3⟩:=one_mode3 (t:=varT c i.d) (by simpa using hp.2) (by simpa[h10]using hm)
        have hmd:=rmd_e hx i.a md h2 h3
        have e:modeAt i 0=md:=by unfold modeAt;rw[h1];rfl
        rw[h1,e];have h10:=eq_true h10
        have k:md=1∨md=2∨md=3:=by omega
        rcases k with rfl|rfl|rfl
        ·rw[show kindOf 1=3 from rfl]at hmd
         rw[show byP 1 2 i.a=[(i.a,2)]from rfl]
         simp(maxSteps:=9^9)(disch:=first|(intros;contradiction)|omega)only[go_sem,h7,h14,h8,h11,h13,h9,h10,hmd,hr1,hr2,List.map_cons,List.map_nil,useRow,rowI]
        ·rw[show kindOf 2=2 from rfl]at hmd
         rw[show byP 2 2 i.a=[(i.a,2)]from rfl]
         simp(maxSteps:=9^9)(disch:=first|(intros;contradiction)|omega)only[go_sem,h7,h14,h8,h11,h13,h9,h10,hmd,hr1,hr2,List.map_cons,List.map_nil,useRow,rowI]
        ·rw[show kindOf 3=1 from rfl]at hmd
         rw[show byP 3 2 i.a=[(i.a,1)]from rfl]
         simp(maxSteps:=9^9)(disch:=first|(intros;contradiction)|omega)only[go_sem,h7,h14,h8,h11,h13,h9,h10,hmd,hr1,hr2,List.map_cons,List.map_nil,useRow,rowI]
       ·rw[if_neg h10];by_cases h18:i.op=18
        ·rw[if_pos (.inr h18)];have hp:=unless_zero (f:=7) (by decide) (by simpa[h18]using hi)
         simp only[decide_eq_true_eq]at hp
         cases hr:c.ret.t.ptr with
         | true=>
          obtain⟨md,h1,h2,h3⟩:=one_mode3 (t:=c.ret.t) hr (by simpa[h18,hr]using hm)
          have hmd:=rmd_e hx i.a md h2 h3
          rw[h1];simp only[List.flatMap_cons,List.flatMap_nil,List.append_nil,by_one3 h2 h3];have h18:=eq_true h18
          simp(maxSteps:=9^9)(disch:=first|(intros;contradiction)|omega)only[go_sem,h7,h14,h8,h11,h13,h9,h10,h18,hmd,hr1,hr2,List.map_cons,List.map_nil,useRow,rowI]
         | false=>
          have hm:modeOk [] i.mode=true:=by simpa[h18,hr]using hm
          have h1:i.mode=[]:=List.length_eq_zero_iff.1 (modeOk_len hm)
          rw[h1];have h18:=eq_true h18
          simp(maxSteps:=9^9)(disch:=first|(intros;contradiction)|omega)only[go_sem,h7,h14,h8,h11,h13,h9,h10,h18,List.flatMap_nil,List.map_nil]
        ·rw[if_neg (by omega)]
         by_cases h15:i.op=15
         ·rw[if_pos h15];have hm:modeOk (i.args.map (varT c)) i.mode=true:=by simpa[h15]using hm
          have hml:=modeOk_len hm
          rw[List.length_map]at hml;have hz:=zip_modes hm
          have h15:=eq_true h15
          clear hi hall hm;simp(maxSteps:=9^9)(disch:=first|(intros;contradiction)|omega)only[go_sem,h7,h14,h8,h11,h13,h9,h10,h18,h15]
          generalize hL:loopA _ _ _=L;apply range_upd hL (by simp(maxSteps:=9^9)(disch:=first|(intros;contradiction)|omega)only[go_sem]<;>rfl) i.args rowI (α:=List (Int×Int)) (fun rest k us=>us++(rest.zip (i.mode.drop k)).flatMap (fun x=>byP x.2 3 x.1)=(i.args.zip i.mode).flatMap (fun x=>byP x.2 3 x.1)∧us.length≤k) (fun k us=>[(5,.grow 3 us.length (us.map useRow)),(7,.d (.int .i64 k))]) (fun k us=>[(3,.grow us.length 2)]) [] (by simp(maxSteps:=9^9)(disch:=first|(intros;contradiction)|omega)only[go_sem]<;>rfl) ⟨rfl,Nat.le_refl _⟩ ?_ ?_
          ·rintro x rest k us ⟨hi,hu⟩ hlt hr hx1 hk _ next ih
           clear hL;have hkm:k<i.mode.length:=by omega
           have hrm:=map_at (f:=rowI) hkm
           have hmem:=hz (x,i.mode[k]) (by
            have:(i.args.zip i.mode)[k]?=some (x,i.mode[k]):=by
             rw[List.getElem?_zip_eq_some]
             exact⟨hx1,List.getElem?_eq_getElem hkm⟩
            exact List.mem_of_getElem? this)
           rw[List.drop_eq_getElem_cons hkm]at hi;generalize i.mode[k]=md at hrm hi hmem;simp only[List.zip_cons_cons,List.flatMap_cons]at hi;simp only[rowI]at hrm hr;by_cases m0:md=0
           ·subst m0;rw[show byP 0 3 x=[]from rfl,List.nil_append]at hi
            simp(maxSteps:=9^9)(disch:=first|(intros;contradiction)|omega)only[go_sem,hlt,hr,hrm,wrap64]
            exact ih us _ ⟨hi,by omega⟩ (by simp(maxSteps:=9^9)(disch:=first|(intros;contradiction)|omega)only[go_sem]<;>rfl)
           ·have hc:=hmem.2
            have hp:=classed_ptr hc m0
            unfold classedP at hc;rw[if_pos hp]at hc;simp at hc;have h2:1≤md:=by omega
            have h3:md≤3:=by omega
            have hmd:=rmd_e hx x md h2 h3
            have hroom:room ((us.map useRow).length+1) 16:=room_use (by simp;omega)
            rw[by_one3 h2 h3]at hi;simp(maxSteps:=9^9)(disch:=first|(intros;contradiction)|omega)only[go_sem,hlt,hr,hrm,m0,hmd,hroom,wrap64]
            refine ih (us++[(x,kindOf md)]) _ ⟨by rw[List.append_assoc];exact hi,by simp;omega⟩ (by simp(maxSteps:=9^9)(disch:=first|(intros;contradiction)|omega)only[go_sem,List.length_append,List.length_cons,List.length_nil,List.map_append,List.map_cons,List.map_nil,useRow]<;>rfl)
          ·rintro k us ⟨hi,hu⟩ hlt hk next
           clear hL;simp only[List.zip_nil_left,List.flatMap_nil,List.append_nil]at hi;rw[←hi];simp(maxSteps:=9^9)(disch:=first|(intros;contradiction)|omega)only[go_sem,hlt]
         ·rw[if_neg h15];simp(maxSteps:=9^9)(disch:=first|(intros;contradiction)|omega)only[go_sem,h7,h14,h8,h11,h13,h9,h10,h18,h15,List.map_nil]
end Go.Proofs.YticliodhjfednaaGreat
