/- The document's machine: all instructions without frames. Conditions: none. -/
import Derived.Test.YtkflggjdlflndaaGreatVE
set_option linter.unusedSimpArgs false
set_option linter.unusedVariables false
namespace Go.Proofs.YtkflggjdlflndaaGreat
open Go Go.Ab
variable {ext:Sem'}
theorem getR_reg (s:Rm):(getR s).2.reg = s.reg:=by unfold getR; split <;> rfl
theorem newR_at (s:Rm) (n k:Nat) {l:List Int} (h:s.reg[k]? = some l):(newR s n).2.reg[k]? = some l:=by
 unfold newR
 split
 ·exact h
 ·rw [List.getElem?_append_left (List.getElem?_eq_some_iff.1 h).1]; exact h
theorem HH_of (s t:Rm) (h:s.reg = t.reg∧s.ec = t.ec∧s.eg = t.eg∧s.cells = t.cells∧s.asked = t.asked∧s.fails = t.fails∧s.inp = t.inp∧s.out = t.out):s.HH = t.HH:=by
 obtain ⟨h1,h2,h3,h4,h5,h6,h7,h8⟩:=h
 simp only [Rm.HH,Rm.hobj,h1,h2,h3,h4,h5,h6,h7,h8]
theorem and255 (x:Int):IntKind.wrap .u8 (andI .i64 x 255) = IntKind.wrap .u8 x:=by
 have e:((BitVec.ofInt 64 x) &&& (BitVec.ofInt 64 255)).toNat = (x % 18446744073709551616).toNat % 256:=by
  rw [BitVec.toNat_and,BitVec.toNat_ofInt,BitVec.toNat_ofInt]
  have:((255:Int) % ((2 ^ 64:Nat):Int)).toNat = 2 ^ 8 - 1:=by decide
  rw [this,Nat.and_two_pow_sub_one_eq_mod]
  rfl
 have e2:andI .i64 x 255 = IntKind.wrap .i64 (((x % 18446744073709551616).toNat % 256:Nat):Int):=congrArg (fun n:Nat=>IntKind.wrap .i64 (n:Int)) e
 rw [e2]
 simp only [IntKind.wrap,IntKind.bits,IntKind.signed]
 simp
 omega
set_option maxHeartbeats 16000000 in
theorem rplain_e (hx:T5 ext) (s:Rm) (i:In1) (k:Nat) (v:List Int) (h:PlOk s i k v) (ho:1 ≤ i.op∧i.op ≤ 14):G ext 36 [.ptr 1 0,i.av,.rs k 0 v.length 1] s.H = some (.ret (.d (.bool (plainR s i k v).1)),(plainR s i k v).2.H):=by
 have kr:=ces_refs s.cells
 have kn:=fun f=>ces_ren f s.cells
 have kr2:=frs_refs s.stack
 have kn2:=fun f=>frs_ren f s.stack
 have hcases:i.op = 1 ∨ i.op = 2 ∨ (i.op = 3 ∨ i.op = 9) ∨ i.op = 4 ∨ i.op = 5 ∨ i.op = 6 ∨ (i.op = 7 ∨ i.op = 10 ∨ i.op = 8 ∨ i.op = 11) ∨ i.op = 12 ∨ i.op = 13 ∨ i.op = 14:=by omega
 unfold plainR
 rcases hcases with o | o | o | o | o | o | o | o | o | o
 ·have hd:=h.d (by rw [o]; rfl)
  have g1:=hd.get
  have g3:=hd.lo
  have g4:=hd.hi
  have g5:=hd.set (w3 i.n)
  have hw:=rwrap_e hx.toTX i.n
  rw [w3_rw3] at hw
  rw [if_pos o]
  have o:=eq_true o
  simp only [In1.av,ints]
  rw [G_body hx.clear rfl Tryz.func36 rfl Tryz.results36 hv_36 rfl]
  simp only [Rm.H,Rm.robj,Rm.hobj,Md1.sr,Md1.fr,Rm.put]
  generalize cesA s.cells = cs at kr kn ⊢
  generalize frsA s.stack = fs at kr2 kn2 ⊢
  simp (maxSteps:=4000000) (disch:=first | (intros; contradiction) | omega) only [go_sem,kr,kn,kr2,kn2,o,g1,g3,g4,g5,hw,Nat.mul_one]
  done
 ·have hd:=h.d (by rw [o]; rfl)
  have g1:=hd.get
  have g3:=hd.lo
  have g4:=hd.hi
  have g5:=hd.set 0
  rw [if_neg (by omega),if_pos o]
  obtain ⟨op,d,a,b,f,n,sign,args,mode,dest,els,pos⟩:=i
  simp only at o g3 g4 g5 ⊢
  subst o
  simp only [In1.av,ints]
  rw [G_body hx.clear rfl Tryz.func36 rfl Tryz.results36 hv_36 rfl]
  simp only [Rm.H,Rm.robj,Rm.hobj,Md1.sr,Md1.fr,Rm.put]
  generalize cesA s.cells = cs at kr kn ⊢
  generalize frsA s.stack = fs at kr2 kn2 ⊢
  simp (maxSteps:=4000000) (disch:=first | (intros; contradiction) | omega) only [go_sem,kr,kn,kr2,kn2,g1,g3,g4,g5,Nat.mul_one]
  done
 ·have hd:=h.d (by rcases o with o | o <;> rw [o] <;> rfl)
  have ha:=h.a (by rcases o with o | o <;> rw [o] <;> rfl)
  have g1:=hd.get
  have g3:=hd.lo
  have g4:=hd.hi
  have g5:=hd.set (nthI v i.a)
  have a2:=ha.one
  have a3:=ha.lo
  have a4:=ha.hi
  rw [if_neg (by omega),if_neg (by omega),if_pos o]
  obtain ⟨op,d,a,b,f,n,sign,args,mode,dest,els,pos⟩:=i
  simp only at o g3 g4 g5 a2 a3 a4 ⊢
  simp only [In1.av,ints]
  rw [G_body hx.clear rfl Tryz.func36 rfl Tryz.results36 hv_36 rfl]
  simp only [Rm.H,Rm.robj,Rm.hobj,Md1.sr,Md1.fr,Rm.put]
  generalize cesA s.cells = cs at kr kn ⊢
  generalize frsA s.stack = fs at kr2 kn2 ⊢
  rcases o with rfl | rfl
  ·simp (maxSteps:=4000000) (disch:=first | (intros; contradiction) | omega) only [go_sem,kr,kn,kr2,kn2,g1,g3,g4,g5,a2,a3,a4,Nat.mul_one]
   done
  ·simp (maxSteps:=4000000) (disch:=first | (intros; contradiction) | omega) only [go_sem,kr,kn,kr2,kn2,g1,g3,g4,g5,a2,a3,a4,Nat.mul_one]
   done
 ·have hd:=h.d (by rw [o]; rfl)
  have ha:=h.a (by rw [o]; rfl)
  have hb:=h.b (by rw [o]; rfl)
  have g1:=hd.get
  have g3:=hd.lo
  have g4:=hd.hi
  have hs:=rsign_e hx.toTX i.sign (nthI v i.a) (nthI v i.b)
  rw [rsign_sign] at hs
  have g5:=hd.set (signP i.sign (nthI v i.a) (nthI v i.b)).1
  have a2:=ha.one
  have a3:=ha.lo
  have a4:=ha.hi
  have b2:=hb.one
  have b3:=hb.lo
  have b4:=hb.hi
  rw [if_neg (by omega),if_neg (by omega),if_neg (by omega),if_pos o]
  obtain ⟨op,d,a,b,f,n,sign,args,mode,dest,els,pos⟩:=i
  simp only at o g3 g4 g5 a2 a3 a4 b2 b3 b4 hs ⊢
  subst o
  generalize signP sign (nthI v a) (nthI v b) = q at hs g5 ⊢
  obtain ⟨x,y⟩:=q
  unfold pairA at hs
  simp only at hs g5 ⊢
  simp only [In1.av,ints]
  rw [G_body hx.clear rfl Tryz.func36 rfl Tryz.results36 hv_36 rfl]
  simp only [Rm.H,Rm.robj,Rm.hobj,Md1.sr,Md1.fr,Rm.put]
  generalize cesA s.cells = cs at kr kn ⊢
  generalize frsA s.stack = fs at kr2 kn2 ⊢
  simp (maxSteps:=4000000) (disch:=first | (intros; contradiction) | omega) only [go_sem,kr,kn,kr2,kn2,g1,g3,g4,g5,a2,a3,a4,b2,b3,b4,hs,Nat.mul_one]
  done
 ·have hd:=h.d (by rw [o]; rfl)
  have hget:=rget_e hx.toTX s
  have hgr:=getR_reg s
  have hsame:(getR s).2.m = s.m∧(getR s).2.stack = s.stack∧(getR s).2.top = s.top∧(getR s).2.es = s.es∧(getR s).2.kind = s.kind∧(getR s).2.code = s.code∧(getR s).2.steps = s.steps∧(getR s).2.cells = s.cells:=by unfold getR; split <;> exact ⟨rfl,rfl,rfl,rfl,rfl,rfl,rfl,rfl⟩
  rw [if_neg (by omega),if_neg (by omega),if_neg (by omega),if_neg (by omega),if_pos o]
  generalize getR s = q at hget hgr hsame ⊢
  obtain ⟨x,s2⟩:=q
  obtain ⟨m2,inp2,fails2,asked2,out2,cells2,stack2,top2,kind2,code2,steps2,reg2,ec2,es2,eg2⟩:=s2
  simp only at hget hgr hsame ⊢
  obtain ⟨rfl,rfl,rfl,rfl,rfl,rfl,rfl,rfl⟩:=hsame
  subst hgr
  have g1:=hd.get
  have g3:=hd.lo
  have g4:=hd.hi
  have g5:=hd.set x
  obtain ⟨op,d,a,b,f,n,sign,args,mode,dest,els,pos⟩:=i
  simp only at o g3 g4 g5 ⊢
  subst o
  simp only [In1.av,ints]
  rw [G_body hx.clear rfl Tryz.func36 rfl Tryz.results36 hv_36 rfl]
  simp only [Rm.H,Rm.HH,Rm.robj,Rm.hobj,Md1.sr,Md1.fr,Rm.put] at hget ⊢
  generalize cesA s.cells = cs at kr kn hget ⊢
  generalize frsA s.stack = fs at kr2 kn2 ⊢
  simp (maxSteps:=4000000) (disch:=first | (intros; contradiction) | omega) only [go_sem,kr,kn,kr2,kn2,g1,g3,g4,g5,hget,Nat.mul_one]
  done
 ·have ha:=h.a (by rw [o]; rfl)
  have g1:=ha.get
  have a2:=ha.one
  have a3:=ha.lo
  have a4:=ha.hi
  have hout:=h.out
  rw [if_neg (by omega),if_neg (by omega),if_neg (by omega),if_neg (by omega),if_neg (by omega),if_pos o]
  obtain ⟨op,d,a,b,f,n,sign,args,mode,dest,els,pos⟩:=i
  simp only at o a2 a3 a4 ⊢
  subst o
  have hft:fits 1 ([[.int .u8 (IntKind.wrap .u8 (nthI v a))]]:List (List Dt)):=by intro row h; simp at h; rw [h]; rfl
  have hrm:room ((s.out.map rowU).length + 1) 1:=by unfold room; rw [List.length_map]; simp; omega
  simp only [In1.av,ints]
  rw [G_body hx.clear rfl Tryz.func36 rfl Tryz.results36 hv_36 rfl]
  simp only [Rm.H,Rm.robj,Rm.hobj,Md1.sr,Md1.fr,List.map_append,List.map_cons,List.map_nil,rowU]
  generalize cesA s.cells = cs at kr kn ⊢
  generalize frsA s.stack = fs at kr2 kn2 ⊢
  simp (maxSteps:=4000000) (disch:=first | (intros; contradiction) | omega) only [go_sem,kr,kn,kr2,kn2,g1,a2,a3,a4,hft,hrm,and255,Nat.mul_one]
  done
 ·have hh:=rheap_e hx.toTX s i k v h o
  rw [if_neg (by omega),if_neg (by omega),if_neg (by omega),if_neg (by omega),if_neg (by omega),if_neg (by omega),if_pos o]
  have hsame:(heapR s i k v).2.cells = s.cells∧(heapR s i k v).2.stack = s.stack:=by
   unfold heapR
   split
   ·exact ⟨rfl,rfl⟩
   ·split <;> exact ⟨rfl,rfl⟩
  generalize heapR s i k v = q at hh hsame ⊢
  obtain ⟨x,s2⟩:=q
  obtain ⟨m2,inp2,fails2,asked2,out2,cells2,stack2,top2,kind2,code2,steps2,reg2,ec2,es2,eg2⟩:=s2
  simp only at hh hsame ⊢
  obtain ⟨rfl,rfl⟩:=hsame
  obtain ⟨op,d,a,b,f,n,sign,args,mode,dest,els,pos⟩:=i
  simp only at o ⊢
  simp only [In1.av,ints] at hh ⊢
  rw [G_body hx.clear rfl Tryz.func36 rfl Tryz.results36 hv_36 rfl]
  simp only [Rm.H,Rm.robj,Rm.hobj,Md1.sr,Md1.fr] at hh ⊢
  generalize cesA s.cells = cs at kr kn hh ⊢
  generalize frsA s.stack = fs at kr2 kn2 hh ⊢
  rcases o with rfl | rfl | rfl | rfl
  ·simp (maxSteps:=4000000) (disch:=first | (intros; contradiction) | omega) only [go_sem,kr,kn,kr2,kn2,hh]
   done
  ·simp (maxSteps:=4000000) (disch:=first | (intros; contradiction) | omega) only [go_sem,kr,kn,kr2,kn2,hh]
   done
  ·simp (maxSteps:=4000000) (disch:=first | (intros; contradiction) | omega) only [go_sem,kr,kn,kr2,kn2,hh]
   done
  ·simp (maxSteps:=4000000) (disch:=first | (intros; contradiction) | omega) only [go_sem,kr,kn,kr2,kn2,hh]
   done
 ·have hd:=h.d (by rw [o]; rfl)
  obtain ⟨n1,n2,n3⟩:=h.new o
  have hnew:=G_ext (hx.rnew s (nFields s.m i.f) n3 h.cells h.asked)
  have hnat:=newR_at s (nFields s.m i.f) k hd.at_
  have hlt:i.f.toNat < s.m.structs.length:=by omega
  have hsl:(s.m.structs.map Sc1.row).length = s.m.structs.length:=List.length_map _
  have hltf:i.f < ((s.m.structs.map Sc1.row).length:Nat):=by omega
  have hr:(s.m.structs.map Sc1.row)[i.f.toNat]? = some s.m.structs[i.f.toNat].row:=by rw [List.getElem?_map,List.getElem?_eq_getElem hlt]; rfl
  have hnf:nFields s.m i.f = s.m.structs[i.f.toNat].fields.length:=by unfold nFields; rw [List.getElem?_eq_getElem hlt]; rfl
  rw [if_neg (by omega),if_neg (by omega),if_neg (by omega),if_neg (by omega),if_neg (by omega),if_neg (by omega),if_neg (by omega),if_pos o]
  have hsame:(newR s (nFields s.m i.f)).2.m = s.m∧(newR s (nFields s.m i.f)).2.stack = s.stack∧(newR s (nFields s.m i.f)).2.top = s.top∧(newR s (nFields s.m i.f)).2.es = s.es∧(newR s (nFields s.m i.f)).2.kind = s.kind∧(newR s (nFields s.m i.f)).2.code = s.code∧(newR s (nFields s.m i.f)).2.steps = s.steps:=by unfold newR; split <;> exact ⟨rfl,rfl,rfl,rfl,rfl,rfl,rfl⟩
  rw [hnf] at hnew hnat hsame ⊢
  generalize s.m.structs[i.f.toNat] = sc at hr hnew hnat hsame ⊢
  have hfl:(sc.fields.map Fd1.row).length = sc.fields.length:=List.length_map _
  generalize newR s sc.fields.length = q at hnew hnat hsame ⊢
  obtain ⟨x,s2⟩:=q
  obtain ⟨m2,inp2,fails2,asked2,out2,cells2,stack2,top2,kind2,code2,steps2,reg2,ec2,es2,eg2⟩:=s2
  simp only at hnew hnat hsame ⊢
  obtain ⟨rfl,rfl,rfl,rfl,rfl,rfl,rfl⟩:=hsame
  have kr3:=ces_refs cells2
  have kn3:=fun f=>ces_ren f cells2
  have hd2:Ix reg2 k v i.d (nthI v i.d):=⟨hnat,hd.lo,hd.hi,hd.val⟩
  have g1:=hd2.get
  have g3:=hd2.lo
  have g4:=hd2.hi
  have g5:=hd2.set x
  obtain ⟨op,d,a,b,f,n,sign,args,mode,dest,els,pos⟩:=i
  simp only at o n1 hltf hr g3 g4 g5 ⊢
  subst o
  simp only [Sc1.row] at hr
  simp only [In1.av,ints]
  rw [G_body hx.clear rfl Tryz.func36 rfl Tryz.results36 hv_36 rfl]
  simp only [Rm.H,Rm.HH,Rm.robj,Rm.hobj,Md1.sr,Md1.fr,Rm.put] at hnew ⊢
  generalize cesA s.cells = cs at kr kn hnew ⊢
  generalize cesA cells2 = cs2 at kr3 kn3 hnew ⊢
  generalize frsA s.stack = fs at kr2 kn2 ⊢
  simp (maxSteps:=4000000) (disch:=first | (intros; contradiction) | omega) only [go_sem,kr,kn,kr2,kn2,kr3,kn3,hr,hltf,n1,hfl,g1,g3,g4,g5,hnew,Nat.mul_one]
  done
 ·have ha:=h.a (by rw [o]; rfl)
  have g1:=ha.get
  have a2:=ha.one
  have a3:=ha.lo
  have a4:=ha.hi
  have hat:=rat_e hx.toTX s (nthI v i.a) (by have:=h.cells; omega)
  rw [atA_live] at hat
  rw [if_neg (by omega),if_neg (by omega),if_neg (by omega),if_neg (by omega),if_neg (by omega),if_neg (by omega),if_neg (by omega),if_neg (by omega),if_pos o]
  obtain ⟨op,d,a,b,f,n,sign,args,mode,dest,els,pos⟩:=i
  simp only at o a2 a3 a4 hat ⊢
  subst o
  unfold freeR
  simp only [In1.av,ints]
  cases hl:liveR s (nthI v a) with
  | none=>
   rw [hl] at hat
   rw [G_body hx.clear rfl Tryz.func36 rfl Tryz.results36 hv_36 rfl]
   simp only [Rm.H,Rm.HH,Rm.robj,Rm.hobj,Md1.sr,Md1.fr] at hat ⊢
   generalize cesA s.cells = cs at kr kn hat ⊢
   generalize frsA s.stack = fs at kr2 kn2 ⊢
   by_cases hz:nthI v a = 0
   ·rw [decide_eq_true hz]
    rw [hz] at a2 hat
    simp (maxSteps:=4000000) (disch:=first | (intros; contradiction) | omega) only [go_sem,kr,kn,kr2,kn2,g1,a2,a3,a4,hat,Nat.mul_one]
    done
   ·rw [decide_eq_false hz]
    simp (maxSteps:=4000000) (disch:=first | (intros; contradiction) | omega) only [go_sem,kr,kn,kr2,kn2,g1,a2,a3,a4,hz,hat,Nat.mul_one]
    done
  | some c=>
   rw [hl] at hat
   obtain ⟨l1,l2,l3,l4⟩:=live_at hl
   have hz:¬ nthI v a = 0:=by omega
   have hcl:=ces_len s.cells
   have hlt:=(List.getElem?_eq_some_iff.1 l1).1
   have hle:(nthI v a - 1).toNat * 4 + 1 ≤ (cesA s.cells).length:=by rw [hcl]; omega
   have hsp:=flt_set (f:=RCe.av) ce_len (off:=0) (new:=[.d (.bool false)]) (y:={ c with al:=false }) l1 (by decide) rfl
   unfold splice at hsp
   simp only [Nat.add_zero,List.length_singleton] at hsp
   change (cesA s.cells).take ((nthI v a - 1).toNat * 4) ++ [.d (.bool false)] ++ (cesA s.cells).drop ((nthI v a - 1).toNat * 4 + 1) = cesA (s.cells.set (nthI v a - 1).toNat { c with al:=false }) at hsp
   have kr3:=ces_refs (s.cells.set (nthI v a - 1).toNat { c with al:=false })
   have kn3:=fun f=>ces_ren f (s.cells.set (nthI v a - 1).toNat { c with al:=false })
   rw [G_body hx.clear rfl Tryz.func36 rfl Tryz.results36 hv_36 rfl]
   simp only [Rm.H,Rm.HH,Rm.robj,Rm.hobj,Md1.sr,Md1.fr,List.length_set] at hat ⊢
   generalize cesA (s.cells.set (nthI v a - 1).toNat { c with al:=false }) = cs3 at kr3 kn3 hsp ⊢
   generalize cesA s.cells = cs at kr kn hat hsp hle ⊢
   generalize frsA s.stack = fs at kr2 kn2 ⊢
   simp (maxSteps:=4000000) (disch:=first | (intros; contradiction) | omega) only [go_sem,kr,kn,kr2,kn2,kr3,kn3,g1,a2,a3,a4,hz,hat,hsp,hle,Nat.mul_one]
   done
 ·have hd:=h.d (by rw [o]; rfl)
  have ha:=h.a (by rw [o]; rfl)
  have g1:=hd.get
  have g3:=hd.lo
  have g4:=hd.hi
  have a2:=ha.one
  have a3:=ha.lo
  have a4:=ha.hi
  have g5:=fun x=>hd.set x
  have t1:=rtruth_e hx.toTX true
  have t2:=rtruth_e hx.toTX false
  rw [if_neg (by omega),if_neg (by omega),if_neg (by omega),if_neg (by omega),if_neg (by omega),if_neg (by omega),if_neg (by omega),if_neg (by omega),if_neg (by omega),if_pos o]
  obtain ⟨op,d,a,b,f,n,sign,args,mode,dest,els,pos⟩:=i
  simp only at o g3 g4 g5 a2 a3 a4 ⊢
  subst o
  simp only [In1.av,ints]
  rw [G_body hx.clear rfl Tryz.func36 rfl Tryz.results36 hv_36 rfl]
  simp only [Rm.H,Rm.robj,Rm.hobj,Md1.sr,Md1.fr,Rm.put]
  generalize cesA s.cells = cs at kr kn ⊢
  generalize frsA s.stack = fs at kr2 kn2 ⊢
  by_cases c1:nthI v a = 0
  ·by_cases c2:sign = [61,61]
   ·rw [decide_eq_true c1,decide_eq_true c2]
    rw [c1] at a2
    have c2:=eq_true c2
    simp (maxSteps:=4000000) (disch:=first | (intros; contradiction) | omega) only [go_sem,kr,kn,kr2,kn2,g1,g3,g4,g5,a2,a3,a4,c2,b11,t1,t2,Nat.mul_one]
    done
   ·rw [decide_eq_true c1,decide_eq_false c2]
    rw [c1] at a2
    simp (maxSteps:=4000000) (disch:=first | (intros; contradiction) | omega) only [go_sem,kr,kn,kr2,kn2,g1,g3,g4,g5,a2,a3,a4,c2,b10,t1,t2,Nat.mul_one]
    done
  ·by_cases c2:sign = [61,61]
   ·rw [decide_eq_false c1,decide_eq_true c2]
    have c2:=eq_true c2
    simp (maxSteps:=4000000) (disch:=first | (intros; contradiction) | omega) only [go_sem,kr,kn,kr2,kn2,g1,g3,g4,g5,a2,a3,a4,c1,c2,b01,t1,t2,Nat.mul_one]
    done
   ·rw [decide_eq_false c1,decide_eq_false c2]
    simp (maxSteps:=4000000) (disch:=first | (intros; contradiction) | omega) only [go_sem,kr,kn,kr2,kn2,g1,g3,g4,g5,a2,a3,a4,c1,c2,b00,t1,t2,Nat.mul_one]
    done
end Go.Proofs.YtkflggjdlflndaaGreat
