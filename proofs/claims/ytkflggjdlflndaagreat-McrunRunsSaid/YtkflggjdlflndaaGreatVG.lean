/- The document's machine: a step. Conditions: none. -/
import Derived.Test.YtkflggjdlflndaaGreatVF
set_option linter.unusedSimpArgs false
set_option linter.unusedVariables false
namespace Go.Proofs.YtkflggjdlflndaaGreat
open Go Go.Ab
variable {ext:Sem'}
def Rm.at (s:Rm) (n:Nat) (x:RFr) (q:Int):Rm:={ s with steps:=IntKind.wrap .i64 (s.steps + 1),stack:=s.stack.set n { x with pc:=q } }
structure FrR (s:Rm) (n:Nat) (x:RFr) (c:Cd1) (i:In1) (v:List Int):Prop where
 top:s.top = n + 1
 few:n < 100000
 fr:s.stack[n]? = some x
 f0:0 ≤ x.f
 code:s.m.funcs[x.f.toNat]? = some c
 pc0:0 ≤ x.pc
 ins:c.ins[x.pc.toNat]? = some i
 vs:s.reg[x.k]? = some v
 len:x.n = v.length
structure FrC (fs:List AV) (n:Nat) (x:RFr):Prop where
 a0:fs[n * 3]? = some (.d (.int .i64 x.f))
 a1:fs[n * 3 + 1]? = some (.d (.int .i64 x.pc))
 a2:fs[n * 3 + 2]? = some (.rs x.k 0 x.n 1)
 row:(fs.drop (n * 3)).take 3 = [.d (.int .i64 x.f),.d (.int .i64 x.pc),.rs x.k 0 x.n 1]
 le:n * 3 + 3 ≤ fs.length
 le2:n * 3 + 1 + 1 ≤ fs.length
theorem frc_of {l:List RFr} {n:Nat} {x:RFr} (h:l[n]? = some x):FrC (frsA l) n x:=by
 have hl:=(List.getElem?_eq_some_iff.1 h).1
 refine ⟨flt_get fr_len h (j:=0) (by decide),flt_get fr_len h (j:=1) (by decide),flt_get fr_len h (j:=2) (by decide),flt_at fr_len h,?_,?_⟩
 ·rw [frs_len]; omega
 ·rw [frs_len]; omega
theorem frc_set {l:List RFr} {n:Nat} {x:RFr} (h:l[n]? = some x) (q:Int):(frsA l).take (n * 3 + 1) ++ [.d (.int .i64 q)] ++ (frsA l).drop (n * 3 + 1 + 1) = frsA (l.set n { x with pc:=q }):=by
 have:=flt_set (f:=RFr.av) fr_len (off:=1) (new:=[.d (.int .i64 q)]) (y:={ x with pc:=q }) h (by simp) rfl
 unfold splice at this
 exact this
theorem set_get {α:Type} {l:List α} {n:Nat} {x:α} (h:l[n]? = some x) (y:α):(l.set n y)[n]? = some y:=by
 rw [List.getElem?_set_self (List.getElem?_eq_some_iff.1 h).1]
set_option maxHeartbeats 8000000 in
theorem rstep_jump (hx:TX ext) (s:Rm) {n:Nat} {x:RFr} {c:Cd1} {i:In1} {v:List Int} (h:FrR s n x c i v) (o:i.op = 16) :
  G ext 20 [.ptr 1 0] s.H = some (.ret (.d (.int .i64 4)),(s.at n x i.to).H):=by
 have kr:=ces_refs s.cells
 have kn:=fun f=>ces_ren f s.cells
 obtain ⟨ht,hfew,hfr,f0,hc,p0,hi,hv,hn⟩:=h
 have hcl:(s.m.funcs.map Cd1.row).length = s.m.funcs.length:=List.length_map _
 have hlt:x.f < ((s.m.funcs.map Cd1.row).length:Nat):=by have:=(List.getElem?_eq_some_iff.1 hc).1; omega
 have hr:(s.m.funcs.map Cd1.row)[x.f.toNat]? = some c.row:=by rw [List.getElem?_map,hc]; rfl
 have hri:=ins_rows hi
 have hlti:=ins_lt p0 hi
 have hk:IntKind.wrap .i64 (((n + 1:Nat):Int) - 1) = (n:Int):=by rw [wrap64 (by omega) (by omega)]; omega
 obtain ⟨a0,a1,a2,arow,ale,ale2⟩:=frc_of hfr
 have w1:=frc_set hfr (IntKind.wrap .i64 (x.pc + 1))
 have hfr2:=set_get hfr { x with pc:=IntKind.wrap .i64 (x.pc + 1) }
 obtain ⟨b0,b1,b2,brow,ble,ble2⟩:=frc_of hfr2
 have kr2:=frs_refs s.stack
 have kn2:=fun f=>frs_ren f s.stack
 have kr3:=frs_refs (s.stack.set n { x with pc:=IntKind.wrap .i64 (x.pc + 1) })
 have kn3:=fun f=>frs_ren f (s.stack.set n { x with pc:=IntKind.wrap .i64 (x.pc + 1) })
 have hn0:(0:Int) ≤ (n:Int):=Int.natCast_nonneg _
 have hlt1:(n:Int) < ((n + 1:Nat):Int):=by omega
 simp only [Cd1.row] at hr
 have w2:=frc_set hfr2 i.to
 rw [List.set_set] at w2
 have kr4:=frs_refs (s.stack.set n { x with pc:=i.to })
 have kn4:=fun f=>frs_ren f (s.stack.set n { x with pc:=i.to })
 obtain ⟨op,d,a,b,f,nn,sign,args,mode,dest,els,pos⟩:=i
 simp only at o w2 kr4 kn4 ⊢
 subst o
 simp only [In1.row,ints] at hri
 rw [G_body hx.clear rfl Tryz.func20 rfl Tryz.results20 hv_20 rfl]
 simp only [Rm.at,Rm.H,Rm.robj,Rm.hobj,Md1.sr,Md1.fr,ht]
 generalize cesA s.cells = cs at kr kn ⊢
 generalize frsA (s.stack.set n { x with pc:=dest }) = fs3 at kr4 kn4 w2 ⊢
 generalize frsA (s.stack.set n { x with pc:=IntKind.wrap .i64 (x.pc + 1) }) = fs2 at kr3 kn3 w1 w2 b0 b1 b2 brow ble ble2 ⊢
 generalize frsA s.stack = fs at kr2 kn2 a0 a1 a2 arow ale ale2 w1 ⊢
 simp (maxSteps:=4000000) (disch:=first | (intros; contradiction) | omega) only [go_sem,kr,kn,kr2,kn2,kr3,kn3,kr4,kn4,hk,hlt,hr,f0,p0,hri,hlti,hn0,hlt1,a0,a1,a2,arow,ale,ale2,b0,b1,b2,brow,ble,ble2,w1,w2]
 done
set_option maxHeartbeats 8000000 in
theorem rstep_branch (hx:TX ext) (s:Rm) {n:Nat} {x:RFr} {c:Cd1} {i:In1} {v:List Int} (h:FrR s n x c i v) (o:i.op = 17) (ha:0 ≤ i.a∧i.a < (v.length:Nat)) :
  G ext 20 [.ptr 1 0] s.H = some (.ret (.d (.int .i64 4)),(s.at n x (if nthI v i.a ≠ 0 then i.to else i.els)).H):=by
 have kr:=ces_refs s.cells
 have kn:=fun f=>ces_ren f s.cells
 obtain ⟨ht,hfew,hfr,f0,hc,p0,hi,hv,hn⟩:=h
 have hcl:(s.m.funcs.map Cd1.row).length = s.m.funcs.length:=List.length_map _
 have hlt:x.f < ((s.m.funcs.map Cd1.row).length:Nat):=by have:=(List.getElem?_eq_some_iff.1 hc).1; omega
 have hr:(s.m.funcs.map Cd1.row)[x.f.toNat]? = some c.row:=by rw [List.getElem?_map,hc]; rfl
 have hri:=ins_rows hi
 have hlti:=ins_lt p0 hi
 have hk:IntKind.wrap .i64 (((n + 1:Nat):Int) - 1) = (n:Int):=by rw [wrap64 (by omega) (by omega)]; omega
 obtain ⟨a0,a1,a2,arow,ale,ale2⟩:=frc_of hfr
 have w1:=frc_set hfr (IntKind.wrap .i64 (x.pc + 1))
 have hfr2:=set_get hfr { x with pc:=IntKind.wrap .i64 (x.pc + 1) }
 obtain ⟨b0,b1,b2,brow,ble,ble2⟩:=frc_of hfr2
 have kr2:=frs_refs s.stack
 have kn2:=fun f=>frs_ren f s.stack
 have kr3:=frs_refs (s.stack.set n { x with pc:=IntKind.wrap .i64 (x.pc + 1) })
 have kn3:=fun f=>frs_ren f (s.stack.set n { x with pc:=IntKind.wrap .i64 (x.pc + 1) })
 have hn0:(0:Int) ≤ (n:Int):=Int.natCast_nonneg _
 have hlt1:(n:Int) < ((n + 1:Nat):Int):=by omega
 simp only [Cd1.row] at hr
 have hix:=Ix.of hv ha.1 ha.2
 have v1:=hix.get
 have v2:=hix.one
 have v3:=ha.1
 have v4:i.a < (x.n:Int):=by rw [hn]; exact ha.2
 have w2:=frc_set hfr2 i.els
 rw [List.set_set] at w2
 have hfr3:=set_get hfr { x with pc:=i.els }
 obtain ⟨_,_,_,_,cle,cle2⟩:=frc_of hfr3
 have w3:=frc_set hfr3 i.to
 rw [List.set_set] at w3
 have kr4:=frs_refs (s.stack.set n { x with pc:=i.els })
 have kn4:=fun f=>frs_ren f (s.stack.set n { x with pc:=i.els })
 have kr5:=frs_refs (s.stack.set n { x with pc:=i.to })
 have kn5:=fun f=>frs_ren f (s.stack.set n { x with pc:=i.to })
 obtain ⟨op,d,a,b,f,nn,sign,args,mode,dest,els,pos⟩:=i
 simp only at o w2 w3 v2 v3 v4 kr4 kn4 kr5 kn5 cle cle2 ⊢
 subst o
 simp only [In1.row,ints] at hri
 rw [G_body hx.clear rfl Tryz.func20 rfl Tryz.results20 hv_20 rfl]
 by_cases hz:nthI v a = 0
 ·rw [hz] at v2
  rw [if_neg (by simp [hz])]
  clear w3 kr5 kn5
  simp only [Rm.at,Rm.H,Rm.robj,Rm.hobj,Md1.sr,Md1.fr,ht]
  generalize cesA s.cells = cs at kr kn ⊢
  generalize frsA (s.stack.set n { x with pc:=els }) = fs3 at kr4 kn4 w2 cle cle2 ⊢
  generalize frsA (s.stack.set n { x with pc:=IntKind.wrap .i64 (x.pc + 1) }) = fs2 at kr3 kn3 w1 w2 b0 b1 b2 brow ble ble2 ⊢
  generalize frsA s.stack = fs at kr2 kn2 a0 a1 a2 arow ale ale2 w1 ⊢
  simp (maxSteps:=4000000) (disch:=first | (intros; contradiction) | omega) only [go_sem,kr,kn,kr2,kn2,kr3,kn3,kr4,kn4,hk,hlt,hr,f0,p0,hri,hlti,hn0,hlt1,a0,a1,a2,arow,ale,ale2,b0,b1,b2,brow,ble,ble2,w1,w2,v1,v2,v3,v4,Nat.mul_one]
  done
 ·rw [if_pos hz]
  simp only [Rm.at,Rm.H,Rm.robj,Rm.hobj,Md1.sr,Md1.fr,ht]
  generalize cesA s.cells = cs at kr kn ⊢
  generalize frsA (s.stack.set n { x with pc:=dest }) = fs4 at kr5 kn5 w3 ⊢
  generalize frsA (s.stack.set n { x with pc:=els }) = fs3 at kr4 kn4 w2 w3 cle cle2 ⊢
  generalize frsA (s.stack.set n { x with pc:=IntKind.wrap .i64 (x.pc + 1) }) = fs2 at kr3 kn3 w1 w2 b0 b1 b2 brow ble ble2 ⊢
  generalize frsA s.stack = fs at kr2 kn2 a0 a1 a2 arow ale ale2 w1 ⊢
  simp (maxSteps:=4000000) (disch:=first | (intros; contradiction) | omega) only [go_sem,kr,kn,kr2,kn2,kr3,kn3,kr4,kn4,kr5,kn5,hk,hlt,hr,f0,p0,hri,hlti,hn0,hlt1,a0,a1,a2,arow,ale,ale2,b0,b1,b2,brow,ble,ble2,cle,cle2,w1,w2,w3,v1,v2,v3,v4,hz,Nat.mul_one]
  done
def Rm.last (s:Rm) (n:Nat) (x:RFr) (y:Int):Rm:={ s.at n x (IntKind.wrap .i64 (x.pc + 1)) with top:=n,code:=y }
set_option maxHeartbeats 8000000 in
theorem rstep_last (hx:TX ext) (s:Rm) {x:RFr} {c:Cd1} {i:In1} {v:List Int} (h:FrR s 0 x c i v) (o:i.op = 18) (ha:0 ≤ i.a∧i.a < (v.length:Nat)) :
  G ext 20 [.ptr 1 0] s.H = some (.ret (.d (.int .i64 1)),(s.last 0 x (nthI v i.a)).H):=by
 obtain ⟨n,hnn⟩:∃ n:Nat,n = 0:=⟨_,rfl⟩
 rw [← hnn] at h ⊢
 have kr:=ces_refs s.cells
 have kn:=fun f=>ces_ren f s.cells
 obtain ⟨ht,hfew,hfr,f0,hc,p0,hi,hv,hn⟩:=h
 have hcl:(s.m.funcs.map Cd1.row).length = s.m.funcs.length:=List.length_map _
 have hlt:x.f < ((s.m.funcs.map Cd1.row).length:Nat):=by have:=(List.getElem?_eq_some_iff.1 hc).1; omega
 have hr:(s.m.funcs.map Cd1.row)[x.f.toNat]? = some c.row:=by rw [List.getElem?_map,hc]; rfl
 have hri:=ins_rows hi
 have hlti:=ins_lt p0 hi
 have hk:IntKind.wrap .i64 (((n + 1:Nat):Int) - 1) = (n:Int):=by rw [wrap64 (by omega) (by omega)]; omega
 obtain ⟨a0,a1,a2,arow,ale,ale2⟩:=frc_of hfr
 have w1:=frc_set hfr (IntKind.wrap .i64 (x.pc + 1))
 have hfr2:=set_get hfr { x with pc:=IntKind.wrap .i64 (x.pc + 1) }
 obtain ⟨b0,b1,b2,brow,ble,ble2⟩:=frc_of hfr2
 have kr2:=frs_refs s.stack
 have kn2:=fun f=>frs_ren f s.stack
 have kr3:=frs_refs (s.stack.set n { x with pc:=IntKind.wrap .i64 (x.pc + 1) })
 have kn3:=fun f=>frs_ren f (s.stack.set n { x with pc:=IntKind.wrap .i64 (x.pc + 1) })
 have hn0:(0:Int) ≤ (n:Int):=Int.natCast_nonneg _
 have hlt1:(n:Int) < ((n + 1:Nat):Int):=by omega
 simp only [Cd1.row] at hr
 have hix:=Ix.of hv ha.1 ha.2
 have v1:=hix.get
 have v2:=hix.one
 have v3:=ha.1
 have v4:i.a < (x.n:Int):=by rw [hn]; exact ha.2
 obtain ⟨op,d,a,b,f,nn,sign,args,mode,dest,els,pos⟩:=i
 simp only at o v2 v3 v4 ⊢
 subst o
 simp only [In1.row,ints] at hri
 rw [G_body hx.clear rfl Tryz.func20 rfl Tryz.results20 hv_20 rfl]
 simp only [Rm.last,Rm.at,Rm.H,Rm.robj,Rm.hobj,Md1.sr,Md1.fr,ht]
 generalize cesA s.cells = cs at kr kn ⊢
 generalize frsA (s.stack.set n { x with pc:=IntKind.wrap .i64 (x.pc + 1) }) = fs2 at kr3 kn3 w1 b0 b1 b2 brow ble ble2 ⊢
 generalize frsA s.stack = fs at kr2 kn2 a0 a1 a2 arow ale ale2 w1 ⊢
 clear hk hn0 hlt1 hfr2 b0 b1 b2 brow ble ble2 hfew ht hfr
 subst hnn
 have hw0:IntKind.wrap .i64 0 = 0:=rfl
 simp only [Nat.zero_mul,Nat.zero_add,List.drop_zero,Nat.reduceAdd] at a0 a1 a2 arow ale ale2 w1 ⊢
 simp (maxSteps:=4000000) (disch:=first | (intros; contradiction) | omega) only [go_sem,hw0,kr,kn,kr2,kn2,kr3,kn3,hlt,hr,f0,p0,hri,hlti,a0,a1,a2,arow,ale,ale2,w1,v1,v2,v3,v4,Nat.mul_one,Nat.zero_mul,Nat.zero_add,List.drop_zero,Int.toNat_zero]
 done
end Go.Proofs.YtkflggjdlflndaaGreat
