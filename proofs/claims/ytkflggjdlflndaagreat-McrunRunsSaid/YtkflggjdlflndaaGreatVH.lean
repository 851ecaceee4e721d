/- The document's machine: a step, calls and returns. Conditions: none. -/
import Derived.Test.YtkflggjdlflndaaGreatVG
import Derived.Test.YtkflggjdlflndaaGreatLp
set_option linter.unusedSimpArgs false
set_option linter.unusedVariables false
namespace Go.Proofs.YtkflggjdlflndaaGreat
open Go Go.Ab
variable {ext:Sem'}
def Rm.more (s:Rm) (n:Nat) (x y:RFr) (v2:List Int) (d z:Int):Rm:={ s.at n x (IntKind.wrap .i64 (x.pc + 1)) with top:=n,reg:=s.reg.set y.k (v2.set d.toNat z) }
structure LowR (s:Rm) (n n2:Nat) (y:RFr) (c2:Cd1) (i2:In1) (v2:List Int):Prop where
 n:n = n2 + 1
 fr:s.stack[n2]? = some y
 f0:0 ≤ y.f
 code:s.m.funcs[y.f.toNat]? = some c2
 pc0:1 ≤ y.pc
 pc1:y.pc ≤ 1000000
 ins:c2.ins[(y.pc - 1).toNat]? = some i2
 vs:s.reg[y.k]? = some v2
 len:y.n = v2.length
 d0:0 ≤ i2.d
 d1:i2.d < (v2.length:Nat)
set_option maxHeartbeats 8000000 in
theorem rstep_more (hx:TX ext) (s:Rm) {n n2:Nat} {x y:RFr} {c c2:Cd1} {i i2:In1} {v v2:List Int} (h:FrR s n x c i v) (g:LowR s n n2 y c2 i2 v2) (o:i.op = 18) (ha:0 ≤ i.a∧i.a < (v.length:Nat)) :
  G ext 20 [.ptr 1 0] s.H = some (.ret (.d (.int .i64 4)),(s.more n x y v2 i2.d (nthI v i.a)).H):=by
 have kr:=ces_refs s.cells
 have kn:=fun f=>ces_ren f s.cells
 obtain ⟨ht,hfew,hfr,f0,hc,p0,hi,hv,hn⟩:=h
 have hcl:(s.m.funcs.map Cd1.row).length = s.m.funcs.length:=List.length_map _
 have hlt:x.f < ((s.m.funcs.map Cd1.row).length:Nat):=by have:=(List.getElem?_eq_some_iff.1 hc).1; omega
 have hr:(s.m.funcs.map Cd1.row)[x.f.toNat]? = some c.row:=by rw [List.getElem?_map,hc]; rfl
 have hri:=ins_rows hi
 have hlti:=ins_lt p0 hi
 have hk:IntKind.wrap .i64 (((n + 1:Nat):Int) - 1) = (n:Int):=by rw [wrap64 (by omega) (by omega)]; omega
 obtain ⟨a0,a1,a2,arow,ale,ale2⟩:=frc_of hfr
 have w1:=frc_set hfr (IntKind.wrap .i64 (x.pc + 1))
 have hfr2:=set_get hfr { x with pc:=IntKind.wrap .i64 (x.pc + 1) }
 obtain ⟨b0,b1,b2,brow,ble,ble2⟩:=frc_of hfr2
 have kr2:=frs_refs s.stack
 have kn2:=fun f=>frs_ren f s.stack
 have kr3:=frs_refs (s.stack.set n { x with pc:=IntKind.wrap .i64 (x.pc + 1) })
 have kn3:=fun f=>frs_ren f (s.stack.set n { x with pc:=IntKind.wrap .i64 (x.pc + 1) })
 have hn0:(0:Int) ≤ (n:Int):=Int.natCast_nonneg _
 have hlt1:(n:Int) < ((n + 1:Nat):Int):=by omega
 simp only [Cd1.row] at hr
 have hix:=Ix.of hv ha.1 ha.2
 have v1:=hix.get
 have v2':=hix.one
 have v3:=ha.1
 have v4:i.a < (x.n:Int):=by rw [hn]; exact ha.2
 have hne:¬ (n:Int) = 0:=by have:=g.n; omega
 have hle:(n:Int) ≤ ((n + 1:Nat):Int):=by omega
 have hk2:IntKind.wrap .i64 ((n:Int) - 1) = (n2:Int):=by have:=g.n; rw [wrap64 (by omega) (by omega)]; omega
 have hlt2:(n2:Int) < (n:Int):=by have:=g.n; omega
 have hn20:(0:Int) ≤ (n2:Int):=Int.natCast_nonneg _
 have hy:(s.stack.set n { x with pc:=IntKind.wrap .i64 (x.pc + 1) })[n2]? = some y:=by rw [List.getElem?_set_ne (by have:=g.n; omega)]; exact g.fr
 obtain ⟨c0,c1,c22,crow,cle,cle2⟩:=frc_of hy
 have y0:=g.f0
 have hlty:y.f < ((s.m.funcs.map Cd1.row).length:Nat):=by have:=(List.getElem?_eq_some_iff.1 g.code).1; omega
 have hry:(s.m.funcs.map Cd1.row)[y.f.toNat]? = some c2.row:=by rw [List.getElem?_map,g.code]; rfl
 have hwy:IntKind.wrap .i64 (y.pc - 1) = y.pc - 1:=by have:=g.pc0; have:=g.pc1; exact wrap64 (by omega) (by omega)
 have hy1:0 ≤ y.pc - 1:=by have:=g.pc0; omega
 have hriy:=ins_rows g.ins
 have hltiy:=ins_lt hy1 g.ins
 have hset:=(Ix.of g.vs g.d0 g.d1).set (nthI v i.a)
 have d0:=g.d0
 have d1:i2.d < (y.n:Int):=by rw [g.len]; exact g.d1
 simp only [Cd1.row] at hry
 simp only [In1.row,ints] at hriy
 obtain ⟨op,d,a,b,f,nn,sign,args,mode,dest,els,pos⟩:=i
 simp only at o v2' v3 v4 hset ⊢
 subst o
 simp only [In1.row,ints] at hri
 rw [G_body hx.clear rfl Tryz.func20 rfl Tryz.results20 hv_20 rfl]
 simp only [Rm.more,Rm.at,Rm.H,Rm.robj,Rm.hobj,Md1.sr,Md1.fr,ht]
 generalize cesA s.cells = cs at kr kn ⊢
 generalize frsA (s.stack.set n { x with pc:=IntKind.wrap .i64 (x.pc + 1) }) = fs2 at kr3 kn3 w1 b0 b1 b2 brow ble ble2 c0 c1 c22 crow cle cle2 ⊢
 generalize frsA s.stack = fs at kr2 kn2 a0 a1 a2 arow ale ale2 w1 ⊢
 simp (maxSteps:=4000000) (disch:=first | (intros; contradiction) | omega) only [go_sem,kr,kn,kr2,kn2,kr3,kn3,hk,hk2,hlt,hr,f0,p0,hri,hlti,hn0,hlt1,hn20,hlt2,a0,a1,a2,arow,ale,ale2,c0,c1,c22,crow,cle,cle2,w1,v1,v2',v3,v4,hne,hle,y0,hlty,hry,hwy,hy1,hriy,hltiy,hset,d0,d1,Nat.mul_one]
 done
structure CallR (s:Rm) (i:In1) (v:List Int) (g:Cd1):Prop where
 f0:0 ≤ i.f
 code:s.m.funcs[i.f.toNat]? = some g
 vars:g.vars.length ≤ 1000
 few:i.args.length ≤ g.vars.length
 args:∀ a,a ∈ i.args→0 ≤ a∧a < (v.length:Int)
set_option maxHeartbeats 8000000 in
theorem rstep_call (hx:T5 ext) (s:Rm) {n:Nat} {x:RFr} {c g:Cd1} {i:In1} {v:List Int} (h:FrR s n x c i v) (hg:CallR s i v g) (o:i.op = 15) :
  G ext 20 [.ptr 1 0] s.H = some (.ret (.d (.int .i64 4)),(enterR (s.at n x (IntKind.wrap .i64 (x.pc + 1))) i.f g (i.args.map (nthI v))).H):=by
 have hent:=G_ext (hx.renter (s.at n x (IntKind.wrap .i64 (x.pc + 1))) i.f g (i.args.map (nthI v)) hg.f0 hg.code hg.vars (by rw [List.length_map]; exact hg.few) (by have h1:=(List.getElem?_eq_some_iff.1 h.fr).1; have h2:=h.top; show s.top ≤ (s.stack.set n _).length; rw [List.length_set]; omega) (by have h2:=h.top; have h3:=h.few; show s.top ≤ 100000; omega))
 have hcells:(enterR (s.at n x (IntKind.wrap .i64 (x.pc + 1))) i.f g (i.args.map (nthI v))).cells = s.cells:=rfl
 have hargs:=hg.args
 have hvars:=hg.vars
 have hfew:=hg.few
 have kr:=ces_refs s.cells
 have kn:=fun f=>ces_ren f s.cells
 obtain ⟨ht,hfew,hfr,f0,hc,p0,hi,hv,hn⟩:=h
 have hcl:(s.m.funcs.map Cd1.row).length = s.m.funcs.length:=List.length_map _
 have hlt:x.f < ((s.m.funcs.map Cd1.row).length:Nat):=by have:=(List.getElem?_eq_some_iff.1 hc).1; omega
 have hr:(s.m.funcs.map Cd1.row)[x.f.toNat]? = some c.row:=by rw [List.getElem?_map,hc]; rfl
 have hri:=ins_rows hi
 have hlti:=ins_lt p0 hi
 have hk:IntKind.wrap .i64 (((n + 1:Nat):Int) - 1) = (n:Int):=by rw [wrap64 (by omega) (by omega)]; omega
 obtain ⟨a0,a1,a2,arow,ale,ale2⟩:=frc_of hfr
 have w1:=frc_set hfr (IntKind.wrap .i64 (x.pc + 1))
 have hfr2:=set_get hfr { x with pc:=IntKind.wrap .i64 (x.pc + 1) }
 obtain ⟨b0,b1,b2,brow,ble,ble2⟩:=frc_of hfr2
 have kr2:=frs_refs s.stack
 have kn2:=fun f=>frs_ren f s.stack
 have kr3:=frs_refs (s.stack.set n { x with pc:=IntKind.wrap .i64 (x.pc + 1) })
 have kn3:=fun f=>frs_ren f (s.stack.set n { x with pc:=IntKind.wrap .i64 (x.pc + 1) })
 have hn0:(0:Int) ≤ (n:Int):=Int.natCast_nonneg _
 have hlt1:(n:Int) < ((n + 1:Nat):Int):=by omega
 simp only [Cd1.row] at hr
 have v1:=geti hv
 have hal:(i.args.map rowI).length = i.args.length:=List.length_map _
 have hb0:=fits_rowI
 obtain ⟨op,d,a,b,f,nn,sign,args,mode,dest,els,pos⟩:=i
 simp only at o hargs hfew hent hcells hal ⊢
 subst o
 simp only [In1.row,ints] at hri
 generalize hE:enterR (s.at n x (IntKind.wrap .i64 (x.pc + 1))) f g (args.map (nthI v)) = s2 at hent hcells ⊢
 have krE:=frs_refs s2.stack
 have knE:=fun f=>frs_ren f s2.stack
 rw [G_body hx.clear rfl Tryz.func20 rfl Tryz.results20 hv_20 rfl]
 simp only [Rm.at,Rm.H,Rm.robj,Rm.hobj,Md1.sr,Md1.fr,ht,hcells] at hent ⊢
 generalize cesA s.cells = cs at kr kn hent ⊢
 generalize frsA s2.stack = fsE at krE knE hent ⊢
 generalize frsA (s.stack.set n { x with pc:=IntKind.wrap .i64 (x.pc + 1) }) = fs2 at kr3 kn3 w1 b0 b1 b2 brow ble ble2 hent ⊢
 generalize frsA s.stack = fs at kr2 kn2 a0 a1 a2 arow ale ale2 w1 ⊢
 simp (maxSteps:=4000000) (disch:=first | (intros; contradiction) | omega) only [go_sem,kr,kn,kr2,kn2,kr3,kn3,hk,hlt,hr,f0,p0,hri,hlti,hn0,hlt1,a0,a1,a2,arow,ale,ale2,b0,b1,b2,brow,ble,ble2,w1,v1,Nat.mul_one]
 generalize hL:loopA _ _ _ = L
 apply range_upd hL (by simp (maxSteps:=4000000) (disch:=first | (intros; contradiction) | omega) only [go_sem,kr,kr2,kr3] <;> rfl) args rowI (α:=Unit) (fun rest k _=>True) (fun k _=>[(6,.grow 8 k (((args.take k).map (nthI v)).map rowI)),(7,.d (.int .i64 k))]) (fun k _=>[(8,.grow k 1)]) () (by simp only [List.take_zero,List.map_nil]; rfl) trivial ?_ ?_
 ·intro z rest k _ _ hltk hrz hxz hkk _ next ih
  clear hL
  simp only [rowI] at hrz
  obtain ⟨z0,z1⟩:=hargs z (List.mem_of_getElem? hxz)
  have hix:=Ix.of hv z0 z1
  have v2:=hix.one
  have v4:z < (x.n:Int):=by rw [hn]; exact z1
  have hsn:((args.take (k + 1)).map (nthI v)).map rowI = ((args.take k).map (nthI v)).map rowI ++ [rowI (nthI v z)]:=by
   rw [List.take_add_one,hxz]; simp
  have hft:fits 1 [[Dt.int .i64 (nthI v z)]]:=fits_rowI [nthI v z]
  have hrm:room ((((args.take k).map (nthI v)).map rowI).length + 1) 8:=room_ints (by simp; omega)
  simp (maxSteps:=4000000) (disch:=first | (intros; contradiction) | omega) only [go_sem,kr,kn,kr2,kn2,kr3,kn3,hltk,hrz,z0,v1,v2,v4,hft,hrm,wrap64,Nat.mul_one]
  refine ih () _ trivial ?_
  rw [hsn]
  simp (maxSteps:=4000000) (disch:=first | (intros; contradiction) | omega) only [go_sem,kr,kr2,kr3] <;> rfl
 ·intro k _ _ hltk hkk next
  clear hL
  subst hkk
  rw [List.take_length]
  simp (maxSteps:=4000000) (disch:=first | (intros; contradiction) | omega) only [go_sem,kr,kn,kr2,kn2,kr3,kn3,krE,knE,hltk,hent]
  done
end Go.Proofs.YtkflggjdlflndaaGreat
