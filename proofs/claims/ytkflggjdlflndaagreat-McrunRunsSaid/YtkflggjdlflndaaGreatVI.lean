/- The document's machine: a step without frames. Conditions: none. -/
import Derived.Test.YtkflggjdlflndaaGreatVG
set_option linter.unusedSimpArgs false
set_option linter.unusedVariables false
namespace Go.Proofs.YtkflggjdlflndaaGreat
open Go Go.Ab
variable {ext:Sem'}
def siteR (s:Rm) (k:Nat) (f pc:Int):Rm:=match s.cells[k]? with
 | some c=>{ s with cells:=s.cells.set k { c with a:=f,b:=pc } }
 | none=>s
theorem ces_site {l:List RCe} {k:Nat} {c:RCe} (h:l[k]? = some c) (f pc:Int):(cesA l).take (k * 4 + 2) ++ [.d (.int .i64 f),.d (.int .i64 pc)] ++ (cesA l).drop (k * 4 + 2 + 2) = cesA (l.set k { c with a:=f,b:=pc }):=by
 have:=flt_set (f:=RCe.av) ce_len (off:=2) (new:=[.d (.int .i64 f),.d (.int .i64 pc)]) (y:={ c with a:=f,b:=pc }) h (by simp) rfl
 unfold splice at this
 exact this
set_option maxHeartbeats 8000000 in
theorem rstep_plain (hx:TX ext) (s:Rm) {n:Nat} {x:RFr} {c:Cd1} {i:In1} {v:List Int} (h:FrR s n x c i v) (o:1 ≤ i.op∧i.op ≤ 14) (bb:Bool) (s2:Rm)
  (hp:G ext 36 [.ptr 1 0,i.av,.rs x.k 0 x.n 1] (s.at n x (IntKind.wrap .i64 (x.pc + 1))).H = some (.ret (.d (.bool bb)),s2.H)) (hm:s2.cells.length = s.cells.length ∨ s2.cells.length = s.cells.length + 1) :
  G ext 20 [.ptr 1 0] s.H = some (.ret (.d (.int .i64 (if bb then 4 else 2))),(if bb then siteR s2 s.cells.length x.f x.pc else s2).H):=by
 have e15:¬ i.op = 15:=by omega
 have e16:¬ i.op = 16:=by omega
 have e17:¬ i.op = 17:=by omega
 have e18:¬ i.op = 18:=by omega
 have kr:=ces_refs s.cells
 have kn:=fun f=>ces_ren f s.cells
 obtain ⟨ht,hfew,hfr,f0,hc,p0,hi,hv,hn⟩:=h
 have hcl:(s.m.funcs.map Cd1.row).length = s.m.funcs.length:=List.length_map _
 have hlt:x.f < ((s.m.funcs.map Cd1.row).length:Nat):=by have:=(List.getElem?_eq_some_iff.1 hc).1; omega
 have hr:(s.m.funcs.map Cd1.row)[x.f.toNat]? = some c.row:=by rw [List.getElem?_map,hc]; rfl
 have hri:=ins_rows hi
 have hlti:=ins_lt p0 hi
 have hk:IntKind.wrap .i64 (((n + 1:Nat):Int) - 1) = (n:Int):=by rw [wrap64 (by omega) (by omega)]; omega
 obtain ⟨a0,a1,a2,arow,ale,ale2⟩:=frc_of hfr
 have w1:=frc_set hfr (IntKind.wrap .i64 (x.pc + 1))
 have hfr2:=set_get hfr { x with pc:=IntKind.wrap .i64 (x.pc + 1) }
 obtain ⟨b0,b1,b2,brow,ble,ble2⟩:=frc_of hfr2
 have kr2:=frs_refs s.stack
 have kn2:=fun f=>frs_ren f s.stack
 have kr3:=frs_refs (s.stack.set n { x with pc:=IntKind.wrap .i64 (x.pc + 1) })
 have kn3:=fun f=>frs_ren f (s.stack.set n { x with pc:=IntKind.wrap .i64 (x.pc + 1) })
 have hn0:(0:Int) ≤ (n:Int):=Int.natCast_nonneg _
 have hlt1:(n:Int) < ((n + 1:Nat):Int):=by omega
 simp only [Cd1.row] at hr
 have krE:=frs_refs s2.stack
 have knE:=fun f=>frs_ren f s2.stack
 have krC:=ces_refs s2.cells
 have knC:=fun f=>ces_ren f s2.cells
 obtain ⟨op,d,a,b,f,nn,sign,args,mode,dest,els,pos⟩:=i
 simp only [In1.row,In1.av,ints] at hri hp e15 e16 e17 e18
 have hl0:(0:Int) ≤ (s.cells.length:Int):=Int.natCast_nonneg _
 cases bb with
 | false=>
  simp only [Bool.false_eq_true,if_false]
  rw [G_body hx.clear rfl Tryz.func20 rfl Tryz.results20 hv_20 rfl]
  simp only [Rm.at,Rm.H,Rm.robj,Rm.hobj,Md1.sr,Md1.fr,ht] at hp ⊢
  generalize cesA s.cells = cs at kr kn hp ⊢
  generalize cesA s2.cells = cs2 at krC knC hp ⊢
  generalize frsA s2.stack = fsE at krE knE hp ⊢
  generalize frsA (s.stack.set n { x with pc:=IntKind.wrap .i64 (x.pc + 1) }) = fs2 at kr3 kn3 w1 b0 b1 b2 brow ble ble2 hp ⊢
  generalize frsA s.stack = fs at kr2 kn2 a0 a1 a2 arow ale ale2 w1 ⊢
  simp (maxSteps:=4000000) (disch:=first | (intros; contradiction) | omega) only [go_sem,kr,kn,kr2,kn2,kr3,kn3,krE,knE,krC,knC,hk,hlt,hr,f0,p0,hri,hlti,hn0,hlt1,a0,a1,a2,arow,ale,ale2,b0,b1,b2,brow,ble,ble2,w1,hp,e15,e16,e17,e18]
  done
 | true=>
  simp only [if_true]
  rcases hm with hm | hm
  ·have hs:siteR s2 s.cells.length x.f x.pc = s2:=by unfold siteR; rw [List.getElem?_eq_none (by omega)]
   have hnl:¬ (s.cells.length:Int) < (s2.cells.length:Int):=by omega
   rw [hs]
   rw [G_body hx.clear rfl Tryz.func20 rfl Tryz.results20 hv_20 rfl]
   simp only [Rm.at,Rm.H,Rm.robj,Rm.hobj,Md1.sr,Md1.fr,ht] at hp ⊢
   generalize cesA s.cells = cs at kr kn hp ⊢
   generalize cesA s2.cells = cs2 at krC knC hp ⊢
   generalize frsA s2.stack = fsE at krE knE hp ⊢
   generalize frsA (s.stack.set n { x with pc:=IntKind.wrap .i64 (x.pc + 1) }) = fs2 at kr3 kn3 w1 b0 b1 b2 brow ble ble2 hp ⊢
   generalize frsA s.stack = fs at kr2 kn2 a0 a1 a2 arow ale ale2 w1 ⊢
   simp (maxSteps:=4000000) (disch:=first | (intros; contradiction) | omega) only [go_sem,kr,kn,kr2,kn2,kr3,kn3,krE,knE,krC,knC,hk,hlt,hr,f0,p0,hri,hlti,hn0,hlt1,a0,a1,a2,arow,ale,ale2,b0,b1,b2,brow,ble,ble2,w1,hp,e15,e16,e17,e18,hnl]
   done
  ·have hat:s2.cells[s.cells.length]? = some (s2.cells[s.cells.length]'(by omega)):=List.getElem?_eq_getElem (by omega)
   have hnl:(s.cells.length:Int) < (s2.cells.length:Int):=by omega
   have hs:=ces_site hat x.f x.pc
   have hcl2:=ces_len s2.cells
   have hle:s.cells.length * 4 + 2 + 2 ≤ (cesA s2.cells).length:=by rw [hcl2]; omega
   unfold siteR
   rw [hat]
   generalize s2.cells[s.cells.length]'(by omega) = ce at hs ⊢
   have krS:=ces_refs (s2.cells.set s.cells.length { ce with a:=x.f,b:=x.pc })
   have knS:=fun f=>ces_ren f (s2.cells.set s.cells.length { ce with a:=x.f,b:=x.pc })
   rw [G_body hx.clear rfl Tryz.func20 rfl Tryz.results20 hv_20 rfl]
   simp only [Rm.at,Rm.H,Rm.robj,Rm.hobj,Md1.sr,Md1.fr,ht,List.length_set] at hp ⊢
   generalize cesA (s2.cells.set s.cells.length { ce with a:=x.f,b:=x.pc }) = cs3 at krS knS hs ⊢
   generalize cesA s.cells = cs at kr kn hp ⊢
   generalize cesA s2.cells = cs2 at krC knC hp hs hle ⊢
   generalize frsA s2.stack = fsE at krE knE hp ⊢
   generalize frsA (s.stack.set n { x with pc:=IntKind.wrap .i64 (x.pc + 1) }) = fs2 at kr3 kn3 w1 b0 b1 b2 brow ble ble2 hp ⊢
   generalize frsA s.stack = fs at kr2 kn2 a0 a1 a2 arow ale ale2 w1 ⊢
   simp (maxSteps:=4000000) (disch:=first | (intros; contradiction) | omega) only [go_sem,kr,kn,kr2,kn2,kr3,kn3,krE,knE,krC,knC,krS,knS,hk,hlt,hr,f0,p0,hri,hlti,hn0,hlt1,a0,a1,a2,arow,ale,ale2,b0,b1,b2,brow,ble,ble2,w1,hp,e15,e16,e17,e18,hnl,hl0,hs,hle]
   done
end Go.Proofs.YtkflggjdlflndaaGreat
