/- The machine: memory that is made; The machine: memory that is made goes into the region; The machine: a new one, a run; The machine: a run. Conditions: none. -/
import Derived.Test.YtkflggjdlflndaaGreatZ57
set_option linter.unusedSimpArgs false
set_option linter.unusedVariables false
namespace Go.Proofs.YtkflggjdlflndaaGreat
open Go Go.Ab
variable {ext:Sem'}
theorem G_bodyN {f:Nat} {F:Func} {c:Code} {xs:List AV} {H:List AObj} {rs:List ResultVar} {V:List Nat} (he:ext f xs H = none) (h:Tryz.prog.funcs[f]? = some F) (hb:F.body = some c) (hr:F.results = ⟨rs⟩) (hV:hv f = V) (hl:Nat.ble xs.length F.ntmps = true) :
  G ext f xs H = finish Tryz.prog rs H.length (evC Tryz.prog (G ext) (hd f) (hf f) 0 c (.go (Go.Ab.start xs V H))):=
 callA_body he h hb hr hV (Nat.le_of_ble_eq_true hl)
theorem ptrV_cells (p:Option Nat):cellsA (ptrV p) = some [ptrV p]:=by cases p <;> rfl
attribute [go_sem] ptrV_cells
theorem zeros_flat (n:Nat):(List.replicate n [AV.d (.int .i64 0),AV.d .nilp]).flatten = valsA (List.replicate n (0,none)):=by
 induction n with
 | zero=>rfl
 | succ n ih=>rw [List.replicate_succ,List.replicate_succ,List.flatten_cons,vals_cons,ih]; rfl
theorem src_aO (e:Nat) (l:List Vl):cpyCells l.length 2 (stkOf e (aO e l)) = some (l.length,valsA l):=by
 have:=vals_len l
 unfold aO
 simp only [stkOf,if_true,cpyCells]
 rw [if_pos (by omega),List.take_of_length_le (by omega)]
theorem cpy_zeros (r n:Nat) (l:List Vl) (h:l.length ≤ n):cpyW r 0 n 2 (some (valsA (List.replicate n (0,none)))) (some (l.length,valsA l)) = some (.val (.d (.int .i64 l.length)) [(r,.cells (valsA (l ++ List.replicate (n - l.length) (0,none))))]):=by
 have h1:=vals_len l
 have h2:=vals_len (List.replicate n ((0,none):Vl))
 rw [List.length_replicate] at h2
 simp only [cpyW]
 rw [if_pos (by omega)]
 have e:splice (valsA (List.replicate n (0,none))) 0 (valsA l) = valsA (l ++ List.replicate (n - l.length) (0,none)):=by
  unfold splice
  rw [Nat.zero_add,h1,Nat.mul_comm,vals_drop,List.drop_replicate]
  simp [valsA]
 rw [e]
set_option maxHeartbeats 4000000 in
theorem enter_base0 (hx:T1 ext) (he:∀ xs H,ext 26 xs H = none) (s:Mc) (f tv:Int) (c:Cd1) (h0:0 ≤ f) (hf:s.m.funcs[f.toNat]? = some c) (hn:c.vars.length ≤ 1000) :
  G ext 26 [.ptr 1 0,.d (.int .i64 f),.d (.sl []),.d (.int .i64 tv)] s.H = some (.ret (.tuple []),[.reg (rgA s.reg),.cells [.d s.m.sr,.d s.m.fr,.d (.sl (s.inp.map rowU)),.d (.sl (s.fails.map rowT)),.ptr 4 0,.stk 2 s.es s.cells.length,.d (.int .i64 s.asked),.d (.int .i64 s.kind),.d (.int .i64 s.code),.grow 3 s.eg (s.out.map rowU),.d (.int .i64 s.steps),.d (.int .i64 0)],.stk s.es 1 (s.cells.map cellA),.grow s.eg 1,.cells [.dp c.row,.d (.int .i64 0),.arr 5 0 c.vars.length 2,ptrV s.top,.d (.int .i64 tv)],.cells (valsA (List.replicate c.vars.length (0,none)))]):=by
 have kr:=cell_refs s.cells
 have kn:=fun f=>cell_ren f s.cells
 have hfl:(s.m.funcs.map Cd1.row).length = s.m.funcs.length:=List.length_map _
 have hlt:f < ((s.m.funcs.map Cd1.row).length:Nat):=by have:=(List.getElem?_eq_some_iff.1 hf).1; omega
 have hr:(s.m.funcs.map Cd1.row)[f.toNat]? = some c.row:=by rw [List.getElem?_map,hf]; rfl
 have hvl:(c.vars.map Vr1.row).length = c.vars.length:=List.length_map _
 have hroom:room c.vars.length 16:=by unfold room; simp; omega
 have hle:((c.vars.length:Nat):Int) ≤ ((c.vars.length:Nat):Int):=Int.le_refl _
 have z1:=vals_refs (List.replicate c.vars.length (0,none))
 have z2:=fun f=>vals_ren f (List.replicate c.vars.length (0,none))
 have hz:=zeros_flat c.vars.length
 simp only [Cd1.row] at hr
 rw [G_bodyN (he _ _) Tryz.func26 rfl Tryz.results26 hv_26 rfl]
 simp only [Mc.H,Mc.obj,Md1.sr,Md1.fr,Cd1.row,List.cons_append,List.nil_append]
 generalize s.cells.map cellA = cs at kr kn ⊢
 simp (maxSteps:=4000000) (disch:=first | (intros; contradiction) | omega) only [go_sem,kr,kn,hlt,hr,h0,hvl,hroom,hle,hz,z1,z2,Nat.zero_le]
 done
set_option maxHeartbeats 4000000 in
theorem enter_base1 (hx:T1 ext) (he:∀ xs H,ext 26 xs H = none) (s:Mc) (f tv:Int) (c:Cd1) (args:List Vl) (e:Nat) (hfew:args.length ≤ c.vars.length) (h0:0 ≤ f) (hf:s.m.funcs[f.toNat]? = some c) (hn:c.vars.length ≤ 1000) :
  G ext 26 [.ptr 1 0,.d (.int .i64 f),.stk 4 e args.length,.d (.int .i64 tv)] (s.H ++ [aO e args]) = some (.ret (.tuple []),[.reg (rgA s.reg),.cells [.d s.m.sr,.d s.m.fr,.d (.sl (s.inp.map rowU)),.d (.sl (s.fails.map rowT)),.ptr 5 0,.stk 2 s.es s.cells.length,.d (.int .i64 s.asked),.d (.int .i64 s.kind),.d (.int .i64 s.code),.grow 3 s.eg (s.out.map rowU),.d (.int .i64 s.steps),.d (.int .i64 0)],.stk s.es 1 (s.cells.map cellA),.grow s.eg 1,aO e args,.cells [.dp c.row,.d (.int .i64 0),.arr 6 0 c.vars.length 2,ptrV s.top,.d (.int .i64 tv)],.cells (valsA (args ++ List.replicate (c.vars.length - args.length) (0,none)))]):=by
 have kr:=cell_refs s.cells
 have kn:=fun f=>cell_ren f s.cells
 have hfl:(s.m.funcs.map Cd1.row).length = s.m.funcs.length:=List.length_map _
 have hlt:f < ((s.m.funcs.map Cd1.row).length:Nat):=by have:=(List.getElem?_eq_some_iff.1 hf).1; omega
 have hr:(s.m.funcs.map Cd1.row)[f.toNat]? = some c.row:=by rw [List.getElem?_map,hf]; rfl
 have hvl:(c.vars.map Vr1.row).length = c.vars.length:=List.length_map _
 have hroom:room c.vars.length 16:=by unfold room; simp; omega
 have hle:((c.vars.length:Nat):Int) ≤ ((c.vars.length:Nat):Int):=Int.le_refl _
 have z1:=vals_refs (List.replicate c.vars.length (0,none))
 have z2:=fun f=>vals_ren f (List.replicate c.vars.length (0,none))
 have hz:=zeros_flat c.vars.length
 have z3:=vals_refs (args ++ List.replicate (c.vars.length - args.length) (0,none))
 have z4:=fun f=>vals_ren f (args ++ List.replicate (c.vars.length - args.length) (0,none))
 have k1:=src_aO e args
 have k2:=cpy_zeros 5 c.vars.length args hfew
 simp only [Cd1.row] at hr
 rw [G_bodyN (he _ _) Tryz.func26 rfl Tryz.results26 hv_26 rfl]
 simp only [Mc.H,Mc.obj,Md1.sr,Md1.fr,Cd1.row,List.cons_append,List.nil_append]
 generalize s.cells.map cellA = cs at kr kn ⊢
 simp (maxSteps:=4000000) (disch:=first | (intros; contradiction) | omega) only [go_sem,kr,kn,hlt,hr,h0,hvl,hroom,hle,hz,z1,z2,z3,z4,k1,k2,Nat.zero_le]
 done
theorem app_cell (e:Nat) (cs:List AV) (n:Nat) (h:cs.length = n) (hn:n ≤ 100000) (r:Nat):stkAppV 2 e n 1 8 1 1 [.ptr r 0] (.stk e 1 cs) = some (.val (.stk 2 (e + 1) (n + 1)) [(2,.stk (e + 1) 1 (cs ++ [.ptr r 0]))]):=by
 have hroom:room (n + 1) 8:=by unfold room; simp; omega
 simp only [stkAppV]
 rw [if_pos (by refine ⟨trivial,trivial,trivial,by decide,rfl,by omega,hroom⟩),List.take_of_length_le (by omega)]
set_option maxHeartbeats 4000000 in
theorem fresh_base (hx:T1 ext) (he:∀ xs H,ext 53 xs H = none) (s:Mc) (f:Int) (h0:0 ≤ f) (hf:f < s.m.structs.length) (hn:nFields s.m f ≤ 1000) (hc:s.cells.length ≤ 100000) (ha:0 ≤ s.asked) :
  G ext 53 [.ptr 1 0,.d (.int .i64 f)] s.H = (if failsAt s then some (.ret (.agg [.d (.int .i64 0),.d .nilp]),({ s with asked:=IntKind.wrap .i64 (s.asked + 1) }:Mc).H)
   else some (.ret (.agg [.d (.int .i64 0),.ptr 4 0]),[.reg (rgA s.reg),.cells [.d s.m.sr,.d s.m.fr,.d (.sl (s.inp.map rowU)),.d (.sl (s.fails.map rowT)),ptrV s.top,.stk 2 (s.es + 1) (s.cells.length + 1),.d (.int .i64 (IntKind.wrap .i64 (s.asked + 1))),.d (.int .i64 s.kind),.d (.int .i64 s.code),.grow 3 s.eg (s.out.map rowU),.d (.int .i64 s.steps),.d (.int .i64 0)],.stk (s.es + 1) 1 (s.cells.map cellA ++ [.ptr 4 0]),.grow s.eg 1,.cells [.d (.bool true),.arr 5 0 (nFields s.m f) 2],.cells (valsA (List.replicate (nFields s.m f) (0,none)))])):=by
 have kr:=cell_refs s.cells
 have kn:=fun f=>cell_ren f s.cells
 have hsl:(s.m.structs.map Sc1.row).length = s.m.structs.length:=List.length_map _
 have hlt:f < ((s.m.structs.map Sc1.row).length:Nat):=by omega
 have hfll:(s.fails.map rowT).length = s.fails.length:=List.length_map _
 have hat:f.toNat < s.m.structs.length:=by omega
 have hr:(s.m.structs.map Sc1.row)[f.toNat]? = some s.m.structs[f.toNat].row:=by rw [List.getElem?_map,List.getElem?_eq_getElem hat]; rfl
 have hnf:nFields s.m f = s.m.structs[f.toNat].fields.length:=by unfold nFields; rw [List.getElem?_eq_getElem hat]; rfl
 rw [hnf] at hn ⊢
 generalize s.m.structs[f.toNat] = sc at hr hn ⊢
 have hfl:(sc.fields.map Fd1.row).length = sc.fields.length:=List.length_map _
 have hroom:room sc.fields.length 16:=by unfold room; simp; omega
 have hle:((sc.fields.length:Nat):Int) ≤ ((sc.fields.length:Nat):Int):=Int.le_refl _
 have z1:=vals_refs (List.replicate sc.fields.length (0,none))
 have z2:=fun f=>vals_ren f (List.replicate sc.fields.length (0,none))
 have hz:=zeros_flat sc.fields.length
 have hcs:(s.cells.map cellA).length = s.cells.length:=List.length_map _
 simp only [Sc1.row] at hr
 rw [G_bodyN (he _ _) Tryz.func53 rfl Tryz.results53 hv_53 rfl]
 simp only [Mc.H,Mc.obj,Md1.sr,Md1.fr]
 generalize s.cells.map cellA = cs at kr kn hcs ⊢
 have happ:=app_cell s.es cs s.cells.length hcs hc 6
 have k1:((cs ++ [AV.ptr 6 0]).map refs).flatten = [6]:=by rw [List.map_append,List.flatten_append,kr]; rfl
 have k2:∀ f,(cs ++ [AV.ptr 6 0]).map (ren f) = cs ++ [AV.ptr (f 6) 0]:=fun f=>by rw [List.map_append,kn]; rfl
 unfold failsAt
 by_cases q1:s.asked < (s.fails.length:Int)
 ·have q1':=q1
  rw [if_pos q1]
  have hb:(s.fails.map rowT)[s.asked.toNat]? = some [.bool (s.fails[s.asked.toNat]?.getD false)]:=by
   rw [List.getElem?_map,List.getElem?_eq_getElem (show s.asked.toNat < s.fails.length by omega)]; rfl
  generalize s.fails[s.asked.toNat]?.getD false = b at hb ⊢
  cases b with
  | true=>
   simp only [if_true]
   simp (maxSteps:=4000000) (disch:=first | (intros; contradiction) | omega) only [go_sem,kr,kn,hfll,q1',ha,hb]
   done
  | false=>
   simp only [Bool.false_eq_true,if_false]
   simp (maxSteps:=4000000) (disch:=first | (intros; contradiction) | omega) only [go_sem,kr,kn,hfll,q1',ha,hb,hlt,hr,h0,hfl,hroom,hle,hz,z1,z2,Nat.zero_le,happ,k1,k2]
   done
 ·rw [if_neg q1]
  simp only [Bool.false_eq_true,if_false]
  simp (maxSteps:=4000000) (disch:=first | (intros; contradiction) | omega) only [go_sem,kr,kn,hfll,q1,ha,hlt,hr,h0,hfl,hroom,hle,hz,z1,z2,Nat.zero_le,happ,k1,k2]
  done
end Go.Proofs.YtkflggjdlflndaaGreat
namespace Go.Proofs.YtkflggjdlflndaaGreat
open Go Go.Ab
theorem absorb_eq {n:Nat} {R:List (List AV)} {mid news:List AObj} {out:Out} (hn:mid.length + 1 = n) (h1:∀ o,o ∈ news→newO n R.length o) (h2:∀ o,o ∈ mid→oldO n R.length o) (h3:∀ r,r ∈ refs (mvA n R.length (outC out))→r < n) :
  absorbX n (some (out,.reg R :: (mid ++ news))) = some (mvOut n R.length out,.reg (R ++ news.map (mvC n R.length)) :: mid.map (mvO n R.length)):=by
 have e:n - 1 = mid.length:=by omega
 have hd:(mid ++ news).drop (n - 1) = news:=by rw [e]; simp
 have ht:(mid ++ news).take (n - 1) = mid:=by rw [e]; simp
 unfold absorbX
 simp only
 unfold absorbK
 rw [if_pos ⟨by omega,by simp; omega,by rw [hd]; exact h1,by rw [ht]; exact h2,h3⟩,hd,ht]
theorem mv_ptrV (n m:Nat) (p:Option Nat):mvA n m (ptrV p) = ptrV p:=mv_none n m (ptrV_refs p)
theorem refs_nil_all:∀ {l:List AV},(l.map refs).flatten = []→refsAL l = []
 | [],_=>rfl
 | c :: cs,h=>by
  rw [List.map_cons,List.flatten_cons,List.append_eq_nil_iff] at h
  rw [refsAL,h.1,refs_nil_all h.2]; rfl
theorem mv_vals (n m:Nat) (l:List Vl):mvL n m (valsA l) = valsA l:=mvL_none n m (refs_nil_all (vals_refs l))
theorem mv_cells (n m:Nat) (l:List Nat):mvL n m (l.map cellA) = l.map cellA:=mvL_none n m (refs_nil_all (cell_refs l))
theorem rgA_len (R:List Blk):(rgA R).length = R.length:=List.length_map _
theorem rgA_app (R:List Blk) (a b:Blk):rgA R ++ [a.av,b.av] = rgA (R ++ [a,b]):=by simp [rgA]
theorem in_vals {n m:Nat} {l:List Vl} {c:AV} (h:c ∈ valsA l):refs (mvA n m c) = []:=by
 have h0:=refs_nil_all (vals_refs l)
 have:∀ {l:List AV},refsAL l = []→c ∈ l→refs c = []:=by
  intro l
  induction l with
  | nil=>intro _ h; cases h
  | cons x xs ih=>
   intro h hc
   rw [refsAL,List.append_eq_nil_iff] at h
   rcases List.mem_cons.1 hc with rfl | hc
   ·exact h.1
   ·exact ih h.2 hc
 have hr:=this h0 h
 rw [mv_none n m hr,hr]
theorem in_cells {n m:Nat} {l:List Nat} {c:AV} (h:c ∈ l.map cellA):refs (mvA n m c) = []:=by
 obtain ⟨k,_,rfl⟩:=List.mem_map.1 h
 rfl
theorem abs_enter0 (s:Mc) (c:Cd1) (tv:Int) :
  absorbX 4 (some (.ret (.tuple []),[.reg (rgA s.reg),.cells [.d s.m.sr,.d s.m.fr,.d (.sl (s.inp.map rowU)),.d (.sl (s.fails.map rowT)),.ptr 4 0,.stk 2 s.es s.cells.length,.d (.int .i64 s.asked),.d (.int .i64 s.kind),.d (.int .i64 s.code),.grow 3 s.eg (s.out.map rowU),.d (.int .i64 s.steps),.d (.int .i64 0)],.stk s.es 1 (s.cells.map cellA),.grow s.eg 1,.cells [.dp c.row,.d (.int .i64 0),.arr 5 0 c.vars.length 2,ptrV s.top,.d (.int .i64 tv)],.cells (valsA (List.replicate c.vars.length (0,none)))]))
   = some (.ret (.tuple []),(enterP s c [] tv).H):=by
 have h:=absorb_eq (n:=4) (R:=rgA s.reg) (out:=.ret (.tuple []))
  (mid:=[.cells [.d s.m.sr,.d s.m.fr,.d (.sl (s.inp.map rowU)),.d (.sl (s.fails.map rowT)),.ptr 4 0,.stk 2 s.es s.cells.length,.d (.int .i64 s.asked),.d (.int .i64 s.kind),.d (.int .i64 s.code),.grow 3 s.eg (s.out.map rowU),.d (.int .i64 s.steps),.d (.int .i64 0)],.stk s.es 1 (s.cells.map cellA),.grow s.eg 1])
  (news:=[.cells [.dp c.row,.d (.int .i64 0),.arr 5 0 c.vars.length 2,ptrV s.top,.d (.int .i64 tv)],.cells (valsA (List.replicate c.vars.length (0,none)))]) rfl ?_ ?_ ?_
 ·refine Eq.trans h ?_
  simp only [List.map_cons,List.map_nil,mvC,mvO,mvL,mvA,mv_vals,mv_cells,mv_ptrV,mvOut,rgA_len,Nat.reduceLeDiff,if_true,Nat.sub_self,Nat.add_zero,Nat.reduceSub,enterP,Mc.H,Mc.obj,ptrV_some,List.length_nil,Nat.sub_zero,List.nil_append,Nat.le_refl,if_false]
  rw [← rgA_app]
  rfl
 ·intro o ho
  simp only [List.mem_cons,List.not_mem_nil,or_false] at ho
  rcases ho with rfl | rfl
  ·intro x hx
   simp only [List.mem_cons,List.not_mem_nil,or_false] at hx
   rcases hx with rfl | rfl | rfl | rfl | rfl <;> simp [mvA,refs,mv_ptrV,ptrV_refs]
  ·intro x hx; exact in_vals hx
 ·intro o ho
  simp only [List.mem_cons,List.not_mem_nil,or_false] at ho
  rcases ho with rfl | rfl | rfl
  ·intro x hx
   simp only [List.mem_cons,List.not_mem_nil,or_false] at hx
   rcases hx with rfl | rfl | rfl | rfl | rfl | rfl | rfl | rfl | rfl | rfl | rfl | rfl <;> simp [mvA,refs]
  ·intro x hx r hr; rw [in_cells hx] at hr; cases hr
  ·trivial
 ·simp [outC,mvA,mvL,refs,refsAL]
theorem abs_enter1 (s:Mc) (c:Cd1) (tv:Int) (args:List Vl) (e:Nat) :
  absorbX 5 (some (.ret (.tuple []),[.reg (rgA s.reg),.cells [.d s.m.sr,.d s.m.fr,.d (.sl (s.inp.map rowU)),.d (.sl (s.fails.map rowT)),.ptr 5 0,.stk 2 s.es s.cells.length,.d (.int .i64 s.asked),.d (.int .i64 s.kind),.d (.int .i64 s.code),.grow 3 s.eg (s.out.map rowU),.d (.int .i64 s.steps),.d (.int .i64 0)],.stk s.es 1 (s.cells.map cellA),.grow s.eg 1,aO e args,.cells [.dp c.row,.d (.int .i64 0),.arr 6 0 c.vars.length 2,ptrV s.top,.d (.int .i64 tv)],.cells (valsA (args ++ List.replicate (c.vars.length - args.length) (0,none)))]))
   = some (.ret (.tuple []),(enterP s c args tv).H ++ [aO e args]):=by
 have h:=absorb_eq (n:=5) (R:=rgA s.reg) (out:=.ret (.tuple []))
  (mid:=[.cells [.d s.m.sr,.d s.m.fr,.d (.sl (s.inp.map rowU)),.d (.sl (s.fails.map rowT)),.ptr 5 0,.stk 2 s.es s.cells.length,.d (.int .i64 s.asked),.d (.int .i64 s.kind),.d (.int .i64 s.code),.grow 3 s.eg (s.out.map rowU),.d (.int .i64 s.steps),.d (.int .i64 0)],.stk s.es 1 (s.cells.map cellA),.grow s.eg 1,aO e args])
  (news:=[.cells [.dp c.row,.d (.int .i64 0),.arr 6 0 c.vars.length 2,ptrV s.top,.d (.int .i64 tv)],.cells (valsA (args ++ List.replicate (c.vars.length - args.length) (0,none)))]) rfl ?_ ?_ ?_
 ·refine Eq.trans h ?_
  unfold aO
  simp only [List.map_cons,List.map_nil,mvC,mvO,mvL,mvA,mv_vals,mv_cells,mv_ptrV,mvOut,rgA_len,Nat.reduceLeDiff,if_true,Nat.sub_self,Nat.add_zero,Nat.reduceSub,Mc.H,Mc.obj,ptrV_some,List.length_nil,Nat.sub_zero,List.nil_append,Nat.le_refl,if_false,enterP,List.cons_append]
  rw [← rgA_app]
  rfl
 ·intro o ho
  simp only [List.mem_cons,List.not_mem_nil,or_false] at ho
  rcases ho with rfl | rfl
  ·intro x hx
   simp only [List.mem_cons,List.not_mem_nil,or_false] at hx
   rcases hx with rfl | rfl | rfl | rfl | rfl <;> simp [mvA,refs,mv_ptrV,ptrV_refs]
  ·intro x hx; exact in_vals hx
 ·intro o ho
  simp only [List.mem_cons,List.not_mem_nil,or_false] at ho
  rcases ho with rfl | rfl | rfl | rfl
  ·intro x hx
   simp only [List.mem_cons,List.not_mem_nil,or_false] at hx
   rcases hx with rfl | rfl | rfl | rfl | rfl | rfl | rfl | rfl | rfl | rfl | rfl | rfl <;> simp [mvA,refs]
  ·intro x hx r hr; rw [in_cells hx] at hr; cases hr
  ·trivial
  ·intro x hx r hr; rw [in_vals hx] at hr; cases hr
 ·simp [outC,mvA,mvL,refs,refsAL]
theorem abs_fresh (s:Mc) (nf:Nat) (hf:failsAt s = false) :
  absorbX 4 (some (.ret (.agg [.d (.int .i64 0),.ptr 4 0]),[.reg (rgA s.reg),.cells [.d s.m.sr,.d s.m.fr,.d (.sl (s.inp.map rowU)),.d (.sl (s.fails.map rowT)),ptrV s.top,.stk 2 (s.es + 1) (s.cells.length + 1),.d (.int .i64 (IntKind.wrap .i64 (s.asked + 1))),.d (.int .i64 s.kind),.d (.int .i64 s.code),.grow 3 s.eg (s.out.map rowU),.d (.int .i64 s.steps),.d (.int .i64 0)],.stk (s.es + 1) 1 (s.cells.map cellA ++ [.ptr 4 0]),.grow s.eg 1,.cells [.d (.bool true),.arr 5 0 nf 2],.cells (valsA (List.replicate nf (0,none)))]))
   = some (.ret (.agg [.d (.int .i64 (freshP s nf).1.1),ptrV (freshP s nf).1.2]),(freshP s nf).2.H):=by
 have h:=absorb_eq (n:=4) (R:=rgA s.reg) (out:=.ret (.agg [.d (.int .i64 0),.ptr 4 0]))
  (mid:=[.cells [.d s.m.sr,.d s.m.fr,.d (.sl (s.inp.map rowU)),.d (.sl (s.fails.map rowT)),ptrV s.top,.stk 2 (s.es + 1) (s.cells.length + 1),.d (.int .i64 (IntKind.wrap .i64 (s.asked + 1))),.d (.int .i64 s.kind),.d (.int .i64 s.code),.grow 3 s.eg (s.out.map rowU),.d (.int .i64 s.steps),.d (.int .i64 0)],.stk (s.es + 1) 1 (s.cells.map cellA ++ [.ptr 4 0]),.grow s.eg 1])
  (news:=[.cells [.d (.bool true),.arr 5 0 nf 2],.cells (valsA (List.replicate nf (0,none)))]) rfl ?_ ?_ ?_
 ·refine Eq.trans h ?_
  have e1:mvL 4 s.reg.length (s.cells.map cellA ++ [AV.ptr 4 0]) = (s.cells ++ [s.reg.length]).map cellA:=by
   rw [mvL_map,List.map_append,← mvL_map,mv_cells,List.map_append]
   rfl
  simp only [List.map_cons,List.map_nil,mvC,mvO,mvL,mvA,mv_vals,mv_cells,mv_ptrV,mvOut,rgA_len,Nat.reduceLeDiff,if_true,Nat.sub_self,Nat.add_zero,Nat.reduceSub,Mc.H,Mc.obj,ptrV_some,List.length_nil,Nat.sub_zero,List.nil_append,Nat.le_refl,if_false,freshP,hf,Bool.false_eq_true,e1]
  rw [← rgA_app,List.length_append]
  rfl
 ·intro o ho
  simp only [List.mem_cons,List.not_mem_nil,or_false] at ho
  rcases ho with rfl | rfl
  ·intro x hx
   simp only [List.mem_cons,List.not_mem_nil,or_false] at hx
   rcases hx with rfl | rfl <;> simp [mvA,refs]
  ·intro x hx; exact in_vals hx
 ·intro o ho
  simp only [List.mem_cons,List.not_mem_nil,or_false] at ho
  rcases ho with rfl | rfl | rfl
  ·intro x hx
   simp only [List.mem_cons,List.not_mem_nil,or_false] at hx
   rcases hx with rfl | rfl | rfl | rfl | rfl | rfl | rfl | rfl | rfl | rfl | rfl | rfl <;> simp [mvA,refs,mv_ptrV,ptrV_refs]
  ·intro x hx r hr
   rcases List.mem_append.1 hx with hx | hx
   ·rw [in_cells hx] at hr; cases hr
   ·simp only [List.mem_cons,List.not_mem_nil,or_false] at hx
    subst hx
    simp [mvA,refs] at hr
  ·trivial
 ·simp [outC,mvA,mvL,refs,refsAL]
theorem abs_none (s:Mc) (c:AV) (hc:refs c = []):absorbX 4 (some (.ret c,s.H)) = some (.ret c,s.H):=by
 have h:=absorb_eq (n:=4) (R:=rgA s.reg) (out:=.ret c) (mid:=[s.obj,.stk s.es 1 (s.cells.map cellA),.grow s.eg 1]) (news:=[]) rfl ?_ ?_ ?_
 ·refine Eq.trans h ?_
  have e1:mvO 4 (rgA s.reg).length s.obj = s.obj:=by
   simp only [Mc.obj,mvO,mvL,mvA,mv_ptrV]
  simp only [List.map_cons,List.map_nil,mvOut,mv_none _ _ hc,List.append_nil,Mc.H]
  rw [e1]
  simp only [mvO,mv_cells]
 ·intro o ho; cases ho
 ·intro o ho
  simp only [List.mem_cons,List.not_mem_nil,or_false] at ho
  rcases ho with rfl | rfl | rfl
  ·intro x hx
   simp only [List.mem_cons,List.not_mem_nil,or_false] at hx
   rcases hx with rfl | rfl | rfl | rfl | rfl | rfl | rfl | rfl | rfl | rfl | rfl | rfl <;> simp [mvA,refs,mv_ptrV,ptrV_refs]
  ·intro x hx r hr; rw [in_cells hx] at hr; cases hr
  ·trivial
 ·intro r hr
  simp only [outC,mv_none _ _ hc,hc] at hr
  cases hr
noncomputable def extB:Sem':=fun f as0 H=>if f = 116 then wordX as0 H else if f = 25 then bcloneX as0 H else none
theorem extB_ok:Sound Tryz.prog extB:=by
 intro f as0 H out H' h
 unfold extB at h
 split at h
 ·subst f
  exact word_sound as0 H out H' h
 ·split at h
  ·subst f
   exact bclone_sound as0 H out H' h
  ·cases h
def isAb (f:Nat):Bool:=decide (f = 26) || decide (f = 53)
noncomputable def extZ:Sem':=fun f as0 H=>if isAb f = true then absorbX H.length (G extB f as0 H) else extB f as0 H
theorem extZ_ok:Sound Tryz.prog extZ:=by
 intro f as0 H out H' h
 unfold extZ at h
 split at h
 ·rename_i hf
  exact absS_ok (G_ok extB_ok) isAb f as0 H out H' (by unfold absS; rw [if_pos hf]; exact h)
 ·exact extB_ok f as0 H out H' h
theorem t1_of {ext:Sem'} (h:∀ f xs H,isExt f = false→ext f xs H = none) (hw:∀ xs H,ext 116 xs H = wordX xs H) (hb:∀ xs H,ext 25 xs H = bcloneX xs H):T1 ext:=
 ⟨⟨⟨fun f xs H hf=>h f xs H hf⟩,fun op=>by rw [hw]; rfl⟩,fun l hl=>by rw [hb]; exact bcloneX_d l hl⟩
theorem extB_t1:T1 extB:=by
 refine t1_of (fun f xs H h=>?_) (fun xs H=>rfl) (fun xs H=>?_)
 ·unfold extB
  rw [if_neg,if_neg]
  ·rintro rfl
   cases h
  ·rintro rfl
   cases h
 ·unfold extB
  rw [if_neg (by decide),if_pos rfl]
theorem extB_no (f:Nat) (h:isAb f = true) (xs:List AV) (H:List AObj):extB f xs H = none:=by
 unfold extB
 rw [if_neg,if_neg]
 ·rintro rfl; cases h
 ·rintro rfl; cases h
theorem extZ_t3:T3 extZ:=by
 have h1:T1 extZ:=by
  refine t1_of (fun f xs H h=>?_) (fun xs H=>rfl) (fun xs H=>?_)
  ·unfold extZ
   rw [if_neg]
   ·exact extB_t1.clear f xs H h
   ·unfold isAb
    simp only [Bool.or_eq_true,decide_eq_true_eq]
    rintro (rfl | rfl) <;> cases h
  ·unfold extZ
   rw [if_neg (by decide)]
   unfold extB
   rw [if_neg (by decide),if_pos rfl]
 refine ⟨⟨h1,fun s f k0 k1 k2 k3 k4 k5=>?_⟩,fun s f tv c k0 k1 k2=>?_,fun s f tv c args e k0 k1 k2 k3=>?_⟩
 ·unfold extZ
  rw [if_pos (show isAb 53 = true from rfl),fresh_base extB_t1 (extB_no _ rfl) s f k0 k1 k2 k3 k4]
  show absorbX 4 _ = _
  cases hf:failsAt s with
  | true=>
   rw [if_pos rfl,abs_none _ _ rfl]
   unfold freshP
   rw [hf]
   rfl
  | false=>
   rw [if_neg (by decide)]
   exact abs_fresh s _ hf
 ·unfold extZ
  rw [if_pos (show isAb 26 = true from rfl),enter_base0 extB_t1 (extB_no _ rfl) s f tv c k0 k1 k2]
  exact abs_enter0 s c tv
 ·unfold extZ
  rw [if_pos (show isAb 26 = true from rfl),enter_base1 extB_t1 (extB_no _ rfl) s f tv c args e k3 k0 k1 k2]
  exact abs_enter1 s c tv args e
end Go.Proofs.YtkflggjdlflndaaGreat
namespace Go.Proofs.YtkflggjdlflndaaGreat
open Go Go.Ab
variable {ext:Sem'}
def mainIx (m:Md1):Int:=funcIx m [109,97,105,110]
def Mc.start (m:Md1) (inp:List Int) (fails:List Bool) (R:List Blk):Mc:=⟨m,inp,fails,none,[],0,4,0,[],0,R,0,0⟩
theorem fits_rowT (l:List Bool):fits 1 (l.map rowT):=by intro row h; obtain ⟨x,_,rfl⟩:=List.mem_map.1 h; rfl
set_option maxHeartbeats 4000000 in
theorem new_bad (hx:T3 ext) (m:Md1) (hl:LightM m) (inp:List Int) (fails:List Bool) (R:List Blk) (hr:¬ rightP m = 0) :
  G ext 14 [m.av,.d (.sl (inp.map rowU)),.d (.sl (fails.map rowT))] [.reg (rgA R)] = some (.ret (.tuple [.d .nilp,.d (.int .i64 (rightP m))]),[.reg (rgA R)]):=by
 have h1:=right_e hx.toTM m hl
 rw [G_body hx.clear rfl Tryz.func14 rfl Tryz.results14 hv_14 rfl]
 simp only [Md1.av,Md1.sr,Md1.fr] at h1 ⊢
 simp (maxSteps:=4000000) (disch:=first | (intros; contradiction) | omega) only [go_sem,h1,hr]
 done
set_option maxHeartbeats 4000000 in
theorem new_m (hx:T3 ext) (m:Md1) (hl:LightM m) (inp:List Int) (fails:List Bool) (R:List Blk) (c:Cd1) (hr:rightP m = 0) (hi:inp.length ≤ 1000) (hfl:fails.length ≤ 1000) (h0:0 ≤ mainIx m) (hf:m.funcs[(mainIx m).toNat]? = some c) (hv:c.vars.length ≤ 1000) :
  G ext 14 [m.av,.d (.sl (inp.map rowU)),.d (.sl (fails.map rowT))] [.reg (rgA R)] = some (.ret (.tuple [.ptr 1 0,.d (.int .i64 0)]),(enterP (Mc.start m inp fails R) c [] 0).H):=by
 have h1:=right_e hx.toTM m hl
 rw [hr] at h1
 have h2:=func_e hx.toTX m (by have:=hl.funcs; omega) [109,97,105,110]
 have h3:=G_ext (hx.bclone inp (by omega))
 have h4:=G_ext (hx.enter0 (Mc.start m inp fails R) (mainIx m) 0 c h0 hf hv)
 have hft:=fits_rowT fails
 have hrm:room (0 + (fails.map rowT).length) 1:=by unfold room; rw [List.length_map]; simp; omega
 have hrm2:room ((fails.map rowT).length) 1:=by unfold room; rw [List.length_map]; simp; omega
 unfold mainIx at h4
 generalize funcIx m [109,97,105,110] = ix at h2 h4
 generalize enterP (Mc.start m inp fails R) c [] 0 = s2 at h4 ⊢
 have kr2:=cell_refs s2.cells
 have kn2:=fun f=>cell_ren f s2.cells
 rw [G_body hx.clear rfl Tryz.func14 rfl Tryz.results14 hv_14 rfl]
 simp only [Mc.start,Md1.av,Md1.sr,Md1.fr,Mc.H,Mc.obj,ptrV_none,List.map_nil,List.length_nil] at h1 h2 h4 ⊢
 generalize s2.cells.map cellA = cs2 at kr2 kn2 h4 ⊢
 simp (maxSteps:=4000000) (disch:=first | (intros; contradiction) | omega) only [go_sem,kr2,kn2,h1,h2,h3,h4,hft,hrm,hrm2]
 done
end Go.Proofs.YtkflggjdlflndaaGreat
namespace Go.Proofs.YtkflggjdlflndaaGreat
open Go Go.Ab
variable {ext:Sem'}
def stepM (s:Mc):Mc:=
 match s.top with
 | none=>s
 | some k=>match s.reg[k]? with
  | some (.fr c pc vk vn up tv)=>(match s.reg[vk]? with
   | some (.vs l)=>(match c.ins[pc.toNat]? with
    | some i=>
     if i.op = 16 then s.at k c i.to vk vn up tv
     else if i.op = 17 then s.at k c (if (nthV l i.a).1 ≠ 0 then i.to else i.els) vk vn up tv
     else if i.op = 15 then (match s.m.funcs[i.f.toNat]? with
      | some c2=>enterP (s.next k c pc vk vn up tv) c2 (i.args.map (nthV l)) i.d
      | none=>s)
     else if i.op = 18 then leaveP (s.next k c pc vk vn up tv) (nthV l i.a)
     else if (numbersP (s.next k c pc vk vn up tv) i vk l).1 then
      (if (heapM (numbersP (s.next k c pc vk vn up tv) i vk l).2 i vk l).1 then (heapM (numbersP (s.next k c pc vk vn up tv) i vk l).2 i vk l).2
       else { (heapM (numbersP (s.next k c pc vk vn up tv) i vk l).2 i vk l).2 with kind:=2 })
     else { (numbersP (s.next k c pc vk vn up tv) i vk l).2 with kind:=2 }
    | none=>s)
   | _=>s)
  | _=>s
def runM:Nat→Mc→Mc
 | 0,s=>s
 | n + 1,s=>if s.kind = 4 then runM n (stepM s) else s
theorem runM_succ:∀ (n:Nat) (s:Mc),runM (n + 1) s = if (runM n s).kind = 4 then stepM (runM n s) else runM n s
 | 0,s=>rfl
 | n + 1,s=>by
  rw [runM]
  split
  ·rename_i h
   rw [runM_succ n (stepM s)]
   simp only [runM,if_pos h]
  ·rename_i h
   simp only [runM,if_neg h]
theorem runM_stay {n:Nat} {s:Mc} (h:(runM n s).kind ≠ 4):∀ k,n ≤ k→runM k s = runM n s:=by
 intro k hk
 induction k with
 | zero=>
  have:n = 0:=by omega
  subst this; rfl
 | succ k ih=>
  rcases Nat.lt_or_ge k n with h1 | h1
  ·have:k + 1 = n:=by omega
   rw [this]
  ·rw [runM_succ,ih h1,if_neg h]
set_option maxHeartbeats 4000000 in
theorem run_bad (hx:T3 ext) (he:∀ xs H,ext 11 xs H = none) (m:Md1) (hl:LightM m) (inp:List Int) (fails:List Bool) (fuel:Int) (R:List Blk) (hr:¬ rightP m = 0) :
  G ext 11 [m.av,.d (.sl (inp.map rowU)),.d (.sl (fails.map rowT)),.d (.int .i64 fuel)] [.reg (rgA R)] = some (.ret (.agg [.d (.int .i64 0),.d (.int .i64 0),.d (.sl []),.d (.int .i64 0),.d (.int .i64 0)]),[.reg (rgA R)]):=by
 have h1:=new_bad hx m hl inp fails R hr
 rw [G_bodyN (he _ _) Tryz.func11 rfl Tryz.results11 hv_11 rfl]
 simp only [Md1.av,Md1.sr,Md1.fr] at h1 ⊢
 simp (maxSteps:=4000000) (disch:=first | (intros; contradiction) | omega) only [go_sem,h1,hr]
 done
set_option maxHeartbeats 4000000 in
theorem run_m (hx:T3 ext) (he:∀ xs H,ext 11 xs H = none) (m:Md1) (inp:List Int) (fails:List Bool) (fuel:Int) (R:List Blk) (s0:Mc)
  (hnew:G ext 14 [m.av,.d (.sl (inp.map rowU)),.d (.sl (fails.map rowT))] [.reg (rgA R)] = some (.ret (.tuple [.ptr 1 0,.d (.int .i64 0)]),s0.H))
  (hf0:0 ≤ fuel) (hf1:fuel ≤ 1000000)
  (hstep:∀ j:Nat,(j:Int) < fuel→(runM j s0).kind = 4→G ext 16 [.ptr 1 0] (runM j s0).H = some (.ret (.d (.bool true)),(stepM (runM j s0)).H))
  (hout:G ext 15 [.ptr 1 0] (runM fuel.toNat s0).H = some (.ret (outA (runM fuel.toNat s0)),(runM fuel.toNat s0).H)) :
  G ext 11 [m.av,.d (.sl (inp.map rowU)),.d (.sl (fails.map rowT)),.d (.int .i64 fuel)] [.reg (rgA R)] = some (.ret (outA (runM fuel.toNat s0)),[.reg (rgA (runM fuel.toNat s0).reg)]):=by
 have kr0:=cell_refs s0.cells
 have kn0:=fun f=>cell_ren f s0.cells
 rw [G_bodyN (he _ _) Tryz.func11 rfl Tryz.results11 hv_11 rfl]
 simp only [Md1.av,Md1.sr,Md1.fr,Mc.H,Mc.obj] at hnew ⊢
 generalize hc0:s0.cells.map cellA = cs0 at kr0 kn0 hnew ⊢
 simp (maxSteps:=4000000) (disch:=first | (intros; contradiction) | omega) only [go_sem,kr0,kn0,hnew]
 generalize hL:loopA _ _ _ = L
 apply loop_upd hL (by simp (maxSteps:=4000000) (disch:=first | (intros; contradiction) | omega) only [go_sem,kr0] <;> rfl) (fun j:Nat=>j ≤ fuel.toNat) (fun j=>fuel.toNat - j) (fun j=>[(11,.d (.int .i64 j))])
  (fun j=>[(0,.reg (rgA (runM j s0).reg)),(4,.cells [.d (.sl ((runM j s0).m.structs.map Sc1.row)),.d (.sl ((runM j s0).m.funcs.map Cd1.row)),.d (.sl ((runM j s0).inp.map rowU)),.d (.sl ((runM j s0).fails.map rowT)),ptrV (runM j s0).top,.stk 5 (runM j s0).es (runM j s0).cells.length,.d (.int .i64 (runM j s0).asked),.d (.int .i64 (runM j s0).kind),.d (.int .i64 (runM j s0).code),.grow 6 (runM j s0).eg ((runM j s0).out.map rowU),.d (.int .i64 (runM j s0).steps),.d (.int .i64 0)]),
   (5,.stk (runM j s0).es 1 ((runM j s0).cells.map cellA)),(6,.grow (runM j s0).eg 1)]) 0 (by rw [← hc0]; rfl) (Nat.zero_le _)
 rintro j hj next ih
 clear hL
 have kr:=cell_refs (runM j s0).cells
 have kn:=fun f=>cell_ren f (runM j s0).cells
 by_cases hlt:(j:Int) < fuel
 ·by_cases hk:(runM j s0).kind = 4
  ·have hs:=hstep j hlt hk
   have e1:runM (j + 1) s0 = stepM (runM j s0):=by rw [runM_succ,if_pos hk]
   have ih:=fun st'=>ih (j + 1) st' (by omega) (by omega)
   rw [← e1] at hs
   have kr1:=cell_refs (runM (j + 1) s0).cells
   have kn1:=fun f=>cell_ren f (runM (j + 1) s0).cells
   generalize runM (j + 1) s0 = s1 at hs ih kr1 kn1
   clear hout hstep
   generalize runM j s0 = s at hs kr kn ⊢
   simp only [Mc.H,Mc.obj,Md1.sr,Md1.fr] at hs
   generalize s.cells.map cellA = cs at kr kn hs ⊢
   generalize s1.cells.map cellA = cs1 at kr1 kn1 hs ih
   simp (maxSteps:=4000000) (disch:=first | (intros; contradiction) | omega) only [go_sem,kr0,kn0,kr,kn,kr1,kn1,hlt,hs]
   rw [wrap64 (by omega) (by omega)]
   refine ih _ ?_
   simp (maxSteps:=4000000) (disch:=first | (intros; contradiction) | omega) only [go_sem,kr0,kn0,kr1,kn1] <;> rfl
  ·have hs:=step_off hx (runM j s0) hk
   have e1:runM fuel.toNat s0 = runM j s0:=runM_stay hk _ (by omega)
   rw [e1] at hout ⊢
   clear hstep ih
   generalize runM j s0 = s at hs hout kr kn ⊢
   simp only [outA,Mc.H,Mc.obj,Md1.sr,Md1.fr] at hs hout ⊢
   generalize s.cells.map cellA = cs at kr kn hs hout ⊢
   simp (maxSteps:=4000000) (disch:=first | (intros; contradiction) | omega) only [go_sem,kr0,kn0,kr,kn,hlt,hs,hout]
   done
 ·have e1:fuel.toNat = j:=by omega
  rw [e1] at hout ⊢
  clear hstep ih
  generalize runM j s0 = s at hout kr kn ⊢
  simp only [outA,Mc.H,Mc.obj,Md1.sr,Md1.fr] at hout ⊢
  generalize s.cells.map cellA = cs at kr kn hout ⊢
  simp (maxSteps:=4000000) (disch:=first | (intros; contradiction) | omega) only [go_sem,kr0,kn0,kr,kn,hlt,hout]
  done
end Go.Proofs.YtkflggjdlflndaaGreat
