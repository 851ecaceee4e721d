/- The machine: frames; The machine: a step; The machine: its outcome, a run. Conditions: none. -/
import Derived.Test.YtkflggjdlflndaaGreatZ4
import Derived.Test.YtkflggjdlflndaaGreatLp
set_option linter.unusedSimpArgs false
set_option linter.unusedVariables false
namespace Go.Proofs.YtkflggjdlflndaaGreat
open Go Go.Ab
variable {ext:Sem'}
def enterP (s:Mc) (c:Cd1) (args:List Vl) (tv:Int):Mc:=
 { s with top:=some s.reg.length,reg:=s.reg ++ [.fr c 0 (s.reg.length + 1) c.vars.length s.top tv,.vs (args ++ List.replicate (c.vars.length - args.length) (0,none))] }
theorem vals_refs (l:List Vl):((valsA l).map refs).flatten = []:=by
 induction l with
 | nil=>rfl
 | cons v l ih=>rw [vals_cons,List.map_append,List.flatten_append,ih]; simp [vlA,refs,ptrV_refs]
theorem vals_ren (f:Nat→Nat) (l:List Vl):(valsA l).map (ren f) = valsA l:=by
 induction l with
 | nil=>rfl
 | cons v l ih=>rw [vals_cons,List.map_append,ih]; simp [vlA,ren,ptrV_ren]
def aO (e:Nat) (l:List Vl):AObj:=.stk e 2 (valsA l)
theorem aO_refs (e:Nat) (l:List Vl):refsO (aO e l) = []:=vals_refs l
theorem aO_ren (f:Nat→Nat) (e:Nat) (l:List Vl):renO f (aO e l) = aO e l:=by
 show AObj.stk e 2 ((valsA l).map (ren f)) = _
 rw [vals_ren]; rfl
theorem aO_is (e:Nat) (l:List Vl):isObj (aO e l) = true:=rfl
attribute [go_sem] aO_refs aO_ren aO_is
structure T3 (ext:Sem'):Prop extends T2 ext where
 enter0:∀ (s:Mc) (f tv:Int) (c:Cd1),0 ≤ f→s.m.funcs[f.toNat]? = some c→c.vars.length ≤ 1000→ext 26 [.ptr 1 0,.d (.int .i64 f),.d (.sl []),.d (.int .i64 tv)] s.H = some (.ret (.tuple []),(enterP s c [] tv).H)
 enter1:∀ (s:Mc) (f tv:Int) (c:Cd1) (args:List Vl) (e:Nat),0 ≤ f→s.m.funcs[f.toNat]? = some c→c.vars.length ≤ 1000→args.length ≤ c.vars.length→ext 26 [.ptr 1 0,.d (.int .i64 f),.stk 4 e args.length,.d (.int .i64 tv)] (s.H ++ [aO e args]) = some (.ret (.tuple []),(enterP s c args tv).H ++ [aO e args])
def leaveP (s:Mc) (v:Vl):Mc:=
 match s.top with
 | none=>s
 | some k=>match s.reg[k]? with
  | some (.fr _ _ _ _ none _)=>{ s with top:=none,kind:=1,code:=v.1 }
  | some (.fr _ _ _ _ (some u) tv)=>(match s.reg[u]? with
   | some (.fr _ _ vk _ _ _)=>(match s.reg[vk]? with
    | some (.vs l)=>{ s with top:=some u }.put vk l tv v
    | _=>s)
   | _=>s)
  | _=>s
inductive LeaveOk (s:Mc):Prop
 | last (k:Nat) (c:Cd1) (pc:Int) (vk vn:Nat) (tv:Int) (ht:s.top = some k) (hk:s.reg[k]? = some (.fr c pc vk vn none tv))
 | more (k:Nat) (c:Cd1) (pc:Int) (vk vn:Nat) (tv:Int) (u:Nat) (c2:Cd1) (pc2:Int) (vk2:Nat) (up2:Option Nat) (tv2:Int) (l2:List Vl) (ht:s.top = some k) (hk:s.reg[k]? = some (.fr c pc vk vn (some u) tv))
   (hu:s.reg[u]? = some (.fr c2 pc2 vk2 l2.length up2 tv2)) (hl:s.reg[vk2]? = some (.vs l2)) (h0:0 ≤ tv) (h1:tv < (l2.length:Nat))
set_option maxHeartbeats 4000000 in
theorem leave_m (hx:T3 ext) (s:Mc) (v:Vl) (h:LeaveOk s):G ext 31 [.ptr 1 0,.agg [.d (.int .i64 v.1),ptrV v.2]] s.H = some (.ret (.tuple []),(leaveP s v).H):=by
 have kr:=cell_refs s.cells
 have kn:=fun f=>cell_ren f s.cells
 cases h with
 | last k c pc vk vn tv ht hk=>
  have g1:=get_rg hk
  simp only [Blk.av,Cd1.row,ptrV_none] at g1
  simp only [leaveP,ht,hk,Mc.H,Mc.obj,Md1.sr,Md1.fr,ptrV_none,ptrV_some]
  rw [G_body hx.clear rfl Tryz.func31 rfl Tryz.results31 hv_31 rfl]
  generalize s.cells.map cellA = cs at kr kn ⊢
  simp (maxSteps:=4000000) (disch:=first | (intros; contradiction) | omega) only [go_sem,kr,kn,g1]
  done
 | more k c pc vk vn tv u c2 pc2 vk2 up2 tv2 l2 ht hk hu hl h0 h1=>
  have g1:=get_rg hk
  have g2:=get_rg hu
  have hp:Pl s.reg vk2 l2 tv (nthV l2 tv):=⟨hl,h0,h1,by unfold nthV; rw [List.getElem?_eq_getElem (by omega)]; rfl⟩
  have g4:=hp.set v
  simp only [Blk.av,Cd1.row,ptrV_some] at g1 g2
  simp only [leaveP,ht,hk,hu,hl,Mc.put,Mc.H,Mc.obj,Md1.sr,Md1.fr,ptrV_some]
  rw [G_body hx.clear rfl Tryz.func31 rfl Tryz.results31 hv_31 rfl]
  generalize s.cells.map cellA = cs at kr kn ⊢
  simp (maxSteps:=4000000) (disch:=first | (intros; contradiction) | omega) only [go_sem,kr,kn,g1,g2,g4,h0,h1]
  done
structure CallOk (s:Mc) (i:In1) (vk:Nat) (l:List Vl) (c:Cd1):Prop where
 at_:s.reg[vk]? = some (.vs l)
 f0:0 ≤ i.f
 fn:s.m.funcs[i.f.toNat]? = some c
 vars:c.vars.length ≤ 1000
 few:i.args.length ≤ c.vars.length
 args:∀ a,a ∈ i.args→0 ≤ a∧a < (l.length:Nat)
theorem vals_snoc (l:List Vl) (v:Vl):valsA l ++ [.d (.int .i64 v.1),ptrV v.2] = valsA (l ++ [v]):=by simp [valsA,vlA]
theorem app_aO {r e k:Nat} {l:List Vl} (n:Int) (hl:l.length ≤ 1000):stkAppV r e l.length 2 16 1 2 [.d (.int .i64 n),.rp k 0] (aO e l) = some (.val (.stk r (e + 1) (l.length + 1)) [(r,aO (e + 1) (l ++ [(n,some k)]))]):=by
 have hroom:room (l.length + 1) 16:=by unfold room; simp; omega
 have hln:=vals_len l
 unfold aO
 unfold stkAppV
 simp only
 rw [if_pos (by refine ⟨trivial,trivial,trivial,by decide,rfl,by omega,hroom⟩),List.take_of_length_le (by omega),← vals_snoc]
 rfl
theorem app_aOd {r e:Nat} {l:List Vl} (n:Int) (hl:l.length ≤ 1000):stkApp r e l.length 2 16 [[.int .i64 n,.nilp]] (aO e l) = some (.val (.stk r (e + 1) (l.length + 1)) [(r,aO (e + 1) (l ++ [(n,none)]))]):=by
 have hroom:room (l.length + 1) 16:=by unfold room; simp; omega
 have hln:=vals_len l
 have hft:fits 2 ([[.int .i64 n,.nilp]]:List (List Dt)):=by intro row h; simp at h; rw [h]; rfl
 unfold aO
 unfold stkApp
 simp only [List.length_cons,List.length_nil]
 rw [if_pos (by refine ⟨trivial,trivial,hft,by omega,hroom⟩),List.take_of_length_le (by omega),← vals_snoc]
 rfl
set_option maxHeartbeats 4000000 in
theorem call_m (hx:T3 ext) (s:Mc) (i:In1) (vk:Nat) (l:List Vl) (c:Cd1) (h:CallOk s i vk l c):G ext 30 [.ptr 1 0,i.av,.rs vk 0 l.length 2] s.H = some (.ret (.tuple []),(enterP s c (i.args.map (nthV l)) i.d).H):=by
 have kr:=cell_refs s.cells
 have kn:=fun f=>cell_ren f s.cells
 have krE:=cell_refs (enterP s c (i.args.map (nthV l)) i.d).cells
 have knE:=fun f=>cell_ren f (enterP s c (i.args.map (nthV l)) i.d).cells
 have hent:=G_ext (hx.enter1 s i.f i.d c (i.args.map (nthV l)) i.args.length h.f0 h.fn h.vars (by rw [List.length_map]; exact h.few))
 have hal:(i.args.map rowI).length = i.args.length:=List.length_map _
 have hvr:=vals_refs (i.args.map (nthV l))
 have hvn:=fun f=>vals_ren f (i.args.map (nthV l))
 have hat:=get_rg h.at_
 simp only [Blk.av] at hat
 have hargs:=h.args
 have hml:=h.vars
 have hfew:=h.few
 rw [List.length_map] at hent
 obtain ⟨op,d,a,b,f,n,sign,args,mode,dest,els,pos⟩:=i
 simp only at hargs hfew hent hal krE knE hvr hvn ⊢
 generalize enterP s c (args.map (nthV l)) d = s2 at krE knE hent ⊢
 simp only [In1.av,ints]
 rw [G_body hx.clear rfl Tryz.func30 rfl Tryz.results30 hv_30 rfl]
 simp only [Mc.H,Mc.obj,Md1.sr,Md1.fr,List.cons_append,List.nil_append] at hent ⊢
 generalize s.cells.map cellA = cs at kr kn hent ⊢
 generalize s2.cells.map cellA = cs2 at krE knE hent ⊢
 simp (maxSteps:=4000000) (disch:=first | (intros; contradiction) | omega) only [go_sem,kr,kn]
 generalize hL:loopA _ _ _ = L
 apply range_upd hL (by simp (maxSteps:=4000000) (disch:=first | (intros; contradiction) | omega) only [go_sem,kr] <;> rfl) args rowI (α:=List Vl) (fun rest k acc=>acc.length = k∧acc ++ rest.map (nthV l) = args.map (nthV l)) (fun k acc=>[(6,.stk 5 acc.length acc.length),(12,.d (.int .i64 k))]) (fun _ acc=>[(5,aO acc.length acc)]) [] (by simp (maxSteps:=4000000) (disch:=first | (intros; contradiction) | omega) only [go_sem] <;> rfl) ⟨rfl,rfl⟩ ?_ ?_
 ·rintro x rest k acc ⟨i1,i2⟩ hlt hr hget hk _ next ih
  clear hL
  obtain ⟨x0,x1⟩:=hargs x (List.mem_of_getElem? hget)
  have hp:Pl s.reg vk l x (nthV l x):=⟨h.at_,x0,x1,by unfold nthV; rw [List.getElem?_eq_getElem (by omega)]; rfl⟩
  have g5:=hp.two
  have g6:=hp.le
  have hlen:acc.length ≤ 1000:=by omega
  simp only [rowI] at hr
  have e2:acc ++ nthV l x :: rest.map (nthV l) = args.map (nthV l):=i2
  generalize nthV l x = v at g5 e2
  obtain ⟨vn,vp⟩:=v
  cases vp with
  | none=>
   have happ:=app_aOd (r:=5) (e:=acc.length) (l:=acc) vn hlen
   simp only [ptrV_none] at g5
   simp (maxSteps:=4000000) (disch:=first | (intros; contradiction) | omega) only [go_sem,kr,kn,hlt,hr,hat,x0,x1,g5,g6,happ,wrap64]
   refine ih (acc ++ [(vn,none)]) _ ⟨by simp [i1],by rw [← e2]; simp⟩ ?_
   rw [List.length_append]
   simp (maxSteps:=4000000) (disch:=first | (intros; contradiction) | omega) only [go_sem,kr,kn] <;> rfl
  | some q=>
   have happ:=app_aO (r:=5) (e:=acc.length) (l:=acc) (k:=q) vn hlen
   simp only [ptrV_some] at g5
   simp (maxSteps:=4000000) (disch:=first | (intros; contradiction) | omega) only [go_sem,kr,kn,hlt,hr,hat,x0,x1,g5,g6,happ,wrap64]
   refine ih (acc ++ [(vn,some q)]) _ ⟨by simp [i1],by rw [← e2]; simp⟩ ?_
   rw [List.length_append]
   simp (maxSteps:=4000000) (disch:=first | (intros; contradiction) | omega) only [go_sem,kr,kn] <;> rfl
 ·rintro k acc ⟨i1,i2⟩ hlt hk next
  clear hL
  rw [List.map_nil,List.append_nil] at i2
  subst i2
  have e3:(args.map (nthV l)).length = args.length:=List.length_map _
  simp (maxSteps:=4000000) (disch:=first | (intros; contradiction) | omega) only [go_sem,kr,kn,krE,knE,hlt,e3,hent]
  done
end Go.Proofs.YtkflggjdlflndaaGreat
namespace Go.Proofs.YtkflggjdlflndaaGreat
open Go Go.Ab
variable {ext:Sem'}
def Mc.at (s:Mc) (k:Nat) (c:Cd1) (pc:Int) (vk vn:Nat) (up:Option Nat) (tv:Int):Mc:={ s with steps:=IntKind.wrap .i64 (s.steps + 1),reg:=s.reg.set k (.fr c pc vk vn up tv) }
structure Fr (s:Mc) (k:Nat) (c:Cd1) (pc:Int) (vk:Nat) (l:List Vl) (up:Option Nat) (tv:Int) (i:In1):Prop where
 going:s.kind = 4
 top:s.top = some k
 fr:s.reg[k]? = some (.fr c pc vk l.length up tv)
 vs:s.reg[vk]? = some (.vs l)
 pc0:0 ≤ pc
 ins:c.ins[pc.toNat]? = some i
theorem set_frame {R:List Blk} {k:Nat} {c:Cd1} {pc:Int} {vk vn:Nat} {up:Option Nat} {tv:Int} (h:R[k]? = some (.fr c pc vk vn up tv)) (q:Int):regSet (rgA R) k 1 [.d (.int .i64 q)] = some (rgA (R.set k (.fr c q vk vn up tv))):=
 set_rg (b':=.fr c q vk vn up tv) h (by simp [Blk.av]) rfl
theorem ins_rows {c:Cd1} {pc:Int} {i:In1} (h:c.ins[pc.toNat]? = some i):(c.ins.map In1.row)[pc.toNat]? = some i.row:=by rw [List.getElem?_map,h]; rfl
theorem ins_lt {c:Cd1} {pc:Int} {i:In1} (h0:0 ≤ pc) (h:c.ins[pc.toNat]? = some i):pc < ((c.ins.map In1.row).length:Nat):=by
 have:=(List.getElem?_eq_some_iff.1 h).1
 rw [List.length_map]; omega
theorem step_off (hx:T3 ext) (s:Mc) (h:¬ s.kind = 4):G ext 16 [.ptr 1 0] s.H = some (.ret (.d (.bool false)),s.H):=by
 have kr:=cell_refs s.cells
 have kn:=fun f=>cell_ren f s.cells
 rw [G_body hx.clear rfl Tryz.func16 rfl Tryz.results16 hv_16 rfl]
 simp only [Mc.H,Mc.obj,Md1.sr,Md1.fr]
 generalize s.cells.map cellA = cs at kr kn ⊢
 simp (maxSteps:=4000000) (disch:=first | (intros; contradiction) | omega) only [go_sem,kr,kn,h]
 done
set_option maxHeartbeats 8000000 in
theorem step_jump (hx:T3 ext) (s:Mc) {k:Nat} {c:Cd1} {pc:Int} {vk:Nat} {l:List Vl} {up:Option Nat} {tv:Int} {i:In1} (h:Fr s k c pc vk l up tv i) (ho:i.op = 16) :
  G ext 16 [.ptr 1 0] s.H = some (.ret (.d (.bool true)),(s.at k c i.to vk l.length up tv).H):=by
 have kr:=cell_refs s.cells
 have kn:=fun f=>cell_ren f s.cells
 obtain ⟨g,ht,hf,hv,h0,hi⟩:=h
 have hr:=ins_rows hi
 have hlt:=ins_lt h0 hi
 have g1:=get_rg hf
 have s1:=set_frame hf (IntKind.wrap .i64 (pc + 1))
 have hf2:=set_at hf (.fr c (IntKind.wrap .i64 (pc + 1)) vk l.length up tv)
 have g2:=get_rg hf2
 have s2:=set_frame hf2 i.to
 have e2:(s.reg.set k (.fr c (IntKind.wrap .i64 (pc + 1)) vk l.length up tv)).set k (.fr c i.to vk l.length up tv) = s.reg.set k (.fr c i.to vk l.length up tv):=by rw [List.set_set]
 rw [e2] at s2
 obtain ⟨op,d,a,b,f,n,sign,args,mode,dest,els,pos⟩:=i
 simp only at ho
 subst ho
 simp only [Blk.av,Cd1.row] at g1 g2
 simp only [In1.row,ints] at hr
 rw [G_body hx.clear rfl Tryz.func16 rfl Tryz.results16 hv_16 rfl]
 simp only [Mc.at,Mc.H,Mc.obj,Md1.sr,Md1.fr,ht,ptrV_some]
 generalize s.cells.map cellA = cs at kr kn ⊢
 simp (maxSteps:=4000000) (disch:=first | (intros; contradiction) | omega) only [go_sem,kr,kn,g,g1,g2,s1,s2,hr,hlt,h0]
 done
set_option maxHeartbeats 8000000 in
theorem step_branch (hx:T3 ext) (s:Mc) {k:Nat} {c:Cd1} {pc:Int} {vk:Nat} {l:List Vl} {up:Option Nat} {tv:Int} {i:In1} (h:Fr s k c pc vk l up tv i) (ho:i.op = 17) (ha:0 ≤ i.a∧i.a < (l.length:Nat)) (hkv:k ≠ vk) :
  G ext 16 [.ptr 1 0] s.H = some (.ret (.d (.bool true)),(s.at k c (if (nthV l i.a).1 ≠ 0 then i.to else i.els) vk l.length up tv).H):=by
 have kr:=cell_refs s.cells
 have kn:=fun f=>cell_ren f s.cells
 obtain ⟨g,ht,hf,hv,h0,hi⟩:=h
 have hr:=ins_rows hi
 have hlt:=ins_lt h0 hi
 have g1:=get_rg hf
 have s1:=set_frame hf (IntKind.wrap .i64 (pc + 1))
 have hf2:=set_at hf (.fr c (IntKind.wrap .i64 (pc + 1)) vk l.length up tv)
 have g2:=get_rg hf2
 have s2:=set_frame hf2 i.els
 rw [List.set_set] at s2
 have hf3:=set_at hf (.fr c i.els vk l.length up tv)
 have g3:=get_rg hf3
 have s3:=set_frame hf3 i.to
 rw [List.set_set] at s3
 have hv2:(s.reg.set k (.fr c i.els vk l.length up tv))[vk]? = some (.vs l):=by rw [List.getElem?_set_ne hkv]; exact hv
 have hp:Pl (s.reg.set k (.fr c i.els vk l.length up tv)) vk l i.a (nthV l i.a):=⟨hv2,ha.1,ha.2,by unfold nthV; rw [List.getElem?_eq_getElem (by omega)]; rfl⟩
 have g4:=hp.get
 have g5:=hp.one
 obtain ⟨a0,a1⟩:=ha
 obtain ⟨op,d,a,b,f,n,sign,args,mode,dest,els,pos⟩:=i
 simp only at ho a0 a1 g5 s2 s3 g3 g4 ⊢
 subst ho
 simp only [Blk.av,Cd1.row] at g1 g2 g3
 simp only [In1.row,ints] at hr
 rw [G_body hx.clear rfl Tryz.func16 rfl Tryz.results16 hv_16 rfl]
 simp only [Mc.at,Mc.H,Mc.obj,Md1.sr,Md1.fr,ht,ptrV_some]
 generalize s.cells.map cellA = cs at kr kn ⊢
 by_cases hz:(nthV l a).1 = 0
 ·rw [if_neg (by simp [hz])]
  have hz:=eq_true hz
  simp (maxSteps:=4000000) (disch:=first | (intros; contradiction) | omega) only [go_sem,kr,kn,g,g1,g2,g3,g4,g5,s1,s2,hr,hlt,h0,a0,a1,hz]
  done
 ·rw [if_pos hz]
  simp (maxSteps:=4000000) (disch:=first | (intros; contradiction) | omega) only [go_sem,kr,kn,g,g1,g2,g3,g4,g5,s1,s2,s3,hr,hlt,h0,a0,a1,hz]
  done
def Mc.next (s:Mc) (k:Nat) (c:Cd1) (pc:Int) (vk vn:Nat) (up:Option Nat) (tv:Int):Mc:=s.at k c (IntKind.wrap .i64 (pc + 1)) vk vn up tv
set_option maxHeartbeats 8000000 in
theorem step_call (hx:T3 ext) (s:Mc) {k:Nat} {c:Cd1} {pc:Int} {vk:Nat} {l:List Vl} {up:Option Nat} {tv:Int} {i:In1} (h:Fr s k c pc vk l up tv i) (ho:i.op = 15) (s2:Mc)
  (hc:G ext 30 [.ptr 1 0,i.av,.rs vk 0 l.length 2] (s.next k c pc vk l.length up tv).H = some (.ret (.tuple []),s2.H)) :
  G ext 16 [.ptr 1 0] s.H = some (.ret (.d (.bool true)),s2.H):=by
 have kr:=cell_refs s.cells
 have kn:=fun f=>cell_ren f s.cells
 obtain ⟨g,ht,hf,hv,h0,hi⟩:=h
 have hr:=ins_rows hi
 have hlt:=ins_lt h0 hi
 have g1:=get_rg hf
 have s1:=set_frame hf (IntKind.wrap .i64 (pc + 1))
 have hf2:=set_at hf (.fr c (IntKind.wrap .i64 (pc + 1)) vk l.length up tv)
 have g2:=get_rg hf2
 have kr2:=cell_refs s2.cells
 have kn2:=fun f=>cell_ren f s2.cells
 obtain ⟨op,d,a,b,f,n,sign,args,mode,dest,els,pos⟩:=i
 simp only at ho
 subst ho
 simp only [Blk.av,Cd1.row] at g1 g2
 simp only [In1.row,ints] at hr
 rw [G_body hx.clear rfl Tryz.func16 rfl Tryz.results16 hv_16 rfl]
 simp only [In1.av,ints,Mc.next,Mc.at,Mc.H,Mc.obj,Md1.sr,Md1.fr,ht,g,ptrV_some] at hc ⊢
 generalize s.cells.map cellA = cs at kr kn hc ⊢
 generalize s2.cells.map cellA = cs2 at kr2 kn2 hc ⊢
 simp (maxSteps:=4000000) (disch:=first | (intros; contradiction) | omega) only [go_sem,kr,kn,kr2,kn2,g,g1,g2,s1,hr,hlt,h0,hc]
 done
set_option maxHeartbeats 8000000 in
theorem step_ret (hx:T3 ext) (s:Mc) {k:Nat} {c:Cd1} {pc:Int} {vk:Nat} {l:List Vl} {up:Option Nat} {tv:Int} {i:In1} (h:Fr s k c pc vk l up tv i) (ho:i.op = 18) (ha:0 ≤ i.a∧i.a < (l.length:Nat)) (hkv:k ≠ vk) (s2:Mc)
  (hc:G ext 31 [.ptr 1 0,.agg [.d (.int .i64 (nthV l i.a).1),ptrV (nthV l i.a).2]] (s.next k c pc vk l.length up tv).H = some (.ret (.tuple []),s2.H)) :
  G ext 16 [.ptr 1 0] s.H = some (.ret (.d (.bool true)),s2.H):=by
 have kr:=cell_refs s.cells
 have kn:=fun f=>cell_ren f s.cells
 obtain ⟨g,ht,hf,hv,h0,hi⟩:=h
 have hr:=ins_rows hi
 have hlt:=ins_lt h0 hi
 have g1:=get_rg hf
 have s1:=set_frame hf (IntKind.wrap .i64 (pc + 1))
 have hf2:=set_at hf (.fr c (IntKind.wrap .i64 (pc + 1)) vk l.length up tv)
 have g2:=get_rg hf2
 have kr2:=cell_refs s2.cells
 have kn2:=fun f=>cell_ren f s2.cells
 have hv2:(s.reg.set k (.fr c (IntKind.wrap .i64 (pc + 1)) vk l.length up tv))[vk]? = some (.vs l):=by rw [List.getElem?_set_ne hkv]; exact hv
 have hp:Pl (s.reg.set k (.fr c (IntKind.wrap .i64 (pc + 1)) vk l.length up tv)) vk l i.a (nthV l i.a):=⟨hv2,ha.1,ha.2,by unfold nthV; rw [List.getElem?_eq_getElem (by omega)]; rfl⟩
 have g4:=hp.get
 have g5:=hp.two
 have g6:=hp.le
 obtain ⟨a0,a1⟩:=ha
 obtain ⟨op,d,a,b,f,n,sign,args,mode,dest,els,pos⟩:=i
 simp only at ho a0 a1 g4 g5 g6 hc
 subst ho
 simp only [Blk.av,Cd1.row] at g1 g2
 simp only [In1.row,ints] at hr
 rw [G_body hx.clear rfl Tryz.func16 rfl Tryz.results16 hv_16 rfl]
 simp only [Mc.next,Mc.at,Mc.H,Mc.obj,Md1.sr,Md1.fr,ht,g,ptrV_some] at hc ⊢
 generalize s.cells.map cellA = cs at kr kn hc ⊢
 generalize s2.cells.map cellA = cs2 at kr2 kn2 hc ⊢
 clear hp
 generalize nthV l a = v at g5 hc
 obtain ⟨vn,vp⟩:=v
 cases vp with
 | none=>
  simp only [ptrV_none] at g5 hc
  simp (maxSteps:=4000000) (disch:=first | (intros; contradiction) | omega) only [go_sem,kr,kn,kr2,kn2,g,g1,g2,g4,g5,g6,s1,hr,hlt,h0,a0,a1,hc]
  done
 | some q=>
  simp only [ptrV_some] at g5 hc
  simp (maxSteps:=4000000) (disch:=first | (intros; contradiction) | omega) only [go_sem,kr,kn,kr2,kn2,g,g1,g2,g4,g5,g6,s1,hr,hlt,h0,a0,a1,hc]
  done
set_option maxHeartbeats 8000000 in
theorem step_else (hx:T3 ext) (s:Mc) {k:Nat} {c:Cd1} {pc:Int} {vk:Nat} {l:List Vl} {up:Option Nat} {tv:Int} {i:In1} (h:Fr s k c pc vk l up tv i) (h15:¬ i.op = 15) (h16:¬ i.op = 16) (h17:¬ i.op = 17) (h18:¬ i.op = 18) (b1 b2:Bool) (s2 s3:Mc)
  (hn:G ext 28 [.ptr 1 0,i.av,.rs vk 0 l.length 2] (s.next k c pc vk l.length up tv).H = some (.ret (.d (.bool b1)),s2.H))
  (hk2:s2.reg[k]? = some (.fr c (IntKind.wrap .i64 (pc + 1)) vk l.length up tv))
  (hh:G ext 29 [.ptr 1 0,i.av,.rs vk 0 l.length 2] s2.H = some (.ret (.d (.bool b2)),s3.H)) :
  G ext 16 [.ptr 1 0] s.H = some (.ret (.d (.bool true)),(if b1 then (if b2 then s3 else { s3 with kind:=2 }) else { s2 with kind:=2 }:Mc).H):=by
 have kr:=cell_refs s.cells
 have kn:=fun f=>cell_ren f s.cells
 obtain ⟨g,ht,hf,hv,h0,hi⟩:=h
 have hr:=ins_rows hi
 have hlt:=ins_lt h0 hi
 have g1:=get_rg hf
 have s1:=set_frame hf (IntKind.wrap .i64 (pc + 1))
 have hf2:=set_at hf (.fr c (IntKind.wrap .i64 (pc + 1)) vk l.length up tv)
 have g2:=get_rg hf2
 have kr2:=cell_refs s2.cells
 have kn2:=fun f=>cell_ren f s2.cells
 have kr3:=cell_refs s3.cells
 have kn3:=fun f=>cell_ren f s3.cells
 have g3:=get_rg hk2
 obtain ⟨op,d,a,b,f,n,sign,args,mode,dest,els,pos⟩:=i
 simp only at h15 h16 h17 h18
 simp only [Blk.av,Cd1.row] at g1 g2 g3
 simp only [In1.row,ints] at hr
 rw [G_body hx.clear rfl Tryz.func16 rfl Tryz.results16 hv_16 rfl]
 cases b1 with
 | false=>
  simp only [Bool.false_eq_true,if_false]
  simp only [In1.av,ints,Mc.next,Mc.at,Mc.H,Mc.obj,Md1.sr,Md1.fr,ht,g,ptrV_some] at hn ⊢
  generalize s.cells.map cellA = cs at kr kn hn ⊢
  generalize s2.cells.map cellA = cs2 at kr2 kn2 hn ⊢
  simp (maxSteps:=4000000) (disch:=first | (intros; contradiction) | omega) only [go_sem,kr,kn,kr2,kn2,g,g1,g2,s1,hr,hlt,h0,h15,h16,h17,h18,hn]
  done
 | true=>
  simp only [if_true]
  cases b2 with
  | false=>
   simp only [Bool.false_eq_true,if_false]
   simp only [In1.av,ints,Mc.next,Mc.at,Mc.H,Mc.obj,Md1.sr,Md1.fr,ht,g,ptrV_some] at hn hh ⊢
   generalize s.cells.map cellA = cs at kr kn hn ⊢
   generalize s2.cells.map cellA = cs2 at kr2 kn2 hn hh ⊢
   generalize s3.cells.map cellA = cs3 at kr3 kn3 hh ⊢
   simp (maxSteps:=4000000) (disch:=first | (intros; contradiction) | omega) only [go_sem,kr,kn,kr2,kn2,kr3,kn3,g,g1,g2,g3,s1,hr,hlt,h0,h15,h16,h17,h18,hn,hh]
   done
  | true=>
   simp only [if_true]
   simp only [In1.av,ints,Mc.next,Mc.at,Mc.H,Mc.obj,Md1.sr,Md1.fr,ht,g,ptrV_some] at hn hh ⊢
   generalize s.cells.map cellA = cs at kr kn hn ⊢
   generalize s2.cells.map cellA = cs2 at kr2 kn2 hn hh ⊢
   generalize s3.cells.map cellA = cs3 at kr3 kn3 hh ⊢
   simp (maxSteps:=4000000) (disch:=first | (intros; contradiction) | omega) only [go_sem,kr,kn,kr2,kn2,kr3,kn3,g,g1,g2,g3,s1,hr,hlt,h0,h15,h16,h17,h18,hn,hh]
   done
set_option maxHeartbeats 4000000 in
theorem heap_skip (hx:T3 ext) (s:Mc) (i:In1) (vk n:Nat) (h:¬ i.op = 2∧¬ i.op = 3∧¬ i.op = 9∧¬ i.op = 12∧¬ i.op = 13∧¬ i.op = 7∧¬ i.op = 10∧¬ i.op = 8∧¬ i.op = 11):G ext 29 [.ptr 1 0,i.av,.rs vk 0 n 2] s.H = some (.ret (.d (.bool true)),s.H):=by
 have kr:=cell_refs s.cells
 have kn:=fun f=>cell_ren f s.cells
 obtain ⟨op,d,a,b,f,n,sign,args,mode,dest,els,pos⟩:=i
 obtain ⟨c2,c3,c9,c12,c13,c7,c10,c8,c11⟩:=h
 simp only at c2 c3 c9 c12 c13 c7 c10 c8 c11
 simp only [In1.av,ints]
 rw [G_body hx.clear rfl Tryz.func29 rfl Tryz.results29 hv_29 rfl]
 simp only [Mc.H,Mc.obj,Md1.sr,Md1.fr]
 generalize s.cells.map cellA = cs at kr kn ⊢
 simp (maxSteps:=4000000) (disch:=first | (intros; contradiction) | omega) only [go_sem,kr,kn,c2,c3,c9,c12,c13,c7,c10,c8,c11]
 done
end Go.Proofs.YtkflggjdlflndaaGreat
namespace Go.Proofs.YtkflggjdlflndaaGreat
open Go Go.Ab
variable {ext:Sem'}
def aliveB:Option Blk→Bool
 | some (.ce al _ _)=>al
 | _=>false
def leftN (R:List Blk) (l:List Nat):Nat:=(l.filter fun k=>aliveB R[k]?).length
theorem leftN_succ (R:List Blk) {l:List Nat} {k:Nat} (h:k < l.length):leftN R (l.take (k + 1)) = leftN R (l.take k) + (if aliveB R[l[k]]? then 1 else 0):=by
 unfold leftN
 rw [List.take_succ_eq_append_getElem h,List.filter_append,List.length_append]
 congr 1
 cases hh:aliveB R[l[k]]? <;> simp [List.filter,hh]
def outA (s:Mc):AV:=.agg [.d (.int .i64 s.kind),.d (.int .i64 s.code),.d (.sl (s.out.map rowU)),.d (.int .i64 s.steps),.d (.int .i64 (leftN s.reg s.cells))]
set_option maxHeartbeats 4000000 in
theorem outcome_m (hx:T3 ext) (s:Mc) (hc:∀ k,k ∈ s.cells→isCe s.reg[k]?) (hn:s.cells.length ≤ 100000) (ho:s.out.length ≤ 1000000):G ext 15 [.ptr 1 0] s.H = some (.ret (outA s),s.H):=by
 have kr:=cell_refs s.cells
 have kn:=fun f=>cell_ren f s.cells
 have hcl:=G_ext (hx.bclone s.out ho)
 rw [G_body hx.clear rfl Tryz.func15 rfl Tryz.results15 hv_15 rfl]
 simp only [outA,Mc.H,Mc.obj,Md1.sr,Md1.fr]
 have hcs:(s.cells.map cellA).length = s.cells.length:=List.length_map _
 generalize hcd:s.cells.map cellA = cs at kr kn hcs ⊢
 simp (maxSteps:=4000000) (disch:=first | (intros; contradiction) | omega) only [go_sem,kr,kn,hcl]
 generalize hL:loopA _ _ _ = L
 apply loop_upd hL (by simp (maxSteps:=4000000) (disch:=first | (intros; contradiction) | omega) only [go_sem,kr] <;> rfl) (fun k:Nat=>k ≤ s.cells.length) (fun k=>s.cells.length - k) (fun k=>[(21,.d (.int .i64 k))]) (fun k=>[(4,.cells [.d (.int .i64 s.kind),.d (.int .i64 s.code),.grow 6 0 (s.out.map rowU),.d (.int .i64 s.steps),.d (.int .i64 (leftN s.reg (s.cells.take k)))])]) 0 rfl (Nat.zero_le _)
 rintro k hk next ih
 by_cases hlt:k < s.cells.length
 ·have hlt':(k:Int) < (s.cells.length:Int):=by omega
  have h0:(0:Int) ≤ (k:Int):=by omega
  have hck:cs[k]? = some (.rp s.cells[k] 0):=by rw [← hcd,List.getElem?_map,List.getElem?_eq_getElem hlt]; rfl
  have hce:=hc s.cells[k] (List.getElem_mem hlt)
  have htk:=leftN_succ s.reg hlt
  have hle:leftN s.reg (s.cells.take k) ≤ k:=by
   unfold leftN
   exact Nat.le_trans (List.length_filter_le _ _) (by rw [List.length_take]; omega)
  generalize s.cells[k] = c at hck hce htk
  cases hb:s.reg[c]? with
  | none=>rw [hb] at hce; exact hce.elim
  | some b=>
   have hg:=get_rg hb
   rw [hb] at hce htk
   cases b with
   | fr _ _ _ _ _ _=>exact hce.elim
   | vs _=>exact hce.elim
   | ce al fk fn=>
    simp only [Blk.av] at hg
    cases al with
    | true=>
     simp only [aliveB,if_true] at htk
     have hadd:IntKind.wrap .i64 ((leftN s.reg (s.cells.take k):Int) + 1) = (leftN s.reg (s.cells.take (k + 1)):Int):=by
      rw [htk,wrap64 (by omega) (by omega)]; simp
     simp (maxSteps:=4000000) (disch:=first | (intros; contradiction) | omega) only [go_sem,kr,kn,hlt',h0,Nat.mul_one,hck,hg,hadd]
     rw [wrap64 (by omega) (by omega)]
     refine ih (k + 1) _ (by omega) (by omega) ?_
     simp (maxSteps:=4000000) (disch:=first | (intros; contradiction) | omega) only [go_sem,kr,kn] <;> rfl
    | false=>
     simp only [aliveB,Bool.false_eq_true,if_false,Nat.add_zero] at htk
     simp (maxSteps:=4000000) (disch:=first | (intros; contradiction) | omega) only [go_sem,kr,kn,hlt',h0,Nat.mul_one,hck,hg]
     rw [wrap64 (by omega) (by omega)]
     refine ih (k + 1) _ (by omega) (by omega) ?_
     rw [htk]
     simp (maxSteps:=4000000) (disch:=first | (intros; contradiction) | omega) only [go_sem,kr,kn] <;> rfl
 ·have hlt':¬ (k:Int) < (s.cells.length:Int):=by omega
  rw [List.take_of_length_le (by omega)]
  simp (maxSteps:=4000000) (disch:=first | (intros; contradiction) | omega) only [go_sem,kr,kn,hlt']
  done
end Go.Proofs.YtkflggjdlflndaaGreat
