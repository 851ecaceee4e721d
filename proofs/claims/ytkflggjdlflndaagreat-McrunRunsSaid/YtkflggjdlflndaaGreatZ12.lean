/- A machine of the first language, as data: its region, its object; The machine: bytes, cells. Conditions: none. -/
import Derived.Test.YtkflggjdlflndaaGreatM9
import Derived.Test.YtkflggjdlflndaaGreatWX
import Derived.Test.YtkflggjdlflndaaGreatByX
import Derived.Test.YtkflggjdlflndaaGreatAbX8
set_option linter.unusedSimpArgs false
set_option linter.unusedVariables false
namespace Go.Proofs.YtkflggjdlflndaaGreat
open Go Go.Ab
abbrev Vl:=Int × Option Nat
def ptrV:Option Nat→AV
 | none=>.d .nilp
 | some k=>.rp k 0
def vlA (v:Vl):List AV:=[.d (.int .i64 v.1),ptrV v.2]
inductive Blk where
 | fr (c:Cd1) (pc:Int) (vk vn:Nat) (up:Option Nat) (tv:Int)
 | vs (l:List Vl)
 | ce (al:Bool) (fk fn:Nat)
def valsA (l:List Vl):List AV:=(l.map vlA).flatten
def Blk.av:Blk→List AV
 | .fr c pc vk vn up tv=>[.dp c.row,.d (.int .i64 pc),.rs vk 0 vn 2,ptrV up,.d (.int .i64 tv)]
 | .vs l=>valsA l
 | .ce al fk fn=>[.d (.bool al),.rs fk 0 fn 2]
def rgA (R:List Blk):List (List AV):=R.map Blk.av
theorem get_rg {R:List Blk} {k:Nat} {b:Blk} (h:R[k]? = some b):regGet (rgA R) k = some b.av:=by
 unfold regGet rgA
 rw [List.getElem?_map,h]
 rfl
theorem set_rg {R:List Blk} {k off:Nat} {new:List AV} {b b':Blk} (h:R[k]? = some b) (hl:off + new.length ≤ b.av.length) (hb:splice b.av off new = b'.av):regSet (rgA R) k off new = some (rgA (R.set k b')):=by
 unfold regSet
 rw [get_rg h]
 simp only [regSetK]
 rw [if_pos hl,hb]
 unfold rgA
 rw [List.map_set]
theorem get_at {α:Type} {l:List α} {k:Nat} (h:k < l.length) {x:α} (e:l[k] = x):l[k]? = some x:=by rw [List.getElem?_eq_getElem h,e]
theorem vals_cons (v:Vl) (l:List Vl):valsA (v :: l) = vlA v ++ valsA l:=rfl
theorem vals_len (l:List Vl):(valsA l).length = 2 * l.length:=by
 induction l with
 | nil=>rfl
 | cons v l ih=>rw [vals_cons,List.length_append,ih]; simp [vlA]; omega
theorem vals_drop:∀ (l:List Vl) (k:Nat),(valsA l).drop (k * 2) = valsA (l.drop k)
 | l,0=>by simp
 | [],k + 1=>by simp [valsA]
 | v :: l,k + 1=>by
  rw [vals_cons,List.drop_succ_cons,← vals_drop l k,show (k + 1) * 2 = (vlA v).length + k * 2 by simp [vlA]; omega,List.drop_append]
  simp
theorem vals_at {l:List Vl} {k:Nat} {v:Vl} (h:l[k]? = some v):((valsA l).drop (k * 2)).take 2 = vlA v:=by
 rw [vals_drop]
 obtain ⟨hk,rfl⟩:=List.getElem?_eq_some_iff.1 h
 rw [List.drop_eq_getElem_cons hk,vals_cons]
 simp [vlA]
theorem vals_take:∀ (l:List Vl) (k:Nat),(valsA l).take (k * 2) = valsA (l.take k)
 | l,0=>by simp [valsA]
 | [],k + 1=>by simp [valsA]
 | v :: l,k + 1=>by
  rw [vals_cons,List.take_succ_cons,vals_cons,← vals_take l k,show (k + 1) * 2 = (vlA v).length + k * 2 by simp [vlA]; omega,List.take_append]
  rw [List.take_of_length_le (by omega)]
  simp
theorem vals_set {l:List Vl} {k:Nat} (h:k < l.length) (v:Vl):splice (valsA l) (k * 2) (vlA v) = valsA (l.set k v):=by
 unfold splice
 have e:l.set k v = l.take k ++ v :: l.drop (k + 1):=by
  rw [List.set_eq_take_append_cons_drop,if_pos h]
 rw [e,vals_take,show k * 2 + (vlA v).length = (k + 1) * 2 by simp [vlA]; omega,vals_drop]
 simp [valsA]
theorem vals_le {l:List Vl} {k:Nat} (h:k < l.length):k * 2 + 2 ≤ (valsA l).length:=by rw [vals_len]; omega
structure Mc where
 m:Md1
 inp:List Int
 fails:List Bool
 top:Option Nat
 cells:List Nat
 asked:Int
 kind:Int
 code:Int
 out:List Int
 steps:Int
 reg:List Blk
 es:Nat
 eg:Nat
def rowT (b:Bool):List Dt:=[.bool b]
def Mc.obj (s:Mc):AObj:=.cells [.d s.m.sr,.d s.m.fr,.d (.sl (s.inp.map rowU)),.d (.sl (s.fails.map rowT)),ptrV s.top,.stk 2 s.es s.cells.length,.d (.int .i64 s.asked),.d (.int .i64 s.kind),.d (.int .i64 s.code),.grow 3 s.eg (s.out.map rowU),.d (.int .i64 s.steps),.d (.int .i64 0)]
def cellA (k:Nat):AV:=.rp k 0
def Mc.H (s:Mc):List AObj:=[.reg (rgA s.reg),s.obj,.stk s.es 1 (s.cells.map cellA),.grow s.eg 1]
end Go.Proofs.YtkflggjdlflndaaGreat
namespace Go.Proofs.YtkflggjdlflndaaGreat
open Go Go.Ab
variable {ext:Sem'}
structure T1 (ext:Sem'):Prop extends TM ext where
 bclone:∀ l:List Int,l.length ≤ 1000000→ext 25 [.d (.sl (l.map rowU))] [] = some (.ret (.grow 0 0 (l.map rowU)),[.grow 0 1])
theorem ptrV_refs (p:Option Nat):refs (ptrV p) = []:=by cases p <;> rfl
theorem ptrV_ren (f:Nat→Nat) (p:Option Nat):ren f (ptrV p) = ptrV p:=by cases p <;> rfl
theorem ptrV_arrs (p:Option Nat):arrs1 (ptrV p) = []:=by cases p <;> rfl
theorem ptrV_arrs2 (p:Option Nat):arrs2 (ptrV p) = []:=by cases p <;> rfl
theorem ptrV_un (p:Option Nat):unO (ptrV p) = ptrV p:=by cases p <;> rfl
theorem ptrV_un2 (p:Option Nat):unO2 (ptrV p) = ptrV p:=by cases p <;> rfl
attribute [go_sem] ptrV_refs ptrV_ren ptrV_arrs ptrV_arrs2 ptrV_un ptrV_un2 Bool.true_or
theorem cell_refs (l:List Nat):((l.map cellA).map refs).flatten = []:=by
 induction l with
 | nil=>rfl
 | cons k l ih=>simp only [List.map_cons,List.flatten_cons,ih]; rfl
theorem cell_ren (f:Nat→Nat) (l:List Nat):(l.map cellA).map (ren f) = l.map cellA:=by
 induction l with
 | nil=>rfl
 | cons k l ih=>simp only [List.map_cons,ih]; rfl
theorem reg_refs (R:List Blk):refsO (.reg (rgA R)) = []:=by simp [refsO]
def getP (s:Mc):Int × Mc:=match s.inp with
 | []=>(-1,s)
 | b :: r=>(IntKind.wrap .i64 b,{ s with inp:=r })
theorem fits_rowU (l:List Int):fits 1 (l.map rowU):=by intro row h; obtain ⟨x,_,rfl⟩:=List.mem_map.1 h; rfl
theorem mget_e (hx:T1 ext) (s:Mc):G ext 51 [.ptr 1 0] s.H = some (.ret (.agg [.d (.int .i64 (getP s).1),.d .nilp]),(getP s).2.H):=by
 obtain ⟨m,inp,fails,top,cells,asked,kind,code,out,steps,reg,es,eg⟩:=s
 cases inp with
 | nil=>
  simp only [getP,Mc.H,Mc.obj,List.map_nil,Md1.sr,Md1.fr]
  have kr:=cell_refs cells
  have kn:=fun f=>cell_ren f cells
  generalize cells.map cellA = cs at kr kn ⊢
  rw [G_body hx.clear rfl Tryz.func51 rfl Tryz.results51 hv_51 rfl]
  simp (maxSteps:=4000000) (disch:=first | (intros; contradiction) | omega) only [go_sem,kr,kn]
  done
 | cons b inp=>
  simp only [getP,Mc.H,Mc.obj,List.map_cons,rowU,Md1.sr,Md1.fr]
  have kr:=cell_refs cells
  have kn:=fun f=>cell_ren f cells
  generalize cells.map cellA = cs at kr kn ⊢
  have hne:¬ (((inp.map rowU).length + 1:Nat):Int) = 0:=by omega
  have hft:fits 1 ([.int .u8 b] :: inp.map rowU):=fits_rowU (b :: inp)
  have h1:(1:Int) ≤ (((inp.map rowU).length + 1:Nat):Int):=by omega
  rw [G_body hx.clear rfl Tryz.func51 rfl Tryz.results51 hv_51 rfl]
  simp (maxSteps:=4000000) (disch:=first | (intros; contradiction) | omega) only [go_sem,kr,kn,hne,hft,h1]
  done
def fieldR (f:Int):Option Blk→AV
 | some (.ce true fk _)=>.rp fk (f.toNat * 2)
 | _=>.d .nilp
def inF (f:Int):Option Blk→Prop
 | some (.ce true _ n)=>0 ≤ f∧f < n
 | some (.ce false _ _)=>True
 | _=>False
theorem field0_e (hx:T1 ext) (n f:Int) (R:List Blk):G ext 55 [.agg [.d (.int .i64 n),.d .nilp],.d (.int .i64 f)] [.reg (rgA R)] = some (.ret (.d .nilp),[.reg (rgA R)]):=by
 rw [G_body hx.clear rfl Tryz.func55 rfl Tryz.results55 hv_55 rfl]
 simp (maxSteps:=4000000) (disch:=first | (intros; contradiction) | omega) only [go_sem]
 done
theorem field1_e (hx:T1 ext) (n f:Int) (k:Nat) (R:List Blk) (h:inF f R[k]?):G ext 55 [.agg [.d (.int .i64 n),.rp k 0],.d (.int .i64 f)] [.reg (rgA R)] = some (.ret (fieldR f R[k]?),[.reg (rgA R)]):=by
 cases hk:R[k]? with
 | none=>rw [hk] at h; exact h.elim
 | some b=>
  have hg:=get_rg hk
  rw [hk] at h
  cases b with
  | fr _ _ _ _ _ _=>exact h.elim
  | vs _=>exact h.elim
  | ce al fk fn=>
   simp only [Blk.av] at hg
   cases al with
   | false=>
    simp only [fieldR]
    rw [G_body hx.clear rfl Tryz.func55 rfl Tryz.results55 hv_55 rfl]
    simp (maxSteps:=4000000) (disch:=first | (intros; contradiction) | omega) only [go_sem,hg]
    done
   | true=>
    obtain ⟨h1,h2⟩:=h
    simp only [fieldR]
    rw [G_body hx.clear rfl Tryz.func55 rfl Tryz.results55 hv_55 rfl]
    simp (maxSteps:=4000000) (disch:=first | (intros; contradiction) | omega) only [go_sem,hg,h1,h2]
    done
def freeP (R:List Blk):Option Nat→Bool × List Blk
 | none=>(true,R)
 | some k=>match R[k]? with
  | some (.ce true fk fn)=>(true,R.set k (.ce false fk fn))
  | _=>(false,R)
def isCe:Option Blk→Prop
 | some (.ce _ _ _)=>True
 | _=>False
theorem free0_e (hx:T1 ext) (n:Int) (R:List Blk):G ext 54 [.agg [.d (.int .i64 n),.d .nilp]] [.reg (rgA R)] = some (.ret (.d (.bool true)),[.reg (rgA R)]):=by
 rw [G_body hx.clear rfl Tryz.func54 rfl Tryz.results54 hv_54 rfl]
 simp (maxSteps:=4000000) (disch:=first | (intros; contradiction) | omega) only [go_sem]
 done
theorem free1_e (hx:T1 ext) (n:Int) (k:Nat) (R:List Blk) (h:isCe R[k]?):G ext 54 [.agg [.d (.int .i64 n),.rp k 0]] [.reg (rgA R)] = some (.ret (.d (.bool (freeP R (some k)).1)),[.reg (rgA (freeP R (some k)).2)]):=by
 simp only [freeP]
 cases hk:R[k]? with
 | none=>rw [hk] at h; exact h.elim
 | some b=>
  have hg:=get_rg hk
  rw [hk] at h
  cases b with
  | fr _ _ _ _ _ _=>exact h.elim
  | vs _=>exact h.elim
  | ce al fk fn=>
   simp only [Blk.av] at hg
   cases al with
   | false=>
    rw [G_body hx.clear rfl Tryz.func54 rfl Tryz.results54 hv_54 rfl]
    simp (maxSteps:=4000000) (disch:=first | (intros; contradiction) | omega) only [go_sem,hg]
    done
   | true=>
    have hs:=set_rg (off:=0) (new:=[.d (.bool false)]) (b':=.ce false fk fn) hk (by simp [Blk.av]) rfl
    rw [G_body hx.clear rfl Tryz.func54 rfl Tryz.results54 hv_54 rfl]
    simp (maxSteps:=4000000) (disch:=first | (intros; contradiction) | omega) only [go_sem,hg,hs]
    done
end Go.Proofs.YtkflggjdlflndaaGreat
