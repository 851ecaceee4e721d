/- flow.walk: entering; a walk's state. Conditions: none. -/
import Derived.Test.YticliodhjfednaaGreatF3
set_option linter.unusedSimpArgs false
set_option linter.unusedVariables false
namespace Go.Proofs.YticliodhjfednaaGreat
open Go Go.Ab
variable {ext:Sem'}
def cC (c:Cd1):List AV:=[.d (.str c.name),.d (.int .i64 c.params),.d (.sl (c.vars.map Vr1.row)),.d (.bool c.ret.t.ptr),.d (.str c.ret.t.to),.d (.int .i64 c.ret.cls),.d (ints c.frm),.d (.sl (c.ins.map In1.row))]
def bA (b:Bool):AV:=.d (.bool b)
def bsA (l:List Bool):List AV:=l.map bA
theorem bs_refs (l:List Bool):((bsA l).map refs).flatten = []:=by
 induction l with
 | nil=>rfl
 | cons k l ih=>show refs (bA k) ++ ((bsA l).map refs).flatten = []; rw [ih]; rfl
theorem bs_ren (f:Nat→Nat) (l:List Bool):(bsA l).map (ren f) = bsA l:=by
 induction l with
 | nil=>rfl
 | cons k l ih=>show ren f (bA k) :: (bsA l).map (ren f) = bA k :: bsA l; rw [ih]; rfl
theorem bs_len (l:List Bool):(bsA l).length = l.length:=List.length_map _
theorem bs_at {l:List Bool} {i:Nat} {b:Bool} (h:l[i]? = some b):(bsA l)[i]? = some (.d (.bool b)):=by unfold bsA; rw [List.getElem?_map,h]; rfl
theorem bs_set {l:List Bool} {i:Nat} (h:i < l.length) (b:Bool):List.take i (bsA l) ++ [.d (.bool b)] ++ List.drop (i + 1) (bsA l) = bsA (l.set i b):=by
 unfold bsA
 rw [List.set_eq_take_append_cons_drop,if_pos h]
 simp [bA]
abbrev Sp:=Nat × List Int
def spA (x:Sp):List AV:=[.d (.int .i64 x.1),.d (ints x.2)]
def spsA:List Sp→List AV
 | []=>[]
 | x :: l=>spA x ++ spsA l
theorem sps_app (a b:List Sp):spsA (a ++ b) = spsA a ++ spsA b:=by
 induction a with
 | nil=>rfl
 | cons x a ih=>simp only [List.cons_append,spsA,ih,List.append_assoc]
theorem sps_len (l:List Sp):(spsA l).length = l.length * 2:=by
 induction l with
 | nil=>rfl
 | cons x l ih=>simp only [spsA,List.length_append,ih,List.length_cons]; simp [spA]; omega
theorem sps_refs (l:List Sp):((spsA l).map refs).flatten = []:=by
 induction l with
 | nil=>rfl
 | cons k l ih=>simp only [spsA,List.map_append,List.flatten_append,ih]; rfl
theorem sps_ren (f:Nat→Nat) (l:List Sp):(spsA l).map (ren f) = spsA l:=by
 induction l with
 | nil=>rfl
 | cons k l ih=>simp only [spsA,List.map_append,ih]; rfl
attribute [go_sem] bs_refs bs_ren sps_refs sps_ren
theorem enter_e (hx:TF ext) (c:Cd1) {i:In1} (k:Nat) (hi:c.ins[k]? = some i) (hk:c.ins.length ≤ 1000000) (hr:∀ x,x ∈ nxtI i k→offP c.ins.length x = false) (S:List Bool) (hS:S.length = c.ins.length) (l:List Sp) (hl:l.length ≤ 1000000) (e:Nat) (cs:List AV) (htk:cs.take (l.length * 2) = spsA l) :
  G ext 117 [.d (.int .i64 k),.ptr 0 0,.ptr 2 0,.ptr 4 0,.ptr 5 0] [.cells [.arr 1 0 c.ins.length 1],.cells (bsA S),.cells [.stk 3 e l.length],.stk e 2 cs,.cells (cC c),.cells [.fn 82 [] []]]
   = some (.ret (.d (.bool true)),[.cells [.arr 1 0 c.ins.length 1],.cells (bsA (S.set k true)),.cells [.stk 3 (e + 1) (l.length + 1)],.stk (e + 1) 2 (spsA (l ++ [(k,nxtI i k)])),.cells (cC c),.cells [.fn 82 [] []]]):=by
 have hlt:=(List.getElem?_eq_some_iff.1 hi).1
 have h1:=fnext_e hx c k hi hk hr
 have hlt2:(k:Int) < (c.ins.length:Int):=by omega
 have hset:=bs_set (l:=S) (i:=k) (by omega) true
 have hlen:k + 1 ≤ (bsA S).length:=by rw [bs_len]; omega
 have hlen2:l.length * 2 ≤ cs.length:=by have:=congrArg List.length htk; rw [sps_len,List.length_take] at this; omega
 have hrm:room (l.length + 1) 32:=by unfold room; simp; omega
 have hap:spsA l ++ [.d (.int .i64 k),.d (ints (nxtI i k))] = spsA (l ++ [(k,nxtI i k)]):=by rw [sps_app]; rfl
 rw [G_body hx.clear rfl Tryz.func117 rfl Tryz.results117 hv_117 rfl]
 simp only [cC]
 simp only [Cd1.av] at h1
 have hmet:G ext 82 [.d (.int .i64 k)] [] = some (.ret (.d (.bool true)),[]):=by
  rw [G_body hx.clear rfl Tryz.func82 rfl Tryz.results82 hv_82 rfl]
  simp (maxSteps:=4000000) (disch:=first | (intros; contradiction) | omega) only [go_sem]
 simp (maxSteps:=4000000) (disch:=first | (intros; contradiction) | omega) only [go_sem,h1,hlt2,hset,hlen,Nat.mul_one,hlen2,htk,hrm,hmet,hap]
end Go.Proofs.YticliodhjfednaaGreat
