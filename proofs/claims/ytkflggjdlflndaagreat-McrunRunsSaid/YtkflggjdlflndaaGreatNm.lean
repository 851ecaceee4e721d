/- Names: letters, words, and what a name is. Conditions: none. -/
import Derived.Test.YtkflggjdlflndaaGreatHints
namespace Go.Proofs.YtkflggjdlflndaaGreat
open Go Go.Ab
variable {ext:Sem'}
structure TX (ext:Sem'):Prop where
 clear:Clear ext
theorem wrap64 {x:Int} (h1:-9223372036854775808 ≤ x) (h2:x ≤ 9223372036854775807):IntKind.wrap .i64 x = x:=by
 simp only [IntKind.wrap,IntKind.bits,IntKind.signed]
 simp
 omega
def strs (l:List (List UInt8)):Dt:=.sl (l.map fun x=>[.str x])
theorem strs_at (l:List (List UInt8)) (i:Nat) (h:i < l.length):(l.map fun x=>[Dt.str x])[i]? = some [.str l[i]]:=by
 rw [List.getElem?_map,List.getElem?_eq_getElem h]; rfl
def findI (v:List UInt8):List (List UInt8)→Option Nat
 | []=>none
 | a :: l=>if v = a then some 0 else (findI v l).map (· + 1)
def findN (v:List UInt8) (l:List (List UInt8)):Int:=match findI v l with
 | some i=>i
 | none=>-1
theorem findI_mem {v:List UInt8}:∀ {l:List (List UInt8)},(findI v l).isSome = decide (v ∈ l)
 | []=>rfl
 | a :: l=>by
  simp only [findI]
  split
  ·rename_i h; simp [h]
  ·rename_i h
   have:=findI_mem (v:=v) (l:=l)
   simp [h,this]
theorem index_e (hx:TX ext) (l:List (List UInt8)) (v:List UInt8) (hl:l.length ≤ 1000):G ext 160 [.d (strs l),.d (.str v)] [] = some (.ret (.d (.int .i64 (findN v l))),[]):=by
 rw [G_body hx.clear rfl Tryz.func160 rfl Tryz.results160 hv_160 rfl]
 unfold strs
 simp (maxSteps:=4000000) (disch:=first | (intros; contradiction) | omega) only [go_sem,List.length_map]
 generalize hL:loopA _ _ _ = L
 apply loop_post hL (fun k:Nat=>k ≤ l.length∧findI v l = (findI v (l.drop k)).map (· + k)) (fun k=>l.length - k)
  (fun k=>⟨[(0,.d (.sl (l.map fun x=>[.str x]))),(1,.d (.str v)),(4,.d (.int .i64 0)),(5,.any),(7,.d (.int .i64 l.length)),(8,.d (.int .i64 k))],[],[]⟩)
  0 (by simp (maxSteps:=4000000) (disch:=first | (intros; contradiction) | omega) only [go_sem] <;> rfl) ⟨Nat.zero_le _,by simp⟩
 intro k hk next ih
 by_cases h:k < l.length
 ·have hc:=strs_at l k h
  have h':(k:Int) < l.length:=by omega
  rw [List.drop_eq_getElem_cons h] at hk
  simp only [findI] at hk
  by_cases he:v = l[k]
  ·rw [if_pos he] at hk
   have hr:findN v l = k:=by unfold findN; rw [hk.2]; simp
   rw [hr]
   simp (maxSteps:=4000000) (disch:=first | (intros; contradiction) | omega) only [go_sem,hc,h',he]
  ·rw [if_neg he] at hk
   simp (maxSteps:=4000000) (disch:=first | (intros; contradiction) | omega) only [go_sem,hc,h',he,wrap64]
   exact ih (k + 1) _ ⟨by omega,by rw [hk.2,Option.map_map]; congr 1; funext x; simp; omega⟩ (by omega) (by simp (maxSteps:=4000000) (disch:=first | (intros; contradiction) | omega) only [go_sem] <;> rfl)
 ·have h':¬ (k:Int) < l.length:=by omega
  have hke:k = l.length:=by omega
  subst hke
  have hr:findN v l = -1:=by unfold findN; rw [hk.2]; simp [findI]
  rw [hr]
  simp (maxSteps:=4000000) (disch:=first | (intros; contradiction) | omega) only [go_sem,h']
theorem contains_e (hx:TX ext) (l:List (List UInt8)) (v:List UInt8) (hl:l.length ≤ 1000):G ext 154 [.d (strs l),.d (.str v)] [] = some (.ret (.d (.bool (decide (v ∈ l)))),[]):=by
 rw [G_body hx.clear rfl Tryz.func154 rfl Tryz.results154 hv_154 rfl]
 rw [← findI_mem]
 have h:=index_e hx l v hl
 unfold strs at h ⊢
 cases hf:findI v l with
 | none=>
  have:findN v l = -1:=by unfold findN; rw [hf]
  rw [this] at h
  simp (maxSteps:=4000000) (disch:=first | (intros; contradiction) | omega) only [go_sem,h,Option.isSome_none]
 | some i=>
  have:findN v l = i:=by unfold findN; rw [hf]
  rw [this] at h
  have h0:(0:Int) ≤ i:=by omega
  simp (maxSteps:=4000000) (disch:=first | (intros; contradiction) | omega) only [go_sem,h,h0,Option.isSome_some]
end Go.Proofs.YtkflggjdlflndaaGreat
