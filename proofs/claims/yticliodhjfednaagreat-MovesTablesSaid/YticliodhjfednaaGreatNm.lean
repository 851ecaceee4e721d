/- Names: letters, words, and what a name is. Conditions: none. -/
import Derived.Test.YticliodhjfednaaGreatHints
set_option linter.unusedSimpArgs false
namespace Go.Proofs.YticliodhjfednaaGreat
open Go Go.Ab
variable {ext:Sem'}
structure TX(ext:Sem'):Prop where
 clear:Clear ext
theorem wrap64{x:Int}(h1:-9223372036854775808≤x)(h2:x≤9223372036854775807):IntKind.wrap .i64 x=x:=by
 simp only[IntKind.wrap,IntKind.bits,IntKind.signed];simp;omega
theorem byte_all{p:UInt8→Bool}(h:(List.range 256).all (fun n=>p (UInt8.ofNat n))=true)(c:UInt8):p c=true:=by
 have:=List.all_eq_true.1 h c.toNat (List.mem_range.2 c.toNat_lt)
 simpa using this
def isLetter(c:UInt8):Bool:=(65≤c&&c≤90)||(97≤c&&c≤122)||c==95
def isDigit(c:UInt8):Bool:=48≤c&&c≤57
theorem or32(c:UInt8):orI .u8 (c.toNat:Int) 32=((c|||32).toNat:Int):=by
 have:=byte_all (p:=fun c=>decide (orI .u8 (c.toNat:Int) 32=((c|||32).toNat:Int))) (by decide +kernel) c
 exact of_decide_eq_true this

theorem letter_e(hx:TX ext)(c:UInt8):G ext 110 [.d (.int .u8 c.toNat)] []=some (.ret (.d (.bool (isLetter c))),[]):=by
 rw[G_body hx.clear rfl Tryz.func110 rfl Tryz.results110 hv_110 rfl];have hs:=byte_all (p:=fun c=>isLetter c==((decide (97≤((c|||32).toNat:Int))&&decide (((c|||32).toNat:Int)≤122))||decide ((c.toNat:Int)=95))) (by decide +kernel) c
 simp only[beq_iff_eq]at hs;rw[hs];by_cases h1:97≤((c|||32).toNat:Int)<;>by_cases h2:((c|||32).toNat:Int)≤122<;>first|omega|(simp(maxSteps:=9^9)(disch:=first|(intros;contradiction)|omega)only[go_sem,or32,h1,h2,Bool.true_or,Bool.false_or])
theorem rletter_e(hx:TX ext)(c:UInt8):G ext 127 [.d (.int .u8 c.toNat)] []=some (.ret (.d (.bool (isLetter c))),[]):=by
 rw[G_body hx.clear rfl Tryz.func127 rfl Tryz.results127 hv_127 rfl];have hs:=byte_all (p:=fun c=>isLetter c==((decide (65≤(c.toNat:Int))&&decide ((c.toNat:Int)≤90))||(decide (97≤(c.toNat:Int))&&decide ((c.toNat:Int)≤122))||decide ((c.toNat:Int)=95))) (by decide +kernel) c
 simp only[beq_iff_eq]at hs;rw[hs];by_cases h1:65≤(c.toNat:Int)<;>by_cases h2:(c.toNat:Int)≤90<;>by_cases h3:97≤(c.toNat:Int)<;>by_cases h4:(c.toNat:Int)≤122<;>first|omega|(simp(maxSteps:=9^9)(disch:=first|(intros;contradiction)|omega)only[go_sem,h1,h2,h3,h4,Bool.true_or,Bool.false_or])
theorem digit_e(hx:TX ext)(c:UInt8):G ext 138 [.d (.int .u8 c.toNat)] []=some (.ret (.d (.bool (isDigit c))),[]):=by
 rw[G_body hx.clear rfl Tryz.func138 rfl Tryz.results138 hv_138 rfl];have hs:=byte_all (p:=fun c=>isDigit c==(decide (48≤(c.toNat:Int))&&decide ((c.toNat:Int)≤57))) (by decide +kernel) c
 simp only[beq_iff_eq]at hs;rw[hs];by_cases h1:48≤(c.toNat:Int)<;>simp(maxSteps:=9^9)(disch:=first|(intros;contradiction)|omega)only[go_sem,h1]
theorem rdigit_e(hx:TX ext)(c:UInt8):G ext 129 [.d (.int .u8 c.toNat)] []=some (.ret (.d (.bool (isDigit c))),[]):=by
 rw[G_body hx.clear rfl Tryz.func129 rfl Tryz.results129 hv_129 rfl];have hs:=byte_all (p:=fun c=>isDigit c==(decide (48≤(c.toNat:Int))&&decide ((c.toNat:Int)≤57))) (by decide +kernel) c
 simp only[beq_iff_eq]at hs;rw[hs];by_cases h1:48≤(c.toNat:Int)<;>simp(maxSteps:=9^9)(disch:=first|(intros;contradiction)|omega)only[go_sem,h1]
def isInner(c:UInt8):Bool:=isLetter c||isDigit c
theorem inner_e(hx:TX ext)(c:UInt8):G ext 112 [.d (.int .u8 c.toNat)] []=some (.ret (.d (.bool (isInner c))),[]):=by
 rw[G_body hx.clear rfl Tryz.func112 rfl Tryz.results112 hv_112 rfl]
 cases h1:isLetter c<;>simp(maxSteps:=9^9)(disch:=first|(intros;contradiction)|omega)only[go_sem,letter_e hx,digit_e hx,h1,isInner,Bool.true_or,Bool.false_or]
def spanL(p:UInt8→Bool):List UInt8→Nat
 | []=>0
 | a::l=>if p a then spanL p l+1 else 0
theorem spanL_drop{p:UInt8→Bool}{l:List UInt8}{i:Nat}(h:i<l.length):spanL p (l.drop i)=if p l[i]then spanL p (l.drop (i+1))+1 else 0:=by
 rw[List.drop_eq_getElem_cons h];rfl
theorem span_e(hx:TX ext)(p:UInt8→Bool)(f:Nat)(hp:∀ c:UInt8,G ext f [.d (.int .u8 c.toNat)] []=some (.ret (.d (.bool (p c))),[]))(s:List UInt8)(hs:s.length≤1048576)(hF:rgF f=false:=by rfl) :
  G ext 111 [.d (.str s),.fn f [] []] []=some (.ret (.d (.int .i64 (spanL p s))),[]):=by
 rw[G_body hx.clear rfl Tryz.func111 rfl Tryz.results111 hv_111 rfl];simp(maxSteps:=9^9)(disch:=first|(intros;contradiction)|omega)only[go_sem,hF]
 generalize hL:loopA _ _ _=L
 apply loop_post hL (fun i:Nat=>i≤s.length∧i+spanL p (s.drop i)=spanL p s) (fun i=>s.length-i)
  (fun i=>⟨[(0,.d (.str s)),(1,.fn f [] []),(4,.d (.int .i64 0)),(5,.any),(7,.d (.int .i64 s.length)),(8,.d (.int .i64 i))],[],[]⟩)
  0 (by simp(maxSteps:=9^9)(disch:=first|(intros;contradiction)|omega)only[go_sem,hF]<;>rfl) ⟨Nat.zero_le _,by simp⟩
 intro i hi next ih;by_cases h:i<s.length
 ·have hc:s[i]?=some s[i]:=List.getElem?_eq_getElem h
  have h':(i:Int)<s.length:=by omega
  have hd:=spanL_drop (p:=p) h
  cases hpc:p s[i]with
  | true=>
   rw[hpc]at hd;simp(maxSteps:=9^9)(disch:=first|(intros;contradiction)|omega)only[go_sem,hF,hc,h',hp,hpc,wrap64]
   refine ih (i+1) _ (by simp at hd;omega) (by omega) (by simp(maxSteps:=9^9)(disch:=first|(intros;contradiction)|omega)only[go_sem,hF]<;>rfl)
  | false=>
   rw[hpc]at hd;simp(maxSteps:=9^9)(disch:=first|(intros;contradiction)|omega)only[go_sem,hF,hc,h',hp,hpc]
   simp at hd;simp;omega
 ·have h':¬(i:Int)<s.length:=by omega
  have he:i=s.length:=by omega
  simp(maxSteps:=9^9)(disch:=first|(intros;contradiction)|omega)only[go_sem,hF,h']
  subst he;simp[spanL]at hi;simp;omega

def words:List (List UInt8):=[[105,110,116],[115,116,114,117,99,116],[105,102],[101,108,115,101],[119,104,105,108,101],[98,114,101,97,107],[99,111,110,116,105,110,117,101],[114,101,116,117,114,110],[102,114,101,101],[112,117,116],[110,101,119],[110,117,108,108],[103,101,116]]
set_option maxRecDepth 10000 in
theorem word_e(hx:TX ext)(s:List UInt8):G ext 113 [.d (.str s)] []=some (.ret (.d (.bool (decide (s∈words)))),[]):=by
 by_cases h:s∈words
 ·simp only[h,decide_true];simp only[words,List.mem_cons,List.not_mem_nil,or_false]at h;rcases h with rfl|rfl|rfl|rfl|rfl|rfl|rfl|rfl|rfl|rfl|rfl|rfl|rfl<;>exact G_run hx.clear 2 2 (by kernel_rfl)
 ·rw[G_body hx.clear rfl Tryz.func113 rfl Tryz.results113 hv_113 rfl];simp only[h,decide_false];simp only[words,List.mem_cons,List.not_mem_nil,or_false,not_or]at h;obtain⟨h1,h2,h3,h4,h5,h6,h7,h8,h9,h10,h11,h12,h13⟩:=h
  simp(maxSteps:=9^9)(disch:=first|(intros;contradiction)|omega)only[go_sem,h1,h2,h3,h4,h5,h6,h7,h8,h9,h10,h11,h12,h13]
def strs(l:List (List UInt8)):Dt:=.sl (l.map fun x=>[.str x])
theorem strs_at(l:List (List UInt8))(i:Nat)(h:i<l.length):(l.map fun x=>[Dt.str x])[i]?=some [.str l[i]]:=by
 rw[List.getElem?_map,List.getElem?_eq_getElem h];rfl
def findI(v:List UInt8):List (List UInt8)→Option Nat
 | []=>none
 | a::l=>if v=a then some 0 else(findI v l).map (·+1)
def findN(v:List UInt8)(l:List (List UInt8)):Int:=match findI v l with
 | some i=>i
 | none=>-1
theorem findI_mem{v:List UInt8}:∀ {l:List (List UInt8)},(findI v l).isSome=decide (v∈l)
 | []=>rfl
 | a::l=>by
  simp only[findI];split
  ·rename_i h;simp[h]
  ·rename_i h;have:=findI_mem (v:=v) (l:=l)
   simp[h,this]
theorem index_e(hx:TX ext)(l:List (List UInt8))(v:List UInt8)(hl:l.length≤1000):G ext 149 [.d (strs l),.d (.str v)] []=some (.ret (.d (.int .i64 (findN v l))),[]):=by
 rw[G_body hx.clear rfl Tryz.func149 rfl Tryz.results149 hv_149 rfl];unfold strs;simp(maxSteps:=9^9)(disch:=first|(intros;contradiction)|omega)only[go_sem,List.length_map]
 generalize hL:loopA _ _ _=L
 apply loop_post hL (fun k:Nat=>k≤l.length∧findI v l=(findI v (l.drop k)).map (·+k)) (fun k=>l.length-k)
  (fun k=>⟨[(0,.d (.sl (l.map fun x=>[.str x]))),(1,.d (.str v)),(4,.d (.int .i64 0)),(5,.any),(7,.d (.int .i64 l.length)),(8,.d (.int .i64 k))],[],[]⟩)
  0 (by simp(maxSteps:=9^9)(disch:=first|(intros;contradiction)|omega)only[go_sem]<;>rfl) ⟨Nat.zero_le _,by simp⟩
 intro k hk next ih;by_cases h:k<l.length
 ·have hc:=strs_at l k h
  have h':(k:Int)<l.length:=by omega
  rw[List.drop_eq_getElem_cons h]at hk;simp only[findI]at hk;by_cases he:v=l[k]
  ·rw[if_pos he]at hk;have hr:findN v l=k:=by unfold findN;rw[hk.2];simp
   rw[hr];simp(maxSteps:=9^9)(disch:=first|(intros;contradiction)|omega)only[go_sem,hc,h',he]
  ·rw[if_neg he]at hk;simp(maxSteps:=9^9)(disch:=first|(intros;contradiction)|omega)only[go_sem,hc,h',he,wrap64]
   exact ih (k+1) _ ⟨by omega,by rw[hk.2,Option.map_map];congr 1;funext x;simp;omega⟩ (by omega) (by simp(maxSteps:=9^9)(disch:=first|(intros;contradiction)|omega)only[go_sem]<;>rfl)
 ·have h':¬(k:Int)<l.length:=by omega
  have hke:k=l.length:=by omega
  subst hke;have hr:findN v l=-1:=by unfold findN;rw[hk.2];simp[findI]
  rw[hr];simp(maxSteps:=9^9)(disch:=first|(intros;contradiction)|omega)only[go_sem,h']
theorem contains_e(hx:TX ext)(l:List (List UInt8))(v:List UInt8)(hl:l.length≤1000):G ext 147 [.d (strs l),.d (.str v)] []=some (.ret (.d (.bool (decide (v∈l)))),[]):=by
 rw[G_body hx.clear rfl Tryz.func147 rfl Tryz.results147 hv_147 rfl];rw[←findI_mem];have h:=index_e hx l v hl
 unfold strs at h ⊢
 cases hf:findI v l with
 | none=>
  have:findN v l=-1:=by unfold findN;rw[hf]
  rw[this]at h;simp(maxSteps:=9^9)(disch:=first|(intros;contradiction)|omega)only[go_sem,h,Option.isSome_none]
 | some i=>
  have:findN v l=i:=by unfold findN;rw[hf]
  rw[this]at h;have h0:(0:Int)≤i:=by omega
  simp(maxSteps:=9^9)(disch:=first|(intros;contradiction)|omega)only[go_sem,h,h0,Option.isSome_some]
theorem rwords_e(hx:TX ext):G ext 142 [] []=some (.ret (.d (.sl (words.map fun x=>[.str x]))),[]):=by
 rw[G_body hx.clear rfl Tryz.func142 rfl Tryz.results142 hv_142 rfl];simp(maxSteps:=9^9)(disch:=first|(intros;contradiction)|omega)only[go_sem]
 rfl
theorem rword_e(hx:TX ext)(s:List UInt8):G ext 128 [.d (.str s)] []=some (.ret (.d (.bool (decide (s∈words)))),[]):=by
 rw[G_body hx.clear rfl Tryz.func128 rfl Tryz.results128 hv_128 rfl];simp(maxSteps:=9^9)(disch:=first|(intros;contradiction)|omega)only[go_sem,rwords_e hx]
 have hlen:words.length≤13:=by decide
 generalize words=l at *;generalize hL:loopA _ _ _=L
 apply loop_post hL (fun k:Nat=>k≤l.length∧(s∈l↔s∈l.drop k)) (fun k=>l.length-k)
  (fun k=>⟨[(0,.d (.str s)),(2,.d (.bool false)),(3,.d (.sl (l.map fun x=>[.str x]))),(4,.d (.int .i64 k))],[],[]⟩)
  0 (by simp(maxSteps:=9^9)(disch:=first|(intros;contradiction)|omega)only[go_sem]<;>rfl) ⟨Nat.zero_le _,by simp⟩
 intro k hk next ih;by_cases h:k<l.length
 ·have hc:=strs_at l k h
  have h':(k:Int)<l.length:=by omega
  rw[List.drop_eq_getElem_cons h,List.mem_cons]at hk;by_cases he:l[k]=s
  ·have hr:s∈l:=hk.2.2 (.inl he.symm)
   simp only[hr,decide_true];simp(maxSteps:=9^9)(disch:=first|(intros;contradiction)|omega)only[go_sem,List.length_map,hc,h',he]
  ·simp(maxSteps:=9^9)(disch:=first|(intros;contradiction)|omega)only[go_sem,List.length_map,hc,h',he,wrap64]
   exact ih (k+1) _ ⟨by omega,by rw[hk.2];exact⟨fun h=>h.elim (fun e=>absurd e.symm he) id,.inr⟩⟩ (by omega) (by simp(maxSteps:=9^9)(disch:=first|(intros;contradiction)|omega)only[go_sem]<;>rfl)
 ·have h':¬(k:Int)<l.length:=by omega
  have hke:k=l.length:=by omega
  subst hke;rw[List.drop_length]at hk;have hr:¬s∈l:=fun h=>by have:=hk.2.1 h;simp at this
  simp only[hr,decide_false];simp(maxSteps:=9^9)(disch:=first|(intros;contradiction)|omega)only[go_sem,List.length_map,h']
def letterAt(l:List UInt8)(n:Nat):Bool:=match l[n]? with
 | some c=>isLetter c
 | none=>false
theorem dropC{s:List UInt8}{i:Nat}(h:i<s.length):s[i]?=some s[i]∧s.drop i=s[i]::s.drop (i+1)∧(i:Int)<s.length:=
 ⟨List.getElem?_eq_getElem h,List.drop_eq_getElem_cons h,by omega⟩
def isName(s:List UInt8):Bool:=decide (1≤s.length)&&(decide (s.length≤40)&&(letterAt s 0&&(decide (spanL isInner s=s.length)&&!decide (s∈words))))
theorem name_e(hx:TX ext)(s:List UInt8)(hs:s.length≤1048576):G ext 70 [.d (.str s)] []=some (.ret (.d (.bool (isName s))),[]):=by
 rw[G_body hx.clear rfl Tryz.func70 rfl Tryz.results70 hv_70 rfl]
 cases s with
 | nil=>simp(maxSteps:=9^9)(disch:=first|(intros;contradiction)|omega)only[go_sem,isName]<;>rfl
 | cons c t=>
  have hsp:=span_e hx isInner 112 (inner_e hx) (c::t) hs
  have hw:=word_e hx (c::t)
  have hlc:=letter_e hx c
  have h0:¬((c::t)=([]:List UInt8)):=by simp
  have h1:((c::t):List UInt8)[0]?=some c:=rfl
  unfold isName;have e0:decide (1≤(c::t).length)=true:=by simp
  have e1:letterAt (c::t) 0=isLetter c:=rfl
  rw[e0,e1];generalize c::t=s at *;by_cases c1:(s.length:Int)≤40
  ·have c1':s.length≤40:=by omega
   rw[decide_eq_true c1']
   cases c2:isLetter c
   ·rw[c2]at hlc;simp(maxSteps:=9^9)(disch:=first|(intros;contradiction)|omega)only[go_sem,h0,h1,c1,hlc,Bool.false_and,Bool.true_and]
   ·rw[c2]at hlc;by_cases c3:spanL isInner s=s.length
    ·rw[c3]at hsp;rw[decide_eq_true c3];simp(maxSteps:=9^9)(disch:=first|(intros;contradiction)|omega)only[go_sem,h0,h1,c1,hlc,hsp,hw,Bool.true_and]
    ·have c3':¬((spanL isInner s:Nat):Int)=(s.length:Int):=by omega
     rw[decide_eq_false c3];simp(maxSteps:=9^9)(disch:=first|(intros;contradiction)|omega)only[go_sem,h0,h1,c1,hlc,hsp,c3',Bool.false_and,Bool.and_false]
  ·have c1':¬s.length≤40:=by omega
   rw[decide_eq_false c1'];simp(maxSteps:=9^9)(disch:=first|(intros;contradiction)|omega)only[go_sem,h0,c1,Bool.false_and,Bool.and_false]
theorem rname_e(hx:TX ext)(s:List UInt8)(hs:s.length≤1048576):G ext 93 [.d (.str s)] []=some (.ret (.d (.bool (isName s))),[]):=by
 rw[G_body hx.clear rfl Tryz.func93 rfl Tryz.results93 hv_93 rfl]
 cases s with
 | nil=>simp(maxSteps:=9^9)(disch:=first|(intros;contradiction)|omega)only[go_sem,isName]<;>rfl
 | cons c t=>
  have hw:=rword_e hx (c::t)
  have hlc:=rletter_e hx c
  have h1:((c::t):List UInt8)[0]?=some c:=rfl
  have h2:¬((c::t).length:Int)<1:=by rw[List.length_cons];omega
  unfold isName;have e0:decide (1≤(c::t).length)=true:=by simp
  have e1:letterAt (c::t) 0=isLetter c:=rfl
  rw[e0,e1];generalize c::t=s at *;by_cases c1:(40:Int)<s.length
  ·have c1':¬s.length≤40:=by omega
   rw[decide_eq_false c1'];simp(maxSteps:=9^9)(disch:=first|(intros;contradiction)|omega)only[go_sem,h2,c1,Bool.false_and,Bool.and_false]
  ·have c1':s.length≤40:=by omega
   rw[decide_eq_true c1']
   cases c2:isLetter c
   ·rw[c2]at hlc;simp(maxSteps:=9^9)(disch:=first|(intros;contradiction)|omega)only[go_sem,h1,h2,c1,hlc,Bool.false_and,Bool.true_and]
   ·rw[c2]at hlc
    cases c4:decide (s∈words)
    ·rw[c4]at hw;simp(maxSteps:=9^9)(disch:=first|(intros;contradiction)|omega)only[go_sem,h1,h2,c1,hlc,hw,Bool.true_and]
     generalize hL:loopA _ _ _=L
     apply loop_post hL (fun i:Nat=>i≤s.length∧i+spanL isInner (s.drop i)=spanL isInner s) (fun i=>s.length-i)
      (fun i=>⟨[(0,.d (.str s)),(2,.d (.bool false)),(3,.d (.int .i64 i))],[],[]⟩)
      0 (by simp(maxSteps:=9^9)(disch:=first|(intros;contradiction)|omega)only[go_sem]<;>rfl) ⟨Nat.zero_le _,by simp⟩
     clear hL h1 h2 hlc;rintro i ⟨hi,hsp⟩ next ih
     by_cases h:i<s.length
     ·obtain⟨hc,_,hlt⟩:=dropC h
      have hd:=spanL_drop (p:=isInner) h
      have hl:=rletter_e hx s[i]
      have hg:=rdigit_e hx s[i]
      cases c5:isLetter s[i]
      ·rw[c5]at hl
       cases c6:isDigit s[i]
       ·rw[c6]at hg;have c7:isInner s[i]=false:=by simp[isInner,c5,c6]
        rw[c7]at hd;have hne:¬spanL isInner s=s.length:=by simp at hd;omega
        rw[decide_eq_false hne];simp(maxSteps:=9^9)(disch:=first|(intros;contradiction)|omega)only[go_sem,hlt,hc,hl,hg]
       ·rw[c6]at hg;have c7:isInner s[i]=true:=by simp[isInner,c6]
        rw[c7]at hd;simp(maxSteps:=9^9)(disch:=first|(intros;contradiction)|omega)only[go_sem,hlt,hc,hl,hg,wrap64]
        exact ih (i+1) _ ⟨h,by simp at hd;omega⟩ (by omega) (by simp(maxSteps:=9^9)(disch:=first|(intros;contradiction)|omega)only[go_sem]<;>rfl)
      ·rw[c5]at hl;have c7:isInner s[i]=true:=by simp[isInner,c5]
       rw[c7]at hd;simp(maxSteps:=9^9)(disch:=first|(intros;contradiction)|omega)only[go_sem,hlt,hc,hl,wrap64]
       exact ih (i+1) _ ⟨h,by simp at hd;omega⟩ (by omega) (by simp(maxSteps:=9^9)(disch:=first|(intros;contradiction)|omega)only[go_sem]<;>rfl)
     ·have hlt:¬(i:Int)<(s.length:Int):=by omega
      have he:i=s.length:=by omega
      subst he;rw[List.drop_eq_nil_of_le (Nat.le_refl _)]at hsp;rw[decide_eq_true (show spanL isInner s=s.length by simp[spanL]at hsp;omega)]
      simp(maxSteps:=9^9)(disch:=first|(intros;contradiction)|omega)only[go_sem,hlt,Bool.true_and]
    ·rw[c4]at hw;simp(maxSteps:=9^9)(disch:=first|(intros;contradiction)|omega)only[go_sem,h1,h2,c1,hlc,hw,Bool.and_false]
end Go.Proofs.YticliodhjfednaaGreat
