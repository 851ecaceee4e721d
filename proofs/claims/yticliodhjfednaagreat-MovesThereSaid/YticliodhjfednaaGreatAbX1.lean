/- What values are, and the evaluator. Conditions: none. -/
import Derived.WalkKit
import Derived.ProofKit
import Derived.RangeFuncSeq
import Derived.Test.YticliodhjfednaaGreatTab
import Derived.Lib.SlBytesRow
/- An abstract reading of memory: data, own objects, and how values and worlds show them. Conditions: none. -/
namespace Go.Ab
open Go

inductive Dt where
 | bool (b:Bool)
 | int (k:IntKind) (n:Int)
 | str (s:List UInt8)
 | sl (rows:List (List Dt))
 | nilp

inductive AV where
 | any
 | d (x:Dt)
 | full (rows:List (List Dt))
 | grow (r e:Nat) (rows:List (List Dt))
 | agg (cs:List AV)
 | tuple (cs:List AV)
 | ptr (r off:Nat)
 | dp (cs:List Dt)
 | arr (r off len esz:Nat)
 | own (r off len esz:Nat)
 | stk (r e n:Nat)
 | sp (r e off:Nat)
 | sv (r e off n:Nat)
 | fn (f:Nat) (first caps:List AV)
 | iface (t:Nat) (v:AV)
 | mp (r:Nat)
 | nilm
 | yld (r:Nat)
 | nils
 | bp (r:Nat)
 | rp (k off:Nat)
 | rs (k off len esz:Nat)
 | avl (n sz:Nat) (cs:List AV)

inductive AObj where
 | no
 | cells (cs:List AV)
 | grow (e esz:Nat)
 | stk (e esz:Nat) (cs:List AV)
 | mapo (es:List (AV×AV))
 | log (stop n:Nat) (rest:List (List AV))
 | gen (acc:List (List AV))
 | bld (t:TypeId) (s:List UInt8)
 | reg (bs:List (List AV))

mutual
def ren(f:Nat→Nat):AV→AV
 | .agg cs=>.agg (renL f cs)
 | .tuple cs=>.tuple (renL f cs)
 | .ptr r off=>.ptr (f r) off
 | .arr r off len esz=>.arr (f r) off len esz
 | .own r off len esz=>.own (f r) off len esz
 | .stk r e n=>.stk (f r) e n
 | .sp r e off=>.sp (f r) e off
 | .sv r e off n=>.sv (f r) e off n
 | .grow r e rows=>.grow (f r) e rows
 | .fn k a b=>.fn k (renL f a) (renL f b)
 | .iface t v=>.iface t (ren f v)
 | .mp r=>.mp (f r)
 | .nilm=>.nilm
 | .yld r=>.yld (f r)
 | .nils=>.nils
 | .bp r=>.bp (f r)
 | .any=>.any
 | .d x=>.d x
 | .full rows=>.full rows
 | .dp cs=>.dp cs
 | .rp k off=>.rp k off
 | .rs k off len esz=>.rs k off len esz
 | .avl n sz cs=>.avl n sz (renL f cs)
def renL(f:Nat→Nat):List AV→List AV
 | []=>[]
 | c::cs=>ren f c::renL f cs
end
mutual
def refs:AV→List Nat
 | .agg cs=>refsAL cs
 | .tuple cs=>refsAL cs
 | .ptr r _=>[r]
 | .arr r _ _ _=>[r]
 | .own r _ _ _=>[r]
 | .stk r _ _=>[r]
 | .sp r _ _=>[r]
 | .sv r _ _ _=>[r]
 | .grow r _ _=>[r]
 | .fn _ a b=>refsAL a++refsAL b
 | .iface _ v=>refs v
 | .mp r=>[r]
 | .nilm=>[]
 | .yld r=>[r]
 | .nils=>[]
 | .bp r=>[r]
 | .any=>[]
 | .d _=>[]
 | .full _=>[]
 | .dp _=>[]
 | .rp _ _=>[]
 | .rs _ _ _ _=>[]
 | .avl _ _ cs=>refsAL cs
def refsAL:List AV→List Nat
 | []=>[]
 | c::cs=>refs c++refsAL cs
end
mutual
def hasRp:AV→Bool
 | .agg cs=>hasRpL cs
 | .tuple cs=>hasRpL cs
 | .ptr _ _=>false
 | .arr _ _ _ _=>false
 | .own _ _ _ _=>false
 | .stk _ _ _=>false
 | .sp _ _ _=>false
 | .sv _ _ _ _=>false
 | .grow _ _ _=>false
 | .fn _ a b=>hasRpL a||hasRpL b
 | .iface _ v=>hasRp v
 | .mp _=>false
 | .nilm=>false
 | .yld _=>false
 | .nils=>false
 | .bp _=>false
 | .any=>false
 | .d _=>false
 | .full _=>false
 | .dp _=>false
 | .rp _ _=>true
 | .rs _ _ _ _=>true
 | .avl _ _ cs=>hasRpL cs
def hasRpL:List AV→Bool
 | []=>false
 | c::cs=>hasRp c||hasRpL cs
end
abbrev Imm:=Nat→Nat→Prop
structure Yl where
 l:Nat
 stop:Nat
 xs:List (List AV)
 J:Nat→(Nat→Prop)→Imm→World→Prop
inductive Gh where
 | no
 | cell (b:Nat)
 | gr (ep esz:Nat) (base:Option Nat) (len cap:Nat)
 | yld (y:Yl) (T:Nat→Prop)
 | bld (b:Nat) (row:Option Nat)
 | reg (bs:List Nat)

def Gh.owns:Gh→Nat→Prop
 | .no,_=>False
 | .cell b,k=>b=k
 | .gr _ _ base len cap,k=>base=some k∧len<cap
 | .yld _ T,k=>T k
 | .bld b row,k=>b=k∨row=some k
 | .reg bs,k=>k∈bs

def Owns(g:List Gh)(k:Nat):Prop:=∃ (r:Nat) (x:Gh),g[r]?=some x∧x.owns k

inductive RepD (w:World) (Im:Imm):Value→Dt→Prop
 | bool (b):RepD w Im (.bool b) (.bool b)
 | int (k n):RepD w Im (.int k n) (.int k n)
 | str (l):RepD w Im (.string ⟨⟨l⟩⟩) (.str l)
 | nilp:RepD w Im (.pointer none) .nilp
 | sl0 (a cap):RepD w Im (.slice a 0 cap) (.sl [])
 | sl (b o cap sz:Nat) (rows:List (List Dt)) (us:Nat→Value) (hc:rows.length≤cap) (hsz:∀ row,row∈rows→row.length=sz)
   (him:∀ k,k<rows.flatten.length→Im b (o+k)∧w.cell? ⟨b,o+k,none⟩=some (us k))
   (hr:∀ (k:Nat) (x:Dt),rows.flatten[k]?=some x→RepD w Im (us k) x):RepD w Im (.slice (some ⟨b,o,none⟩) rows.length cap) (.sl rows)

def CellsD(w:World)(Im:Imm)(b o:Nat)(xs:List Dt):Prop:=
 ∃ us:Nat→Value,(∀ k,k<xs.length→Im b (o+k)∧w.cell? ⟨b,o+k,none⟩=some (us k))∧∀ (k:Nat) (x:Dt),xs[k]?=some x→RepD w Im (us k) x

inductive RepA (w:World) (Im:Imm) (g:List Gh):Value→AV→Prop
 | any (v):RepA w Im g v .any
 | d {v x} (h:RepD w Im v x):RepA w Im g v (.d x)
 | full {a:Option Nat} {rows:List (List Dt)} (h:RepD w Im (.slice (a.map fun b=>⟨b,0,none⟩) rows.length rows.length) (.sl rows)):RepA w Im g (.slice (a.map fun b=>⟨b,0,none⟩) rows.length rows.length) (.full rows)
 | grow {v r e rows ep esz base len cap} (h:RepD w Im v (.sl rows)) (hg:g[r]?=some (.gr ep esz base len cap)) (hsz:∀ row,row∈rows→row.length=esz) (hle:e≤ep)
   (he:e=ep→len=rows.length∧v=.slice (base.map fun b=>⟨b,0,none⟩) len cap):RepA w Im g v (.grow r e rows)
 | agg (vs:List Value) (cs:List AV) (hl:vs.length=cs.length) (h1:∀ v,v∈vs→v.oneCell'=true) (h:∀ (i:Nat) (v:Value) (c:AV),vs[i]?=some v→cs[i]?=some c→RepA w Im g v c):RepA w Im g (.agg ⟨vs⟩) (.agg cs)
 | tuple (vs:List Value) (cs:List AV) (hl:vs.length=cs.length) (h:∀ (i:Nat) (v:Value) (c:AV),vs[i]?=some v→cs[i]?=some c→RepA w Im g v c):RepA w Im g (.tuple ⟨vs⟩) (.tuple cs)
 | ptr {r off b} (hg:g[r]?=some (.cell b)):RepA w Im g (.pointer (some ⟨b,off,none⟩)) (.ptr r off)
 | dp {b o cs} (h:CellsD w Im b o cs):RepA w Im g (.pointer (some ⟨b,o,none⟩)) (.dp cs)
 | arr {r off off' len esz b cap} (hg:g[r]?=some (.cell b)) (ho:off'=off∨len=0) (hc:len≤cap):RepA w Im g (.slice (some ⟨b,off',none⟩) len cap) (.arr r off len esz)
 | own {r off off' len esz b cap} (hg:g[r]?=some (.cell b)) (ho:off'=off∨len=0) (hc:len≤cap):RepA w Im g (.slice (some ⟨b,off',none⟩) len cap) (.own r off len esz)
 | stk {r e n ep esz base len cap b0 c0} (hg:g[r]?=some (.gr ep esz base len cap)) (hle:e≤ep) (hn:0<n→b0≠none) (hc:n≤c0)
   (he:e=ep→b0=base∧c0=cap):RepA w Im g (.slice (Option.map (fun b=>⟨b,0,none⟩) b0) n c0) (.stk r e n)
 | sp {r e off ep esz base len cap b} (hg:g[r]?=some (.gr ep esz base len cap)) (hle:e≤ep) (he:e=ep→base=some b∧0<cap):RepA w Im g (.pointer (some ⟨b,off,none⟩)) (.sp r e off)
 | sv {r e off off' n ep esz base len cap b0 c0} (hg:g[r]?=some (.gr ep esz base len cap)) (hle:e≤ep) (hn:0<n→b0≠none) (ho:off'=off∨n=0) (hc:n≤c0)
   (he:e=ep→b0=base∧(0<n→0<cap)):RepA w Im g (.slice (Option.map (fun b=>⟨b,off',none⟩) b0) n c0) (.sv r e off n)
 | fn (f:Nat) (vf:List Value) (cf:List AV) (vc:List Value) (cc:List AV) (hl:vf.length=cf.length) (hl':vc.length=cc.length)
   (h:∀ (i:Nat) (v:Value) (c:AV),vf[i]?=some v→cf[i]?=some c→RepA w Im g v c) (h':∀ (i:Nat) (v:Value) (c:AV),vc[i]?=some v→cc[i]?=some c→RepA w Im g v c) :
   RepA w Im g (.func (.func f) ⟨vf⟩ ⟨vc⟩) (.fn f cf cc)
 | iface {t v x} (h:RepA w Im g v x):RepA w Im g (.iface t v) (.iface t x)
 | mp {r b} (hg:g[r]?=some (.cell b)):RepA w Im g (.map (some b)) (.mp r)
 | nilm:RepA w Im g (.map none) .nilm
 | nils:RepA w Im g (.slice none 0 0) .nils
 | bp {r b row} (hg:g[r]?=some (.bld b row)):RepA w Im g (.pointer (some ⟨b,0,none⟩)) (.bp r)
 | rp {k off b bs} (hg:g[0]?=some (.reg bs)) (hk:bs[k]?=some b):RepA w Im g (.pointer (some ⟨b,off,none⟩)) (.rp k off)
 | rs {k off off' len esz b cap bs} (hg:g[0]?=some (.reg bs)) (hk:bs[k]?=some b) (ho:off'=off∨len=0) (hc:len≤cap):RepA w Im g (.slice (some ⟨b,off',none⟩) len cap) (.rs k off len esz)
 | avl {b n sz cap} (cs:List AV) (us:Nat→Value) (hl:cs.length=n*sz) (hc:n≤cap) (him:∀ k,k<cs.length→Im b k∧w.cell? ⟨b,k,none⟩=some (us k)∧(us k).oneCell'=true)
   (h:∀ (k:Nat) (x:AV),cs[k]?=some x→RepA w Im g (us k) x):RepA w Im g (.slice (some ⟨b,0,none⟩) n cap) (.avl n sz cs)
 | yld {r y T} (hg:g[r]?=some (.yld y T)):RepA w Im g (.func (.yield y.l) ⟨[]⟩ ⟨[]⟩) (.yld r)

def RepAs(w:World)(Im:Imm)(g:List Gh)(vs:List Value)(cs:List AV):Prop:=
 vs.length=cs.length∧∀ (i:Nat) (v:Value) (c:AV),vs[i]?=some v→cs[i]?=some c→RepA w Im g v c

def ObjAt(w:World)(Im:Imm)(g:List Gh)(b:Nat)(cs:List AV):Prop:=
 ∃ (vs:List Value) (t:TypeId),w.heap[b]?=some (.cells ⟨vs⟩ t (0,0))∧cs.length≤vs.length∧(∀ (i:Nat) (v:Value) (c:AV),vs[i]?=some v→cs[i]?=some c→RepA w Im g v c)∧(∀ v,v∈vs→v.oneCell'=true)∧∀ o,¬Im b o

def StkAt(w:World)(Im:Imm)(g:List Gh)(b:Nat)(cs:List AV)(m:Nat):Prop:=
 ∃ (vs:List Value) (t:TypeId),w.heap[b]?=some (.cells ⟨vs⟩ t (0,0))∧vs.length=m∧cs.length≤vs.length∧(∀ (i:Nat) (v:Value) (c:AV),vs[i]?=some v→cs[i]?=some c→RepA w Im g v c)∧(∀ v,v∈vs→v.oneCell'=true)∧∀ o,¬Im b o

structure GLe(g g':List Gh):Prop where
 cell:∀ (r b:Nat),g[r]?=some (.cell b)→g'[r]?=some (.cell b)
 gr:∀ (r ep esz:Nat) (base:Option Nat) (len cap:Nat),g[r]?=some (.gr ep esz base len cap) →
  ∃ ep' base' len' cap',g'[r]?=some (.gr ep' esz base' len' cap')∧ep≤ep'∧(ep'=ep→base'=base∧len'=len∧cap'=cap)
 yld:∀ (r:Nat) (y:Yl) (T:Nat→Prop),g[r]?=some (.yld y T)→∃ T',g'[r]?=some (.yld y T')
 bld:∀ (r b:Nat) (row:Option Nat),g[r]?=some (.bld b row)→∃ row',g'[r]?=some (.bld b row')
 reg:∀ (r:Nat) (bs:List Nat),g[r]?=some (.reg bs)→∃ more,g'[r]?=some (.reg (bs++more))

theorem GLe.refl(g:List Gh):GLe g g:=⟨fun _ _ h=>h,fun _ ep _ base len cap h=>⟨ep,base,len,cap,h,Nat.le_refl _,fun _=>⟨rfl,rfl,rfl⟩⟩,fun _ _ T h=>⟨T,h⟩,fun _ _ row h=>⟨row,h⟩,fun _ _ h=>⟨[],by rw[List.append_nil];exact h⟩⟩
theorem GLe.trans{g1 g2 g3:List Gh}(h:GLe g1 g2)(k:GLe g2 g3):GLe g1 g3 where
 cell r b x:=k.cell r b (h.cell r b x)
 gr r ep esz base len cap x:=by
  obtain⟨ep2,b2,l2,c2,e2,hle,heq⟩:=h.gr r ep esz base len cap x
  obtain⟨ep3,b3,l3,c3,e3,hle3,heq3⟩:=k.gr r ep2 esz b2 l2 c2 e2
  refine⟨ep3,b3,l3,c3,e3,Nat.le_trans hle hle3,fun e=>?_⟩
  obtain⟨q1,q2,q3⟩:=heq3 (by omega)
  obtain⟨p1,p2,p3⟩:=heq (by omega)
  exact⟨q1.trans p1,q2.trans p2,q3.trans p3⟩
 yld r y T x:=by
  obtain⟨T2,h2⟩:=h.yld r y T x
  exact k.yld r y T2 h2
 bld r b row x:=by
  obtain⟨row2,h2⟩:=h.bld r b row x
  exact k.bld r b row2 h2
 reg r bs x:=by
  obtain⟨m2,h2⟩:=h.reg r bs x
  obtain⟨m3,h3⟩:=k.reg r _ h2
  exact⟨m2++m3,by rw[←List.append_assoc];exact h3⟩

structure Ext(w:World)(Im:Imm)(g:List Gh)(w':World)(Im':Imm)(g':List Gh):Prop where
 os:w'.os=w.os
 tape:w'.tape=w.tape
 output:w'.output=w.output
 size:w.heap.size≤w'.heap.size
 mono:∀ b o,Im b o→Im' b o
 keep:∀ b o,Im b o→w'.cell? ⟨b,o,none⟩=w.cell? ⟨b,o,none⟩
 frame:∀ k,k<w.heap.size→¬Owns g k→w'.heap[k]?=w.heap[k]?
 new:∀ b o,Im' b o→Im b o∨w.heap.size≤b∨Owns g b
 newg:∀ k,Owns g' k→Owns g k∨w.heap.size≤k
 gle:GLe g g'

theorem Ext.refl(w:World)(Im:Imm)(g:List Gh):Ext w Im g w Im g:=
 ⟨rfl,rfl,rfl,Nat.le_refl _,fun _ _ h=>h,fun _ _ _=>rfl,fun _ _ _=>rfl,fun _ _ h=>.inl h,fun _ h=>.inl h,GLe.refl g⟩

theorem Ext.trans{w1 w2 w3:World}{I1 I2 I3:Imm}{g1 g2 g3:List Gh}(h:Ext w1 I1 g1 w2 I2 g2)(k:Ext w2 I2 g2 w3 I3 g3):Ext w1 I1 g1 w3 I3 g3 where
 os:=k.os.trans h.os
 tape:=k.tape.trans h.tape
 output:=k.output.trans h.output
 size:=Nat.le_trans h.size k.size
 mono b o x:=k.mono b o (h.mono b o x)
 keep b o x:=(k.keep b o (h.mono b o x)).trans (h.keep b o x)
 frame i hi hn:=by
  have h2:¬Owns g2 i:=fun x=>(h.newg i x).elim hn (by omega)
  exact(k.frame i (Nat.lt_of_lt_of_le hi h.size) h2).trans (h.frame i hi hn)
 new b o x:=by
  rcases k.new b o x with x|x|x
  ·exact h.new b o x
  ·exact .inr (.inl (Nat.le_trans h.size x))
  ·exact(h.newg b x).elim (fun y=>.inr (.inr y)) (fun y=>.inr (.inl y))
 newg i x:=(k.newg i x).elim (h.newg i) (fun y=>.inr (Nat.le_trans h.size y))
 gle:=h.gle.trans k.gle

theorem RepD.ext{w w':World}{Im Im':Imm}{v:Value}{x:Dt}(h:RepD w Im v x)(hm:∀ b o,Im b o→Im' b o∧w'.cell? ⟨b,o,none⟩=w.cell? ⟨b,o,none⟩):RepD w' Im' v x:=by
 induction h with
 | bool b=>exact .bool b
 | int k n=>exact .int k n
 | str l=>exact .str l
 | nilp=>exact .nilp
 | sl0 a cap=>exact .sl0 a cap
 | sl b o cap sz rows us hc hsz him hr ih=>
  exact .sl b o cap sz rows us hc hsz (fun k hk=>⟨(hm _ _ (him k hk).1).1,((hm _ _ (him k hk).1).2).trans (him k hk).2⟩) (fun k x hx=>ih k x hx)

theorem CellsD.ext{w w':World}{Im Im':Imm}{b o:Nat}{xs:List Dt}(h:CellsD w Im b o xs)(hm:∀ b o,Im b o→Im' b o∧w'.cell? ⟨b,o,none⟩=w.cell? ⟨b,o,none⟩):CellsD w' Im' b o xs:=by
 obtain⟨us,h1,h2⟩:=h
 exact⟨us,fun k hk=>⟨(hm _ _ (h1 k hk).1).1,((hm _ _ (h1 k hk).1).2).trans (h1 k hk).2⟩,fun k x hx=>(h2 k x hx).ext hm⟩

theorem RepA.ext'{w w':World}{Im Im':Imm}{g g':List Gh}{v:Value}{c:AV}(h:RepA w Im g v c)(hm:∀ b o,Im b o→Im' b o∧w'.cell? ⟨b,o,none⟩=w.cell? ⟨b,o,none⟩)(hg:GLe g g'):RepA w' Im' g' v c:=by
 induction h with
 | any v=>exact .any v
 | d h=>exact .d (h.ext hm)
 | full h=>exact .full (h.ext hm)
 | grow h hgr hsz hle he=>
  obtain⟨ep',b',l',c',e',hl',heq⟩:=hg.gr _ _ _ _ _ _ hgr
  refine .grow (h.ext hm) e' hsz (by omega) (fun e=>?_)
  obtain⟨r1,r2⟩:=he (by omega)
  obtain⟨q1,q2,q3⟩:=heq (by omega)
  subst q1 q2 q3;exact⟨r1,r2⟩
 | agg vs cs hl h1 h ih=>exact .agg vs cs hl h1 ih
 | tuple vs cs hl h ih=>exact .tuple vs cs hl ih
 | ptr hc=>exact .ptr (hg.cell _ _ hc)
 | dp h=>exact .dp (h.ext hm)
 | arr hc ho hl=>exact .arr (hg.cell _ _ hc) ho hl
 | own hc ho hl=>exact .own (hg.cell _ _ hc) ho hl
 | stk hc hle hn hcn he=>
  obtain⟨ep',b',l',c',e',hl',heq⟩:=hg.gr _ _ _ _ _ _ hc
  refine .stk e' (by omega) hn hcn (fun e=>?_)
  obtain⟨q1,q2,q3⟩:=heq (by omega)
  subst q1 q2 q3;exact he (by omega)
 | sp hc hle he=>
  obtain⟨ep',b',l',c',e',hl',heq⟩:=hg.gr _ _ _ _ _ _ hc
  refine .sp e' (by omega) (fun e=>?_)
  obtain⟨q1,q2,q3⟩:=heq (by omega)
  subst q1 q2 q3;exact he (by omega)
 | sv hc hle hn ho hcn he=>
  obtain⟨ep',b',l',c',e',hl',heq⟩:=hg.gr _ _ _ _ _ _ hc
  refine .sv e' (by omega) hn ho hcn (fun e=>?_)
  obtain⟨q1,q2,q3⟩:=heq (by omega)
  subst q1 q2 q3;exact he (by omega)
 | fn f vf cf vc cc hl hl' h h' ih ih'=>exact .fn f vf cf vc cc hl hl' ih ih'
 | iface h ih=>exact .iface ih
 | mp hc=>exact .mp (hg.cell _ _ hc)
 | nilm=>exact .nilm
 | nils=>exact .nils
 | bp hc=>obtain⟨row',h⟩:=hg.bld _ _ _ hc;exact .bp h
 | rp hc hk=>
  obtain⟨m,h⟩:=hg.reg _ _ hc
  exact .rp h (by rw[List.getElem?_append_left (List.getElem?_eq_some_iff.1 hk).1];exact hk)
 | rs hc hk ho hl=>
  obtain⟨m,h⟩:=hg.reg _ _ hc
  exact .rs h (by rw[List.getElem?_append_left (List.getElem?_eq_some_iff.1 hk).1];exact hk) ho hl
 | avl cs us hl hc him h ih=>exact .avl cs us hl hc (fun k hk=>⟨(hm _ _ (him k hk).1).1,((hm _ _ (him k hk).1).2).trans (him k hk).2.1,(him k hk).2.2⟩) ih
 | yld hc=>obtain⟨T',h⟩:=hg.yld _ _ _ hc;exact .yld h

theorem Ext.hm{w w':World}{Im Im':Imm}{g g':List Gh}(h:Ext w Im g w' Im' g'):∀ b o,Im b o→Im' b o∧w'.cell? ⟨b,o,none⟩=w.cell? ⟨b,o,none⟩:=fun b o x=>⟨h.mono b o x,h.keep b o x⟩
theorem RepA.ext{w w':World}{Im Im':Imm}{g g':List Gh}{v:Value}{c:AV}(h:RepA w Im g v c)(e:Ext w Im g w' Im' g'):RepA w' Im' g' v c:=h.ext' e.hm e.gle
theorem RepAs.ext{w w':World}{Im Im':Imm}{g g':List Gh}{vs:List Value}{cs:List AV}(h:RepAs w Im g vs cs)(e:Ext w Im g w' Im' g'):RepAs w' Im' g' vs cs:=⟨h.1,fun i v c hv hc=>(h.2 i v c hv hc).ext e⟩

def MapAt(w:World)(Im:Imm)(g:List Gh)(b:Nat)(es:List (AV×AV)):Prop:=
 ∃ (l:List MapEntry) (clock:Nat),w.heap[b]?=some (.map ⟨l⟩ clock)∧l.length=es.length ∧
  (∀ (i:Nat) (e:MapEntry) (x:AV×AV),l[i]?=some e→es[i]?=some x→RepA w Im g e.key x.1∧RepA w Im g e.val x.2)∧∀ o,¬Im b o

def StableJ(J:Nat→(Nat→Prop)→Imm→World→Prop):Prop:=
 ∀ (k:Nat) (T:Nat→Prop) (Im:Imm) (W:World) (Im':Imm) (W':World),J k T Im W→W'.os=W.os→W'.tape=W.tape→W'.output=W.output→W.heap.size≤W'.heap.size →
  (∀ b,T b→W'.heap[b]?=W.heap[b]?∧∀ o,Im' b o→Im b o)→(∀ b o,Im b o→Im' b o∧W'.cell? ⟨b,o,none⟩=W.cell? ⟨b,o,none⟩)→(∀ b o,Im' b o→b<W'.heap.size)→J k T Im' W'
def Rounds(P:Program)(y:Yl):Prop:=
 ∀ (k:Nat) (x:List AV) (T:Nat→Prop) (Im:Imm) (W:World) (args:List Value),y.J k T Im W→y.xs[k]?=some x→(y.stop=0∨k<y.stop)→(∀ b,T b→b<W.heap.size)→(∀ b o,Im b o→b<W.heap.size)→RepAs W Im [] args x →
  YieldAt Fence.wide 0 P y.l ⟨args⟩ W fun e W'=>e=.returned (.bool (decide (k+1≠y.stop)))∧∃ (T':Nat→Prop) (Im':Imm),Ext W Im [.yld y T] W' Im' [.yld y T']∧(∀ b,T' b→b<W'.heap.size)∧(∀ b o,Im' b o→b<W'.heap.size)∧y.J (k+1) T' Im' W'
structure LogAt(P:Program)(w:World)(Im:Imm)(y:Yl)(T:Nat→Prop)(stop n:Nat)(rest:List (List AV)):Prop where
 same:y.stop=stop
 rest:rest=y.xs.drop n
 le:stop=0∨n≤stop
 stable:StableJ y.J
 rounds:Rounds P y
 now:y.J n T Im w

def bufK(P:Program):Option Field→Option TypeId
 | some f=>match P.underlying f.type with
  | some (.slice e)=>some e
  | _=>none
 | none=>none
def bufE(P:Program)(t:TypeId):Option TypeId:=
 match P.underlying t with
 | some (.struct fs)=>bufK P fs[1]?
 | _=>none
def BldAt(P:Program)(w:World)(Im:Imm)(b:Nat)(row:Option Nat)(t:TypeId)(s:List UInt8):Prop:=
 ∃ (p v:Value) (te:TypeId),w.heap[b]?=some (.cells #[p,v] t (0,0))∧(p=.pointer none∨p=.pointer (some ⟨b,0,none⟩))∧bufE P t=some te∧(∀ o,¬Im b o) ∧
  ((row=none∧v=.slice none 0 0∧s=[])∨∃ (gb cap:Nat) (cur:Array Value),row=some gb∧gb≠b∧v=.slice (some ⟨gb,0,none⟩) s.length cap∧w.heap[gb]?=some (.cells cur te (0,0))∧s.length≤cap∧cur.size=cap∧s≠[] ∧
   (∀ (j:Nat) (x:UInt8),s[j]?=some x→cur[j]?=some (.int .u8 (x.toNat:Int)))∧∀ o,¬Im gb o)
theorem BldAt.stay{P:Program}{w w':World}{Im Im':Imm}{b:Nat}{row:Option Nat}{t:TypeId}{s:List UInt8}(h:BldAt P w Im b row t s)(hk:∀ k,(b=k∨row=some k)→w'.heap[k]?=w.heap[k]?∧∀ o,Im' k o→Im k o):BldAt P w' Im' b row t s:=by
 obtain⟨p,v,te,h1,h2,h3,h4,h5⟩:=h
 obtain⟨k1,k2⟩:=hk b (.inl rfl)
 refine⟨p,v,te,k1.trans h1,h2,h3,fun o ho=>h4 o (k2 o ho),?_⟩
 rcases h5 with h5|⟨gb,cap,cur,rfl,q1,q2,q3,q4,q5,q0,q6,q7⟩
 ·exact .inl h5
 ·obtain⟨m1,m2⟩:=hk gb (.inr rfl)
  exact .inr ⟨gb,cap,cur,rfl,q1,q2,m1.trans q3,q4,q5,q0,q6,fun o ho=>q7 o (m2 o ho)⟩
def TabOk(w:World)(Im:Imm):Prop:=∀ (b o:Nat) (v:Option Value),tabV b o v→Im b o∧w.cell? ⟨b,o,none⟩=v
theorem TabOk.go{w w':World}{Im Im':Imm}(h:TabOk w Im)(hm:∀ b o,Im b o→Im' b o∧w'.cell? ⟨b,o,none⟩=w.cell? ⟨b,o,none⟩):TabOk w' Im':=fun b o v ht=>⟨(hm b o (h b o v ht).1).1,(hm b o (h b o v ht).1).2.trans (h b o v ht).2⟩
structure RegOk(w:World)(Im:Imm)(g:List Gh)(H:List AObj):Prop where
 at_:∀ (bs:List (List AV)),H[0]?=some (.reg bs)→∃ blks,g[0]?=some (.reg blks)∧blks.length=bs.length∧blks.Nodup∧∀ (k b:Nat) (cs:List AV),blks[k]?=some b→bs[k]?=some cs→ObjAt w Im g b cs
 no:∀ (bs:List (List AV)),H[0]?=some (.reg bs)→∀ cs,cs∈bs→∀ c,c∈cs→refs c=[]
 only:∀ (r:Nat) (bs:List (List AV)),H[r]?=some (.reg bs)→r=0
 back:∀ (r:Nat) (blks:List Nat),g[r]?=some (.reg blks)→r=0∧∃ bs,H[0]?=some (.reg bs)
 off:hasReg=false→∀ (r:Nat) (x:List Nat),g[r]?≠some (.reg x)
structure HR(P:Program)(w:World)(Im:Imm)(g:List Gh)(H:List AObj):Prop where
 len:g.length=H.length
 cells:∀ (r:Nat) (cs:List AV),H[r]?=some (.cells cs)→∃ b,g[r]?=some (.cell b)∧ObjAt w Im g b cs
 grow:∀ (r e sz:Nat),H[r]?=some (.grow e sz)→∃ base len cap,g[r]?=some (.gr e sz base len cap)∧len≤cap∧(base=none→cap=0) ∧
  ∀ b,base=some b→len<cap→∃ (vs:List Value) (t:TypeId),w.heap[b]?=some (.cells ⟨vs⟩ t (0,0))∧vs.length=cap*sz∧∀ o,len*sz≤o→¬Im b o
 stk:∀ (r e sz:Nat) (cs:List AV),H[r]?=some (.stk e sz cs)→∃ base cap,g[r]?=some (.gr e sz base 0 cap)∧(base=none→cap=0)∧(cap=0→cs=[])∧∀ b,base=some b→0<cap→StkAt w Im g b cs (cap*sz)
 mapo:∀ (r:Nat) (es:List (AV×AV)),H[r]?=some (.mapo es)→∃ b,g[r]?=some (.cell b)∧MapAt w Im g b es
 log:∀ (r stop n:Nat) (rest:List (List AV)),H[r]?=some (.log stop n rest)→∃ y T,g[r]?=some (.yld y T)∧LogAt P w Im y T stop n rest
 gen:∀ (r:Nat) (acc:List (List AV)),H[r]?≠some (.gen acc)
 sep:∀ (r r' k:Nat) (x x':Gh),r≠r'→g[r]?=some x→g[r']?=some x'→x.owns k→¬x'.owns k
 lt:∀ k,Owns g k→k<w.heap.size
 im:∀ b o,Im b o→b<w.heap.size
 tab:TabOk w Im
 box:∀ (r:Nat) (t:TypeId) (s:List UInt8),H[r]?=some (.bld t s)→∃ b row,g[r]?=some (.bld b row)∧BldAt P w Im b row t s
 rg:RegOk w Im g H


theorem Ext.drew{w w':World}{Im Im':Imm}{g g':List Gh}(h:Ext w Im g w' Im' g'):Ext w Im g { w' with drawn:=w'.drawn+1 } Im' g':=
 ⟨h.os,h.tape,h.output,h.size,h.mono,h.keep,h.frame,h.new,h.newg,h.gle⟩
theorem Ext.drawn{w w':World}{Im Im':Imm}{g g':List Gh}(h:Ext w Im g w' Im' g')(n:Nat):Ext w Im g { w' with drawn:=n } Im' g':=
 ⟨h.os,h.tape,h.output,h.size,h.mono,h.keep,h.frame,h.new,h.newg,h.gle⟩
theorem HR.drawn{P:Program}{w:World}{Im:Imm}{g:List Gh}{H:List AObj}(h:HR P w Im g H)(n:Nat):HR P { w with drawn:=n } Im g H:=by
 have e:Ext w Im g { w with drawn:=n } Im g:=(Ext.refl w Im g).drawn n
 refine⟨h.len,fun r cs hr=>?_,fun r e' sz hr=>h.grow r e' sz hr,fun r e' sz cs hr=>?_,fun r es hr=>?_,fun r stop k rest hr=>?_,h.gen,h.sep,h.lt,h.im,h.tab,fun r t cs hr=>?_,⟨fun bs hr=>?_,h.rg.no,h.rg.only,h.rg.back,h.rg.off⟩⟩
 ·obtain⟨b,hb,vs,t,h1,h2,h3,h4⟩:=h.cells r cs hr
  exact⟨b,hb,vs,t,h1,h2,fun i v c hv hc=>(h3 i v c hv hc).ext e,h4⟩
 ·obtain⟨base,cap,k1,k2,k3,k4⟩:=h.stk r e' sz cs hr
  refine⟨base,cap,k1,k2,k3,fun b hb hc=>?_⟩
  obtain⟨vs,t,h1,h2,h3,h4,h5,h6⟩:=k4 b hb hc
  exact⟨vs,t,h1,h2,h3,fun i v c hv hc=>(h4 i v c hv hc).ext e,h5,h6⟩
 ·obtain⟨b,hb,l,ck,h1,h2,h3,h4⟩:=h.mapo r es hr
  exact⟨b,hb,l,ck,h1,h2,fun i e' x he hx=>⟨(h3 i e' x he hx).1.ext e,(h3 i e' x he hx).2.ext e⟩,h4⟩
 ·obtain⟨y,T,hg,h1,h2,h3,h4,h5,h6⟩:=h.log r stop k rest hr
  exact⟨y,T,hg,h1,h2,h3,h4,h5,h4 _ _ _ _ _ _ h6 rfl rfl rfl (Nat.le_refl _) (fun b _=>⟨rfl,fun _ h=>h⟩) (fun b o h=>⟨h,rfl⟩) h.im⟩
 ·exact h.box r t cs hr
 ·obtain⟨blks,k1,k2,k3,k4⟩:=h.rg.at_ bs hr
  refine⟨blks,k1,k2,k3,fun k b cs hb hc=>?_⟩
  obtain⟨vs,t,h1,h2,h3,h4⟩:=k4 k b cs hb hc
  exact⟨vs,t,h1,h2,fun i v c hv hc=>(h3 i v c hv hc).ext e,h4⟩

end Go.Ab
/- The abstract evaluator: what code does with data and own objects,as a plain function. Conditions: none. -/
namespace Go.Ab
open Go

structure St where
 vs:List (Nat×AV)
 ts:List (Nat×AV)
 H:List AObj

def look(k:Nat):List (Nat×AV)→Option AV
 | []=>none
 | (j,v)::l=>if j=k then some v else look k l
def has(k:Nat):List (Nat×AV)→Bool
 | []=>false
 | (j,_)::l=>if j=k then true else has k l
def repl(k:Nat)(v:AV):List (Nat×AV)→List (Nat×AV)
 | []=>[]
 | (j,u)::l=>if j=k then(j,v)::l else(j,u)::repl k v l
def getK(k:Nat)(ts:List (Nat×AV)):Option AV→AV
 | some v=>v
 | none=>(look k ts).getD .any
def St.get(st:St)(k:Nat):AV:=getK k st.ts (look k st.vs)
def putK(d:Nat)(v:AV)(st:St):Bool→St
 | true=>⟨repl d v st.vs,st.ts,st.H⟩
 | false=>⟨st.vs,(d,v)::st.ts,st.H⟩
def St.put(st:St)(d:Nat)(v:AV):St:=putK d v st (has d st.vs)
def St.putO(st:St):Option Nat→AV→St
 | none,_=>st
 | some d,v=>st.put d v

def ofV:Value→AV
 | .bool b=>.d (.bool b)
 | .int k n=>.d (.int k n)
 | .string s=>.d (.str s.data.toList)
 | .pointer none=>.d .nilp
 | .slice none 0 0=>.full []
 | .map none=>.nilm
 | _=>.any
def aggC(cs:List Value):Bool→AV
 | true=>.agg (cs.map ofV)
 | false=>.any
def ofC:Value→AV
 | .agg cs=>aggC cs.toList (cs.toList.all Value.oneCell')
 | .bool b=>.d (.bool b)
 | .int k n=>.d (.int k n)
 | .string s=>.d (.str s.data.toList)
 | .pointer none=>.d .nilp
 | .slice none 0 0=>.full []
 | .map none=>.nilm
 | _=>.any
def evArg(st:St):Operand→AV
 | .tmp k=>st.get k
 | .const v=>ofC v
 | .func f=>.fn f [] []
 | .global _=>.any

inductive TK where
 | bool
 | int (k:IntKind)
 | str
 | ptr
 | sl (e:TypeId)
 | arr (n:Nat) (e:TypeId)
 | st
 | ifc
 | other
 | bad

section
variable (P:Program)
def szOf(t:TypeId):Option Nat:=(P.info? t).map (·.size)
def bytesOf(t:TypeId):Option Nat:=(P.info? t).map (·.bytes)
def zeroOf(t:TypeId):Option (List AV):=((P.info? t).bind (·.zero)).bind fun z=>if z.cells.toList.all Value.oneCell' then some (z.cells.toList.map ofV)else none
def buildZ(t:TypeId):Option (List AV):=
 match P.underlying t with
 | some (.struct fs)=>if fs.toList.all fun f=>(szOf P f.type).isSome then zeroOf P t else none
 | some (.array _ e)=>if(szOf P e).isSome then zeroOf P t else none
 | _=>none
def kindT(t:TypeId):TK:=
 match P.underlying t with
 | some .bool=>.bool
 | some (.int k)=>.int k
 | some .string=>.str
 | some (.pointer _)=>.ptr
 | some (.slice e)=>.sl e
 | some (.array n e)=>.arr n e
 | some (.struct _)=>.st
 | some (.interface _)=>.ifc
 | some _=>.other
 | none=>.bad
def fld(t:TypeId)(f:Nat):Option (Nat×Nat×TypeId):=
 match P.underlying t with
 | some (.struct fs)=>(fs[f]?).bind fun x=>(szOf P x.type).map fun s=>(x.offset,s,x.type)
 | _=>none
def eqFs(t:TypeId):Option (List (TypeId×Nat)):=
 match P.underlying t with
 | some (.struct fs)=>if P.stoodInHeld t||P.eqGuardType P.depth t then none else some ((fs.toList.filter fun f=>f.name != "_").map fun f=>(f.type,f.offset))
 | _=>none
def szZ(t:TypeId):Option Nat:=
 match szOf P t,zeroOf P t with
 | some s,some z=>if z.length=s∧0<s then some s else none
 | _,_=>none
def agK:TK→Option Bool
 | .st=>some true
 | .arr _ _=>some true
 | .bad=>none
 | .bool=>some false
 | .int _=>some false
 | .str=>some false
 | .ptr=>some false
 | .sl _=>some false
 | .ifc=>some false
 | .other=>some false
def elK:TK→Option TypeId
 | .sl e=>some e
 | _=>none
def isAg(t:TypeId):Option Bool:=agK (kindT P t)
def elemT(t:TypeId):Option TypeId:=elK (kindT P t)
end

def andI(k:IntKind)(x y:Int):Int:=k.wrap ((BitVec.ofInt k.bits x)&&&(BitVec.ofInt k.bits y)).toNat
def orI(k:IntKind)(x y:Int):Int:=k.wrap ((BitVec.ofInt k.bits x)|||(BitVec.ofInt k.bits y)).toNat
def xorI(k:IntKind)(x y:Int):Int:=k.wrap ((BitVec.ofInt k.bits x) ^^^ (BitVec.ofInt k.bits y)).toNat
def notI(k:IntKind)(x y:Int):Int:=k.wrap ((BitVec.ofInt k.bits x)&&&~~~(BitVec.ofInt k.bits y)).toNat
def bitA(op:BinOp)(k:IntKind)(x y:Int):Option Int:=
 match op with
 | .and=>some (andI k x y)
 | .or=>some (orI k x y)
 | .xor=>some (xorI k x y)
 | .andNot=>some (notI k x y)
 | _=>none
def intA(op:BinOp)(k:IntKind)(x y:Int):Option Dt:=
 match op with
 | .add=>some (.int k (k.wrap (x+y)))
 | .sub=>some (.int k (k.wrap (x-y)))
 | .mul=>some (.int k (k.wrap (x*y)))
 | .quo=>if y=0 then none else some (.int k (k.wrap (x.tdiv y)))
 | .rem=>if y=0 then none else some (.int k (x.tmod y))
 | .eql=>some (.bool (decide (x=y)))
 | .neq=>some (.bool (!decide (x=y)))
 | .lss=>some (.bool (decide (x<y)))
 | .leq=>some (.bool (decide (x≤y)))
 | .gtr=>some (.bool (decide (y<x)))
 | .geq=>some (.bool (decide (y≤x)))
 | .shl=>none
 | .shr=>none
 | op=>(bitA op k x y).map (.int k)
def shiftA(op:BinOp)(k:IntKind)(x y:Int):Option Dt:=
 if y<0 then none else
 match op with
 | .shl=>some (.int k (k.wrap (x*2^(min y.toNat k.bits))))
 | .shr=>some (.int k (x.fdiv (2^(min y.toNat k.bits))))
 | _=>none
def strA(op:BinOp)(x y:List UInt8):Option Dt:=
 match op with
 | .add=>if x.length+y.length≤9223372036854775807 then some (.str (x++y))else none
 | .eql=>some (.bool (decide (x=y)))
 | .neq=>some (.bool (!decide (x=y)))
 | .lss=>some (.bool (Op.bytesLess x y))
 | .leq=>some (.bool (Op.bytesLess x y||decide (x=y)))
 | .gtr=>some (.bool !(Op.bytesLess x y||decide (x=y)))
 | .geq=>some (.bool !(Op.bytesLess x y))
 | _=>none

section
variable (P:Program)
def partK(cs:List AV)(off:Nat):Option Bool→Option Nat→Option AV
 | some true,some n=>if off+n≤cs.length then some (.agg ((cs.drop off).take n))else none
 | some false,_=>cs[off]?
 | _,_=>none
def partA(t:TypeId)(cs:List AV)(off:Nat):Option AV:=partK cs off (isAg P t) (szOf P t)
def andO:Option Bool→Option Bool→Option Bool
 | some a,some b=>some (a&&b)
 | _,_=>none
def eqPair(eq:AV→AV→Option Bool):Option AV→Option AV→Option Bool
 | some a,some b=>eq a b
 | _,_=>none
def eqFields(eq:TypeId→AV→AV→Option Bool)(xs ys:List AV):List (TypeId×Nat)→Option Bool
 | []=>some true
 | [(t,o)]=>eqPair (eq t) (partA P t xs o) (partA P t ys o)
 | (t,o)::f::fs=>andO (eqPair (eq t) (partA P t xs o) (partA P t ys o)) (eqFields eq xs ys (f::fs))
def eqAgg(eq:TypeId→AV→AV→Option Bool)(xs ys:List AV):Option (List (TypeId×Nat))→Option Bool
 | some fs=>eqFields P eq xs ys fs
 | none=>none
def eqK(eq:TypeId→AV→AV→Option Bool)(t:TypeId):TK→AV→AV→Option Bool
 | .bool,.d (.bool a),.d (.bool b)=>some (decide (a=b))
 | .int _,.d (.int k a),.d (.int k' b)=>if k=k' then some (decide (a=b))else none
 | .str,.d (.str a),.d (.str b)=>some (decide (a=b))
 | .ptr,.d .nilp,.d .nilp=>some true
 | .ptr,.d .nilp,.ptr _ _=>some false
 | .ptr,.d .nilp,.dp _=>some false
 | .ptr,.ptr _ _,.d .nilp=>some false
 | .ptr,.dp _,.d .nilp=>some false
 | .ptr,.rp _ _,.d .nilp=>some false
 | .ptr,.d .nilp,.rp _ _=>some false
 | .ptr,.sp _ _ _,.d .nilp=>some false
 | .ptr,.d .nilp,.sp _ _ _=>some false
 | .st,.agg xs,.agg ys=>eqAgg P eq xs ys (eqFs P t)
 | _,_,_=>none
def eqA:Nat→TypeId→AV→AV→Option Bool
 | 0,_,_,_=>none
 | n+1,t,x,y=>eqK P (eqA n) t (kindT P t) x y
def notO:Option Bool→Option AV
 | some b=>some (.d (.bool !b))
 | none=>none
def yesO:Option Bool→Option AV
 | some b=>some (.d (.bool b))
 | none=>none
def dO:Option Dt→Option AV
 | some x=>some (.d x)
 | none=>none
def binA(op:BinOp)(t:TypeId):AV→AV→Option AV
 | .d (.int k a),.d (.int k' b)=>match op with
  | .shl=>dO (shiftA .shl k a b)
  | .shr=>dO (shiftA .shr k a b)
  | op=>if k=k' then dO (intA op k a b)else none
 | .d (.str a),.d (.str b)=>dO (strA op a b)
 | x,y=>match op with
  | .eql=>yesO (eqA P 12 t x y)
  | .neq=>notO (eqA P 12 t x y)
  | _=>none
def nilS:AV→Option Bool
 | .nils=>some true
 | .rs _ _ _ _=>some false
 | _=>none
def binS(x:AV):BinOp→TK→Option AV
 | .eql,.sl _=>yesO (nilS x)
 | .neq,.sl _=>notO (nilS x)
 | _,_=>none
def binN(op:BinOp)(t:TypeId)(x y:AV):Bool→Option AV
 | false=>binA P op t x y
 | true=>binS x op (kindT P t)
def unA(op:UnOp):AV→Option AV
 | .d (.int k n)=>match op with
  | .neg=>some (.d (.int k (k.wrap (0-n))))
  | _=>none
 | .d (.bool b)=>match op with
  | .not=>some (.d (.bool !b))
  | _=>none
 | _=>none
def byteC(n:Int)(o:Option (List UInt8)):Option (List UInt8):=if 0≤n∧n<256 then o.map (UInt8.ofNat n.toNat::·)else none
def bytesR:List (List Dt)→Option (List UInt8)
 | []=>some []
 | [.int .u8 n]::rows=>byteC n (bytesR rows)
 | _=>none
def bytesV:AV→Option (List UInt8)
 | .d (.sl rows)=>bytesR rows
 | .full rows=>bytesR rows
 | .grow _ _ rows=>bytesR rows
 | _=>none
def txtO:Option (List UInt8)→Option AV
 | some l=>some (.d (.str l))
 | none=>none
def convB(x:AV):TK→Option AV
 | .int .u8=>txtO (bytesV x)
 | _=>none
def convK:TK→TK→AV→Option AV
 | .int _,.int k,.d (.int _ n)=>some (.d (.int k (k.wrap n)))
 | .str,.str,.d (.str s)=>some (.d (.str s))
 | .sl e,.str,x=>convB x (kindT P e)
 | _,_,_=>none
def convA(src dst:TypeId)(x:AV):Option AV:=convK P (kindT P src) (kindT P dst) x
end
theorem byteC_byte(c:UInt8)(o:Option (List UInt8)):byteC (c.toNat:Int) o=o.map (c::·):=by
 have:=c.toNat_lt
 unfold byteC;rw[if_pos ⟨by omega,by omega⟩]
 simp

def cellsA:AV→Option (List AV)
 | .agg cs=>some cs
 | .any=>none
 | .tuple _=>none
 | v=>some [v]
def splice(cs:List AV)(off:Nat)(new:List AV):List AV:=cs.take off++new++cs.drop (off+new.length)
def fillK(off size:Nat)(cells:List AV):Option (List AV)→Option (List AV)
 | some new=>if new.length=size∧off+size≤cells.length then some (splice cells off new)else none
 | none=>none
def fillA(place:Nat→Option (Nat×Nat))(cells:List AV):List (Nat×AV)→Option (List AV)
 | []=>some cells
 | (i,v)::rest=>
  match place i with
  | none=>none
  | some (off,size)=>match fillK off size cells (cellsA v)with
   | none=>none
   | some cs=>fillA place cs rest

def aggO:Option (List AV)→Option AV
 | some cs=>some (.agg cs)
 | none=>none
def dataA:AV→Option Dt
 | .d x=>some x
 | .full rows=>some (.sl rows)
 | .grow _ _ rows=>some (.sl rows)
 | _=>none
def dataAs:List AV→Option (List Dt)
 | []=>some []
 | c::cs=>match dataA c,dataAs cs with
  | some x,some xs=>some (x::xs)
  | _,_=>none
def chunk(s:Nat):Nat→List Dt→List (List Dt)
 | 0,_=>[]
 | n+1,xs=>xs.take s::chunk s n (xs.drop s)
def rowsA:AV→Option (List (List Dt))
 | .d (.sl rows)=>some rows
 | .full rows=>some rows
 | .grow _ _ rows=>some rows
 | _=>none

section
variable (P:Program)
def placeK:Option (Nat×Nat×TypeId)→Option (Nat×Nat)
 | some (o,s,_)=>some (o,s)
 | none=>none
def plcS(i:Nat):Option Nat→Option (Nat×Nat)
 | some s=>some (i*s,s)
 | none=>none
def plc(t:TypeId)(i:Nat):TK→Option (Nat×Nat)
 | .arr _ e=>plcS i (szOf P e)
 | .st=>placeK (fld P t i)
 | _=>none
def buildK(t:TypeId)(parts:List (Nat×AV)):Option (List AV)→Option AV
 | some z=>aggO (fillA (fun i=>plc P t i (kindT P t)) z parts)
 | none=>none
def buildA(t:TypeId)(parts:List (Nat×AV)):Option AV:=buildK P t parts (buildZ P t)
def chunkK(s n:Nat):Option (List Dt)→Option (List (List Dt))
 | some xs=>some (chunk s n xs)
 | none=>none
def chunkO(s n:Nat):Option (List AV)→Option (List (List Dt))
 | some cs=>chunkK s n (dataAs cs)
 | none=>none
def buildSliceK(n:Nat)(parts:List (Nat×AV)):Option Nat→Option (List AV)→Option (List (List Dt))
 | some s,some z=>if n*s≤16777216 then chunkO s n (fillA (fun i=>some (i*s,s)) ((List.replicate n z).flatten) parts)else none
 | _,_=>none
def buildSliceT(n:Nat)(parts:List (Nat×AV)):Option TypeId→Option (List (List Dt))
 | some e=>buildSliceK n parts (szZ P e) (zeroOf P e)
 | none=>none
def buildSliceA(t:TypeId)(n:Nat)(parts:List (Nat×AV)):Option (List (List Dt)):=buildSliceT P n parts (elemT P t)
end

def eqB:Bool→Bool→Bool
 | true,true=>true
 | false,false=>true
 | true,false=>false
 | false,true=>false
def eqKd(a b:IntKind):Bool:=decide (a=b)
mutual
def eqD:Dt→Dt→Bool
 | .bool a,.bool b=>eqB a b
 | .int k a,.int l b=>eqKd k l&&decide (a=b)
 | .str a,.str b=>decide (a=b)
 | .sl a,.sl b=>eqDLL a b
 | .nilp,.nilp=>true
 | _,_=>false
def eqDL:List Dt→List Dt→Bool
 | [],[]=>true
 | x::xs,y::ys=>eqD x y&&eqDL xs ys
 | _,_=>false
def eqDLL:List (List Dt)→List (List Dt)→Bool
 | [],[]=>true
 | x::xs,y::ys=>eqDL x y&&eqDLL xs ys
 | _,_=>false
end
mutual
def eqV:AV→AV→Bool
 | .any,.any=>true
 | .d x,.d y=>eqD x y
 | .full a,.full b=>eqDLL a b
 | .grow r e a,.grow s f b=>decide (r=s)&&decide (e=f)&&eqDLL a b
 | .agg a,.agg b=>eqVL a b
 | .tuple a,.tuple b=>eqVL a b
 | .ptr r o,.ptr s q=>decide (r=s)&&decide (o=q)
 | .dp a,.dp b=>eqDL a b
 | .arr r o n z,.arr s q m y=>decide (r=s)&&decide (o=q)&&decide (n=m)&&decide (z=y)
 | .stk r e n,.stk s f m=>decide (r=s)&&decide (e=f)&&decide (n=m)
 | .sp r e n,.sp s f m=>decide (r=s)&&decide (e=f)&&decide (n=m)
 | .sv r e o n,.sv s f q m=>decide (r=s)&&decide (e=f)&&decide (o=q)&&decide (n=m)
 | .fn f a b,.fn g c d=>decide (f=g)&&eqVL a c&&eqVL b d
 | .iface t a,.iface u b=>decide (t=u)&&eqV a b
 | .nils,.nils=>true
 | .rp k o,.rp l q=>decide (k=l)&&decide (o=q)
 | .rs k o n z,.rs l q m y=>decide (k=l)&&decide (o=q)&&decide (n=m)&&decide (z=y)
 | _,_=>false
def eqVL:List AV→List AV→Bool
 | [],[]=>true
 | x::xs,y::ys=>eqV x y&&eqVL xs ys
 | _,_=>false
end

def ofZ:Value→AV
 | .agg cs=>if cs.toList.all Value.oneCell' then .agg (cs.toList.map ofV)else .any
 | v=>ofV v
section
variable (P:Program)
def zeroV(t:TypeId):Option AV:=((P.info? t).bind (·.zero)).map ofZ
def mapT(t:TypeId):Option (TypeId×TypeId):=
 match P.underlying t with
 | some (.map k e)=>some (k,e)
 | _=>none
end
def keyK:TK→Bool
 | .int _=>true
 | .str=>true
 | .bool=>true
 | _=>false
def keyEq:TK→AV→AV→Option Bool
 | .bool,.d (.bool a),.d (.bool b)=>some (decide (a=b))
 | .int k,.d (.int j a),.d (.int l b)=>if j=k∧l=k then some (decide (a=b))else none
 | .str,.d (.str a),.d (.str b)=>some (decide (a=b))
 | _,_,_=>none
def findM(K:TK)(k:AV):List (AV×AV)→Option (Option AV)
 | []=>match keyEq K k k with
  | some _=>some none
  | none=>none
 | (j,v)::es=>match keyEq K k j with
  | some true=>some (some v)
  | some false=>findM K k es
  | none=>none
def setM(K:TK)(k v:AV):List (AV×AV)→Option (List (AV×AV))
 | []=>match keyEq K k k with
  | some _=>some [(k,v)]
  | none=>none
 | (j,u)::es=>match keyEq K k j with
  | some true=>some ((j,v)::es)
  | some false=>match setM K k v es with
   | some l=>some ((j,u)::l)
   | none=>none
  | none=>none
def delM(K:TK)(k:AV):List (AV×AV)→Option (List (AV×AV))
 | []=>match keyEq K k k with
  | some _=>some []
  | none=>none
 | (j,u)::es=>match keyEq K k j with
  | some true=>some es
  | some false=>match delM K k es with
   | some l=>some ((j,u)::l)
   | none=>none
  | none=>none
def foundM(ok:Bool)(z:Option AV):Option (Option AV)→Option AV
 | some (some v)=>some (if ok then .tuple [v,.d (.bool true)]else v)
 | some none=>match z with
  | some v=>some (if ok then .tuple [v,.d (.bool false)]else v)
  | none=>none
 | none=>none
def entsO:AObj→Option (List (AV×AV))
 | .mapo es=>some es
 | _=>none
def entsA(H:List AObj):AV→Option (List (AV×AV))
 | .mp r=>entsO (H.getD r .no)
 | .nilm=>some []
 | _=>none
def lookE(K:TK)(k:AV)(ok:Bool)(z:Option AV):Option (List (AV×AV))→Option AV
 | some es=>foundM ok z (findM K k es)
 | none=>none
section
variable (P:Program)
def lookT(H:List AObj)(m k:AV)(ok:Bool):Option (TypeId×TypeId)→Option AV
 | some (kt,et)=>lookE (kindT P kt) k ok (zeroV P et) (entsA H m)
 | none=>none
def lookA(t:TypeId)(H:List AObj)(m k:AV)(ok:Bool):Option AV:=lookT P H m k ok (mapT P t)
end

def unO:AV→AV
 | .own r off len esz=>.arr r off len esz
 | .stk r e n=>.stk r e n
 | .sp r e off=>.sp r e off
 | .sv r e off n=>.sv r e off n
 | .any=>.any
 | .d x=>.d x
 | .full rows=>.full rows
 | .grow r e rows=>.grow r e rows
 | .agg cs=>.agg cs
 | .tuple cs=>.tuple cs
 | .ptr r off=>.ptr r off
 | .dp cs=>.dp cs
 | .arr r off len esz=>.arr r off len esz
 | .fn f a b=>.fn f a b
 | .iface t v=>.iface t v
 | .mp r=>.mp r
 | .nilm=>.nilm
 | .yld r=>.yld r
 | .nils=>.nils
 | .bp r=>.bp r
 | .rp k off=>.rp k off
 | .rs k off len esz=>.rs k off len esz
 | .avl n sz cs=>.avl n sz cs
def toO:AV→AV
 | .arr r off len esz=>.own r off len esz
 | .any=>.any
 | .d x=>.d x
 | .full rows=>.full rows
 | .grow r e rows=>.grow r e rows
 | .agg cs=>.agg cs
 | .tuple cs=>.tuple cs
 | .ptr r off=>.ptr r off
 | .dp cs=>.dp cs
 | .own r off len esz=>.own r off len esz
 | .stk r e n=>.stk r e n
 | .sp r e off=>.sp r e off
 | .sv r e off n=>.sv r e off n
 | .fn f a b=>.fn f a b
 | .iface t v=>.iface t v
 | .mp r=>.mp r
 | .nilm=>.nilm
 | .yld r=>.yld r
 | .nils=>.nils
 | .bp r=>.bp r
 | .rp k off=>.rp k off
 | .rs k off len esz=>.rs k off len esz
 | .avl n sz cs=>.avl n sz cs
def toOO:Option AV→Option AV
 | some v=>some (toO v)
 | none=>none
def reO(y:Option AV):AV→Option AV
 | .own _ _ _ _=>toOO y
 | .any=>y
 | .d _=>y
 | .full _=>y
 | .grow _ _ _=>y
 | .agg _=>y
 | .tuple _=>y
 | .ptr _ _=>y
 | .dp _=>y
 | .arr _ _ _ _=>y
 | .stk _ _ _=>y
 | .sp _ _ _=>y
 | .sv _ _ _ _=>y
 | .fn _ _ _=>y
 | .iface _ _=>y
 | .mp _=>y
 | .nilm=>y
 | .yld _=>y
 | .nils=>y
 | .bp _=>y
 | .rp _ _=>y
 | .rs _ _ _ _=>y
 | .avl _ _ _=>y
inductive ORes where
 | val (v:AV) (ws:List (Nat×AObj))
 | pan (v:AV) (ws:List (Nat×AObj))
inductive Out where
 | ret (v:AV)
 | pan (v:AV)
abbrev Sem':=Nat→List AV→List AObj→Option (Out×List AObj)

def vO:Option AV→Option ORes
 | some v=>some (.val v [])
 | none=>none

section
variable (P:Program)
def cellsOf:AObj→Option (List AV)
 | .cells cs=>some cs
 | _=>none
def stkOf(e:Nat):AObj→Option (List AV)
 | .stk e' _ cs=>if e'=e then some cs else none
 | _=>none
def regC:AObj→Option (List (List AV))
 | .reg bs=>some bs
 | .no=>none
 | .cells _=>none
 | .mapo _=>none
 | .grow _ _=>none
 | .stk _ _ _=>none
 | .bld _ _=>none
 | .log _ _ _=>none
 | .gen _=>none
def regGet(bs:List (List AV))(k:Nat):Option (List AV):=bs[k]?
def regCell(k:Nat):Option (List (List AV))→Option (List AV)
 | some bs=>regGet bs k
 | none=>none
def regSetK(bs:List (List AV))(k off:Nat)(new:List AV):Option (List AV)→Option (List (List AV))
 | some cs=>if off+new.length≤cs.length then some (bs.set k (splice cs off new))else none
 | none=>none
def regSet(bs:List (List AV))(k off:Nat)(new:List AV):Option (List (List AV)):=regSetK bs k off new (regGet bs k)
def loadK(t:TypeId)(off:Nat):Option (List AV)→Option AV
 | some cs=>partA P t cs off
 | none=>none
def loadA(t:TypeId)(H:List AObj):AV→Option AV
 | .ptr r off=>loadK P t off (cellsOf (H.getD r .no))
 | .dp cs=>partA P t (cs.map .d) 0
 | .sp r e off=>loadK P t off (stkOf e (H.getD r .no))
 | .rp k off=>loadK P t off (regCell k (regC (H.getD 0 .no)))
 | _=>none
def storeK(n r off:Nat):Option (List AV)→Option (List AV)→Option ORes
 | some cs,some new=>if new.length=n∧off+n≤cs.length then some (.val (.tuple []) [(r,.cells (splice cs off new))])else none
 | _,_=>none
def storeS(n r e off:Nat):AObj→Option (List AV)→Option ORes
 | .stk e' s cs,some new=>if e'=e∧new.length=n∧off+n≤cs.length then some (.val (.tuple []) [(r,.stk e' s (splice cs off new))])else none
 | _,_=>none
def storeRK:Option (List (List AV))→Option ORes
 | some bs=>some (.val (.tuple []) [(0,.reg bs)])
 | none=>none
def storeR(n k off:Nat):Option (List (List AV))→Option (List AV)→Option ORes
 | some bs,some new=>if new.length=n∧refsAL new=[]then storeRK (regSet bs k off new)else none
 | _,_=>none
def storeT(H:List AObj)(v:AV):AV→Option Nat→Option ORes
 | .ptr r off,some n=>storeK n r off (cellsOf (H.getD r .no)) (cellsA v)
 | .sp r e off,some n=>storeS n r e off (H.getD r .no) (cellsA v)
 | .rp k off,some n=>storeR n k off (regC (H.getD 0 .no)) (cellsA v)
 | _,_=>none
def storeA(t:TypeId)(H:List AObj)(v a:AV):Option ORes:=storeT H v a (szOf P t)
def fieldAddrK:AV→Option (Nat×Nat×TypeId)→Option AV
 | .ptr r off,some (o,_+1,_)=>some (.ptr r (off+o))
 | .dp cs,some (o,_+1,_)=>some (.dp (cs.drop o))
 | .sp r e off,some (o,_+1,_)=>some (.sp r e (off+o))
 | .rp k off,some (o,_+1,_)=>some (.rp k (off+o))
 | _,_=>none
def fieldAddrA(s:TypeId)(f:Nat)(v:AV):Option AV:=fieldAddrK v (fld P s f)
def fieldK:AV→Option (Nat×Nat×TypeId)→Option AV
 | .agg cs,some (o,_,t)=>partA P t cs o
 | _,_=>none
def fieldA(s:TypeId)(f:Nat)(v:AV):Option AV:=fieldK P v (fld P s f)
def rowK(s:Nat):Option (List Dt)→Option AV
 | some row=>if row.length=s then some (.dp row)else none
 | none=>none
def indexRows(s:Nat)(rows:List (List Dt))(i:Int):Option AV:=if 0≤i then rowK s rows[i.toNat]? else none
def indexSl(n:Int):AV→Option Nat→Option AV
 | .arr r off len esz,some s=>if 0≤n∧n<len∧s=esz then some (.ptr r (off+n.toNat*esz))else none
 | .d (.sl rows),some s=>indexRows s rows n
 | .full rows,some s=>indexRows s rows n
 | .grow _ _ rows,some s=>indexRows s rows n
 | .stk r e m,some s=>if 0≤n∧n<m then some (.sp r e (n.toNat*s))else none
 | .sv r e off m,some s=>if 0≤n∧n<m then some (.sp r e (off+n.toNat*s))else none
 | .rs k off len esz,some s=>if 0≤n∧n<len∧s=esz then some (.rp k (off+n.toNat*esz))else none
 | _,_=>none
def indexAr(len:Nat)(n:Int):AV→Option Nat→Option AV
 | .ptr r off,some s=>if 0≤n∧n<len then some (.ptr r (off+n.toNat*s))else none
 | _,_=>none
def indexAddrK(x:AV):TK→AV→Option AV
 | .sl e,.d (.int _ n)=>indexSl n x (szOf P e)
 | .arr len e,.d (.int _ n)=>indexAr len n x (szOf P e)
 | _,_=>none
def indexAddrA(t:TypeId)(x i:AV):Option AV:=indexAddrK P (unO x) (kindT P t) i
def byteK:Option UInt8→Option AV
 | some c=>some (.d (.int .u8 c.toNat))
 | none=>none
def indexStr(l:List UInt8)(n:Int):Option AV:=if 0≤n then byteK l[n.toNat]? else none
def indexArr(len:Nat)(e:TypeId)(cs:List AV)(n:Int):Option Nat→Option AV
 | some s=>if 0≤n∧n<len then partA P e cs (n.toNat*s)else none
 | none=>none
def indexK:TK→AV→AV→Option AV
 | .str,.d (.str l),.d (.int _ n)=>indexStr l n
 | .arr len e,.agg cs,.d (.int _ n)=>indexArr P len e cs n (szOf P e)
 | _,_,_=>none
def indexA(t:TypeId)(x i:AV):Option AV:=indexK P (kindT P t) x i
def boundA:Option AV→Option (Option Int)
 | none=>some none
 | some (.d (.int _ n))=>some (some n)
 | some _=>none
def cutA{α:Type}(l:List α):Option Int→Option Int→Option (List α)
 | none,none=>some l
 | some a,none=>if 0≤a∧a≤l.length then some (l.drop a.toNat)else none
 | none,some b=>if 0≤b∧b≤l.length then some (l.take b.toNat)else none
 | some a,some b=>if 0≤a∧a≤b∧b≤l.length then some ((l.drop a.toNat).take (b.toNat-a.toNat))else none
def cutArr(r off len esz:Nat):Option Int→Option Int→Option AV
 | none,none=>some (.arr r off len esz)
 | some a,none=>if 0≤a∧a≤len then some (.arr r (off+a.toNat*esz) (len-a.toNat) esz)else none
 | none,some b=>if 0≤b∧b≤len then some (.arr r off b.toNat esz)else none
 | some a,some b=>if 0≤a∧a≤b∧b≤len then some (.arr r (off+a.toNat*esz) (b.toNat-a.toNat) esz)else none
def strO:Option (List UInt8)→Option AV
 | some l=>some (.d (.str l))
 | none=>none
def slO:Option (List (List Dt))→Option AV
 | some l=>some (.d (.sl l))
 | none=>none
def sliceArr(r off len esz:Nat)(a b:Option Int):Option Nat→Option AV
 | some s=>if s=esz then cutArr r off len esz a b else none
 | none=>none
def fits(s:Nat)(rows:List (List Dt)):Prop:=∀ row,row∈rows→row.length=s
instance (s:Nat) (rows:List (List Dt)):Decidable (fits s rows):=by unfold fits;infer_instance
def cutRows(rows:List (List Dt))(b:Option Int):Option Int→Option Nat→Option AV
 | none,some _=>slO (cutA rows none b)
 | some a,some s=>if fits s rows then slO (cutA rows (some a) b)else none
 | _,none=>none
def stkCut(r e n:Nat):Option Int→Option Int→Option Nat→Option AV
 | none,some b,some _=>if 0≤b∧b≤n then some (.stk r e b.toNat)else none
 | some a,none,some s=>if 0≤a∧a≤n then some (.sv r e (a.toNat*s) (n-a.toNat))else none
 | _,_,_=>none
def sliceK:TK→AV→Option (Option Int)→Option (Option Int)→Option AV
 | .str,.d (.str l),some a,some b=>strO (cutA l a b)
 | .sl e,.d (.sl rows),some a,some b=>cutRows rows b a (szOf P e)
 | .sl e,.full rows,some a,some b=>cutRows rows b a (szOf P e)
 | .sl e,.grow _ _ rows,some a,some b=>cutRows rows b a (szOf P e)
 | .sl e,.arr r off len esz,some a,some b=>sliceArr r off len esz a b (szOf P e)
 | .sl t,.stk r e n,some a,some b=>stkCut r e n a b (szOf P t)
 | _,_,_,_=>none
def sliceA(t:TypeId)(x:AV)(lo hi:Option AV):Option AV:=reO (sliceK P (kindT P t) (unO x) (boundA lo) (boundA hi)) x
def nilCheckA:AV→Option AV
 | .ptr r off=>some (.ptr r off)
 | .dp cs=>some (.dp cs)
 | .sp r e off=>some (.sp r e off)
 | .rp k off=>some (.rp k off)
 | .fn f a b=>some (.fn f a b)
 | _=>none
def extractA(i:Nat):AV→Option AV
 | .tuple cs=>cs[i]?
 | _=>none
def pickA(a b:AV):AV→Option AV
 | .d (.bool t)=>some (if t then a else b)
 | _=>none
def lenK:TK→AV→Option AV
 | .str,.d (.str l)=>some (.d (.int .i64 l.length))
 | .sl _,.d (.sl rows)=>some (.d (.int .i64 rows.length))
 | .sl _,.full rows=>some (.d (.int .i64 rows.length))
 | .sl _,.grow _ _ rows=>some (.d (.int .i64 rows.length))
 | .sl _,.arr _ _ len _=>some (.d (.int .i64 len))
 | .sl _,.stk _ _ n=>some (.d (.int .i64 n))
 | .sl _,.sv _ _ _ n=>some (.d (.int .i64 n))
 | .sl _,.rs _ _ n _=>some (.d (.int .i64 n))
 | .sl _,.avl n _ _=>some (.d (.int .i64 n))
 | .arr n _,_=>some (.d (.int .i64 n))
 | _,_=>none
def lenA(t:TypeId)(x:AV):Option AV:=lenK (kindT P t) (unO x)
def maxA:List AV→Option AV
 | [.d (.int k x),.d (.int _ y)]=>some (.d (.int k (if x<y then y else x)))
 | _=>none
def minA:List AV→Option AV
 | [.d (.int k x),.d (.int _ y)]=>some (.d (.int k (if y<x then y else x)))
 | _=>none
def room(n bytes:Nat):Prop:=n*max bytes 1≤140737488355328
instance (n bytes:Nat):Decidable (room n bytes):=by unfold room;infer_instance
def growK(r e s b:Nat)(rows xs:List (List Dt)):AObj→Option ORes
 | .grow e' esz'=>if e'=e∧esz'=s∧fits s xs∧room (rows.length+xs.length) b then some (.val (.grow r (e+1) (rows++xs)) [(r,.grow (e+1) s)])else none
 | _=>none
def stkApp(r e n s b:Nat):List (List Dt)→AObj→Option ORes
 | x::xs,.stk e' s' cs=>if e'=e∧s'=s∧fits s (x::xs)∧n*s≤cs.length∧room (n+(x::xs).length) b then some (.val (.stk r (e+1) (n+(x::xs).length)) [(r,.stk (e+1) s (cs.take (n*s)++(x::xs).flatten.map .d))])else none
 | _,_=>none
def appendK(p:Nat)(H:List AObj):AV→Option Nat→Option Nat→Option (List (List Dt))→Option ORes
 | .grow r ep rows,some sz,some b,some xs=>growK r ep sz b rows xs (H.getD r .no)
 | .stk r e n,some sz,some b,some xs=>stkApp r e n sz b xs (H.getD r .no)
 | .full rows,some sz,some b,some xs=>if fits sz rows∧fits sz xs∧room (rows.length+xs.length) b then some (.val (.grow p 0 (rows++xs)) [(p,.grow 0 sz)])else none
 | _,_,_,_=>none
def stkAppV(r e n s b m sz:Nat)(xs:List AV):AObj→Option ORes
 | .stk e' s' cs=>if e'=e∧s'=s∧sz=s∧0<m∧xs.length=m*s∧n*s≤cs.length∧room (n+m) b then some (.val (.stk r (e+1) (n+m)) [(r,.stk (e+1) s (cs.take (n*s)++xs))])else none
 | _=>none
def appendV(H:List AObj)(m sz:Nat)(xs:List AV):AV→Option Nat→Option Nat→Option ORes
 | .stk r e n,some s,some b=>stkAppV r e n s b m sz xs (H.getD r .no)
 | _,_,_=>none
def appendX(p:Nat)(H:List AObj)(s:AV)(S B:Option Nat):AV→Option ORes
 | .avl m sz xs=>appendV H m sz xs s S B
 | x=>appendK p H s S B (rowsA x)
def appendT(p:Nat)(H:List AObj)(s x:AV):Option TypeId→Option ORes
 | some e=>appendX p H s (szZ P e) (bytesOf P e) x
 | none=>none
def appendA(p:Nat)(t:TypeId)(H:List AObj)(s x:AV):Option ORes:=appendT P p H s x (elemT P t)
def clearC(r off len esz:Nat)(z:List AV):Option (List AV)→Option ORes
 | some cs=>if len=0 then some (.val (.tuple []) [])else if off+len*esz≤cs.length then some (.val (.tuple []) [(r,.cells (splice cs off (List.replicate len z).flatten))])else none
 | none=>none
def clearK(H:List AObj):AV→Option Nat→Option (List AV)→Option ORes
 | .arr r off len esz,some s,some z=>if s=esz then clearC r off len esz z (cellsOf (H.getD r .no))else none
 | .d (.sl []),some _,some _=>some (.val (.tuple []) [])
 | _,_,_=>none
def clearT(H:List AObj)(x:AV):Option TypeId→Option ORes
 | some e=>clearK H (unO x) (szZ P e) (zeroOf P e)
 | none=>none
def clearA(H:List AObj)(t:TypeId)(x:AV):Option ORes:=clearT P H x (elemT P t)
def makeK(p:Nat)(n c:Int):Option Nat→Option Nat→Option (List AV)→Option ORes
 | some s,some b,some z=>if 0≤n∧n≤c∧room c.toNat b then
   (if n=c then some (.val (.arr p 0 n.toNat s) [(p,.cells (List.replicate n.toNat z).flatten)])
    else if n=0 then some (.val (.grow p 0 []) [(p,.grow 0 s)])else none)else none
 | _,_,_=>none
def fulN:AV→AV
 | .full []=>.nils
 | c=>c
def fulL:List AV→List AV
 | []=>[]
 | c::cs=>fulN c::fulL cs
def zeroM:Option (List AV)→Option (List AV)
 | some z=>some (fulL z)
 | none=>none
def zeroN(t:TypeId):Bool→Option (List AV)
 | false=>zeroOf P t
 | true=>zeroM (zeroOf P t)
def makeT(p:Nat):AV→AV→Option TypeId→Option ORes
 | .d (.int _ n),.d (.int _ c),some e=>makeK p n c (szZ P e) (bytesOf P e) (zeroN P e (rgT e))
 | _,_,_=>none
def makeSliceA(p:Nat)(t:TypeId)(n c:AV):Option ORes:=makeT P p n c (elemT P t)
def makeRG:Option ORes→Option (List (List AV))→Option ORes
 | some (.val (.arr _ off len esz) [(_,.cells cs)]),some bs=>if refsAL cs=[]then some (.val (.rs bs.length off len esz) [(0,.reg (bs++[cs]))])else none
 | _,_=>none
def makeRA(p:Nat)(t:TypeId)(H:List AObj)(n c:AV):Bool→Option ORes
 | false=>makeSliceA P p t n c
 | true=>makeRG (makeSliceA P p t n c) (regC (H.getD 0 .no))
end

def putM(r:Nat):Option (List (AV×AV))→Option ORes
 | some es=>some (.val (.tuple []) [(r,.mapo es)])
 | none=>none
def updE(K:TK)(r:Nat)(k v:AV):Option (List (AV×AV))→Option ORes
 | some es=>putM r (setM K k v es)
 | none=>none
def delE(K:TK)(r:Nat)(k:AV):Option (List (AV×AV))→Option ORes
 | some es=>putM r (delM K k es)
 | none=>none
section
variable (P:Program)
def updT(H:List AObj)(k v:AV):AV→Option (TypeId×TypeId)→Option ORes
 | .mp r,some (kt,_)=>updE (kindT P kt) r k v (entsO (H.getD r .no))
 | _,_=>none
def updA(t:TypeId)(H:List AObj)(m k v:AV):Option ORes:=updT P H k v m (mapT P t)
def delT(H:List AObj)(k:AV):AV→Option (TypeId×TypeId)→Option ORes
 | .mp r,some (kt,_)=>delE (kindT P kt) r k (entsO (H.getD r .no))
 | _,_=>none
def delA(t:TypeId)(H:List AObj)(m k:AV):Option ORes:=delT P H k m (mapT P t)
def assertK(ok:Bool)(t:TypeId)(v:AV)(s:TypeId):Option AV:=if t=s then some (if ok then .tuple [v,.d (.bool true)]else v)else none
def assertT(ok:Bool)(s:TypeId):AV→TK→Option AV
 | _,.ifc=>none
 | _,.bad=>none
 | .iface t v,_=>assertK ok t v s
 | _,_=>none
def assertA(x:AV)(s:TypeId)(ok:Bool):Option AV:=assertT ok s x (kindT P s)
end

def refsL(f:AV→List Nat):List AV→List Nat
 | []=>[]
 | c::cs=>f c++refsL f cs
theorem renL_map(f:Nat→Nat):∀ cs,renL f cs=cs.map (ren f)
 | []=>rfl
 | c::cs=>by simp only[renL,List.map_cons];rw[renL_map f cs]
theorem refsAL_map:∀ cs,refsAL cs=(cs.map refs).flatten
 | []=>rfl
 | c::cs=>by simp only[refsAL,List.map_cons,List.flatten_cons];rw[refsAL_map cs]
end Go.Ab
/- The abstract evaluator,second part: operations,regions,code,calls. Conditions: none. -/
namespace Go.Ab
open Go

def arrD(off n:Nat):Option (List AV)→Option (List Dt)
 | some cs=>if off+n≤cs.length then dataAs ((cs.drop off).take n)else none
 | none=>none
def arrV(len esz:Nat):Option (List Dt)→Option AV
 | some xs=>some (.d (.sl (chunk esz len xs)))
 | none=>none
def fullG:Bool→List (List Dt)→Option AV
 | true,[]=>some (.full [])
 | true,r::rows=>some (.d (.sl (r::rows)))
 | false,rows=>some (.d (.sl rows))
def give0(k:Bool)(H:List AObj):AV→Option AV
 | .full rows=>fullG k rows
 | .grow _ _ rows=>some (.d (.sl rows))
 | .arr r off len esz=>arrV len esz (arrD off (len*esz) (cellsOf (H.getD r .no)))
 | .agg _=>none
 | .tuple _=>none
 | v=>some v
def giveL(f:AV→Option AV):List AV→Option (List AV)
 | []=>some []
 | c::cs=>match f c,giveL f cs with
  | some x,some xs=>some (x::xs)
  | _,_=>none
def tupO:Option (List AV)→Option AV
 | some cs=>some (.tuple cs)
 | none=>none
def give1(k:Bool)(H:List AObj):AV→Option AV
 | .agg cs=>aggO (giveL (give0 k H) cs)
 | v=>give0 k H v
def give2(H:List AObj):AV→Option AV
 | .tuple cs=>tupO (giveL (give1 false H) cs)
 | v=>give1 false H v
def arrs0:AV→List Nat
 | .arr r _ _ _=>[r]
 | _=>[]
def arrs1:AV→List Nat
 | .agg cs=>refsL arrs0 cs
 | v=>arrs0 v
def arrs2:AV→List Nat
 | .tuple cs=>refsL arrs1 cs
 | v=>arrs1 v
def setO(H:List AObj)(r:Nat)(o:AObj):List AObj:=if r<H.length then H.set r o else H++List.replicate (r-H.length) .no++[o]
def setOs(H:List AObj):List (Nat×AObj)→List AObj
 | []=>H
 | (r,o)::ws=>setOs (setO H r o) ws
def noes:List Nat→List (Nat×AObj)
 | []=>[]
 | r::rs=>(r,.no)::noes rs

def refsM:List (AV×AV)→List Nat
 | []=>[]
 | (k,v)::es=>refs k++refs v++refsM es
def renM(f:Nat→Nat):List (AV×AV)→List (AV×AV)
 | []=>[]
 | (k,v)::es=>(ren f k,ren f v)::renM f es
def refsO:AObj→List Nat
 | .cells cs=>(cs.map refs).flatten
 | .mapo es=>refsM es
 | .grow _ _=>[]
 | .stk _ _ cs=>(cs.map refs).flatten
 | .bld _ _=>[]
 | .reg _=>[]
 | .log _ _ _=>[]
 | .gen _=>[]
 | .no=>[]
def renO(f:Nat→Nat):AObj→AObj
 | .cells cs=>.cells (cs.map (ren f))
 | .mapo es=>.mapo (renM f es)
 | .grow e s=>.grow e s
 | .stk e s cs=>.stk e s (cs.map (ren f))
 | .bld t s=>.bld t s
 | .reg bs=>.reg bs
 | .log s n r=>.log s n r
 | .gen a=>.gen a
 | .no=>.no
def reach(H:List AObj):Nat→List Nat→List Nat→List Nat
 | 0,_,acc=>acc
 | _+1,[],acc=>acc
 | n+1,r::todo,acc=>if r∈acc then reach H n todo acc else reach H n (refsO (H.getD r .no)++todo) (acc++[r])
def subsetB(xs ys:List Nat):Bool:=xs.all fun x=>decide (x∈ys)
def isObj:AObj→Bool
 | .no=>false
 | .cells _=>true
 | .mapo _=>true
 | .grow _ _=>true
 | .stk _ _ _=>true
 | .bld _ _=>true
 | .reg _=>true
 | .log _ _ _=>true
 | .gen _=>true
def closed(H:List AObj)(ρ:List Nat)(as:List AV):Bool:=
 subsetB (as.map refs).flatten ρ&&subsetB (ρ.map fun r=>refsO (H.getD r .no)).flatten ρ&&ρ.all (fun r=>isObj (H.getD r .no))&&decide ρ.Nodup
def hasRpM:List (AV×AV)→Bool
 | []=>false
 | (k,v)::es=>hasRp k||hasRp v||hasRpM es
def hasRpO:AObj→Bool
 | .cells cs=>hasRpL cs
 | .mapo es=>hasRpM es
 | .grow _ _=>false
 | .stk _ _ cs=>hasRpL cs
 | .bld _ _=>false
 | .reg _=>true
 | .log _ _ _=>true
 | .gen _=>true
 | .no=>false
def hasRpH:List AObj→Bool
 | []=>false
 | o::H=>hasRpO o||hasRpH H
def rgRoot:Bool→List Nat
 | true=>[0]
 | false=>[]
def isReg:Option (List (List AV))→Bool
 | some _=>true
 | none=>false
def rgIn(H:List AObj)(ρ:List Nat)(as:List AV):Bool→Bool
 | true=>isReg (regC (H.getD 0 .no))&&decide (ρ.take 1=[0])
 | false=>!hasRpL as&&!hasRpH (ρ.map fun r=>H.getD r .no)
def rgHas(H:List AObj):Bool:=isReg (regC (H.getD 0 .no))
def rgH(f:Nat)(H:List AObj):Bool:=rgF f&&rgHas H
def rgAway:List AObj→Bool
 | []=>true
 | o::_=>isObj o
def rgSure(H:List AObj):Bool→Bool
 | true=>rgHas H||rgAway H
 | false=>true
def rgOk1(f:Nat)(H:List AObj)(ρ:List Nat)(as:List AV):Bool→Bool
 | true=>rgIn H ρ as (rgH f H)
 | false=>true
def rgOk(f:Nat)(H:List AObj)(ρ:List Nat)(as:List AV):Bool:=rgSure H (rgF f)&&rgOk1 f H ρ as hasReg
def rgOut(v:AV)(H:List AObj):Bool→Bool
 | true=>true
 | false=>!hasRp v&&!hasRpH H
def rgRes1(b:Bool)(v:AV)(H:List AObj):Bool→Bool
 | true=>rgOut v H b
 | false=>true
def rgRes(b:Bool)(v:AV)(H:List AObj):Bool:=rgRes1 b v H hasReg
def back(ρ:List Nat)(n i:Nat):Nat:=if i<ρ.length then ρ.getD i 0 else n+(i-ρ.length)
def backWs(ρ:List Nat)(n:Nat):Nat→List AObj→List (Nat×AObj)
 | _,[]=>[]
 | i,o::os=>(back ρ n i,renO (back ρ n) o)::backWs ρ n (i+1) os
def callC(ρ:List Nat)(n:Nat)(pre:List (Nat×AObj)):Option (Out×List AObj)→Bool→Option ORes
 | some (.ret v,H'),true=>some (.val (ren (back ρ n) v) (pre++backWs ρ n 0 H'))
 | some (.pan v,H'),true=>some (.pan (ren (back ρ n) v) (pre++backWs ρ n 0 H'))
 | _,_=>none
def outB(b:Bool):Option (Out×List AObj)→Bool
 | some (.ret v,H')=>rgRes b v H'
 | some (.pan v,H')=>rgRes b v H'
 | none=>false
def callK(b:Bool)(ρ:List Nat)(n:Nat)(pre:List (Nat×AObj))(r:Option (Out×List AObj)):Option ORes:=callC ρ n pre r (outB b r)
def callH(Γ:Sem')(f:Nat)(as:List AV)(H:List AObj)(pre:List (Nat×AObj))(ρ:List Nat):Bool→Option ORes
 | true=>callK (rgH f H) ρ H.length pre (Γ f (as.map (ren fun r=>ρ.idxOf r)) (ρ.map fun r=>renO (fun r=>ρ.idxOf r) (H.getD r .no)))
 | false=>none
def callR(Γ:Sem')(f:Nat)(as:List AV)(H:List AObj)(pre:List (Nat×AObj))(ρ:List Nat):Option ORes:=callH Γ f as H pre ρ (closed H ρ as&&rgOk f H ρ as)
def callG(Γ:Sem')(f:Nat)(H:List AObj)(pre:List (Nat×AObj)):Option (List AV)→Option ORes
 | some as=>callR Γ f as (setOs H pre) pre (reach (setOs H pre) (2*H.length+8) (rgRoot (rgH f (setOs H pre))++(as.map refs).flatten) [])
 | none=>none
def evCall(Γ:Sem')(f:Nat)(as:List AV)(H:List AObj):Option ORes:=callG Γ f H (noes (refsL arrs1 as)) (giveL (give1 keepNil H) as)

def nilConst:Operand→Bool
 | .const (.slice none 0 0)=>true
 | _=>false
def creates(o:Oper):Nat:=
 match o.op with
 | .alloc _=>1
 | .box _ _=>1
 | .makeSlice _ _ _=>1
 | .makeMap _ r=>match r with
  | none=>1
  | some _=>0
 | .buildSlice _ n _=>match n with
  | 0=>1
  | _+1=>0
 | .assign x=>if nilConst x then 1 else 0
 | .call c=>match c.callee with
  | .builtin .append=>1
  | _=>0
 | _=>0

def argO(st:St):Option Operand→Option AV
 | some x=>some (evArg st x)
 | none=>none
def partsA(st:St):List (Nat×Operand)→List (Nat×AV)
 | []=>[]
 | (i,x)::ps=>(i,evArg st x)::partsA st ps
def argsA(st:St):List Operand→List AV
 | []=>[]
 | x::xs=>evArg st x::argsA st xs
section
variable (P:Program)
def emptyK(p:Nat):Option Nat→Option ORes
 | some s=>some (.val (.grow p 0 []) [(p,.grow 0 s)])
 | none=>none
def emptyT(p:Nat):Option TypeId→Option ORes
 | some e=>emptyK p (szZ P e)
 | none=>none
def emptyA(p:Nat)(t:TypeId):Option ORes:=emptyT P p (elemT P t)
def nilStkK(p:Nat):Option Nat→Option ORes
 | some s=>some (.val (.stk p 0 0) [(p,.stk 0 s [])])
 | none=>none
def nilStkT(p:Nat):Option TypeId→Option ORes
 | some e=>nilStkK p (szZ P e)
 | none=>none
def nilA(p:Nat)(t:TypeId):Bool→Option ORes
 | true=>nilStkT P p (elemT P t)
 | false=>emptyA P p t
def assignA(p:Nat)(t:TypeId)(v:AV):Bool→Option ORes
 | false=>some (.val v [])
 | true=>nilA P p t (stkT t)
def boxI:Option TypeInfo→Bool
 | some i=>match i.desc with
  | .named n _=>n=="strings.Builder"
  | _=>false
 | none=>false
def boxT(P:Program)(t:TypeId):Bool:=boxI (P.info? t)
def newB(p:Nat)(t:TypeId):List AV→Option ORes
 | [.d .nilp,.full []]=>if(bufE P t).isSome=true then some (.val (.bp p) [(p,.bld t [])])else none
 | _=>none
def newT(p:Nat)(t:TypeId):Bool→Option (List AV)→Option ORes
 | true,some cs=>newB P p t cs
 | false,some cs=>some (.val (.ptr p 0) [(p,.cells cs)])
 | _,none=>none
def newA(p:Nat):Option (List AV)→Option ORes
 | some cs=>some (.val (.ptr p 0) [(p,.cells cs)])
 | none=>none
def fullK:Option (List (List Dt))→Option ORes
 | some rows=>some (.val (.full rows) [])
 | none=>none
def lenB:List TypeId→List AV→Option ORes
 | t::_,x::_=>vO (lenA P t x)
 | _,_=>none
def byteRows(s:List UInt8):List (List Dt):=s.map fun b=>[.int .u8 (b.toNat:Int)]
def appS(p:Nat)(H:List AObj)(t:TypeId):TK→AV→AV→Option ORes
 | .str,.grow r e rows,.d (.str l)=>appendA P p t H (.grow r e rows) (.d (.sl (byteRows l)))
 | .str,.full rows,.d (.str l)=>appendA P p t H (.full rows) (.d (.sl (byteRows l)))
 | .str,.stk r e n,.d (.str l)=>appendA P p t H (.stk r e n) (.d (.sl (byteRows l)))
 | _,_,_=>none
def appB(p:Nat)(H:List AObj):List TypeId→List AV→Option ORes
 | [t,t'],[s,x]=>if t=t' then appendA P p t H s x else appS P p H t (kindT P t') s x
 | _,_=>none
def delB(H:List AObj):List TypeId→List AV→Option ORes
 | t::_,m::k::_=>delA P t H m k
 | _,_=>none
def clrB(H:List AObj):List TypeId→List AV→Option ORes
 | [t],[x]=>clearA P H t x
 | _,_=>none
def cpyRows(s:Nat)(rows:List (List Dt)):Option (Nat×List AV):=if fits s rows then some (rows.length,rows.flatten.map .d)else none
def cpyCells(n s:Nat):Option (List AV)→Option (Nat×List AV)
 | some cs=>if n*s≤cs.length then some (n,cs.take (n*s))else none
 | none=>none
def cpySrc(H:List AObj)(s:Nat):AV→Option (Nat×List AV)
 | .d (.sl rows)=>cpyRows s rows
 | .full rows=>cpyRows s rows
 | .grow _ _ rows=>cpyRows s rows
 | .stk r e n=>cpyCells n s (stkOf e (H.getD r .no))
 | .avl n sz cs=>if sz=s then some (n,cs)else none
 | _=>none
def cpyW(r off len s:Nat):Option (List AV)→Option (Nat×List AV)→Option ORes
 | some cs,some (n,new)=>if n≤len∧off+n*s≤cs.length then some (.val (.d (.int .i64 n)) [(r,.cells (splice cs off new))])else none
 | _,_=>none
def cpyD(H:List AObj)(s:Nat)(x:AV):AV→Option ORes
 | .arr r off len esz=>if esz=s then cpyW r off len s (cellsOf (H.getD r .no)) (cpySrc H s x)else none
 | _=>none
def cpyK(H:List AObj)(d x:AV):Option Nat→Option ORes
 | some s=>cpyD H s x d
 | none=>none
def cpyT(H:List AObj)(d x:AV):Option TypeId→Option ORes
 | some e=>cpyK H d x (szZ P e)
 | none=>none
def cpyB(H:List AObj):List TypeId→List AV→Option ORes
 | [t,t'],[d,x]=>if t=t' then cpyT P H d x (elemT P t)else none
 | _,_=>none
def makeM(p:Nat):Option ORes:=some (.val (.mp p) [(p,.mapo [])])
def builtinA(p:Nat)(H:List AObj)(ts:List TypeId)(as:List AV):Builtin→Option ORes
 | .delete=>delB P H ts as
 | .len=>lenB P ts as
 | .append=>appB P p H ts as
 | .max=>vO (maxA as)
 | .min=>vO (minA as)
 | .clear=>clrB P H ts as
 | .copy=>cpyB P H ts as
 | _=>none
def rgYld(as:List AV):Bool→Bool
 | true=>!hasRpL as
 | false=>true
def yieldK(r:Nat)(pre:List (Nat×AObj))(as:List AV):AObj→Option ORes
 | .log stop n (x::rest)=>if eqVL as x=true∧(stop=0∨n<stop)∧refsAL as=[]∧rgYld as hasReg=true then some (.val (.d (.bool (decide (n+1≠stop)))) (pre++[(r,.log stop (n+1) rest)]))else none
 | .gen acc=>some (.val (.d (.bool true)) (pre++[(r,.gen (acc++[as]))]))
 | _=>none
def yieldG(r:Nat)(pre:List (Nat×AObj))(o:AObj):Option (List AV)→Option ORes
 | some as=>yieldK r pre as o
 | none=>none
def yieldA(as:List AV)(H:List AObj)(r:Nat):Option ORes:=yieldG r (noes (refsL arrs1 as)) (H.getD r .no) (giveL (give1 false H) as)
def callV(Γ:Sem')(as:List AV)(H:List AObj):AV→Option ORes
 | .fn f first caps=>evCall Γ f (first++as++caps) H
 | .yld r=>yieldA as H r
 | _=>none
def panA:AV→Option ORes
 | .iface t v=>some (.pan (.iface t v) [])
 | _=>none
def ifaceK(t:TypeId)(v:AV):TK→Option AV
 | .ifc=>none
 | .bad=>none
 | _=>some (.iface t v)
def ifaceA(t:TypeId)(v:AV):Option AV:=ifaceK t v (kindT P t)
def avlK(n s:Nat):Option (List AV)→Option ORes
 | some cs=>some (.val (.avl n s cs) [])
 | none=>none
def avlS(n:Nat)(parts:List (Nat×AV)):Option Nat→Option (List AV)→Option ORes
 | some s,some z=>if n*s≤16777216 then avlK n s (fillA (fun i=>some (i*s,s)) ((List.replicate n z).flatten) parts)else none
 | _,_=>none
def avlT(n:Nat)(parts:List (Nat×AV)):Option TypeId→Option ORes
 | some e=>avlS n parts (szZ P e) (zeroOf P e)
 | none=>none
def bsK(t:TypeId)(n:Nat)(parts:List (Nat×AV)):Option (List (List Dt))→Option ORes
 | some rows=>some (.val (.full rows) [])
 | none=>avlT P n parts (elemT P t)
def bsA(p:Nat)(st:St)(t:TypeId):Nat→List (Nat×Operand)→Option ORes
 | 0,[]=>emptyA P p t
 | 0,_::_=>none
 | n+1,ps=>bsK P t (n+1) (partsA st ps) (buildSliceA P t (n+1) (partsA st ps))
def opV(Γ:Sem')(p:Nat)(st:St)(ty:TypeId):Op→Option ORes
 | .move x=>some (.val (evArg st x) [])
 | .assign x=>assignA P p ty (evArg st x) (nilConst x)
 | .pick c a b=>vO (pickA (evArg st a) (evArg st b) (evArg st c))
 | .alloc t=>newT P p t (boxT P t) (zeroOf P t)
 | .box _ x=>newA p (cellsA (evArg st x))
 | .build t ps=>vO (buildA P t (partsA st ps.toList))
 | .buildSlice t n ps=>bsA P p st t n ps.toList
 | .load t x=>vO (loadA P t st.H (evArg st x))
 | .store t x v=>storeA P t st.H (evArg st v) (evArg st x)
 | .nilCheck x=>vO (nilCheckA (evArg st x))
 | .binOp op t x y _=>vO (binN P op t (evArg st x) (evArg st y) (rgT t&&nilConst y))
 | .unOp op _ x=>vO (unA op (evArg st x))
 | .convert s d x=>vO (convA P s d (evArg st x))
 | .makeInterface t x=>vO (ifaceA P t (evArg st x))
 | .makeFunc (.func f) first caps=>some (.val (.fn f (argsA st first.toList) (argsA st caps.toList)) [])
 | .makeSlice t l c=>makeRA P p t st.H (evArg st l) (evArg st c) (rgT t)
 | .slice t x lo hi mx=>match mx with
  | none=>vO (sliceA P t (evArg st x) (argO st lo) (argO st hi))
  | some _=>none
 | .fieldAddr s x f=>vO (fieldAddrA P s f (evArg st x))
 | .field s x f=>vO (fieldA P s f (evArg st x))
 | .indexAddr t x i=>vO (indexAddrA P t (evArg st x) (evArg st i))
 | .index t x i=>vO (indexA P t (evArg st x) (evArg st i))
 | .extract x i=>vO (extractA i (evArg st x))
 | .call c=>match c.callee with
  | .builtin b=>builtinA P p st.H c.argTypes.toList (argsA st c.args.toList) b
  | .value f=>callV Γ (argsA st c.args.toList) st.H (evArg st f)
  | .invoke _ _=>none
 | .panic x=>panA (evArg st x)
 | .makeMap _ r=>match r with
  | none=>makeM p
  | some _=>none
 | .lookup t m k ok=>vO (lookA P t st.H (evArg st m) (evArg st k) ok)
 | .mapUpdate t m k v=>updA P t st.H (evArg st m) (evArg st k) (evArg st v)
 | .insert t m k v=>updA P t st.H (evArg st m) (evArg st k) (evArg st v)
 | .typeAssert x _ s ok=>vO (assertA P (evArg st x) s ok)
 | _=>none
end

def sameB:Bool→Bool→Bool
 | true,true=>true
 | false,false=>true
 | true,false=>false
 | false,true=>false
def gK(want:Bool):AV→Option Bool
 | .d (.bool b)=>some (sameB b want)
 | .tuple []=>some false
 | _=>none
def gD(want:Bool)(st:St):Option Nat→Option Bool
 | some d=>gK want (st.get d)
 | none=>none
def guardA(ops:Array Oper)(st:St):Option (Nat×Bool)→Option Bool
 | none=>some true
 | some (j,want)=>gD want st ((ops[j]?).bind (·.dst))

inductive RS where
 | run (st:St)
 | pan (v:AV) (st:St)
 | stuck
def St.setH(st:St)(ws:List (Nat×AObj)):St:=⟨st.vs,st.ts,setOs st.H ws⟩
def resK(dst:Option Nat)(st:St):Option ORes→RS
 | some (.val v ws)=>.run ((st.setH ws).putO dst v)
 | some (.pan v ws)=>.pan v (st.setH ws)
 | none=>.stuck
section
variable (P:Program)(Γ:Sem')
def opK(p:Nat)(o:Oper)(st:St):Option Bool→RS
 | some true=>resK o.dst st (opV P Γ p st o.type o.op)
 | some false=>.run (st.putO o.dst (.tuple []))
 | none=>.stuck
def stepRS(ops:Array Oper)(p:Nat)(o:Oper):RS→RS
 | .run st=>opK P Γ p o st (guardA ops st o.guard)
 | .pan v st=>.pan v st
 | .stuck=>.stuck
def evOps(ops:Array Oper):List Oper→Nat→RS→RS
 | [],_,r=>r
 | o::os,p,r=>evOps ops os (p+creates o) (stepRS P Γ ops p o r)
def countC:List Oper→Nat
 | []=>0
 | o::os=>creates o+countC os
def St.ready(st:St)(n:Nat):St:=⟨st.vs,[],st.H++List.replicate n .no⟩
end

inductive Ex where
 | exit (id:Nat)
 | ret
 | pan (v:AV)
inductive RC where
 | go (st:St)
 | ex (e:Ex) (st:St)
 | stuck
def St.clear(st:St):St:=⟨st.vs,[],st.H⟩
def regK:RS→RC
 | .run st=>.go st
 | .pan v st=>.ex (.pan v) st
 | .stuck=>.stuck
def condK(fa fb:RC→RC)(st:St):AV→RC
 | .d (.bool true)=>fa (.go st)
 | .d (.bool false)=>fb (.go st)
 | _=>.stuck
def blockK(id:Nat):RC→RC
 | .ex (.exit k) st=>if k=id then .go st else .ex (.exit k) st
 | .ex .ret st=>.ex .ret st
 | .ex (.pan v) st=>.ex (.pan v) st
 | .go st=>.go st
 | .stuck=>.stuck

def adStk(H:List AObj)(r o s:Nat)(cs:List AV):List (List Dt)→List AObj
 | []=>H.set r (.cells (cs.set o (.stk H.length 0 0)))++[.stk 0 s []]
 | _::_=>H
def stkD(e n:Nat):AObj→Option (List (List Dt))
 | .stk e' s cs=>if e'=e∧n*s≤cs.length then chunkO s n (some (cs.take (n*s)))else none
 | _=>none
def stkFrz(H:List AObj)(r o:Nat)(cs:List AV)(r':Nat):Option (List (List Dt))→List AObj
 | some rows=>(H.set r' .no).set r (.cells (cs.set o (.d (.sl rows))))
 | none=>H
def adCell1(H:List AObj)(r o s:Nat)(cs:List AV):AV→List AObj
 | .full rows=>if s=3000 then H.set r (.cells (cs.set o (.d (.sl rows))))else if s<1000 then(if fits s rows then H.set r (.cells (cs.set o (.grow H.length 0 rows)))++[.grow 0 s]else H)else adStk H r o (s-1000) cs rows
 | .grow _ _ rows=>if s=3000 then H.set r (.cells (cs.set o (.d (.sl rows))))else H
 | .arr r' off len esz=>if s=2000 then H.set r (.cells (cs.set o (.own r' off len esz)))else H
 | .stk r' e n=>if s=3000 then stkFrz H r o cs r' (stkD e n (H.getD r' .no))else H
 | _=>H
def adCell(H:List AObj)(r o s:Nat)(cs:List AV):Option AV→List AObj
 | some v=>adCell1 H r o s cs v
 | none=>H
def adObj(H:List AObj)(r o s:Nat):AObj→List AObj
 | .cells cs=>adCell H r o s cs cs[o]?
 | _=>H
def adStkV(st:St)(k s:Nat):List (List Dt)→St
 | []=>(⟨st.vs,st.ts,st.H++[.stk 0 s []]⟩:St).put k (.stk st.H.length 0 0)
 | _::_=>st
def adVal(st:St)(k o s:Nat):AV→St
 | .ptr r off=>⟨st.vs,st.ts,adObj st.H r (off+o) s (st.H.getD r .no)⟩
 | .full rows=>if s<1000 then(if fits s rows then(⟨st.vs,st.ts,st.H++[.grow 0 s]⟩:St).put k (.grow st.H.length 0 rows)else st)else adStkV st k (s-1000) rows
 | .grow _ _ rows=>if s=3000 then st.put k (.d (.sl rows))else st
 | _=>st
def adS:List (Nat×Nat×Nat)→St→St
 | [],st=>st
 | (k,o,s)::l,st=>adS l (adVal st k o s (st.get k))
def adR(l:List (Nat×Nat×Nat)):RS→RS
 | .run st=>.run (adS l st)
 | .pan v st=>.pan v st
 | .stuck=>.stuck

def forget(fs:List Nat):List (Nat×AV)→List (Nat×AV)
 | []=>[]
 | (k,v)::l=>(k,if k∈fs then .any else v)::forget fs l
def refsOk(n:Nat)(xs:List Nat):Bool:=xs.all fun r=>decide (r<n)
def refsV:List (Nat×AV)→List Nat
 | []=>[]
 | (_,v)::l=>refs v++refsV l
def refsH:List AObj→List Nat
 | []=>[]
 | o::l=>refsO o++refsH l
def wkK(st:St):Bool→Option St
 | true=>some st
 | false=>none
def hasRpV:List (Nat×AV)→Bool
 | []=>false
 | (_,v)::vs=>hasRp v||hasRpV vs
def rgK(n:Nat)(b:Bool):Bool→Bool
 | true=>decide (0<n)||!b
 | false=>true
def wk'(n:Nat)(vs:List (Nat×AV))(H:List AObj):Option St:=wkK ⟨vs,[],H⟩ (refsOk n (refsV vs)&&refsOk n (refsH H)&&rgK n (hasRpV vs) hasReg)
def wk(n:Nat)(fs:List Nat)(st:St):Option St:=wk' n (forget fs st.vs) (st.H.take n)
def loopK(next:St→RC):RC→RC
 | .go st=>next st
 | .ex e st=>.ex e st
 | .stuck=>.stuck
def wkR(f:RC→RC):Option St→RC
 | some st=>f (.go st)
 | none=>.stuck
def loopN(f:RC→RC)(h:St→Option St):Nat→St→RC
 | 0,_=>.stuck
 | n+1,st=>loopK (loopN f h n) (wkR f (h st))
open Classical in
noncomputable def loopA(f:RC→RC)(h:St→Option St)(st:St):RC:=if x:∃ n,loopN f h n st≠.stuck then loopN f h x.choose st else .stuck

structure Ht where
 ms:List Nat
 qs:List Nat
 rc:Bool
 ad:List (Nat×Nat×Nat)
inductive Ev where
 | ld (t:TypeId) (x:AV)
 | hp (H H':List AObj)
 | off
inductive DS where
 | run (st:St) (hs:List (Nat×Ev))
 | pan (st:St) (hs:List (Nat×Ev)) (dead:List Nat) (v:AV) (H:List AObj)
 | stuck
def bindsG:Ground→Bool
 | .data=>true
 | .chain=>true
 | .guard=>true
 | .phase=>true
 | .textOnly _=>false
 | .gcOnly _=>false
def memN(k:Nat):List Nat→Bool
 | []=>false
 | j::l=>if k=j then true else memN k l
def deadL(dead:List Nat):List Edge→Bool
 | []=>false
 | e::es=>(bindsG e.ground&&memN e.on dead)||deadL dead es
def panOp:Op→Bool
 | .panic _=>true
 | .call c=>match c.callee with
  | .value _=>true
  | _=>false
 | _=>false
def keepTo:Nat→List AObj→List AObj
 | _,[]=>[]
 | 0,_::l=>.no::keepTo 0 l
 | n+1,o::l=>o::keepTo n l
def dstK:Option Nat→List Nat→List Nat
 | some d,l=>d::l
 | none,l=>l
def dstL:List Oper→List Nat
 | []=>[]
 | o::os=>dstK o.dst (dstL os)
def headH:List Ht→Ht
 | []=>⟨[],[],false,[]⟩
 | h::_=>h
def lookH:List (Nat×List Ht)→Nat→Option (List Ht)
 | [],_=>none
 | (j,h)::l,k=>if j=k then some h else lookH l k
def adH:Option (List Ht)→List (Nat×Nat×Nat)
 | some hts=>(headH hts).ad
 | none=>[]
def tailH:List Ht→List Ht
 | []=>[]
 | _::hs=>hs
def maskH(n0:Nat):List Nat→List AObj→List AObj
 | [],H=>H
 | k::ks,H=>maskH n0 ks (H.set (n0+k) .no)
def maskS(n0:Nat)(ms:List Nat)(st:St):St:=⟨st.vs,st.ts,maskH n0 ms st.H⟩
def getEv(k:Nat):List (Nat×Ev)→Option Ev
 | []=>none
 | (j,e)::l=>if j=k then some e else getEv k l
def keepE(i:Nat)(e:Ev)(hs:List (Nat×Ev)):Bool→List (Nat×Ev)
 | true=>(i,e)::hs
 | false=>hs
def evOf(st:St)(H':List AObj):Op→Ev
 | .load t x=>.ld t (evArg st x)
 | _=>.hp st.H H'
section
variable (P:Program)
def heldL1(t:TypeId)(x:AV):Option Ev→Prop
 | some (.hp H H')=>loadA P t H x=loadA P t H' x
 | some .off=>True
 | _=>False
def heldL(t:TypeId)(x:AV)(hs:List (Nat×Ev)):List Nat→Prop
 | []=>True
 | k::ks=>heldL1 P t x (getEv k hs)∧heldL t x hs ks
def heldH1(H H':List AObj):Option Ev→Prop
 | some (.ld t x)=>loadA P t H x=loadA P t H' x
 | some .off=>True
 | _=>False
def heldH(H H':List AObj)(hs:List (Nat×Ev)):List Nat→Prop
 | []=>True
 | k::ks=>heldH1 P H H' (getEv k hs)∧heldH H H' hs ks
def held(hs:List (Nat×Ev))(qs:List Nat):Ev→Prop
 | .ld t x=>heldL P t x hs qs
 | .hp H H'=>heldH P H H' hs qs
 | .off=>True
variable (Γ:Sem')
open Classical in
noncomputable def dHeld(i:Nat)(h:Ht)(hs:List (Nat×Ev))(e:Ev)(st:St):DS:=if held P hs h.qs e then .run st (keepE i e hs h.rc)else .stuck
noncomputable def dPan(i:Nat)(h:Ht)(hs:List (Nat×Ev))(o:Oper)(st:St)(v:AV)(ws:List (Nat×AObj)):Bool→DS
 | true=>.pan (st.putO o.dst (.tuple [])) (keepE i .off hs h.rc) [i] v (setOs st.H ws)
 | false=>.stuck
noncomputable def dRes(i:Nat)(h:Ht)(hs:List (Nat×Ev))(o:Oper)(st:St):Option ORes→DS
 | some (.val v ws)=>dHeld P i h hs (evOf st (setOs st.H ws) o.op) ((st.setH ws).putO o.dst v)
 | some (.pan v ws)=>dPan i h hs o st v ws (panOp o.op)
 | none=>.stuck
noncomputable def dOp(n0 p i:Nat)(h:Ht)(hs:List (Nat×Ev))(o:Oper)(st:St):Option Bool→DS
 | some true=>dRes P i h hs o st (opV P Γ p (maskS n0 h.ms st) o.type o.op)
 | some false=>.run (st.putO o.dst (.tuple [])) (keepE i .off hs h.rc)
 | none=>.stuck
def panK(dead:List Nat)(v:AV)(H:List AObj):DS→DS
 | .run st hs=>.pan st hs dead v H
 | .pan _ _ _ _ _=>.stuck
 | .stuck=>.stuck
noncomputable def stepP(ops:Array Oper)(n0 p i:Nat)(h:Ht)(o:Oper)(st:St)(hs:List (Nat×Ev))(dead:List Nat)(v:AV)(H:List AObj):Bool→DS
 | true=>.pan (st.putO o.dst (.tuple [])) (keepE i .off hs h.rc) (i::dead) v H
 | false=>panK dead v H (dOp P Γ n0 p i h hs o st (guardA ops st o.guard))
noncomputable def stepD(ops:Array Oper)(n0 p i:Nat)(h:Ht)(o:Oper):DS→DS
 | .run st hs=>dOp P Γ n0 p i h hs o st (guardA ops st o.guard)
 | .pan st hs dead v H=>stepP P Γ ops n0 p i h o st hs dead v H (deadL dead o.after.toList)
 | .stuck=>.stuck
noncomputable def evD(ops:Array Oper)(n0:Nat):List Oper→List Ht→Nat→Nat→DS→DS
 | [],_,_,_,r=>r
 | o::os,hts,i,p,r=>evD ops n0 os (tailH hts) (i+1) (p+creates o) (stepD P Γ ops n0 p i (headH hts) o r)
def endB(n:Nat):Bool→Bool
 | true=>decide (0<n)
 | false=>true
def endPan(ops:Array Oper)(st0:St)(v:AV)(H:List AObj):Bool→RS
 | true=>.pan v ⟨forget (dstL ops.toList) st0.vs,[],keepTo st0.H.length H⟩
 | false=>.stuck
def endD(ops:Array Oper)(st0:St):DS→RS
 | .run st _=>.run st
 | .pan _ _ _ v H=>endPan ops st0 v H (endB st0.H.length hasReg)
 | .stuck=>.stuck
def msSplit:List Nat→Bool
 | []=>false
 | m::_=>decide (m=1000001)
def isSplit:List Ht→Bool
 | []=>false
 | h::_=>msSplit h.ms
def refOf:AV→Option Nat
 | .ptr r _=>some r
 | .sp r _ _=>some r
 | .rp _ _=>some 0
 | _=>none
def neR:Option Nat→Option Nat→Bool
 | some a,some b=>decide (a≠b)
 | _,_=>false
def neSt(st:St):Op→Op→Bool
 | .store _ x _,.store _ y _=>neR (refOf (evArg st x)) (refOf (evArg st y))
 | _,_=>false
def okRun:RS→RS
 | .run st=>.run st
 | .pan _ _=>.stuck
 | .stuck=>.stuck
def tailB(ops:Array Oper)(o7 o8:Oper)(st:St):Bool→RS
 | true=>okRun (stepRS P Γ ops 0 o8 (okRun (stepRS P Γ ops 0 o7 (.run st))))
 | false=>.stuck
def tailK(ops:Array Oper)(o7 o8:Oper):RS→RS
 | .run st=>tailB P Γ ops o7 o8 st (neSt st o7.op o8.op)
 | .pan _ _=>.stuck
 | .stuck=>.stuck
def tailE(ops:Array Oper)(st:St):List Oper→RS
 | [o6,o7,o8]=>tailK P Γ ops o7 o8 (stepRS P Γ ops 0 o6 (.run st))
 | _=>.stuck
def tailR(ops:Array Oper):RS→RS
 | .run st=>tailE P Γ ops st (ops.toList.drop (ops.toList.length-3))
 | .pan v st=>.pan v st
 | .stuck=>.stuck
def preO(ops:Array Oper):Array Oper:=(ops.toList.take (ops.toList.length-3)).toArray
noncomputable def regN(ops:Array Oper)(st:St)(hts:List Ht):RS:=endD ops st (evD P Γ ops st.H.length ops.toList hts 0 st.H.length (.run (st.ready (countC ops.toList)) []))
noncomputable def regQ(ops:Array Oper)(st:St)(hts:List Ht):Bool→RS
 | false=>regN P Γ ops st hts
 | true=>tailR P Γ ops (regN P Γ (preO ops) st (tailH hts))
noncomputable def regD(ops:Array Oper)(st:St):Option (List Ht)→RS
 | some hts=>regQ P Γ ops st hts (isSplit hts)
 | none=>.stuck
noncomputable def regA(hd:Nat→Option (List Ht))(id:Nat)(ops:Array Oper)(st:St):Bool→RS
 | false=>evOps P Γ ops ops.toList st.H.length (.run (st.ready (countC ops.toList)))
 | true=>regD P Γ ops st (hd id)
end

def noRF:Code→Bool
 | .seq a b=>noRF a&&noRF b
 | .cond _ a b=>noRF a&&noRF b
 | .block _ c=>noRF c
 | .loop c=>noRF c
 | .scope c=>noRF c
 | .rangeFunc _ _ _ _=>false
 | _=>true
def plainC:Code→Bool
 | .skip=>true
 | .region _ _ _=>true
 | .seq a b=>plainC a&&plainC b
 | .scope c=>plainC c
 | _=>false
def rfIf:Bool→RC→RC
 | true,r=>r
 | false,_=>.stuck
def zipP:List Nat→List AV→St→St
 | p::ps,v::vs,st=>zipP ps vs (st.put p v)
 | [],_,st=>st
 | _::_,[],st=>st
inductive RF where
 | done (H:List AObj)
 | left (e:Ex) (k:Nat) (H:List AObj)
 | stuck
def keepK(H:List AObj):Bool→Option (List AObj)
 | true=>some H
 | false=>none
def keepH(n:Nat)(H:List AObj):Option (List AObj):=keepK (H.take n) (refsOk n (refsH (H.take n))&&decide (n≤H.length))
def rfNext(next:List AObj→RF):Option (List AObj)→RF
 | some H=>next H
 | none=>.stuck
def rfLeft(e:Ex)(k:Nat):Option (List AObj)→RF
 | some H=>.left e k H
 | none=>.stuck
def rfK(n k:Nat)(next:List AObj→RF):RC→RF
 | .go st=>rfNext next (keepH n st.H)
 | .ex (.exit id) st=>rfLeft (.exit id) k (keepH n st.H)
 | .ex .ret st=>rfLeft .ret k (keepH n st.H)
 | .ex (.pan _) _=>.stuck
 | .stuck=>.stuck
def rfFold(f:List AV→List AObj→RC)(n np:Nat):Nat→List (List AV)→List AObj→RF
 | _,[],H=>.done H
 | k,x::xs,H=>if x.length=np then rfK n k (rfFold f n np (k+1) xs) (f x H)else .stuck
def rfArgs(ρ:List Nat)(as:List AV):List AV:=.yld ρ.length::as.map (ren fun r=>ρ.idxOf r)
def rfHeap(ρ:List Nat)(H:List AObj)(o:AObj):List AObj:=(ρ.map fun r=>renO (fun r=>ρ.idxOf r) (H.getD r .no))++[o]
def hitB(ρ rs:List Nat):Bool:=rs.any fun r=>decide (r∈ρ)
def maskK(v:AV):Bool→AV
 | true=>.any
 | false=>v
def maskV(ρ:List Nat):List (Nat×AV)→List (Nat×AV)
 | []=>[]
 | (k,v)::vs=>(k,maskK v (hitB ρ (refs v)))::maskV ρ vs
def genO:AObj→Option (List (List AV))
 | .gen xs=>some xs
 | _=>none
def genK(n:Nat):Option (Out×List AObj)→Option (List (List AV))
 | some (.ret _,H')=>genO (H'.getD n .no)
 | some (.pan _,_)=>none
 | none=>none
def logEnd(stop:Nat):AObj→Bool
 | .log s k rest=>decide (s=stop)&&(if stop=0 then rest.isEmpty else decide (k=stop))
 | _=>false
def isRegO:AObj→Bool
 | .reg _=>true
 | .no=>false
 | .cells _=>false
 | .mapo _=>false
 | .grow _ _=>false
 | .stk _ _ _=>false
 | .bld _ _=>false
 | .log _ _ _=>false
 | .gen _=>false
def noRegH:List AObj→Bool
 | []=>true
 | o::H=>!isRegO o&&noRegH H
def rgNo(H:List AObj):Bool→Bool
 | true=>noRegH H
 | false=>true
def rfBack(ρ:List Nat)(n:Nat)(H H':List AObj):Bool→Option (List AObj)
 | true=>some (setOs H (backWs ρ n 0 (H'.take ρ.length)))
 | false=>none
def rfChkK(ρ:List Nat)(n stop:Nat)(H:List AObj):Option (Out×List AObj)→Option (List AObj)
 | some (.ret _,H')=>rfBack ρ n H H' (logEnd stop (H'.getD ρ.length .no)&&refsOk ρ.length (refsH (H'.take ρ.length))&&!hitB ρ (refsH (setOs H (noes ρ)))&&rgNo H hasReg&&rgNo H' hasReg)
 | some (.pan _,_)=>none
 | none=>none
def rfChk(Γ:Sem')(gf:Nat)(as:List AV)(ρ:List Nat)(H0:List AObj)(xs:List (List AV))(stop:Nat)(H:List AObj):Option (List AObj):=
 rfChkK ρ H0.length stop H (Γ gf (rfArgs ρ as) (rfHeap ρ H0 (.log stop 0 xs)))
def rfGo(vs:List (Nat×AV)):Option (List AObj)→RC
 | some H=>.go ⟨vs,[],H⟩
 | none=>.stuck
def rfEx(vs:List (Nat×AV))(e:Ex):Option (List AObj)→RC
 | some H=>.ex e ⟨vs,[],H⟩
 | none=>.stuck
def rfEnd(chk:Nat→List AObj→Option (List AObj))(vs:List (Nat×AV)):RF→RC
 | .done H=>rfGo vs (chk 0 H)
 | .left e k H=>rfEx vs e (chk (k+1) H)
 | .stuck=>.stuck
def rfX(Γ:Sem')(f:List (Nat×AV)→List AV→List AObj→RC)(n np:Nat)(vs:List (Nat×AV))(gf:Nat)(as:List AV)(H0:List AObj)(ρ:List Nat):Option (List (List AV))→RC
 | some xs=>rfEnd (rfChk Γ gf as ρ H0 xs) vs (rfFold (f (maskV ρ vs)) n np 0 xs (setOs H0 (noes ρ)))
 | none=>.stuck
def rfR(Γ:Sem')(f:List (Nat×AV)→List AV→List AObj→RC)(n np:Nat)(vs:List (Nat×AV))(gf:Nat)(as:List AV)(H0:List AObj)(ρ:List Nat):Bool→RC
 | true=>rfX Γ f n np vs gf as H0 ρ (genK ρ.length (Γ gf (rfArgs ρ as) (rfHeap ρ H0 (.gen []))))
 | false=>.stuck
def rfS(Γ:Sem')(f:List (Nat×AV)→List AV→List AObj→RC)(n np:Nat)(vs:List (Nat×AV))(gf:Nat)(as:List AV)(H0:List AObj)(ρ:List Nat):RC:=rfR Γ f n np vs gf as H0 ρ (closed H0 ρ as&&!hitB ρ (refsH (setOs H0 (noes ρ)))&&rgNo H0 hasReg)
def rfG(Γ:Sem')(f:List (Nat×AV)→List AV→List AObj→RC)(np:Nat)(vs:List (Nat×AV))(H:List AObj)(gf:Nat)(pre:List (Nat×AObj)):Option (List AV)→RC
 | some as=>rfS Γ f H.length np vs gf as (setOs H pre) (reach (setOs H pre) (2*H.length+8) (as.map refs).flatten [])
 | none=>.stuck
def rfA(Γ:Sem')(f:List (Nat×AV)→List AV→List AObj→RC)(np:Nat)(vs:List (Nat×AV))(H:List AObj):AV→RC
 | .fn gf [] caps=>rfG Γ f np vs H gf (noes (refsL arrs1 caps)) (giveL (give1 false H) caps)
 | _=>.stuck

section
variable (P:Program)(Γ:Sem')(hd:Nat→Option (List Ht))
noncomputable def evC(fg:Nat→List Nat):Nat→Code→RC→RC
 | _,.skip,r=>r
 | _,.region id ops draw,r=>match r with
  | .go st=>regK (adR (adH (hd id)) (regA P Γ hd id ops st draw))
  | r=>r
 | cur,.seq a b,r=>evC fg cur b (evC fg cur a r)
 | cur,.cond c a b,r=>match r with
  | .go st=>condK (evC fg cur a) (evC fg cur b) st (evArg st c)
  | r=>r
 | _,.block id c,r=>match r with
  | .go st=>blockK id (evC fg id c (.go st))
  | r=>r
 | cur,.loop c,r=>match r with
  | .go st=>loopA (evC fg cur c) (wk st.H.length (fg cur)) st
  | r=>r
 | cur,.scope c,r=>evC fg cur c r
 | _,.exit id,r=>match r with
  | .go st=>.ex (.exit id) st.clear
  | r=>r
 | _,.ret,r=>match r with
  | .go st=>.ex .ret st.clear
  | r=>r
 | cur,.rangeFunc g ps x y,r=>match r with
  | .go st=>rfIf (plainC x&&noRF y) (rfA Γ (fun vs v H=>evC fg cur y (evC fg cur x (.go (zipP ps.toList v ⟨vs,[],H⟩)))) ps.size st.vs st.H (evArg st g))
  | r=>r
 | _,.label _,r=>r
 | _,.goto _,r=>match r with
  | .go _=>.stuck
  | r=>r
 | _,.refuse _,r=>match r with
  | .go _=>.stuck
  | r=>r
end
end Go.Ab
/- The abstract evaluator,third part: functions. Conditions: none. -/
namespace Go.Ab
open Go

def numbered:Nat→List AV→List (Nat×AV)
 | _,[]=>[]
 | i,v::vs=>(i,v)::numbered (i+1) vs
def blank:List Nat→List (Nat×AV)
 | []=>[]
 | k::ks=>(k,.tuple [])::blank ks
def start(as:List AV)(vs:List Nat)(H:List AObj):St:=⟨numbered 0 as++blank vs,[],H⟩

section
variable (P:Program)
def resA(st:St):ResultVar→Option AV
 | .tmp t=>some (st.get t)
 | .cell a t=>loadA P t st.H (st.get a)
def resL(st:St):List ResultVar→Option (List AV)
 | []=>some []
 | x::xs=>match resA P st x,resL st xs with
  | some v,some vs=>some (v::vs)
  | _,_=>none
def oneA:List AV→AV
 | [v]=>v
 | vs=>.tuple vs
def oneO:Option (List AV)→Option AV
 | some vs=>some (oneA vs)
 | none=>none
end
def leave3(mk:AV→Out)(v:AV)(H:List AObj)(ρ:List Nat):Bool→Option (Out×List AObj)
 | true=>some (mk (ren (fun r=>ρ.idxOf r) v),ρ.map fun r=>renO (fun r=>ρ.idxOf r) (H.getD r .no))
 | false=>none
def leave2(mk:AV→Out)(k:Nat)(v:AV)(H:List AObj):Bool→Option (Out×List AObj)
 | true=>some (mk v,H.take k)
 | false=>let ρ:=reach H (2*H.length+8) (refs v++refsH (H.take k)) (List.range k)
  leave3 mk v H ρ (closed H ρ [v]&&decide (ρ.take k=List.range k)&&rgK k (hasRp v||hasRpH H) hasReg)
def leave1(mk:AV→Out)(k:Nat)(H:List AObj):Option AV→Option (Out×List AObj)
 | some v=>leave2 mk k v H (refsOk k (refs v)&&refsOk k (refsH (H.take k))&&rgK k (hasRp v) hasReg)
 | none=>none
def keepL:List (Nat×AV)→Bool
 | []=>false
 | (k,_)::l=>decide (k=1000000)||keepL l
def keepV(H:List AObj):AV→Option AV
 | .grow r e rows=>some (.grow r e rows)
 | v=>give2 H v
def giveQ(H:List AObj)(v:AV):Bool→Option AV
 | true=>keepV H v
 | false=>give2 H v
def unOL:List AV→List AV
 | []=>[]
 | c::cs=>unO c::unOL cs
def unO1:AV→AV
 | .agg cs=>.agg (unOL cs)
 | v=>unO v
def unOL1:List AV→List AV
 | []=>[]
 | c::cs=>unO1 c::unOL1 cs
def unO2:AV→AV
 | .tuple cs=>.tuple (unOL1 cs)
 | v=>unO1 v
def prepQ(v:AV):Bool→AV
 | true=>toO v
 | false=>unO2 v
def leaveP(kp:Bool)(mk:AV→Out)(k:Nat)(H:List AObj)(v:AV):Option (Out×List AObj):=leave1 mk k (setOs H (noes (arrs2 v))) (giveQ H v kp)
def leave(kp:Bool)(mk:AV→Out)(k:Nat)(H:List AObj):Option AV→Option (Out×List AObj)
 | some v=>leaveP kp mk k H (prepQ v kp)
 | none=>none
def finish(P:Program)(rs:List ResultVar)(k:Nat):RC→Option (Out×List AObj)
 | .go st=>leave (keepL st.vs) .ret k st.H (oneO (resL P st rs))
 | .ex .ret st=>leave (keepL st.vs) .ret k st.H (oneO (resL P st rs))
 | .ex (.pan v) st=>leave false .pan k st.H (some v)
 | _=>none
noncomputable def bodyEv(P:Program)(Γ:Sem')(hd:Nat→Option (List Ht))(fg:Nat→List Nat)(vs:List Nat)(as:List AV)(H:List AObj)(F:Func):Option Code→Option (Out×List AObj)
 | some c=>if as.length≤F.ntmps then finish P F.results.toList H.length (evC P Γ hd fg 0 c (.go (start as vs H)))else none
 | none=>none
noncomputable def fnK(P:Program)(Γ:Sem')(hd:Nat→Option (List Ht))(fg:Nat→List Nat)(vs:List Nat)(as:List AV)(H:List AObj):Option Func→Option (Out×List AObj)
 | some F=>bodyEv P Γ hd fg vs as H F F.body
 | none=>none
noncomputable def fnEv(P:Program)(Γ:Sem')(hd:Nat→Nat→Option (List Ht))(hv:Nat→List Nat)(hf:Nat→Nat→List Nat):Sem':=
 fun f as H=>fnK P Γ (hd f) (hf f) (hv f) as H P.funcs[f]?

theorem loopN_mono(f:RC→RC)(h:St→Option St):∀ (n:Nat) (st:St),loopN f h n st≠.stuck→loopN f h (n+1) st=loopN f h n st:=by
 intro n;induction n with
 | zero=>intro st hn;exact absurd rfl hn
 | succ n ih=>
  intro st hn;show loopK (loopN f h (n+1)) (wkR f (h st))=loopK (loopN f h n) (wkR f (h st))
  cases hw:wkR f (h st)with
  | go st2=>
   simp only[loopN,hw,loopK]at hn;exact ih st2 hn
  | ex e st2=>rfl
  | stuck=>rfl
theorem loopN_le(f:RC→RC)(h:St→Option St){n m:Nat}(hnm:n≤m){st:St}(hn:loopN f h n st≠.stuck):loopN f h m st=loopN f h n st:=by
 induction m with
 | zero=>rw[Nat.le_zero.1 hnm]
 | succ m ih=>
  by_cases e:n=m+1
  ·rw[e]
  ·have h1:=ih (by omega)
   rw[←h1];exact loopN_mono f h m st (by rw[h1];exact hn)
theorem loopA_of(f:RC→RC)(h:St→Option St){n:Nat}{st:St}(hn:loopN f h n st≠.stuck):loopA f h st=loopN f h n st:=by
 have x:∃ n,loopN f h n st≠.stuck:=⟨n,hn⟩
 unfold loopA;rw[dif_pos x];rcases Nat.le_total x.choose n with hl|hl
 ·exact(loopN_le f h hl x.choose_spec).symm
 ·exact loopN_le f h hl hn
theorem loopA_some{f:RC→RC}{h:St→Option St}{st:St}(hn:loopA f h st≠.stuck):∃ n,loopN f h n st=loopA f h st:=by
 unfold loopA at hn ⊢;split at hn
 ·rename_i x;rw[dif_pos x];exact⟨_,rfl⟩
 ·exact absurd rfl hn
theorem loopA_eq(f:RC→RC)(h:St→Option St)(st:St):loopA f h st=loopK (loopA f h) (wkR f (h st)):=by
 by_cases hn:loopA f h st=.stuck
 ·rw[hn]
  cases hw:wkR f (h st)with
  | go st2=>
   show RC.stuck=loopA f h st2
   by_cases h2:loopA f h st2=.stuck
   ·exact h2.symm
   ·obtain⟨n,hn2⟩:=loopA_some h2
    have h3:loopN f h (n+1) st=loopA f h st2:=by simp only[loopN,hw,loopK];exact hn2
    have:=loopA_of f h (n:=n+1) (st:=st) (by rw[h3];exact h2)
    rw[←hn,this,h3]
  | ex e st2=>
   have h3:loopN f h 1 st=.ex e st2:=by simp only[loopN,hw,loopK]
   have:=loopA_of f h (n:=1) (st:=st) (by rw[h3];intro x;cases x)
   rw[hn,h3]at this
   cases this
  | stuck=>rfl
 ·obtain⟨n,h1⟩:=loopA_some hn
  rw[←h1]at hn ⊢
  cases n with
  | zero=>exact absurd rfl hn
  | succ n=>
   show loopK (loopN f h n) (wkR f (h st))=loopK (loopA f h) (wkR f (h st))
   cases hw:wkR f (h st)with
   | go st2=>
    simp only[loopN,hw,loopK]at hn;exact(loopA_of f h hn).symm
   | ex e st2=>rfl
   | stuck=>rfl
end Go.Ab
/- The abstract evaluator is right of operations on values. Conditions: none. -/
namespace Go.Ab
open Go

section
variable {P:Program}{w:World}{Im:Imm}{g:List Gh}

theorem unO_ok{v:Value}{x:AV}(h:RepA w Im g v x):RepA w Im g v (unO x):=by
 cases h with
 | own hg ho hc=>exact .arr hg ho hc
 | stk h1 h2 h3 h4 h5=>exact .stk h1 h2 h3 h4 h5
 | sp h1 h2 h3=>exact .sp h1 h2 h3
 | sv h1 h2 h3 h4 h5 h6=>exact .sv h1 h2 h3 h4 h5 h6
 | any=>exact .any _
 | d h=>exact .d h
 | full h=>exact .full h
 | grow h1 h2 h3 h4 h5=>exact .grow h1 h2 h3 h4 h5
 | agg vs cs h1 h2 h3=>exact .agg vs cs h1 h2 h3
 | tuple vs cs h1 h2=>exact .tuple vs cs h1 h2
 | ptr h=>exact .ptr h
 | dp h=>exact .dp h
 | arr h1 h2 h3=>exact .arr h1 h2 h3
 | fn f vf cf vc cc h1 h2 h3 h4=>exact .fn f vf cf vc cc h1 h2 h3 h4
 | iface h=>exact .iface h
 | mp h=>exact .mp h
 | nilm=>exact .nilm
 | nils=>exact .nils
 | bp h=>exact .bp h
 | rp h1 h2=>exact .rp h1 h2
 | rs h1 h2 h3 h4=>exact .rs h1 h2 h3 h4
 | avl cs us h1 h2 h3 h4=>exact .avl cs us h1 h2 h3 h4
 | yld h=>exact .yld h
theorem toO_ok{v:Value}{x:AV}(h:RepA w Im g v x):RepA w Im g v (toO x):=by
 cases h with
 | arr hg ho hc=>exact .own hg ho hc
 | stk h1 h2 h3 h4 h5=>exact .stk h1 h2 h3 h4 h5
 | sp h1 h2 h3=>exact .sp h1 h2 h3
 | sv h1 h2 h3 h4 h5 h6=>exact .sv h1 h2 h3 h4 h5 h6
 | any=>exact .any _
 | d h=>exact .d h
 | full h=>exact .full h
 | grow h1 h2 h3 h4 h5=>exact .grow h1 h2 h3 h4 h5
 | agg vs cs h1 h2 h3=>exact .agg vs cs h1 h2 h3
 | tuple vs cs h1 h2=>exact .tuple vs cs h1 h2
 | ptr h=>exact .ptr h
 | dp h=>exact .dp h
 | own h1 h2 h3=>exact .own h1 h2 h3
 | fn f vf cf vc cc h1 h2 h3 h4=>exact .fn f vf cf vc cc h1 h2 h3 h4
 | iface h=>exact .iface h
 | mp h=>exact .mp h
 | nilm=>exact .nilm
 | nils=>exact .nils
 | bp h=>exact .bp h
 | rp h1 h2=>exact .rp h1 h2
 | rs h1 h2 h3 h4=>exact .rs h1 h2 h3 h4
 | avl cs us h1 h2 h3 h4=>exact .avl cs us h1 h2 h3 h4
 | yld h=>exact .yld h
theorem repA_ofV(v:Value):RepA w Im g v (ofV v):=by
 unfold ofV;split
 ·exact .d (.bool _)
 ·exact .d (.int _ _)
 ·rename_i s;exact .d (RepD.str s.data.toList)
 ·exact .d .nilp
 ·exact .full (a:=none) (rows:=[]) (.sl0 none 0)
 ·exact .nilm
 ·exact .any _

theorem int_inv{v:Value}{k:IntKind}{n:Int}(h:RepA w Im g v (.d (.int k n))):v=.int k n:=by
 cases h with|d h=>cases h;rfl
theorem bool_inv{v:Value}{b:Bool}(h:RepA w Im g v (.d (.bool b))):v=.bool b:=by
 cases h with|d h=>cases h;rfl
theorem str_inv{v:Value}{l:List UInt8}(h:RepA w Im g v (.d (.str l))):v=.string ⟨⟨l⟩⟩:=by
 cases h with|d h=>cases h;rfl
theorem nilp_inv{v:Value}(h:RepA w Im g v (.d .nilp)):v=.pointer none:=by
 cases h with|d h=>cases h;rfl

theorem kindT_bool{t:TypeId}(h:kindT P t=.bool):P.underlying t=some .bool:=by
 unfold kindT at h;split at h<;>first|assumption|cases h
theorem kindT_int{t:TypeId}{k:IntKind}(h:kindT P t=.int k):P.underlying t=some (.int k):=by
 unfold kindT at h;split at h<;>first|(cases h;assumption)|cases h
theorem kindT_str{t:TypeId}(h:kindT P t=.str):P.underlying t=some .string:=by
 unfold kindT at h;split at h<;>first|assumption|cases h
theorem kindT_ptr{t:TypeId}(h:kindT P t=.ptr):∃ e,P.underlying t=some (.pointer e):=by
 unfold kindT at h;split at h<;>first|exact⟨_,by assumption⟩|cases h
theorem kindT_sl{t e:TypeId}(h:kindT P t=.sl e):P.underlying t=some (.slice e):=by
 unfold kindT at h;split at h<;>first|(cases h;assumption)|cases h
theorem kindT_arr{t e:TypeId}{n:Nat}(h:kindT P t=.arr n e):P.underlying t=some (.array n e):=by
 unfold kindT at h;split at h<;>first|(cases h;assumption)|cases h
theorem kindT_st{t:TypeId}(h:kindT P t=.st):∃ fs,P.underlying t=some (.struct fs):=by
 unfold kindT at h;split at h<;>first|exact⟨_,by assumption⟩|cases h
theorem elemT_some{t e:TypeId}(h:elemT P t=some e):P.underlying t=some (.slice e):=by
 unfold elemT elK at h;split at h
 ·rename_i h1;cases h;exact kindT_sl h1
 ·cases h
theorem szOf_some{t:TypeId}{n:Nat}(h:szOf P t=some n):∃ i,P.info? t=some i∧i.size=n:=by
 unfold szOf at h;cases hi:P.info? t with
 | none=>rw[hi]at h;cases h
 | some i=>rw[hi]at h;exact⟨i,rfl,by simpa using h⟩
theorem bytesOf_some{t:TypeId}{n:Nat}(h:bytesOf P t=some n):∃ i,P.info? t=some i∧i.bytes=n:=by
 unfold bytesOf at h;cases hi:P.info? t with
 | none=>rw[hi]at h;cases h
 | some i=>rw[hi]at h;exact⟨i,rfl,by simpa using h⟩
theorem zeroOf_some{t:TypeId}{z:List AV}(h:zeroOf P t=some z):∃ i v,P.info? t=some i∧i.zero=some v∧z=v.cells.toList.map ofV∧∀ u,u∈v.cells→u.oneCell'=true:=by
 unfold zeroOf at h;cases hi:P.info? t with
 | none=>rw[hi]at h;cases h
 | some i=>rw[hi]at h;cases hz:i.zero with
  | none=>simp[hz]at h
  | some v=>simp[hz]at h;exact⟨i,v,rfl,hz,h.2.symm,fun u hu=>by obtain⟨j,hj,rfl⟩:=Array.getElem_of_mem hu;exact h.1 j hj⟩
theorem run_sizeOf'{t:TypeId}{n:Nat}(h:szOf P t=some n)(w:World):(sizeOf t).run P w=.ok n w:=by
 obtain⟨i,hi,rfl⟩:=szOf_some h
 simp[sizeOf,typeInfo,hi]
theorem run_isAg{t:TypeId}{b:Bool}(h:isAg P t=some b)(w:World):(Go.isAgg t).run P w=.ok b w:=by
 unfold isAg at h
 cases hu:P.underlying t with
 | none=>simp[kindT,hu,agK]at h
 | some d=>cases d<;>simp[kindT,hu,agK]at h<;>subst h<;>simp[Go.isAgg,run_underlying hu]

theorem getElem?_take_drop {α:Type} (l:List α) (o n i:Nat):((l.drop o).take n)[i]?=if i<n then l[o+i]? else none:=by
 rw[List.getElem?_take]
 split
 ·rw[List.getElem?_drop]
 ·rfl

theorem partA_ok{t:TypeId}{vs:List Value}{cs:List AV}{off:Nat}{c:AV}(h:partA P t cs off=some c)(hl:cs.length≤vs.length)(h1:∀ v,v∈vs→v.oneCell'=true)
  (hr:∀ (i:Nat) (v:Value) (c:AV),vs[i]?=some v→cs[i]?=some c→RepA w Im g v c):∃ v,(part t ⟨vs⟩ off).run P w=.ok v w∧RepA w Im g v c:=by
 unfold partA partK at h;split at h
 ·rename_i n ha hs;split at h
  ·rename_i hle
   cases h;refine⟨.agg ⟨(vs.drop off).take n⟩,?_,?_⟩
   ·simp only[part,Sem.run_bind,run_isAg ha,Result.andThen_ok,if_true,run_sizeOf' hs,Sem.run_pure];congr 2
    apply Array.ext'
    simp[List.extract_eq_take_drop]
   ·refine .agg _ _ ?_ (fun v hv=>h1 v (List.mem_of_mem_drop (List.mem_of_mem_take hv))) ?_
    ·simp only[List.length_take,List.length_drop];omega
    ·intro i v c hv hc;rw[getElem?_take_drop]at hv hc
     split at hv
     ·rw[if_pos (by assumption)]at hc
      exact hr _ _ _ hv hc
     ·cases hv
  ·cases h
 ·rename_i ha
  have hlt:off<vs.length:=by
   have:=(List.getElem?_eq_some_iff.1 h).1;omega
  refine⟨vs[off],?_,hr off _ _ (List.getElem?_eq_getElem hlt) h⟩
  simp only[part,Sem.run_bind,run_isAg ha,Result.andThen_ok,Bool.false_eq_true,if_false];have:(⟨vs⟩:Array Value)[off]?=some vs[off]:=by simp[hlt]
  rw[this];rfl
 ·cases h

theorem eqPair_some{eq:AV→AV→Option Bool}{a b:Option AV}{r:Bool}(h:eqPair eq a b=some r):∃ x y,a=some x∧b=some y∧eq x y=some r:=by
 unfold eqPair at h;split at h
 ·exact⟨_,_,rfl,rfl,h⟩
 ·cases h

def EqOk(P:Program)(w:World)(Im:Imm)(g:List Gh)(d:Nat)(eq:TypeId→AV→AV→Option Bool):Prop:=
 ∀ (t:TypeId) (x y:AV) (vx vy:Value) (b:Bool),eq t x y=some b→RepA w Im g vx x→RepA w Im g vy y→∀ D,d≤D→(Op.equalIn D t vx vy).run P w=.ok b w

theorem eqFields_ok{eq:TypeId→AV→AV→Option Bool}{d:Nat}(ih:EqOk P w Im g d eq){xs ys:List AV}{vxs vys:List Value}(hlx:vxs.length=xs.length)(hly:vys.length=ys.length)(h1x:∀ v,v∈vxs→v.oneCell'=true)(h1y:∀ v,v∈vys→v.oneCell'=true)
  (hx:∀ (i:Nat) (v:Value) (c:AV),vxs[i]?=some v→xs[i]?=some c→RepA w Im g v c) (hy:∀ (i:Nat) (v:Value) (c:AV),vys[i]?=some v→ys[i]?=some c→RepA w Im g v c) {D:Nat} (hD:d≤D) :
  ∀ (fs:List Field) (b:Bool),eqFields P eq xs ys ((fs.filter fun f=>f.name != "_").map fun f=>(f.type,f.offset))=some b→(Op.eqFields D ⟨vxs⟩ ⟨vys⟩ fs).run P w=.ok b w:=by
 intro fs;induction fs with
 | nil=>intro b h;simp[eqFields]at h;subst h;rfl
 | cons f fs ihf=>
  intro b h;by_cases hn:f.name="_"
  ·simp only[Op.eqFields,hn,ne_eq,not_true_eq_false,if_false];apply ihf
   simpa[List.filter_cons,hn]using h
  ·have hn':(f.name != "_")=true:=by simpa using hn
   simp only[List.filter_cons,hn',if_true,List.map_cons]at h
   have key:∃ r,eqPair (eq f.type) (partA P f.type xs f.offset) (partA P f.type ys f.offset)=some r ∧
     (r=false→b=false)∧(r=true→(Op.eqFields D ⟨vxs⟩ ⟨vys⟩ fs).run P w=.ok b w):=by
    cases hrest:(fs.filter fun f=>f.name != "_").map fun f=>(f.type,f.offset)with
    | nil=>
     rw[hrest]at h;simp only[eqFields]at h;refine⟨b,h,fun e=>e,fun e=>?_⟩
     subst e;exact ihf true (by rw[hrest];rfl)
    | cons q qs=>
     rw[hrest]at h;simp only[eqFields,andO]at h;split at h
     ·rename_i a b' h1 h2
      cases h;refine⟨a,h1,fun e=>by simp[e],fun e=>?_⟩
      subst e;exact ihf _ (by rw[hrest];simpa using h2)
     ·cases h
   obtain⟨r,hr,h0,h1⟩:=key
   obtain⟨x,y,hxp,hyp,he⟩:=eqPair_some hr
   obtain⟨vx,rx,repx⟩:=partA_ok (w:=w) hxp (by omega) h1x hx
   obtain⟨vy,ry,repy⟩:=partA_ok (w:=w) hyp (by omega) h1y hy
   have hq:=ih f.type x y vx vy r he repx repy D hD
   simp only[Op.eqFields,ne_eq,hn,not_false_eq_true,if_true,Sem.run_bind,rx,ry,Result.andThen_ok,hq]
   cases r
   ·rw[h0 rfl];rfl
   ·simp only[Bool.not_true,Bool.false_eq_true,if_false];exact h1 rfl

theorem eqA_ok:∀ n,EqOk P w Im g n (eqA P n):=by
 intro n;induction n with
 | zero=>intro t x y vx vy b h;cases h
 | succ n ih=>
  intro t x y vx vy b h hx hy D hD;obtain⟨D,rfl⟩:∃ D',D=D'+1:=⟨D-1,by omega⟩
  simp only[eqA]at h;unfold eqK at h;split at h
  ·rename_i hk;rw[bool_inv hx,bool_inv hy,run_equalIn_bool' _ _ _ _ _ (kindT_bool hk)]
   cases h;rename_i a c
   cases a<;>cases c<;>rfl
  ·rename_i hk;split at h
   ·rename_i k a k' b' he;subst he
    cases h;rw[int_inv hx,int_inv hy,run_equalIn_int _ _ _ _ _ _ _ (kindT_int hk)]
    rfl
   ·cases h
  ·rename_i hk
   cases h;rw[str_inv hx,str_inv hy,run_equalIn_string _ _ _ _ _ (kindT_str hk)]
   rw[ByteArray.toList_eq,ByteArray.toList_eq];congr 1
   rw[Bool.eq_iff_iff];simp
  ·rename_i hk;obtain⟨e,hu⟩:=kindT_ptr hk
   cases h;rw[nilp_inv hx,nilp_inv hy]
   simp[Op.equalIn,run_underlying hu]
  ·rename_i hk;obtain⟨e,hu⟩:=kindT_ptr hk
   cases h;rw[nilp_inv hx]
   cases hy;simp[Op.equalIn,run_underlying hu]
  ·rename_i hk;obtain⟨e,hu⟩:=kindT_ptr hk
   cases h;rw[nilp_inv hx]
   cases hy;simp[Op.equalIn,run_underlying hu]
  ·rename_i hk;obtain⟨e,hu⟩:=kindT_ptr hk
   cases h;rw[nilp_inv hy]
   cases hx;simp[Op.equalIn,run_underlying hu]
  ·rename_i hk;obtain⟨e,hu⟩:=kindT_ptr hk
   cases h;rw[nilp_inv hy]
   cases hx;simp[Op.equalIn,run_underlying hu]
  ·rename_i hk;obtain⟨e,hu⟩:=kindT_ptr hk
   cases h;rw[nilp_inv hy]
   cases hx;simp[Op.equalIn,run_underlying hu]
  ·rename_i hk;obtain⟨e,hu⟩:=kindT_ptr hk
   cases h;rw[nilp_inv hx]
   cases hy;simp[Op.equalIn,run_underlying hu]
  ·rename_i hk;obtain⟨e,hu⟩:=kindT_ptr hk
   cases h;rw[nilp_inv hy]
   cases hx;simp[Op.equalIn,run_underlying hu]
  ·rename_i hk;obtain⟨e,hu⟩:=kindT_ptr hk
   cases h;rw[nilp_inv hx]
   cases hy;simp[Op.equalIn,run_underlying hu]
  ·rename_i xs ys hk;obtain⟨fs,hu⟩:=kindT_st hk
   unfold eqAgg at h;split at h
   ·rename_i fs' hf;unfold eqFs at hf;rw[hu]at hf;simp only at hf
    split at hf
    ·cases hf
    ·rename_i hs;simp only[Bool.or_eq_true,not_or,Bool.not_eq_true]at hs
     cases hf
     cases hx with
     | agg vxs _ hlx h1x hxr=>cases hy with
      | agg vys _ hly h1y hyr=>
       have hfo:P.fieldsOf t=fs:=by simp[Program.fieldsOf,hu]
       rw[run_equalIn_struct _ _ _ _ _ (by rw[hfo];exact hu) hs.1,hfo]
       exact eqFields_ok ih hlx hly h1x h1y hxr hyr (by omega) fs.toList b h
   ·cases h
  ·cases h


theorem beq_list_dec(a b:List UInt8):(a==b)=decide (a=b):=by
 rw[Bool.eq_iff_iff];simp

theorem intA_ok{op:BinOp}{t:TypeId}{k:IntKind}{a b:Int}{x:Dt}(h:intA op k a b=some x):∃ v,(binOp op t (.int k a) (.int k b)).run P w=.ok v w∧RepD w Im v x:=by
 unfold intA at h;split at h
 all_goals first
  | (cases h;done)
  | (cases h;refine⟨_,?_,.int _ _⟩;simp[binOp,Op.intArith];done)
  | (cases h;refine⟨_,?_,.bool _⟩;simp[binOp,Op.intCmp];done)
  | skip
 ·split at h
  ·cases h
  ·rename_i hy
   cases h;exact⟨_,by simp[binOp,Op.intDiv,hy],.int _ _⟩
 ·split at h
  ·cases h
  ·rename_i hy
   cases h;exact⟨_,by simp[binOp,Op.intDiv,hy],.int _ _⟩
 ·cases h;refine⟨.bool (decide (a=b)),?_,.bool _⟩
  simp[binOp,Op.intCmp];rfl
 ·cases h;refine⟨.bool (!decide (a=b)),?_,.bool _⟩
  simp[binOp,Op.intCmp];rfl
 ·unfold bitA at h;split at h
  all_goals first
   | (simp at h;done)
   | (simp at h;subst h;refine⟨_,?_,.int _ _⟩;simp[andI,orI,xorI,notI,binOp,Op.intBits];done)

theorem shiftA_ok{op:BinOp}{t:TypeId}{k k':IntKind}{a b:Int}{x:Dt}(h:shiftA op k a b=some x):∃ v,(binOp op t (.int k a) (.int k' b)).run P w=.ok v w∧RepD w Im v x:=by
 unfold shiftA at h;split at h
 ·cases h
 ·rename_i hb;split at h
  ·cases h;exact⟨_,by simp[binOp,Op.shift,hb],.int _ _⟩
  ·cases h;exact⟨_,by simp[binOp,Op.shift,hb],.int _ _⟩
  ·cases h

theorem strA_ok{op:BinOp}{t:TypeId}{a b:List UInt8}{x:Dt}(h:strA op a b=some x):∃ v,(binOp op t (.string ⟨⟨a⟩⟩) (.string ⟨⟨b⟩⟩)).run P w=.ok v w∧RepD w Im v x:=by
 have ha:(⟨⟨a⟩⟩:ByteArray).toList=a:=ByteArray.toList_eq _
 have hb:(⟨⟨b⟩⟩:ByteArray).toList=b:=ByteArray.toList_eq _
 unfold strA at h;split at h
 ·split at h
  ·rename_i hle
   cases h;refine⟨.string ⟨⟨a++b⟩⟩,?_,.str _⟩
   have h1:¬(((⟨⟨a⟩⟩:ByteArray).size+(⟨⟨b⟩⟩:ByteArray).size:Nat):Int)>IntKind.i64.max:=by
    rw[IntKind.max_i64];show ¬(((a.length+b.length:Nat)):Int)>9223372036854775807
    omega
   have h2:(⟨⟨a⟩⟩:ByteArray)++⟨⟨b⟩⟩=⟨⟨a++b⟩⟩:=by
    apply ByteArray.ext
    show((⟨⟨a⟩⟩:ByteArray)++⟨⟨b⟩⟩).data=_
    rw[ByteArray.data_append];simp
   simp only[binOp,Op.stringOp,if_neg h1,Sem.run_pure,h2]
  ·cases h
 all_goals first
  | (cases h;refine⟨_,?_,.bool _⟩;simp[binOp,Op.stringOp,ha,hb,beq_list_dec];done)
  | (cases h;done)

theorem eqA_shape{n:Nat}{t:TypeId}{x y:AV}{vx vy:Value}{r:Bool}(h:eqA P (n+1) t x y=some r)(hx:RepA w Im g vx x)(hy:RepA w Im g vy y) :
  (∃ a,vx=.bool a)∨(∃ k a,vx=.int k a)∨(∃ a b,vx=.string a∧vy=.string b)∨(∃ a b,vx=.pointer a∧vy=.pointer b)∨(∃ a b,vx=.agg a∧vy=.agg b∧P.eqGuardType P.depth t=false):=by
 simp only[eqA]at h;unfold eqK at h;split at h
 ·exact .inl ⟨_,bool_inv hx⟩
 ·exact .inr (.inl ⟨_,_,int_inv hx⟩)
 ·exact .inr (.inr (.inl ⟨_,_,str_inv hx,str_inv hy⟩))
 ·exact .inr (.inr (.inr (.inl ⟨_,_,nilp_inv hx,nilp_inv hy⟩)))
 ·cases hy;exact .inr (.inr (.inr (.inl ⟨_,_,nilp_inv hx,rfl⟩)))
 ·cases hy;exact .inr (.inr (.inr (.inl ⟨_,_,nilp_inv hx,rfl⟩)))
 ·cases hx;exact .inr (.inr (.inr (.inl ⟨_,_,rfl,nilp_inv hy⟩)))
 ·cases hx;exact .inr (.inr (.inr (.inl ⟨_,_,rfl,nilp_inv hy⟩)))
 ·cases hx;exact .inr (.inr (.inr (.inl ⟨_,_,rfl,nilp_inv hy⟩)))
 ·cases hy;exact .inr (.inr (.inr (.inl ⟨_,_,nilp_inv hx,rfl⟩)))
 ·cases hx;exact .inr (.inr (.inr (.inl ⟨_,_,rfl,nilp_inv hy⟩)))
 ·cases hy;exact .inr (.inr (.inr (.inl ⟨_,_,nilp_inv hx,rfl⟩)))
 ·unfold eqAgg at h;split at h
  ·rename_i fs hf;unfold eqFs at hf;split at hf
   ·split at hf
    ·cases hf
    ·rename_i hs;simp only[Bool.or_eq_true,not_or,Bool.not_eq_true]at hs
     cases hx
     cases hy;exact .inr (.inr (.inr (.inr ⟨_,_,rfl,rfl,hs.2⟩)))
   ·cases hf
  ·cases h
 ·cases h

theorem eqBin_ok{op:BinOp}(hop:op=.eql∨op=.neq){t:TypeId}{x y:AV}{vx vy:Value}{r:Bool}(h:eqA P 12 t x y=some r)(hx:RepA w Im g vx x)(hy:RepA w Im g vy y)
  (hni:∀ k a k' b,x=.d (.int k a)→y=.d (.int k' b)→False) (hns:∀ a b,x=.d (.str a)→y=.d (.str b)→False) (ox oy:Operand) :
  (do eqGuard op t ox oy vx vy;binOp op t vx vy:Sem Value).run P w=.ok (.bool (if op=.eql then r else !r)) w:=by
 have he:=eqA_ok (P:=P) (w:=w) (Im:=Im) (g:=g) 12 t x y vx vy r h hx hy 10000 (by decide)
 have hop':(op=.eql∧(if op=.eql then r else !r)=r)∨(op=.neq∧(if op=.eql then r else !r)=!r):=by
  rcases hop with rfl|rfl
  ·exact .inl ⟨rfl,rfl⟩
  ·exact .inr ⟨rfl,rfl⟩
 rcases eqA_shape h hx hy with⟨a,rfl⟩|⟨k,a,rfl⟩|⟨a,b,rfl,rfl⟩|⟨a,b,rfl,rfl⟩|⟨a,b,rfl,rfl,hg⟩
 ·rcases hop' with⟨rfl,e⟩|⟨rfl,e⟩<;>rw[e]<;>simp only[eqGuard_at_bool,Sem.run_bind,Sem.run_pure,Result.andThen_ok]<;>simp[binOp,Op.equal,Op.maxDepth,he]
 ·exfalso
  have h':=h
  simp only[eqA]at h';unfold eqK at h';split at h'<;>first|(cases h';done)|(have:=bool_inv hx;cases this;done)|(exact hni _ _ _ _ rfl rfl)|(have:=str_inv hx;cases this;done)|(have:=nilp_inv hx;cases this;done)|(cases hx;done)
 ·exfalso
  have h':=h
  simp only[eqA]at h';unfold eqK at h';split at h'<;>first|(cases h';done)|(have:=bool_inv hx;cases this;done)|(exact hns _ _ rfl rfl)|(have:=int_inv hx;cases this;done)|(have:=nilp_inv hx;cases this;done)|(cases hx;done)
 ·rcases hop' with⟨rfl,e⟩|⟨rfl,e⟩<;>rw[e]<;>simp only[eqGuard_at_pointer,Sem.run_bind,Sem.run_pure,Result.andThen_ok]<;>cases a<;>cases b<;>simp[binOp,Op.equal,Op.maxDepth,he]
 ·rcases hop' with⟨rfl,e⟩|⟨rfl,e⟩<;>rw[e]<;>simp only[Sem.run_bind,run_eqGuard_agg _ _ _ _ _ _ _ hg,Result.andThen_ok,run_eql_struct,run_neq_struct,he]

theorem binS_ok{op:BinOp}{t:TypeId}{x c:AV}{vx:Value}(h:binS x op (kindT P t)=some c)(hx:RepA w Im g vx x)(ox oy:Operand) :
  ∃ v,(do eqGuard op t ox oy vx (.slice none 0 0);binOp op t vx (.slice none 0 0):Sem Value).run P w=.ok v w∧RepA w Im g v c:=by
 have key:∀ e b,kindT P t=.sl e→nilS x=some b→∃ a n m,vx=.slice a n m∧(Op.equalIn 10000 t vx (.slice none 0 0)).run P w=.ok b w:=by
  intro e b hk hn;have hu:=kindT_sl hk
  have h1:∀ D:Nat,(Op.equalIn (D+1) t (.slice none 0 0) (.slice none 0 0)).run P w=.ok true w:=fun D=>by simp[Op.equalIn,run_underlying hu]
  have h2:∀ (D:Nat) (q:Addr) (n m:Nat),(Op.equalIn (D+1) t (.slice (some q) n m) (.slice none 0 0)).run P w=.ok false w:=fun D q n m=>by simp[Op.equalIn,run_underlying hu]
  unfold nilS at hn;split at hn
  ·cases hn
   cases hx;exact⟨_,_,_,rfl,h1 9999⟩
  ·cases hn
   cases hx;exact⟨_,_,_,rfl,h2 9999 _ _ _⟩
  ·cases hn
 unfold binS at h;split at h
 ·rename_i e hk
  cases hn:nilS x with
  | none=>rw[hn]at h;cases h
  | some b=>
   rw[hn]at h
   cases h;obtain⟨a,n,m,rfl,he⟩:=key e b hk hn
   refine⟨.bool b,?_,.d (.bool b)⟩
   simp only[eqGuard_at_slice,Sem.run_bind,Sem.run_pure,Result.andThen_ok];simp[binOp,Op.equal,Op.maxDepth,he]
 ·rename_i e hk
  cases hn:nilS x with
  | none=>rw[hn]at h;cases h
  | some b=>
   rw[hn]at h
   cases h;obtain⟨a,n,m,rfl,he⟩:=key e b hk hn
   refine⟨.bool (!b),?_,.d (.bool (!b))⟩
   simp only[eqGuard_at_slice,Sem.run_bind,Sem.run_pure,Result.andThen_ok];simp[binOp,Op.equal,Op.maxDepth,he]
 ·cases h

theorem binA_ok{op:BinOp}{t:TypeId}{x y c:AV}{vx vy:Value}(h:binA P op t x y=some c)(hx:RepA w Im g vx x)(hy:RepA w Im g vy y)(ox oy:Operand) :
  ∃ v,(do eqGuard op t ox oy vx vy;binOp op t vx vy:Sem Value).run P w=.ok v w∧RepA w Im g v c:=by
 unfold binA at h;split at h
 ·rw[int_inv hx,int_inv hy];simp only[eqGuard_at_int,Sem.run_bind,Sem.run_pure,Result.andThen_ok];split at h
  ·unfold dO at h;split at h
   ·rename_i hs;cases h;obtain⟨v,h1,h2⟩:=shiftA_ok (P:=P) (w:=w) (Im:=Im) (t:=t) hs;exact⟨v,h1,.d h2⟩
   ·cases h
  ·unfold dO at h;split at h
   ·rename_i hs;cases h;obtain⟨v,h1,h2⟩:=shiftA_ok (P:=P) (w:=w) (Im:=Im) (t:=t) hs;exact⟨v,h1,.d h2⟩
   ·cases h
  ·split at h
   ·rename_i hk;subst hk;unfold dO at h;split at h
    ·rename_i hs;cases h;obtain⟨v,h1,h2⟩:=intA_ok (P:=P) (w:=w) (Im:=Im) (t:=t) hs;exact⟨v,h1,.d h2⟩
    ·cases h
   ·cases h
 ·rw[str_inv hx,str_inv hy];simp only[eqGuard_at_string,Sem.run_bind,Sem.run_pure,Result.andThen_ok];unfold dO at h;split at h
  ·rename_i hs;cases h;obtain⟨v,h1,h2⟩:=strA_ok (P:=P) (w:=w) (Im:=Im) (t:=t) hs;exact⟨v,h1,.d h2⟩
  ·cases h
 ·rename_i hni hns;have hni':∀ k a k' b,x=.d (.int k a)→y=.d (.int k' b)→False:=fun k a k' b e1 e2=>hni k a k' b e1 e2
  split at h
  ·unfold yesO at h;split at h
   ·rename_i r hr
    cases h;exact⟨_,eqBin_ok (.inl rfl) hr hx hy hni' hns ox oy,.d (.bool _)⟩
   ·cases h
  ·unfold notO at h;split at h
   ·rename_i r hr
    cases h;exact⟨_,eqBin_ok (.inr rfl) hr hx hy hni' hns ox oy,.d (.bool _)⟩
   ·cases h
  ·cases h

end
end Go.Ab
/- The abstract evaluator is right of cells,structs,parts,pointers. Conditions: none. -/
namespace Go.Ab
open Go

structure RepC(w:World)(Im:Imm)(g:List Gh)(vs:List Value)(cs:List AV):Prop where
 len:vs.length=cs.length
 rep:∀ (i:Nat) (v:Value) (c:AV),vs[i]?=some v→cs[i]?=some c→RepA w Im g v c
 one:∀ v,v∈vs→v.oneCell'=true

section
variable {P:Program}{w:World}{Im:Imm}{g:List Gh}

theorem RepC.nil:RepC w Im g [] []:=⟨rfl,fun _ _ _ h=>by simp at h,fun _ h=>by simp at h⟩
theorem RepC.cons{v:Value}{c:AV}{vs:List Value}{cs:List AV}(h:RepA w Im g v c)(h1:v.oneCell'=true)(k:RepC w Im g vs cs):RepC w Im g (v::vs) (c::cs):=by
 refine⟨by simp[k.len],fun i u d hu hd=>?_,fun u hu=>?_⟩
 ·cases i with
  | zero=>simp at hu hd;subst hu hd;exact h
  | succ i=>exact k.rep i u d (by simpa using hu) (by simpa using hd)
 ·rcases List.mem_cons.1 hu with rfl|hu
  ·exact h1
  ·exact k.one u hu
theorem RepC.append{vs vs':List Value}{cs cs':List AV}(h:RepC w Im g vs cs)(k:RepC w Im g vs' cs'):RepC w Im g (vs++vs') (cs++cs'):=by
 refine⟨by simp[h.len,k.len],fun i u d hu hd=>?_,fun u hu=>?_⟩
 ·by_cases hi:i<vs.length
  ·rw[List.getElem?_append_left hi]at hu
   rw[List.getElem?_append_left (by rw[←h.len];exact hi)]at hd
   exact h.rep i u d hu hd
  ·rw[List.getElem?_append_right (by omega)]at hu
   rw[List.getElem?_append_right (by rw[←h.len];omega),←h.len]at hd
   exact k.rep _ u d hu hd
 ·rcases List.mem_append.1 hu with hu|hu
  ·exact h.one u hu
  ·exact k.one u hu
theorem RepC.take{vs:List Value}{cs:List AV}(h:RepC w Im g vs cs)(n:Nat):RepC w Im g (vs.take n) (cs.take n):=by
 refine⟨by simp[h.len],fun i u d hu hd=>?_,fun u hu=>h.one u (List.mem_of_mem_take hu)⟩
 rw[List.getElem?_take]at hu hd
 split at hu
 ·rw[if_pos (by assumption)]at hd;exact h.rep i u d hu hd
 ·cases hu
theorem RepC.drop{vs:List Value}{cs:List AV}(h:RepC w Im g vs cs)(n:Nat):RepC w Im g (vs.drop n) (cs.drop n):=by
 refine⟨by simp[h.len],fun i u d hu hd=>?_,fun u hu=>h.one u (List.mem_of_mem_drop hu)⟩
 rw[List.getElem?_drop]at hu hd
 exact h.rep _ u d hu hd
theorem RepC.ext{w':World}{Im':Imm}{g':List Gh}{vs:List Value}{cs:List AV}(h:RepC w Im g vs cs)(e:Ext w Im g w' Im' g'):RepC w' Im' g' vs cs:=
 ⟨h.len,fun i u d hu hd=>(h.rep i u d hu hd).ext e,h.one⟩
theorem RepC.splice{vs new:List Value}{cs new':List AV}(h:RepC w Im g vs cs)(k:RepC w Im g new new')(off:Nat):RepC w Im g (vs.take off++new++vs.drop (off+new.length)) (splice cs off new'):=by
 unfold Ab.splice;rw[←k.len];exact((h.take off).append k).append (h.drop _)
theorem RepC.agg{vs:List Value}{cs:List AV}(h:RepC w Im g vs cs):RepA w Im g (.agg ⟨vs⟩) (.agg cs):=.agg vs cs h.len h.one h.rep
theorem agg_inv{v:Value}{cs:List AV}(h:RepA w Im g v (.agg cs)):∃ vs,v=.agg ⟨vs⟩∧RepC w Im g vs cs:=by
 cases h with|agg vs _ hl h1 hr=>exact⟨vs,rfl,hl,hr,h1⟩
theorem repC_ofV(vs:List Value)(h:∀ v,v∈vs→v.oneCell'=true):RepC w Im g vs (vs.map ofV):=by
 refine⟨by simp,fun i u d hu hd=>?_,h⟩
 rw[List.getElem?_map,hu]at hd
 cases hd;exact repA_ofV u

theorem RepD.one{v:Value}{x:Dt}(h:RepD w Im v x):v.oneCell'=true:=by cases h<;>rfl
theorem RepA.one{v:Value}{c:AV}(h:RepA w Im g v c)(hc:∀ cs,c≠.agg cs)(ha:c≠.any)(ht:∀ cs,c≠.tuple cs):v.oneCell'=true∧v.cells=⟨[v]⟩:=by
 cases h with
 | any=>exact absurd rfl ha
 | d h=>cases h<;>exact⟨rfl,rfl⟩
 | full=>exact⟨rfl,rfl⟩
 | grow h=>cases h<;>exact⟨rfl,rfl⟩
 | agg=>exact absurd rfl (hc _)
 | tuple=>exact absurd rfl (ht _)
 | ptr=>exact⟨rfl,rfl⟩
 | dp=>exact⟨rfl,rfl⟩
 | arr=>exact⟨rfl,rfl⟩
 | own=>exact⟨rfl,rfl⟩
 | stk=>exact⟨rfl,rfl⟩
 | sp=>exact⟨rfl,rfl⟩
 | sv=>exact⟨rfl,rfl⟩
 | fn=>exact⟨rfl,rfl⟩
 | iface=>exact⟨rfl,rfl⟩
 | mp=>exact⟨rfl,rfl⟩
 | nilm=>exact⟨rfl,rfl⟩
 | nils=>exact⟨rfl,rfl⟩
 | bp=>exact⟨rfl,rfl⟩
 | rp=>exact⟨rfl,rfl⟩
 | rs=>exact⟨rfl,rfl⟩
 | avl=>exact⟨rfl,rfl⟩
 | yld=>exact⟨rfl,rfl⟩
theorem cellsA_ok{v:Value}{c:AV}{cs:List AV}(h:RepA w Im g v c)(hc:cellsA c=some cs):∃ vs,v.cells=⟨vs⟩∧RepC w Im g vs cs:=by
 by_cases hg:∃ l,c=.agg l
 ·obtain⟨l,rfl⟩:=hg
  cases hc;obtain⟨vs,rfl,hr⟩:=agg_inv h
  exact⟨vs,rfl,hr⟩
 ·have hne:(∀ l,c≠.agg l)∧c≠.any∧(∀ l,c≠.tuple l)∧cs=[c]:=by
   cases c<;>simp[cellsA]at hc ⊢<;>first|exact hc.symm|(exact absurd ⟨_,rfl⟩ hg)
  obtain⟨h1,h2⟩:=h.one hne.1 hne.2.1 hne.2.2.1
  exact⟨[v],h2,by rw[hne.2.2.2];exact RepC.nil.cons h h1⟩

theorem foldl_set_list(vs:List Value):∀ (k off:Nat) (cells:List Value),off+k+vs.length≤cells.length →
  (vs.zipIdx k).foldl (fun(cs:Array Value) (p:Value×Nat)=>cs.setIfInBounds (off+p.2) p.1) ⟨cells⟩=(⟨cells.take (off+k)++vs++cells.drop (off+k+vs.length)⟩:Array Value):=by
 induction vs with
 | nil=>intro k off cells h;simp
 | cons v vs ih=>
  intro k off cells h;simp only[List.zipIdx_cons,List.foldl_cons];have hs:(⟨cells⟩:Array Value).setIfInBounds (off+k) v=⟨cells.set (off+k) v⟩:=by simp
  rw[hs,ih (k+1) off _ (by simp at h ⊢;omega)]
  congr 1
  simp only[List.length_cons]at h ⊢;apply List.ext_getElem?
  intro i;have hk:off+(k+1)=off+k+1:=by omega
  rw[hk];by_cases h1:i<off+k
  ·rw[List.getElem?_append_left (by simp;omega),List.getElem?_append_left (by simp;omega),List.getElem?_append_left (by simp;omega),List.getElem?_append_left (by simp;omega)]
   rw[List.getElem?_take,List.getElem?_take,if_pos (by omega),if_pos h1,List.getElem?_set_ne (by omega)]
  ·by_cases h2:i=off+k
   ·subst h2;rw[List.getElem?_append_left (by simp;omega),List.getElem?_append_left (by simp;omega),List.getElem?_append_left (by simp;omega),List.getElem?_append_right (by simp;omega)]
    rw[List.getElem?_take,if_pos (by omega),List.getElem?_set_self (by omega)]
    simp only[List.length_take,Nat.min_eq_left (show off+k≤cells.length by omega),Nat.sub_self,List.getElem?_cons_zero]
   ·by_cases h3:i<off+k+1+vs.length
    ·rw[List.getElem?_append_left (by simp;omega),List.getElem?_append_right (by simp;omega),List.getElem?_append_left (by simp;omega),List.getElem?_append_right (by simp;omega)]
     simp only[List.length_take,List.length_set];rw[Nat.min_eq_left (by omega),Nat.min_eq_left (by omega)]
     obtain⟨j,rfl⟩:∃ j,i=off+k+1+j:=⟨i-(off+k+1),by omega⟩
     rw[show off+k+1+j-(off+k+1)=j by omega,show off+k+1+j-(off+k)=j+1 by omega,List.getElem?_cons_succ]
    ·rw[List.getElem?_append_right (by simp;omega),List.getElem?_append_right (by simp;omega)]
     simp only[List.length_append,List.length_take,List.length_set,List.length_cons];rw[Nat.min_eq_left (by omega),Nat.min_eq_left (by omega),List.getElem?_drop,List.getElem?_drop,List.getElem?_set_ne (by omega)]
     congr 1
     omega

theorem fill_ok{place:Nat→Option (Nat×Nat)}:∀ (ps:List (Nat×Value)) (as:List (Nat×AV)) (vs:List Value) (cs:List AV) (cs':List AV),ps.length=as.length →
  (∀ (i:Nat) (p:Nat×Value) (a:Nat×AV),ps[i]?=some p→as[i]?=some a→p.1=a.1∧RepA w Im g p.2 a.2)→RepC w Im g vs cs→fillA place cs as=some cs' →
  ∃ vs',Instr.fill place ⟨vs⟩ ps=some ⟨vs'⟩∧RepC w Im g vs' cs':=by
 intro ps;induction ps with
 | nil=>
  intro as vs cs cs' hl _ hr h
  cases as with
  | nil=>cases h;exact⟨vs,rfl,hr⟩
  | cons=>simp at hl
 | cons p ps ih=>
  intro as vs cs cs' hl hp hr h
  cases as with
  | nil=>simp at hl
  | cons a as=>
   obtain⟨i,v⟩:=p
   obtain⟨j,c⟩:=a
   obtain⟨e,hv⟩:=hp 0 _ _ rfl rfl
   simp only at e hv
   subst e;simp only[fillA]at h;split at h
   ·cases h
   ·rename_i off size hpl;split at h
    ·cases h
    ·rename_i cs1 hk;unfold fillK at hk;split at hk
     ·rename_i new hnew;split at hk
      ·rename_i hc
       cases hk;obtain⟨us,hus,hru⟩:=cellsA_ok hv hnew
       have hsz:v.cells.size=us.length:=by rw[hus];rfl
       have h1:¬((v.cells.size≠size||off+v.cells.size>(⟨vs⟩:Array Value).size)=true):=by
        have:=hr.len
        have:=hru.len
        simp only[hsz,ne_eq,Bool.or_eq_true,decide_eq_true_eq,not_or,List.size_toArray];simp;omega
       have h2:v.cells.zipIdx.foldl (fun cs (c,j)=>cs.setIfInBounds (off+j) c) (⟨vs⟩:Array Value)=⟨vs.take off++us++vs.drop (off+us.length)⟩:=by
        rw[hus];have:=foldl_set_list us 0 off vs (by have:=hr.len;have:=hru.len;omega)
        simp only[Nat.add_zero]at this;rw[←this];rw[←Array.foldl_toList,Array.toList_zipIdx]
       obtain⟨vs',hf,hr'⟩:=ih as _ _ cs' (by simpa using hl) (fun i p a h1 h2=>hp (i+1) p a (by simpa using h1) (by simpa using h2)) (hr.splice hru off) h
       refine⟨vs',?_,hr'⟩
       simp only[Instr.fill,hpl];rw[if_neg h1,h2];exact hf
      ·cases hk
     ·cases hk

theorem unA_ok{op:UnOp}{x c:AV}{v:Value}(h:unA op x=some c)(hx:RepA w Im g v x):∃ u,(Op.unary op v).run P w=.ok u w∧RepA w Im g u c:=by
 unfold unA at h;split at h
 ·rw[int_inv hx];split at h
  ·cases h;exact⟨_,by simp[Op.unary,Op.intArith],.d (.int _ _)⟩
  ·cases h
 ·rw[bool_inv hx];split at h
  ·cases h;exact⟨_,by simp[Op.unary],.d (.bool _)⟩
  ·cases h
 ·cases h

theorem bytesV_rep{x:AV}{v:Value}{l:List UInt8}(hx:RepA w Im g v x)(h:bytesV x=some l):∃ rows,RepD w Im v (.sl rows)∧bytesR rows=some l:=by
 unfold bytesV at h;split at h
 ·cases hx with|d hx=>exact⟨_,hx,h⟩
 ·cases hx with|full hx=>exact⟨_,hx,h⟩
 ·cases hx with|grow hx=>exact⟨_,hx,h⟩
 ·cases h
theorem bytesR_flat:∀ {rows:List (List Dt)} {l:List UInt8},bytesR rows=some l→rows.length=l.length∧∀ (k:Nat) (c:UInt8),l[k]?=some c→rows.flatten[k]?=some (.int .u8 (c.toNat:Int))
 | [],l,h=>by
  simp only[bytesR,Option.some.injEq]at h;subst h;exact⟨rfl,fun k c hc=>by simp at hc⟩
 | row::rows,l,h=>by
  unfold bytesR at h;split at h
  ·rename_i he;cases he
  ·rename_i n rs he
   cases he;unfold byteC at h
   split at h
   ·rename_i hn;obtain⟨l',h1,rfl⟩:=Option.map_eq_some_iff.1 h
    obtain⟨h2,h3⟩:=bytesR_flat h1
    refine⟨by simp[h2],fun k c hc=>?_⟩
    cases k with
    | zero=>
     simp only[List.getElem?_cons_zero,Option.some.injEq]at hc
     subst hc;simp only[List.flatten_cons,List.cons_append,List.nil_append,List.getElem?_cons_zero,Option.some.injEq,Dt.int.injEq,true_and]
     rw[UInt8.toNat_ofNat'];omega
    | succ k=>
     simp only[List.flatten_cons,List.cons_append,List.nil_append,List.getElem?_cons_succ]at hc ⊢
     exact h3 k c hc
   ·cases h
  ·cases h
theorem run_convB{s e d:TypeId}{v:Value}{rows:List (List Dt)}{l:List UInt8}(hs:P.underlying s=some (.slice e))(he:P.underlying e=some (.int .u8))(hd:P.underlying d=some .string)(hr:RepD w Im v (.sl rows))(hb:bytesR rows=some l) :
  (convert s d v).run P w=.ok (.string ⟨⟨l⟩⟩) w:=by
 obtain⟨h1,h2⟩:=bytesR_flat hb
 cases hr with
 | sl0 a cap=>
  have hl:l=[]:=by simpa using h1.symm
  subst hl
  cases a with
  | none=>simp[convert,run_underlying hs,run_underlying hd,run_underlying he,Conv.bytesToString];rfl
  | some a=>simp[convert,run_underlying hs,run_underlying hd,run_underlying he,Conv.bytesToString,loadCells];rfl
 | sl b o cap sz rows us hc hsz him hrr=>
  have hz:(⟨⟨l⟩⟩:ByteArray).size=rows.length:=h1.symm
  have:=Lib.run_convert_whole (P:=P) w s e d hs he hd b o ⟨⟨l⟩⟩ (fun i hi=>by
   have hi':i<l.length:=hi
   have hx:=h2 i l[i] (List.getElem?_eq_getElem hi')
   have hk:=(List.getElem?_eq_some_iff.1 hx).1
   rw[(him i hk).2];have:=hrr i _ hx
   generalize us i=u at this
   cases this;rfl) cap
  rw[hz]at this;exact this
theorem convA_ok{s d:TypeId}{x c:AV}{v:Value}(h:convA P s d x=some c)(hx:RepA w Im g v x):∃ u,(convert s d v).run P w=.ok u w∧RepA w Im g u c:=by
 unfold convA convK at h;split at h
 ·rename_i hs hd
  cases h;rw[int_inv hx]
  exact⟨_,by simp[convert,run_underlying (kindT_int hs),run_underlying (kindT_int hd),Conv.intToInt],.d (.int _ _)⟩
 ·rename_i hs hd
  cases h;rw[str_inv hx]
  exact⟨_,by simp[convert,run_underlying (kindT_str hs),run_underlying (kindT_str hd)],.d (.str _)⟩
 ·rename_i e hs hd;unfold convB at h;split at h
  ·rename_i he;unfold txtO at h;split at h
   ·rename_i l hl
    cases h;obtain⟨rows,hr,hb⟩:=bytesV_rep hx hl
    exact⟨_,run_convB (kindT_sl hs) (kindT_int he) (kindT_str hd) hr hb,.d (.str _)⟩
   ·cases h
  ·cases h
 ·cases h

theorem run_mapM_sizes{fs:List Field}(h:∀ f,f∈fs→(szOf P f.type).isSome=true)(w:World) :
  (fs.mapM fun f=>do pure (f.offset,←sizeOf f.type):Sem (List (Nat×Nat))).run P w=.ok (fs.map fun f=>(f.offset,(szOf P f.type).getD 0)) w:=by
 induction fs with
 | nil=>rfl
 | cons f fs ih=>
  obtain⟨n,hn⟩:=Option.isSome_iff_exists.1 (h f (by simp))
  simp only[List.mapM_cons,Sem.run_bind,run_sizeOf' hn,Result.andThen_ok,Sem.run_pure,ih (fun f hf=>h f (by simp[hf])),List.map_cons,hn,Option.getD_some]

theorem buildA_ok{t:TypeId}{ps:List (Nat×Value)}{as:List (Nat×AV)}{c:AV}(hl:ps.length=as.length)
  (hp:∀ (i:Nat) (p:Nat×Value) (a:Nat×AV),ps[i]?=some p→as[i]?=some a→p.1=a.1∧RepA w Im g p.2 a.2) (h:buildA P t as=some c) :
  ∃ v,(Instr.build t ⟨ps⟩).run P w=.ok v w∧RepA w Im g v c:=by
 unfold buildA buildK at h;split at h
 ·rename_i z hz;unfold buildZ at hz;split at hz
  ·rename_i fs hu;split at hz
   ·rename_i hfs;obtain⟨i,v,hi,hzv,rfl,h1⟩:=zeroOf_some hz
    unfold aggO at h;split at h
    ·rename_i cs hf
     cases h;have hkt:kindT P t=.st:=by unfold kindT;rw[hu]
     have hplace:(fun i=>plc P t i (kindT P t))=fun(i:Nat)=>(fs.toList.map fun f=>(f.offset,(szOf P f.type).getD 0))[i]?:=by
      rw[hkt];funext i
      rw[List.getElem?_map,Array.getElem?_toList]
      unfold plc fld placeK;rw[hu];simp only
      cases hfi:fs[i]? with
      | none=>rfl
      | some f=>
       have:f∈fs.toList:=by
        rw[Array.mem_toList_iff];exact Array.mem_of_getElem? hfi
       obtain⟨n,hn⟩:=Option.isSome_iff_exists.1 (List.all_eq_true.1 hfs f this)
       simp[hn]
     rw[hplace]at hf;obtain⟨vs',hfv,hr'⟩:=fill_ok (w:=w) (Im:=Im) (g:=g) ps as v.cells.toList _ cs hl hp (repC_ofV _ (fun u hu'=>h1 u (by simpa using hu'))) hf
     refine⟨_,?_,hr'.agg⟩
     have hm:(fs.mapM fun f=>do pure (f.offset,←sizeOf f.type):Sem (Array (Nat×Nat))).run P w=.ok (fs.toList.map fun f=>(f.offset,(szOf P f.type).getD 0)).toArray w:=by
      rw[Array.mapM_eq_mapM_toList];simp only[Sem.run_map,run_mapM_sizes (P:=P) (fun f hf=>List.all_eq_true.1 hfs f hf) w,Result.andThen_ok]
     simp only[Instr.build,zeroValue,typeInfo,Sem.run_bind,run_program,Result.andThen_ok,hi,Sem.run_pure,hzv,run_underlying hu,hm]
     have hpl:(fun(x:Nat)=>(fs.toList.map fun f=>(f.offset,(szOf P f.type).getD 0)).toArray[x]?)=fun(i:Nat)=>(fs.toList.map fun f=>(f.offset,(szOf P f.type).getD 0))[i]?:=by
      funext i;simp
     have hvc:v.cells=⟨v.cells.toList⟩:=rfl
     rw[hpl,hvc,hfv];rfl
    ·cases h
   ·cases hz
  ·rename_i n e hu;split at hz
   ·rename_i hfs;obtain⟨i,v,hi,hzv,rfl,h1⟩:=zeroOf_some hz
    obtain⟨s,hs⟩:=Option.isSome_iff_exists.1 hfs
    unfold aggO at h;split at h
    ·rename_i cs hf
     cases h;have hkt:kindT P t=.arr n e:=by unfold kindT;rw[hu]
     have hplace:(fun i=>plc P t i (kindT P t))=fun(i:Nat)=>some (i*s,s):=by
      rw[hkt];funext i
      unfold plc plcS;simp only[hs]
     rw[hplace]at hf;obtain⟨vs',hfv,hr'⟩:=fill_ok (w:=w) (Im:=Im) (g:=g) ps as v.cells.toList _ cs hl hp (repC_ofV _ (fun u hu'=>h1 u (by simpa using hu'))) hf
     refine⟨_,?_,hr'.agg⟩
     simp only[Instr.build,zeroValue,typeInfo,Sem.run_bind,run_program,Result.andThen_ok,hi,Sem.run_pure,hzv,run_underlying hu,run_sizeOf' hs];have hvc:v.cells=⟨v.cells.toList⟩:=rfl
     rw[hvc,hfv];rfl
    ·cases h
   ·cases hz
  ·cases hz
 ·cases h
end
end Go.Ab
/- The abstract evaluator is right of what only reads. Conditions: none. -/
namespace Go.Ab
open Go

section
variable {P:Program}{w:World}{Im:Imm}{g:List Gh}

theorem flatten_len{sz:Nat}:∀ {rows:List (List Dt)},(∀ row,row∈rows→row.length=sz)→rows.flatten.length=rows.length*sz
 | [],_=>by simp
 | r::rows,h=>by
  rw[List.flatten_cons,List.length_append,h r (by simp),flatten_len (fun x hx=>h x (by simp[hx])),List.length_cons,Nat.add_mul];omega
theorem flatten_at{sz:Nat}:∀ {rows:List (List Dt)} {i:Nat} {row:List Dt},(∀ row,row∈rows→row.length=sz)→rows[i]?=some row→∀ j,j<sz→rows.flatten[i*sz+j]?=row[j]?
 | [],i,row,_,h,_,_=>by simp at h
 | r::rows,0,row,hs,h,j,hj=>by
  simp at h;subst h;rw[List.flatten_cons,Nat.zero_mul,Nat.zero_add,List.getElem?_append_left (by rw[hs r (by simp)];exact hj)]
 | r::rows,i+1,row,hs,h,j,hj=>by
  rw[List.flatten_cons,List.getElem?_append_right (by rw[hs r (by simp),Nat.add_mul];omega),hs r (by simp)]
  rw[show(i+1)*sz+j-sz=i*sz+j by rw[Nat.add_mul];omega]
  exact flatten_at (fun x hx=>hs x (by simp[hx])) (by simpa using h) j hj
theorem mul_lt_len{n i sz j:Nat}(h:i<n)(hj:j<sz):i*sz+j<n*sz:=by
 have:(i+1)*sz≤n*sz:=Nat.mul_le_mul_right _ h
 rw[Nat.add_mul]at this;omega

theorem CellsD.drop{b o:Nat}{xs:List Dt}(h:CellsD w Im b o xs)(k:Nat):CellsD w Im b (o+k) (xs.drop k):=by
 obtain⟨us,h1,h2⟩:=h
 refine⟨fun i=>us (k+i),fun i hi=>?_,fun i x hx=>?_⟩
 ·have:=h1 (k+i) (by simp at hi;omega)
  rwa[←Nat.add_assoc]at this
 ·rw[List.getElem?_drop]at hx;exact h2 _ _ hx

theorem RepD.rows{v:Value}{rows:List (List Dt)}(h:RepD w Im v (.sl rows)):∃ (a:Option Addr) (cap:Nat),v=.slice a rows.length cap∧(rows.length≤cap∨rows=[])∧(rows=[]∨∃ (b o sz:Nat) (us:Nat→Value),a=some ⟨b,o,none⟩∧(∀ row,row∈rows→row.length=sz) ∧
  (∀ k,k<rows.flatten.length→Im b (o+k)∧w.cell? ⟨b,o+k,none⟩=some (us k))∧∀ (k:Nat) (x:Dt),rows.flatten[k]?=some x→RepD w Im (us k) x):=by
 cases h with
 | sl0 a cap=>exact⟨a,cap,rfl,.inr rfl,.inl rfl⟩
 | sl b o cap sz rows us hc hsz him hr=>exact⟨_,cap,rfl,.inl hc,.inr ⟨b,o,sz,us,rfl,hsz,him,hr⟩⟩

theorem rowsA_ok{v:Value}{c:AV}{rows:List (List Dt)}(h:RepA w Im g v c)(hc:rowsA c=some rows):RepD w Im v (.sl rows):=by
 unfold rowsA at hc;split at hc
 ·cases hc;cases h with|d h=>exact h
 ·cases hc;cases h with|full h=>exact h
 ·cases hc;cases h with|grow h=>exact h
 ·cases hc

theorem RepD.row{v:Value}{rows:List (List Dt)}{i:Nat}{row:List Dt}(h:RepD w Im v (.sl rows))(hr:rows[i]?=some row) :
  ∃ b o cap,v=.slice (some ⟨b,o,none⟩) rows.length cap∧CellsD w Im b (o+i*row.length) row:=by
 obtain⟨a,cap,rfl,_,h⟩:=h.rows
 rcases h with rfl|⟨b,o,sz,us,rfl,hsz,him,hrep⟩
 ·simp at hr
 ·refine⟨b,o,cap,rfl,fun j=>us (i*sz+j),fun j hj=>?_,fun j x hx=>?_⟩
  ·have hrl:=hsz row (List.mem_of_getElem? hr)
   rw[hrl]at hj ⊢;have:=him (i*sz+j) (by rw[flatten_len hsz];exact mul_lt_len (List.getElem?_eq_some_iff.1 hr).1 hj)
   rwa[←Nat.add_assoc]at this
  ·have hrl:=hsz row (List.mem_of_getElem? hr)
   have hj:j<sz:=by rw[←hrl];exact(List.getElem?_eq_some_iff.1 hx).1
   exact hrep _ _ (by rw[flatten_at hsz hr j hj];exact hx)

theorem loadVar_ok{t:TypeId}{vs:List Value}{cs:List AV}{b o off:Nat}{c:AV}(h:partA P t cs off=some c)(hl:cs.length≤vs.length)(h1:∀ v,v∈vs→v.oneCell'=true)
  (hr:∀ (i:Nat) (v:Value) (c:AV),vs[i]?=some v→cs[i]?=some c→RepA w Im g v c) (hc:∀ (j:Nat) (v:Value),vs[j]?=some v→w.cell? ⟨b,o+j,none⟩=some v) :
  ∃ v,(loadVar t ⟨b,o+off,none⟩).run P w=.ok v w∧RepA w Im g v c:=by
 unfold partA partK at h;split at h
 ·rename_i n ha hs;split at h
  ·rename_i hle
   cases h;have hlen:((vs.drop off).take n).length=n:=by simp;omega
   refine⟨.agg ⟨(vs.drop off).take n⟩,?_,?_⟩
   ·have hlc:=run_loadCells_list (P:=P) w ⟨b,o+off,none⟩ ((vs.drop off).take n) (fun j v hv=>by
     rw[getElem?_take_drop]at hv
     split at hv
     ·rw[Addr.add_lit,Nat.add_assoc];exact hc _ _ hv
     ·cases hv)
    rw[hlen]at hlc;simp only[loadVar,Sem.run_bind,run_isAg ha,Result.andThen_ok,if_true,run_sizeOf' hs,hlc,Sem.run_pure]
   ·refine .agg _ _ ?_ (fun v hv=>h1 v (List.mem_of_mem_drop (List.mem_of_mem_take hv))) ?_
    ·simp only[List.length_take,List.length_drop];omega
    ·intro i v c hv hc;rw[getElem?_take_drop]at hv hc
     split at hv
     ·rw[if_pos (by assumption)]at hc
      exact hr _ _ _ hv hc
     ·cases hv
  ·cases h
 ·rename_i ha
  have hlt:off<vs.length:=by
   have:=(List.getElem?_eq_some_iff.1 h).1;omega
  refine⟨vs[off],?_,hr off _ _ (List.getElem?_eq_getElem hlt) h⟩
  simp only[loadVar,Sem.run_bind,run_isAg ha,Result.andThen_ok,Bool.false_eq_true,if_false,run_load,hc off _ (List.getElem?_eq_getElem hlt)]
 ·cases h

theorem getD_cells{H:List AObj}{r:Nat}{cs:List AV}(h:cellsOf (H.getD r .no)=some cs):H[r]?=some (.cells cs):=by
 unfold cellsOf at h;split at h
 ·rename_i cs' hg
  cases h;rw[List.getD_eq_getElem?_getD]at hg
  cases hr:H[r]? with
  | none=>rw[hr]at hg;cases hg
  | some o=>rw[hr]at hg;simp at hg;rw[hg]
 ·cases h

theorem stkOf_some{H:List AObj}{r e:Nat}{cs:List AV}(h:stkOf e (H.getD r .no)=some cs):∃ sz,H[r]?=some (.stk e sz cs):=by
 rw[List.getD_eq_getElem?_getD]at h
 cases hr:H[r]? with
 | none=>rw[hr]at h;cases h
 | some o=>
  rw[hr]at h;simp only[Option.getD_some]at h;unfold stkOf at h;split at h
  ·split at h
   ·rename_i he;subst he;cases h;exact⟨_,rfl⟩
   ·cases h
  ·cases h
theorem regC_some{H:List AObj}{bs:List (List AV)}(h:regC (H.getD 0 .no)=some bs):H[0]?=some (.reg bs):=by
 rw[List.getD_eq_getElem?_getD]at h
 cases hx:H[0]? with
 | none=>rw[hx]at h;cases h
 | some o=>
  rw[hx]at h;simp only[Option.getD_some]at h
  cases o<;>simp only[regC]at h<;>cases h
  rfl
theorem regCell_some{H:List AObj}{k:Nat}{cs:List AV}(h:regCell k (regC (H.getD 0 .no))=some cs):∃ bs,H[0]?=some (.reg bs)∧bs[k]?=some cs:=by
 unfold regCell at h;split at h
 ·rename_i bs hb;exact⟨bs,regC_some hb,h⟩
 ·cases h
theorem loadA_ok{H:List AObj}{t:TypeId}{x c:AV}{v:Value}(hH:HR P w Im g H)(hx:RepA w Im g v x)(h:loadA P t H x=some c):∃ u,(Instr.loadAt t v).run P w=.ok u w∧RepA w Im g u c:=by
 unfold loadA at h;split at h
 ·rename_i r off;unfold loadK at h;split at h
  ·rename_i cs hcs;obtain⟨b,hb,vs,ty,hv,hl,hrep,h1,_⟩:=hH.cells r cs (getD_cells hcs)
   cases hx with
   | ptr hg=>
    rw[hb]at hg
    cases hg
    obtain⟨u,hu,hru⟩:=loadVar_ok (P:=P) (w:=w) (b:=b) (o:=0) h hl h1 hrep (fun j v hj=>by
     simp only[World.cell?,hv,Nat.zero_add];simpa using hj)
    refine⟨u,?_,hru⟩
    rw[Nat.zero_add]at hu;simpa[Instr.loadAt,Instr.sureAddr]using hu
  ·cases h
 ·rename_i cs
  cases hx with
  | dp hd=>
   rename_i b o;obtain⟨us,h1,h2⟩:=hd
   have hlen:((List.range cs.length).map us).length=cs.length:=by simp
   obtain⟨u,hu,hru⟩:=loadVar_ok (P:=P) (w:=w) (Im:=Im) (g:=g) (b:=b) (o:=o) (vs:=(List.range cs.length).map us) h (by simp) (fun v hv=>by
     simp only[List.mem_map,List.mem_range]at hv;obtain⟨k,hk,rfl⟩:=hv
     exact(h2 k _ (List.getElem?_eq_getElem hk)).one) (fun i v c hv hc=>by
     rw[List.getElem?_map]at hv hc
     by_cases hi:i<cs.length
     ·rw[List.getElem?_range hi]at hv
      rw[List.getElem?_eq_getElem hi]at hc
      cases hv;cases hc
      exact .d (h2 i _ (List.getElem?_eq_getElem hi))
     ·rw[List.getElem?_eq_none (by omega)]at hc;cases hc) (fun j v hj=>by
     rw[List.getElem?_map]at hj
     by_cases hi:j<cs.length
     ·rw[List.getElem?_range hi]at hj
      cases hj;exact(h1 j hi).2
     ·rw[List.getElem?_eq_none (by simp;omega)]at hj;cases hj)
   exact⟨u,by simpa[Instr.loadAt,Instr.sureAddr]using hu,hru⟩
 ·rename_i r e off;unfold loadK at h;split at h
  ·rename_i cs hcs;obtain⟨sz,hHr⟩:=stkOf_some hcs
   obtain⟨base,cap,hb,_,_,k4⟩:=hH.stk r e sz cs hHr
   cases hx with
   | @sp _ _ _ _ _ _ _ _ bk hg hle he=>
    rw[hb]at hg
    cases hg;obtain⟨e1,e2⟩:=he rfl
    subst e1;obtain⟨vs,ty,hv,_,hl,hrep,h1,_⟩:=k4 bk rfl e2
    obtain⟨u,hu,hru⟩:=loadVar_ok (P:=P) (w:=w) (b:=bk) (o:=0) h hl h1 hrep (fun j v hj=>by
     simp only[World.cell?,hv,Nat.zero_add];simpa using hj)
    refine⟨u,?_,hru⟩
    rw[Nat.zero_add]at hu;simpa[Instr.loadAt,Instr.sureAddr]using hu
  ·cases h
 ·rename_i k off;unfold loadK at h;split at h
  ·rename_i cs hcs;obtain⟨bs,hH0,hget⟩:=regCell_some hcs
   obtain⟨blks,hb,_,_,k4⟩:=hH.rg.at_ bs hH0
   cases hx with
   | @rp _ _ bb _ hg hk=>
    rw[hb]at hg
    cases hg;obtain⟨vs,ty,hv,hl,hrep,h1,_⟩:=k4 k _ cs hk hget
    obtain⟨u,hu,hru⟩:=loadVar_ok (P:=P) (w:=w) (b:=bb) (o:=0) h hl h1 hrep (fun j v hj=>by
     simp only[World.cell?,hv,Nat.zero_add];simpa using hj)
    refine⟨u,?_,hru⟩
    rw[Nat.zero_add]at hu;simpa[Instr.loadAt,Instr.sureAddr]using hu
  ·cases h
 ·cases h

theorem fld_some{s:TypeId}{f o n:Nat}{t:TypeId}(h:fld P s f=some (o,n,t)):∃ fs x,P.underlying s=some (.struct fs)∧fs[f]?=some x∧x.offset=o∧szOf P x.type=some n∧x.type=t:=by
 unfold fld at h;split at h
 ·rename_i fs hu
  cases hx:fs[f]? with
  | none=>rw[hx]at h;cases h
  | some x=>
   rw[hx]at h
   cases hs:szOf P x.type with
   | none=>simp[hs]at h
   | some n'=>
    simp[hs]at h;exact⟨fs,x,hu,hx,h.1,by rw[hs];simp[h.2.1],h.2.2⟩
 ·cases h

theorem fieldAddrA_ok{s:TypeId}{f:Nat}{x c:AV}{v:Value}(hx:RepA w Im g v x)(h:fieldAddrA P s f x=some c):∃ u,(Instr.fieldAt s v f).run P w=.ok u w∧RepA w Im g u c:=by
 unfold fieldAddrA fieldAddrK at h;split at h
 ·rename_i r off o n t hf
  cases h;obtain⟨fs,x',hu,hx',rfl,hs,rfl⟩:=fld_some hf
  cases hx with
  | ptr hg=>
   refine⟨_,?_,.ptr hg⟩
   simp[Instr.fieldAt,run_underlying hu,hx',Instr.sureAddr,fieldPlace,run_sizeOf' hs,Addr.add_lit]
 ·rename_i cs o n t hf
  cases h;obtain⟨fs,x',hu,hx',rfl,hs,rfl⟩:=fld_some hf
  cases hx with
  | dp hd=>
   refine⟨_,?_,.dp (hd.drop _)⟩
   simp[Instr.fieldAt,run_underlying hu,hx',Instr.sureAddr,fieldPlace,run_sizeOf' hs,Addr.add_lit]
 ·rename_i r e off o n t hf
  cases h;obtain⟨fs,x',hu,hx',rfl,hs,rfl⟩:=fld_some hf
  cases hx with
  | sp hg hle he=>
   refine⟨_,?_,.sp hg hle he⟩
   simp[Instr.fieldAt,run_underlying hu,hx',Instr.sureAddr,fieldPlace,run_sizeOf' hs,Addr.add_lit]
 ·rename_i k off o n t hf
  cases h;obtain⟨fs,x',hu,hx',rfl,hs,rfl⟩:=fld_some hf
  cases hx with
  | rp hg hk=>
   refine⟨_,?_,.rp hg hk⟩
   simp[Instr.fieldAt,run_underlying hu,hx',Instr.sureAddr,fieldPlace,run_sizeOf' hs,Addr.add_lit]
 ·cases h

theorem fieldA_ok{s:TypeId}{f:Nat}{x c:AV}{v:Value}(hx:RepA w Im g v x)(h:fieldA P s f x=some c):∃ u,(Instr.field s v f).run P w=.ok u w∧RepA w Im g u c:=by
 unfold fieldA fieldK at h;split at h
 ·rename_i cs o n t hf;obtain⟨fs,x',hu,hx',rfl,hs,rfl⟩:=fld_some hf
  obtain⟨vs,rfl,hr⟩:=agg_inv hx
  obtain⟨u,hu',hru⟩:=partA_ok (P:=P) h (by rw[hr.len];exact Nat.le_refl _) hr.one hr.rep
  exact⟨u,by simp[Instr.field,run_underlying hu,hx',asAgg,hu'],hru⟩
 ·cases h

theorem indexRows_ok{t e:TypeId}{rows:List (List Dt)}{k:IntKind}{n:Int}{s:Nat}{c:AV}{v:Value}(hk:kindT P t=.sl e)(hs:szOf P e=some s)(hv:RepD w Im v (.sl rows))(h:indexRows s rows n=some c) :
  ∃ u,(Instr.indexAt t v (.int k n)).run P w=.ok u w∧RepA w Im g u c:=by
 unfold indexRows at h;split at h
 ·rename_i h0;unfold rowK at h;split at h
  ·rename_i row hrow;split at h
   ·rename_i hlen
    cases h;obtain⟨b,o,cap,rfl,hc⟩:=hv.row hrow
    have hlt:=(List.getElem?_eq_some_iff.1 hrow).1
    have hn:0≤n∧n<(rows.length:Int):=⟨h0,by omega⟩
    rw[hlen]at hc;refine⟨_,?_,.dp hc⟩
    simp[Instr.indexAt,asIntOf,run_underlying (kindT_sl hk),run_sizeOf' hs,hn,Addr.add_lit]
   ·cases h
  ·cases h
 ·cases h

theorem indexAddrA_ok{t:TypeId}{x i c:AV}{v vi:Value}(hx:RepA w Im g v x)(hi:RepA w Im g vi i)(h:indexAddrA P t x i=some c):∃ u,(Instr.indexAt t v vi).run P w=.ok u w∧RepA w Im g u c:=by
 unfold indexAddrA at h;have hx:=unO_ok hx
 generalize unO x=x at hx h;unfold indexAddrK at h;split at h
 ·rename_i e k n hk;rw[int_inv hi];unfold indexSl at h;split at h
  ·rename_i r off len esz s hs;split at h
   ·rename_i hn;obtain⟨h0,h1,rfl⟩:=hn
    cases h
    cases hx with
    | arr hg ho hc=>
     have ho':=ho.resolve_right (by omega)
     subst ho';refine⟨_,?_,.ptr hg⟩
     simp[Instr.indexAt,asIntOf,run_underlying (kindT_sl hk),run_sizeOf' hs,h0,h1,Addr.add_lit]
   ·cases h
  ·rename_i rows s hs;exact indexRows_ok hk hs (rowsA_ok hx rfl) h
  ·rename_i rows s hs;exact indexRows_ok hk hs (rowsA_ok hx rfl) h
  ·rename_i rows s hs;exact indexRows_ok hk hs (rowsA_ok hx rfl) h
  ·rename_i r ep m s hs;split at h
   ·rename_i hn;obtain⟨h0,h1⟩:=hn
    cases h
    cases hx with
    | @stk _ _ _ _ _ _ _ _ b0 c0 hg hle hpos hcn he=>
     cases b0 with
     | none=>exact absurd rfl (hpos (by omega))
     | some b=>
      refine⟨_,?_,.sp hg hle (fun e=>?_) (b:=b)⟩
      ·simp[Instr.indexAt,asIntOf,run_underlying (kindT_sl hk),run_sizeOf' hs,h0,h1,Addr.add_lit]
      ·obtain⟨q1,q2⟩:=he e
       exact⟨q1.symm,by omega⟩
   ·cases h
  ·rename_i r ep off m s hs;split at h
   ·rename_i hn;obtain⟨h0,h1⟩:=hn
    cases h
    cases hx with
    | @sv _ _ _ off' _ _ _ _ _ _ b0 c0 hg hle hpos ho hcn he=>
     have ho':=ho.resolve_right (by omega)
     subst ho'
     cases b0 with
     | none=>exact absurd rfl (hpos (by omega))
     | some b=>
      refine⟨_,?_,.sp hg hle (fun e=>?_) (b:=b)⟩
      ·simp[Instr.indexAt,asIntOf,run_underlying (kindT_sl hk),run_sizeOf' hs,h0,h1,Addr.add_lit]
      ·obtain⟨q1,q2⟩:=he e
       exact⟨q1.symm,q2 (by omega)⟩
   ·cases h
  ·rename_i k' off len esz s hs;split at h
   ·rename_i hn;obtain⟨h0,h1,rfl⟩:=hn
    cases h
    cases hx with
    | rs hg hb ho hc=>
     have ho':=ho.resolve_right (by omega)
     subst ho';refine⟨_,?_,.rp hg hb⟩
     simp[Instr.indexAt,asIntOf,run_underlying (kindT_sl hk),run_sizeOf' hs,h0,h1,Addr.add_lit]
   ·cases h
  ·cases h
 ·rename_i len e k n hk;rw[int_inv hi];unfold indexAr at h;split at h
  ·rename_i r off s hs;split at h
   ·rename_i hn
    cases h
    cases hx with
    | ptr hg=>
     refine⟨_,?_,.ptr hg⟩
     simp[Instr.indexAt,asIntOf,run_underlying (kindT_arr hk),Instr.sureAddr,run_sizeOf' hs,hn.1,hn.2,Addr.add_lit]
   ·cases h
  ·cases h
 ·cases h

theorem indexA_ok{t:TypeId}{x i c:AV}{v vi:Value}(hx:RepA w Im g v x)(hi:RepA w Im g vi i)(h:indexA P t x i=some c):∃ u,(Instr.index t v vi).run P w=.ok u w∧RepA w Im g u c:=by
 unfold indexA indexK at h;split at h
 ·rename_i l k n hk;rw[int_inv hi,str_inv hx];unfold indexStr at h;split at h
  ·rename_i h0;unfold byteK at h;split at h
   ·rename_i c' hc
    cases h;refine⟨.int .u8 c'.toNat,?_,.d (.int _ _)⟩
    have hb:(⟨⟨l⟩⟩:ByteArray)[n.toNat]?=some c':=by
     obtain⟨hlt,he⟩:=List.getElem?_eq_some_iff.1 hc
     have hlt':n.toNat<(⟨⟨l⟩⟩:ByteArray).size:=hlt
     rw[ByteArray.getElem?_lt' _ _ hlt',←he]
     rfl
    simp[Instr.index,asIntOf,run_underlying (kindT_str hk),h0,hb]
   ·cases h
  ·cases h
 ·rename_i len e cs k n hk;rw[int_inv hi];obtain⟨vs,rfl,hr⟩:=agg_inv hx
  unfold indexArr at h;split at h
  ·rename_i s hs;split at h
   ·rename_i hn;obtain⟨u,hu',hru⟩:=partA_ok (P:=P) h (by rw[hr.len];exact Nat.le_refl _) hr.one hr.rep
    exact⟨u,by simp[Instr.index,asIntOf,run_underlying (kindT_arr hk),run_sizeOf' hs,hn.1,hn.2,hu'],hru⟩
   ·cases h
  ·cases h
 ·cases h

theorem lenA_ok{t ty:TypeId}{ts:List TypeId}{x c:AV}{v:Value}{vs:List Value}(hx:RepA w Im g v x)(h:lenA P t x=some c):∃ u,(Builtin.len_ ⟨t::ts⟩ ty ⟨v::vs⟩).run P w=.ok u w∧RepA w Im g u c:=by
 unfold lenA at h;have hx:=unO_ok hx
 generalize unO x=x at hx h;unfold lenK at h;split at h
 ·rename_i l hk
  cases h;rw[str_inv hx]
  exact⟨.int .i64 l.length,by simp[Builtin.len_,run_underlying (kindT_str hk)];rfl,.d (.int _ _)⟩
 ·rename_i e rows hk
  cases h;obtain⟨a,cap,rfl,_⟩:=(rowsA_ok hx rfl).rows
  exact⟨.int .i64 rows.length,by simp[Builtin.len_,run_underlying (kindT_sl hk),goInt],.d (.int _ _)⟩
 ·rename_i e rows hk
  cases h;obtain⟨a,cap,rfl,_⟩:=(rowsA_ok hx rfl).rows
  exact⟨.int .i64 rows.length,by simp[Builtin.len_,run_underlying (kindT_sl hk),goInt],.d (.int _ _)⟩
 ·rename_i e r ep rows hk
  cases h;obtain⟨a,cap,rfl,_⟩:=(rowsA_ok hx rfl).rows
  exact⟨.int .i64 rows.length,by simp[Builtin.len_,run_underlying (kindT_sl hk),goInt],.d (.int _ _)⟩
 ·rename_i e r off len esz hk
  cases h
  cases hx with
  | arr hg ho hc=>exact⟨.int .i64 len,by simp[Builtin.len_,run_underlying (kindT_sl hk),goInt],.d (.int _ _)⟩
 ·rename_i e r ep n hk
  cases h
  cases hx with
  | stk=>exact⟨.int .i64 n,by simp[Builtin.len_,run_underlying (kindT_sl hk),goInt],.d (.int _ _)⟩
 ·rename_i e r ep off n hk
  cases h
  cases hx with
  | sv=>exact⟨.int .i64 n,by simp[Builtin.len_,run_underlying (kindT_sl hk),goInt],.d (.int _ _)⟩
 ·rename_i e k off n esz hk
  cases h
  cases hx with
  | rs=>exact⟨.int .i64 n,by simp[Builtin.len_,run_underlying (kindT_sl hk),goInt],.d (.int _ _)⟩
 ·rename_i e n sz cs hk
  cases h
  cases hx with
  | avl=>exact⟨.int .i64 n,by simp[Builtin.len_,run_underlying (kindT_sl hk),goInt],.d (.int _ _)⟩
 ·rename_i n e hk
  cases h;exact⟨.int .i64 n,by simp[Builtin.len_,run_underlying (kindT_arr hk),goInt],.d (.int _ _)⟩
 ·cases h

theorem nilCheckA_ok{x c:AV}{v:Value}(hx:RepA w Im g v x)(h:nilCheckA x=some c):x=c∧((∃ a,v=.pointer (some a))∨∃ f a b,v=.func (.func f) a b):=by
 unfold nilCheckA at h;split at h
 ·cases h;cases hx;exact⟨rfl,.inl ⟨_,rfl⟩⟩
 ·cases h;cases hx;exact⟨rfl,.inl ⟨_,rfl⟩⟩
 ·cases h;cases hx;exact⟨rfl,.inl ⟨_,rfl⟩⟩
 ·cases h;cases hx;exact⟨rfl,.inl ⟨_,rfl⟩⟩
 ·cases h;cases hx;exact⟨rfl,.inr ⟨_,_,_,rfl⟩⟩
 ·cases h

theorem extractA_ok{i:Nat}{x c:AV}{v:Value}(hx:RepA w Im g v x)(h:extractA i x=some c):∃ u,(Instr.extract v i).run P w=.ok u w∧RepA w Im g u c:=by
 unfold extractA at h;split at h
 ·cases hx with
  | tuple vs cs hl hr=>
   have hlt:=(List.getElem?_eq_some_iff.1 h).1
   have hv:vs[i]?=some vs[i]:=List.getElem?_eq_getElem (by omega)
   exact⟨vs[i],by simp[Instr.extract,hv],hr i _ _ hv h⟩
 ·cases h

theorem pickA_ok{a b c d:AV}{vc va vb:Value}(hc:RepA w Im g vc c)(ha:RepA w Im g va a)(hb:RepA w Im g vb b)(h:pickA a b c=some d) :
  ∃ u,(do pure (if ←asBool vc then va else vb):Sem Value).run P w=.ok u w∧RepA w Im g u d:=by
 unfold pickA at h;split at h
 ·rename_i t
  cases h;rw[bool_inv hc]
  refine⟨if t then va else vb,by simp[asBool],?_⟩
  cases t
  ·simpa using hb
  ·simpa using ha
 ·cases h

theorem maxA_ok{ts:Array TypeId}{ty:TypeId}{cs:List AV}{vs:List Value}{c:AV}(hl:vs.length=cs.length)(hr:∀ (i:Nat) (v:Value) (c:AV),vs[i]?=some v→cs[i]?=some c→RepA w Im g v c)(h:maxA cs=some c) :
  ∃ u,(Builtin.max_ ts ty ⟨vs⟩).run P w=.ok u w∧RepA w Im g u c:=by
 unfold maxA at h;split at h
 ·rename_i k x k' y
  cases h;match vs,hl with
  | [v1,v2],_=>
   have e1:=int_inv (hr 0 v1 _ rfl rfl)
   have e2:=int_inv (hr 1 v2 _ rfl rfl)
   subst e1 e2;refine⟨.int k (if x<y then y else x),?_,.d (.int _ _)⟩
   simp[Builtin.max_,Builtin.max2]
 ·cases h
theorem minA_ok{ts:Array TypeId}{ty:TypeId}{cs:List AV}{vs:List Value}{c:AV}(hl:vs.length=cs.length)(hr:∀ (i:Nat) (v:Value) (c:AV),vs[i]?=some v→cs[i]?=some c→RepA w Im g v c)(h:minA cs=some c) :
  ∃ u,(Builtin.min_ ts ty ⟨vs⟩).run P w=.ok u w∧RepA w Im g u c:=by
 unfold minA at h;split at h
 ·rename_i k x k' y
  cases h;match vs,hl with
  | [v1,v2],_=>
   have e1:=int_inv (hr 0 v1 _ rfl rfl)
   have e2:=int_inv (hr 1 v2 _ rfl rfl)
   subst e1 e2;refine⟨.int k (if y<x then y else x),?_,.d (.int _ _)⟩
   simp[Builtin.min_,Builtin.min2]
 ·cases h
end
end Go.Ab
/- The abstract evaluator is right of what makes and writes memory. Conditions: none. -/
namespace Go.Ab
open Go

section
variable {P:Program}{w:World}{Im:Imm}{g:List Gh}

def BoundRep(w:World)(Im:Imm)(g:List Gh):Option Value→Option AV→Prop
 | none,none=>True
 | some v,some c=>RepA w Im g v c
 | _,_=>False

theorem bound_inv{v:Option Value}{c:Option AV}{a:Option Int}(h:BoundRep w Im g v c)(hb:boundA c=some a):(v=none∧a=none)∨∃ k n,v=some (.int k n)∧a=some n:=by
 unfold boundA at hb;split at hb
 ·cases v with
  | none=>cases hb;exact .inl ⟨rfl,rfl⟩
  | some=>exact h.elim
 ·rename_i k n
  cases v with
  | none=>exact h.elim
  | some v=>cases hb;exact .inr ⟨k,n,by rw[int_inv h],rfl⟩
 ·cases hb

theorem cutA_len{α:Type}{l l':List α}{a b:Option Int}(h:cutA l a b=some l'):∃ (i j:Nat),i≤j∧j≤l.length∧l'=(l.drop i).take (j-i)∧(a=none→i=0)∧(∀ n,a=some n→0≤n∧n≤(j:Int)∧i=n.toNat)∧(b=none→j=l.length)∧(∀ n,b=some n→0≤n∧n≤(l.length:Int)∧j=n.toNat):=by
 unfold cutA at h;split at h
 ·cases h;exact⟨0,l.length,by omega,by omega,by simp,fun _=>rfl,fun n e=>(by cases e),fun _=>rfl,fun n e=>(by cases e)⟩
 ·rename_i n;split at h
  ·cases h;refine⟨n.toNat,l.length,by omega,by omega,?_,fun e=>(by cases e),fun m e=>(by cases e;exact⟨by omega,by omega,rfl⟩),fun _=>rfl,fun m e=>(by cases e)⟩
   rw[List.take_of_length_le (by simp)]
  ·cases h
 ·rename_i n;split at h
  ·cases h;exact⟨0,n.toNat,by omega,by omega,by simp,fun _=>rfl,fun m e=>(by cases e),fun e=>(by cases e),fun m e=>(by cases e;exact⟨by omega,by omega,rfl⟩)⟩
  ·cases h
 ·rename_i n m;split at h
  ·cases h;exact⟨n.toNat,m.toNat,by omega,by omega,rfl,fun e=>(by cases e),fun x e=>(by cases e;exact⟨by omega,by omega,rfl⟩),fun e=>(by cases e),fun x e=>(by cases e;exact⟨by omega,by omega,rfl⟩)⟩
  ·cases h

theorem run_sliceBounds{isS:Bool}{len cap i j:Nat}{lo hi:Option Value}{a b:Option Int}(hij:i≤j)(hjl:j≤len)(hlc:len≤cap)
  (hlo:(lo=none∧a=none)∨∃ k n,lo=some (.int k n)∧a=some n) (hhi:(hi=none∧b=none)∨∃ k n,hi=some (.int k n)∧b=some n)
  (ha0:a=none→i=0) (ha:∀ n,a=some n→0≤n∧n≤(j:Int)∧i=n.toNat) (hb0:b=none→j=len) (hb:∀ n,b=some n→0≤n∧n≤(len:Int)∧j=n.toNat) (w:World) :
  (Instr.sliceBounds isS len cap lo hi none).run P w=.ok (i,j,cap) w:=by
 rcases hlo with⟨rfl,rfl⟩|⟨k,n,rfl,rfl⟩<;>rcases hhi with⟨rfl,rfl⟩|⟨k',m,rfl,rfl⟩
 ·rw[ha0 rfl,hb0 rfl];simp[Instr.sliceBounds]
 ·obtain⟨h1,h2,rfl⟩:=hb m rfl
  rw[ha0 rfl];have:m≤(cap:Int):=by omega
  simp[Instr.sliceBounds,Instr.sliceBound,asIntOf,h1,this]
 ·obtain⟨h1,h2,rfl⟩:=ha n rfl
  rw[hb0 rfl]at h2 ⊢;simp[Instr.sliceBounds,Instr.sliceBound,asIntOf,h1,h2]
 ·obtain⟨h1,h2,rfl⟩:=hb m rfl
  obtain⟨h3,h4,rfl⟩:=ha n rfl
  have:m≤(cap:Int):=by omega
  have h5:n≤(m.toNat:Int):=h4
  simp only[Instr.sliceBounds,Instr.sliceBound,asIntOf,Sem.run_bind,Sem.run_pure,Result.andThen_ok,if_pos (And.intro h1 this),if_pos (And.intro h3 h5)]

theorem extract_bytes(l:List UInt8)(i j:Nat):(⟨⟨l⟩⟩:ByteArray).extract i j=⟨⟨(l.drop i).take (j-i)⟩⟩:=by
 apply ByteArray.ext
 rw[ByteArray.data_extract];apply Array.ext'
 simp[List.extract_eq_take_drop]

theorem flatten_drop{sz:Nat}:∀ {rows:List (List Dt)} (i:Nat),(∀ row,row∈rows→row.length=sz)→(rows.drop i).flatten=rows.flatten.drop (i*sz)
 | rows,0,_=>by simp
 | [],i+1,_=>by simp
 | r::rows,i+1,h=>by
  rw[List.drop_succ_cons,flatten_drop i (fun x hx=>h x (by simp[hx])),List.flatten_cons]
  rw[show(i+1)*sz=r.length+i*sz by rw[h r (by simp),Nat.add_mul];omega,List.drop_length_add_append]
theorem flatten_take{sz:Nat}:∀ {rows:List (List Dt)} (i:Nat),(∀ row,row∈rows→row.length=sz)→(rows.take i).flatten=rows.flatten.take (i*sz)
 | rows,0,_=>by simp
 | [],i+1,_=>by simp
 | r::rows,i+1,h=>by
  rw[List.take_succ_cons,List.flatten_cons,flatten_take i (fun x hx=>h x (by simp[hx])),List.flatten_cons]
  rw[show(i+1)*sz=r.length+i*sz by rw[h r (by simp),Nat.add_mul];omega,List.take_length_add_append]

theorem RepD.cut{a:Option Addr}{cap:Nat}{rows:List (List Dt)}{i j s:Nat}(h:RepD w Im (.slice a rows.length cap) (.sl rows))(hij:i≤j)(hj:j≤rows.length)(hs:i=0∨fits s rows) :
  RepD w Im (.slice (if cap=i then a else a.map (·.add (i*s))) (j-i) (cap-i)) (.sl ((rows.drop i).take (j-i))):=by
 obtain⟨a',cap',he,hcap,hd⟩:=h.rows
 cases he;by_cases hji:j-i=0
 ·rw[hji];simp only[List.take_zero];exact .sl0 _ _
 ·rcases hd with rfl|⟨b,o,sz,us,rfl,hsz,him,hrep⟩
  ·simp at hj;omega
  ·have hc:rows.length≤cap:=by
    rcases hcap with h|rfl
    ·exact h
    ·simp at hj;omega
   have hne:¬cap=i:=by omega
   rw[if_neg hne]
   have hrs:i*s=i*sz:=by
    rcases hs with rfl|hs
    ·simp
    ·have:rows≠[]:=by rintro rfl;simp at hj;omega
     obtain⟨r,hr⟩:=List.exists_mem_of_ne_nil rows this
     rw[←hs r hr,←hsz r hr]
   have hlen:((rows.drop i).take (j-i)).length=j-i:=by simp;omega
   have hfl:((rows.drop i).take (j-i)).flatten=(rows.flatten.drop (i*sz)).take ((j-i)*sz):=by
    rw[flatten_take (j-i) (fun r hr=>hsz r (List.mem_of_mem_drop hr)),flatten_drop i hsz]
   have key:RepD w Im (.slice (some ⟨b,o+i*sz,none⟩) ((rows.drop i).take (j-i)).length (cap-i)) (.sl ((rows.drop i).take (j-i))):=by
    refine .sl b (o+i*sz) (cap-i) sz _ (fun k=>us (i*sz+k)) (by rw[hlen];omega) (fun r hr=>hsz r (List.mem_of_mem_drop (List.mem_of_mem_take hr))) (fun k hk=>?_) (fun k x hx=>?_)
    ·rw[hfl]at hk;simp only[List.length_take,List.length_drop]at hk;have:=him (i*sz+k) (by omega)
     rwa[←Nat.add_assoc]at this
    ·rw[hfl,getElem?_take_drop]at hx
     split at hx
     ·exact hrep _ _ hx
     ·cases hx
   rw[hlen]at key;simpa[hrs,Addr.add_lit]using key

theorem sliceRows_ok{t e:TypeId}{rows:List (List Dt)}{a b:Option Int}{c:AV}{v:Value}{lo hi:Option Value}(hk:kindT P t=.sl e){s:Nat}(hse:szOf P e=some s)(hx:RepD w Im v (.sl rows))
  (hlo:(lo=none∧a=none)∨∃ k n,lo=some (.int k n)∧a=some n) (hhi:(hi=none∧b=none)∨∃ k n,hi=some (.int k n)∧b=some n) (h:cutRows rows b a (some s)=some c) :
  ∃ u,(Instr.sliceAt t v lo hi none).run P w=.ok u w∧RepA w Im g u c:=by
 obtain⟨ad,cap,rfl,hcap,_⟩:=hx.rows
 have hcut:∃ l',cutA rows a b=some l'∧c=.d (.sl l')∧(a=none∨fits s rows):=by
  unfold cutRows at h;split at h
  ·unfold slO at h;split at h
   ·rename_i hl;cases h;exact⟨_,hl,rfl,.inl rfl⟩
   ·cases h
  ·rename_i s' hs'
   cases hs';split at h
   ·rename_i hf;unfold slO at h;split at h
    ·rename_i hl;cases h;exact⟨_,hl,rfl,.inr hf⟩
    ·cases h
   ·cases h
  ·rename_i hs';cases hs'
 obtain⟨l',hl,rfl,hf⟩:=hcut
 obtain⟨i,j,hij,hj,rfl,ha0,ha,hb0,hb⟩:=cutA_len hl
 by_cases hle:rows.length≤cap
 ·have hrun:=run_sliceBounds (P:=P) (isS:=true) hij hj hle hlo hhi ha0 ha hb0 hb w
  refine⟨_,?_,.d (hx.cut (s:=s) hij hj (hf.imp ha0 id))⟩
  simp[Instr.sliceAt,Instr.slice,run_underlying (kindT_sl hk),hrun,run_sizeOf' hse]
 ·have hr:rows=[]:=hcap.resolve_left hle
  subst hr;simp at hle

theorem sliceK_ok{t:TypeId}{x c:AV}{v:Value}{lo hi:Option Value}{la ha:Option AV}(hx:RepA w Im g v x)(hlo:BoundRep w Im g lo la)(hhi:BoundRep w Im g hi ha)(h:sliceK P (kindT P t) x (boundA la) (boundA ha)=some c) :
  ∃ u,(Instr.sliceAt t v lo hi none).run P w=.ok u w∧RepA w Im g u c:=by
 unfold sliceK at h;split at h
 ·rename_i l a b hk hba hbb;rw[str_inv hx];unfold strO at h;split at h
  ·rename_i l' hl
   cases h;obtain⟨i,j,hij,hj,rfl,ha0,ha,hb0,hb⟩:=cutA_len hl
   have hrun:=run_sliceBounds (P:=P) (isS:=false) (len:=l.length) (cap:=l.length) hij hj (Nat.le_refl _) (bound_inv hlo hba) (bound_inv hhi hbb) ha0 ha hb0 hb w
   have hsz:(⟨⟨l⟩⟩:ByteArray).size=l.length:=rfl
   refine⟨.string ⟨⟨(l.drop i).take (j-i)⟩⟩,?_,.d (.str _)⟩
   simp[Instr.sliceAt,Instr.slice,run_underlying (kindT_str hk),hsz,hrun,extract_bytes]
  ·cases h
 ·rename_i e rows a b hk hba hbb
  cases hs:szOf P e with
  | none=>rw[hs]at h;unfold cutRows at h;split at h<;>first|(cases h;done)|(rename_i hh;cases hh)
  | some s=>rw[hs]at h;exact sliceRows_ok hk hs (rowsA_ok hx rfl) (bound_inv hlo hba) (bound_inv hhi hbb) h
 ·rename_i e rows a b hk hba hbb
  cases hs:szOf P e with
  | none=>rw[hs]at h;unfold cutRows at h;split at h<;>first|(cases h;done)|(rename_i hh;cases hh)
  | some s=>rw[hs]at h;exact sliceRows_ok hk hs (rowsA_ok hx rfl) (bound_inv hlo hba) (bound_inv hhi hbb) h
 ·rename_i e r ep rows a b hk hba hbb
  cases hs:szOf P e with
  | none=>rw[hs]at h;unfold cutRows at h;split at h<;>first|(cases h;done)|(rename_i hh;cases hh)
  | some s=>rw[hs]at h;exact sliceRows_ok hk hs (rowsA_ok hx rfl) (bound_inv hlo hba) (bound_inv hhi hbb) h
 ·rename_i e r off len esz a b hk hba hbb;unfold sliceArr at h;split at h
  ·rename_i s hs;split at h
   ·rename_i hse;subst hse
    cases hx with
    | arr hg ho hc=>
     rename_i off' bk cap
     have key:∃ (i j:Nat),i≤j∧j≤len∧c=.arr r (off+i*s) (j-i) s∧(a=none→i=0)∧(∀ n,a=some n→0≤n∧n≤(j:Int)∧i=n.toNat)∧(b=none→j=len)∧(∀ n,b=some n→0≤n∧n≤(len:Int)∧j=n.toNat):=by
      unfold cutArr at h;split at h
      ·cases h;exact⟨0,len,by omega,by omega,by simp,fun _=>rfl,fun n e=>(by cases e),fun _=>rfl,fun n e=>(by cases e)⟩
      ·rename_i n;split at h
       ·cases h;exact⟨n.toNat,len,by omega,by omega,rfl,fun e=>(by cases e),fun m e=>(by cases e;exact⟨by omega,by omega,rfl⟩),fun _=>rfl,fun m e=>(by cases e)⟩
       ·cases h
      ·rename_i n;split at h
       ·cases h;exact⟨0,n.toNat,by omega,by omega,by simp,fun _=>rfl,fun m e=>(by cases e),fun e=>(by cases e),fun m e=>(by cases e;exact⟨by omega,by omega,rfl⟩)⟩
       ·cases h
      ·rename_i n m;split at h
       ·cases h;exact⟨n.toNat,m.toNat,by omega,by omega,rfl,fun e=>(by cases e),fun x e=>(by cases e;exact⟨by omega,by omega,rfl⟩),fun e=>(by cases e),fun x e=>(by cases e;exact⟨by omega,by omega,rfl⟩)⟩
       ·cases h
     obtain⟨i,j,hij,hj,rfl,ha0,ha,hb0,hb⟩:=key
     have hrun:=run_sliceBounds (P:=P) (isS:=true) (len:=len) (cap:=cap) hij hj hc (bound_inv hlo hba) (bound_inv hhi hbb) ha0 ha hb0 hb w
     by_cases hci:cap=i
     ·refine⟨.slice (some ⟨bk,off',none⟩) (j-i) (cap-i),?_,.arr hg (.inr (by omega)) (by omega)⟩
      rw[hci]at hrun;simp[Instr.sliceAt,Instr.slice,run_underlying (kindT_sl hk),hrun,run_sizeOf' hs,hci]
     ·refine⟨.slice (some ⟨bk,off'+i*s,none⟩) (j-i) (cap-i),?_,.arr hg (by rcases ho with rfl|ho;exact .inl rfl;exact .inr (by omega)) (by omega)⟩
      simp[Instr.sliceAt,Instr.slice,run_underlying (kindT_sl hk),hrun,run_sizeOf' hs,hci,Addr.add_lit]
   ·cases h
  ·cases h
 ·rename_i e r ep n a b hk hba hbb;unfold stkCut at h;split at h
  ·rename_i m s hs;split at h
   ·rename_i hm
    cases h
    cases hx with
    | @stk _ _ _ _ _ _ _ _ b0 c0 hg hle hpos hcn he=>
     have hrun:=run_sliceBounds (P:=P) (isS:=true) (len:=n) (cap:=c0) (i:=0) (j:=m.toNat) (Nat.zero_le _) (by omega) hcn (bound_inv hlo hba) (bound_inv hhi hbb) (fun _=>rfl) (fun _ e=>by cases e) (fun e=>by cases e) (fun x e=>by cases e;exact⟨by omega,by omega,rfl⟩) w
     refine⟨.slice (b0.map fun b=>⟨b,0,none⟩) m.toNat c0,?_,.stk hg hle (fun h=>hpos (by omega)) (by omega) he⟩
     simp[Instr.sliceAt,Instr.slice,run_underlying (kindT_sl hk),hrun,run_sizeOf' hs]
     first|done|(split<;>simp_all [Addr.add_lit])|(cases b0<;>simp[Addr.add_lit])
   ·cases h
  ·rename_i m s hs;split at h
   ·rename_i hm
    cases h
    cases hx with
    | @stk _ _ _ _ _ _ _ _ b0 c0 hg hle hpos hcn he=>
     have hrun:=run_sliceBounds (P:=P) (isS:=true) (len:=n) (cap:=c0) (i:=m.toNat) (j:=n) (by omega) (by omega) hcn (bound_inv hlo hba) (bound_inv hhi hbb) (fun e=>by cases e) (fun x e=>by cases e;exact⟨by omega,by omega,rfl⟩) (fun _=>rfl) (fun _ e=>by cases e) w
     by_cases hci:c0=m.toNat
     ·refine⟨.slice (b0.map fun b=>⟨b,0,none⟩) (n-m.toNat) (c0-m.toNat),?_,.sv hg hle (fun h=>hpos (by omega)) (.inr (by omega)) (by omega) (fun e=>⟨(he e).1,fun h=>by omega⟩)⟩
      rw[hci]at hrun;simp[Instr.sliceAt,Instr.slice,run_underlying (kindT_sl hk),hrun,run_sizeOf' hs,hci]
     ·refine⟨.slice (b0.map fun b=>⟨b,m.toNat*s,none⟩) (n-m.toNat) (c0-m.toNat),?_,.sv hg hle (fun h=>hpos (by omega)) (.inl rfl) (by omega) (fun e=>⟨(he e).1,fun h=>by have:=(he e).2;omega⟩)⟩
      cases b0 with
      | none=>simp[Instr.sliceAt,Instr.slice,run_underlying (kindT_sl hk),hrun,run_sizeOf' hs]
      | some b=>simp[Instr.sliceAt,Instr.slice,run_underlying (kindT_sl hk),hrun,run_sizeOf' hs,hci,Addr.add_lit]
   ·cases h
  ·cases h
 ·cases h
theorem sliceA_ok{t:TypeId}{x c:AV}{v:Value}{lo hi:Option Value}{la ha:Option AV}(hx:RepA w Im g v x)(hlo:BoundRep w Im g lo la)(hhi:BoundRep w Im g hi ha)(h:sliceA P t x la ha=some c) :
  ∃ u,(Instr.sliceAt t v lo hi none).run P w=.ok u w∧RepA w Im g u c:=by
 unfold sliceA at h;have hu:=unO_ok hx
 cases hk:sliceK P (kindT P t) (unO x) (boundA la) (boundA ha)with
 | none=>rw[hk]at h;cases x<;>cases h
 | some y=>
  obtain⟨u,h1,h2⟩:=sliceK_ok hu hlo hhi hk
  rw[hk]at h;refine⟨u,h1,?_⟩
  cases x with
  | own r off len esz=>cases h;exact toO_ok h2
  | _=>cases h;exact h2
end
end Go.Ab
/- The abstract evaluator is right of what makes and writes memory,second part. Conditions: none. -/
namespace Go.Ab
open Go

section
variable {P:Program}{w:World}{Im:Imm}{g:List Gh}{H:List AObj}

theorem gle_set{p:Nat}{x:Gh}(hp:g[p]?=some .no):GLe g (g.set p x):=by
 have key:∀ (r:Nat) (y:Gh),y≠.no→g[r]?=some y→(g.set p x)[r]?=some y:=by
  intro r y hy hr;by_cases e:p=r
  ·subst e;rw[hp]at hr;cases hr;exact absurd rfl hy
  ·rw[List.getElem?_set_ne e];exact hr
 exact⟨fun r b h=>key r _ (by simp) h,fun r ep esz base len cap h=>⟨ep,base,len,cap,key r _ (by simp) h,Nat.le_refl _,fun _=>⟨rfl,rfl,rfl⟩⟩,fun r l T h=>⟨T,key r _ (by simp) h⟩,fun r b row h=>⟨row,key r _ (by simp) h⟩,fun r bs h=>⟨[],by rw[List.append_nil];exact key r _ (by simp) h⟩⟩

theorem setO_lt{r:Nat}{o:AObj}(h:r<H.length):setO H r o=H.set r o:=by unfold setO;rw[if_pos h]
theorem HR.lenlt(h:HR P w Im g H){p:Nat}{x:Gh}(hp:g[p]?=some x):p<H.length:=by rw[←h.len];exact(List.getElem?_eq_some_iff.1 hp).1

theorem cell_alloc{o:Obj}{b i:Nat}(h:b<w.heap.size):(w.alloc o).cell? ⟨b,i,none⟩=w.cell? ⟨b,i,none⟩:=World.cell?_alloc_lt w o ⟨b,i,none⟩ h
theorem owns_set{p k:Nat}{x:Gh}(hk:Owns (g.set p x) k):(x.owns k∧p<g.length)∨Owns g k:=by
 obtain⟨r,y,hr,hy⟩:=hk
 by_cases e:p=r
 ·subst e;by_cases hp:p<g.length
  ·rw[List.getElem?_set_self hp]at hr;cases hr;exact .inl ⟨hy,hp⟩
  ·rw[List.getElem?_eq_none (by simp;omega)]at hr;cases hr
 ·rw[List.getElem?_set_ne e]at hr;exact .inr ⟨r,y,hr,hy⟩

theorem ext_alloc(hH:HR P w Im g H){p:Nat}(hp:g[p]?=some .no)(o:Obj){x:Gh}(hx:∀ k,x.owns k→k=w.heap.size){Im':Imm}(hI:∀ b o,Im' b o↔Im b o∨(b=w.heap.size∧Im' b o)) :
  Ext w Im g (w.alloc o) Im' (g.set p x) where
 os:=rfl
 tape:=rfl
 output:=rfl
 size:=by simp
 mono b o h:=(hI b o).2 (.inl h)
 keep b o h:=cell_alloc (hH.im b o h)
 frame k hk _:=heap_alloc_old w o hk
 new b o h:=by
  rcases(hI b o).1 h with h|⟨h,_⟩
  ·exact .inl h
  ·exact .inr (.inl (by omega))
 newg k hk:=by
  rcases owns_set hk with⟨h,_⟩|h
  ·exact .inr (by rw[hx k h];exact Nat.le_refl _)
  ·exact .inl h
 gle:=gle_set hp

theorem ext_alloc0(hH:HR P w Im g H)(o:Obj){Im':Imm}(hI:∀ b o,Im' b o↔Im b o∨(b=w.heap.size∧Im' b o)):Ext w Im g (w.alloc o) Im' g where
 os:=rfl
 tape:=rfl
 output:=rfl
 size:=by simp
 mono b o h:=(hI b o).2 (.inl h)
 keep b o h:=cell_alloc (hH.im b o h)
 frame k hk _:=heap_alloc_old w o hk
 new b o h:=by
  rcases(hI b o).1 h with h|⟨h,_⟩
  ·exact .inl h
  ·exact .inr (.inl (by omega))
 newg k hk:=.inl hk
 gle:=GLe.refl g

theorem ObjAt.ext{w':World}{Im':Imm}{g':List Gh}{b:Nat}{cs:List AV}(h:ObjAt w Im g b cs)(e:Ext w Im g w' Im' g')(hb:w'.heap[b]?=w.heap[b]?)(hi:∀ o,Im' b o→Im b o):ObjAt w' Im' g' b cs:=by
 obtain⟨vs,t,h1,h2,h3,h4,h5⟩:=h
 exact⟨vs,t,hb.trans h1,h2,fun i v c hv hc=>(h3 i v c hv hc).ext e,h4,fun o ho=>h5 o (hi o ho)⟩


theorem MapAt.ext{w':World}{Im':Imm}{g':List Gh}{b:Nat}{es:List (AV×AV)}(h:MapAt w Im g b es)(hm:∀ b o,Im b o→Im' b o∧w'.cell? ⟨b,o,none⟩=w.cell? ⟨b,o,none⟩)(hg:GLe g g')(hb:w'.heap[b]?=w.heap[b]?)(hi:∀ o,Im' b o→Im b o):MapAt w' Im' g' b es:=by
 obtain⟨l,ck,h1,h2,h3,h4⟩:=h
 exact⟨l,ck,hb.trans h1,h2,fun i e x he hx=>⟨(h3 i e x he hx).1.ext' hm hg,(h3 i e x he hx).2.ext' hm hg⟩,fun o ho=>h4 o (hi o ho)⟩

theorem RegOk.go{w w':World}{Im Im':Imm}{g g':List Gh}{H H':List AObj}(h:RegOk w Im g H)(e:Ext w Im g w' Im' g')(hH:∀ (r:Nat) (bs:List (List AV)),H'[r]?=some (.reg bs)→H[r]?=some (.reg bs))(hg:∀ (r:Nat) (x:List Nat),g'[r]?=some (.reg x)→g[r]?=some (.reg x))
  (hg2:∀ x,g[0]?=some (.reg x)→g'[0]?=some (.reg x)) (hH2:∀ bs,H[0]?=some (.reg bs)→H'[0]?=some (.reg bs)) (hb:∀ (x:List Nat) (k:Nat),g[0]?=some (.reg x)→k∈x→w'.heap[k]?=w.heap[k]?∧∀ o,Im' k o→Im k o):RegOk w' Im' g' H':=by
 refine⟨fun bs hr=>?_,fun bs hr=>h.no bs (hH 0 bs hr),fun r bs hr=>h.only r bs (hH r bs hr),fun r x hr=>?_,fun ho r x hr=>h.off ho r x (hg r x hr)⟩
 ·obtain⟨blks,k1,k2,k3,k4⟩:=h.at_ bs (hH 0 bs hr)
  refine⟨blks,hg2 _ k1,k2,k3,fun k b cs hk hc=>?_⟩
  obtain⟨q1,q2⟩:=hb _ b k1 (List.mem_of_getElem? hk)
  exact(k4 k b cs hk hc).ext e q1 q2
 ·obtain⟨h0,bs,hb⟩:=h.back r x (hg r x hr)
  exact⟨h0,bs,hH2 bs hb⟩
theorem HR.go1(h:HR P w Im g H){w':World}{Im':Imm}{g':List Gh}{H':List AObj}(hos:w'.os=w.os∧w'.tape=w.tape∧w'.output=w.output)(hsz:w.heap.size≤w'.heap.size)(hmk:∀ b o,Im b o→Im' b o∧w'.cell? ⟨b,o,none⟩=w.cell? ⟨b,o,none⟩)(hgle:GLe g g')(hl:g'.length=H'.length)(D:Nat→Prop)
  (hD:∀ r,¬D r→g'[r]?=g[r]?∧H'[r]?=H[r]?) (hb:∀ (r:Nat) (x:Gh) (k:Nat),¬D r→g[r]?=some x→x.owns k→w'.heap[k]?=w.heap[k]?∧∀ o,Im' k o→Im k o)
  (hc:∀ (r:Nat) (cs:List AV),D r→H'[r]?=some (.cells cs)→∃ b,g'[r]?=some (.cell b)∧ObjAt w' Im' g' b cs)
  (hg:∀ (r ep sz:Nat),D r→H'[r]?=some (.grow ep sz)→∃ base len cap,g'[r]?=some (.gr ep sz base len cap)∧len≤cap∧(base=none→cap=0) ∧
   ∀ b,base=some b→len<cap→∃ (vs:List Value) (t:TypeId),w'.heap[b]?=some (.cells ⟨vs⟩ t (0,0))∧vs.length=cap*sz∧∀ o,len*sz≤o→¬Im' b o)
  (hmp:∀ (r:Nat) (es:List (AV×AV)),D r→H'[r]?=some (.mapo es)→∃ b,g'[r]?=some (.cell b)∧MapAt w' Im' g' b es)
  (hlo:∀ (r stop n:Nat) (rest:List (List AV)),D r→H'[r]?=some (.log stop n rest)→∃ y T,g'[r]?=some (.yld y T)∧LogAt P w' Im' y T stop n rest)
  (hge:∀ (r:Nat) (acc:List (List AV)),D r→H'[r]?≠some (.gen acc))
  (hs:∀ (r r' k:Nat) (x x':Gh),D r→r≠r'→g'[r]?=some x→g'[r']?=some x'→x.owns k→¬x'.owns k)
  (hlt:∀ (r k:Nat) (x:Gh),D r→g'[r]?=some x→x.owns k→k<w'.heap.size) (him:∀ b o,Im' b o→b<w'.heap.size)
  (hst:∀ (r e sz:Nat) (cs:List AV),D r→H'[r]?=some (.stk e sz cs)→∃ base cap,g'[r]?=some (.gr e sz base 0 cap)∧(base=none→cap=0)∧(cap=0→cs=[])∧∀ b,base=some b→0<cap→StkAt w' Im' g' b cs (cap*sz):=by intro r e sz cs d hr;first|exact d.elim|(exfalso;revert hr;subst d;simp[List.getElem?_set]))
  (hbx:∀ (r:Nat) (t:TypeId) (s:List UInt8),D r→H'[r]?=some (.bld t s)→∃ b row,g'[r]?=some (.bld b row)∧BldAt P w' Im' b row t s:=by intro r t cs d hr;first|exact d.elim|(exfalso;revert hr;subst d;simp[List.getElem?_set]))
  (hrr:RegOk w' Im' g' H'):HR P w' Im' g' H' where
 len:=hl
 cells r cs hr:=by
  by_cases d:D r
  ·exact hc r cs d hr
  ·obtain⟨h1,h2⟩:=hD r d
   rw[h2]at hr;obtain⟨b,hb1,vs,t,k1,k2,k3,k4,k5⟩:=h.cells r cs hr
   obtain⟨q1,q2⟩:=hb r _ b d hb1 rfl
   exact⟨b,h1.trans hb1,vs,t,q1.trans k1,k2,fun i v c hv hc=>(k3 i v c hv hc).ext' hmk hgle,k4,fun o ho=>k5 o (q2 o ho)⟩
 grow r ep sz hr:=by
  by_cases d:D r
  ·exact hg r ep sz d hr
  ·obtain⟨h1,h2⟩:=hD r d
   rw[h2]at hr;obtain⟨base,len,cap,k1,k2,k3,k4⟩:=h.grow r ep sz hr
   refine⟨base,len,cap,h1.trans k1,k2,k3,fun b hb' hlc=>?_⟩
   obtain⟨vs,t,j1,j2,j3⟩:=k4 b hb' hlc
   obtain⟨q1,q2⟩:=hb r _ b d k1 ⟨hb',hlc⟩
   exact⟨vs,t,q1.trans j1,j2,fun o ho hi=>j3 o ho (q2 o hi)⟩
 stk r ep sz cs hr:=by
  by_cases d:D r
  ·exact hst r ep sz cs d hr
  ·obtain⟨h1,h2⟩:=hD r d
   rw[h2]at hr;obtain⟨base,cap,k1,k2,k3,k4⟩:=h.stk r ep sz cs hr
   refine⟨base,cap,h1.trans k1,k2,k3,fun b hb' hlc=>?_⟩
   obtain⟨vs,t,j1,j2,j3,j4,j5,j6⟩:=k4 b hb' hlc
   obtain⟨q1,q2⟩:=hb r _ b d k1 ⟨hb',hlc⟩
   exact⟨vs,t,q1.trans j1,j2,j3,fun i v c hv hc=>(j4 i v c hv hc).ext' hmk hgle,j5,fun o ho=>j6 o (q2 o ho)⟩
 mapo r es hr:=by
  by_cases d:D r
  ·exact hmp r es d hr
  ·obtain⟨h1,h2⟩:=hD r d
   rw[h2]at hr;obtain⟨b,hb1,hb2⟩:=h.mapo r es hr
   obtain⟨q1,q2⟩:=hb r _ b d hb1 rfl
   exact⟨b,h1.trans hb1,hb2.ext hmk hgle q1 q2⟩
 log r stop n rest hr:=by
  by_cases d:D r
  ·exact hlo r stop n rest d hr
  ·obtain⟨h1,h2⟩:=hD r d
   rw[h2]at hr;obtain⟨y,T,hg1,k1,k2,k3,k4,k5,k6⟩:=h.log r stop n rest hr
   exact⟨y,T,h1.trans hg1,k1,k2,k3,k4,k5,k4 _ _ _ _ _ _ k6 hos.1 hos.2.1 hos.2.2 hsz (fun b hT=>hb r _ b d hg1 hT) hmk him⟩
 gen r acc hr:=by
  by_cases d:D r
  ·exact hge r acc d hr
  ·rw[(hD r d).2]at hr;exact h.gen r acc hr
 sep r r' k x x' hne hr hr' hx:=by
  by_cases d:D r
  ·exact hs r r' k x x' d hne hr hr' hx
  ·by_cases d':D r'
   ·intro hx';exact hs r' r k x' x d' (Ne.symm hne) hr' hr hx' hx
   ·rw[(hD r d).1]at hr;rw[(hD r' d').1]at hr';exact h.sep r r' k x x' hne hr hr' hx
 lt k hk:=by
  obtain⟨r,x,hr,hx⟩:=hk
  by_cases d:D r
  ·exact hlt r k x d hr hx
  ·rw[(hD r d).1]at hr;exact Nat.lt_of_lt_of_le (h.lt k ⟨r,x,hr,hx⟩) hsz
 im:=him
 tab:=h.tab.go hmk
 box r t cs hr:=by
  by_cases d:D r
  ·exact hbx r t cs d hr
  ·obtain⟨h1,h2⟩:=hD r d
   rw[h2]at hr;obtain⟨b,row,hb1,hb2⟩:=h.box r t cs hr
   exact⟨b,row,h1.trans hb1,hb2.stay fun k hk=>hb r _ k d hb1 hk⟩
 rg:=hrr
theorem HR.go0(h:HR P w Im g H){w':World}{Im':Imm}{g':List Gh}{H':List AObj}(hos:w'.os=w.os∧w'.tape=w.tape∧w'.output=w.output)(hsz:w.heap.size≤w'.heap.size)(hmk:∀ b o,Im b o→Im' b o∧w'.cell? ⟨b,o,none⟩=w.cell? ⟨b,o,none⟩)(hgle:GLe g g')(hl:g'.length=H'.length)(D:Nat→Prop)
  (hD:∀ r,¬D r→g'[r]?=g[r]?∧H'[r]?=H[r]?) (hb:∀ (r:Nat) (x:Gh) (k:Nat),¬D r→g[r]?=some x→x.owns k→w'.heap[k]?=w.heap[k]?∧∀ o,Im' k o→Im k o)
  (hc:∀ (r:Nat) (cs:List AV),D r→H'[r]?=some (.cells cs)→∃ b,g'[r]?=some (.cell b)∧ObjAt w' Im' g' b cs)
  (hg:∀ (r ep sz:Nat),D r→H'[r]?=some (.grow ep sz)→∃ base len cap,g'[r]?=some (.gr ep sz base len cap)∧len≤cap∧(base=none→cap=0) ∧
   ∀ b,base=some b→len<cap→∃ (vs:List Value) (t:TypeId),w'.heap[b]?=some (.cells ⟨vs⟩ t (0,0))∧vs.length=cap*sz∧∀ o,len*sz≤o→¬Im' b o)
  (hmp:∀ (r:Nat) (es:List (AV×AV)),D r→H'[r]?=some (.mapo es)→∃ b,g'[r]?=some (.cell b)∧MapAt w' Im' g' b es)
  (hlo:∀ (r stop n:Nat) (rest:List (List AV)),D r→H'[r]?=some (.log stop n rest)→∃ y T,g'[r]?=some (.yld y T)∧LogAt P w' Im' y T stop n rest)
  (hge:∀ (r:Nat) (acc:List (List AV)),D r→H'[r]?≠some (.gen acc))
  (hs:∀ (r r' k:Nat) (x x':Gh),D r→r≠r'→g'[r]?=some x→g'[r']?=some x'→x.owns k→¬x'.owns k)
  (hlt:∀ (r k:Nat) (x:Gh),D r→g'[r]?=some x→x.owns k→k<w'.heap.size) (him:∀ b o,Im' b o→b<w'.heap.size)
  (hst:∀ (r e sz:Nat) (cs:List AV),D r→H'[r]?=some (.stk e sz cs)→∃ base cap,g'[r]?=some (.gr e sz base 0 cap)∧(base=none→cap=0)∧(cap=0→cs=[])∧∀ b,base=some b→0<cap→StkAt w' Im' g' b cs (cap*sz):=by intro r e sz cs d hr;first|exact d.elim|(exfalso;revert hr;subst d;simp[List.getElem?_set]))
  (hbx:∀ (r:Nat) (t:TypeId) (s:List UInt8),D r→H'[r]?=some (.bld t s)→∃ b row,g'[r]?=some (.bld b row)∧BldAt P w' Im' b row t s:=by intro r t cs d hr;first|exact d.elim|(exfalso;revert hr;subst d;simp[List.getElem?_set]))
  (hrg:∀ (r:Nat) (bs:List (List AV)),D r→H'[r]?=some (.reg bs)→False:=by intro r bs d hr;first|exact d.elim|(revert hr;subst d;simp[List.getElem?_set];done))
  (hrn:∀ (r:Nat) (x:List Nat),D r→g'[r]?=some (.reg x)→False:=by intro r x d hr;first|exact d.elim|(revert hr;subst d;simp[List.getElem?_set];done)|(subst d;simp_all;done)):HR P w' Im' g' H':=by
 refine h.go1 hos hsz hmk hgle hl D hD hb hc hg hmp hlo hge hs hlt him hst hbx ?_
 refine⟨fun bs hr=>?_,fun bs hr=>?_,fun r bs hr=>?_,fun r x hr=>?_,fun ho r x hr=>?_⟩
 ·have d:¬D 0:=fun d=>hrg 0 bs d hr
  obtain⟨h1,h2⟩:=hD 0 d
  rw[h2]at hr;obtain⟨blks,k1,k2,k3,k4⟩:=h.rg.at_ bs hr
  refine⟨blks,h1.trans k1,k2,k3,fun k b cs hb' hc'=>?_⟩
  obtain⟨vs,t,j1,j2,j3,j4,j5⟩:=k4 k b cs hb' hc'
  obtain⟨q1,q2⟩:=hb 0 _ b d k1 (List.mem_of_getElem? hb')
  exact⟨vs,t,q1.trans j1,j2,fun i v c hv hc=>(j3 i v c hv hc).ext' hmk hgle,j4,fun o ho=>j5 o (q2 o ho)⟩
 ·have d:¬D 0:=fun d=>hrg 0 bs d hr
  rw[(hD 0 d).2]at hr;exact h.rg.no bs hr
 ·have d:¬D r:=fun d=>hrg r bs d hr
  rw[(hD r d).2]at hr;exact h.rg.only r bs hr
 ·have d:¬D r:=fun d=>hrn r x d hr
  rw[(hD r d).1]at hr;obtain⟨rfl,bs,h2⟩:=h.rg.back r x hr
  exact⟨rfl,bs,by rw[(hD 0 d).2];exact h2⟩
 ·have d:¬D r:=fun d=>hrn r x d hr
  rw[(hD r d).1]at hr;exact h.rg.off ho r x hr
theorem HR.go(h:HR P w Im g H){w':World}{Im':Imm}{g':List Gh}{H':List AObj}(e:Ext w Im g w' Im' g')(hl:g'.length=H'.length)(D:Nat→Prop)
  (hD:∀ r,¬D r→g'[r]?=g[r]?∧H'[r]?=H[r]?) (hb:∀ (r:Nat) (x:Gh) (k:Nat),¬D r→g[r]?=some x→x.owns k→w'.heap[k]?=w.heap[k]?∧∀ o,Im' k o→Im k o)
  (hc:∀ (r:Nat) (cs:List AV),D r→H'[r]?=some (.cells cs)→∃ b,g'[r]?=some (.cell b)∧ObjAt w' Im' g' b cs)
  (hg:∀ (r ep sz:Nat),D r→H'[r]?=some (.grow ep sz)→∃ base len cap,g'[r]?=some (.gr ep sz base len cap)∧len≤cap∧(base=none→cap=0) ∧
   ∀ b,base=some b→len<cap→∃ (vs:List Value) (t:TypeId),w'.heap[b]?=some (.cells ⟨vs⟩ t (0,0))∧vs.length=cap*sz∧∀ o,len*sz≤o→¬Im' b o)
  (hmp:∀ (r:Nat) (es:List (AV×AV)),D r→H'[r]?=some (.mapo es)→∃ b,g'[r]?=some (.cell b)∧MapAt w' Im' g' b es)
  (hlo:∀ (r stop n:Nat) (rest:List (List AV)),D r→H'[r]?=some (.log stop n rest)→∃ y T,g'[r]?=some (.yld y T)∧LogAt P w' Im' y T stop n rest)
  (hge:∀ (r:Nat) (acc:List (List AV)),D r→H'[r]?≠some (.gen acc))
  (hs:∀ (r r' k:Nat) (x x':Gh),D r→r≠r'→g'[r]?=some x→g'[r']?=some x'→x.owns k→¬x'.owns k)
  (hlt:∀ (r k:Nat) (x:Gh),D r→g'[r]?=some x→x.owns k→k<w'.heap.size) (him:∀ b o,Im' b o→b<w'.heap.size)
  (hst:∀ (r e sz:Nat) (cs:List AV),D r→H'[r]?=some (.stk e sz cs)→∃ base cap,g'[r]?=some (.gr e sz base 0 cap)∧(base=none→cap=0)∧(cap=0→cs=[])∧∀ b,base=some b→0<cap→StkAt w' Im' g' b cs (cap*sz):=by intro r e sz cs d hr;first|exact d.elim|(exfalso;revert hr;subst d;simp[List.getElem?_set]))
  (hbx:∀ (r:Nat) (t:TypeId) (s:List UInt8),D r→H'[r]?=some (.bld t s)→∃ b row,g'[r]?=some (.bld b row)∧BldAt P w' Im' b row t s:=by intro r t cs d hr;first|exact d.elim|(exfalso;revert hr;subst d;simp[List.getElem?_set]))
  (hrg:∀ (r:Nat) (bs:List (List AV)),D r→H'[r]?=some (.reg bs)→False:=by intro r bs d hr;first|exact d.elim|(revert hr;subst d;simp[List.getElem?_set];done))
  (hrn:∀ (r:Nat) (x:List Nat),D r→g'[r]?=some (.reg x)→False:=by intro r x d hr;first|exact d.elim|(revert hr;subst d;simp[List.getElem?_set];done)|(subst d;simp_all;done)):HR P w' Im' g' H':=
 h.go0 ⟨e.os,e.tape,e.output⟩ e.size e.hm e.gle hl D hD hb hc hg hmp hlo hge hs hlt him hst hbx hrg hrn

structure Left(P:Program)(w:World)(Im:Imm)(g:List Gh)(H:List AObj)(p:Nat)(ws:List (Nat×AObj))(av:AV)(v:Value)(w':World)(Im':Imm)(g':List Gh):Prop where
 rep:RepA w' Im' g' v av
 hr:HR P w' Im' g' (setOs H ws)
 ext:Ext w Im g w' Im' g'
 no:∀ q,q≠p→g[q]?=some .no→g'[q]?=some .no

theorem Left.pure(hH:HR P w Im g H){p:Nat}{av:AV}{v:Value}(h:RepA w Im g v av):Left P w Im g H p [] av v w Im g:=⟨h,hH,Ext.refl _ _ _,fun _ _ h=>h⟩

theorem left_own(hH:HR P w Im g H){p:Nat}(hp:g[p]?=some .no){vs:List Value}{cs:List AV}(hc:RepC w Im g vs cs)(t:TypeId){av:AV}{v:Value}
  (hv:∀ g',g'[p]?=some (.cell w.heap.size)→RepA (w.alloc (.cells ⟨vs⟩ t)) Im g' v av) :
  Left P w Im g H p [(p,.cells cs)] av v (w.alloc (.cells ⟨vs⟩ t)) Im (g.set p (.cell w.heap.size)):=by
 have hpl:=hH.lenlt hp
 have hpg:p<g.length:=by rw[hH.len];exact hpl
 have e:Ext w Im g (w.alloc (.cells ⟨vs⟩ t)) Im (g.set p (.cell w.heap.size)):=ext_alloc hH hp _ (x:=.cell w.heap.size) (fun k hk=>Eq.symm (show w.heap.size=k from hk)) (fun b o=>⟨fun h=>.inl h,fun h=>h.elim id And.right⟩)
 refine⟨hv _ (List.getElem?_set_self hpg),?_,e,fun q hq h=>by rw[List.getElem?_set_ne (Ne.symm hq)];exact h⟩
 show HR P _ _ _ (setO H p (.cells cs))
 rw[setO_lt hpl];have hse:∀ k,k<w.heap.size→(w.alloc (.cells ⟨vs⟩ t)).heap[k]?=w.heap[k]?:=fun k hk=>heap_alloc_old w _ hk
 refine hH.go e (by simp[hH.len]) (fun r=>r=p) (fun r hr=>⟨List.getElem?_set_ne (Ne.symm hr),List.getElem?_set_ne (Ne.symm hr)⟩) (fun r x k _ hr hk=>⟨hse k (hH.lt k ⟨r,x,hr,hk⟩),fun _ h=>h⟩) ?_ ?_ ?_ ?_ ?_ ?_ ?_ ?_
 ·rintro r cs' rfl hr
  rw[List.getElem?_set_self hpl]at hr
  cases hr;refine⟨_,List.getElem?_set_self hpg,vs,t,heap_alloc_new w _,by rw[hc.len];exact Nat.le_refl _,fun i v c hv hc'=>(hc.rep i v c hv hc').ext e,hc.one,fun o ho=>?_⟩
  exact absurd (hH.im _ _ ho) (Nat.lt_irrefl _)
 ·rintro r ep sz rfl hr
  rw[List.getElem?_set_self hpl]at hr
  cases hr
 ·rintro r es rfl hr
  rw[List.getElem?_set_self hpl]at hr
  cases hr
 ·rintro r stop n rest rfl hr
  rw[List.getElem?_set_self hpl]at hr
  cases hr
 ·rintro r acc rfl hr
  rw[List.getElem?_set_self hpl]at hr
  cases hr
 ·rintro r r' k x x' rfl hne hr hr' hx hx'
  rw[List.getElem?_set_self hpg]at hr
  cases hr;rw[List.getElem?_set_ne hne]at hr'
  have:=hH.lt k ⟨r',x',hr',hx'⟩
  cases hx;omega
 ·rintro r k x rfl hr hx
  rw[List.getElem?_set_self hpg]at hr
  cases hr
  cases hx;simp
 ·intro b o h;have:=hH.im b o h
  simp;omega

theorem left_bld(hH:HR P w Im g H){p:Nat}(hp:g[p]?=some .no){t:TypeId}(ht:(bufE P t).isSome=true) :
  Left P w Im g H p [(p,.bld t [])] (.bp p) (.pointer (some ⟨w.heap.size,0,none⟩)) (w.alloc (.cells #[.pointer none,.slice none 0 0] t)) Im (g.set p (.bld w.heap.size none)):=by
 have hpl:=hH.lenlt hp
 have hpg:p<g.length:=by rw[hH.len];exact hpl
 have e:Ext w Im g (w.alloc (.cells #[.pointer none,.slice none 0 0] t)) Im (g.set p (.bld w.heap.size none)):=ext_alloc hH hp _ (x:=.bld w.heap.size none) (fun k hk=>by rcases hk with hk|hk;exact hk.symm;cases hk) (fun b o=>⟨fun h=>.inl h,fun h=>h.elim id And.right⟩)
 refine⟨.bp (List.getElem?_set_self hpg),?_,e,fun q hq h=>by rw[List.getElem?_set_ne (Ne.symm hq)];exact h⟩
 show HR P _ _ _ (setO H p (.bld t []))
 rw[setO_lt hpl];have hse:∀ k,k<w.heap.size→(w.alloc (.cells #[.pointer none,.slice none 0 0] t)).heap[k]?=w.heap[k]?:=fun k hk=>heap_alloc_old w _ hk
 refine hH.go e (by simp[hH.len]) (fun r=>r=p) (fun r hr=>⟨List.getElem?_set_ne (Ne.symm hr),List.getElem?_set_ne (Ne.symm hr)⟩) (fun r x k _ hr hk=>⟨hse k (hH.lt k ⟨r,x,hr,hk⟩),fun _ h=>h⟩) ?_ ?_ ?_ ?_ ?_ ?_ ?_ ?_ (hbx:=?_)
 ·rintro r cs' rfl hr
  rw[List.getElem?_set_self hpl]at hr
  cases hr
 ·rintro r ep sz rfl hr
  rw[List.getElem?_set_self hpl]at hr
  cases hr
 ·rintro r es rfl hr
  rw[List.getElem?_set_self hpl]at hr
  cases hr
 ·rintro r stop n rest rfl hr
  rw[List.getElem?_set_self hpl]at hr
  cases hr
 ·rintro r acc rfl hr
  rw[List.getElem?_set_self hpl]at hr
  cases hr
 ·rintro r r' k x x' rfl hne hr hr' hx hx'
  rw[List.getElem?_set_self hpg]at hr
  cases hr;rw[List.getElem?_set_ne hne]at hr'
  have:=hH.lt k ⟨r',x',hr',hx'⟩
  rcases hx with hx|hx
  ·omega
  ·cases hx
 ·rintro r k x rfl hr hx
  rw[List.getElem?_set_self hpg]at hr
  cases hr;rcases hx with hx|hx
  ·subst hx;simp
  ·cases hx
 ·intro b o h;have:=hH.im b o h
  simp;omega
 ·rintro r t' s' rfl hr
  rw[List.getElem?_set_self hpl]at hr
  cases hr;obtain⟨te,hte⟩:=Option.isSome_iff_exists.1 ht
  exact⟨_,_,List.getElem?_set_self hpg,_,_,te,heap_alloc_new w _,.inl rfl,hte,fun o ho=>absurd (hH.im _ _ ho) (Nat.lt_irrefl _),.inl ⟨rfl,rfl,rfl⟩⟩

theorem left_data(hH:HR P w Im g H){p:Nat}{vs:List Value}(t:TypeId){av:AV}{v:Value}{n:Nat}
  (hv:∀ Im',(∀ b o,Im b o→Im' b o)→(∀ o,o<n→Im' w.heap.size o)→Ext w Im g (w.alloc (.cells ⟨vs⟩ t)) Im' g→RepA (w.alloc (.cells ⟨vs⟩ t)) Im' g v av) :
  ∃ Im',Left P w Im g H p [] av v (w.alloc (.cells ⟨vs⟩ t)) Im' g:=by
 refine⟨fun b o=>Im b o∨(b=w.heap.size∧o<n),?_⟩
 have e:Ext w Im g (w.alloc (.cells ⟨vs⟩ t)) (fun b o=>Im b o∨(b=w.heap.size∧o<n)) g:=
  ext_alloc0 hH _ (fun b o=>⟨fun h=>h.elim .inl (fun h=>.inr ⟨h.1,.inr h⟩),fun h=>h.elim .inl (fun h=>h.2)⟩)
 refine⟨hv _ (fun _ _ h=>.inl h) (fun o ho=>.inr ⟨rfl,ho⟩) e,?_,e,fun _ _ h=>h⟩
 have hse:∀ k,k<w.heap.size→(w.alloc (.cells ⟨vs⟩ t)).heap[k]?=w.heap[k]?:=fun k hk=>heap_alloc_old w _ hk
 refine hH.go e hH.len (fun _=>False) (fun _ _=>⟨rfl,rfl⟩) (fun r x k _ hr hk=>⟨hse k (hH.lt k ⟨r,x,hr,hk⟩),fun o h=>h.elim id (fun h=>absurd (hH.lt k ⟨r,x,hr,hk⟩) (by omega))⟩)
  (fun _ _ h=>h.elim) (fun _ _ _ h=>h.elim) (fun _ _ h=>h.elim) (fun _ _ _ _ h=>h.elim) (fun _ _ h=>h.elim) (fun _ _ _ _ _ h=>h.elim) (fun _ _ _ h=>h.elim) (fun b o h=>?_)
 rcases h with h|h
 ·have:=hH.im b o h;simp;omega
 ·simp;omega

theorem left_reg(hH:HR P w Im g H){p k b:Nat}{blks:List Nat}{bs:List (List AV)}(hg:g[0]?=some (.reg blks))(hHr:H[0]?=some (.reg bs))(hk:blks[k]?=some b){vs vs':List Value}{cs':List AV}{t:TypeId}(hb:w.heap[b]?=some (.cells ⟨vs⟩ t (0,0)))(hn:∀ o,¬Im b o)
  (hl:cs'.length≤vs'.length) (hrep:∀ (i:Nat) (v:Value) (c:AV),vs'[i]?=some v→cs'[i]?=some c→RepA w Im g v c) (h1:∀ v,v∈vs'→v.oneCell'=true) (hno:∀ c,c∈cs'→refs c=[]) {av:AV} {v:Value} (hv:RepA w Im g v av) :
  Left P w Im g H p [(0,.reg (bs.set k cs'))] av v (w.setRow b ⟨vs'⟩) Im g:=by
 have hrl:0<H.length:=(List.getElem?_eq_some_iff.1 hHr).1
 have howns:(Gh.reg blks).owns b:=List.mem_of_getElem? hk
 have e:Ext w Im g (w.setRow b ⟨vs'⟩) Im g:=by
  refine⟨rfl,rfl,rfl,by simp,fun _ _ h=>h,fun b' o h=>?_,fun k hk hno=>?_,fun _ _ h=>.inl h,fun _ h=>.inl h,GLe.refl g⟩
  ·exact cell_setRow_other w b ⟨vs'⟩ ⟨b',o,none⟩ (fun(h':b'=b)=>hn o (h'▸h))
  ·exact setRow_other w b k ⟨vs'⟩ (fun h'=>hno ⟨0,_,hg,h'▸howns⟩)
 refine⟨hv.ext e,?_,e,fun _ _ h=>h⟩
 show HR P _ _ _ (setO H 0 (.reg (bs.set k cs')))
 rw[setO_lt hrl];obtain⟨blks',hg',q2,q3,q4⟩:=hH.rg.at_ bs hHr
 rw[hg]at hg'
 cases hg'
 refine hH.go1 ⟨rfl,rfl,rfl⟩ (by simp) e.hm e.gle (by simp[hH.len]) (fun r=>r=0) (fun r hr=>⟨rfl,List.getElem?_set_ne (Ne.symm hr)⟩)
  (fun r x k' hr hx hk'=>⟨setRow_other w b k' ⟨vs'⟩ (fun h=>hH.sep r 0 k' x _ hr hx hg hk' (h▸howns)),fun _ h=>h⟩) ?_ ?_ ?_ ?_ ?_ (fun r r' k' x x' _ hne hr hr' hx=>hH.sep r r' k' x x' hne hr hr' hx)
  (fun r k' x _ hr hx=>by have:=hH.lt k' ⟨r,x,hr,hx⟩;simpa using this) (fun b o h=>by have:=hH.im b o h;simpa using this) ?_ ?_ ?_
 ·rintro r cs rfl hr
  rw[List.getElem?_set_self hrl]at hr;cases hr
 ·rintro r e' sz rfl hr
  rw[List.getElem?_set_self hrl]at hr;cases hr
 ·rintro r es rfl hr
  rw[List.getElem?_set_self hrl]at hr;cases hr
 ·rintro r stop n rest rfl hr
  rw[List.getElem?_set_self hrl]at hr;cases hr
 ·rintro r acc rfl hr
  rw[List.getElem?_set_self hrl]at hr;cases hr
 ·rintro r e' sz cs rfl hr
  rw[List.getElem?_set_self hrl]at hr;cases hr
 ·rintro r t' s' rfl hr
  rw[List.getElem?_set_self hrl]at hr;cases hr
 ·refine⟨fun bs' hr=>?_,fun bs' hr=>?_,fun r bs' hr=>?_,fun r x hr=>?_,hH.rg.off⟩
  ·rw[List.getElem?_set_self hrl]at hr
   cases hr;refine⟨blks,hg,by simpa using q2,q3,fun k' b' cs hb' hc'=>?_⟩
   by_cases hkk:k=k'
   ·subst hkk;have hkl:k<bs.length:=by rw[←q2];exact(List.getElem?_eq_some_iff.1 hk).1
    rw[List.getElem?_set_self hkl]at hc'
    cases hc';rw[hk]at hb'
    cases hb';exact⟨vs',t,setRow_heap w b ⟨vs⟩ ⟨vs'⟩ t (0,0) hb,hl,fun i v c hv hc=>(hrep i v c hv hc).ext e,h1,hn⟩
   ·rw[List.getElem?_set_ne hkk]at hc'
    have hbb:b'≠b:=by
     rintro rfl
     exact hkk ((List.getElem?_inj (List.getElem?_eq_some_iff.1 hk).1 q3).1 (hk.trans hb'.symm))
    exact(q4 k' b' cs hb' hc').ext e (setRow_other w b b' ⟨vs'⟩ hbb) (fun _ h=>h)
  ·rw[List.getElem?_set_self hrl]at hr
   cases hr;intro cs hcs c hc
   rcases List.mem_or_eq_of_mem_set hcs with h|h
   ·exact hH.rg.no bs hHr cs h c hc
   ·subst h;exact hno c hc
  ·by_cases hr0:r=0
   ·exact hr0
   ·rw[List.getElem?_set_ne (Ne.symm hr0)]at hr
    exact hH.rg.only r bs' hr
  ·obtain⟨h0,_⟩:=hH.rg.back r x hr
   exact⟨h0,_,List.getElem?_set_self hrl⟩

theorem left_set(hH:HR P w Im g H){p r b:Nat}(hg:g[r]?=some (.cell b)){vs vs':List Value}{cs':List AV}{t:TypeId}(hb:w.heap[b]?=some (.cells ⟨vs⟩ t (0,0)))(hn:∀ o,¬Im b o)
  (hl:cs'.length≤vs'.length) (hrep:∀ (i:Nat) (v:Value) (c:AV),vs'[i]?=some v→cs'[i]?=some c→RepA w Im g v c) (h1:∀ v,v∈vs'→v.oneCell'=true) {av:AV} {v:Value} (hv:RepA w Im g v av) :
  Left P w Im g H p [(r,.cells cs')] av v (w.setRow b ⟨vs'⟩) Im g:=by
 have hrl:=hH.lenlt hg
 have e:Ext w Im g (w.setRow b ⟨vs'⟩) Im g:=by
  refine⟨rfl,rfl,rfl,by simp,fun _ _ h=>h,fun b' o h=>?_,fun k hk hno=>?_,fun _ _ h=>.inl h,fun _ h=>.inl h,GLe.refl g⟩
  ·exact cell_setRow_other w b ⟨vs'⟩ ⟨b',o,none⟩ (fun(h':b'=b)=>hn o (h'▸h))
  ·exact setRow_other w b k ⟨vs'⟩ (fun h'=>hno ⟨r,_,hg,h'.symm⟩)
 refine⟨hv.ext e,?_,e,fun _ _ h=>h⟩
 show HR P _ _ _ (setO H r (.cells cs'))
 rw[setO_lt hrl];refine hH.go e (by simp[hH.len]) (fun r'=>r'=r) (fun r' hr'=>⟨rfl,List.getElem?_set_ne (Ne.symm hr')⟩) (fun r' x k hne hr' hk=>⟨setRow_other w b k ⟨vs'⟩ (fun h'=>?_),fun _ h=>h⟩) ?_ ?_ ?_ ?_ ?_ ?_ ?_ ?_
 ·exact hH.sep r' r k x _ hne hr' hg hk h'.symm
 ·rintro r' cs'' rfl hr'
  rw[List.getElem?_set_self hrl]at hr'
  cases hr';exact⟨b,hg,vs',t,setRow_heap w b ⟨vs⟩ ⟨vs'⟩ t (0,0) hb,hl,fun i v c hv hc=>(hrep i v c hv hc).ext e,h1,hn⟩
 ·rintro r' ep sz rfl hr'
  rw[List.getElem?_set_self hrl]at hr'
  cases hr'
 ·rintro r' es rfl hr'
  rw[List.getElem?_set_self hrl]at hr'
  cases hr'
 ·rintro r' stop n rest rfl hr'
  rw[List.getElem?_set_self hrl]at hr'
  cases hr'
 ·rintro r' acc rfl hr'
  rw[List.getElem?_set_self hrl]at hr'
  cases hr'
 ·rintro r1 r2 k x x' rfl hne h1 h2 hx
  exact hH.sep _ _ k x x' hne h1 h2 hx
 ·rintro r' k x rfl hr' hx
  simp only[setRow_size];exact hH.lt k ⟨r',x,hr',hx⟩
 ·intro b' o h;simp only[setRow_size];exact hH.im b' o h
end
end Go.Ab
