/- Rows of bits, in the region: has, put. Conditions: none. -/
import Derived.Test.YticliodhjfednaaGreatM3
import Derived.Test.YticliodhjfednaaGreatLp
import Derived.Test.YticliodhjfednaaGreatAbX8
set_option linter.unusedSimpArgs false
set_option linter.unusedVariables false
namespace Go.Proofs.YticliodhjfednaaGreat
open Go Go.Ab
variable {ext:Sem'}
abbrev Rw:=List (BitVec 64)
def wA(x:BitVec 64):AV:=.d (.int .u64 (x.toNat:Int))
def rowB(r:Rw):List AV:=r.map wA
def rgB(R:List Rw):List (List AV):=R.map rowB
def hasQ(r:Rw)(v:Nat):Bool:=(r.getD (v/64) 0#64).getLsbD (v%64)
def clrW(w:BitVec 64)(k:Nat):BitVec 64:=w&&&~~~(1#64<<<k)
def setW(w:BitVec 64)(k:Nat):BitVec 64:=w|||(1#64<<<k)
def putB(r:Rw)(v:Nat)(b:Bool):Rw:=r.set (v/64) (if b then setW (clrW (r.getD (v/64) 0#64) (v%64)) (v%64)else clrW (r.getD (v/64) 0#64) (v%64))
theorem getb{R:List Rw}{k:Nat}{r:Rw}(h:R[k]?=some r):regGet (rgB R) k=some (rowB r):=by
 unfold regGet rgB;rw[List.getElem?_map,h]
 rfl
theorem rowB_len(r:Rw):(rowB r).length=r.length:=List.length_map _
theorem rowB_at{r:Rw}{i:Nat}(h:i<r.length):(rowB r)[i]?=some (.d (.int .u64 ((r.getD i 0#64).toNat:Int))):=by
 unfold rowB;rw[List.getElem?_map,List.getElem?_eq_getElem h]
 simp[wA,List.getD_eq_getElem?_getD,List.getElem?_eq_getElem h]
theorem rowB_set{r:Rw}{i:Nat}(h:i<r.length)(x:BitVec 64):splice (rowB r) i [.d (.int .u64 (x.toNat:Int))]=rowB (r.set i x):=by
 unfold splice rowB;rw[List.set_eq_take_append_cons_drop,if_pos h];simp[wA]
theorem setb{R:List Rw}{k i:Nat}{r:Rw}(h:R[k]?=some r)(hi:i<r.length)(x:BitVec 64):regSet (rgB R) k i [.d (.int .u64 (x.toNat:Int))]=some (rgB (R.set k (r.set i x))):=by
 unfold regSet;rw[getb h];simp only[regSetK];rw[if_pos (by rw[rowB_len];simp;omega),rowB_set hi]
 unfold rgB;rw[List.map_set]
theorem wrapU(n:Nat)(h:n<18446744073709551616):IntKind.wrap .u64 (n:Int)=(n:Int):=by
 simp[IntKind.wrap,IntKind.bits,IntKind.signed];omega
theorem ofI(x:BitVec 64):BitVec.ofInt 64 (x.toNat:Int)=x:=by
 rw[BitVec.ofInt_natCast,BitVec.ofNat_toNat,BitVec.setWidth_eq]
theorem andW(x y:BitVec 64):andI .u64 (x.toNat:Int) (y.toNat:Int)=((x&&&y).toNat:Int):=by
 unfold andI;show IntKind.wrap .u64 (((BitVec.ofInt 64 (x.toNat:Int))&&&(BitVec.ofInt 64 (y.toNat:Int))).toNat:Int)=_
 rw[ofI,ofI];exact wrapU _ (x&&&y).isLt
theorem orW(x y:BitVec 64):orI .u64 (x.toNat:Int) (y.toNat:Int)=((x|||y).toNat:Int):=by
 unfold orI;show IntKind.wrap .u64 (((BitVec.ofInt 64 (x.toNat:Int))|||(BitVec.ofInt 64 (y.toNat:Int))).toNat:Int)=_
 rw[ofI,ofI];exact wrapU _ (x|||y).isLt
theorem notW(x y:BitVec 64):notI .u64 (x.toNat:Int) (y.toNat:Int)=((x&&&~~~y).toNat:Int):=by
 unfold notI;show IntKind.wrap .u64 (((BitVec.ofInt 64 (x.toNat:Int))&&&~~~(BitVec.ofInt 64 (y.toNat:Int))).toNat:Int)=_
 rw[ofI,ofI];exact wrapU _ (x&&&~~~y).isLt
theorem shrW(x:BitVec 64)(k:Nat)(hk:k<64):(x.toNat:Int).fdiv (2^min k 64)=((x>>>k).toNat:Int):=by
 rw[Nat.min_eq_left (by omega),BitVec.toNat_ushiftRight,Nat.shiftRight_eq_div_pow,Int.fdiv_eq_ediv_of_nonneg _ (by exact_mod_cast Nat.zero_le (2^k))]
 norm_cast
theorem shlW(k:Nat)(hk:k<64):IntKind.wrap .u64 (1*2^min k 64)=((1#64<<<k).toNat:Int):=by
 rw[Nat.min_eq_left (by omega)]
 have h:(1#64<<<k).toNat=2^k:=by
  rw[BitVec.toNat_shiftLeft,Nat.shiftLeft_eq];rw[show(1#64).toNat=1 from rfl,Nat.one_mul]
  exact Nat.mod_eq_of_lt (Nat.pow_lt_pow_right (by decide) hk)
 rw[h,Int.one_mul];have:=wrapU (2^k) (Nat.pow_lt_pow_right (by decide) hk)
 push_cast at this
 exact this
theorem bitW(x:BitVec 64)(k:Nat)(hk:k<64):decide (andI .u64 ((x.toNat:Int).fdiv (2^min k 64)) 1=1)=x.getLsbD k:=by
 rw[shrW x k hk];have h:=andW (x>>>k) 1#64
 rw[show((1#64).toNat:Int)=1 from rfl]at h
 rw[h]
 have e:(x>>>k&&&1#64)=if x.getLsbD k then 1#64 else 0#64:=by
  apply BitVec.eq_of_getLsbD_eq
  intro i hi;simp only[BitVec.getLsbD_and,BitVec.getLsbD_ushiftRight]
  cases i with
  | zero=>cases x.getLsbD k<;>simp
  | succ i=>cases x.getLsbD k<;>simp[BitVec.getLsbD_one]
 rw[e]
 cases x.getLsbD k<;>simp
theorem has_e(hx:TX ext){R:List Rw}{k:Nat}{r:Rw}(hk:R[k]?=some r)(v:Nat)(hv:v<64*r.length)(hv2:v≤1000000)(hl:r.length≤1000000) :
  G ext 29 [.rs k 0 r.length 1,.d (.int .i64 v)] [.reg (rgB R)]=some (.ret (.d (.bool (hasQ r v))),[.reg (rgB R)]):=by
 have hg:=getb hk
 have hi:v/64<r.length:=by omega
 have ha:=rowB_at hi
 have h1:((v:Int)).tdiv 64=((v/64:Nat):Int):=rfl
 have h2:((v:Int)).tmod 64=((v%64:Nat):Int):=rfl
 have hi':(((v/64:Nat):Int))<(r.length:Int):=by omega
 have h0:0≤(((v/64:Nat):Int)):=by omega
 have hw:IntKind.wrap .i64 ((v/64:Nat):Int)=((v/64:Nat):Int):=wrap64 (by omega) (by omega)
 have ht:(((v/64:Nat):Int)).toNat=v/64:=rfl
 have hn:((((v%64:Nat):Int))<0)=False:=eq_false (by omega)
 have ht2:(((v%64:Nat):Int)).toNat=v%64:=rfl
 have hb:=bitW (r.getD (v/64) 0#64) (v%64) (by omega)
 rw[G_body hx.clear rfl Tryz.func29 rfl Tryz.results29 hv_29 rfl];simp(maxSteps:=9^9)(disch:=first|(intros;contradiction)|omega)only[go_sem,hg,h1,h2,hi',h0,hw,ht,ha,Nat.mul_one,hn,ht2,hb,hasQ]
theorem put_e(hx:TX ext){R:List Rw}{k:Nat}{r:Rw}(hk:R[k]?=some r)(v:Nat)(b:Bool)(hv:v<64*r.length)(hv2:v≤1000000)(hl:r.length≤1000000) :
  G ext 42 [.rs k 0 r.length 1,.d (.int .i64 v),.d (.bool b)] [.reg (rgB R)]=some (.ret (.tuple []),[.reg (rgB (R.set k (putB r v b)))]):=by
 have hg:=getb hk
 have hi:v/64<r.length:=by omega
 have ha:=rowB_at hi
 have h1:((v:Int)).tdiv 64=((v/64:Nat):Int):=rfl
 have h2:((v:Int)).tmod 64=((v%64:Nat):Int):=rfl
 have hi':(((v/64:Nat):Int))<(r.length:Int):=by omega
 have h0:0≤(((v/64:Nat):Int)):=by omega
 have hw:IntKind.wrap .i64 ((v/64:Nat):Int)=((v/64:Nat):Int):=wrap64 (by omega) (by omega)
 have ht:(((v/64:Nat):Int)).toNat=v/64:=rfl
 have hn:((((v%64:Nat):Int))<0)=False:=eq_false (by omega)
 have ht2:(((v%64:Nat):Int)).toNat=v%64:=rfl
 have hsh:=shlW (v%64) (by omega)
 have hno:=notW (r.getD (v/64) 0#64) (1#64<<<(v%64))
 generalize hx0:r.getD (v/64) 0#64=x at ha hno;generalize hk0:1#64<<<(v%64)=m at hsh hno;have hs1:=setb hk hi (x&&&~~~m)
 have hpl:=(List.getElem?_eq_some_iff.1 hk).1
 have hk1:(R.set k (r.set (v/64) (x&&&~~~m)))[k]?=some (r.set (v/64) (x&&&~~~m)):=List.getElem?_set_self hpl
 have hi1:v/64<(r.set (v/64) (x&&&~~~m)).length:=by rw[List.length_set];exact hi
 have hg1:=getb hk1
 have ha1:=rowB_at hi1
 have hd1:(r.set (v/64) (x&&&~~~m)).getD (v/64) 0#64=x&&&~~~m:=by rw[List.getD_eq_getElem?_getD,List.getElem?_set_self hi];rfl
 rw[hd1]at ha1;have hor:=orW (x&&&~~~m) m
 have hs2:=setb hk1 hi1 (x&&&~~~m|||m)
 rw[List.set_set,List.set_set]at hs2;rw[G_body hx.clear rfl Tryz.func42 rfl Tryz.results42 hv_42 rfl]
 cases b with
 | false=>
  simp(maxSteps:=9^9)(disch:=first|(intros;contradiction)|omega)only[go_sem,hg,h1,h2,hi',h0,hw,ht,ha,Nat.mul_one,hn,ht2,hsh,hno,hs1]
  subst hx0 hk0;rfl
 | true=>
  simp(maxSteps:=9^9)(disch:=first|(intros;contradiction)|omega)only[go_sem,hg,h1,h2,hi',h0,hw,ht,ha,Nat.mul_one,hn,ht2,hsh,hno,hs1,hg1,ha1,hor,hs2]
  subst hx0 hk0;rfl
def cIx(R:List Rw)(k:Nat)(r:Rw):Nat:=R.length
def cRg(R:List Rw)(r:Rw):List Rw:=R++[r]
theorem cl_at{R:List Rw}{k:Nat}{r:Rw}(h:R[k]?=some r):(cRg R r)[cIx R k r]?=some r:=by
 unfold cRg cIx;rw[List.getElem?_append_right (Nat.le_refl _),Nat.sub_self];rfl
structure TF(ext:Sem'):Prop extends TX ext where
 clone:∀ (R:List Rw) (k:Nat) (r:Rw),R[k]?=some r→r.length≤1000→ext 44 [.rs k 0 r.length 1] [.reg (rgB R)]=some (.ret (.rs (cIx R k r) 0 r.length 1),[.reg (rgB (cRg R r))])
 next:∀ (i:In1) (k:Int),i.op=17→i.to=i.els→ext 48 [i.av,.d (.int .i64 k)] []=some (.ret (.d (ints [i.to])),[])
 nextN:∀ (i:In1) (k:Int),¬(i.op=17∧i.to=i.els)→ext 48 [i.av,.d (.int .i64 k)] []=none
def rwV(W:Nat):Option Nat→AV
 | none=>.nils
 | some k=>.rs k 0 W 1
def rws(W:Nat)(E:List (Option Nat)):List AV:=E.map (rwV W)
theorem rws_refs(W:Nat)(E:List (Option Nat)):((rws W E).map refs).flatten=[]:=by
 induction E with
 | nil=>rfl
 | cons k l ih=>show refs (rwV W k)++((rws W l).map refs).flatten=[];rw[ih];cases k<;>rfl
theorem rws_ren(f:Nat→Nat)(W:Nat)(E:List (Option Nat)):(rws W E).map (ren f)=rws W E:=by
 induction E with
 | nil=>rfl
 | cons k l ih=>show ren f (rwV W k)::(rws W l).map (ren f)=rwV W k::rws W l;rw[ih];cases k<;>rfl
attribute [go_sem] rws_refs rws_ren
theorem rws_len(W:Nat)(E:List (Option Nat)):(rws W E).length=E.length:=List.length_map _
theorem rws_at{W:Nat}{E:List (Option Nat)}{i:Nat}{x:Option Nat}(h:E[i]?=some x):(rws W E)[i]?=some (rwV W x):=by unfold rws;rw[List.getElem?_map,h];rfl
theorem rws_set{W:Nat}{E:List (Option Nat)}{i:Nat}(h:i<E.length)(k:Nat):splice (rws W E) i [.rs k 0 W 1]=rws W (E.set i (some k)):=by
 unfold splice rws;rw[List.set_eq_take_append_cons_drop,if_pos h];simp[rwV]
def tbC(c:Cd1)(n:Nat):List AV:=[.d (.str c.name),.d (.int .i64 c.params),.d (.sl (c.vars.map Vr1.row)),.d (.bool c.ret.t.ptr),.d (.str c.ret.t.to),.d (.int .i64 c.ret.cls),.d (ints c.frm),.d (.sl (c.ins.map In1.row)),.arr 2 0 n 1,.arr 3 0 n 1]
def tbH(R:List Rw)(c:Cd1)(n W:Nat)(E P:List (Option Nat)):List AObj:=[.reg (rgB R),.cells (tbC c n),.cells (rws W E),.cells (rws W P)]
def clrs(r:Rw):List Int→Rw
 | []=>r
 | v::l=>clrs (putB r v.toNat false) l
theorem putB_len(r:Rw)(v:Nat)(b:Bool):(putB r v b).length=r.length:=by unfold putB;exact List.length_set ..
theorem clrs_len:∀ (l:List Int) (r:Rw),(clrs r l).length=r.length
 | [],r=>rfl
 | v::l,r=>by rw[clrs,clrs_len l,putB_len]
def behB(i:In1)(aw:List Int)(r:Rw):Rw:=if hasD i.op then putB (clrs r aw) i.d.toNat true else clrs r aw
theorem behB_len(i:In1)(aw:List Int)(r:Rw):(behB i aw r).length=r.length:=by
 unfold behB;split
 ·rw[putB_len,clrs_len]
 ·exact clrs_len aw r
end Go.Proofs.YticliodhjfednaaGreat
