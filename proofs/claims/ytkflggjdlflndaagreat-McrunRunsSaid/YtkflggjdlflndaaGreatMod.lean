/- Programs as a row reads them. Conditions: none. -/
import Derived.Test.YtkflggjdlflndaaGreatM1
import Derived.Test.YtkflggjdlflndaaGreatAbX4
namespace Go.Proofs.YtkflggjdlflndaaGreat
open Go Go.Ab
theorem rows_of {α:Type} {f:α→List Dt} {Q:α→Prop} {T:DT} (hT:∀ xs,WfD T xs→∃ x,xs = f x∧Q x):∀ {rows:List (List Dt)},(∀ row,row ∈ rows→WfD T row)→∃ l:List α,rows = l.map f∧∀ x,x ∈ l→Q x
 | [],_=>⟨[],rfl,fun x h=>by cases h⟩
 | row :: rows,h=>by
  obtain ⟨x,rfl,hx⟩:=hT row (h row (by simp))
  obtain ⟨l,rfl,hl⟩:=rows_of hT (rows:=rows) (fun r hr=>h r (by simp [hr]))
  exact ⟨x :: l,rfl,fun y hy=>by rcases List.mem_cons.1 hy with h1 | h1; (subst h1; exact hx); exact hl y h1⟩
theorem sl_of {α:Type} {f:α→List Dt} {Q:α→Prop} {T:DT} (hT:∀ xs,WfD T xs→∃ x,xs = f x∧Q x) {xs:List Dt} (h:WfD (.sl T) xs):∃ l:List α,xs = [.sl (l.map f)]∧l.length ≤ maxLen∧∀ x,x ∈ l→Q x:=by
 simp only [WfD] at h
 obtain ⟨rows,rfl,hl,h⟩:=h
 obtain ⟨l,rfl,hQ⟩:=rows_of hT h
 exact ⟨l,rfl,by simpa using hl,hQ⟩
def typeT:DT:=.st [.bool,.str]
def posT:DT:=.st [.int .i64,.int .i64]
def varT1:DT:=.st [typeT,.int .i64]
def fieldT:DT:=.st [.str,typeT,posT]
def structT:DT:=.st [.str,.sl fieldT,posT]
def insT:DT:=.st [.int .i64,.int .i64,.int .i64,.int .i64,.int .i64,.int .i64,.str,.sl (.int .i64),.sl (.int .i64),.int .i64,.int .i64,posT]
def codeT:DT:=.st [.str,.int .i64,.sl varT1,varT1,.sl (.int .i64),.sl insT]
def modT:DT:=.st [.sl structT,.sl codeT]
def I64 (n:Int):Prop:=-9223372036854775808 ≤ n∧n ≤ 9223372036854775807
theorem lit_i64 {n:Int} (h:(Lit.int .i64 n).wf = true):I64 n:=by
 unfold I64
 simpa [Lit.wf,IntKind.signed,IntKind.bits,IntKind.min,IntKind.max,Bool.and_eq_true,decide_eq_true_eq] using h
theorem int_wf {xs:List Dt} (h:WfD (.int .i64) xs):∃ n,xs = rowI n∧I64 n:=by
 simp only [WfD] at h
 obtain ⟨n,rfl,h⟩:=h
 exact ⟨n,rfl,lit_i64 h⟩
theorem ints_wf {xs:List Dt} (h:WfD (.sl (.int .i64)) xs):∃ l:List Int,xs = [ints l]∧l.length ≤ maxLen∧∀ n,n ∈ l→I64 n:=sl_of (f:=rowI) (fun _ h=>int_wf h) h
theorem str_wf {xs:List Dt} (h:WfD .str xs):∃ s,xs = [.str s]∧s.length ≤ maxLen:=by simpa only [WfD] using h
theorem bool_wf {xs:List Dt} (h:WfD .bool xs):∃ b,xs = [.bool b]:=by simpa only [WfD] using h
theorem st1 {T:DT} {Ts:List DT} {xs:List Dt} (h:WfD (.st (T :: Ts)) xs):∃ a b,xs = a ++ b∧WfD T a∧WfD (.st Ts) b:=by
 simp only [WfD,WfL] at h
 exact h
theorem st0 {xs:List Dt} (h:WfD (.st []) xs):xs = []:=by simpa only [WfD,WfL] using h
theorem pos_wf {xs:List Dt} (h:WfD posT xs):∃ p:Int × Int,xs = [.int .i64 p.1,.int .i64 p.2]∧I64 p.1∧I64 p.2:=by
 obtain ⟨_,_,rfl,h1,h⟩:=st1 h
 obtain ⟨_,_,rfl,h2,h⟩:=st1 h
 obtain rfl:=st0 h
 obtain ⟨a,rfl,ha⟩:=int_wf h1
 obtain ⟨b,rfl,hb⟩:=int_wf h2
 exact ⟨(a,b),rfl,ha,hb⟩
theorem type_wf {xs:List Dt} (h:WfD typeT xs):∃ t:Ty1,xs = t.row∧t.to.length ≤ maxLen:=by
 obtain ⟨_,_,rfl,h1,h⟩:=st1 h
 obtain ⟨_,_,rfl,h2,h⟩:=st1 h
 obtain rfl:=st0 h
 obtain ⟨a,rfl⟩:=bool_wf h1
 obtain ⟨b,rfl,hb⟩:=str_wf h2
 exact ⟨⟨a,b⟩,rfl,hb⟩
structure VrOk (v:Vr1):Prop where
 t:v.t.to.length ≤ maxLen
 cls:I64 v.cls
theorem var_wf {xs:List Dt} (h:WfD varT1 xs):∃ v:Vr1,xs = v.row∧VrOk v:=by
 obtain ⟨_,_,rfl,h1,h⟩:=st1 h
 obtain ⟨_,_,rfl,h2,h⟩:=st1 h
 obtain rfl:=st0 h
 obtain ⟨t,rfl,ht⟩:=type_wf h1
 obtain ⟨b,rfl,hb⟩:=int_wf h2
 exact ⟨⟨t,b⟩,rfl,ht,hb⟩
structure FdOk (f:Fd1):Prop where
 name:f.name.length ≤ maxLen
 t:f.t.to.length ≤ maxLen
 pos:I64 f.pos.1∧I64 f.pos.2
theorem field_wf {xs:List Dt} (h:WfD fieldT xs):∃ f:Fd1,xs = f.row∧FdOk f:=by
 obtain ⟨_,_,rfl,h1,h⟩:=st1 h
 obtain ⟨_,_,rfl,h2,h⟩:=st1 h
 obtain ⟨_,_,rfl,h3,h⟩:=st1 h
 obtain rfl:=st0 h
 obtain ⟨s,rfl,hs⟩:=str_wf h1
 obtain ⟨t,rfl,ht⟩:=type_wf h2
 obtain ⟨p,rfl,hp⟩:=pos_wf h3
 exact ⟨⟨s,t,p⟩,rfl,hs,ht,hp⟩
structure ScOk (s:Sc1):Prop where
 name:s.name.length ≤ maxLen
 flen:s.fields.length ≤ maxLen
 fields:∀ f,f ∈ s.fields→FdOk f
 pos:I64 s.pos.1∧I64 s.pos.2
theorem struct_wf {xs:List Dt} (h:WfD structT xs):∃ s:Sc1,xs = s.row∧ScOk s:=by
 obtain ⟨_,_,rfl,h1,h⟩:=st1 h
 obtain ⟨_,_,rfl,h2,h⟩:=st1 h
 obtain ⟨_,_,rfl,h3,h⟩:=st1 h
 obtain rfl:=st0 h
 obtain ⟨s,rfl,hs⟩:=str_wf h1
 obtain ⟨l,rfl,hl,hf⟩:=sl_of (fun _ h=>field_wf h) h2
 obtain ⟨p,rfl,hp⟩:=pos_wf h3
 exact ⟨⟨s,l,p⟩,rfl,hs,hl,hf,hp⟩
structure InOk (i:In1):Prop where
 op:I64 i.op
 d:I64 i.d
 a:I64 i.a
 b:I64 i.b
 f:I64 i.f
 n:I64 i.n
 sign:i.sign.length ≤ maxLen
 args:i.args.length ≤ maxLen∧∀ x,x ∈ i.args→I64 x
 mode:i.mode.length ≤ maxLen∧∀ x,x ∈ i.mode→I64 x
 dest:I64 i.to
 els:I64 i.els
 pos:I64 i.pos.1∧I64 i.pos.2
theorem ins_wf {xs:List Dt} (h:WfD insT xs):∃ i:In1,xs = i.row∧InOk i:=by
 obtain ⟨_,_,rfl,h1,h⟩:=st1 h
 obtain ⟨_,_,rfl,h2,h⟩:=st1 h
 obtain ⟨_,_,rfl,h3,h⟩:=st1 h
 obtain ⟨_,_,rfl,h4,h⟩:=st1 h
 obtain ⟨_,_,rfl,h5,h⟩:=st1 h
 obtain ⟨_,_,rfl,h6,h⟩:=st1 h
 obtain ⟨_,_,rfl,h7,h⟩:=st1 h
 obtain ⟨_,_,rfl,h8,h⟩:=st1 h
 obtain ⟨_,_,rfl,h9,h⟩:=st1 h
 obtain ⟨_,_,rfl,h10,h⟩:=st1 h
 obtain ⟨_,_,rfl,h11,h⟩:=st1 h
 obtain ⟨_,_,rfl,h12,h⟩:=st1 h
 obtain rfl:=st0 h
 obtain ⟨x1,rfl,k1⟩:=int_wf h1
 obtain ⟨x2,rfl,k2⟩:=int_wf h2
 obtain ⟨x3,rfl,k3⟩:=int_wf h3
 obtain ⟨x4,rfl,k4⟩:=int_wf h4
 obtain ⟨x5,rfl,k5⟩:=int_wf h5
 obtain ⟨x6,rfl,k6⟩:=int_wf h6
 obtain ⟨x7,rfl,k7⟩:=str_wf h7
 obtain ⟨x8,rfl,k8⟩:=ints_wf h8
 obtain ⟨x9,rfl,k9⟩:=ints_wf h9
 obtain ⟨x10,rfl,k10⟩:=int_wf h10
 obtain ⟨x11,rfl,k11⟩:=int_wf h11
 obtain ⟨x12,rfl,k12⟩:=pos_wf h12
 exact ⟨⟨x1,x2,x3,x4,x5,x6,x7,x8,x9,x10,x11,x12⟩,rfl,k1,k2,k3,k4,k5,k6,k7,k8,k9,k10,k11,k12⟩
structure CdOk (c:Cd1):Prop where
 name:c.name.length ≤ maxLen
 params:I64 c.params
 vars:c.vars.length ≤ maxLen∧∀ v,v ∈ c.vars→VrOk v
 ret:VrOk c.ret
 frm:c.frm.length ≤ maxLen∧∀ x,x ∈ c.frm→I64 x
 ins:c.ins.length ≤ maxLen∧∀ i,i ∈ c.ins→InOk i
theorem code_wf {xs:List Dt} (h:WfD codeT xs):∃ c:Cd1,xs = c.row∧CdOk c:=by
 obtain ⟨_,_,rfl,h1,h⟩:=st1 h
 obtain ⟨_,_,rfl,h2,h⟩:=st1 h
 obtain ⟨_,_,rfl,h3,h⟩:=st1 h
 obtain ⟨_,_,rfl,h4,h⟩:=st1 h
 obtain ⟨_,_,rfl,h5,h⟩:=st1 h
 obtain ⟨_,_,rfl,h6,h⟩:=st1 h
 obtain rfl:=st0 h
 obtain ⟨x1,rfl,k1⟩:=str_wf h1
 obtain ⟨x2,rfl,k2⟩:=int_wf h2
 obtain ⟨x3,rfl,k3⟩:=sl_of (fun _ h=>var_wf h) h3
 obtain ⟨x4,rfl,k4⟩:=var_wf h4
 obtain ⟨x5,rfl,k5⟩:=ints_wf h5
 obtain ⟨x6,rfl,k6⟩:=sl_of (fun _ h=>ins_wf h) h6
 exact ⟨⟨x1,x2,x3,x4,x5,x6⟩,rfl,k1,k2,k3,k4,k5,k6⟩
structure MdOk (m:Md1):Prop where
 structs:m.structs.length ≤ maxLen∧∀ s,s ∈ m.structs→ScOk s
 funcs:m.funcs.length ≤ maxLen∧∀ c,c ∈ m.funcs→CdOk c
theorem mod_wf {xs:List Dt} (h:WfD modT xs):∃ m:Md1,argOf modT xs = m.av∧MdOk m:=by
 obtain ⟨_,_,rfl,h1,h⟩:=st1 h
 obtain ⟨_,_,rfl,h2,h⟩:=st1 h
 obtain rfl:=st0 h
 obtain ⟨x1,rfl,k1⟩:=sl_of (fun _ h=>struct_wf h) h1
 obtain ⟨x2,rfl,k2⟩:=sl_of (fun _ h=>code_wf h) h2
 exact ⟨⟨x1,x2⟩,rfl,k1,k2⟩
theorem MdOk.names {m:Md1} (h:MdOk m):∀ s,s ∈ m.structs→∀ f,f ∈ s.fields→f.name.length ≤ 9223372036854775807:=fun s hs f hf=>(((h.structs.2 s hs).fields f hf).name)
theorem int_arg {xs:List Dt} (h:WfD (.int .i64) xs):∃ n,argOf (.int .i64) xs = .d (.int .i64 n)∧I64 n:=by
 obtain ⟨n,rfl,k⟩:=int_wf h
 exact ⟨n,rfl,k⟩
theorem str_arg {xs:List Dt} (h:WfD .str xs):∃ s,argOf .str xs = .d (.str s)∧s.length ≤ maxLen:=by
 obtain ⟨n,rfl,k⟩:=str_wf h
 exact ⟨n,rfl,k⟩
end Go.Proofs.YtkflggjdlflndaaGreat
