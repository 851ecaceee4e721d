/- Programs as instructions: what they are, as data. Conditions: none. -/
import Derived.Test.YticliodhjfednaaGreatNm
namespace Go.Proofs.YticliodhjfednaaGreat
open Go Go.Ab
structure Ty1 where
 ptr:Bool
 to:List UInt8
 deriving DecidableEq
structure Vr1 where
 t:Ty1
 cls:Int
structure Fd1 where
 name:List UInt8
 t:Ty1
 pos:Int×Int
structure Sc1 where
 name:List UInt8
 fields:List Fd1
 pos:Int×Int
structure In1 where
 op:Int
 d:Int
 a:Int
 b:Int
 f:Int
 n:Int
 sign:List UInt8
 args:List Int
 mode:List Int
 to:Int
 els:Int
 pos:Int×Int
structure Cd1 where
 name:List UInt8
 params:Int
 vars:List Vr1
 ret:Vr1
 frm:List Int
 ins:List In1
structure Md1 where
 structs:List Sc1
 funcs:List Cd1
def rowI(x:Int):List Dt:=[.int .i64 x]
def avI(x:Int):AV:=.d (.int .i64 x)
def ints(l:List Int):Dt:=.sl (l.map rowI)
def Ty1.row(t:Ty1):List Dt:=[.bool t.ptr,.str t.to]
def Vr1.row(v:Vr1):List Dt:=[.bool v.t.ptr,.str v.t.to,.int .i64 v.cls]
def Fd1.row(f:Fd1):List Dt:=[.str f.name,.bool f.t.ptr,.str f.t.to,.int .i64 f.pos.1,.int .i64 f.pos.2]
def Sc1.row(s:Sc1):List Dt:=[.str s.name,.sl (s.fields.map Fd1.row),.int .i64 s.pos.1,.int .i64 s.pos.2]
def In1.row(i:In1):List Dt:=[.int .i64 i.op,.int .i64 i.d,.int .i64 i.a,.int .i64 i.b,.int .i64 i.f,.int .i64 i.n,.str i.sign,ints i.args,ints i.mode,.int .i64 i.to,.int .i64 i.els,.int .i64 i.pos.1,.int .i64 i.pos.2]
def Cd1.row(c:Cd1):List Dt:=[.str c.name,.int .i64 c.params,.sl (c.vars.map Vr1.row),.bool c.ret.t.ptr,.str c.ret.t.to,.int .i64 c.ret.cls,ints c.frm,.sl (c.ins.map In1.row)]
def Ty1.av(t:Ty1):AV:=.agg [.d (.bool t.ptr),.d (.str t.to)]
def Vr1.av(v:Vr1):AV:=.agg [.d (.bool v.t.ptr),.d (.str v.t.to),.d (.int .i64 v.cls)]
def Fd1.av(f:Fd1):AV:=.agg [.d (.str f.name),.d (.bool f.t.ptr),.d (.str f.t.to),.d (.int .i64 f.pos.1),.d (.int .i64 f.pos.2)]
def Sc1.av(s:Sc1):AV:=.agg [.d (.str s.name),.d (.sl (s.fields.map Fd1.row)),.d (.int .i64 s.pos.1),.d (.int .i64 s.pos.2)]
def In1.av(i:In1):AV:=.agg [.d (.int .i64 i.op),.d (.int .i64 i.d),.d (.int .i64 i.a),.d (.int .i64 i.b),.d (.int .i64 i.f),.d (.int .i64 i.n),.d (.str i.sign),.d (ints i.args),.d (ints i.mode),.d (.int .i64 i.to),.d (.int .i64 i.els),.d (.int .i64 i.pos.1),.d (.int .i64 i.pos.2)]
def Cd1.av(c:Cd1):AV:=.agg [.d (.str c.name),.d (.int .i64 c.params),.d (.sl (c.vars.map Vr1.row)),.d (.bool c.ret.t.ptr),.d (.str c.ret.t.to),.d (.int .i64 c.ret.cls),.d (ints c.frm),.d (.sl (c.ins.map In1.row))]
def Md1.sr(m:Md1):Dt:=.sl (m.structs.map Sc1.row)
def Md1.fr(m:Md1):Dt:=.sl (m.funcs.map Cd1.row)
def Md1.av(m:Md1):AV:=.agg [.d m.sr,.d m.fr]
theorem map_at{α:Type}{f:α→List Dt}{l:List α}{i:Nat}(h:i<l.length):(l.map f)[i]?=some (f l[i]):=by rw[List.getElem?_map,List.getElem?_eq_getElem h];rfl
end Go.Proofs.YticliodhjfednaaGreat
