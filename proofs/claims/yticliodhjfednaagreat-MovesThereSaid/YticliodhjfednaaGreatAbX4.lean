/- The evaluator in use. Conditions: none. -/
import Derived.Test.YticliodhjfednaaGreatAbX1
import Derived.Test.YticliodhjfednaaGreatAbXb
import Derived.Deep.Grids
import Derived.Deep.Matrix
import Derived.Lib.SmallJoins
import Derived.Test.YticliodhjfednaaGreatAbX2
import Derived.Below
/- The abstract evaluator's rules as simp's. Conditions: none. -/
namespace Go.Ab
open Go

section
variable {P:Program}{Γ:Sem'}{hd:Nat→Option (List Ht)}{fg:Nat→List Nat}{cur:Nat}
theorem evC_skip(r:RC):evC P Γ hd fg cur .skip r=r:=rfl
theorem evC_region(id:Nat)(ops:Array Oper)(st:St):evC P Γ hd fg cur (.region id ops false) (.go st)=regK (adR (adH (hd id)) (evOps P Γ ops ops.toList st.H.length (.run (st.ready (countC ops.toList))))):=rfl
theorem evC_draw(id:Nat)(ops:Array Oper)(st:St):evC P Γ hd fg cur (.region id ops true) (.go st)=regK (adR (adH (hd id)) (regD P Γ ops st (hd id))):=rfl
theorem evC_seq(a b:Code)(r:RC):evC P Γ hd fg cur (.seq a b) r=evC P Γ hd fg cur b (evC P Γ hd fg cur a r):=rfl
theorem evC_cond(c:Operand)(a b:Code)(st:St):evC P Γ hd fg cur (.cond c a b) (.go st)=condK (evC P Γ hd fg cur a) (evC P Γ hd fg cur b) st (evArg st c):=rfl
theorem evC_block(id:Nat)(c:Code)(st:St):evC P Γ hd fg cur (.block id c) (.go st)=blockK id (evC P Γ hd fg id c (.go st)):=rfl
theorem evC_loop(c:Code)(st:St):evC P Γ hd fg cur (.loop c) (.go st)=loopA (evC P Γ hd fg cur c) (wk st.H.length (fg cur)) st:=rfl
theorem evC_scope(c:Code)(r:RC):evC P Γ hd fg cur (.scope c) r=evC P Γ hd fg cur c r:=rfl
theorem evC_exit(id:Nat)(st:St):evC P Γ hd fg cur (.exit id) (.go st)=.ex (.exit id) st.clear:=rfl
theorem evC_ret(st:St):evC P Γ hd fg cur .ret (.go st)=.ex .ret st.clear:=rfl
noncomputable def rfF(P:Program)(Γ:Sem')(hd:Nat→Option (List Ht))(fg:Nat→List Nat)(cur:Nat)(ps:List Nat)(x y:Code)(vs:List (Nat×AV))(v:List AV)(H:List AObj):RC:=evC P Γ hd fg cur y (evC P Γ hd fg cur x (.go (zipP ps v ⟨vs,[],H⟩)))
theorem rfF_eq(ps:List Nat)(x y:Code)(vs:List (Nat×AV))(v:List AV)(H:List AObj):rfF P Γ hd fg cur ps x y vs v H=evC P Γ hd fg cur y (evC P Γ hd fg cur x (.go (zipP ps v ⟨vs,[],H⟩))):=rfl
theorem evC_rf(g:Operand)(ps:Array Tmp)(x y:Code)(st:St):evC P Γ hd fg cur (.rangeFunc g ps x y) (.go st)=rfIf (plainC x&&noRF y) (rfA Γ (rfF P Γ hd fg cur ps.toList x y) ps.size st.vs st.H (evArg st g)):=rfl
theorem evC_label(l:Nat)(r:RC):evC P Γ hd fg cur (.label l) r=r:=rfl
theorem evC_ex(c:Code)(e:Ex)(st:St):evC P Γ hd fg cur c (.ex e st)=.ex e st:=by
 induction c generalizing cur with
 | seq a b iha ihb=>rw[evC_seq,iha,ihb]
 | scope c ih=>rw[evC_scope,ih]
 | _=>rfl
theorem evC_stuck(c:Code):evC P Γ hd fg cur c .stuck=.stuck:=by
 induction c generalizing cur with
 | seq a b iha ihb=>rw[evC_seq,iha,ihb]
 | scope c ih=>rw[evC_scope,ih]
 | _=>rfl
end

theorem fnEv_some{P:Program}{Γ:Sem'}{hd:Nat→Nat→Option (List Ht)}{hv:Nat→List Nat}{hf:Nat→Nat→List Nat}{f:Nat}{F:Func}{c:Code}{as:List AV}{H:List AObj}(h:P.funcs[f]?=some F)(hb:F.body=some c){rs:List ResultVar}(hr:F.results=⟨rs⟩)(hl:as.length≤F.ntmps) :
  fnEv P Γ hd hv hf f as H=finish P rs H.length (evC P Γ (hd f) (hf f) 0 c (.go (start as (hv f) H))):=by
 unfold fnEv fnK;rw[h];simp only[hb,hr,bodyEv,if_pos hl]

attribute [go_sem] ren.eq_1 ren.eq_2 ren.eq_3 ren.eq_4 ren.eq_5 ren.eq_6 ren.eq_7 ren.eq_8 ren.eq_9 ren.eq_10 ren.eq_11 ren.eq_12 ren.eq_13 ren.eq_14 ren.eq_15 ren.eq_16 ren.eq_17
attribute [go_sem] ren.eq_18 ren.eq_19 ren.eq_20 ren.eq_21 ren.eq_22 ren.eq_23 renL.eq_1 renL.eq_2 refs.eq_1 refs.eq_2 refs.eq_3 refs.eq_4 refs.eq_5 refs.eq_6 refs.eq_7 refs.eq_8
attribute [go_sem] refs.eq_9 refs.eq_10 refs.eq_11 refs.eq_12 refs.eq_13 refs.eq_14 refs.eq_15 refs.eq_16 refs.eq_17 refs.eq_18 refs.eq_19 refs.eq_20 refs.eq_21 refs.eq_22
attribute [go_sem] refs.eq_23 refsAL.eq_1 refsAL.eq_2 hasRp.eq_1 hasRp.eq_2 hasRp.eq_3 hasRp.eq_4 hasRp.eq_5 hasRp.eq_6 hasRp.eq_7 hasRp.eq_8 hasRp.eq_9 hasRp.eq_10 hasRp.eq_11
attribute [go_sem] hasRp.eq_12 hasRp.eq_13 hasRp.eq_14 hasRp.eq_15 hasRp.eq_16 hasRp.eq_17 hasRp.eq_18 hasRp.eq_19 hasRp.eq_20 hasRp.eq_21 hasRp.eq_22 hasRp.eq_23 hasRpL.eq_1
attribute [go_sem] hasRpL.eq_2 look.eq_1 look.eq_2 has.eq_1 has.eq_2 repl.eq_1 repl.eq_2 getK.eq_1 getK.eq_2 St.get putK.eq_1 putK.eq_2 St.put St.putO.eq_1 St.putO.eq_2 ofV.eq_1
attribute [go_sem] ofV.eq_2 ofV.eq_3 ofV.eq_4 ofV.eq_5 ofV.eq_6 ofV.eq_7 aggC.eq_1 aggC.eq_2 ofC.eq_1 ofC.eq_2 ofC.eq_3 ofC.eq_4 ofC.eq_5 ofC.eq_6 ofC.eq_7 ofC.eq_8 evArg.eq_1
attribute [go_sem] evArg.eq_2 evArg.eq_3 evArg.eq_4 agK.eq_1 agK.eq_2 agK.eq_3 agK.eq_4 agK.eq_5 agK.eq_6 agK.eq_7 agK.eq_8 agK.eq_9 agK.eq_10 elK.eq_1 elK.eq_2 isAg elemT bitA.eq_1
attribute [go_sem] bitA.eq_2 bitA.eq_3 bitA.eq_4 bitA.eq_5 intA.eq_1 intA.eq_2 intA.eq_3 intA.eq_4 intA.eq_5 intA.eq_6 intA.eq_7 intA.eq_8 intA.eq_9 intA.eq_10 intA.eq_11 intA.eq_12
attribute [go_sem] intA.eq_13 intA.eq_14 shiftA.eq_1 shiftA.eq_2 shiftA.eq_3 strA.eq_1 strA.eq_2 strA.eq_3 strA.eq_4 strA.eq_5 strA.eq_6 strA.eq_7 strA.eq_8 partK.eq_1 partK.eq_2
attribute [go_sem] partK.eq_3 partA andO.eq_1 andO.eq_2 eqPair.eq_1 eqPair.eq_2 eqFields.eq_1 eqFields.eq_2 eqFields.eq_3 eqAgg.eq_1 eqAgg.eq_2 eqK.eq_1 eqK.eq_2 eqK.eq_3 eqK.eq_4
attribute [go_sem] eqK.eq_5 eqK.eq_6 eqK.eq_7 eqK.eq_8 eqK.eq_9 eqK.eq_10 eqK.eq_11 eqK.eq_12 eqK.eq_13 eqK.eq_14 eqA.eq_1 eqA.eq_2 notO.eq_1 notO.eq_2 yesO.eq_1 yesO.eq_2 dO.eq_1
attribute [go_sem] dO.eq_2 binA.eq_1 binA.eq_2 binA.eq_3 binA.eq_4 binA.eq_5 binA.eq_6 binA.eq_7 nilS.eq_1 nilS.eq_2 nilS.eq_3 binS.eq_1 binS.eq_2 binS.eq_3 binN.eq_1 binN.eq_2
attribute [go_sem] unA.eq_1 unA.eq_2 unA.eq_3 unA.eq_4 unA.eq_5 bytesR.eq_1 bytesR.eq_2 bytesR.eq_3 bytesV.eq_1 bytesV.eq_2 bytesV.eq_3 bytesV.eq_4 txtO.eq_1 txtO.eq_2 convB.eq_1
attribute [go_sem] convB.eq_2 convK.eq_1 convK.eq_2 convK.eq_3 convK.eq_4 convA cellsA.eq_1 cellsA.eq_2 cellsA.eq_3 cellsA.eq_4 splice fillK.eq_1 fillK.eq_2 fillA.eq_1 fillA.eq_2
attribute [go_sem] aggO.eq_1 aggO.eq_2 dataA.eq_1 dataA.eq_2 dataA.eq_3 dataA.eq_4 dataAs.eq_1 dataAs.eq_2 chunk.eq_1 chunk.eq_2 rowsA.eq_1 rowsA.eq_2 rowsA.eq_3 rowsA.eq_4
attribute [go_sem] placeK.eq_1 placeK.eq_2 plcS.eq_1 plcS.eq_2 plc.eq_1 plc.eq_2 plc.eq_3 buildK.eq_1 buildK.eq_2 buildA chunkK.eq_1 chunkK.eq_2 chunkO.eq_1 chunkO.eq_2
attribute [go_sem] buildSliceK.eq_1 buildSliceK.eq_2 buildSliceT.eq_1 buildSliceT.eq_2 buildSliceA eqB.eq_1 eqB.eq_2 eqB.eq_3 eqB.eq_4 eqKd eqD.eq_1 eqD.eq_2 eqD.eq_3 eqD.eq_4
attribute [go_sem] eqD.eq_5 eqD.eq_6 eqDL.eq_1 eqDL.eq_2 eqDL.eq_3 eqDLL.eq_1 eqDLL.eq_2 eqDLL.eq_3 eqV.eq_1 eqV.eq_2 eqV.eq_3 eqV.eq_4 eqV.eq_5 eqV.eq_6 eqV.eq_7 eqV.eq_8 eqV.eq_9
attribute [go_sem] eqV.eq_10 eqV.eq_11 eqV.eq_12 eqV.eq_13 eqV.eq_14 eqV.eq_15 eqV.eq_16 eqV.eq_17 eqV.eq_18 eqVL.eq_1 eqVL.eq_2 eqVL.eq_3 keyK.eq_1 keyK.eq_2 keyK.eq_3 keyK.eq_4
attribute [go_sem] keyEq.eq_1 keyEq.eq_2 keyEq.eq_3 keyEq.eq_4 findM.eq_1 findM.eq_2 setM.eq_1 setM.eq_2 delM.eq_1 delM.eq_2 foundM.eq_1 foundM.eq_2 foundM.eq_3 foundM.eq_4
attribute [go_sem] entsO.eq_1 entsO.eq_2 entsA.eq_1 entsA.eq_2 entsA.eq_3 lookE.eq_1 lookE.eq_2 lookT.eq_1 lookT.eq_2 lookA unO.eq_1 unO.eq_2 unO.eq_3 unO.eq_4 unO.eq_5 unO.eq_6
attribute [go_sem] unO.eq_7 unO.eq_8 unO.eq_9 unO.eq_10 unO.eq_11 unO.eq_12 unO.eq_13 unO.eq_14 unO.eq_15 unO.eq_16 unO.eq_17 unO.eq_18 unO.eq_19 unO.eq_20 unO.eq_21 unO.eq_22
attribute [go_sem] unO.eq_23 toO.eq_1 toO.eq_2 toO.eq_3 toO.eq_4 toO.eq_5 toO.eq_6 toO.eq_7 toO.eq_8 toO.eq_9 toO.eq_10 toO.eq_11 toO.eq_12 toO.eq_13 toO.eq_14 toO.eq_15 toO.eq_16
attribute [go_sem] toO.eq_17 toO.eq_18 toO.eq_19 toO.eq_20 toO.eq_21 toO.eq_22 toO.eq_23 toOO.eq_1 toOO.eq_2 reO.eq_1 reO.eq_2 reO.eq_3 reO.eq_4 reO.eq_5 reO.eq_6 reO.eq_7 reO.eq_8
attribute [go_sem] reO.eq_9 reO.eq_10 reO.eq_11 reO.eq_12 reO.eq_13 reO.eq_14 reO.eq_15 reO.eq_16 reO.eq_17 reO.eq_18 reO.eq_19 reO.eq_20 reO.eq_21 reO.eq_22 reO.eq_23 vO.eq_1
attribute [go_sem] vO.eq_2 cellsOf.eq_1 cellsOf.eq_2 stkOf.eq_1 stkOf.eq_2 regC.eq_1 regC.eq_2 regC.eq_3 regC.eq_4 regC.eq_5 regC.eq_6 regC.eq_7 regC.eq_8 regC.eq_9 regCell.eq_1
attribute [go_sem] regCell.eq_2 loadK.eq_1 loadK.eq_2 loadA.eq_1 loadA.eq_2 loadA.eq_3 loadA.eq_4 loadA.eq_5 storeK.eq_1 storeK.eq_2 storeS.eq_1 storeS.eq_2 storeRK.eq_1
attribute [go_sem] storeRK.eq_2 storeR.eq_1 storeR.eq_2 storeT.eq_1 storeT.eq_2 storeT.eq_3 storeT.eq_4 storeA fieldAddrK.eq_1 fieldAddrK.eq_2 fieldAddrK.eq_3 fieldAddrK.eq_4
attribute [go_sem] fieldAddrK.eq_5 fieldAddrA fieldK.eq_1 fieldK.eq_2 fieldA rowK.eq_1 rowK.eq_2 indexRows indexSl.eq_1 indexSl.eq_2 indexSl.eq_3 indexSl.eq_4 indexSl.eq_5
attribute [go_sem] indexSl.eq_6 indexSl.eq_7 indexSl.eq_8 indexAr.eq_1 indexAr.eq_2 indexAddrK.eq_1 indexAddrK.eq_2 indexAddrK.eq_3 indexAddrA byteK.eq_1 byteK.eq_2 indexStr
attribute [go_sem] indexArr.eq_1 indexArr.eq_2 indexK.eq_1 indexK.eq_2 indexK.eq_3 indexA boundA.eq_1 boundA.eq_2 boundA.eq_3 cutA.eq_1 cutA.eq_2 cutA.eq_3 cutA.eq_4 cutArr.eq_1
attribute [go_sem] cutArr.eq_2 cutArr.eq_3 cutArr.eq_4 strO.eq_1 strO.eq_2 slO.eq_1 slO.eq_2 sliceArr.eq_1 sliceArr.eq_2 cutRows.eq_1 cutRows.eq_2 cutRows.eq_3 stkCut.eq_1
attribute [go_sem] stkCut.eq_2 stkCut.eq_3 sliceK.eq_1 sliceK.eq_2 sliceK.eq_3 sliceK.eq_4 sliceK.eq_5 sliceK.eq_6 sliceK.eq_7 sliceA nilCheckA.eq_1 nilCheckA.eq_2 nilCheckA.eq_3
attribute [go_sem] nilCheckA.eq_4 nilCheckA.eq_5 nilCheckA.eq_6 extractA.eq_1 extractA.eq_2 pickA.eq_1 pickA.eq_2 lenK.eq_1 lenK.eq_2 lenK.eq_3 lenK.eq_4 lenK.eq_5 lenK.eq_6
attribute [go_sem] lenK.eq_7 lenK.eq_8 lenK.eq_9 lenK.eq_10 lenK.eq_11 lenA maxA.eq_1 maxA.eq_2 minA.eq_1 minA.eq_2 growK.eq_1 growK.eq_2 stkApp.eq_1 stkApp.eq_2 appendK.eq_1
attribute [go_sem] appendK.eq_2 appendK.eq_3 appendK.eq_4 stkAppV.eq_1 stkAppV.eq_2 appendV.eq_1 appendV.eq_2 appendX.eq_1 appendX.eq_2 appendT.eq_1 appendT.eq_2 appendA clearC.eq_1
attribute [go_sem] clearC.eq_2 clearK.eq_1 clearK.eq_2 clearK.eq_3 clearT.eq_1 clearT.eq_2 clearA makeK.eq_1 makeK.eq_2 fulN.eq_1 fulN.eq_2 fulL.eq_1 fulL.eq_2 zeroM.eq_1 zeroM.eq_2
attribute [go_sem] zeroN.eq_1 zeroN.eq_2 makeT.eq_1 makeT.eq_2 makeSliceA makeRG.eq_1 makeRG.eq_2 makeRA.eq_1 makeRA.eq_2 putM.eq_1 putM.eq_2 updE.eq_1 updE.eq_2 delE.eq_1 delE.eq_2
attribute [go_sem] updT.eq_1 updT.eq_2 updA delT.eq_1 delT.eq_2 delA assertK assertT.eq_1 assertT.eq_2 assertT.eq_3 assertT.eq_4 assertA refsL.eq_1 refsL.eq_2 arrD.eq_1 arrD.eq_2
attribute [go_sem] arrV.eq_1 arrV.eq_2 fullG.eq_1 fullG.eq_2 fullG.eq_3 give0.eq_1 give0.eq_2 give0.eq_3 give0.eq_4 give0.eq_5 give0.eq_6 giveL.eq_1 giveL.eq_2 tupO.eq_1 tupO.eq_2
attribute [go_sem] give1.eq_1 give1.eq_2 give2.eq_1 give2.eq_2 arrs0.eq_1 arrs0.eq_2 arrs1.eq_1 arrs1.eq_2 arrs2.eq_1 arrs2.eq_2 setO setOs.eq_1 setOs.eq_2 noes.eq_1 noes.eq_2
attribute [go_sem] refsM.eq_1 refsM.eq_2 renM.eq_1 renM.eq_2 refsO.eq_1 refsO.eq_2 refsO.eq_3 refsO.eq_4 refsO.eq_5 refsO.eq_6 refsO.eq_7 refsO.eq_8 refsO.eq_9 renO.eq_1 renO.eq_2
attribute [go_sem] renO.eq_3 renO.eq_4 renO.eq_5 renO.eq_6 renO.eq_7 renO.eq_8 renO.eq_9 reach.eq_1 reach.eq_2 reach.eq_3 subsetB isObj.eq_1 isObj.eq_2 isObj.eq_3 isObj.eq_4
attribute [go_sem] isObj.eq_5 isObj.eq_6 isObj.eq_7 isObj.eq_8 isObj.eq_9 closed hasRpM.eq_1 hasRpM.eq_2 hasRpO.eq_1 hasRpO.eq_2 hasRpO.eq_3 hasRpO.eq_4 hasRpO.eq_5 hasRpO.eq_6
attribute [go_sem] hasRpO.eq_7 hasRpO.eq_8 hasRpO.eq_9 hasRpH.eq_1 hasRpH.eq_2 rgRoot.eq_1 rgRoot.eq_2 isReg.eq_1 isReg.eq_2 rgIn.eq_1 rgIn.eq_2 rgHas rgH rgAway.eq_1 rgAway.eq_2
attribute [go_sem] rgSure.eq_1 rgSure.eq_2 rgOk1.eq_1 rgOk1.eq_2 rgOk rgOut.eq_1 rgOut.eq_2 rgRes1.eq_1 rgRes1.eq_2 rgRes back backWs.eq_1 backWs.eq_2 callC.eq_1 callC.eq_2
attribute [go_sem] callC.eq_3 outB.eq_1 outB.eq_2 outB.eq_3 callK callH.eq_1 callH.eq_2 callR callG.eq_1 callG.eq_2 evCall nilConst.eq_1 nilConst.eq_2 creates argO.eq_1 argO.eq_2
attribute [go_sem] partsA.eq_1 partsA.eq_2 argsA.eq_1 argsA.eq_2 emptyK.eq_1 emptyK.eq_2 emptyT.eq_1 emptyT.eq_2 emptyA nilStkK.eq_1 nilStkK.eq_2 nilStkT.eq_1 nilStkT.eq_2 nilA.eq_1
attribute [go_sem] nilA.eq_2 assignA.eq_1 assignA.eq_2 newB.eq_1 newB.eq_2 newT.eq_1 newT.eq_2 newT.eq_3 newA.eq_1 newA.eq_2 fullK.eq_1 fullK.eq_2 lenB.eq_1 lenB.eq_2 appS.eq_1
attribute [go_sem] appS.eq_2 appS.eq_3 appS.eq_4 appB.eq_1 appB.eq_2 delB.eq_1 delB.eq_2 clrB.eq_1 clrB.eq_2 cpyRows cpyCells.eq_1 cpyCells.eq_2 cpySrc.eq_1 cpySrc.eq_2 cpySrc.eq_3
attribute [go_sem] cpySrc.eq_4 cpySrc.eq_5 cpySrc.eq_6 cpyW.eq_1 cpyW.eq_2 cpyD.eq_1 cpyD.eq_2 cpyK.eq_1 cpyK.eq_2 cpyT.eq_1 cpyT.eq_2 cpyB.eq_1 cpyB.eq_2 makeM builtinA.eq_1
attribute [go_sem] builtinA.eq_2 builtinA.eq_3 builtinA.eq_4 builtinA.eq_5 builtinA.eq_6 builtinA.eq_7 builtinA.eq_8 rgYld.eq_1 rgYld.eq_2 yieldK.eq_1 yieldK.eq_2 yieldK.eq_3
attribute [go_sem] yieldG.eq_1 yieldG.eq_2 yieldA callV.eq_1 callV.eq_2 callV.eq_3 panA.eq_1 panA.eq_2 ifaceK.eq_1 ifaceK.eq_2 ifaceK.eq_3 ifaceA avlK.eq_1 avlK.eq_2 avlS.eq_1
attribute [go_sem] avlS.eq_2 avlT.eq_1 avlT.eq_2 bsK.eq_1 bsK.eq_2 bsA.eq_1 bsA.eq_2 bsA.eq_3 opV.eq_1 opV.eq_2 opV.eq_3 opV.eq_4 opV.eq_5 opV.eq_6 opV.eq_7 opV.eq_8 opV.eq_9
attribute [go_sem] opV.eq_10 opV.eq_11 opV.eq_12 opV.eq_13 opV.eq_14 opV.eq_15 opV.eq_16 opV.eq_17 opV.eq_18 opV.eq_19 opV.eq_20 opV.eq_21 opV.eq_22 opV.eq_23 opV.eq_24 opV.eq_25
attribute [go_sem] opV.eq_26 opV.eq_27 opV.eq_28 opV.eq_29 opV.eq_30 opV.eq_31 opV.eq_32 sameB.eq_1 sameB.eq_2 sameB.eq_3 sameB.eq_4 gK.eq_1 gK.eq_2 gD.eq_1 gD.eq_2 guardA.eq_1
attribute [go_sem] guardA.eq_2 St.setH resK.eq_1 resK.eq_2 resK.eq_3 opK.eq_1 opK.eq_2 opK.eq_3 stepRS.eq_1 stepRS.eq_2 stepRS.eq_3 evOps.eq_1 evOps.eq_2 countC.eq_1 countC.eq_2
attribute [go_sem] St.ready St.clear regK.eq_1 regK.eq_2 regK.eq_3 condK.eq_1 condK.eq_2 blockK.eq_1 blockK.eq_2 blockK.eq_3 blockK.eq_4 blockK.eq_5 adStk.eq_1 adStk.eq_2 stkD.eq_1
attribute [go_sem] stkD.eq_2 stkFrz.eq_1 stkFrz.eq_2 adCell1.eq_1 adCell1.eq_2 adCell1.eq_3 adCell1.eq_4 adCell1.eq_5 adCell.eq_1 adCell.eq_2 adObj.eq_1 adObj.eq_2 adStkV.eq_1
attribute [go_sem] adStkV.eq_2 adVal.eq_1 adVal.eq_2 adVal.eq_3 adVal.eq_4 adS.eq_1 adS.eq_2 adR.eq_1 adR.eq_2 adR.eq_3 forget.eq_1 forget.eq_2 refsOk refsV.eq_1 refsV.eq_2
attribute [go_sem] refsH.eq_1 refsH.eq_2 wkK.eq_1 wkK.eq_2 hasRpV.eq_1 hasRpV.eq_2 rgK.eq_1 rgK.eq_2 wk' wk loopK.eq_1 loopK.eq_2 loopK.eq_3 wkR.eq_1 wkR.eq_2 bindsG.eq_1
attribute [go_sem] bindsG.eq_2 bindsG.eq_3 bindsG.eq_4 bindsG.eq_5 bindsG.eq_6 memN.eq_1 memN.eq_2 deadL.eq_1 deadL.eq_2 panOp.eq_1 panOp.eq_2 panOp.eq_3 keepTo.eq_1 keepTo.eq_2
attribute [go_sem] keepTo.eq_3 dstK.eq_1 dstK.eq_2 dstL.eq_1 dstL.eq_2 headH.eq_1 headH.eq_2 lookH.eq_1 lookH.eq_2 adH.eq_1 adH.eq_2 tailH.eq_1 tailH.eq_2 maskH.eq_1 maskH.eq_2
attribute [go_sem] maskS getEv.eq_1 getEv.eq_2 keepE.eq_1 keepE.eq_2 evOf.eq_1 evOf.eq_2 heldL1.eq_1 heldL1.eq_2 heldL1.eq_3 heldL.eq_1 heldL.eq_2 heldH1.eq_1 heldH1.eq_2
attribute [go_sem] heldH1.eq_3 heldH.eq_1 heldH.eq_2 held.eq_1 held.eq_2 held.eq_3 dHeld dPan.eq_1 dPan.eq_2 dRes.eq_1 dRes.eq_2 dRes.eq_3 dOp.eq_1 dOp.eq_2 dOp.eq_3 panK.eq_1
attribute [go_sem] panK.eq_2 panK.eq_3 stepP.eq_1 stepP.eq_2 stepD.eq_1 stepD.eq_2 stepD.eq_3 evD.eq_1 evD.eq_2 endB.eq_1 endB.eq_2 endPan.eq_1 endPan.eq_2 endD.eq_1 endD.eq_2
attribute [go_sem] endD.eq_3 msSplit.eq_1 msSplit.eq_2 isSplit.eq_1 isSplit.eq_2 refOf.eq_1 refOf.eq_2 refOf.eq_3 refOf.eq_4 neR.eq_1 neR.eq_2 neSt.eq_1 neSt.eq_2 okRun.eq_1
attribute [go_sem] okRun.eq_2 okRun.eq_3 tailB.eq_1 tailB.eq_2 tailK.eq_1 tailK.eq_2 tailK.eq_3 tailE.eq_1 tailE.eq_2 tailR.eq_1 tailR.eq_2 tailR.eq_3 preO regN regQ.eq_1 regQ.eq_2
attribute [go_sem] regD.eq_1 regD.eq_2 noRF.eq_1 noRF.eq_2 noRF.eq_3 noRF.eq_4 noRF.eq_5 noRF.eq_6 noRF.eq_7 plainC.eq_1 plainC.eq_2 plainC.eq_3 plainC.eq_4 plainC.eq_5 rfIf.eq_1
attribute [go_sem] rfIf.eq_2 zipP.eq_1 zipP.eq_2 zipP.eq_3 keepK.eq_1 keepK.eq_2 keepH rfNext.eq_1 rfNext.eq_2 rfLeft.eq_1 rfLeft.eq_2 rfK.eq_1 rfK.eq_2 rfK.eq_3 rfK.eq_4 rfK.eq_5
attribute [go_sem] rfArgs rfHeap hitB maskK.eq_1 maskK.eq_2 maskV.eq_1 maskV.eq_2 genO.eq_1 genO.eq_2 genK.eq_1 genK.eq_2 genK.eq_3 logEnd.eq_1 logEnd.eq_2 isRegO.eq_1 isRegO.eq_2
attribute [go_sem] isRegO.eq_3 isRegO.eq_4 isRegO.eq_5 isRegO.eq_6 isRegO.eq_7 isRegO.eq_8 isRegO.eq_9 noRegH.eq_1 noRegH.eq_2 rgNo.eq_1 rgNo.eq_2 rfBack.eq_1 rfBack.eq_2
attribute [go_sem] rfChkK.eq_1 rfChkK.eq_2 rfChkK.eq_3 rfChk rfGo.eq_1 rfGo.eq_2 rfEx.eq_1 rfEx.eq_2 rfEnd.eq_1 rfEnd.eq_2 rfEnd.eq_3 rfX.eq_1 rfX.eq_2 rfR.eq_1 rfR.eq_2 rfS
attribute [go_sem] rfG.eq_1 rfG.eq_2 rfA.eq_1 rfA.eq_2 numbered.eq_1 numbered.eq_2 blank.eq_1 blank.eq_2 start resA.eq_1 resA.eq_2 resL.eq_1 resL.eq_2 oneA.eq_1 oneA.eq_2 oneO.eq_1
attribute [go_sem] oneO.eq_2 leave3.eq_1 leave3.eq_2 leave2.eq_1 leave2.eq_2 leave1.eq_1 leave1.eq_2 keepL.eq_1 keepL.eq_2 keepV.eq_1 keepV.eq_2 giveQ.eq_1 giveQ.eq_2 unOL.eq_1
attribute [go_sem] unOL.eq_2 unO1.eq_1 unO1.eq_2 unOL1.eq_1 unOL1.eq_2 unO2.eq_1 unO2.eq_2 prepQ.eq_1 prepQ.eq_2 leaveP leave.eq_1 leave.eq_2 finish.eq_1 finish.eq_2 finish.eq_3
attribute [go_sem] finish.eq_4
attribute [go_sem] ne_eq Value.oneCell'.eq_1 Value.oneCell'.eq_2 Value.oneCell'.eq_3 keepNil hasReg stkT rgT byteC_byte rfF_eq List.size_toArray List.any_cons List.any_nil
attribute [go_sem] List.range_zero List.range_succ evC_label Int.cast_ofNat_Int Int.natCast_zero Int.natCast_one List.nodup_nil List.nodup_cons not_false_eq_true not_true_eq_false
attribute [go_sem] List.idxOf_cons cond_true cond_false evC_rf evC_skip evC_region evC_draw evC_seq evC_cond evC_block evC_loop evC_scope evC_exit evC_ret evC_ex evC_stuck
attribute [go_sem] List.map_cons List.map_nil List.flatten_cons List.flatten_nil List.append_nil List.nil_append List.cons_append List.length_cons List.length_nil List.length_append
attribute [go_sem] List.take_succ_cons List.take_zero List.take_nil List.drop_succ_cons List.drop_zero List.drop_nil List.all_cons List.all_nil List.set_cons_zero List.set_cons_succ
attribute [go_sem] List.getD_nil List.getD_cons_zero List.getD_cons_succ List.replicate_succ List.replicate_zero Option.getD_some Option.getD_none Option.isSome_some Option.map_some
attribute [go_sem] Option.map_none Option.bind_some Option.bind_none List.getElem?_toArray List.getElem?_cons_zero List.getElem?_cons_succ Bool.and_true Bool.true_and decide_true
attribute [go_sem] decide_false if_true if_false Bool.false_eq_true beq_self_eq_true Nat.zero_add Nat.add_zero Nat.zero_ne_one Bool.not_true Bool.not_false List.not_mem_nil
attribute [go_sem] List.mem_cons or_false false_or and_true true_and and_self Int.toNat_natCast Int.natCast_nonneg
attribute [go_sem] Int.reduceEq Int.reduceBEq eq_self Nat.reduceBEq Nat.reduceEqDiff reduceIte Nat.reduceAdd Nat.reduceSub Nat.reduceMul Nat.reduceLT Nat.reduceLeDiff Nat.reduceDiv
attribute [go_sem] Nat.reduceMod Int.reduceLT Int.reduceLE Int.reduceAdd Int.reduceSub Int.reduceMul Int.reduceNeg Int.reduceToNat reduceCtorEq Bool.or_false Bool.false_or
attribute [go_sem] Bool.or_true Bool.and_false Bool.false_and
end Go.Ab
/- A function of the program,read as its body;tests that are not decided. Conditions: none. -/
namespace Go.Ab
open Go

theorem callA_body{P:Program}{ext:Sem'}{hd:Nat→Nat→Option (List Ht)}{hv:Nat→List Nat}{hf:Nat→Nat→List Nat}{f:Nat}{F:Func}{c:Code}{as:List AV}{H:List AObj}{rs:List ResultVar}{V:List Nat}(he:ext f as H=none)(h:P.funcs[f]?=some F)(hb:F.body=some c)(hr:F.results=⟨rs⟩)(hV:hv f=V)(hl:as.length≤F.ntmps) :
  callA P ext hd hv hf f as H=finish P rs H.length (evC P (callA P ext hd hv hf) (hd f) (hf f) 0 c (.go (start as V H))):=by
 rw[callA_eq];unfold orE;rw[he];simp only
 rw[fnEv_some h hb hr hl,hV]
theorem callA_ext{P:Program}{ext:Sem'}{hd:Nat→Nat→Option (List Ht)}{hv:Nat→List Nat}{hf:Nat→Nat→List Nat}{f:Nat}{as:List AV}{H:List AObj}{r:Out×List AObj}(he:ext f as H=some r):callA P ext hd hv hf f as H=some r:=by
 rw[callA_eq];unfold orE;rw[he]

theorem loop_post{f:RC→RC}{h:St→Option St}{st0:St}{L:RC}(hL:loopA f h st0=L){K:RC→Prop}{α:Type}(I:α→Prop)(m:α→Nat)(S:α→St)(x0:α)(h0:h st0=some (S x0))(hI:I x0)
  (step:∀ x,I x→∀ next:St→RC,(∀ y st',I y→m y<m x→h st'=some (S y)→K (next st'))→K (loopK next (f (.go (S x))))):K L:=by
 have key:∀ n x st,m x≤n→I x→h st=some (S x)→K (loopA f h st):=by
  intro n;induction n with
  | zero=>intro x st hx hi hs;rw[loopA_eq,hs];exact step x hi _ (fun y _ _ hy _=>by omega)
  | succ n ih=>intro x st hx hi hs;rw[loopA_eq,hs];exact step x hi _ (fun y st' hi' hy hs'=>ih y st' (by omega) hi' hs')
 rw[←hL];exact key _ x0 st0 (Nat.le_refl _) hI h0

section
variable {P:Program}{Γ:Sem'}
theorem sameB_t(b:Bool):sameB b true=b:=by cases b<;>rfl
theorem sameB_f(b:Bool):sameB b false=!b:=by cases b<;>rfl
theorem opK_if(p:Nat)(o:Oper)(st:St)(b:Bool):opK P Γ p o st (some b)=if b=true then resK o.dst st (opV P Γ p st o.type o.op)else .run (st.putO o.dst (.tuple [])):=by
 cases b
 ·rw[if_neg (by simp)];rfl
 ·rw[if_pos rfl];rfl
theorem dOp_if(n0 p i:Nat)(h:Ht)(hs:List (Nat×Ev))(o:Oper)(st:St)(b:Bool):dOp P Γ n0 p i h hs o st (some b)=if b=true then dRes P i h hs o st (opV P Γ p (maskS n0 h.ms st) o.type o.op)else .run (st.putO o.dst (.tuple [])) (keepE i .off hs h.rc):=by
 cases b
 ·rw[if_neg (by simp)];rfl
 ·rw[if_pos rfl];rfl
theorem condK_if(fa fb:RC→RC)(st:St)(b:Bool):condK fa fb st (.d (.bool b))=if b=true then fa (.go st)else fb (.go st):=by
 cases b
 ·rw[if_neg (by simp)];rfl
 ·rw[if_pos rfl];rfl
theorem not_dec(c:Prop)[Decidable c]:(!decide c)=decide (¬c):=by by_cases h:c<;>simp[h]
end
theorem nilConst_bool(b:Bool):nilConst (.const (.bool b))=false:=rfl
theorem nilConst_int(k:IntKind)(n:Int):nilConst (.const (.int k n))=false:=rfl
theorem nilConst_str(s:ByteArray):nilConst (.const (.string s))=false:=rfl
theorem nilConst_ptr(a:Option Addr):nilConst (.const (.pointer a))=false:=rfl
theorem nilConst_map(a:Option Nat):nilConst (.const (.map a))=false:=rfl
theorem nilConst_tmp(k:Nat):nilConst (.tmp k)=false:=rfl
theorem nilConst_nilFunc:nilConst (.const .nilFunc)=false:=rfl
theorem nilConst_nilIface:nilConst (.const .nilIface)=false:=rfl
theorem nilConst_func(k:Nat):nilConst (.func k)=false:=rfl
theorem fits_nil(s:Nat):fits s []=True:=by simp[fits]
theorem fits_cons(s:Nat)(r:List Dt)(rs:List (List Dt)):fits s (r::rs)=(r.length=s∧fits s rs):=by simp[fits]
theorem fits_append(s:Nat)(a b:List (List Dt)):fits s (a++b)=(fits s a∧fits s b):=by
 simp only[fits,List.mem_append,eq_iff_iff];exact⟨fun h=>⟨fun r hr=>h r (.inl hr),fun r hr=>h r (.inr hr)⟩,fun h r hr=>hr.elim (h.1 r) (h.2 r)⟩
attribute [go_sem] fits_nil fits_cons fits_append
theorem oneA_two(a b:AV)(l:List AV):oneA (a::b::l)=.tuple (a::b::l):=rfl
attribute [go_sem] oneA_two
attribute [go_sem] nilConst_nilFunc nilConst_nilIface nilConst_bool nilConst_int nilConst_str nilConst_ptr nilConst_map nilConst_tmp nilConst_func
attribute [go_sem low] opK_if dOp_if condK_if
attribute [go_sem] sameB_t sameB_f not_dec decide_eq_true_eq headH tailH
end Go.Ab
/- Closed runs: the evaluator with fuel,that the kernel computes,and that it agrees. Conditions: none. -/
namespace Go.Ab
open Go

section
variable (P:Program)
def heldLB(t:TypeId)(x:AV)(hs:List (Nat×Ev)):List Nat→Bool
 | []=>true
 | k::ks=>(match getEv k hs with
  | some (.hp H H')=>eqO (loadA P t H x) (loadA P t H' x)
  | some .off=>true
  | _=>false)&&heldLB t x hs ks
def heldHB(H H':List AObj)(hs:List (Nat×Ev)):List Nat→Bool
 | []=>true
 | k::ks=>(match getEv k hs with
  | some (.ld t x)=>eqO (loadA P t H x) (loadA P t H' x)
  | some .off=>true
  | _=>false)&&heldHB H H' hs ks
def heldB(hs:List (Nat×Ev))(qs:List Nat):Ev→Bool
 | .ld t x=>heldLB P t x hs qs
 | .hp H H'=>heldHB P H H' hs qs
 | .off=>true
variable (Γ:Sem')
def dHeldF(i:Nat)(h:Ht)(hs:List (Nat×Ev))(e:Ev)(st:St):Bool→DS
 | true=>.run st (keepE i e hs h.rc)
 | false=>.stuck
def dResF(i:Nat)(h:Ht)(hs:List (Nat×Ev))(o:Oper)(st:St):Option ORes→DS
 | some (.val v ws)=>dHeldF i h hs (evOf st (setOs st.H ws) o.op) ((st.setH ws).putO o.dst v) (heldB P hs h.qs (evOf st (setOs st.H ws) o.op))
 | _=>.stuck
def dOpF(n0 p i:Nat)(h:Ht)(hs:List (Nat×Ev))(o:Oper)(st:St):Option Bool→DS
 | some true=>dResF P i h hs o st (opV P Γ p (maskS n0 h.ms st) o.type o.op)
 | some false=>.run (st.putO o.dst (.tuple [])) (keepE i .off hs h.rc)
 | none=>.stuck
def stepDF(ops:Array Oper)(n0 p i:Nat)(h:Ht)(o:Oper):DS→DS
 | .run st hs=>dOpF P Γ n0 p i h hs o st (guardA ops st o.guard)
 | .pan _ _ _ _ _=>.stuck
 | .stuck=>.stuck
def evDF(ops:Array Oper)(n0:Nat):List Oper→List Ht→Nat→Nat→DS→DS
 | [],_,_,_,r=>r
 | o::os,hts,i,p,r=>evDF ops n0 os (tailH hts) (i+1) (p+creates o) (stepDF P Γ ops n0 p i (headH hts) o r)
def regNF(ops:Array Oper)(st:St)(hts:List Ht):RS:=endD ops st (evDF P Γ ops st.H.length ops.toList hts 0 st.H.length (.run (st.ready (countC ops.toList)) []))
def regQF(ops:Array Oper)(st:St)(hts:List Ht):Bool→RS
 | false=>regNF P Γ ops st hts
 | true=>tailR P Γ ops (regNF P Γ (preO ops) st (tailH hts))
def regDF(ops:Array Oper)(st:St):Option (List Ht)→RS
 | some hts=>regQF P Γ ops st hts (isSplit hts)
 | none=>.stuck
def regAF(hd:Nat→Option (List Ht))(id:Nat)(ops:Array Oper)(st:St):Bool→RS
 | false=>evOps P Γ ops ops.toList st.H.length (.run (st.ready (countC ops.toList)))
 | true=>regDF P Γ ops st (hd id)
def evCF(k:Nat)(hd:Nat→Option (List Ht))(fg:Nat→List Nat):Nat→Code→RC→RC
 | _,.skip,r=>r
 | _,.region id ops draw,r=>match r with
  | .go st=>regK (adR (adH (hd id)) (regAF P Γ hd id ops st draw))
  | r=>r
 | cur,.seq a b,r=>evCF k hd fg cur b (evCF k hd fg cur a r)
 | cur,.cond c a b,r=>match r with
  | .go st=>condK (evCF k hd fg cur a) (evCF k hd fg cur b) st (evArg st c)
  | r=>r
 | _,.block id c,r=>match r with
  | .go st=>blockK id (evCF k hd fg id c (.go st))
  | r=>r
 | cur,.loop c,r=>match r with
  | .go st=>loopN (evCF k hd fg cur c) (wk st.H.length (fg cur)) k st
  | r=>r
 | cur,.scope c,r=>evCF k hd fg cur c r
 | _,.exit id,r=>match r with
  | .go st=>.ex (.exit id) st.clear
  | r=>r
 | _,.ret,r=>match r with
  | .go st=>.ex .ret st.clear
  | r=>r
 | cur,.rangeFunc g ps x y,r=>match r with
  | .go st=>rfIf (plainC x&&noRF y) (rfA Γ (fun vs v H=>evCF k hd fg cur y (evCF k hd fg cur x (.go (zipP ps.toList v ⟨vs,[],H⟩)))) ps.size st.vs st.H (evArg st g))
  | r=>r
 | _,.label _,r=>r
 | _,.goto _,r=>match r with
  | .go _=>.stuck
  | r=>r
 | _,.refuse _,r=>match r with
  | .go _=>.stuck
  | r=>r
def bodyF(k:Nat)(hd:Nat→Option (List Ht))(fg:Nat→List Nat)(vs:List Nat)(as:List AV)(H:List AObj)(F:Func):Option Code→Option (Out×List AObj)
 | some c=>if as.length≤F.ntmps then finish P F.results.toList H.length (evCF P Γ k hd fg 0 c (.go (start as vs H)))else none
 | none=>none
def fnKF(k:Nat)(hd:Nat→Option (List Ht))(fg:Nat→List Nat)(vs:List Nat)(as:List AV)(H:List AObj):Option Func→Option (Out×List AObj)
 | some F=>bodyF P Γ k hd fg vs as H F F.body
 | none=>none
end
section
variable (P:Program)(isX:Nat→Bool)(hd:Nat→Nat→Option (List Ht))(hv:Nat→List Nat)(hf:Nat→Nat→List Nat)(k:Nat)
def callF:Nat→Sem'
 | 0=>fun _ _ _=>none
 | n+1=>fun f as H=>if isX f then none else fnKF P (callF n) k (hd f) (hf f) (hv f) as H P.funcs[f]?
end

section
variable {P:Program}{Γ Γ':Sem'}
def LeS(Γ Γ':Sem'):Prop:=∀ (f:Nat) (as:List AV) (H:List AObj) (r:Out×List AObj),Γ f as H=some r→Γ' f as H=some r
theorem heldLB_ok{t:TypeId}{x:AV}{hs:List (Nat×Ev)}:∀ {qs:List Nat},heldLB P t x hs qs=true→heldL P t x hs qs
 | [],_=>trivial
 | q::qs,h=>by
  simp only[heldLB,Bool.and_eq_true]at h;refine⟨?_,heldLB_ok h.2⟩
  have h1:=h.1
  cases hg:getEv q hs with
  | none=>rw[hg]at h1;cases h1
  | some e=>
   rw[hg]at h1
   cases e with
   | ld t x=>cases h1
   | hp H H'=>exact eqO_ok h1
   | off=>trivial
theorem heldHB_ok{H H':List AObj}{hs:List (Nat×Ev)}:∀ {qs:List Nat},heldHB P H H' hs qs=true→heldH P H H' hs qs
 | [],_=>trivial
 | q::qs,h=>by
  simp only[heldHB,Bool.and_eq_true]at h;refine⟨?_,heldHB_ok h.2⟩
  have h1:=h.1
  cases hg:getEv q hs with
  | none=>rw[hg]at h1;cases h1
  | some e=>
   rw[hg]at h1
   cases e with
   | ld t x=>exact eqO_ok h1
   | hp H H'=>cases h1
   | off=>trivial
theorem heldB_ok{hs:List (Nat×Ev)}{qs:List Nat}{e:Ev}(h:heldB P hs qs e=true):held P hs qs e:=by
 cases e with
 | ld t x=>exact heldLB_ok h
 | hp H H'=>exact heldHB_ok h
 | off=>trivial

theorem LeS.apx(h:LeS Γ Γ'):Apx (fun _=>Γ') Γ:=fun f as H r hr=>⟨0,fun _ _=>h f as H r hr⟩
theorem opV_le(h:LeS Γ Γ'){p:Nat}{st:St}{ty:TypeId}{op:Op}{r:ORes}(hr:opV P Γ p st ty op=some r):opV P Γ' p st ty op=some r:=by
 obtain⟨n,hn⟩:=opV_apx h.apx hr
 exact hn n (Nat.le_refl _)
theorem evOps_le(h:LeS Γ Γ'){ops:Array Oper}{l:List Oper}{p:Nat}{r:RS}(hr:evOps P Γ ops l p r≠.stuck):evOps P Γ' ops l p r=evOps P Γ ops l p r:=by
 obtain⟨n,hn⟩:=evOps_apx h.apx l p r hr
 exact hn n (Nat.le_refl _)
theorem stepDF_le(h:LeS Γ Γ'){ops:Array Oper}{n0 p i:Nat}{ht:Ht}{o:Oper}{r:DS}(hr:stepDF P Γ ops n0 p i ht o r≠.stuck):stepD P Γ' ops n0 p i ht o r=stepDF P Γ ops n0 p i ht o r:=by
 cases r with
 | run st hs=>
  simp only[stepD,stepDF]at hr ⊢
  cases hg:guardA ops st o.guard with
  | none=>rfl
  | some b=>
   rw[hg]at hr
   cases b with
   | false=>rfl
   | true=>
    simp only[dOp,dOpF]at hr ⊢
    cases ho:opV P Γ p (maskS n0 ht.ms st) o.type o.op with
    | none=>rw[ho]at hr;exact absurd rfl hr
    | some q=>
     rw[opV_le h ho];rw[ho]at hr
     cases q with
     | pan v ws=>exact absurd rfl hr
     | val v ws=>
      simp only[dRes,dResF,dHeld]at hr ⊢
      cases hb:heldB P hs ht.qs (evOf st (setOs st.H ws) o.op)with
      | false=>rw[hb]at hr;exact absurd rfl hr
      | true=>rw[if_pos (heldB_ok hb)];rfl
 | pan st hs dead v H=>exact absurd rfl hr
 | stuck=>rfl
theorem evDF_stuck{ops:Array Oper}{n0:Nat}:∀ (l:List Oper) (hts:List Ht) (i p:Nat),evDF P Γ ops n0 l hts i p .stuck=.stuck
 | [],_,_,_=>rfl
 | o::l,hts,i,p=>by simp only[evDF];exact evDF_stuck l _ _ _
theorem evDF_le(h:LeS Γ Γ'){ops:Array Oper}{n0:Nat}:∀ (l:List Oper) (hts:List Ht) (i p:Nat) (r:DS),evDF P Γ ops n0 l hts i p r≠.stuck→evD P Γ' ops n0 l hts i p r=evDF P Γ ops n0 l hts i p r
 | [],_,_,_,_,_=>rfl
 | o::l,hts,i,p,r,hr=>by
  simp only[evDF,evD]at hr ⊢;have h1:stepDF P Γ ops n0 p i (headH hts) o r≠.stuck:=fun e=>by rw[e,evDF_stuck]at hr;exact hr rfl
  rw[stepDF_le h h1];exact evDF_le h l _ _ _ _ hr
theorem regAF_le(h:LeS Γ Γ'){hd:Nat→Option (List Ht)}{id:Nat}{ops:Array Oper}{st:St}{draw:Bool}(hr:regAF P Γ hd id ops st draw≠.stuck):regA P Γ' hd id ops st draw=regAF P Γ hd id ops st draw:=by
 cases draw with
 | false=>exact evOps_le h hr
 | true=>
  simp only[regA,regAF]at hr ⊢
  cases hh:hd id with
  | none=>rfl
  | some hts=>
   rw[hh]at hr;simp only[regD,regDF]at hr ⊢
   have hN:∀ {ops:Array Oper} {hts:List Ht},regNF P Γ ops st hts≠.stuck→regN P Γ' ops st hts=regNF P Γ ops st hts:=by
    intro ops hts hr;unfold regN regNF at *;rw[evDF_le h _ _ _ _ _ (fun e=>by rw[e]at hr;exact hr rfl)]
   cases hsp:isSplit hts with
   | false=>rw[hsp]at hr;exact hN hr
   | true=>
    rw[hsp]at hr;simp only[regQ,regQF]at hr ⊢;rw[hN (fun e=>by rw[e]at hr;exact hr rfl)]
    obtain⟨n,hn⟩:=tailR_apx h.apx hr
    exact hn n (Nat.le_refl _)

theorem evCF_stuck{k:Nat}{hd:Nat→Option (List Ht)}{fg:Nat→List Nat}{cur:Nat}(c:Code):evCF P Γ k hd fg cur c .stuck=.stuck:=by
 induction c generalizing cur with
 | seq a b iha ihb=>show evCF P Γ k hd fg cur b (evCF P Γ k hd fg cur a .stuck)=_;rw[iha,ihb]
 | scope c ih=>show evCF P Γ k hd fg cur c .stuck=_;rw[ih]
 | _=>rfl

theorem evCF_le(h:LeS Γ Γ'){k:Nat}{hd:Nat→Option (List Ht)}{fg:Nat→List Nat}:∀ (c:Code) (cur:Nat) (r:RC),evCF P Γ k hd fg cur c r≠.stuck→evC P Γ' hd fg cur c r=evCF P Γ k hd fg cur c r:=by
 intro c;induction c with
 | region id ops draw=>
  intro cur r hr
  cases r with
  | go st=>
   have h':regK (adR (adH (hd id)) (regAF P Γ hd id ops st draw))≠.stuck:=hr
   show regK (adR (adH (hd id)) (regA P Γ' hd id ops st draw))=regK (adR (adH (hd id)) (regAF P Γ hd id ops st draw))
   rw[regAF_le h (fun e=>by rw[e]at h';exact h' rfl)]
  | ex e st=>rfl
  | stuck=>rfl
 | seq a b iha ihb=>
  intro cur r hr;have h':evCF P Γ k hd fg cur b (evCF P Γ k hd fg cur a r)≠.stuck:=hr
  show evC P Γ' hd fg cur b (evC P Γ' hd fg cur a r)=evCF P Γ k hd fg cur b (evCF P Γ k hd fg cur a r)
  rw[iha cur r (fun e=>by rw[e,evCF_stuck]at h';exact h' rfl),ihb cur _ h']
 | cond x a b iha ihb=>
  intro cur r hr
  cases r with
  | go st=>
   have h':condK (evCF P Γ k hd fg cur a) (evCF P Γ k hd fg cur b) st (evArg st x)≠.stuck:=hr
   show condK (evC P Γ' hd fg cur a) (evC P Γ' hd fg cur b) st (evArg st x)=condK (evCF P Γ k hd fg cur a) (evCF P Γ k hd fg cur b) st (evArg st x)
   generalize evArg st x=v at h' ⊢;unfold condK at h' ⊢;split at h'
   ·exact iha cur _ h'
   ·exact ihb cur _ h'
   ·exact absurd rfl h'
  | ex e st=>rfl
  | stuck=>rfl
 | block id c ih=>
  intro cur r hr
  cases r with
  | go st=>
   have h':blockK id (evCF P Γ k hd fg id c (.go st))≠.stuck:=hr
   show blockK id (evC P Γ' hd fg id c (.go st))=blockK id (evCF P Γ k hd fg id c (.go st))
   rw[ih id _ (fun e=>by rw[e]at h';exact h' rfl)]
  | ex e st=>rfl
  | stuck=>rfl
 | loop c ih=>
  intro cur r hr
  cases r with
  | go st=>
   have h':loopN (evCF P Γ k hd fg cur c) (wk st.H.length (fg cur)) k st≠.stuck:=hr
   show loopA (evC P Γ' hd fg cur c) (wk st.H.length (fg cur)) st=loopN (evCF P Γ k hd fg cur c) (wk st.H.length (fg cur)) k st
   have key:∀ (m:Nat) (st1:St),loopN (evCF P Γ k hd fg cur c) (wk st.H.length (fg cur)) m st1≠.stuck→loopN (evC P Γ' hd fg cur c) (wk st.H.length (fg cur)) m st1=loopN (evCF P Γ k hd fg cur c) (wk st.H.length (fg cur)) m st1:=by
    intro m;induction m with
    | zero=>intro st1 h1;exact absurd rfl h1
    | succ m ihm=>
     intro st1 h1;simp only[loopN]at h1 ⊢
     cases hw:wk st.H.length (fg cur) st1 with
     | none=>rfl
     | some st2=>
      rw[hw]at h1;simp only[wkR]at h1 ⊢;rw[ih cur _ (fun e=>by rw[e]at h1;exact h1 rfl)]
      cases hx:evCF P Γ k hd fg cur c (.go st2)with
      | go st3=>rw[hx]at h1;exact ihm st3 h1
      | ex e st3=>rfl
      | stuck=>rfl
   have hk:=key k st h'
   rw[←hk]at h';rw[loopA_of _ _ h',hk]
  | ex e st=>rfl
  | stuck=>rfl
 | scope c ih=>intro cur r hr;exact ih cur r hr
 | rangeFunc gop ps x y ihx ihy=>
  intro cur r hr
  cases r with
  | go st=>
   have h':rfIf (plainC x&&noRF y) (rfA Γ (fun vs v H=>evCF P Γ k hd fg cur y (evCF P Γ k hd fg cur x (.go (zipP ps.toList v ⟨vs,[],H⟩)))) ps.size st.vs st.H (evArg st gop))≠.stuck:=hr
   show rfIf (plainC x&&noRF y) (rfA Γ' (fun vs v H=>evC P Γ' hd fg cur y (evC P Γ' hd fg cur x (.go (zipP ps.toList v ⟨vs,[],H⟩)))) ps.size st.vs st.H (evArg st gop))=rfIf (plainC x&&noRF y) (rfA Γ (fun vs v H=>evCF P Γ k hd fg cur y (evCF P Γ k hd fg cur x (.go (zipP ps.toList v ⟨vs,[],H⟩)))) ps.size st.vs st.H (evArg st gop))
   cases hb:(plainC x&&noRF y)with
   | false=>rfl
   | true=>
    rw[hb]at h'
    obtain⟨n,hn⟩:=rfA_apx h.apx (fs:=fun _ vs v H=>evC P Γ' hd fg cur y (evC P Γ' hd fg cur x (.go (zipP ps.toList v ⟨vs,[],H⟩)))) (fun vs v H hne=>⟨0,fun _ _=>by
     rw[ihx cur _ (fun e=>by rw[e,evCF_stuck]at hne;exact hne rfl)]
     exact ihy cur _ hne⟩) h'
    exact hn n (Nat.le_refl _)
  | ex e st=>rfl
  | stuck=>rfl
 | _=>intro cur r _;cases r<;>rfl

theorem callF_ok{isX:Nat→Bool}{ext:Sem'}{hd:Nat→Nat→Option (List Ht)}{hv:Nat→List Nat}{hf:Nat→Nat→List Nat}{k:Nat}(hx:∀ (f:Nat) (as:List AV) (H:List AObj),isX f=false→ext f as H=none) :
  ∀ (n:Nat),LeS (callF P isX hd hv hf k n) (callA P ext hd hv hf):=by
 intro n;induction n with
 | zero=>intro f as H r h;cases h
 | succ n ih=>
  intro f as H r h;simp only[callF]at h;split at h
  ·cases h
  ·rename_i hX;rw[callA_eq];unfold orE;rw[hx f as H (by simpa using hX)]
   simp only
   unfold fnKF at h;split at h
   ·rename_i F hF;unfold bodyF at h;split at h
    ·rename_i c hc;split at h
     ·rename_i hl;simp only[fnEv,fnK,hF,bodyEv,hc,if_pos hl];rw[evCF_le ih c 0 _ (fun e=>by rw[e]at h;simp[finish]at h)]
      exact h
     ·cases h
    ·cases h
   ·cases h
end
end Go.Ab
/- Closed runs where some calls' answers are known. Conditions: none. -/
namespace Go.Ab
open Go
def eqVLL:List (List AV)→List (List AV)→Bool
 | [],[]=>true
 | x::xs,y::ys=>eqVL x y&&eqVLL xs ys
 | _,_=>false
theorem eqVLL_ok:∀ {a b:List (List AV)},eqVLL a b=true→a=b
 | [],[],_=>rfl
 | x::xs,y::ys,h=>by
  simp only[eqVLL,Bool.and_eq_true]at h;rw[eqVL_ok _ _ h.1,eqVLL_ok h.2]
 | [],_::_,h=>by cases h
 | _::_,[],h=>by cases h
def eqOb:AObj→AObj→Bool
 | .no,.no=>true
 | .cells a,.cells b=>eqVL a b
 | .grow e s,.grow f t=>decide (e=f)&&decide (s=t)
 | .stk e s a,.stk f t b=>decide (e=f)&&decide (s=t)&&eqVL a b
 | .reg a,.reg b=>eqVLL a b
 | _,_=>false
def eqObs:List AObj→List AObj→Bool
 | [],[]=>true
 | x::xs,y::ys=>eqOb x y&&eqObs xs ys
 | _,_=>false
theorem eqOb_ok:∀ {a b:AObj},eqOb a b=true→a=b:=by
 intro a b h
 cases a<;>cases b<;>simp only[eqOb,Bool.and_eq_true,decide_eq_true_eq,Bool.false_eq_true]at h<;>first|rfl|exact congrArg AObj.cells (eqVL_ok _ _ h)|exact congrArg AObj.reg (eqVLL_ok h)|(obtain⟨rfl,rfl⟩:=h;rfl)|(obtain⟨⟨rfl,rfl⟩,h⟩:=h;rw[eqVL_ok _ _ h])
theorem eqObs_ok:∀ {a b:List AObj},eqObs a b=true→a=b
 | [],[],_=>rfl
 | x::xs,y::ys,h=>by
  simp only[eqObs,Bool.and_eq_true]at h;rw[eqOb_ok h.1,eqObs_ok h.2]
 | [],_::_,h=>by cases h
 | _::_,[],h=>by cases h
structure Fact where
 f:Nat
 as:List AV
 H:List AObj
 r:Out×List AObj
def findF(f:Nat)(as:List AV)(H:List AObj):List Fact→Option (Out×List AObj)
 | []=>none
 | x::l=>if x.f=f then(if(eqVL x.as as&&eqObs x.H H)=true then some x.r else findF f as H l)else findF f as H l
theorem findF_ok{f:Nat}{as:List AV}{H:List AObj}{r:Out×List AObj}:∀ {l:List Fact},findF f as H l=some r→∃ x,x∈l∧x.f=f∧x.as=as∧x.H=H∧x.r=r
 | [],h=>by cases h
 | x::l,h=>by
  simp only[findF]at h;split at h
  ·rename_i h1;split at h
   ·rename_i h2;rw[Bool.and_eq_true]at h2;exact⟨x,by simp,h1,eqVL_ok _ _ h2.1,eqObs_ok h2.2,by cases h;rfl⟩
   ·obtain⟨y,h1,h2⟩:=findF_ok h
    exact⟨y,by simp[h1],h2⟩
  ·obtain⟨y,h1,h2⟩:=findF_ok h
   exact⟨y,by simp[h1],h2⟩
def orF(r:Option (Out×List AObj)):Option (Out×List AObj)→Option (Out×List AObj)
 | some q=>some q
 | none=>r
section
variable (P:Program)(isX:Nat→Bool)(hd:Nat→Nat→Option (List Ht))(hv:Nat→List Nat)(hf:Nat→Nat→List Nat)(tbl:List Fact)(k:Nat)
def callT:Nat→Sem'
 | 0=>fun f as H=>findF f as H tbl
 | n+1=>fun f as H=>orF (if isX f then none else fnKF P (callT n) k (hd f) (hf f) (hv f) as H P.funcs[f]?) (findF f as H tbl)
end
section
variable {P:Program}
theorem callT_ok{isX:Nat→Bool}{ext:Sem'}{hd:Nat→Nat→Option (List Ht)}{hv:Nat→List Nat}{hf:Nat→Nat→List Nat}{k:Nat}(hx:∀ (f:Nat) (as:List AV) (H:List AObj),isX f=false→ext f as H=none){tbl:List Fact}
  (ht:∀ x,x∈tbl→callA P ext hd hv hf x.f x.as x.H=some x.r) :
  ∀ (n:Nat),LeS (callT P isX hd hv hf tbl k n) (callA P ext hd hv hf):=by
 have hfind:∀ (f:Nat) (as:List AV) (H:List AObj) (r:Out×List AObj),findF f as H tbl=some r→callA P ext hd hv hf f as H=some r:=by
  intro f as H r h;obtain⟨x,h1,rfl,rfl,rfl,rfl⟩:=findF_ok h
  exact ht x h1
 intro n;induction n with
 | zero=>exact hfind
 | succ n ih=>
  intro f as H r h;simp only[callT]at h
  cases hq:findF f as H tbl with
  | some q=>
   rw[hq]at h
   cases h;exact hfind f as H _ hq
  | none=>
   rw[hq]at h;simp only[orF]at h;split at h
   ·cases h
   ·rename_i hX;rw[callA_eq];unfold orE;rw[hx f as H (by simpa using hX)]
    simp only
    unfold fnKF at h;split at h
    ·rename_i F hF;unfold bodyF at h;split at h
     ·rename_i c hc;split at h
      ·rename_i hl;simp only[fnEv,fnK,hF,bodyEv,hc,if_pos hl];rw[evCF_le ih c 0 _ (fun e=>by rw[e]at h;simp[finish]at h)]
       exact h
      ·cases h
     ·cases h
    ·cases h
end
end Go.Ab
/- From a row's reading to data,and from what a function comes to back to a law's answer. Conditions: none. -/
namespace Go.Ab
open Go Go.ChangeShapes Go.WideShapes Go.ChangeAt Go.RowKit Go.Deep

inductive DT where
 | bool
 | int (k:IntKind)
 | str
 | sl (e:DT)
 | st (fs:List DT)

mutual
def DT.size:DT→Nat
 | .bool=>1
 | .int _=>1
 | .str=>1
 | .sl _=>1
 | .st fs=>DT.sizes fs
def DT.sizes:List DT→Nat
 | []=>0
 | T::Ts=>DT.size T+DT.sizes Ts
end
mutual
def dtOk(P:Program):DT→TypeId→Bool
 | .bool,t=>match P.underlying t with
  | some .bool=>true
  | _=>false
 | .int k,t=>match P.underlying t with
  | some (.int k')=>decide (k=k')
  | _=>false
 | .str,t=>match P.underlying t with
  | some .string=>true
  | _=>false
 | .sl e,t=>match P.underlying t with
  | some (.slice e')=>dtOk P e e'&&decide (P.cellsOf e'=DT.size e)&&decide (0<DT.size e)
  | _=>false
 | .st fs,t=>match P.underlying t with
  | some (.struct fl)=>fieldsOk P fs fl.toList 0&&decide (P.cellsOf t=DT.sizes fs)
  | _=>false
def fieldsOk(P:Program):List DT→List Field→Nat→Bool
 | [],[],_=>true
 | T::Ts,f::fl,off=>decide (f.offset=off)&&dtOk P T f.type&&decide (P.cellsOf f.type=DT.size T)&&fieldsOk P Ts fl (off+DT.size T)
 | _,_,_=>false
end
mutual
def WfD:DT→List Dt→Prop
 | .bool,xs=>∃ b,xs=[.bool b]
 | .int k,xs=>∃ n,xs=[.int k n]∧(Lit.int k n).wf=true
 | .str,xs=>∃ s,xs=[.str s]∧s.length≤maxLen
 | .sl e,xs=>∃ rows:List (List Dt),xs=[.sl rows]∧rows.length≤maxLen∧∀ row,row∈rows→WfD e row
 | .st fs,xs=>WfL fs xs
def WfL:List DT→List Dt→Prop
 | [],xs=>xs=[]
 | T::Ts,xs=>∃ a b,xs=a++b∧WfD T a∧WfL Ts b
end
mutual
theorem WfD_len:∀ (T:DT) (xs:List Dt),WfD T xs→xs.length=DT.size T
 | .bool,xs,h=>by simp only[WfD]at h;obtain⟨b,rfl⟩:=h;rfl
 | .int k,xs,h=>by simp only[WfD]at h;obtain⟨n,rfl,_⟩:=h;rfl
 | .str,xs,h=>by simp only[WfD]at h;obtain⟨s,rfl,_⟩:=h;rfl
 | .sl e,xs,h=>by simp only[WfD]at h;obtain⟨r,rfl,_⟩:=h;rfl
 | .st fs,xs,h=>by simp only[WfD]at h;simp only[DT.size];exact WfL_len fs xs h
theorem WfL_len:∀ (Ts:List DT) (xs:List Dt),WfL Ts xs→xs.length=DT.sizes Ts
 | [],xs,h=>by simp only[WfL]at h;subst h;rfl
 | T::Ts,xs,h=>by
  simp only[WfL]at h;obtain⟨a,b,rfl,h1,h2⟩:=h
  simp only[DT.sizes,List.length_append];rw[WfD_len T a h1,WfL_len Ts b h2]
end

abbrev Old(w:World):Imm:=fun b _=>b<w.heap.size
def RepDs(w:World)(vs:List Value)(xs:List Dt):Prop:=vs.length=xs.length∧∀ (i:Nat) (v:Value) (x:Dt),vs[i]?=some v→xs[i]?=some x→RepD w (Old w) v x
theorem repDs_one{w:World}{v:Value}{x:Dt}(h:RepD w (Old w) v x):RepDs w [v] [x]:=⟨rfl,fun i v' x' hv hx=>by
 cases i with
 | zero=>simp at hv hx;subst hv hx;exact h
 | succ i=>simp at hv⟩

theorem old_plain{w:World}{a:Addr}{v:Value}(h:w.cell? (a.add 0)=some v):∃ b off,a=⟨b,off,none⟩:=by
 obtain⟨b,off,spot⟩:=a
 cases spot with
 | none=>exact⟨b,off,rfl⟩
 | some s=>
  exfalso
  simp only[Addr.add,if_true]at h;unfold World.cell? at h;simp only at h
  split at h<;>simp_all
theorem plain_add(b off i:Nat):(⟨b,off,none⟩:Addr).add i=⟨b,off+i,none⟩:=by
 unfold Addr.add;split<;>simp_all

section
variable {H:Type}{enc:TypeId×Value→H}{P:Program}{w:World}{spare:Nat→Bool}{held:Bool}

mutual
theorem trod_wf:∀ (T:DT) (t:TypeId) (n:Nat) (cs:List Value) (y:DataW H×List MemPlace),dtOk P T t=true→DataW.trod enc P w 0 spare held n t cs=some y→∃ xs,WfD T xs∧RepDs w cs xs
 | .bool,t,n,cs,y,hk,h=>by
  simp only[dtOk]at hk;split at hk
  ·rename_i ht;obtain⟨b,rfl,_⟩:=DataW.trod_bool ht h
   exact⟨[.bool b],by simp only[WfD];exact⟨b,rfl⟩,repDs_one (.bool b)⟩
  ·cases hk
 | .int k,t,n,cs,y,hk,h=>by
  simp only[dtOk]at hk;split at hk
  ·rename_i k' ht;simp only[decide_eq_true_eq]at hk;subst hk;obtain⟨m,rfl,_,hw⟩:=DataW.trod_int ht h
   exact⟨[.int k m],by simp only[WfD];exact⟨m,rfl,hw⟩,repDs_one (.int k m)⟩
  ·cases hk
 | .str,t,n,cs,y,hk,h=>by
  simp only[dtOk]at hk;split at hk
  ·rename_i ht;obtain⟨s,rfl,_,hw⟩:=DataW.trod_string ht h
   refine⟨[.str s.data.toList],by simp only[WfD];exact⟨_,rfl,by simpa using hw⟩,repDs_one ?_⟩
   have:=RepD.str (w:=w) (Im:=Old w) s.data.toList
   exact this
  ·cases hk
 | .sl e,t,n,cs,y,hk,h=>by
  simp only[dtOk]at hk;split at hk
  ·rename_i e' ht;simp only[Bool.and_eq_true,decide_eq_true_eq]at hk;obtain⟨⟨hk1,hk2⟩,hk3⟩:=hk
   rcases open_slice ht h with⟨rfl,_⟩|⟨a,len,cap,m,n',D,Pl,rfl,_,hl,hm,hmm,_,hx⟩
   ·exact⟨[.sl []],by simp only[WfD];exact⟨[],rfl,Nat.zero_le _,by simp⟩,repDs_one (.sl0 none 0)⟩
   ·have hlm:len≤m:=by rw[hmm];split<;>omega
    have hrow:∀ i,i<len→∃ r:List Dt,WfD e r∧∃ cs',w.cells? 0 (a.add (i*P.cellsOf e')) (P.cellsOf e')=some cs'∧RepDs w cs' r:=by
     intro i hi;obtain⟨cs',h1,h2⟩:=hx i (by omega)
     obtain⟨r,h3,h4⟩:=trod_wf e e' n' cs' _ hk1 h2
     exact⟨r,h3,cs',h1,h4⟩
    obtain⟨R,hR⟩:=choose_lt hrow
    refine⟨[.sl ((List.range len).map R)],?_,repDs_one ?_⟩
    ·simp only[WfD];refine⟨_,rfl,by simp;omega,fun row hr=>?_⟩
     obtain⟨i,hi,rfl⟩:=List.mem_map.1 hr
     exact(hR i (List.mem_range.1 hi)).1
    ·by_cases h0:len=0
     ·subst h0;exact .sl0 _ _
     ·have hsz:∀ i,i<len→(R i).length=DT.size e:=fun i hi=>WfD_len e _ (hR i hi).1
      have hcell:∀ i j,i<len→j<DT.size e→∃ v x,w.cell? ((a.add (i*DT.size e)).add j)=some v∧(R i)[j]?=some x∧RepD w (Old w) v x:=by
       intro i j hi hj;obtain⟨_,cs',h1,h2,h3⟩:=hR i hi
       obtain⟨_,k1,k2⟩:=World.cells?_some h1
       rw[hk2]at k1 k2;have hv:cs'[j]?=some (cs'[j]'(by omega)):=List.getElem?_eq_getElem (by omega)
       have hxr:(R i)[j]?=some ((R i)[j]'(by rw[hsz i hi];exact hj)):=List.getElem?_eq_getElem _
       exact⟨_,_,by rw[k2 j hj,hv],hxr,h3 j _ _ hv hxr⟩
      obtain⟨v0,_,hv0,_⟩:=hcell 0 0 (by omega) hk3
      have hpl:∃ b off,a=⟨b,off,none⟩:=by
       have hz:a.add (0*DT.size e)=a:=by simp[Addr.add]
       rw[hz]at hv0;exact old_plain hv0
      obtain⟨b,off,rfl⟩:=hpl
      have hcell':∀ i j,i<len→j<DT.size e→∃ v x,w.cell? ⟨b,off+(i*DT.size e+j),none⟩=some v∧(R i)[j]?=some x∧RepD w (Old w) v x:=by
       intro i j hi hj;obtain⟨v,x,h1,h2⟩:=hcell i j hi hj
       rw[plain_add,plain_add,Nat.add_assoc]at h1;exact⟨v,x,h1,h2⟩
      have hrl:∀ row,row∈(List.range len).map R→row.length=DT.size e:=by
       intro row hr;obtain⟨i,hi,rfl⟩:=List.mem_map.1 hr
       exact hsz i (List.mem_range.1 hi)
      have hfl:((List.range len).map R).flatten.length=len*DT.size e:=by rw[flatten_len hrl];simp
      have hat:∀ k,k<len*DT.size e→∃ v x,w.cell? ⟨b,off+k,none⟩=some v∧((List.range len).map R).flatten[k]?=some x∧RepD w (Old w) v x:=by
       intro k hk;have hi:k/DT.size e<len:=(Nat.div_lt_iff_lt_mul hk3).2 hk
       have hj:k%DT.size e<DT.size e:=Nat.mod_lt _ hk3
       obtain⟨v,x,h1,h2,h3⟩:=hcell' _ _ hi hj
       have hdm:k/DT.size e*DT.size e+k%DT.size e=k:=by rw[Nat.mul_comm];exact Nat.div_add_mod _ _
       refine⟨v,x,by rw[←hdm];exact h1,?_,h3⟩
       rw[←hdm,flatten_at hrl (by rw[List.getElem?_map,List.getElem?_range hi];rfl) _ hj]
       exact h2
      have hb:b<w.heap.size:=by
       obtain⟨v,_,h1,_⟩:=hcell' 0 0 (by omega) hk3
       exact World.block_lt_of_cell? w _ h1
      have key:=RepD.sl (w:=w) (Im:=Old w) b off cap (DT.size e) ((List.range len).map R) (fun k=>(w.cell? ⟨b,off+k,none⟩).getD undef) (by simpa using hl) hrl
       (fun k hk=>by
        rw[hfl]at hk;obtain⟨v,x,h1,_⟩:=hat k hk
        exact⟨hb,by rw[h1];rfl⟩)
       (fun k x hx'=>by
        have hk:=(List.getElem?_eq_some_iff.1 hx').1
        rw[hfl]at hk;obtain⟨v,x',h1,h2,h3⟩:=hat k hk
        rw[h2]at hx'
        cases hx';rw[h1];exact h3)
      simpa using key
  ·cases hk
 | .st fs,t,n,cs,y,hk,h=>by
  simp only[dtOk]at hk;split at hk
  ·rename_i fl ht;simp only[Bool.and_eq_true,decide_eq_true_eq]at hk;obtain⟨xs,n',_,_,hl,hlen,hf⟩:=DataW.trod_struct ht h
   have hall:∀ f,f∈fl.toList→∃ y,DataW.trod enc P w 0 spare held n' f.type ((cs.drop f.offset).take (P.cellsOf f.type))=some y:=by
    intro f hm;obtain⟨i,hi,rfl⟩:=List.getElem_of_mem hm
    have hi':i<fl.size:=by simpa using hi
    have:=hf i fl[i] (Array.getElem?_eq_getElem hi')
    exact⟨xs[i]'(by omega),by rw[List.getElem?_eq_getElem (by omega)]at this;simpa using this⟩
   obtain⟨zs,h1,h2,h3⟩:=trod_wfL fs fl.toList 0 n' cs hk.1 hall (by rw[hl,hk.2];omega)
   refine⟨zs,by simp only[WfD];exact h1,by omega,fun i v x hv hx=>h3 i v x (by simpa using hv) hx⟩
  ·cases hk
theorem trod_wfL:∀ (Ts:List DT) (fl:List Field) (off n:Nat) (cs:List Value),fieldsOk P Ts fl off=true→(∀ f,f∈fl→∃ y,DataW.trod enc P w 0 spare held n f.type ((cs.drop f.offset).take (P.cellsOf f.type))=some y)→cs.length=off+DT.sizes Ts →
  ∃ xs,WfL Ts xs∧off+xs.length=cs.length∧∀ (i:Nat) (v:Value) (x:Dt),cs[off+i]?=some v→xs[i]?=some x→RepD w (Old w) v x
 | [],[],off,n,cs,_,_,hl=>⟨[],by simp[WfL],by simp[DT.sizes]at hl;simp[hl],fun i v x _ hx=>by simp at hx⟩
 | T::Ts,f::fl,off,n,cs,hk,hall,hl=>by
  simp only[fieldsOk,Bool.and_eq_true,decide_eq_true_eq]at hk;obtain⟨⟨⟨k1,k2⟩,k3⟩,k4⟩:=hk
  simp only[DT.sizes]at hl;obtain⟨y,hy⟩:=hall f (by simp)
  obtain⟨a,h1,h2,h3⟩:=trod_wf T f.type n _ y k2 hy
  obtain⟨b,j1,j2,j3⟩:=trod_wfL Ts fl (off+DT.size T) n cs k4 (fun g hg=>hall g (by simp[hg])) (by omega)
  have hal:=WfD_len T a h1
  refine⟨a++b,by simp only[WfL];exact⟨a,b,rfl,h1,j1⟩,by simp;omega,fun i v x hv hx=>?_⟩
  by_cases hi:i<a.length
  ·rw[List.getElem?_append_left hi]at hx
   refine h3 i v x ?_ hx
   rw[k1,k3,List.getElem?_take,if_pos (by omega),List.getElem?_drop]
   exact hv
  ·rw[List.getElem?_append_right (by omega)]at hx
   refine j3 (i-a.length) v x ?_ hx
   rw[show off+DT.size T+(i-a.length)=off+i by omega]
   exact hv
 | [],_::_,off,n,cs,hk,_,_=>by simp[fieldsOk]at hk
 | _::_,[],off,n,cs,hk,_,_=>by simp[fieldsOk]at hk
end

def argOf:DT→List Dt→AV
 | .st _,xs=>.agg (xs.map .d)
 | _,[x]=>.d x
 | _,_=>.any
theorem repD_one{v:Value}{x:Dt}{Im:Imm}(h:RepD w Im v x):v.oneCell'=true:=by cases h<;>rfl

theorem arg_wf{T:DT}{t:TypeId}{r:Reach}{base n:Nat}{v:Value}{y:DataW H×List MemPlace}(hk:dtOk P T t=true)(hv:Value.okWide P w r base t v)(h:DataW.trod enc P w 0 spare held n t v.cells.toList=some y) :
  ∃ xs,WfD T xs∧RepA w (Old w) [] v (argOf T xs):=by
 obtain⟨xs,h1,h2,h3⟩:=trod_wf T t n _ y hk h
 refine⟨xs,h1,?_⟩
 have hone:∀ x,v.cells=#[v]→xs=[x]→RepA w (Old w) [] v (.d x):=by
  intro x hc hx;rw[hc]at h3;exact .d (h3 0 v x rfl (by rw[hx];rfl))
 cases T with
 | bool=>
  simp only[dtOk]at hk;split at hk
  ·rename_i ht;obtain⟨b,rfl⟩:=okWide_bool ht hv
   simp only[WfD]at h1;obtain⟨c,rfl⟩:=h1
   exact hone _ rfl rfl
  ·cases hk
 | int k=>
  simp only[dtOk]at hk;split at hk
  ·rename_i k' ht;obtain⟨b,rfl⟩:=okWide_int ht hv
   simp only[WfD]at h1;obtain⟨c,rfl,_⟩:=h1
   exact hone _ rfl rfl
  ·cases hk
 | str=>
  simp only[dtOk]at hk;split at hk
  ·rename_i ht;obtain⟨b,rfl⟩:=okWide_string ht hv
   simp only[WfD]at h1;obtain⟨c,rfl,_⟩:=h1
   exact hone _ rfl rfl
  ·cases hk
 | sl e=>
  simp only[dtOk]at hk;split at hk
  ·rename_i e' ht;obtain⟨a,l,c,rfl⟩:=okWide_slice ht hv
   simp only[WfD]at h1;obtain⟨c,rfl,_⟩:=h1
   exact hone _ rfl rfl
  ·cases hk
 | st fs=>
  simp only[dtOk]at hk;split at hk
  ·rename_i fl ht;obtain⟨cs,rfl,_⟩:=okWide_struct ht hv
   simp only[argOf,Value.cells]at h2 h3 ⊢;have hcs:cs=⟨cs.toList⟩:=by simp
   rw[hcs];refine .agg cs.toList _ (by simpa using h2) (fun u hu=>?_) (fun i u c hu hc=>?_)
   ·obtain⟨i,hi,rfl⟩:=List.getElem_of_mem hu
    exact repD_one (h3 i _ _ (List.getElem?_eq_getElem hi) (List.getElem?_eq_getElem (by omega)))
   ·rw[List.getElem?_map]at hc
    cases hx:xs[i]? with
    | none=>rw[hx]at hc;cases hc
    | some x=>rw[hx]at hc;cases hc;exact .d (h3 i u x hu hx)
  ·cases hk

theorem law_calls{Γ:Sem'}(hS:Sound P Γ){f:Nat}{as:List AV}{vs:List Value}(hΓ:Γ f as []=some (.ret (.d (.bool true)),[]))(hr:RepAs w (Old w) [] vs as)(hT:TabOk w (Old w):=by intro b o v h;exact False.elim h) :
  Calls P f ⟨vs⟩ w fun e w'=>e=.returned (.bool true)∧Below w.heap.size w w':=by
 obtain⟨_,_,h⟩:=hS f as [] _ _ hΓ
 have hH:HR P w (Old w) [] []:=⟨rfl,fun r cs hr=>by simp at hr,fun r e sz hr=>by simp at hr,fun r e sz cs hr=>by simp at hr,fun r es hr=>by simp at hr,fun r s n q hr=>by simp at hr,fun r a hr=>by simp at hr,fun r r' k x x' _ hr=>by simp at hr,fun k hk=>by obtain⟨r,x,hr,_⟩:=hk;simp at hr,fun b o hb=>hb,hT,fun r t cs hr=>by simp at hr,.none (fun r bs hr=>by simp at hr) (fun r x hr=>by simp at hr)⟩
 refine(h w (Old w) [] vs hH hr).mono ?_
 rintro e w' ⟨Im',g',_,he,v,rfl,hv⟩
 cases hv with
 | d hd=>
  cases hd;exact⟨rfl,he.os,he.tape,he.output,he.size,fun k hk=>he.frame k hk (by rintro⟨r,x,hr,_⟩;simp at hr)⟩
end
end Go.Ab
/- Functions that hand on,one by one: what their callers come to. Conditions: none. -/
namespace Go.Ab
open Go

attribute [go_sem] List.isEmpty_nil List.isEmpty_cons
def feed1(as:List AV):AObj→Option (Bool×AObj)
 | .log stop n (x::rest)=>if eqVL as x=true∧(stop=0∨n<stop)∧refsAL as=[]∧rgYld as hasReg=true then some (decide (n+1≠stop),.log stop (n+1) rest)else none
 | .gen acc=>some (true,.gen (acc++[as]))
 | _=>none
def fedK(k:AObj→Option AObj):Option (Bool×AObj)→Option AObj
 | some (true,o)=>k o
 | some (false,o)=>some o
 | none=>none
def fed:List (List AV)→AObj→Option AObj
 | [],o=>some o
 | x::xs,o=>fedK (fed xs) (feed1 x o)
theorem yieldK_feed{r:Nat}{pre:List (Nat×AObj)}{as:List AV}{o o':AObj}{b:Bool}(h:feed1 as o=some (b,o')):yieldK r pre as o=some (.val (.d (.bool b)) (pre++[(r,o')])):=by
 unfold feed1 at h;split at h
 ·simp only[yieldK];split at h
  ·rename_i hc;rw[if_pos hc]
   cases h;rfl
  ·cases h
 ·cases h;rfl
 ·cases h
def Listens:AObj→Prop
 | .log _ _ _=>True
 | .gen _=>True
 | _=>False
theorem feed1_listens{as:List AV}{o o':AObj}{b:Bool}(h:feed1 as o=some (b,o')):Listens o∧Listens o':=by
 unfold feed1 at h;split at h
 ·split at h
  ·cases h;exact⟨trivial,trivial⟩
  ·cases h
 ·cases h;exact⟨trivial,trivial⟩
 ·cases h
theorem Listens.refs{o:AObj}(h:Listens o):refsO o=[]:=by
 cases o<;>first|rfl|exact h.elim
theorem Listens.ren{o:AObj}(h:Listens o)(f:Nat→Nat):renO f o=o:=by
 cases o<;>first|rfl|exact h.elim
theorem fed_cons{x:List AV}{xs:List (List AV)}{o o':AObj}(h:fed (x::xs) o=some o'):(∃ o1,feed1 x o=some (true,o1)∧fed xs o1=some o')∨feed1 x o=some (false,o'):=by
 simp only[fed]at h
 cases hf:feed1 x o with
 | none=>rw[hf]at h;cases h
 | some y=>
  obtain⟨b,o1⟩:=y
  rw[hf]at h
  cases b
  ·simp only[fedK]at h;cases h;exact .inr rfl
  ·exact .inl ⟨o1,rfl,h⟩

mutual
theorem eqD_refl:∀ a:Dt,eqD a a=true
 | .bool a=>by cases a<;>rfl
 | .int k a=>by simp[eqD,eqKd]
 | .str a=>by simp[eqD]
 | .sl a=>by simp only[eqD];exact eqDLL_refl a
 | .nilp=>rfl
theorem eqDL_refl:∀ a:List Dt,eqDL a a=true
 | []=>rfl
 | x::xs=>by simp only[eqDL,eqD_refl x,eqDL_refl xs];rfl
theorem eqDLL_refl:∀ a:List (List Dt),eqDLL a a=true
 | []=>rfl
 | x::xs=>by simp only[eqDLL,eqDL_refl x,eqDLL_refl xs];rfl
end
def plainV:AV→Bool
 | .d _=>true
 | .agg cs=>cs.all fun c=>match c with
  | .d _=>true
  | _=>false
 | _=>false
theorem plain_eq:∀ (v:AV),plainV v=true→eqV v v=true∧refs v=[]
 | .d x,_=>⟨by simp only[eqV];exact eqD_refl x,rfl⟩
 | .agg cs,h=>by
  simp only[plainV]at h;simp only[eqV,refs];induction cs with
  | nil=>exact⟨rfl,rfl⟩
  | cons c cs ih=>
   simp only[List.all_cons,Bool.and_eq_true]at h;obtain⟨h1,h2⟩:=h
   obtain⟨i1,i2⟩:=ih h2
   cases c<;>simp at h1
   refine⟨?_,?_⟩
   ·simp only[eqVL,eqV,eqD_refl,i1];rfl
   ·simp only[refsAL,refs,i2];rfl
theorem plainL_eq:∀ (l:List AV),l.all plainV=true→eqVL l l=true∧refsAL l=[]
 | [],_=>⟨rfl,rfl⟩
 | v::l,h=>by
  simp only[List.all_cons,Bool.and_eq_true]at h;obtain⟨h1,h2⟩:=plain_eq v h.1
  obtain⟨i1,i2⟩:=plainL_eq l h.2
  exact⟨by simp only[eqVL,h1,i1];rfl,by simp only[refsAL,h2,i2];rfl⟩
theorem plainL_rg:∀ (l:List AV),l.all plainV=true→hasRpL l=false
 | [],_=>rfl
 | v::l,h=>by
  simp only[List.all_cons,Bool.and_eq_true]at h
  have hv:hasRp v=false:=by
   have h1:=h.1
   cases v with
   | d x=>rfl
   | agg cs=>
    simp only[plainV]at h1;simp only[hasRp];induction cs with
    | nil=>rfl
    | cons c cs ih=>
     simp only[List.all_cons,Bool.and_eq_true]at h1;obtain⟨h1,h2⟩:=h1
     cases c<;>simp at h1
     simp only[hasRpL,hasRp,Bool.false_or];exact ih ⟨h2,h.2⟩ h2
   | _=>simp[plainV]at h1
  simp only[hasRpL,hv,Bool.false_or];exact plainL_rg l h.2
theorem plainL_yld(l:List AV)(h:l.all plainV=true)(b:Bool):rgYld l b=true:=by cases b<;>simp[rgYld,plainL_rg l h]
def plainI(xs:List (List AV)):Prop:=∀ x,x∈xs→x.all plainV=true

theorem fed_gen:∀ (xs:List (List AV)) (acc:List (List AV)),fed xs (.gen acc)=some (.gen (acc++xs))
 | [],acc=>by simp[fed]
 | x::xs,acc=>by simp only[fed,feed1,fedK];rw[fed_gen xs];simp
theorem fed_all:∀ (xs:List (List AV)) (n:Nat),plainI xs→fed xs (.log 0 n xs)=some (.log 0 (n+xs.length) [])
 | [],n,_=>by simp[fed]
 | x::xs,n,h=>by
  obtain⟨h1,h2⟩:=plainL_eq x (h x (by simp))
  simp only[fed,feed1,h1,h2,plainL_yld x (h x (by simp))]
  simp only[true_or,and_self,if_true,ne_eq,Nat.add_one_ne_zero,not_false_eq_true,decide_true,fedK];rw[fed_all xs (n+1) (fun y hy=>h y (by simp[hy]))]
  simp;omega
theorem fed_to:∀ (xs:List (List AV)) (stop n:Nat),plainI xs→n<stop→stop≤n+xs.length→fed xs (.log stop n xs)=some (.log stop stop (xs.drop (stop-n)))
 | [],stop,n,_,h1,h2=>by simp at h2;omega
 | x::xs,stop,n,h,h1,h2=>by
  obtain⟨e1,e2⟩:=plainL_eq x (h x (by simp))
  simp only[fed,feed1,e1,e2,h1,plainL_yld x (h x (by simp))]
  simp only[or_true,and_self,if_true];by_cases hn:n+1=stop
  ·subst hn;simp[fedK]
  ·have hz:=fed_to xs stop (n+1) (fun y hy=>h y (by simp[hy])) (by omega) (by simp at h2;omega)
   obtain⟨m,hm⟩:∃ m,stop-n=m+1:=⟨stop-n-1,by omega⟩
   have hm':stop-(n+1)=m:=by omega
   rw[hm']at hz;simp[fedK,hn,hz,hm]
theorem rfFold_stop{f:List AV→List AObj→RC}{n np:Nat}{xs:List (List AV)}{H0:List AObj}{R0:RF}(hR:rfFold f n np 0 xs H0=R0)(S:Nat→List AObj)(h0:H0=S 0)(c:Nat→Prop)[DecidablePred c](e:Ex)(S':Nat→List AObj)
  (step:∀ (i:Nat) (x:List AV) (next:List AObj→RF),xs[i]?=some x→(if x.length=np then rfK n i next (f x (S i))else .stuck)=if c i then .left e i (S' i)else next (S (i+1))) :
  (R0=.done (S xs.length)∧∀ i,i<xs.length→¬c i)∨∃ i,i<xs.length∧c i∧(∀ j,j<i→¬c j)∧R0=.left e i (S' i):=by
 have key:∀ k,k≤xs.length→(rfFold f n np 0 xs (S 0)=rfFold f n np k (xs.drop k) (S k)∧∀ j,j<k→¬c j)∨∃ i,i<xs.length∧c i∧(∀ j,j<i→¬c j)∧rfFold f n np 0 xs (S 0)=.left e i (S' i):=by
  intro k;induction k with
  | zero=>intro _;exact .inl ⟨by simp,fun j hj=>by omega⟩
  | succ k ih=>
   intro hk;rcases ih (by omega)with⟨h1,h2⟩|h
   ·rw[List.drop_eq_getElem_cons (show k<xs.length by omega)]at h1
    simp only[rfFold]at h1;rw[step k _ _ (List.getElem?_eq_getElem (by omega))]at h1
    by_cases hc:c k
    ·rw[if_pos hc]at h1;exact .inr ⟨k,by omega,hc,h2,h1⟩
    ·rw[if_neg hc]at h1;refine .inl ⟨h1,fun j hj=>?_⟩
     by_cases e:j=k
     ·subst e;exact hc
     ·exact h2 j (by omega)
   ·exact .inr h
 rw[←hR,h0];rcases key xs.length (Nat.le_refl _)with⟨h1,h2⟩|h
 ·rw[List.drop_length]at h1;exact .inl ⟨h1,h2⟩
 ·exact .inr h
theorem gen3{Γ:Sem'}{gf:Nat}{as:List AV}{Hs:List AObj}{xs:List (List AV)}(hp:plainI xs)(hg:∀ o o',Listens o→fed xs o=some o'→Γ gf as (Hs++[o])=some (.ret (.tuple []),Hs++[o'])) :
  Γ gf as (Hs++[.gen []])=some (.ret (.tuple []),Hs++[.gen xs])∧Γ gf as (Hs++[.log 0 0 xs])=some (.ret (.tuple []),Hs++[.log 0 xs.length []]) ∧
  ∀ k,k<xs.length→Γ gf as (Hs++[.log (k+1) 0 xs])=some (.ret (.tuple []),Hs++[.log (k+1) (k+1) (xs.drop (k+1))]):=by
 refine⟨hg _ _ trivial (by rw[fed_gen];simp),hg _ _ trivial (by rw[fed_all xs 0 hp];simp),fun k hk=>hg _ _ trivial ?_⟩
 rw[fed_to xs (k+1) 0 hp (by omega) (by omega)]
 simp
end Go.Ab
/- Functions that are known by their contracts: that these are right. Conditions: none. -/
namespace Go.Ab
open Go Go.RowKit
section
variable {P:Program}{w w':World}{Im:Imm}{g:List Gh}{H:List AObj}
theorem below_ext(hH:HR P w Im g H)(hb:Below w.heap.size w w'):HR P w' Im g H∧Ext w Im g w' Im g:=by
 have e:Ext w Im g w' Im g:=⟨hb.os,hb.tape,hb.output,hb.size,fun _ _ h=>h,fun b o h=>by
   have hl:=hH.im b o h
   unfold World.cell?;rw[hb.block b hl],fun k hk _=>hb.block k hk,fun _ _ h=>.inl h,fun _ h=>.inl h,GLe.refl g⟩
 have own:∀ (r:Nat) (x:Gh) (k:Nat),g[r]?=some x→x.owns k→w'.heap[k]?=w.heap[k]?:=fun r x k h1 h2=>hb.block k (hH.lt k ⟨r,x,h1,h2⟩)
 refine⟨⟨hH.len,fun r cs hr=>?_,fun r e' sz hr=>?_,fun r e' sz cs hr=>?_,fun r es hr=>?_,fun r stop k rest hr=>?_,hH.gen,hH.sep,fun k hk=>Nat.lt_of_lt_of_le (hH.lt k hk) hb.size,fun b o h=>Nat.lt_of_lt_of_le (hH.im b o h) hb.size,hH.tab.go fun b o h=>⟨h,e.keep b o h⟩,fun r t cs hr=>?_,hH.rg.go e (fun _ _ h=>h) (fun _ _ h=>h) (fun _ h=>h) (fun _ h=>h) (fun x k hx hk=>⟨own 0 _ k hx hk,fun _ h=>h⟩)⟩,e⟩
 ·obtain⟨b,hbb,vs,t,h1,h2,h3,h4⟩:=hH.cells r cs hr
  exact⟨b,hbb,vs,t,by rw[own r _ b hbb (by simp[Gh.owns])];exact h1,h2,fun i v c hv hc=>(h3 i v c hv hc).ext e,h4⟩
 ·obtain⟨base,len,cap,h1,h2,h3,h4⟩:=hH.grow r e' sz hr
  refine⟨base,len,cap,h1,h2,h3,fun b hbase hlt=>?_⟩
  obtain⟨vs,t,h5,h6⟩:=h4 b hbase hlt
  refine⟨vs,t,?_,h6⟩
  rw[own r _ b h1 (by simp[Gh.owns,hbase,hlt])]
  exact h5
 ·obtain⟨base,cap,k1,k2,k3,k4⟩:=hH.stk r e' sz cs hr
  refine⟨base,cap,k1,k2,k3,fun b hbase hlt=>?_⟩
  obtain⟨vs,t,j1,j2,j3,j4,j5,j6⟩:=k4 b hbase hlt
  refine⟨vs,t,?_,j2,j3,fun i v c hv hc=>(j4 i v c hv hc).ext e,j5,j6⟩
  rw[own r _ b k1 (by simp[Gh.owns,hbase,hlt])]
  exact j1
 ·obtain⟨b,hbb,l,ck,h1,h2,h3,h4⟩:=hH.mapo r es hr
  exact⟨b,hbb,l,ck,by rw[own r _ b hbb (by simp[Gh.owns])];exact h1,h2,fun i e' x he hx=>⟨(h3 i e' x he hx).1.ext e,(h3 i e' x he hx).2.ext e⟩,h4⟩
 ·obtain⟨y,T,hg,h1,h2,h3,h4,h5,h6⟩:=hH.log r stop k rest hr
  exact⟨y,T,hg,h1,h2,h3,h4,h5,h4 _ _ _ _ _ _ h6 hb.os hb.tape hb.output hb.size (fun b hT=>⟨own r _ b hg (by simpa[Gh.owns]using hT),fun _ h=>h⟩) (fun b o h=>⟨h,e.keep b o h⟩) (fun b o h=>Nat.lt_of_lt_of_le (hH.im b o h) hb.size)⟩
 ·obtain⟨b,row,hbb,hb2⟩:=hH.box r t cs hr
  exact⟨b,row,hbb,hb2.stay fun k hk=>⟨own r _ k hbb hk,fun _ h=>h⟩⟩

theorem ext_calls{f:Nat}{as:List AV}{a:AV}(hE:∀ args w,(callFunc f args).run P w=.ok (.enter f args) w)
  (hc:∀ (w:World) (Im:Imm) (g:List Gh) (vs:List Value),HR P w Im g H→RepAs w Im g vs as→Calls P f ⟨vs⟩ w fun e w'=>Below w.heap.size w w'∧∃ v,e=.returned v∧∀ w',RepA w' Im g v a) :
  (∀ args w,(callFunc f args).run P w=.ok (.enter f args) w)∧H.length≤H.length ∧
   ∀ (w:World) (Im:Imm) (g:List Gh) (vs:List Value),HR P w Im g H→RepAs w Im g vs as→Calls P f ⟨vs⟩ w (CallPost P w Im g (.ret a) H):=by
 refine⟨hE,Nat.le_refl _,fun w Im g vs hH hr=>(hc w Im g vs hH hr).mono ?_⟩
 rintro e w' ⟨hb,v,rfl,hv⟩
 obtain⟨h1,h2⟩:=below_ext hH hb
 exact⟨Im,g,h1,h2,v,rfl,hv w'⟩
theorem enter_of{f:Nat}{F:Func}{c:Code}(hf:P.funcs[f]?=some F)(hn:(F.name=="runtime.NumGoroutine")=false)(hb:F.body=some c)(args:Array Value)(w:World):(callFunc f args).run P w=.ok (.enter f args) w:=by
 have hn':¬F.name="runtime.NumGoroutine":=by simpa using hn
 simp[callFunc,hf,hb,hn']
theorem repAs_two{vs:List Value}{a b:AV}(h:RepAs w Im g vs [a,b]):∃ v1 v2,vs=[v1,v2]∧RepA w Im g v1 a∧RepA w Im g v2 b:=by
 obtain⟨hl,h⟩:=h
 match vs,hl with
 | [v1,v2],_=>exact⟨v1,v2,rfl,h 0 _ _ rfl rfl,h 1 _ _ rfl rfl⟩
theorem repA_str{v:Value}{s:List UInt8}(h:RepA w Im g v (.d (.str s))):v=.string ⟨⟨s⟩⟩:=by
 cases h with
 | d h=>cases h;rfl
theorem repA_int{v:Value}{k:IntKind}{n:Int}(h:RepA w Im g v (.d (.int k n))):v=.int k n:=by
 cases h with
 | d h=>cases h;rfl
def strRows:List (List Dt)→Option (List (List UInt8))
 | []=>some []
 | [.str s]::l=>(strRows l).map (s::·)
 | _=>none
end
end Go.Ab
namespace Go.Ab
open Go
section
variable {P:Program}{t:TypeId}{a b:Bool}
theorem binA_eqlB:binA P .eql t (.d (.bool a)) (.d (.bool b))=yesO (eqA P 12 t (.d (.bool a)) (.d (.bool b))):=rfl
theorem binA_neqB:binA P .neq t (.d (.bool a)) (.d (.bool b))=notO (eqA P 12 t (.d (.bool a)) (.d (.bool b))):=rfl
theorem binA_eqlN:binA P .eql t (.d .nilp) (.d .nilp)=yesO (eqA P 12 t (.d .nilp) (.d .nilp)):=rfl
theorem binA_neqN:binA P .neq t (.d .nilp) (.d .nilp)=notO (eqA P 12 t (.d .nilp) (.d .nilp)):=rfl
end
attribute [go_sem] binA_eqlB binA_neqB binA_eqlN binA_neqN
end Go.Ab
/- A law of data: from a row's reading to the evaluator's arguments,and from true back to the row's post. Conditions: none. -/
namespace Go.Ab
open Go Go.ChangeShapes Go.WideShapes Go.ChangeAt Go.RowKit Go.Deep

def Reads:List DT→List AV→Prop
 | [],l=>l=[]
 | T::Ts,l=>∃ xs l',WfD T xs∧l=argOf T xs::l'∧Reads Ts l'
def dtOks(P:Program):List DT→List TypeId→Bool
 | [],[]=>true
 | T::Ts,t::ts=>dtOk P T t&&dtOks P Ts ts
 | _,_=>false

section
variable {H:Type}{enc:TypeId×Value→H}{P:Program}

theorem args_reads{W:World}{base:Nat}{r:Reach}:∀ {Ts:List DT} {ts:List TypeId} {vs:List Value} {ds:List (DataW H)} {ps:List MemPlace},
  dtOks P Ts ts=true→DataW.TrodAll enc P W 0 (fun _=>true) true ts vs ds ps→(∀ (j:Nat) t v,ts[j]?=some t→vs[j]?=some v→Value.okWide P W r base t v)→∃ l,Reads Ts l∧RepAs W (Old W) [] vs l
 | [],[],_,_,_,_,h,_=>by
  obtain⟨rfl,rfl,rfl⟩:=trodAll_nil h
  exact⟨[],rfl,rfl,fun i v c hv hc=>by cases hc⟩
 | T::Ts,t::ts,_,_,_,hk,h,hv=>by
  simp only[dtOks,Bool.and_eq_true]at hk;obtain⟨v,vs',d,ds',p,q,rfl,rfl,rfl,h1,h2⟩:=trodAll_cons h
  obtain⟨n,h1⟩:=h1
  obtain⟨xs,h3,h4⟩:=arg_wf hk.1 (hv 0 t v rfl rfl) h1
  obtain⟨l,h5,h6,h7⟩:=args_reads hk.2 h2 (fun j t v h1 h2=>hv (j+1) t v (by simpa using h1) (by simpa using h2))
  refine⟨_,⟨xs,l,h3,rfl,h5⟩,by simp[h6],fun i v c hv hc=>?_⟩
  cases i with
  | zero=>simp at hv hc;subst hv hc;exact h4
  | succ i=>exact h7 i v c (by simpa using hv) (by simpa using hc)
 | [],_::_,_,_,_,hk,_,_=>by cases hk
 | _::_,[],_,_,_,hk,_,_=>by cases hk

theorem args_stay(hl:laidOutB P=true){W W':World}(hb:Below W.heap.size W W'):∀ {ts:List TypeId} {vs:List Value} {ds:List (DataW H)} {ps:List MemPlace},
  (∀ t∈ts,P.readableRec t=true∧t<P.types.size)→DataW.TrodAll enc P W 0 (fun _=>true) true ts vs ds ps→(∀ x∈ps,x.block<W.heap.size) →
  DataW.TrodAll enc P W' 0 (fun b=>decide (b<W.heap.size)) true ts vs ds ps
 | [],vs,ds,ps,_,h,_=>by
  obtain⟨rfl,rfl,rfl⟩:=trodAll_nil h
  exact trodAll_mk0
 | t::ts,vs,ds,ps,hr,h,hp=>by
  obtain⟨v,vs1,d,ds1,p,q,rfl,rfl,rfl,h1,h2⟩:=trodAll_cons h
  have:=hr t (by simp)
  exact trodAll_cons_mk (Below.trod hl this.1 this.2 h1 hb (fun x hx=>hp x (by simp[hx]))) (args_stay hl hb (fun t ht=>hr t (by simp[ht])) h2 (fun x hx=>hp x (by simp[hx])))

theorem true_post(hl:laidOutB P=true){f:Func}{s:ChangeSpec}{W W':World}{args:Array Value}{ds gs:List (DataW H)}{before:List MemPlace}{tb:TypeId}
  (hW:DataW.Whole enc P f.params.toList s.vars false W args.toList ds gs before) (hvars:s.vars=[])
  (hs:(s.fn H (ds++gs)).results=[.lit (.bool true)]∧(s.fn H (ds++gs)).args=ds∧(s.fn H (ds++gs)).vars=[])
  (hrt:f.resultTypes=#[tb]) (htb:P.underlying tb=some .bool) (hr:∀ t∈f.params.toList,P.readableRec t=true∧t<P.types.size) (hb:Below W.heap.size W W') :
  s.post enc P f false true false false W args (.bool true) W':=by
 have hW':=hW
 obtain⟨p,q,hA,hV,rfl,_,_⟩:=hW
 rw[hvars]at hV;obtain⟨rfl,rfl⟩:=trodVars_none hV
 have hlt:∀ x∈p,x.block<W.heap.size:=fun x hx=>hW'.lt x (by simp[hx])
 refine⟨ds,[],p++[],[],p,[],hW',?_,?_,?_,hb.frame _,fun h=>by cases h⟩
 ·rw[hs.1,hrt];exact trodAll_cons_mk (shut_bool htb true) trodAll_mk0
 ·rw[hs.2.1];exact args_stay hl hb hr hA hlt
 ·rw[hs.2.2,hvars];rfl

theorem law_contract(hl:laidOutB P=true){Γ:Sem'}(hS:Sound P Γ){f:Nat}{fn:Func}{s:ChangeSpec}{Ts:List DT}{tb:TypeId}(hk:dtOks P Ts fn.params.toList=true)(hvars:s.vars=[])
  (hs:∀ ds:List (DataW H),ds.length=Ts.length→(s.fn H (ds++[])).results=[.lit (.bool true)]∧(s.fn H (ds++[])).args=ds∧(s.fn H (ds++[])).vars=[])
  (hrt:fn.resultTypes=#[tb]) (htb:P.underlying tb=some .bool) (hr:∀ t∈fn.params.toList,P.readableRec t=true∧t<P.types.size)
  (hΓ:∀ l,Reads Ts l→Γ f l []=some (.ret (.d (.bool true)),[]))
  (W:World) (base:Nat) (args:Array Value) (ds gs:List (DataW H)) (before:List MemPlace) (hval:∀ (j:Nat) t v,fn.params[j]?=some t→args[j]?=some v→Value.okWide P W .any base t v)
  (hW:DataW.Whole enc P fn.params.toList s.vars false W args.toList ds gs before) (hT:TabOk W (Old W):=by intro b o v h;exact False.elim h) :
  Calls P f args W fun e W'=>∃ v,e=.returned v∧s.post enc P fn false true false false W args v W':=by
 have hW':=hW
 obtain⟨p,q,hA,hV,rfl,_,_⟩:=hW
 rw[hvars]at hV;obtain⟨rfl,rfl⟩:=trodVars_none hV
 obtain⟨l,h1,h2⟩:=args_reads hk hA (fun j t v h1 h2=>hval j t v (by simpa using h1) (by simpa using h2))
 have hds:ds.length=Ts.length:=by
  have k1:∀ {ts:List TypeId} {vs:List Value} {ds:List (DataW H)} {ps:List MemPlace},DataW.TrodAll enc P W 0 (fun _=>true) true ts vs ds ps→ds.length=ts.length:=by
   intro ts;induction ts with
   | nil=>intro vs ds ps h;obtain⟨_,rfl,_⟩:=trodAll_nil h;rfl
   | cons t ts ih=>intro vs ds ps h;obtain⟨_,_,_,_,_,_,rfl,rfl,rfl,_,h2⟩:=trodAll_cons h;simp[ih h2]
  have k2:∀ {Ts:List DT} {ts:List TypeId},dtOks P Ts ts=true→ts.length=Ts.length:=by
   intro Ts;induction Ts with
   | nil=>intro ts h;cases ts with
    | nil=>rfl
    | cons=>cases h
   | cons T Ts ih=>intro ts h;cases ts with
    | nil=>cases h
    | cons t ts=>simp only[dtOks,Bool.and_eq_true]at h;simp[ih h.2]
  rw[k1 hA,k2 hk]
 have:=law_calls hS (hΓ l h1) h2 hT
 refine this.mono ?_
 rintro e W' ⟨rfl,hb⟩
 exact⟨_,rfl,true_post hl hW' hvars (hs ds hds) hrt htb hr hb⟩
end
end Go.Ab
