/- Contracts of the library, by the shelf. Conditions: none. -/
import Derived.Shelf.Slices.Turned
import Derived.Shelf.Slices.Reverse
import Derived.Ground.Names2Prog
import Derived.Shelf.Slices.CompactI
import Derived.Shelf.Slices.Cells
import Derived.Ground.SlgnProg
import Derived.Shelf.SlicesE.Reverse
import Derived.Test.YticliodhjfednaaGreatProg
namespace Go.Proofs
open Go.Shelf
def Tryz.laysNm220_ren : Go.Shelf.Ren:=⟨fun|20=>87|n=>n, fun|22=>32|3=>3|4=>4|0=>0|n=>n, fun|n=>n⟩
theorem Tryz.laysNm220 : Go.Proofs.Lays2.n20 Tryz.prog Tryz.laysNm220_ren:={
  mixed:=by kernel_rfl
  f20:=Tryz.func87.trans (congrArg some (by kernel_rfl))
  t0:=Tryz.underlying0
  a0:=Tryz.isAgg0
  z0:=Tryz.sizeOf0
  v0:=Tryz.zeroValue0
  t3:=Tryz.underlying3
  a3:=Tryz.isAgg3
  z3:=Tryz.sizeOf3
  v3:=Tryz.zeroValue3
  t4:=Tryz.underlying4
  a4:=Tryz.isAgg4
  z4:=Tryz.sizeOf4
  v4:=Tryz.zeroValue4
  t22:=Tryz.underlying32
  a22:=Tryz.isAgg32
  z22:=Tryz.sizeOf32
  v22:=Tryz.zeroValue32
  i3:=by kernel_rfl }
open Go.RowKit Go.Lib Go.Sort in
theorem Tryz.slices_Compact_int_cells(b off n c : Nat)(zs : List Int)(w : World)(hz : n≤zs.length)(hbig : n≤9223372036854775807)(hcap : n≤c)(hc : ∀ j, j<zs.length→w.cell? ⟨b, off+j, none⟩=some (.int .i64 (zs.getD j 0)))(hf : ∀ j, j<n→w.frozen? ⟨b, off+j, none⟩=false) :
    Calls Tryz.prog 87 #[.slice (some ⟨b, off, none⟩) n c] w fun e w'=>e=.returned (.slice (some ⟨b, off, none⟩) (Lib.compact (zs.take n)).length c)∧∃ q, w'=(w.drewN q).setCells b off ((Lib.compact (zs.take n)++List.replicate (n-(Lib.compact (zs.take n)).length) 0).map (Value.int .i64)):=Any.slices_Compact_int_cells Tryz.laysNm220 b off n c zs w hz hbig hcap hc hf
end Go.Proofs
