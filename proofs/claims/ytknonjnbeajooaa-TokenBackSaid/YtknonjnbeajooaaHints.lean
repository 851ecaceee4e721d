/- Hints for the abstract evaluator, and the program's functions read as their bodies. Conditions: none. -/
import Derived.Test.YtknonjnbeajooaaAbX4
import Derived.Test.YtknonjnbeajooaaTy
import Derived.Test.YtknonjnbeajooaaProg
namespace Go.Proofs.Ytknonjnbeajooaa
open Go Go.Ab
def hv : Nat → List Nat
  | 3 => [3, 4, 5, 6, 7, 8, 9, 10, 11, 25, 26]
  | 4 => [2, 3, 4, 5, 6, 7, 8]
  | 5 => [2, 3, 4, 5, 6, 7, 8]
  | 6 => [6, 7]
  | 7 => [0, 1, 2]
  | 8 => [2, 3, 4, 5, 6, 7, 8, 9, 10]
  | 9 => [1, 2]
  | 10 => [2, 3, 4, 5, 8, 9]
  | 11 => [2, 3, 5, 6, 7, 8]
  | 12 => [4]
  | 13 => [2, 3, 4]
  | 14 => [2, 3, 4]
  | 15 => [2]
  | 16 => [2, 3]
  | 17 => [2, 3, 4, 5]
  | 18 => [4, 5]
  | 19 => [4]
  | 20 => [4, 5, 6]
  | 21 => [4, 5, 6, 7, 8, 9, 10, 11]
  | 22 => [3, 4, 5, 6]
  | 23 => []
  | 24 => [2, 3]
  | 25 => [4, 5, 7, 8, 10, 12, 39, 40, 41, 63, 64, 65]
  | 26 => [6, 7, 8, 9, 15, 16, 17]
  | 27 => [2, 3, 4]
  | 28 => [0]
  | 29 => [2]
  | 30 => [4, 5, 7, 8]
  | 31 => [2]
  | 32 => [2]
  | 33 => [2]
  | 34 => [0]
  | 35 => [4, 5, 6]
  | 36 => [4]
  | 37 => [2]
  | 38 => [2, 3, 4]
  | 39 => [2]
  | 40 => [2, 3, 4, 5, 6, 41, 42]
  | 41 => [2, 3, 4]
  | 42 => []
  | 43 => [4, 5]
  | 44 => [2]
  | 45 => [4]
  | 46 => [4]
  | 47 => [4]
  | 48 => []
  | 49 => [4]
  | 50 => [4]
  | 51 => [4, 5, 7, 8]
  | _ => []
def hf4 : Nat → List Nat
  | 0 => [8]
  | _ => []
def hf6 : Nat → List Nat
  | _ => []
def hf8 : Nat → List Nat
  | 0 => [7, 8, 9, 10]
  | _ => []
def hf11 : Nat → List Nat
  | 0 => [5]
  | _ => []
def hf14 : Nat → List Nat
  | _ => []
def hf16 : Nat → List Nat
  | _ => []
def hf17 : Nat → List Nat
  | _ => []
def hf18 : Nat → List Nat
  | _ => []
def hf19 : Nat → List Nat
  | _ => []
def hf20 : Nat → List Nat
  | _ => []
def hf21 : Nat → List Nat
  | _ => []
def hf22 : Nat → List Nat
  | 0 => [4, 5, 6]
  | _ => []
def hf23 : Nat → List Nat
  | _ => []
def hf25 : Nat → List Nat
  | 1 => [7]
  | 3 => [10]
  | _ => []
def hf26 : Nat → List Nat
  | 0 => [7, 8, 9]
  | _ => []
def hf30 : Nat → List Nat
  | 0 => [5]
  | _ => []
def hf35 : Nat → List Nat
  | 0 => [6]
  | _ => []
def hf40 : Nat → List Nat
  | 0 => [6]
  | _ => []
def hf51 : Nat → List Nat
  | 0 => [5]
  | _ => []
def hf : Nat → Nat → List Nat
  | 4 => hf4
  | 6 => hf6
  | 8 => hf8
  | 11 => hf11
  | 14 => hf14
  | 16 => hf16
  | 17 => hf17
  | 18 => hf18
  | 19 => hf19
  | 20 => hf20
  | 21 => hf21
  | 22 => hf22
  | 23 => hf23
  | 25 => hf25
  | 26 => hf26
  | 30 => hf30
  | 35 => hf35
  | 40 => hf40
  | 51 => hf51
  | _ => fun _ => []
def hl3 : List (Nat × List Ht) := [(5, [⟨[], [], false, [(5, (0, 5))]⟩]), (14, [])]
def hl4 : List (Nat × List Ht) := [(11, []), (17, [])]
def hl5 : List (Nat × List Ht) := []
def hl6 : List (Nat × List Ht) := []
def hl7 : List (Nat × List Ht) := []
def hl8 : List (Nat × List Ht) := [(9, [])]
def hl9 : List (Nat × List Ht) := []
def hl10 : List (Nat × List Ht) := [(0, [⟨[], [], false, [(2, (0, 5))]⟩]), (5, [⟨[], [], true, []⟩, ⟨[], [0], false, []⟩, ⟨[], [], false, []⟩]), (7, [⟨[], [], false, []⟩, ⟨[], [], true, []⟩, ⟨[], [1], false, []⟩, ⟨[], [], false, []⟩])]
def hl11 : List (Nat × List Ht) := []
def hl12 : List (Nat × List Ht) := []
def hl13 : List (Nat × List Ht) := []
def hl14 : List (Nat × List Ht) := []
def hl15 : List (Nat × List Ht) := []
def hl16 : List (Nat × List Ht) := []
def hl17 : List (Nat × List Ht) := []
def hl18 : List (Nat × List Ht) := [(6, [])]
def hl19 : List (Nat × List Ht) := []
def hl20 : List (Nat × List Ht) := []
def hl21 : List (Nat × List Ht) := [(26, [])]
def hl22 : List (Nat × List Ht) := []
def hl23 : List (Nat × List Ht) := []
def hl24 : List (Nat × List Ht) := []
def hl25 : List (Nat × List Ht) := [(18, [⟨[], [], false, [(8, (1, 1))]⟩])]
def hl26 : List (Nat × List Ht) := []
def hl27 : List (Nat × List Ht) := []
def hl28 : List (Nat × List Ht) := [(1, [⟨[], [], false, [(0, (0, 1))]⟩])]
def hl29 : List (Nat × List Ht) := []
def hl30 : List (Nat × List Ht) := []
def hl31 : List (Nat × List Ht) := []
def hl32 : List (Nat × List Ht) := []
def hl33 : List (Nat × List Ht) := []
def hl34 : List (Nat × List Ht) := [(1, [⟨[], [], false, [(0, (0, 1))]⟩])]
def hl35 : List (Nat × List Ht) := [(7, [])]
def hl36 : List (Nat × List Ht) := []
def hl37 : List (Nat × List Ht) := []
def hl38 : List (Nat × List Ht) := []
def hl39 : List (Nat × List Ht) := []
def hl40 : List (Nat × List Ht) := []
def hl41 : List (Nat × List Ht) := []
def hl42 : List (Nat × List Ht) := [(3, [])]
def hl43 : List (Nat × List Ht) := []
def hl44 : List (Nat × List Ht) := [(1, [])]
def hl45 : List (Nat × List Ht) := []
def hl46 : List (Nat × List Ht) := []
def hl47 : List (Nat × List Ht) := []
def hl48 : List (Nat × List Ht) := []
def hl49 : List (Nat × List Ht) := [(0, [⟨[], [], false, []⟩, ⟨[], [], false, []⟩, ⟨[], [], false, []⟩, ⟨[], [], false, []⟩, ⟨[], [], false, []⟩, ⟨[], [], false, []⟩, ⟨[], [], false, []⟩, ⟨[], [], false, []⟩, ⟨[], [], true, []⟩, ⟨[], [], false, []⟩, ⟨[], [], false, []⟩, ⟨[], [], false, []⟩, ⟨[], [8], false, []⟩, ⟨[], [], false, []⟩, ⟨[], [], false, []⟩, ⟨[], [], false, []⟩])]
def hl50 : List (Nat × List Ht) := []
def hl51 : List (Nat × List Ht) := []
def hd : Nat → Nat → Option (List Ht)
  | 3 => lookH hl3
  | 4 => lookH hl4
  | 5 => lookH hl5
  | 6 => lookH hl6
  | 7 => lookH hl7
  | 8 => lookH hl8
  | 9 => lookH hl9
  | 10 => lookH hl10
  | 11 => lookH hl11
  | 12 => lookH hl12
  | 13 => lookH hl13
  | 14 => lookH hl14
  | 15 => lookH hl15
  | 16 => lookH hl16
  | 17 => lookH hl17
  | 18 => lookH hl18
  | 19 => lookH hl19
  | 20 => lookH hl20
  | 21 => lookH hl21
  | 22 => lookH hl22
  | 23 => lookH hl23
  | 24 => lookH hl24
  | 25 => lookH hl25
  | 26 => lookH hl26
  | 27 => lookH hl27
  | 28 => lookH hl28
  | 29 => lookH hl29
  | 30 => lookH hl30
  | 31 => lookH hl31
  | 32 => lookH hl32
  | 33 => lookH hl33
  | 34 => lookH hl34
  | 35 => lookH hl35
  | 36 => lookH hl36
  | 37 => lookH hl37
  | 38 => lookH hl38
  | 39 => lookH hl39
  | 40 => lookH hl40
  | 41 => lookH hl41
  | 42 => lookH hl42
  | 43 => lookH hl43
  | 44 => lookH hl44
  | 45 => lookH hl45
  | 46 => lookH hl46
  | 47 => lookH hl47
  | 48 => lookH hl48
  | 49 => lookH hl49
  | 50 => lookH hl50
  | 51 => lookH hl51
  | _ => fun _ => none
theorem prog_ok : progOk Try.prog hd = true := by kernel_rfl
theorem hv_3 : hv 3 = [3, 4, 5, 6, 7, 8, 9, 10, 11, 25, 26] := rfl
theorem hv_4 : hv 4 = [2, 3, 4, 5, 6, 7, 8] := rfl
theorem hv_5 : hv 5 = [2, 3, 4, 5, 6, 7, 8] := rfl
theorem hv_6 : hv 6 = [6, 7] := rfl
theorem hv_7 : hv 7 = [0, 1, 2] := rfl
theorem hv_8 : hv 8 = [2, 3, 4, 5, 6, 7, 8, 9, 10] := rfl
theorem hv_9 : hv 9 = [1, 2] := rfl
theorem hv_10 : hv 10 = [2, 3, 4, 5, 8, 9] := rfl
theorem hv_11 : hv 11 = [2, 3, 5, 6, 7, 8] := rfl
theorem hv_12 : hv 12 = [4] := rfl
theorem hv_13 : hv 13 = [2, 3, 4] := rfl
theorem hv_14 : hv 14 = [2, 3, 4] := rfl
theorem hv_15 : hv 15 = [2] := rfl
theorem hv_16 : hv 16 = [2, 3] := rfl
theorem hv_17 : hv 17 = [2, 3, 4, 5] := rfl
theorem hv_18 : hv 18 = [4, 5] := rfl
theorem hv_19 : hv 19 = [4] := rfl
theorem hv_20 : hv 20 = [4, 5, 6] := rfl
theorem hv_21 : hv 21 = [4, 5, 6, 7, 8, 9, 10, 11] := rfl
theorem hv_22 : hv 22 = [3, 4, 5, 6] := rfl
theorem hv_23 : hv 23 = [] := rfl
theorem hv_24 : hv 24 = [2, 3] := rfl
theorem hv_25 : hv 25 = [4, 5, 7, 8, 10, 12, 39, 40, 41, 63, 64, 65] := rfl
theorem hv_26 : hv 26 = [6, 7, 8, 9, 15, 16, 17] := rfl
theorem hv_27 : hv 27 = [2, 3, 4] := rfl
theorem hv_28 : hv 28 = [0] := rfl
theorem hv_29 : hv 29 = [2] := rfl
theorem hv_30 : hv 30 = [4, 5, 7, 8] := rfl
theorem hv_31 : hv 31 = [2] := rfl
theorem hv_32 : hv 32 = [2] := rfl
theorem hv_33 : hv 33 = [2] := rfl
theorem hv_34 : hv 34 = [0] := rfl
theorem hv_35 : hv 35 = [4, 5, 6] := rfl
theorem hv_36 : hv 36 = [4] := rfl
theorem hv_37 : hv 37 = [2] := rfl
theorem hv_38 : hv 38 = [2, 3, 4] := rfl
theorem hv_39 : hv 39 = [2] := rfl
theorem hv_40 : hv 40 = [2, 3, 4, 5, 6, 41, 42] := rfl
theorem hv_41 : hv 41 = [2, 3, 4] := rfl
theorem hv_42 : hv 42 = [] := rfl
theorem hv_43 : hv 43 = [4, 5] := rfl
theorem hv_44 : hv 44 = [2] := rfl
theorem hv_45 : hv 45 = [4] := rfl
theorem hv_46 : hv 46 = [4] := rfl
theorem hv_47 : hv 47 = [4] := rfl
theorem hv_48 : hv 48 = [] := rfl
theorem hv_49 : hv 49 = [4] := rfl
theorem hv_50 : hv 50 = [4] := rfl
theorem hv_51 : hv 51 = [4, 5, 7, 8] := rfl
theorem hf_4_0 : hf 4 0 = [8] := rfl
theorem hf_4_2 : hf 4 2 = [] := rfl
theorem hf_6_0 : hf 6 0 = [] := rfl
theorem hf_8_0 : hf 8 0 = [7, 8, 9, 10] := rfl
theorem hf_11_0 : hf 11 0 = [5] := rfl
theorem hf_14_0 : hf 14 0 = [] := rfl
theorem hf_16_0 : hf 16 0 = [] := rfl
theorem hf_17_0 : hf 17 0 = [] := rfl
theorem hf_18_0 : hf 18 0 = [] := rfl
theorem hf_19_0 : hf 19 0 = [] := rfl
theorem hf_19_2 : hf 19 2 = [] := rfl
theorem hf_20_0 : hf 20 0 = [] := rfl
theorem hf_21_1 : hf 21 1 = [] := rfl
theorem hf_21_3 : hf 21 3 = [] := rfl
theorem hf_21_5 : hf 21 5 = [] := rfl
theorem hf_22_0 : hf 22 0 = [4, 5, 6] := rfl
theorem hf_23_0 : hf 23 0 = [] := rfl
theorem hf_25_1 : hf 25 1 = [7] := rfl
theorem hf_25_3 : hf 25 3 = [10] := rfl
theorem hf_26_0 : hf 26 0 = [7, 8, 9] := rfl
theorem hf_30_0 : hf 30 0 = [5] := rfl
theorem hf_35_0 : hf 35 0 = [6] := rfl
theorem hf_40_0 : hf 40 0 = [6] := rfl
theorem hf_51_0 : hf 51 0 = [5] := rfl
theorem hd_3 (i : Nat) : hd 3 i = lookH hl3 i := rfl
theorem hd_4 (i : Nat) : hd 4 i = lookH hl4 i := rfl
theorem hd_5 (i : Nat) : hd 5 i = lookH hl5 i := rfl
theorem hd_6 (i : Nat) : hd 6 i = lookH hl6 i := rfl
theorem hd_7 (i : Nat) : hd 7 i = lookH hl7 i := rfl
theorem hd_8 (i : Nat) : hd 8 i = lookH hl8 i := rfl
theorem hd_9 (i : Nat) : hd 9 i = lookH hl9 i := rfl
theorem hd_10 (i : Nat) : hd 10 i = lookH hl10 i := rfl
theorem hd_11 (i : Nat) : hd 11 i = lookH hl11 i := rfl
theorem hd_12 (i : Nat) : hd 12 i = lookH hl12 i := rfl
theorem hd_13 (i : Nat) : hd 13 i = lookH hl13 i := rfl
theorem hd_14 (i : Nat) : hd 14 i = lookH hl14 i := rfl
theorem hd_15 (i : Nat) : hd 15 i = lookH hl15 i := rfl
theorem hd_16 (i : Nat) : hd 16 i = lookH hl16 i := rfl
theorem hd_17 (i : Nat) : hd 17 i = lookH hl17 i := rfl
theorem hd_18 (i : Nat) : hd 18 i = lookH hl18 i := rfl
theorem hd_19 (i : Nat) : hd 19 i = lookH hl19 i := rfl
theorem hd_20 (i : Nat) : hd 20 i = lookH hl20 i := rfl
theorem hd_21 (i : Nat) : hd 21 i = lookH hl21 i := rfl
theorem hd_22 (i : Nat) : hd 22 i = lookH hl22 i := rfl
theorem hd_23 (i : Nat) : hd 23 i = lookH hl23 i := rfl
theorem hd_24 (i : Nat) : hd 24 i = lookH hl24 i := rfl
theorem hd_25 (i : Nat) : hd 25 i = lookH hl25 i := rfl
theorem hd_26 (i : Nat) : hd 26 i = lookH hl26 i := rfl
theorem hd_27 (i : Nat) : hd 27 i = lookH hl27 i := rfl
theorem hd_28 (i : Nat) : hd 28 i = lookH hl28 i := rfl
theorem hd_29 (i : Nat) : hd 29 i = lookH hl29 i := rfl
theorem hd_30 (i : Nat) : hd 30 i = lookH hl30 i := rfl
theorem hd_31 (i : Nat) : hd 31 i = lookH hl31 i := rfl
theorem hd_32 (i : Nat) : hd 32 i = lookH hl32 i := rfl
theorem hd_33 (i : Nat) : hd 33 i = lookH hl33 i := rfl
theorem hd_34 (i : Nat) : hd 34 i = lookH hl34 i := rfl
theorem hd_35 (i : Nat) : hd 35 i = lookH hl35 i := rfl
theorem hd_36 (i : Nat) : hd 36 i = lookH hl36 i := rfl
theorem hd_37 (i : Nat) : hd 37 i = lookH hl37 i := rfl
theorem hd_38 (i : Nat) : hd 38 i = lookH hl38 i := rfl
theorem hd_39 (i : Nat) : hd 39 i = lookH hl39 i := rfl
theorem hd_40 (i : Nat) : hd 40 i = lookH hl40 i := rfl
theorem hd_41 (i : Nat) : hd 41 i = lookH hl41 i := rfl
theorem hd_42 (i : Nat) : hd 42 i = lookH hl42 i := rfl
theorem hd_43 (i : Nat) : hd 43 i = lookH hl43 i := rfl
theorem hd_44 (i : Nat) : hd 44 i = lookH hl44 i := rfl
theorem hd_45 (i : Nat) : hd 45 i = lookH hl45 i := rfl
theorem hd_46 (i : Nat) : hd 46 i = lookH hl46 i := rfl
theorem hd_47 (i : Nat) : hd 47 i = lookH hl47 i := rfl
theorem hd_48 (i : Nat) : hd 48 i = lookH hl48 i := rfl
theorem hd_49 (i : Nat) : hd 49 i = lookH hl49 i := rfl
theorem hd_50 (i : Nat) : hd 50 i = lookH hl50 i := rfl
theorem hd_51 (i : Nat) : hd 51 i = lookH hl51 i := rfl
attribute [go_sem] hf_4_0 hf_4_2 hf_6_0 hf_8_0 hf_11_0 hf_14_0 hf_16_0 hf_17_0 hf_18_0 hf_19_0 hf_19_2 hf_20_0
attribute [go_sem] hf_21_1 hf_21_3 hf_21_5 hf_22_0 hf_23_0 hf_25_1 hf_25_3 hf_26_0 hf_30_0 hf_35_0 hf_40_0 hf_51_0
attribute [go_sem] hd_3 hl3 hd_4 hl4 hd_5 hl5 hd_6 hl6 hd_7 hl7 hd_8 hl8
attribute [go_sem] hd_9 hl9 hd_10 hl10 hd_11 hl11 hd_12 hl12 hd_13 hl13 hd_14 hl14
attribute [go_sem] hd_15 hl15 hd_16 hl16 hd_17 hl17 hd_18 hl18 hd_19 hl19 hd_20 hl20
attribute [go_sem] hd_21 hl21 hd_22 hl22 hd_23 hl23 hd_24 hl24 hd_25 hl25 hd_26 hl26
attribute [go_sem] hd_27 hl27 hd_28 hl28 hd_29 hl29 hd_30 hl30 hd_31 hl31 hd_32 hl32
attribute [go_sem] hd_33 hl33 hd_34 hl34 hd_35 hl35 hd_36 hl36 hd_37 hl37 hd_38 hl38
attribute [go_sem] hd_39 hl39 hd_40 hl40 hd_41 hl41 hd_42 hl42 hd_43 hl43 hd_44 hl44
attribute [go_sem] hd_45 hl45 hd_46 hl46 hd_47 hl47 hd_48 hl48 hd_49 hl49 hd_50 hl50
attribute [go_sem] hd_51 hl51
/-- Functions that are known otherwise. -/
def isExt : Nat → Bool
  | 25 => true
  | 45 => true
  | _ => false
/-- The program, with functions that are known otherwise. -/
noncomputable def G (ext : Sem') : Sem' := callA Try.prog ext hd hv hf
def Clear (ext : Sem') : Prop := ∀ (f : Nat) (xs : List AV) (H : List AObj), isExt f = false → ext f xs H = none
theorem G_ok {ext : Sem'} (h : Sound Try.prog ext) : Sound Try.prog (G ext) := callA_ok h prog_ok
theorem G_ext {ext : Sem'} {f : Nat} {xs : List AV} {H : List AObj} {r : Out × List AObj} (h : ext f xs H = some r) : G ext f xs H = some r := callA_ext h
theorem G_body {ext : Sem'} (hx : Clear ext) {f : Nat} {F : Func} {c : Code} {xs : List AV} {H : List AObj} {rs : List ResultVar} {V : List Nat} (he : isExt f = false) (h : Try.prog.funcs[f]? = some F) (hb : F.body = some c) (hr : F.results = ⟨rs⟩) (hV : hv f = V) (hl : Nat.ble xs.length F.ntmps = true) :
    G ext f xs H = finish Try.prog rs H.length (evC Try.prog (G ext) (hd f) (hf f) 0 c (.go (Go.Ab.start xs V H))) :=
  callA_body (hx f xs H he) h hb hr hV (Nat.le_of_ble_eq_true hl)
/-- A closed run: loops k rounds, calls n deep. -/
theorem G_run {ext : Sem'} (hx : Clear ext) {f : Nat} {xs : List AV} {H : List AObj} {r : Out × List AObj} (k n : Nat) (h : callF Try.prog isExt hd hv hf k n f xs H = some r) : G ext f xs H = some r := callF_ok hx n f xs H r h
end Go.Proofs.Ytknonjnbeajooaa
