/- Hints for the abstract evaluator, and the program's functions read as their bodies. Conditions: none. -/
import Derived.Test.YtdmambkajegldaaAbX4
import Derived.Test.YtdmambkajegldaaTy
import Derived.Test.YtdmambkajegldaaProg
namespace Go.Proofs.Ytdmambkajegldaa
open Go Go.Ab
def hv : Nat → List Nat
  | 3 => [4, 5, 6, 7, 8, 9, 10]
  | 4 => [2, 3, 4, 5, 6, 7, 8, 9, 58]
  | 5 => [3, 6]
  | 6 => [6, 12, 13, 14, 15]
  | 7 => [2, 3]
  | 8 => [0, 1, 2, 3, 4, 5, 6]
  | 9 => [2, 3, 4, 5, 13, 14]
  | 10 => [4, 5]
  | 11 => [2, 3, 4, 5, 7, 9, 22, 23, 24, 28, 29, 30]
  | 12 => [0]
  | 13 => [2]
  | 14 => []
  | 15 => [2, 4]
  | 16 => [6, 7, 9, 12, 13, 14]
  | 17 => []
  | 18 => [2, 3, 4]
  | 19 => [2, 4, 18, 19, 20]
  | 20 => [1, 2, 3]
  | 21 => [1, 2]
  | 22 => [1, 2]
  | 23 => [1, 2, 3, 4]
  | 24 => [2, 4, 5, 6, 7]
  | 25 => [2, 3, 4, 5, 7, 23, 24, 25]
  | 26 => [2, 4, 5, 6, 7, 8]
  | 27 => [6, 7, 8, 9, 10]
  | 28 => [4]
  | 29 => [2]
  | 30 => [4]
  | 31 => [4]
  | 32 => [2, 3, 4, 5]
  | 33 => [3]
  | 34 => [2, 4]
  | 35 => [4, 5, 6]
  | 36 => [4]
  | 37 => [3]
  | 38 => [4]
  | 39 => [4]
  | 40 => [4]
  | 41 => [4, 5, 6, 7]
  | 42 => [3]
  | 43 => [4, 5]
  | 44 => [3, 4]
  | 45 => [3]
  | 46 => [10, 11, 12, 13, 14, 15, 16, 17, 18, 19, 20]
  | 47 => [2]
  | 48 => [2, 3, 5, 6, 7, 8]
  | 49 => [4, 5, 6]
  | 50 => [4]
  | 51 => [3]
  | 52 => [4, 5, 7, 8]
  | 53 => [4, 5, 7, 8]
  | 54 => [4, 5, 7, 8]
  | 55 => [8, 9]
  | 56 => [8, 9, 10, 11, 12]
  | 57 => [8, 9, 10, 11, 12]
  | 58 => [8, 9, 10, 11, 12, 13, 14, 55]
  | 59 => [8, 9]
  | 60 => [8, 9, 10, 11, 12]
  | 61 => [10, 11, 12]
  | 62 => [10, 11, 12, 13]
  | 63 => [2]
  | 64 => [2]
  | 65 => [2]
  | 66 => [10, 11]
  | 67 => [2]
  | 68 => [2]
  | 69 => [8]
  | 70 => [12]
  | 71 => [10, 11]
  | _ => []
def hf4 : Nat → List Nat
  | 0 => [7, 8, 9, 58]
  | _ => []
def hf7 : Nat → List Nat
  | _ => []
def hf9 : Nat → List Nat
  | 0 => [5]
  | _ => []
def hf10 : Nat → List Nat
  | _ => []
def hf11 : Nat → List Nat
  | 0 => [7, 9, 28, 29, 30]
  | 2 => [9]
  | _ => []
def hf16 : Nat → List Nat
  | 0 => [9]
  | _ => []
def hf19 : Nat → List Nat
  | 0 => [4]
  | _ => []
def hf20 : Nat → List Nat
  | _ => []
def hf23 : Nat → List Nat
  | 0 => [4]
  | _ => []
def hf24 : Nat → List Nat
  | 0 => [6, 7]
  | _ => []
def hf25 : Nat → List Nat
  | 0 => [7]
  | _ => []
def hf26 : Nat → List Nat
  | 0 => [7, 8]
  | _ => []
def hf32 : Nat → List Nat
  | 0 => [4, 5]
  | _ => []
def hf35 : Nat → List Nat
  | 0 => [6]
  | _ => []
def hf41 : Nat → List Nat
  | 0 => [7]
  | _ => []
def hf43 : Nat → List Nat
  | _ => []
def hf46 : Nat → List Nat
  | 0 => [12, 13, 14, 15, 16, 17, 18, 19, 20]
  | _ => []
def hf48 : Nat → List Nat
  | 0 => [5]
  | _ => []
def hf52 : Nat → List Nat
  | 0 => [5]
  | _ => []
def hf53 : Nat → List Nat
  | 0 => [5]
  | _ => []
def hf54 : Nat → List Nat
  | 0 => [5]
  | _ => []
def hf55 : Nat → List Nat
  | 0 => [9]
  | _ => []
def hf56 : Nat → List Nat
  | _ => []
def hf57 : Nat → List Nat
  | 0 => [12]
  | _ => []
def hf59 : Nat → List Nat
  | _ => []
def hf60 : Nat → List Nat
  | 0 => [11, 12]
  | _ => []
def hf61 : Nat → List Nat
  | _ => []
def hf62 : Nat → List Nat
  | _ => []
def hf66 : Nat → List Nat
  | 0 => [11]
  | _ => []
def hf : Nat → Nat → List Nat
  | 4 => hf4
  | 7 => hf7
  | 9 => hf9
  | 10 => hf10
  | 11 => hf11
  | 16 => hf16
  | 19 => hf19
  | 20 => hf20
  | 23 => hf23
  | 24 => hf24
  | 25 => hf25
  | 26 => hf26
  | 32 => hf32
  | 35 => hf35
  | 41 => hf41
  | 43 => hf43
  | 46 => hf46
  | 48 => hf48
  | 52 => hf52
  | 53 => hf53
  | 54 => hf54
  | 55 => hf55
  | 56 => hf56
  | 57 => hf57
  | 59 => hf59
  | 60 => hf60
  | 61 => hf61
  | 62 => hf62
  | 66 => hf66
  | _ => fun _ => []
def hl3 : List (Nat × List Ht) := [(5, [⟨[], [], false, [(9, (1, 1))]⟩]), (6, [⟨[], [], false, [(10, (1, 1))]⟩]), (7, [⟨[], [], false, []⟩, ⟨[], [], false, []⟩, ⟨[], [], false, []⟩, ⟨[], [], false, []⟩, ⟨[], [], false, []⟩, ⟨[], [], false, []⟩, ⟨[], [], false, []⟩, ⟨[], [], false, []⟩, ⟨[], [], false, []⟩, ⟨[], [], false, []⟩, ⟨[], [], false, []⟩, ⟨[], [], true, []⟩, ⟨[], [11], false, []⟩, ⟨[], [], false, []⟩, ⟨[], [], false, []⟩, ⟨[], [], false, []⟩, ⟨[], [], false, []⟩, ⟨[], [], false, []⟩, ⟨[], [], false, []⟩, ⟨[], [], false, []⟩, ⟨[], [], false, []⟩])]
def hl4 : List (Nat × List Ht) := [(5, [⟨[], [], false, [(5, (1, 1))]⟩]), (9, [⟨[], [], false, [(7, (3, 1)), (7, (4, 1))]⟩]), (15, [⟨[], [], false, []⟩, ⟨[], [], true, []⟩, ⟨[], [], false, []⟩, ⟨[], [1], false, []⟩, ⟨[], [], false, []⟩]), (27, [⟨[], [], true, []⟩, ⟨[], [], false, []⟩, ⟨[], [], false, []⟩, ⟨[], [], false, []⟩, ⟨[], [0], false, []⟩, ⟨[], [], false, []⟩, ⟨[], [], false, []⟩]), (30, [⟨[], [], false, []⟩, ⟨[], [], false, []⟩, ⟨[], [], false, []⟩, ⟨[], [], false, []⟩, ⟨[], [], false, []⟩, ⟨[], [], false, []⟩, ⟨[], [], false, []⟩, ⟨[], [], true, []⟩, ⟨[], [], false, []⟩, ⟨[], [7], false, []⟩, ⟨[], [], false, []⟩, ⟨[], [7], false, []⟩, ⟨[], [], false, []⟩, ⟨[], [], false, []⟩, ⟨[], [], false, []⟩, ⟨[], [], false, []⟩]), (34, [⟨[], [], false, []⟩, ⟨[], [], true, []⟩, ⟨[], [1], false, []⟩, ⟨[], [], false, []⟩, ⟨[], [], false, []⟩])]
def hl5 : List (Nat × List Ht) := [(0, [⟨[], [], false, [(3, (1, 1))]⟩]), (3, [⟨[], [], false, []⟩, ⟨[], [], true, []⟩, ⟨[], [], true, []⟩, ⟨[], [1, 2], false, []⟩, ⟨[], [], false, []⟩, ⟨[], [], false, []⟩, ⟨[], [], false, []⟩, ⟨[], [], false, []⟩, ⟨[], [], true, []⟩, ⟨[], [], false, []⟩, ⟨[], [], true, []⟩, ⟨[], [8, 10], false, []⟩, ⟨[], [], false, []⟩, ⟨[], [], false, []⟩, ⟨[], [], false, []⟩, ⟨[], [], false, []⟩, ⟨[], [], false, []⟩, ⟨[], [], false, []⟩, ⟨[], [], true, []⟩, ⟨[], [], false, []⟩, ⟨[], [], true, []⟩, ⟨[], [18, 20], false, []⟩, ⟨[], [], false, []⟩, ⟨[], [], false, []⟩, ⟨[], [], false, []⟩, ⟨[], [], false, []⟩, ⟨[], [], false, []⟩, ⟨[], [], false, []⟩, ⟨[], [], false, []⟩, ⟨[], [], false, []⟩])]
def hl6 : List (Nat × List Ht) := [(0, [⟨[], [], false, [(6, (1, 1))]⟩]), (4, []), (5, [⟨[], [], false, [(15, (1, 1))]⟩]), (10, [⟨[], [], false, []⟩, ⟨[], [], true, []⟩, ⟨[], [], false, []⟩, ⟨[], [], true, []⟩, ⟨[], [1, 3], false, []⟩, ⟨[], [], false, []⟩, ⟨[], [], false, []⟩, ⟨[], [], false, []⟩, ⟨[], [], false, []⟩, ⟨[], [], false, []⟩, ⟨[], [], false, []⟩, ⟨[], [], false, []⟩, ⟨[], [], false, []⟩, ⟨[], [], false, []⟩, ⟨[], [], false, []⟩])]
def hl7 : List (Nat × List Ht) := []
def hl8 : List (Nat × List Ht) := [(5, [⟨[], [], false, [(6, (1, 1))]⟩])]
def hl9 : List (Nat × List Ht) := [(7, [])]
def hl10 : List (Nat × List Ht) := [(6, [])]
def hl11 : List (Nat × List Ht) := [(0, [⟨[], [], false, [(2, (1, 1)), (3, (0, 1))]⟩])]
def hl12 : List (Nat × List Ht) := [(1, [⟨[], [], false, [(2, (1, 1))]⟩])]
def hl13 : List (Nat × List Ht) := []
def hl14 : List (Nat × List Ht) := [(1, [⟨[], [], false, []⟩, ⟨[], [], false, []⟩, ⟨[], [], false, []⟩, ⟨[], [], false, []⟩, ⟨[], [], false, []⟩, ⟨[], [], true, []⟩, ⟨[], [], false, []⟩, ⟨[], [5], false, []⟩, ⟨[], [], false, []⟩, ⟨[], [], false, []⟩, ⟨[], [], false, []⟩, ⟨[], [], false, []⟩, ⟨[], [], false, []⟩, ⟨[], [], false, []⟩])]
def hl15 : List (Nat × List Ht) := [(0, [⟨[], [], false, [(2, (1, 1)), (4, (1, 1))]⟩]), (3, [⟨[], [], false, []⟩, ⟨[], [], true, []⟩, ⟨[], [], false, []⟩, ⟨[], [], false, []⟩, ⟨[0], [], false, []⟩, ⟨[], [1], false, []⟩, ⟨[], [], false, []⟩, ⟨[], [], false, []⟩, ⟨[], [1], false, []⟩, ⟨[], [], false, []⟩, ⟨[], [], false, []⟩])]
def hl16 : List (Nat × List Ht) := []
def hl17 : List (Nat × List Ht) := []
def hl18 : List (Nat × List Ht) := [(0, [⟨[], [], false, [(2, (1, 1)), (3, (1, 1))]⟩])]
def hl19 : List (Nat × List Ht) := [(0, [⟨[], [], false, [(2, (1, 1))]⟩]), (7, [⟨[], [], false, []⟩, ⟨[], [], true, []⟩, ⟨[], [], false, []⟩, ⟨[], [1], false, []⟩, ⟨[], [], false, []⟩, ⟨[], [], false, []⟩, ⟨[], [], false, []⟩, ⟨[], [], false, []⟩])]
def hl20 : List (Nat × List Ht) := [(0, [⟨[], [], false, [(1, (1, 1))]⟩])]
def hl21 : List (Nat × List Ht) := [(0, [⟨[], [], false, [(1, (1, 1))]⟩])]
def hl22 : List (Nat × List Ht) := [(0, [⟨[], [], false, [(1, (1, 1)), (2, (1, 1))]⟩])]
def hl23 : List (Nat × List Ht) := [(0, [⟨[], [], false, [(1, (1, 1))]⟩]), (9, [])]
def hl24 : List (Nat × List Ht) := [(0, [⟨[], [], false, [(2, (1, 1))]⟩])]
def hl25 : List (Nat × List Ht) := [(0, [⟨[], [], false, [(2, (1, 1)), (4, (1, 1))]⟩]), (3, [⟨[], [], false, [(5, (1, 1))]⟩]), (8, [⟨[], [], false, []⟩, ⟨[], [], true, []⟩, ⟨[], [], false, []⟩, ⟨[], [1], false, []⟩, ⟨[], [], false, []⟩, ⟨[], [1], false, []⟩, ⟨[], [], false, []⟩, ⟨[], [], false, []⟩, ⟨[], [], false, []⟩, ⟨[], [], false, []⟩])]
def hl26 : List (Nat × List Ht) := [(0, [⟨[], [], false, [(2, (1, 1)), (4, (1, 1))]⟩]), (3, [⟨[], [], false, [(5, (1, 1))]⟩])]
def hl27 : List (Nat × List Ht) := []
def hl28 : List (Nat × List Ht) := []
def hl29 : List (Nat × List Ht) := []
def hl30 : List (Nat × List Ht) := []
def hl31 : List (Nat × List Ht) := []
def hl32 : List (Nat × List Ht) := [(6, []), (11, [])]
def hl33 : List (Nat × List Ht) := []
def hl34 : List (Nat × List Ht) := []
def hl35 : List (Nat × List Ht) := [(6, []), (11, [])]
def hl36 : List (Nat × List Ht) := []
def hl37 : List (Nat × List Ht) := []
def hl38 : List (Nat × List Ht) := []
def hl39 : List (Nat × List Ht) := []
def hl40 : List (Nat × List Ht) := []
def hl41 : List (Nat × List Ht) := []
def hl42 : List (Nat × List Ht) := []
def hl43 : List (Nat × List Ht) := []
def hl44 : List (Nat × List Ht) := []
def hl45 : List (Nat × List Ht) := []
def hl46 : List (Nat × List Ht) := [(17, [])]
def hl47 : List (Nat × List Ht) := []
def hl48 : List (Nat × List Ht) := []
def hl49 : List (Nat × List Ht) := []
def hl50 : List (Nat × List Ht) := []
def hl51 : List (Nat × List Ht) := []
def hl52 : List (Nat × List Ht) := []
def hl53 : List (Nat × List Ht) := []
def hl54 : List (Nat × List Ht) := []
def hl55 : List (Nat × List Ht) := [(4, []), (6, [])]
def hl56 : List (Nat × List Ht) := [(10, [])]
def hl57 : List (Nat × List Ht) := [(10, [])]
def hl58 : List (Nat × List Ht) := []
def hl59 : List (Nat × List Ht) := [(3, [])]
def hl60 : List (Nat × List Ht) := [(5, []), (11, []), (16, []), (17, []), (22, []), (23, [])]
def hl61 : List (Nat × List Ht) := [(1, []), (3, []), (5, []), (8, [])]
def hl62 : List (Nat × List Ht) := [(1, []), (3, []), (5, []), (8, []), (10, []), (13, []), (15, []), (18, []), (21, [])]
def hl63 : List (Nat × List Ht) := []
def hl64 : List (Nat × List Ht) := []
def hl65 : List (Nat × List Ht) := []
def hl66 : List (Nat × List Ht) := [(3, []), (5, []), (6, [])]
def hl67 : List (Nat × List Ht) := []
def hl68 : List (Nat × List Ht) := [(1, []), (2, []), (3, [])]
def hl69 : List (Nat × List Ht) := []
def hl70 : List (Nat × List Ht) := []
def hl71 : List (Nat × List Ht) := [(1, [])]
def hd : Nat → Nat → Option (List Ht)
  | 3 => lookH hl3
  | 4 => lookH hl4
  | 5 => lookH hl5
  | 6 => lookH hl6
  | 7 => lookH hl7
  | 8 => lookH hl8
  | 9 => lookH hl9
  | 10 => lookH hl10
  | 11 => lookH hl11
  | 12 => lookH hl12
  | 13 => lookH hl13
  | 14 => lookH hl14
  | 15 => lookH hl15
  | 16 => lookH hl16
  | 17 => lookH hl17
  | 18 => lookH hl18
  | 19 => lookH hl19
  | 20 => lookH hl20
  | 21 => lookH hl21
  | 22 => lookH hl22
  | 23 => lookH hl23
  | 24 => lookH hl24
  | 25 => lookH hl25
  | 26 => lookH hl26
  | 27 => lookH hl27
  | 28 => lookH hl28
  | 29 => lookH hl29
  | 30 => lookH hl30
  | 31 => lookH hl31
  | 32 => lookH hl32
  | 33 => lookH hl33
  | 34 => lookH hl34
  | 35 => lookH hl35
  | 36 => lookH hl36
  | 37 => lookH hl37
  | 38 => lookH hl38
  | 39 => lookH hl39
  | 40 => lookH hl40
  | 41 => lookH hl41
  | 42 => lookH hl42
  | 43 => lookH hl43
  | 44 => lookH hl44
  | 45 => lookH hl45
  | 46 => lookH hl46
  | 47 => lookH hl47
  | 48 => lookH hl48
  | 49 => lookH hl49
  | 50 => lookH hl50
  | 51 => lookH hl51
  | 52 => lookH hl52
  | 53 => lookH hl53
  | 54 => lookH hl54
  | 55 => lookH hl55
  | 56 => lookH hl56
  | 57 => lookH hl57
  | 58 => lookH hl58
  | 59 => lookH hl59
  | 60 => lookH hl60
  | 61 => lookH hl61
  | 62 => lookH hl62
  | 63 => lookH hl63
  | 64 => lookH hl64
  | 65 => lookH hl65
  | 66 => lookH hl66
  | 67 => lookH hl67
  | 68 => lookH hl68
  | 69 => lookH hl69
  | 70 => lookH hl70
  | 71 => lookH hl71
  | _ => fun _ => none
theorem prog_ok : progOk Try.prog hd = true := by kernel_rfl
theorem hv_3 : hv 3 = [4, 5, 6, 7, 8, 9, 10] := rfl
theorem hv_4 : hv 4 = [2, 3, 4, 5, 6, 7, 8, 9, 58] := rfl
theorem hv_5 : hv 5 = [3, 6] := rfl
theorem hv_6 : hv 6 = [6, 12, 13, 14, 15] := rfl
theorem hv_7 : hv 7 = [2, 3] := rfl
theorem hv_8 : hv 8 = [0, 1, 2, 3, 4, 5, 6] := rfl
theorem hv_9 : hv 9 = [2, 3, 4, 5, 13, 14] := rfl
theorem hv_10 : hv 10 = [4, 5] := rfl
theorem hv_11 : hv 11 = [2, 3, 4, 5, 7, 9, 22, 23, 24, 28, 29, 30] := rfl
theorem hv_12 : hv 12 = [0] := rfl
theorem hv_13 : hv 13 = [2] := rfl
theorem hv_14 : hv 14 = [] := rfl
theorem hv_15 : hv 15 = [2, 4] := rfl
theorem hv_16 : hv 16 = [6, 7, 9, 12, 13, 14] := rfl
theorem hv_17 : hv 17 = [] := rfl
theorem hv_18 : hv 18 = [2, 3, 4] := rfl
theorem hv_19 : hv 19 = [2, 4, 18, 19, 20] := rfl
theorem hv_20 : hv 20 = [1, 2, 3] := rfl
theorem hv_21 : hv 21 = [1, 2] := rfl
theorem hv_22 : hv 22 = [1, 2] := rfl
theorem hv_23 : hv 23 = [1, 2, 3, 4] := rfl
theorem hv_24 : hv 24 = [2, 4, 5, 6, 7] := rfl
theorem hv_25 : hv 25 = [2, 3, 4, 5, 7, 23, 24, 25] := rfl
theorem hv_26 : hv 26 = [2, 4, 5, 6, 7, 8] := rfl
theorem hv_27 : hv 27 = [6, 7, 8, 9, 10] := rfl
theorem hv_28 : hv 28 = [4] := rfl
theorem hv_29 : hv 29 = [2] := rfl
theorem hv_30 : hv 30 = [4] := rfl
theorem hv_31 : hv 31 = [4] := rfl
theorem hv_32 : hv 32 = [2, 3, 4, 5] := rfl
theorem hv_33 : hv 33 = [3] := rfl
theorem hv_34 : hv 34 = [2, 4] := rfl
theorem hv_35 : hv 35 = [4, 5, 6] := rfl
theorem hv_36 : hv 36 = [4] := rfl
theorem hv_37 : hv 37 = [3] := rfl
theorem hv_38 : hv 38 = [4] := rfl
theorem hv_39 : hv 39 = [4] := rfl
theorem hv_40 : hv 40 = [4] := rfl
theorem hv_41 : hv 41 = [4, 5, 6, 7] := rfl
theorem hv_42 : hv 42 = [3] := rfl
theorem hv_43 : hv 43 = [4, 5] := rfl
theorem hv_44 : hv 44 = [3, 4] := rfl
theorem hv_45 : hv 45 = [3] := rfl
theorem hv_46 : hv 46 = [10, 11, 12, 13, 14, 15, 16, 17, 18, 19, 20] := rfl
theorem hv_47 : hv 47 = [2] := rfl
theorem hv_48 : hv 48 = [2, 3, 5, 6, 7, 8] := rfl
theorem hv_49 : hv 49 = [4, 5, 6] := rfl
theorem hv_50 : hv 50 = [4] := rfl
theorem hv_51 : hv 51 = [3] := rfl
theorem hv_52 : hv 52 = [4, 5, 7, 8] := rfl
theorem hv_53 : hv 53 = [4, 5, 7, 8] := rfl
theorem hv_54 : hv 54 = [4, 5, 7, 8] := rfl
theorem hv_55 : hv 55 = [8, 9] := rfl
theorem hv_56 : hv 56 = [8, 9, 10, 11, 12] := rfl
theorem hv_57 : hv 57 = [8, 9, 10, 11, 12] := rfl
theorem hv_58 : hv 58 = [8, 9, 10, 11, 12, 13, 14, 55] := rfl
theorem hv_59 : hv 59 = [8, 9] := rfl
theorem hv_60 : hv 60 = [8, 9, 10, 11, 12] := rfl
theorem hv_61 : hv 61 = [10, 11, 12] := rfl
theorem hv_62 : hv 62 = [10, 11, 12, 13] := rfl
theorem hv_63 : hv 63 = [2] := rfl
theorem hv_64 : hv 64 = [2] := rfl
theorem hv_65 : hv 65 = [2] := rfl
theorem hv_66 : hv 66 = [10, 11] := rfl
theorem hv_67 : hv 67 = [2] := rfl
theorem hv_68 : hv 68 = [2] := rfl
theorem hv_69 : hv 69 = [8] := rfl
theorem hv_70 : hv 70 = [12] := rfl
theorem hv_71 : hv 71 = [10, 11] := rfl
theorem hf_4_0 : hf 4 0 = [7, 8, 9, 58] := rfl
theorem hf_4_3 : hf 4 3 = [] := rfl
theorem hf_7_0 : hf 7 0 = [] := rfl
theorem hf_9_0 : hf 9 0 = [5] := rfl
theorem hf_10_0 : hf 10 0 = [] := rfl
theorem hf_11_0 : hf 11 0 = [7, 9, 28, 29, 30] := rfl
theorem hf_11_2 : hf 11 2 = [9] := rfl
theorem hf_16_0 : hf 16 0 = [9] := rfl
theorem hf_19_0 : hf 19 0 = [4] := rfl
theorem hf_20_0 : hf 20 0 = [] := rfl
theorem hf_23_0 : hf 23 0 = [4] := rfl
theorem hf_23_2 : hf 23 2 = [] := rfl
theorem hf_24_0 : hf 24 0 = [6, 7] := rfl
theorem hf_24_2 : hf 24 2 = [] := rfl
theorem hf_25_0 : hf 25 0 = [7] := rfl
theorem hf_26_0 : hf 26 0 = [7, 8] := rfl
theorem hf_26_2 : hf 26 2 = [] := rfl
theorem hf_32_0 : hf 32 0 = [4, 5] := rfl
theorem hf_32_2 : hf 32 2 = [] := rfl
theorem hf_35_0 : hf 35 0 = [6] := rfl
theorem hf_35_2 : hf 35 2 = [] := rfl
theorem hf_41_0 : hf 41 0 = [7] := rfl
theorem hf_43_0 : hf 43 0 = [] := rfl
theorem hf_46_0 : hf 46 0 = [12, 13, 14, 15, 16, 17, 18, 19, 20] := rfl
theorem hf_48_0 : hf 48 0 = [5] := rfl
theorem hf_52_0 : hf 52 0 = [5] := rfl
theorem hf_53_0 : hf 53 0 = [5] := rfl
theorem hf_54_0 : hf 54 0 = [5] := rfl
theorem hf_55_0 : hf 55 0 = [9] := rfl
theorem hf_55_2 : hf 55 2 = [] := rfl
theorem hf_56_0 : hf 56 0 = [] := rfl
theorem hf_56_2 : hf 56 2 = [] := rfl
theorem hf_57_0 : hf 57 0 = [12] := rfl
theorem hf_59_0 : hf 59 0 = [] := rfl
theorem hf_60_0 : hf 60 0 = [11, 12] := rfl
theorem hf_60_2 : hf 60 2 = [] := rfl
theorem hf_60_4 : hf 60 4 = [] := rfl
theorem hf_60_6 : hf 60 6 = [] := rfl
theorem hf_61_0 : hf 61 0 = [] := rfl
theorem hf_61_2 : hf 61 2 = [] := rfl
theorem hf_61_4 : hf 61 4 = [] := rfl
theorem hf_62_0 : hf 62 0 = [] := rfl
theorem hf_62_2 : hf 62 2 = [] := rfl
theorem hf_62_4 : hf 62 4 = [] := rfl
theorem hf_62_6 : hf 62 6 = [] := rfl
theorem hf_62_8 : hf 62 8 = [] := rfl
theorem hf_66_0 : hf 66 0 = [11] := rfl
theorem hd_3 (i : Nat) : hd 3 i = lookH hl3 i := rfl
theorem hd_4 (i : Nat) : hd 4 i = lookH hl4 i := rfl
theorem hd_5 (i : Nat) : hd 5 i = lookH hl5 i := rfl
theorem hd_6 (i : Nat) : hd 6 i = lookH hl6 i := rfl
theorem hd_7 (i : Nat) : hd 7 i = lookH hl7 i := rfl
theorem hd_8 (i : Nat) : hd 8 i = lookH hl8 i := rfl
theorem hd_9 (i : Nat) : hd 9 i = lookH hl9 i := rfl
theorem hd_10 (i : Nat) : hd 10 i = lookH hl10 i := rfl
theorem hd_11 (i : Nat) : hd 11 i = lookH hl11 i := rfl
theorem hd_12 (i : Nat) : hd 12 i = lookH hl12 i := rfl
theorem hd_13 (i : Nat) : hd 13 i = lookH hl13 i := rfl
theorem hd_14 (i : Nat) : hd 14 i = lookH hl14 i := rfl
theorem hd_15 (i : Nat) : hd 15 i = lookH hl15 i := rfl
theorem hd_16 (i : Nat) : hd 16 i = lookH hl16 i := rfl
theorem hd_17 (i : Nat) : hd 17 i = lookH hl17 i := rfl
theorem hd_18 (i : Nat) : hd 18 i = lookH hl18 i := rfl
theorem hd_19 (i : Nat) : hd 19 i = lookH hl19 i := rfl
theorem hd_20 (i : Nat) : hd 20 i = lookH hl20 i := rfl
theorem hd_21 (i : Nat) : hd 21 i = lookH hl21 i := rfl
theorem hd_22 (i : Nat) : hd 22 i = lookH hl22 i := rfl
theorem hd_23 (i : Nat) : hd 23 i = lookH hl23 i := rfl
theorem hd_24 (i : Nat) : hd 24 i = lookH hl24 i := rfl
theorem hd_25 (i : Nat) : hd 25 i = lookH hl25 i := rfl
theorem hd_26 (i : Nat) : hd 26 i = lookH hl26 i := rfl
theorem hd_27 (i : Nat) : hd 27 i = lookH hl27 i := rfl
theorem hd_28 (i : Nat) : hd 28 i = lookH hl28 i := rfl
theorem hd_29 (i : Nat) : hd 29 i = lookH hl29 i := rfl
theorem hd_30 (i : Nat) : hd 30 i = lookH hl30 i := rfl
theorem hd_31 (i : Nat) : hd 31 i = lookH hl31 i := rfl
theorem hd_32 (i : Nat) : hd 32 i = lookH hl32 i := rfl
theorem hd_33 (i : Nat) : hd 33 i = lookH hl33 i := rfl
theorem hd_34 (i : Nat) : hd 34 i = lookH hl34 i := rfl
theorem hd_35 (i : Nat) : hd 35 i = lookH hl35 i := rfl
theorem hd_36 (i : Nat) : hd 36 i = lookH hl36 i := rfl
theorem hd_37 (i : Nat) : hd 37 i = lookH hl37 i := rfl
theorem hd_38 (i : Nat) : hd 38 i = lookH hl38 i := rfl
theorem hd_39 (i : Nat) : hd 39 i = lookH hl39 i := rfl
theorem hd_40 (i : Nat) : hd 40 i = lookH hl40 i := rfl
theorem hd_41 (i : Nat) : hd 41 i = lookH hl41 i := rfl
theorem hd_42 (i : Nat) : hd 42 i = lookH hl42 i := rfl
theorem hd_43 (i : Nat) : hd 43 i = lookH hl43 i := rfl
theorem hd_44 (i : Nat) : hd 44 i = lookH hl44 i := rfl
theorem hd_45 (i : Nat) : hd 45 i = lookH hl45 i := rfl
theorem hd_46 (i : Nat) : hd 46 i = lookH hl46 i := rfl
theorem hd_47 (i : Nat) : hd 47 i = lookH hl47 i := rfl
theorem hd_48 (i : Nat) : hd 48 i = lookH hl48 i := rfl
theorem hd_49 (i : Nat) : hd 49 i = lookH hl49 i := rfl
theorem hd_50 (i : Nat) : hd 50 i = lookH hl50 i := rfl
theorem hd_51 (i : Nat) : hd 51 i = lookH hl51 i := rfl
theorem hd_52 (i : Nat) : hd 52 i = lookH hl52 i := rfl
theorem hd_53 (i : Nat) : hd 53 i = lookH hl53 i := rfl
theorem hd_54 (i : Nat) : hd 54 i = lookH hl54 i := rfl
theorem hd_55 (i : Nat) : hd 55 i = lookH hl55 i := rfl
theorem hd_56 (i : Nat) : hd 56 i = lookH hl56 i := rfl
theorem hd_57 (i : Nat) : hd 57 i = lookH hl57 i := rfl
theorem hd_58 (i : Nat) : hd 58 i = lookH hl58 i := rfl
theorem hd_59 (i : Nat) : hd 59 i = lookH hl59 i := rfl
theorem hd_60 (i : Nat) : hd 60 i = lookH hl60 i := rfl
theorem hd_61 (i : Nat) : hd 61 i = lookH hl61 i := rfl
theorem hd_62 (i : Nat) : hd 62 i = lookH hl62 i := rfl
theorem hd_63 (i : Nat) : hd 63 i = lookH hl63 i := rfl
theorem hd_64 (i : Nat) : hd 64 i = lookH hl64 i := rfl
theorem hd_65 (i : Nat) : hd 65 i = lookH hl65 i := rfl
theorem hd_66 (i : Nat) : hd 66 i = lookH hl66 i := rfl
theorem hd_67 (i : Nat) : hd 67 i = lookH hl67 i := rfl
theorem hd_68 (i : Nat) : hd 68 i = lookH hl68 i := rfl
theorem hd_69 (i : Nat) : hd 69 i = lookH hl69 i := rfl
theorem hd_70 (i : Nat) : hd 70 i = lookH hl70 i := rfl
theorem hd_71 (i : Nat) : hd 71 i = lookH hl71 i := rfl
attribute [go_sem] hf_4_0 hf_4_3 hf_7_0 hf_9_0 hf_10_0 hf_11_0 hf_11_2 hf_16_0 hf_19_0 hf_20_0 hf_23_0 hf_23_2
attribute [go_sem] hf_24_0 hf_24_2 hf_25_0 hf_26_0 hf_26_2 hf_32_0 hf_32_2 hf_35_0 hf_35_2 hf_41_0 hf_43_0 hf_46_0
attribute [go_sem] hf_48_0 hf_52_0 hf_53_0 hf_54_0 hf_55_0 hf_55_2 hf_56_0 hf_56_2 hf_57_0 hf_59_0 hf_60_0 hf_60_2
attribute [go_sem] hf_60_4 hf_60_6 hf_61_0 hf_61_2 hf_61_4 hf_62_0 hf_62_2 hf_62_4 hf_62_6 hf_62_8 hf_66_0 hd_3
attribute [go_sem] hl3 hd_4 hl4 hd_5 hl5 hd_6 hl6 hd_7 hl7 hd_8 hl8 hd_9
attribute [go_sem] hl9 hd_10 hl10 hd_11 hl11 hd_12 hl12 hd_13 hl13 hd_14 hl14 hd_15
attribute [go_sem] hl15 hd_16 hl16 hd_17 hl17 hd_18 hl18 hd_19 hl19 hd_20 hl20 hd_21
attribute [go_sem] hl21 hd_22 hl22 hd_23 hl23 hd_24 hl24 hd_25 hl25 hd_26 hl26 hd_27
attribute [go_sem] hl27 hd_28 hl28 hd_29 hl29 hd_30 hl30 hd_31 hl31 hd_32 hl32 hd_33
attribute [go_sem] hl33 hd_34 hl34 hd_35 hl35 hd_36 hl36 hd_37 hl37 hd_38 hl38 hd_39
attribute [go_sem] hl39 hd_40 hl40 hd_41 hl41 hd_42 hl42 hd_43 hl43 hd_44 hl44 hd_45
attribute [go_sem] hl45 hd_46 hl46 hd_47 hl47 hd_48 hl48 hd_49 hl49 hd_50 hl50 hd_51
attribute [go_sem] hl51 hd_52 hl52 hd_53 hl53 hd_54 hl54 hd_55 hl55 hd_56 hl56 hd_57
attribute [go_sem] hl57 hd_58 hl58 hd_59 hl59 hd_60 hl60 hd_61 hl61 hd_62 hl62 hd_63
attribute [go_sem] hl63 hd_64 hl64 hd_65 hl65 hd_66 hl66 hd_67 hl67 hd_68 hl68 hd_69
attribute [go_sem] hl69 hd_70 hl70 hd_71 hl71
/-- Functions that are known otherwise. -/
def isExt : Nat → Bool
  | 14 => true
  | 19 => true
  | 29 => true
  | 30 => true
  | 44 => true
  | _ => false
/-- The program, with functions that are known otherwise. -/
noncomputable def G (ext : Sem') : Sem' := callA Try.prog ext hd hv hf
def Clear (ext : Sem') : Prop := ∀ (f : Nat) (xs : List AV) (H : List AObj), isExt f = false → ext f xs H = none
theorem G_ok {ext : Sem'} (h : Sound Try.prog ext) : Sound Try.prog (G ext) := callA_ok h prog_ok
theorem G_ext {ext : Sem'} {f : Nat} {xs : List AV} {H : List AObj} {r : Out × List AObj} (h : ext f xs H = some r) : G ext f xs H = some r := callA_ext h
theorem G_body {ext : Sem'} (hx : Clear ext) {f : Nat} {F : Func} {c : Code} {xs : List AV} {H : List AObj} {rs : List ResultVar} {V : List Nat} (he : isExt f = false) (h : Try.prog.funcs[f]? = some F) (hb : F.body = some c) (hr : F.results = ⟨rs⟩) (hV : hv f = V) (hl : Nat.ble xs.length F.ntmps = true) :
    G ext f xs H = finish Try.prog rs H.length (evC Try.prog (G ext) (hd f) (hf f) 0 c (.go (Go.Ab.start xs V H))) :=
  callA_body (hx f xs H he) h hb hr hV (Nat.le_of_ble_eq_true hl)
/-- A closed run: loops k rounds, calls n deep. -/
theorem G_run {ext : Sem'} (hx : Clear ext) {f : Nat} {xs : List AV} {H : List AObj} {r : Out × List AObj} (k n : Nat) (h : callF Try.prog isExt hd hv hf k n f xs H = some r) : G ext f xs H = some r := callF_ok hx n f xs H r h
end Go.Proofs.Ytdmambkajegldaa
