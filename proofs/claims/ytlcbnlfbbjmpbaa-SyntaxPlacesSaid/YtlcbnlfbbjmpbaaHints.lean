/- Hints for the abstract evaluator, and the program's functions read as their bodies. Conditions: none. -/
import Derived.Test.YtlcbnlfbbjmpbaaAbX4
import Derived.Test.YtlcbnlfbbjmpbaaTy
import Derived.Test.YtlcbnlfbbjmpbaaProg
namespace Go.Proofs.Ytlcbnlfbbjmpbaa
open Go Go.Ab
def hv : Nat → List Nat
  | 3 => [2, 3, 5, 6, 7]
  | 4 => [2, 3, 4, 5, 6, 7, 8]
  | 5 => [0, 1, 3, 4, 5, 6]
  | 6 => [2, 3, 4, 5, 8, 9]
  | 7 => [2, 3, 4, 5]
  | 8 => [4, 5, 6]
  | 9 => [2, 3, 5, 6, 7, 8]
  | 10 => [2, 3, 4, 5, 6]
  | 11 => [2, 3, 4, 5, 6, 7, 8, 9, 10]
  | 12 => [2, 3]
  | 13 => [1, 2, 3, 5, 7, 8, 9]
  | 14 => [1, 2]
  | 15 => [2, 3]
  | 16 => [3, 4, 5, 6, 7, 13, 26, 44]
  | 17 => [4, 5, 7, 8, 10, 12, 39, 40, 41, 63, 64, 65]
  | 18 => [2, 3, 4]
  | 19 => [6, 7, 8, 9, 15, 16, 17]
  | 20 => [2, 3, 4]
  | 21 => [2, 3, 4]
  | 22 => [6, 7, 8, 9, 15, 16, 17]
  | 23 => [2, 3, 4]
  | 24 => [6, 7, 8, 9, 15, 16, 17]
  | 25 => [6, 7, 8, 9, 15, 16, 17]
  | 26 => [4]
  | 27 => [4, 5, 6]
  | 28 => [4, 5, 6, 7, 8, 9, 10, 11]
  | 29 => [4, 5]
  | 30 => []
  | 31 => [2, 3, 4]
  | 32 => [3]
  | 33 => [2]
  | 34 => [3, 4, 5, 6]
  | 35 => []
  | 36 => [2, 3]
  | 37 => []
  | 38 => [4, 5]
  | 39 => [2, 3]
  | 40 => [2, 3]
  | 41 => [3, 4, 5]
  | 42 => []
  | 43 => [4, 5]
  | 44 => [2]
  | 45 => [6, 7, 8, 9, 15, 16, 17]
  | 46 => [2, 3, 4]
  | 47 => [2]
  | 48 => [2]
  | 49 => [2, 3, 4]
  | 50 => [0]
  | 51 => [4, 5, 7, 8]
  | 52 => [1, 2]
  | 53 => [1]
  | 54 => [2]
  | 55 => [2, 3]
  | 56 => [2, 4, 5, 7, 8, 9, 10]
  | 57 => [4, 5, 6]
  | 58 => [4]
  | 59 => [4, 5, 7, 8]
  | 60 => [2]
  | 61 => [2]
  | 62 => [2, 3, 4]
  | 63 => [2]
  | 64 => [2, 3, 4, 5, 6, 41, 42]
  | 65 => [2, 3, 4]
  | 66 => [4]
  | 67 => [2]
  | 68 => []
  | 69 => [4, 5]
  | 70 => [2, 3, 4]
  | 71 => [2, 3]
  | 72 => [1, 2]
  | 73 => []
  | 74 => [4]
  | 75 => [0]
  | 76 => [6, 7, 8]
  | 77 => [2]
  | 78 => [4]
  | 79 => [4]
  | 80 => [2]
  | 81 => [2, 3, 4]
  | 82 => [4, 5, 7, 8]
  | 83 => []
  | 84 => []
  | 85 => [2, 3, 4]
  | 88 => [1, 2, 3]
  | 89 => [4]
  | 90 => [3, 4]
  | 91 => [2]
  | 92 => [2]
  | 93 => [4, 5, 6, 7, 8, 9, 10]
  | 94 => [1, 2]
  | 95 => [2]
  | 96 => [2, 3]
  | 98 => []
  | 99 => [1, 2]
  | 100 => []
  | _ => []
def hf3 : Nat → List Nat
  | _ => []
def hf8 : Nat → List Nat
  | 0 => [6]
  | _ => []
def hf9 : Nat → List Nat
  | 0 => [5]
  | _ => []
def hf11 : Nat → List Nat
  | 0 => [7, 8, 9, 10]
  | _ => []
def hf13 : Nat → List Nat
  | 0 => [5]
  | _ => []
def hf16 : Nat → List Nat
  | _ => []
def hf17 : Nat → List Nat
  | 1 => [7]
  | 3 => [10]
  | _ => []
def hf19 : Nat → List Nat
  | 0 => [7, 8, 9]
  | _ => []
def hf22 : Nat → List Nat
  | 0 => [7, 8, 9]
  | _ => []
def hf24 : Nat → List Nat
  | 0 => [7, 8, 9]
  | _ => []
def hf25 : Nat → List Nat
  | 0 => [7, 8, 9]
  | _ => []
def hf26 : Nat → List Nat
  | _ => []
def hf27 : Nat → List Nat
  | _ => []
def hf28 : Nat → List Nat
  | _ => []
def hf34 : Nat → List Nat
  | 0 => [4, 5, 6]
  | _ => []
def hf35 : Nat → List Nat
  | _ => []
def hf37 : Nat → List Nat
  | _ => []
def hf39 : Nat → List Nat
  | _ => []
def hf40 : Nat → List Nat
  | _ => []
def hf41 : Nat → List Nat
  | _ => []
def hf45 : Nat → List Nat
  | 0 => [7, 8, 9]
  | _ => []
def hf49 : Nat → List Nat
  | _ => []
def hf51 : Nat → List Nat
  | 0 => [5]
  | _ => []
def hf56 : Nat → List Nat
  | 0 => [7]
  | _ => []
def hf57 : Nat → List Nat
  | 0 => [6]
  | _ => []
def hf59 : Nat → List Nat
  | 0 => [5]
  | _ => []
def hf64 : Nat → List Nat
  | 0 => [6]
  | _ => []
def hf76 : Nat → List Nat
  | 0 => [8]
  | _ => []
def hf82 : Nat → List Nat
  | 0 => [5]
  | _ => []
def hf84 : Nat → List Nat
  | _ => []
def hf88 : Nat → List Nat
  | 0 => [3]
  | _ => []
def hf93 : Nat → List Nat
  | 0 => [9, 10]
  | _ => []
def hf98 : Nat → List Nat
  | _ => []
def hf : Nat → Nat → List Nat
  | 3 => hf3
  | 8 => hf8
  | 9 => hf9
  | 11 => hf11
  | 13 => hf13
  | 16 => hf16
  | 17 => hf17
  | 19 => hf19
  | 22 => hf22
  | 24 => hf24
  | 25 => hf25
  | 26 => hf26
  | 27 => hf27
  | 28 => hf28
  | 34 => hf34
  | 35 => hf35
  | 37 => hf37
  | 39 => hf39
  | 40 => hf40
  | 41 => hf41
  | 45 => hf45
  | 49 => hf49
  | 51 => hf51
  | 56 => hf56
  | 57 => hf57
  | 59 => hf59
  | 64 => hf64
  | 76 => hf76
  | 82 => hf82
  | 84 => hf84
  | 88 => hf88
  | 93 => hf93
  | 98 => hf98
  | _ => fun _ => []
def hl3 : List (Nat × List Ht) := [(4, [⟨[], [], false, [(5, (0, 4)), (5, (1, 7))]⟩])]
def hl4 : List (Nat × List Ht) := [(6, [⟨[], [], false, [(5, (0, 4)), (5, (1, 7))]⟩]), (7, [⟨[], [], false, [(7, (0, 4)), (7, (1, 7))]⟩])]
def hl5 : List (Nat × List Ht) := [(2, [⟨[], [], false, [(3, (4, 7))]⟩]), (3, [⟨[], [], false, [(5, (0, 4)), (5, (1, 7))]⟩])]
def hl6 : List (Nat × List Ht) := [(0, [⟨[], [], false, [(2, (0, 5))]⟩]), (5, [⟨[], [], true, []⟩, ⟨[], [0], false, []⟩, ⟨[], [], false, []⟩]), (7, [⟨[], [], false, []⟩, ⟨[], [], true, []⟩, ⟨[], [1], false, []⟩, ⟨[], [], false, []⟩])]
def hl7 : List (Nat × List Ht) := [(0, [⟨[], [], false, [(2, (0, 4)), (2, (1, 7))]⟩]), (3, [⟨[], [], false, []⟩, ⟨[], [], true, []⟩, ⟨[], [1], false, []⟩, ⟨[], [], false, []⟩])]
def hl8 : List (Nat × List Ht) := []
def hl9 : List (Nat × List Ht) := []
def hl10 : List (Nat × List Ht) := [(0, [⟨[], [], false, [(2, (0, 4)), (2, (1, 7)), (3, (0, 4)), (3, (1, 7))]⟩])]
def hl11 : List (Nat × List Ht) := [(9, [])]
def hl12 : List (Nat × List Ht) := [(0, [⟨[], [], false, [(2, (4, 7))]⟩]), (3, [⟨[], [], false, []⟩, ⟨[], [], true, []⟩, ⟨[], [1], false, []⟩, ⟨[], [], false, []⟩]), (4, [⟨[], [], false, []⟩, ⟨[], [], true, []⟩, ⟨[], [1], false, []⟩, ⟨[], [], false, []⟩])]
def hl13 : List (Nat × List Ht) := [(0, [⟨[], [], false, [(1, (4, 7))]⟩]), (4, [⟨[], [], false, [(5, (4, 7))]⟩])]
def hl14 : List (Nat × List Ht) := []
def hl15 : List (Nat × List Ht) := [(0, [⟨[], [], false, [(2, (0, 4)), (2, (1, 7))]⟩]), (3, [⟨[], [], false, []⟩, ⟨[], [], true, []⟩, ⟨[], [1], false, []⟩, ⟨[], [], false, []⟩]), (4, [⟨[], [], false, []⟩, ⟨[], [], true, []⟩, ⟨[], [1], false, []⟩, ⟨[], [], false, []⟩])]
def hl16 : List (Nat × List Ht) := [(0, [⟨[], [], false, [(3, (4, 7))]⟩])]
def hl17 : List (Nat × List Ht) := [(18, [⟨[], [], false, [(8, (1, 1))]⟩])]
def hl18 : List (Nat × List Ht) := [(0, [⟨[], [], false, [(2, (1, 5)), (3, (1, 5))]⟩])]
def hl19 : List (Nat × List Ht) := []
def hl20 : List (Nat × List Ht) := []
def hl21 : List (Nat × List Ht) := [(0, [⟨[], [], false, [(2, (1, 5)), (2, (4, 9)), (3, (1, 5)), (3, (4, 9))]⟩])]
def hl22 : List (Nat × List Ht) := [(5, [⟨[], [], false, [(8, (4, 7)), (8, (5, 9)), (8, (6, 9))]⟩]), (6, [⟨[], [], false, [(9, (4, 7)), (9, (5, 9)), (9, (6, 9))]⟩])]
def hl23 : List (Nat × List Ht) := [(0, [⟨[], [], false, [(2, (4, 7)), (2, (5, 9)), (2, (6, 9)), (3, (4, 7)), (3, (5, 9)), (3, (6, 9))]⟩])]
def hl24 : List (Nat × List Ht) := [(5, [⟨[], [], false, [(8, (1, 5))]⟩]), (6, [⟨[], [], false, [(9, (1, 5))]⟩])]
def hl25 : List (Nat × List Ht) := [(5, [⟨[], [], false, [(8, (1, 5)), (8, (4, 9))]⟩]), (6, [⟨[], [], false, [(9, (1, 5)), (9, (4, 9))]⟩])]
def hl26 : List (Nat × List Ht) := []
def hl27 : List (Nat × List Ht) := []
def hl28 : List (Nat × List Ht) := [(26, [])]
def hl29 : List (Nat × List Ht) := [(5, [⟨[], [], false, [(22, (0, 5))]⟩])]
def hl30 : List (Nat × List Ht) := []
def hl31 : List (Nat × List Ht) := [(0, [⟨[], [], false, []⟩]), (1, [⟨[], [], false, []⟩]), (4, [⟨[], [], false, []⟩, ⟨[], [], true, []⟩, ⟨[], [], false, []⟩, ⟨[], [], true, []⟩, ⟨[], [], false, []⟩, ⟨[], [], true, []⟩, ⟨[], [], false, []⟩, ⟨[], [1, 3, 5], false, []⟩, ⟨[], [], false, []⟩, ⟨[], [], false, []⟩, ⟨[], [], false, []⟩])]
def hl32 : List (Nat × List Ht) := []
def hl33 : List (Nat × List Ht) := []
def hl34 : List (Nat × List Ht) := []
def hl35 : List (Nat × List Ht) := []
def hl36 : List (Nat × List Ht) := []
def hl37 : List (Nat × List Ht) := [(0, [⟨[], [], false, []⟩, ⟨[], [], true, []⟩, ⟨[], [], false, []⟩, ⟨[], [1], false, []⟩, ⟨[], [], false, []⟩, ⟨[], [], false, []⟩, ⟨[], [], false, []⟩, ⟨[], [], false, []⟩]), (3, [⟨[], [], false, []⟩, ⟨[], [], true, []⟩, ⟨[], [], false, []⟩, ⟨[], [1], false, []⟩, ⟨[], [], false, []⟩, ⟨[], [], false, []⟩, ⟨[], [], false, []⟩, ⟨[], [], false, []⟩])]
def hl38 : List (Nat × List Ht) := []
def hl39 : List (Nat × List Ht) := [(0, [⟨[], [], false, []⟩]), (1, [⟨[], [], false, [(3, (1, 5))]⟩]), (6, [⟨[], [], false, []⟩, ⟨[], [], true, []⟩, ⟨[], [], false, []⟩, ⟨[], [1], false, []⟩, ⟨[], [], false, []⟩, ⟨[], [], false, []⟩, ⟨[], [], false, []⟩, ⟨[], [], false, []⟩])]
def hl40 : List (Nat × List Ht) := [(0, [⟨[], [], false, []⟩]), (1, [⟨[], [], false, [(3, (1, 5))]⟩]), (7, [⟨[], [], false, []⟩, ⟨[], [], true, []⟩, ⟨[], [], false, []⟩, ⟨[], [1], false, []⟩, ⟨[], [], false, []⟩, ⟨[], [], false, []⟩, ⟨[], [], false, []⟩, ⟨[], [], false, []⟩])]
def hl41 : List (Nat × List Ht) := [(4, [])]
def hl42 : List (Nat × List Ht) := [(3, [])]
def hl43 : List (Nat × List Ht) := []
def hl44 : List (Nat × List Ht) := [(1, [])]
def hl45 : List (Nat × List Ht) := [(5, [⟨[], [], false, [(8, (4, 7))]⟩]), (6, [⟨[], [], false, [(9, (4, 7))]⟩])]
def hl46 : List (Nat × List Ht) := [(0, [⟨[], [], false, [(2, (4, 7)), (3, (4, 7))]⟩])]
def hl47 : List (Nat × List Ht) := []
def hl48 : List (Nat × List Ht) := []
def hl49 : List (Nat × List Ht) := []
def hl50 : List (Nat × List Ht) := [(1, [⟨[], [], false, [(0, (0, 1))]⟩])]
def hl51 : List (Nat × List Ht) := []
def hl52 : List (Nat × List Ht) := []
def hl53 : List (Nat × List Ht) := []
def hl54 : List (Nat × List Ht) := [(0, [⟨[], [], false, [(2, (4, 7))]⟩])]
def hl55 : List (Nat × List Ht) := []
def hl56 : List (Nat × List Ht) := [(0, [⟨[], [], false, [(2, (4, 7)), (4, (4, 7))]⟩]), (4, [⟨[], [], false, [(7, (4, 7))]⟩])]
def hl57 : List (Nat × List Ht) := [(7, [])]
def hl58 : List (Nat × List Ht) := []
def hl59 : List (Nat × List Ht) := []
def hl60 : List (Nat × List Ht) := []
def hl61 : List (Nat × List Ht) := []
def hl62 : List (Nat × List Ht) := []
def hl63 : List (Nat × List Ht) := []
def hl64 : List (Nat × List Ht) := []
def hl65 : List (Nat × List Ht) := []
def hl66 : List (Nat × List Ht) := []
def hl67 : List (Nat × List Ht) := []
def hl68 : List (Nat × List Ht) := []
def hl69 : List (Nat × List Ht) := []
def hl70 : List (Nat × List Ht) := [(3, [⟨[], [], false, []⟩, ⟨[], [], false, []⟩, ⟨[], [], false, []⟩, ⟨[], [], true, []⟩, ⟨[], [], false, []⟩, ⟨[], [3], false, []⟩, ⟨[], [], false, []⟩, ⟨[], [], false, []⟩])]
def hl71 : List (Nat × List Ht) := []
def hl72 : List (Nat × List Ht) := [(0, [⟨[], [], false, [(2, (0, 1009))]⟩]), (3, [⟨[], [], false, [(2, (0, 3000))]⟩])]
def hl73 : List (Nat × List Ht) := []
def hl74 : List (Nat × List Ht) := [(0, [⟨[], [], false, []⟩, ⟨[], [], false, []⟩, ⟨[], [], false, []⟩, ⟨[], [], false, []⟩, ⟨[], [], false, []⟩, ⟨[], [], false, []⟩, ⟨[], [], false, []⟩, ⟨[], [], false, []⟩, ⟨[], [], true, []⟩, ⟨[], [], false, []⟩, ⟨[], [], false, []⟩, ⟨[], [], false, []⟩, ⟨[], [8], false, []⟩, ⟨[], [], false, []⟩, ⟨[], [], false, []⟩, ⟨[], [], false, []⟩])]
def hl75 : List (Nat × List Ht) := [(1, [⟨[], [], false, [(0, (0, 1))]⟩])]
def hl76 : List (Nat × List Ht) := [(0, [⟨[], [], false, []⟩]), (1, [⟨[], [], false, []⟩]), (4, [⟨[], [], false, []⟩, ⟨[], [], true, []⟩, ⟨[], [], false, []⟩, ⟨[], [], true, []⟩, ⟨[], [], false, []⟩, ⟨[], [], true, []⟩, ⟨[], [], false, []⟩, ⟨[], [1, 3, 5], false, []⟩, ⟨[], [], false, []⟩, ⟨[], [], false, []⟩, ⟨[], [], false, []⟩])]
def hl77 : List (Nat × List Ht) := [(0, [⟨[], [], false, [(2, (4, 7))]⟩])]
def hl78 : List (Nat × List Ht) := []
def hl79 : List (Nat × List Ht) := []
def hl80 : List (Nat × List Ht) := []
def hl81 : List (Nat × List Ht) := []
def hl82 : List (Nat × List Ht) := []
def hl83 : List (Nat × List Ht) := []
def hl84 : List (Nat × List Ht) := [(2, [⟨[1000001], [], false, []⟩, ⟨[], [], true, []⟩, ⟨[], [], false, []⟩, ⟨[], [0], false, []⟩, ⟨[], [], false, []⟩, ⟨[], [], false, []⟩, ⟨[], [], false, []⟩])]
def hl85 : List (Nat × List Ht) := [(0, [⟨[], [], false, []⟩]), (1, [⟨[], [], false, []⟩]), (32, [⟨[], [], false, []⟩, ⟨[], [], true, []⟩, ⟨[], [], false, []⟩, ⟨[], [], true, []⟩, ⟨[], [], false, []⟩, ⟨[], [], false, []⟩, ⟨[], [1, 3], false, []⟩, ⟨[], [], false, []⟩, ⟨[], [], false, []⟩, ⟨[], [], false, []⟩, ⟨[], [], false, []⟩, ⟨[], [], false, []⟩, ⟨[], [], false, []⟩, ⟨[], [], false, []⟩])]
def hl88 : List (Nat × List Ht) := [(0, [⟨[], [], false, []⟩]), (7, [⟨[], [], false, []⟩, ⟨[], [], true, []⟩, ⟨[], [], false, []⟩, ⟨[], [], false, []⟩, ⟨[], [1], false, []⟩, ⟨[], [], false, []⟩, ⟨[], [1], false, []⟩, ⟨[], [], false, []⟩, ⟨[], [], false, []⟩, ⟨[], [], false, []⟩])]
def hl89 : List (Nat × List Ht) := []
def hl90 : List (Nat × List Ht) := [(0, [⟨[], [], false, []⟩])]
def hl91 : List (Nat × List Ht) := [(1, [⟨[], [], false, []⟩])]
def hl92 : List (Nat × List Ht) := []
def hl93 : List (Nat × List Ht) := [(0, [⟨[], [], false, [(4, (4, 7))]⟩]), (1, [⟨[], [], false, []⟩, ⟨[], [], true, []⟩, ⟨[], [], false, []⟩, ⟨[], [1], false, []⟩, ⟨[], [], false, []⟩, ⟨[], [], false, []⟩]), (2, [⟨[], [], false, []⟩]), (9, [⟨[], [], false, []⟩, ⟨[], [], true, []⟩, ⟨[], [], false, []⟩, ⟨[], [1], false, []⟩, ⟨[], [], false, []⟩, ⟨[], [1], false, []⟩, ⟨[], [], false, []⟩]), (13, [⟨[], [], false, []⟩, ⟨[], [], true, []⟩, ⟨[], [], false, []⟩, ⟨[], [1], false, []⟩, ⟨[], [], false, []⟩, ⟨[], [], false, []⟩, ⟨[], [], false, []⟩, ⟨[], [], false, []⟩, ⟨[], [], false, []⟩])]
def hl94 : List (Nat × List Ht) := [(0, [⟨[], [], false, [(2, (0, 8))]⟩])]
def hl95 : List (Nat × List Ht) := [(1, [⟨[], [], false, []⟩, ⟨[], [], true, []⟩, ⟨[], [], false, []⟩, ⟨[], [], true, []⟩, ⟨[], [], false, []⟩, ⟨[], [], false, []⟩, ⟨[], [1, 3], false, []⟩, ⟨[], [], false, []⟩, ⟨[], [], false, []⟩, ⟨[], [], false, []⟩])]
def hl96 : List (Nat × List Ht) := [(0, [⟨[], [], false, []⟩]), (8, [⟨[], [], false, []⟩, ⟨[], [], true, []⟩, ⟨[], [], false, []⟩, ⟨[], [], true, []⟩, ⟨[], [], false, []⟩, ⟨[], [], false, []⟩, ⟨[], [1, 3], false, []⟩, ⟨[], [], false, []⟩, ⟨[], [], false, []⟩]), (13, [⟨[], [], false, []⟩, ⟨[], [], true, []⟩, ⟨[], [], false, []⟩, ⟨[], [], false, []⟩, ⟨[], [1], false, []⟩, ⟨[], [], false, []⟩, ⟨[], [], false, []⟩, ⟨[], [], false, []⟩])]
def hl98 : List (Nat × List Ht) := [(4, [⟨[], [], true, []⟩, ⟨[], [], false, []⟩, ⟨[], [0], false, []⟩, ⟨[], [], false, []⟩, ⟨[], [], false, []⟩, ⟨[], [], false, []⟩])]
def hl99 : List (Nat × List Ht) := [(0, [⟨[], [], false, []⟩])]
def hl100 : List (Nat × List Ht) := []
def hd : Nat → Nat → Option (List Ht)
  | 3 => lookH hl3
  | 4 => lookH hl4
  | 5 => lookH hl5
  | 6 => lookH hl6
  | 7 => lookH hl7
  | 8 => lookH hl8
  | 9 => lookH hl9
  | 10 => lookH hl10
  | 11 => lookH hl11
  | 12 => lookH hl12
  | 13 => lookH hl13
  | 14 => lookH hl14
  | 15 => lookH hl15
  | 16 => lookH hl16
  | 17 => lookH hl17
  | 18 => lookH hl18
  | 19 => lookH hl19
  | 20 => lookH hl20
  | 21 => lookH hl21
  | 22 => lookH hl22
  | 23 => lookH hl23
  | 24 => lookH hl24
  | 25 => lookH hl25
  | 26 => lookH hl26
  | 27 => lookH hl27
  | 28 => lookH hl28
  | 29 => lookH hl29
  | 30 => lookH hl30
  | 31 => lookH hl31
  | 32 => lookH hl32
  | 33 => lookH hl33
  | 34 => lookH hl34
  | 35 => lookH hl35
  | 36 => lookH hl36
  | 37 => lookH hl37
  | 38 => lookH hl38
  | 39 => lookH hl39
  | 40 => lookH hl40
  | 41 => lookH hl41
  | 42 => lookH hl42
  | 43 => lookH hl43
  | 44 => lookH hl44
  | 45 => lookH hl45
  | 46 => lookH hl46
  | 47 => lookH hl47
  | 48 => lookH hl48
  | 49 => lookH hl49
  | 50 => lookH hl50
  | 51 => lookH hl51
  | 52 => lookH hl52
  | 53 => lookH hl53
  | 54 => lookH hl54
  | 55 => lookH hl55
  | 56 => lookH hl56
  | 57 => lookH hl57
  | 58 => lookH hl58
  | 59 => lookH hl59
  | 60 => lookH hl60
  | 61 => lookH hl61
  | 62 => lookH hl62
  | 63 => lookH hl63
  | 64 => lookH hl64
  | 65 => lookH hl65
  | 66 => lookH hl66
  | 67 => lookH hl67
  | 68 => lookH hl68
  | 69 => lookH hl69
  | 70 => lookH hl70
  | 71 => lookH hl71
  | 72 => lookH hl72
  | 73 => lookH hl73
  | 74 => lookH hl74
  | 75 => lookH hl75
  | 76 => lookH hl76
  | 77 => lookH hl77
  | 78 => lookH hl78
  | 79 => lookH hl79
  | 80 => lookH hl80
  | 81 => lookH hl81
  | 82 => lookH hl82
  | 83 => lookH hl83
  | 84 => lookH hl84
  | 85 => lookH hl85
  | 88 => lookH hl88
  | 89 => lookH hl89
  | 90 => lookH hl90
  | 91 => lookH hl91
  | 92 => lookH hl92
  | 93 => lookH hl93
  | 94 => lookH hl94
  | 95 => lookH hl95
  | 96 => lookH hl96
  | 98 => lookH hl98
  | 99 => lookH hl99
  | 100 => lookH hl100
  | _ => fun _ => none
theorem prog_ok : progOk Try.prog hd = true := by kernel_rfl
theorem hv_3 : hv 3 = [2, 3, 5, 6, 7] := rfl
theorem hv_4 : hv 4 = [2, 3, 4, 5, 6, 7, 8] := rfl
theorem hv_5 : hv 5 = [0, 1, 3, 4, 5, 6] := rfl
theorem hv_6 : hv 6 = [2, 3, 4, 5, 8, 9] := rfl
theorem hv_7 : hv 7 = [2, 3, 4, 5] := rfl
theorem hv_8 : hv 8 = [4, 5, 6] := rfl
theorem hv_9 : hv 9 = [2, 3, 5, 6, 7, 8] := rfl
theorem hv_10 : hv 10 = [2, 3, 4, 5, 6] := rfl
theorem hv_11 : hv 11 = [2, 3, 4, 5, 6, 7, 8, 9, 10] := rfl
theorem hv_12 : hv 12 = [2, 3] := rfl
theorem hv_13 : hv 13 = [1, 2, 3, 5, 7, 8, 9] := rfl
theorem hv_14 : hv 14 = [1, 2] := rfl
theorem hv_15 : hv 15 = [2, 3] := rfl
theorem hv_16 : hv 16 = [3, 4, 5, 6, 7, 13, 26, 44] := rfl
theorem hv_17 : hv 17 = [4, 5, 7, 8, 10, 12, 39, 40, 41, 63, 64, 65] := rfl
theorem hv_18 : hv 18 = [2, 3, 4] := rfl
theorem hv_19 : hv 19 = [6, 7, 8, 9, 15, 16, 17] := rfl
theorem hv_20 : hv 20 = [2, 3, 4] := rfl
theorem hv_21 : hv 21 = [2, 3, 4] := rfl
theorem hv_22 : hv 22 = [6, 7, 8, 9, 15, 16, 17] := rfl
theorem hv_23 : hv 23 = [2, 3, 4] := rfl
theorem hv_24 : hv 24 = [6, 7, 8, 9, 15, 16, 17] := rfl
theorem hv_25 : hv 25 = [6, 7, 8, 9, 15, 16, 17] := rfl
theorem hv_26 : hv 26 = [4] := rfl
theorem hv_27 : hv 27 = [4, 5, 6] := rfl
theorem hv_28 : hv 28 = [4, 5, 6, 7, 8, 9, 10, 11] := rfl
theorem hv_29 : hv 29 = [4, 5] := rfl
theorem hv_30 : hv 30 = [] := rfl
theorem hv_31 : hv 31 = [2, 3, 4] := rfl
theorem hv_32 : hv 32 = [3] := rfl
theorem hv_33 : hv 33 = [2] := rfl
theorem hv_34 : hv 34 = [3, 4, 5, 6] := rfl
theorem hv_35 : hv 35 = [] := rfl
theorem hv_36 : hv 36 = [2, 3] := rfl
theorem hv_37 : hv 37 = [] := rfl
theorem hv_38 : hv 38 = [4, 5] := rfl
theorem hv_39 : hv 39 = [2, 3] := rfl
theorem hv_40 : hv 40 = [2, 3] := rfl
theorem hv_41 : hv 41 = [3, 4, 5] := rfl
theorem hv_42 : hv 42 = [] := rfl
theorem hv_43 : hv 43 = [4, 5] := rfl
theorem hv_44 : hv 44 = [2] := rfl
theorem hv_45 : hv 45 = [6, 7, 8, 9, 15, 16, 17] := rfl
theorem hv_46 : hv 46 = [2, 3, 4] := rfl
theorem hv_47 : hv 47 = [2] := rfl
theorem hv_48 : hv 48 = [2] := rfl
theorem hv_49 : hv 49 = [2, 3, 4] := rfl
theorem hv_50 : hv 50 = [0] := rfl
theorem hv_51 : hv 51 = [4, 5, 7, 8] := rfl
theorem hv_52 : hv 52 = [1, 2] := rfl
theorem hv_53 : hv 53 = [1] := rfl
theorem hv_54 : hv 54 = [2] := rfl
theorem hv_55 : hv 55 = [2, 3] := rfl
theorem hv_56 : hv 56 = [2, 4, 5, 7, 8, 9, 10] := rfl
theorem hv_57 : hv 57 = [4, 5, 6] := rfl
theorem hv_58 : hv 58 = [4] := rfl
theorem hv_59 : hv 59 = [4, 5, 7, 8] := rfl
theorem hv_60 : hv 60 = [2] := rfl
theorem hv_61 : hv 61 = [2] := rfl
theorem hv_62 : hv 62 = [2, 3, 4] := rfl
theorem hv_63 : hv 63 = [2] := rfl
theorem hv_64 : hv 64 = [2, 3, 4, 5, 6, 41, 42] := rfl
theorem hv_65 : hv 65 = [2, 3, 4] := rfl
theorem hv_66 : hv 66 = [4] := rfl
theorem hv_67 : hv 67 = [2] := rfl
theorem hv_68 : hv 68 = [] := rfl
theorem hv_69 : hv 69 = [4, 5] := rfl
theorem hv_70 : hv 70 = [2, 3, 4] := rfl
theorem hv_71 : hv 71 = [2, 3] := rfl
theorem hv_72 : hv 72 = [1, 2] := rfl
theorem hv_73 : hv 73 = [] := rfl
theorem hv_74 : hv 74 = [4] := rfl
theorem hv_75 : hv 75 = [0] := rfl
theorem hv_76 : hv 76 = [6, 7, 8] := rfl
theorem hv_77 : hv 77 = [2] := rfl
theorem hv_78 : hv 78 = [4] := rfl
theorem hv_79 : hv 79 = [4] := rfl
theorem hv_80 : hv 80 = [2] := rfl
theorem hv_81 : hv 81 = [2, 3, 4] := rfl
theorem hv_82 : hv 82 = [4, 5, 7, 8] := rfl
theorem hv_83 : hv 83 = [] := rfl
theorem hv_84 : hv 84 = [] := rfl
theorem hv_85 : hv 85 = [2, 3, 4] := rfl
theorem hv_88 : hv 88 = [1, 2, 3] := rfl
theorem hv_89 : hv 89 = [4] := rfl
theorem hv_90 : hv 90 = [3, 4] := rfl
theorem hv_91 : hv 91 = [2] := rfl
theorem hv_92 : hv 92 = [2] := rfl
theorem hv_93 : hv 93 = [4, 5, 6, 7, 8, 9, 10] := rfl
theorem hv_94 : hv 94 = [1, 2] := rfl
theorem hv_95 : hv 95 = [2] := rfl
theorem hv_96 : hv 96 = [2, 3] := rfl
theorem hv_98 : hv 98 = [] := rfl
theorem hv_99 : hv 99 = [1, 2] := rfl
theorem hv_100 : hv 100 = [] := rfl
theorem hf_3_0 : hf 3 0 = [] := rfl
theorem hf_8_0 : hf 8 0 = [6] := rfl
theorem hf_8_2 : hf 8 2 = [] := rfl
theorem hf_9_0 : hf 9 0 = [5] := rfl
theorem hf_11_0 : hf 11 0 = [7, 8, 9, 10] := rfl
theorem hf_13_0 : hf 13 0 = [5] := rfl
theorem hf_16_1 : hf 16 1 = [] := rfl
theorem hf_17_1 : hf 17 1 = [7] := rfl
theorem hf_17_3 : hf 17 3 = [10] := rfl
theorem hf_19_0 : hf 19 0 = [7, 8, 9] := rfl
theorem hf_22_0 : hf 22 0 = [7, 8, 9] := rfl
theorem hf_24_0 : hf 24 0 = [7, 8, 9] := rfl
theorem hf_25_0 : hf 25 0 = [7, 8, 9] := rfl
theorem hf_26_0 : hf 26 0 = [] := rfl
theorem hf_26_2 : hf 26 2 = [] := rfl
theorem hf_27_0 : hf 27 0 = [] := rfl
theorem hf_28_1 : hf 28 1 = [] := rfl
theorem hf_28_3 : hf 28 3 = [] := rfl
theorem hf_28_5 : hf 28 5 = [] := rfl
theorem hf_34_0 : hf 34 0 = [4, 5, 6] := rfl
theorem hf_35_0 : hf 35 0 = [] := rfl
theorem hf_37_0 : hf 37 0 = [] := rfl
theorem hf_39_0 : hf 39 0 = [] := rfl
theorem hf_40_0 : hf 40 0 = [] := rfl
theorem hf_41_0 : hf 41 0 = [] := rfl
theorem hf_45_0 : hf 45 0 = [7, 8, 9] := rfl
theorem hf_49_0 : hf 49 0 = [] := rfl
theorem hf_51_0 : hf 51 0 = [5] := rfl
theorem hf_56_0 : hf 56 0 = [7] := rfl
theorem hf_57_0 : hf 57 0 = [6] := rfl
theorem hf_59_0 : hf 59 0 = [5] := rfl
theorem hf_64_0 : hf 64 0 = [6] := rfl
theorem hf_76_0 : hf 76 0 = [8] := rfl
theorem hf_82_0 : hf 82 0 = [5] := rfl
theorem hf_84_0 : hf 84 0 = [] := rfl
theorem hf_88_0 : hf 88 0 = [3] := rfl
theorem hf_93_0 : hf 93 0 = [9, 10] := rfl
theorem hf_98_0 : hf 98 0 = [] := rfl
theorem hd_3 (i : Nat) : hd 3 i = lookH hl3 i := rfl
theorem hd_4 (i : Nat) : hd 4 i = lookH hl4 i := rfl
theorem hd_5 (i : Nat) : hd 5 i = lookH hl5 i := rfl
theorem hd_6 (i : Nat) : hd 6 i = lookH hl6 i := rfl
theorem hd_7 (i : Nat) : hd 7 i = lookH hl7 i := rfl
theorem hd_8 (i : Nat) : hd 8 i = lookH hl8 i := rfl
theorem hd_9 (i : Nat) : hd 9 i = lookH hl9 i := rfl
theorem hd_10 (i : Nat) : hd 10 i = lookH hl10 i := rfl
theorem hd_11 (i : Nat) : hd 11 i = lookH hl11 i := rfl
theorem hd_12 (i : Nat) : hd 12 i = lookH hl12 i := rfl
theorem hd_13 (i : Nat) : hd 13 i = lookH hl13 i := rfl
theorem hd_14 (i : Nat) : hd 14 i = lookH hl14 i := rfl
theorem hd_15 (i : Nat) : hd 15 i = lookH hl15 i := rfl
theorem hd_16 (i : Nat) : hd 16 i = lookH hl16 i := rfl
theorem hd_17 (i : Nat) : hd 17 i = lookH hl17 i := rfl
theorem hd_18 (i : Nat) : hd 18 i = lookH hl18 i := rfl
theorem hd_19 (i : Nat) : hd 19 i = lookH hl19 i := rfl
theorem hd_20 (i : Nat) : hd 20 i = lookH hl20 i := rfl
theorem hd_21 (i : Nat) : hd 21 i = lookH hl21 i := rfl
theorem hd_22 (i : Nat) : hd 22 i = lookH hl22 i := rfl
theorem hd_23 (i : Nat) : hd 23 i = lookH hl23 i := rfl
theorem hd_24 (i : Nat) : hd 24 i = lookH hl24 i := rfl
theorem hd_25 (i : Nat) : hd 25 i = lookH hl25 i := rfl
theorem hd_26 (i : Nat) : hd 26 i = lookH hl26 i := rfl
theorem hd_27 (i : Nat) : hd 27 i = lookH hl27 i := rfl
theorem hd_28 (i : Nat) : hd 28 i = lookH hl28 i := rfl
theorem hd_29 (i : Nat) : hd 29 i = lookH hl29 i := rfl
theorem hd_30 (i : Nat) : hd 30 i = lookH hl30 i := rfl
theorem hd_31 (i : Nat) : hd 31 i = lookH hl31 i := rfl
theorem hd_32 (i : Nat) : hd 32 i = lookH hl32 i := rfl
theorem hd_33 (i : Nat) : hd 33 i = lookH hl33 i := rfl
theorem hd_34 (i : Nat) : hd 34 i = lookH hl34 i := rfl
theorem hd_35 (i : Nat) : hd 35 i = lookH hl35 i := rfl
theorem hd_36 (i : Nat) : hd 36 i = lookH hl36 i := rfl
theorem hd_37 (i : Nat) : hd 37 i = lookH hl37 i := rfl
theorem hd_38 (i : Nat) : hd 38 i = lookH hl38 i := rfl
theorem hd_39 (i : Nat) : hd 39 i = lookH hl39 i := rfl
theorem hd_40 (i : Nat) : hd 40 i = lookH hl40 i := rfl
theorem hd_41 (i : Nat) : hd 41 i = lookH hl41 i := rfl
theorem hd_42 (i : Nat) : hd 42 i = lookH hl42 i := rfl
theorem hd_43 (i : Nat) : hd 43 i = lookH hl43 i := rfl
theorem hd_44 (i : Nat) : hd 44 i = lookH hl44 i := rfl
theorem hd_45 (i : Nat) : hd 45 i = lookH hl45 i := rfl
theorem hd_46 (i : Nat) : hd 46 i = lookH hl46 i := rfl
theorem hd_47 (i : Nat) : hd 47 i = lookH hl47 i := rfl
theorem hd_48 (i : Nat) : hd 48 i = lookH hl48 i := rfl
theorem hd_49 (i : Nat) : hd 49 i = lookH hl49 i := rfl
theorem hd_50 (i : Nat) : hd 50 i = lookH hl50 i := rfl
theorem hd_51 (i : Nat) : hd 51 i = lookH hl51 i := rfl
theorem hd_52 (i : Nat) : hd 52 i = lookH hl52 i := rfl
theorem hd_53 (i : Nat) : hd 53 i = lookH hl53 i := rfl
theorem hd_54 (i : Nat) : hd 54 i = lookH hl54 i := rfl
theorem hd_55 (i : Nat) : hd 55 i = lookH hl55 i := rfl
theorem hd_56 (i : Nat) : hd 56 i = lookH hl56 i := rfl
theorem hd_57 (i : Nat) : hd 57 i = lookH hl57 i := rfl
theorem hd_58 (i : Nat) : hd 58 i = lookH hl58 i := rfl
theorem hd_59 (i : Nat) : hd 59 i = lookH hl59 i := rfl
theorem hd_60 (i : Nat) : hd 60 i = lookH hl60 i := rfl
theorem hd_61 (i : Nat) : hd 61 i = lookH hl61 i := rfl
theorem hd_62 (i : Nat) : hd 62 i = lookH hl62 i := rfl
theorem hd_63 (i : Nat) : hd 63 i = lookH hl63 i := rfl
theorem hd_64 (i : Nat) : hd 64 i = lookH hl64 i := rfl
theorem hd_65 (i : Nat) : hd 65 i = lookH hl65 i := rfl
theorem hd_66 (i : Nat) : hd 66 i = lookH hl66 i := rfl
theorem hd_67 (i : Nat) : hd 67 i = lookH hl67 i := rfl
theorem hd_68 (i : Nat) : hd 68 i = lookH hl68 i := rfl
theorem hd_69 (i : Nat) : hd 69 i = lookH hl69 i := rfl
theorem hd_70 (i : Nat) : hd 70 i = lookH hl70 i := rfl
theorem hd_71 (i : Nat) : hd 71 i = lookH hl71 i := rfl
theorem hd_72 (i : Nat) : hd 72 i = lookH hl72 i := rfl
theorem hd_73 (i : Nat) : hd 73 i = lookH hl73 i := rfl
theorem hd_74 (i : Nat) : hd 74 i = lookH hl74 i := rfl
theorem hd_75 (i : Nat) : hd 75 i = lookH hl75 i := rfl
theorem hd_76 (i : Nat) : hd 76 i = lookH hl76 i := rfl
theorem hd_77 (i : Nat) : hd 77 i = lookH hl77 i := rfl
theorem hd_78 (i : Nat) : hd 78 i = lookH hl78 i := rfl
theorem hd_79 (i : Nat) : hd 79 i = lookH hl79 i := rfl
theorem hd_80 (i : Nat) : hd 80 i = lookH hl80 i := rfl
theorem hd_81 (i : Nat) : hd 81 i = lookH hl81 i := rfl
theorem hd_82 (i : Nat) : hd 82 i = lookH hl82 i := rfl
theorem hd_83 (i : Nat) : hd 83 i = lookH hl83 i := rfl
theorem hd_84 (i : Nat) : hd 84 i = lookH hl84 i := rfl
theorem hd_85 (i : Nat) : hd 85 i = lookH hl85 i := rfl
theorem hd_88 (i : Nat) : hd 88 i = lookH hl88 i := rfl
theorem hd_89 (i : Nat) : hd 89 i = lookH hl89 i := rfl
theorem hd_90 (i : Nat) : hd 90 i = lookH hl90 i := rfl
theorem hd_91 (i : Nat) : hd 91 i = lookH hl91 i := rfl
theorem hd_92 (i : Nat) : hd 92 i = lookH hl92 i := rfl
theorem hd_93 (i : Nat) : hd 93 i = lookH hl93 i := rfl
theorem hd_94 (i : Nat) : hd 94 i = lookH hl94 i := rfl
theorem hd_95 (i : Nat) : hd 95 i = lookH hl95 i := rfl
theorem hd_96 (i : Nat) : hd 96 i = lookH hl96 i := rfl
theorem hd_98 (i : Nat) : hd 98 i = lookH hl98 i := rfl
theorem hd_99 (i : Nat) : hd 99 i = lookH hl99 i := rfl
theorem hd_100 (i : Nat) : hd 100 i = lookH hl100 i := rfl
attribute [go_sem] hf_3_0 hf_8_0 hf_8_2 hf_9_0 hf_11_0 hf_13_0 hf_16_1 hf_17_1 hf_17_3 hf_19_0 hf_22_0 hf_24_0
attribute [go_sem] hf_25_0 hf_26_0 hf_26_2 hf_27_0 hf_28_1 hf_28_3 hf_28_5 hf_34_0 hf_35_0 hf_37_0 hf_39_0 hf_40_0
attribute [go_sem] hf_41_0 hf_45_0 hf_49_0 hf_51_0 hf_56_0 hf_57_0 hf_59_0 hf_64_0 hf_76_0 hf_82_0 hf_84_0 hf_88_0
attribute [go_sem] hf_93_0 hf_98_0 hd_3 hl3 hd_4 hl4 hd_5 hl5 hd_6 hl6 hd_7 hl7
attribute [go_sem] hd_8 hl8 hd_9 hl9 hd_10 hl10 hd_11 hl11 hd_12 hl12 hd_13 hl13
attribute [go_sem] hd_14 hl14 hd_15 hl15 hd_16 hl16 hd_17 hl17 hd_18 hl18 hd_19 hl19
attribute [go_sem] hd_20 hl20 hd_21 hl21 hd_22 hl22 hd_23 hl23 hd_24 hl24 hd_25 hl25
attribute [go_sem] hd_26 hl26 hd_27 hl27 hd_28 hl28 hd_29 hl29 hd_30 hl30 hd_31 hl31
attribute [go_sem] hd_32 hl32 hd_33 hl33 hd_34 hl34 hd_35 hl35 hd_36 hl36 hd_37 hl37
attribute [go_sem] hd_38 hl38 hd_39 hl39 hd_40 hl40 hd_41 hl41 hd_42 hl42 hd_43 hl43
attribute [go_sem] hd_44 hl44 hd_45 hl45 hd_46 hl46 hd_47 hl47 hd_48 hl48 hd_49 hl49
attribute [go_sem] hd_50 hl50 hd_51 hl51 hd_52 hl52 hd_53 hl53 hd_54 hl54 hd_55 hl55
attribute [go_sem] hd_56 hl56 hd_57 hl57 hd_58 hl58 hd_59 hl59 hd_60 hl60 hd_61 hl61
attribute [go_sem] hd_62 hl62 hd_63 hl63 hd_64 hl64 hd_65 hl65 hd_66 hl66 hd_67 hl67
attribute [go_sem] hd_68 hl68 hd_69 hl69 hd_70 hl70 hd_71 hl71 hd_72 hl72 hd_73 hl73
attribute [go_sem] hd_74 hl74 hd_75 hl75 hd_76 hl76 hd_77 hl77 hd_78 hl78 hd_79 hl79
attribute [go_sem] hd_80 hl80 hd_81 hl81 hd_82 hl82 hd_83 hl83 hd_84 hl84 hd_85 hl85
attribute [go_sem] hd_88 hl88 hd_89 hl89 hd_90 hl90 hd_91 hl91 hd_92 hl92 hd_93 hl93
attribute [go_sem] hd_94 hl94 hd_95 hl95 hd_96 hl96 hd_98 hl98 hd_99 hl99 hd_100 hl100
/-- Functions that are known otherwise. -/
def isExt : Nat → Bool
  | 29 => true
  | 78 => true
  | 17 => true
  | _ => false
/-- The program, with functions that are known otherwise. -/
noncomputable def G (ext : Sem') : Sem' := callA Try.prog ext hd hv hf
def Clear (ext : Sem') : Prop := ∀ (f : Nat) (xs : List AV) (H : List AObj), isExt f = false → ext f xs H = none
theorem G_ok {ext : Sem'} (h : Sound Try.prog ext) : Sound Try.prog (G ext) := callA_ok h prog_ok
theorem G_ext {ext : Sem'} {f : Nat} {xs : List AV} {H : List AObj} {r : Out × List AObj} (h : ext f xs H = some r) : G ext f xs H = some r := callA_ext h
theorem G_body {ext : Sem'} (hx : Clear ext) {f : Nat} {F : Func} {c : Code} {xs : List AV} {H : List AObj} {rs : List ResultVar} {V : List Nat} (he : isExt f = false) (h : Try.prog.funcs[f]? = some F) (hb : F.body = some c) (hr : F.results = ⟨rs⟩) (hV : hv f = V) (hl : Nat.ble xs.length F.ntmps = true) :
    G ext f xs H = finish Try.prog rs H.length (evC Try.prog (G ext) (hd f) (hf f) 0 c (.go (Go.Ab.start xs V H))) :=
  callA_body (hx f xs H he) h hb hr hV (Nat.le_of_ble_eq_true hl)
/-- A closed run: loops k rounds, calls n deep. -/
theorem G_run {ext : Sem'} (hx : Clear ext) {f : Nat} {xs : List AV} {H : List AObj} {r : Out × List AObj} (k n : Nat) (h : callF Try.prog isExt hd hv hf k n f xs H = some r) : G ext f xs H = some r := callF_ok hx n f xs H r h
/-- A closed run where some calls' answers are known. -/
theorem G_runT {ext : Sem'} (hx : Clear ext) {f : Nat} {xs : List AV} {H : List AObj} {r : Out × List AObj} (tbl : List Fact) (ht : ∀ x, x ∈ tbl → G ext x.f x.as x.H = some x.r) (k n : Nat) (h : callT Try.prog isExt hd hv hf tbl k n f xs H = some r) : G ext f xs H = some r := callT_ok hx ht n f xs H r h
end Go.Proofs.Ytlcbnlfbbjmpbaa
