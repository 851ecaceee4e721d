/- Hints for the abstract evaluator, and the program's functions read as their bodies. Conditions: none. -/
import Derived.Test.YtibkpedaplbbpaaGreatAbX4
import Derived.Test.YtibkpedaplbbpaaGreatTy
import Derived.Test.YtibkpedaplbbpaaGreatProg
namespace Go.Proofs.YtibkpedaplbbpaaGreat
open Go Go.Ab
def hv : Nat → List Nat
  | 3 => [8, 9, 10, 11, 12]
  | 4 => [0, 1, 3]
  | 5 => [6, 7, 8]
  | 6 => [6, 7, 8]
  | 7 => [2]
  | 8 => [2, 3]
  | 9 => [2, 3, 4, 5]
  | 10 => [4, 8, 9, 10, 11]
  | 11 => [2]
  | 12 => [6, 7]
  | 13 => [2, 3]
  | 14 => [2, 3, 4, 5]
  | 15 => [1, 2, 3, 4, 5, 6, 7, 8, 9]
  | 16 => [3, 6, 7, 8, 9]
  | 17 => [2, 3, 4, 5, 6, 55]
  | 18 => [2, 4, 19, 20, 21]
  | 19 => [2, 3, 4, 5, 6, 7, 8, 9, 10]
  | 20 => [2, 3, 4, 5]
  | 21 => [1, 2, 3, 4, 5, 6, 7]
  | 22 => [3, 4]
  | 23 => [4, 5]
  | 24 => [1, 2, 3, 4, 6, 7, 26, 32, 33, 34]
  | 25 => [2]
  | 26 => [8, 9]
  | 27 => [2, 3, 4]
  | 28 => [4, 6, 7, 8, 10]
  | 29 => [4, 6, 7, 9, 17, 47]
  | 30 => [4, 6, 8, 10, 11, 12]
  | 31 => [3, 4]
  | 32 => [4]
  | 33 => [4, 5, 6]
  | 34 => [4, 5, 6, 7, 8, 9, 10, 11]
  | 35 => [2, 3]
  | 36 => [2]
  | 37 => [2]
  | 38 => [4, 5]
  | 39 => [2, 3, 4]
  | 40 => [2, 3, 4]
  | 41 => [2, 3, 4, 5, 6]
  | 42 => [7, 8]
  | 43 => [2, 4, 5]
  | 44 => [2]
  | 45 => [3, 4, 6]
  | 46 => [3, 4, 5, 6, 7, 8, 9, 23]
  | 47 => [1, 2, 3, 4, 6, 7, 9, 11, 13, 14, 15, 20, 21, 22, 41, 42, 43]
  | 48 => [1, 2]
  | 49 => [2, 3, 4]
  | 50 => [1, 2, 3, 4, 6, 7, 45, 46, 47]
  | 51 => [4]
  | 52 => [4, 5, 7, 8]
  | 53 => [2, 3]
  | 54 => [2, 3]
  | 55 => [4, 5, 6]
  | 56 => [1, 2]
  | 57 => [2, 4]
  | 58 => [2]
  | 59 => [2]
  | 60 => [2, 3, 4]
  | 61 => [0]
  | 62 => []
  | 63 => [2, 3, 4]
  | 64 => [2, 3]
  | 65 => [4, 5]
  | 66 => [2]
  | 67 => [2, 4, 5]
  | 68 => [3, 4]
  | 69 => [4, 5, 6]
  | 70 => [4, 5]
  | 71 => [2, 3]
  | 72 => [5, 6, 8, 9, 10, 11, 12, 13, 14, 15, 17, 18, 19, 20, 21, 22, 23, 24, 25, 28]
  | 73 => [4, 5]
  | 74 => [4]
  | 75 => [3, 4, 5, 6, 8, 9]
  | 76 => [3, 4, 5, 6]
  | 77 => [3, 4, 5, 6, 7, 8]
  | 78 => [3, 4]
  | 79 => [2, 3, 5, 7, 8, 9]
  | 80 => [4, 6, 8, 10, 12, 13, 14, 19, 20, 21, 33, 34, 35, 46, 47, 48]
  | 81 => [2, 3, 4]
  | 82 => [2, 3, 4, 5, 6, 7, 29]
  | 83 => [0]
  | 84 => [5]
  | 85 => [4]
  | 86 => [4, 5, 6]
  | 87 => [3, 4, 6, 7, 8, 9, 10, 12, 13, 14, 15, 19, 160]
  | 88 => [1, 2]
  | 89 => [5, 6]
  | 90 => [3, 6, 7, 8, 9, 10, 11]
  | 91 => [4, 6, 7, 8, 9, 10, 11, 12, 13]
  | 92 => [4, 6, 7, 8]
  | 93 => [5, 6, 8, 9]
  | 94 => [2]
  | 95 => [4, 5, 7, 8]
  | 96 => [2, 3]
  | 97 => [2, 3]
  | 98 => [1, 2, 4, 5, 1000000]
  | 99 => [1, 2, 3, 4]
  | 100 => [2, 4]
  | 101 => [2, 3, 4, 5, 6, 7, 42, 43, 44]
  | 102 => [2, 4]
  | 103 => [2, 4]
  | 104 => [2, 4]
  | 105 => [2, 3, 4, 5, 9, 10, 104, 115]
  | 106 => [4, 5]
  | 107 => [4, 6, 7, 18, 19]
  | 108 => [2]
  | 109 => [4]
  | 110 => [4, 6, 7, 8, 9, 10, 11, 13]
  | 111 => [3, 4, 5, 6, 7, 8, 10, 11, 12, 13, 14, 15, 21]
  | 112 => [2, 3, 4]
  | 113 => [1, 2]
  | 114 => [3, 4, 5, 6, 7, 9, 10]
  | 115 => [3, 4, 5]
  | 116 => [2, 3, 4, 5, 6, 12, 20, 23]
  | 117 => [4]
  | 118 => [3]
  | 119 => [3]
  | 120 => [6]
  | 121 => [4, 5, 8, 9, 10]
  | 122 => [6, 7, 8, 9, 10]
  | 123 => [3, 4]
  | 124 => [4, 5]
  | 125 => [3, 4, 5, 6, 7, 8]
  | 126 => [4, 5, 7, 8]
  | 127 => [4]
  | 128 => [3, 6, 7, 8, 9]
  | 129 => [4, 5, 6, 7, 8, 9]
  | 130 => [1, 2, 3, 4]
  | 131 => [4, 5, 7, 8]
  | 132 => [4, 5, 6]
  | _ => []
def hf10 : Nat → List Nat
  | _ => []
def hf15 : Nat → List Nat
  | 0 => [7, 8, 9]
  | _ => []
def hf18 : Nat → List Nat
  | 0 => [4]
  | _ => []
def hf19 : Nat → List Nat
  | 0 => [7, 8, 9, 10]
  | _ => []
def hf20 : Nat → List Nat
  | _ => []
def hf21 : Nat → List Nat
  | _ => []
def hf23 : Nat → List Nat
  | _ => []
def hf24 : Nat → List Nat
  | 3 => [6]
  | _ => []
def hf30 : Nat → List Nat
  | 0 => [8]
  | _ => []
def hf32 : Nat → List Nat
  | _ => []
def hf33 : Nat → List Nat
  | _ => []
def hf34 : Nat → List Nat
  | _ => []
def hf35 : Nat → List Nat
  | _ => []
def hf39 : Nat → List Nat
  | 0 => [4]
  | _ => []
def hf40 : Nat → List Nat
  | 0 => [4]
  | _ => []
def hf41 : Nat → List Nat
  | 0 => [4, 5, 6]
  | 2 => [5, 6]
  | _ => []
def hf43 : Nat → List Nat
  | _ => []
def hf45 : Nat → List Nat
  | 0 => [6]
  | _ => []
def hf47 : Nat → List Nat
  | 0 => [6, 7, 9, 20, 21, 22]
  | 2 => [9]
  | 4 => [11]
  | _ => []
def hf50 : Nat → List Nat
  | 1 => [6, 7]
  | _ => []
def hf52 : Nat → List Nat
  | 0 => [5]
  | _ => []
def hf60 : Nat → List Nat
  | _ => []
def hf65 : Nat → List Nat
  | _ => []
def hf67 : Nat → List Nat
  | _ => []
def hf69 : Nat → List Nat
  | _ => []
def hf70 : Nat → List Nat
  | _ => []
def hf71 : Nat → List Nat
  | _ => []
def hf72 : Nat → List Nat
  | _ => []
def hf73 : Nat → List Nat
  | _ => []
def hf77 : Nat → List Nat
  | _ => []
def hf79 : Nat → List Nat
  | 0 => [5]
  | _ => []
def hf80 : Nat → List Nat
  | 0 => [4, 6, 19, 20, 21]
  | 2 => [6]
  | 4 => [8, 10, 46, 47, 48]
  | 6 => [10]
  | _ => []
def hf90 : Nat → List Nat
  | _ => []
def hf95 : Nat → List Nat
  | 0 => [5]
  | _ => []
def hf101 : Nat → List Nat
  | 0 => [6, 7]
  | _ => []
def hf106 : Nat → List Nat
  | _ => []
def hf110 : Nat → List Nat
  | 0 => [10, 11]
  | _ => []
def hf122 : Nat → List Nat
  | 0 => [9, 10]
  | _ => []
def hf124 : Nat → List Nat
  | _ => []
def hf125 : Nat → List Nat
  | 0 => [8]
  | _ => []
def hf126 : Nat → List Nat
  | 0 => [5]
  | _ => []
def hf129 : Nat → List Nat
  | 0 => [8, 9]
  | _ => []
def hf130 : Nat → List Nat
  | _ => []
def hf131 : Nat → List Nat
  | 0 => [5]
  | _ => []
def hf : Nat → Nat → List Nat
  | 10 => hf10
  | 15 => hf15
  | 18 => hf18
  | 19 => hf19
  | 20 => hf20
  | 21 => hf21
  | 23 => hf23
  | 24 => hf24
  | 30 => hf30
  | 32 => hf32
  | 33 => hf33
  | 34 => hf34
  | 35 => hf35
  | 39 => hf39
  | 40 => hf40
  | 41 => hf41
  | 43 => hf43
  | 45 => hf45
  | 47 => hf47
  | 50 => hf50
  | 52 => hf52
  | 60 => hf60
  | 65 => hf65
  | 67 => hf67
  | 69 => hf69
  | 70 => hf70
  | 71 => hf71
  | 72 => hf72
  | 73 => hf73
  | 77 => hf77
  | 79 => hf79
  | 80 => hf80
  | 90 => hf90
  | 95 => hf95
  | 101 => hf101
  | 106 => hf106
  | 110 => hf110
  | 122 => hf122
  | 124 => hf124
  | 125 => hf125
  | 126 => hf126
  | 129 => hf129
  | 130 => hf130
  | 131 => hf131
  | _ => fun _ => []
def hl3 : List (Nat × List Ht) := []
def hl4 : List (Nat × List Ht) := [(1, [⟨[], [], false, [(1, (0, 4)), (1, (1, 8))]⟩]), (2, [⟨[], [], false, [(3, (2, 1))]⟩])]
def hl5 : List (Nat × List Ht) := []
def hl6 : List (Nat × List Ht) := []
def hl7 : List (Nat × List Ht) := []
def hl8 : List (Nat × List Ht) := []
def hl9 : List (Nat × List Ht) := [(0, [⟨[], [], false, [(2, (0, 4)), (2, (1, 8))]⟩]), (1, [⟨[], [], false, [(4, (0, 4)), (4, (1, 7))]⟩]), (3, [⟨[], [], false, []⟩, ⟨[], [], true, []⟩, ⟨[], [1], false, []⟩, ⟨[], [], false, []⟩])]
def hl10 : List (Nat × List Ht) := [(0, [⟨[], [], false, [(4, (0, 4)), (4, (1, 8)), (8, (2, 1))]⟩])]
def hl11 : List (Nat × List Ht) := []
def hl12 : List (Nat × List Ht) := []
def hl13 : List (Nat × List Ht) := []
def hl14 : List (Nat × List Ht) := [(0, [⟨[], [], false, [(2, (0, 4)), (2, (1, 7))]⟩]), (3, [⟨[], [], false, []⟩, ⟨[], [], true, []⟩, ⟨[], [1], false, []⟩, ⟨[], [], false, []⟩])]
def hl15 : List (Nat × List Ht) := [(0, [⟨[], [], false, [(1, (0, 4)), (1, (1, 7)), (2, (0, 4)), (2, (1, 8))]⟩]), (3, [⟨[], [], false, []⟩, ⟨[], [], true, []⟩, ⟨[], [1], false, []⟩, ⟨[], [], false, []⟩]), (4, [⟨[], [], false, [(5, (0, 4)), (5, (1, 8))]⟩]), (8, [⟨[], [], false, [(7, (1, 5)), (7, (4, 9))]⟩]), (9, [⟨[], [], false, [(45, (0, 4)), (45, (1, 7)), (45, (6, 3)), (45, (10, 1)), (45, (11, 13)), (45, (12, 1)), (45, (13, 1)), (45, (18, 1)), (45, (19, 1))]⟩]), (13, []), (14, [⟨[], [], false, []⟩, ⟨[], [], false, []⟩, ⟨[], [], false, []⟩, ⟨[], [], false, []⟩, ⟨[], [], true, []⟩, ⟨[], [], false, []⟩, ⟨[], [], false, []⟩, ⟨[], [], false, []⟩, ⟨[], [], false, []⟩, ⟨[], [], false, []⟩, ⟨[], [], false, []⟩, ⟨[], [], false, []⟩, ⟨[], [4], false, []⟩, ⟨[], [], false, []⟩, ⟨[], [], false, []⟩, ⟨[], [], false, []⟩, ⟨[], [], false, []⟩, ⟨[], [], false, []⟩]), (17, [⟨[], [], false, []⟩, ⟨[], [], false, []⟩, ⟨[], [], false, []⟩, ⟨[], [], false, []⟩, ⟨[], [], true, []⟩, ⟨[], [4], false, []⟩, ⟨[], [], false, []⟩]), (19, [⟨[], [], false, []⟩, ⟨[], [], false, []⟩, ⟨[], [], true, []⟩, ⟨[], [], false, []⟩, ⟨[], [2], false, []⟩, ⟨[], [], false, []⟩]), (20, [])]
def hl16 : List (Nat × List Ht) := [(0, [⟨[], [], false, [(3, (0, 4)), (3, (1, 8))]⟩]), (4, [⟨[], [], true, [(23, (0, 4)), (23, (1, 8)), (23, (2, 1)), (23, (3, 1)), (23, (5, 1)), (23, (9, 1))]⟩, ⟨[], [], false, []⟩, ⟨[], [0], false, []⟩, ⟨[], [], false, []⟩, ⟨[], [], false, []⟩, ⟨[], [0], false, []⟩, ⟨[], [], false, []⟩, ⟨[], [], false, []⟩, ⟨[], [], false, []⟩, ⟨[], [], false, []⟩])]
def hl17 : List (Nat × List Ht) := [(5, [⟨[], [], false, [(6, (7, 1)), (6, (8, 1))]⟩]), (9, []), (15, []), (18, []), (20, [])]
def hl18 : List (Nat × List Ht) := [(0, [⟨[], [], false, [(2, (2, 1))]⟩])]
def hl19 : List (Nat × List Ht) := [(9, [])]
def hl20 : List (Nat × List Ht) := [(0, [⟨[], [], false, [(2, (0, 4)), (2, (1, 7))]⟩]), (3, [⟨[], [], false, [(13, (0, 5))]⟩]), (4, [⟨[], [], false, [(5, (0, 4)), (5, (1, 7))]⟩]), (7, [⟨[], [], false, []⟩, ⟨[], [], true, []⟩, ⟨[], [], false, []⟩, ⟨[], [1], false, []⟩, ⟨[], [], false, []⟩, ⟨[], [], false, []⟩, ⟨[], [], false, []⟩, ⟨[], [], false, []⟩]), (8, [⟨[], [], false, []⟩, ⟨[], [], true, []⟩, ⟨[], [], false, []⟩, ⟨[], [1], false, []⟩, ⟨[], [], false, []⟩, ⟨[], [], false, []⟩, ⟨[], [], false, []⟩, ⟨[], [], false, []⟩]), (10, [⟨[], [], false, []⟩, ⟨[], [], false, []⟩, ⟨[], [], false, []⟩, ⟨[], [], false, []⟩, ⟨[], [], true, []⟩, ⟨[], [4], false, []⟩, ⟨[], [], false, []⟩])]
def hl21 : List (Nat × List Ht) := [(0, [⟨[], [], false, [(1, (0, 4)), (1, (1, 7))]⟩]), (1, [⟨[], [], false, [(10, (0, 4)), (10, (1, 7)), (10, (3, 5)), (10, (6, 9)), (10, (9, 5))]⟩]), (10, [⟨[], [], false, []⟩, ⟨[], [], false, []⟩, ⟨[], [], false, []⟩, ⟨[], [], false, []⟩, ⟨[], [], false, []⟩, ⟨[], [], false, []⟩, ⟨[], [], false, []⟩, ⟨[], [], false, []⟩, ⟨[], [], true, []⟩, ⟨[], [], false, []⟩, ⟨[], [], false, []⟩, ⟨[], [], false, []⟩, ⟨[], [8], false, []⟩, ⟨[], [], false, []⟩, ⟨[], [], false, []⟩, ⟨[], [], false, []⟩, ⟨[], [8], false, []⟩, ⟨[], [], false, []⟩])]
def hl22 : List (Nat × List Ht) := [(1, [])]
def hl23 : List (Nat × List Ht) := []
def hl24 : List (Nat × List Ht) := [(0, [⟨[], [], false, [(1, (0, 4)), (1, (1, 8))]⟩]), (1, [⟨[], [], false, [(3, (0, 4)), (3, (1, 8)), (3, (4, 3)), (3, (8, 1)), (3, (9, 13))]⟩]), (12, [⟨[], [], false, [(6, (2, 3)), (6, (6, 1)), (6, (7, 13))]⟩])]
def hl25 : List (Nat × List Ht) := []
def hl26 : List (Nat × List Ht) := [(1, [⟨[], [], false, [(30, (2, 2))]⟩, ⟨[], [], false, []⟩, ⟨[], [], false, []⟩, ⟨[], [], false, []⟩, ⟨[], [], false, []⟩, ⟨[], [], false, []⟩, ⟨[], [], false, []⟩, ⟨[], [], false, []⟩, ⟨[], [], false, []⟩, ⟨[], [], false, []⟩, ⟨[0], [], false, []⟩, ⟨[], [], false, []⟩, ⟨[], [], false, []⟩, ⟨[], [], false, []⟩, ⟨[], [], false, []⟩]), (3, [⟨[], [], false, [(9, (2, 2000))]⟩])]
def hl27 : List (Nat × List Ht) := [(0, [⟨[], [], false, [(2, (0, 4)), (2, (1, 8))]⟩])]
def hl28 : List (Nat × List Ht) := [(0, [⟨[], [], false, [(4, (7, 1)), (4, (8, 1))]⟩]), (3, [⟨[], [], false, []⟩, ⟨[], [], false, []⟩, ⟨[], [], true, []⟩, ⟨[], [], false, []⟩, ⟨[], [], false, []⟩, ⟨[], [2], false, []⟩, ⟨[], [], false, []⟩, ⟨[], [], false, []⟩, ⟨[], [], false, []⟩]), (5, []), (9, [⟨[], [], false, []⟩, ⟨[], [], false, []⟩, ⟨[], [], true, []⟩, ⟨[], [], false, []⟩, ⟨[], [2], false, []⟩, ⟨[], [], false, []⟩, ⟨[], [], false, []⟩]), (11, []), (13, [⟨[], [], false, []⟩, ⟨[], [], false, []⟩, ⟨[], [], true, []⟩, ⟨[], [], false, []⟩, ⟨[], [], false, []⟩, ⟨[], [], false, []⟩, ⟨[], [], false, []⟩, ⟨[], [], false, []⟩, ⟨[], [], false, []⟩, ⟨[], [], false, []⟩, ⟨[], [], false, []⟩, ⟨[], [], false, []⟩, ⟨[], [], false, []⟩, ⟨[], [], false, []⟩, ⟨[], [2], false, []⟩, ⟨[], [], false, []⟩, ⟨[], [], false, []⟩, ⟨[], [], false, []⟩])]
def hl29 : List (Nat × List Ht) := [(0, [⟨[], [], false, [(4, (7, 1)), (4, (8, 1))]⟩]), (6, []), (8, [⟨[], [], false, []⟩, ⟨[], [], false, []⟩, ⟨[], [], true, []⟩, ⟨[], [], false, []⟩, ⟨[], [], false, []⟩, ⟨[], [], false, []⟩, ⟨[], [2], false, []⟩, ⟨[], [], false, []⟩, ⟨[], [], false, []⟩]), (15, []), (19, [])]
def hl30 : List (Nat × List Ht) := [(0, [⟨[], [], false, [(4, (7, 1)), (4, (8, 1))]⟩])]
def hl31 : List (Nat × List Ht) := [(4, [⟨[], [], false, []⟩, ⟨[], [], false, []⟩, ⟨[], [], false, []⟩, ⟨[], [], true, []⟩, ⟨[], [], false, []⟩, ⟨[], [], false, []⟩, ⟨[], [], false, []⟩, ⟨[], [3], false, []⟩, ⟨[], [], false, []⟩, ⟨[], [], false, []⟩, ⟨[], [], false, []⟩, ⟨[], [], false, []⟩]), (5, [])]
def hl32 : List (Nat × List Ht) := []
def hl33 : List (Nat × List Ht) := []
def hl34 : List (Nat × List Ht) := [(26, [])]
def hl35 : List (Nat × List Ht) := []
def hl36 : List (Nat × List Ht) := [(1, [])]
def hl37 : List (Nat × List Ht) := []
def hl38 : List (Nat × List Ht) := []
def hl39 : List (Nat × List Ht) := [(0, [⟨[], [], false, [(2, (1, 5))]⟩]), (1, [⟨[], [], false, [(3, (1, 5))]⟩])]
def hl40 : List (Nat × List Ht) := [(0, [⟨[], [], false, [(2, (1, 5)), (2, (4, 9))]⟩]), (1, [⟨[], [], false, [(3, (1, 5)), (3, (4, 9))]⟩])]
def hl41 : List (Nat × List Ht) := [(5, [⟨[], [], false, []⟩, ⟨[], [], false, []⟩, ⟨[], [], false, []⟩, ⟨[], [], false, []⟩, ⟨[], [], false, []⟩, ⟨[], [], false, []⟩, ⟨[], [], false, []⟩, ⟨[], [], false, []⟩, ⟨[], [], false, []⟩, ⟨[], [], false, []⟩, ⟨[], [], true, []⟩, ⟨[], [], false, []⟩, ⟨[], [], false, []⟩, ⟨[], [], false, []⟩, ⟨[], [], false, []⟩, ⟨[], [], false, []⟩, ⟨[], [], false, []⟩, ⟨[], [10], false, []⟩, ⟨[], [], false, []⟩]), (13, []), (14, [⟨[], [], false, []⟩, ⟨[], [], false, []⟩, ⟨[], [], false, []⟩, ⟨[], [], false, []⟩, ⟨[], [], true, []⟩, ⟨[], [], false, []⟩, ⟨[], [4], false, []⟩, ⟨[], [], false, []⟩])]
def hl42 : List (Nat × List Ht) := []
def hl43 : List (Nat × List Ht) := [(0, [⟨[], [], false, [(2, (0, 4)), (2, (1, 7))]⟩])]
def hl44 : List (Nat × List Ht) := []
def hl45 : List (Nat × List Ht) := [(0, [⟨[], [], false, [(3, (1, 5)), (3, (4, 9))]⟩]), (6, [⟨[], [], false, []⟩, ⟨[], [], false, []⟩, ⟨[], [], false, []⟩, ⟨[], [], false, []⟩, ⟨[], [], false, []⟩, ⟨[], [], false, []⟩, ⟨[], [], false, []⟩, ⟨[], [], false, []⟩, ⟨[], [], true, []⟩, ⟨[], [], false, []⟩, ⟨[], [8], false, []⟩, ⟨[], [], false, []⟩, ⟨[], [], false, []⟩, ⟨[], [], false, []⟩, ⟨[], [8], false, []⟩, ⟨[], [], false, []⟩]), (9, []), (10, [⟨[], [], false, []⟩, ⟨[], [], false, []⟩, ⟨[], [], false, []⟩, ⟨[], [], false, []⟩, ⟨[], [], true, []⟩, ⟨[], [], false, []⟩, ⟨[], [4], false, []⟩, ⟨[], [], false, []⟩]), (12, [⟨[], [], false, []⟩, ⟨[], [], false, []⟩, ⟨[], [], false, []⟩, ⟨[], [], true, []⟩, ⟨[], [], false, []⟩, ⟨[], [3], false, []⟩, ⟨[], [], false, []⟩])]
def hl46 : List (Nat × List Ht) := [(0, [⟨[], [], false, [(3, (4, 7)), (3, (5, 9)), (3, (6, 9))]⟩]), (6, []), (7, []), (8, []), (11, [⟨[], [], false, []⟩, ⟨[], [], false, []⟩, ⟨[], [], true, []⟩, ⟨[], [], false, []⟩, ⟨[], [], true, []⟩, ⟨[], [], false, []⟩, ⟨[], [], false, []⟩, ⟨[], [2, 4], false, []⟩, ⟨[], [], false, []⟩, ⟨[], [], false, []⟩]), (20, [⟨[], [], false, []⟩, ⟨[], [], false, []⟩, ⟨[], [], false, []⟩, ⟨[], [], true, []⟩, ⟨[], [], false, []⟩, ⟨[], [], false, []⟩, ⟨[], [], false, []⟩, ⟨[], [], false, []⟩, ⟨[], [], false, []⟩, ⟨[], [], false, []⟩, ⟨[], [], false, []⟩, ⟨[], [], false, []⟩, ⟨[], [], false, []⟩, ⟨[], [], false, []⟩, ⟨[], [3], false, []⟩, ⟨[], [], false, []⟩, ⟨[], [], false, []⟩]), (22, []), (24, []), (27, [⟨[], [], false, []⟩, ⟨[], [], false, []⟩, ⟨[], [], false, []⟩, ⟨[], [], false, []⟩, ⟨[], [], true, []⟩, ⟨[], [], false, []⟩, ⟨[], [4], false, []⟩, ⟨[], [], false, []⟩, ⟨[], [], false, []⟩])]
def hl47 : List (Nat × List Ht) := [(0, [⟨[], [], false, [(1, (0, 4)), (1, (1, 8))]⟩]), (4, [⟨[], [], false, [(6, (1, 5))]⟩]), (17, [⟨[], [], false, [(11, (2, 3)), (11, (6, 1)), (11, (7, 13))]⟩])]
def hl48 : List (Nat × List Ht) := [(0, [⟨[], [], false, [(1, (0, 4)), (1, (1, 8))]⟩])]
def hl49 : List (Nat × List Ht) := [(0, [⟨[], [], false, [(2, (0, 4)), (2, (1, 8)), (2, (4, 3)), (2, (8, 1)), (2, (9, 13))]⟩])]
def hl50 : List (Nat × List Ht) := [(0, [⟨[], [], false, [(1, (0, 4)), (1, (1, 8)), (1, (4, 3)), (1, (8, 1)), (1, (9, 13))]⟩]), (9, [⟨[], [], false, [(6, (7, 1)), (6, (8, 1))]⟩])]
def hl51 : List (Nat × List Ht) := []
def hl52 : List (Nat × List Ht) := []
def hl53 : List (Nat × List Ht) := [(0, [⟨[], [], false, [(2, (2, 3)), (2, (6, 1)), (2, (7, 13))]⟩])]
def hl54 : List (Nat × List Ht) := []
def hl55 : List (Nat × List Ht) := [(5, [⟨[], [], false, [(47, (1, 2))]⟩])]
def hl56 : List (Nat × List Ht) := []
def hl57 : List (Nat × List Ht) := []
def hl58 : List (Nat × List Ht) := []
def hl59 : List (Nat × List Ht) := []
def hl60 : List (Nat × List Ht) := []
def hl61 : List (Nat × List Ht) := [(1, [⟨[], [], false, [(0, (0, 1))]⟩])]
def hl62 : List (Nat × List Ht) := []
def hl63 : List (Nat × List Ht) := [(4, []), (6, [])]
def hl64 : List (Nat × List Ht) := []
def hl65 : List (Nat × List Ht) := []
def hl66 : List (Nat × List Ht) := []
def hl67 : List (Nat × List Ht) := [(0, [⟨[], [], false, [(2, (0, 4)), (2, (1, 7))]⟩])]
def hl68 : List (Nat × List Ht) := [(1, [])]
def hl69 : List (Nat × List Ht) := []
def hl70 : List (Nat × List Ht) := [(4, [⟨[], [], false, []⟩, ⟨[], [], false, []⟩, ⟨[], [], false, []⟩, ⟨[], [], false, []⟩, ⟨[], [], true, []⟩, ⟨[], [], false, []⟩, ⟨[], [], false, []⟩, ⟨[], [], false, []⟩, ⟨[], [], false, []⟩, ⟨[], [], false, []⟩, ⟨[], [4], false, []⟩, ⟨[], [], false, []⟩])]
def hl71 : List (Nat × List Ht) := []
def hl72 : List (Nat × List Ht) := [(0, [⟨[], [], false, [(5, (4, 7))]⟩]), (17, []), (18, [⟨[], [], false, []⟩, ⟨[], [], false, []⟩, ⟨[], [], false, []⟩, ⟨[], [], true, []⟩, ⟨[], [], false, []⟩, ⟨[], [], false, []⟩, ⟨[], [3], true, []⟩, ⟨[], [], false, []⟩, ⟨[], [], false, []⟩, ⟨[], [6], false, []⟩, ⟨[], [], false, []⟩, ⟨[], [], false, []⟩, ⟨[], [], false, []⟩, ⟨[], [], false, []⟩, ⟨[], [], false, []⟩, ⟨[], [], false, []⟩, ⟨[], [], false, []⟩, ⟨[], [], false, []⟩, ⟨[], [], false, []⟩]), (33, [⟨[], [], false, []⟩, ⟨[], [], false, []⟩, ⟨[], [], false, []⟩, ⟨[], [], false, []⟩, ⟨[], [], false, []⟩, ⟨[], [], false, []⟩, ⟨[], [], false, []⟩, ⟨[], [], false, []⟩, ⟨[], [], true, []⟩, ⟨[], [], false, []⟩, ⟨[], [8], false, []⟩, ⟨[], [], false, []⟩, ⟨[], [], false, []⟩]), (39, []), (40, [⟨[], [], false, [(22, (1, 5)), (22, (4, 9))]⟩]), (45, [])]
def hl73 : List (Nat × List Ht) := []
def hl74 : List (Nat × List Ht) := []
def hl75 : List (Nat × List Ht) := [(0, [⟨[], [], false, [(3, (4, 7)), (3, (5, 9)), (3, (6, 9))]⟩]), (2, [⟨[], [], false, []⟩, ⟨[], [], false, []⟩, ⟨[], [], false, []⟩, ⟨[], [], true, []⟩, ⟨[], [], false, []⟩, ⟨[], [], false, []⟩, ⟨[], [3], true, []⟩, ⟨[], [], false, []⟩, ⟨[], [], false, []⟩, ⟨[], [6], false, []⟩, ⟨[], [], false, []⟩, ⟨[], [], false, []⟩, ⟨[], [], false, []⟩, ⟨[], [], false, []⟩, ⟨[], [], false, []⟩, ⟨[], [], false, []⟩, ⟨[], [], false, []⟩, ⟨[], [], false, []⟩, ⟨[], [], false, []⟩]), (3, [])]
def hl76 : List (Nat × List Ht) := [(0, [⟨[], [], false, [(3, (4, 7)), (3, (5, 9)), (3, (6, 9))]⟩]), (3, [⟨[], [], false, []⟩, ⟨[], [], false, []⟩, ⟨[], [], false, []⟩, ⟨[], [], false, []⟩, ⟨[], [], true, []⟩, ⟨[], [], false, []⟩, ⟨[], [], false, []⟩, ⟨[], [4], false, []⟩, ⟨[], [], false, []⟩, ⟨[], [], false, []⟩, ⟨[], [], false, []⟩]), (8, [⟨[], [], false, []⟩, ⟨[], [], false, []⟩, ⟨[], [], false, []⟩, ⟨[], [], false, []⟩, ⟨[], [], true, []⟩, ⟨[], [], false, []⟩, ⟨[], [], false, []⟩, ⟨[], [4], false, []⟩, ⟨[], [], false, []⟩, ⟨[], [], false, []⟩, ⟨[], [], false, []⟩]), (11, [⟨[], [], false, []⟩, ⟨[], [], false, []⟩, ⟨[], [], false, []⟩, ⟨[], [], false, []⟩, ⟨[], [], true, []⟩, ⟨[], [], false, []⟩, ⟨[], [], false, []⟩, ⟨[], [4], false, []⟩, ⟨[], [], false, []⟩, ⟨[], [], false, []⟩, ⟨[], [], false, []⟩])]
def hl77 : List (Nat × List Ht) := [(0, [⟨[], [], false, [(3, (4, 7)), (3, (5, 9)), (3, (6, 9))]⟩]), (4, [⟨[], [], false, []⟩, ⟨[], [], false, []⟩, ⟨[], [], false, []⟩, ⟨[], [], false, []⟩, ⟨[], [], true, []⟩, ⟨[], [], false, []⟩, ⟨[], [], false, []⟩, ⟨[], [4], false, []⟩, ⟨[], [], false, []⟩, ⟨[], [], false, []⟩, ⟨[], [], false, []⟩]), (11, [⟨[], [], false, []⟩, ⟨[], [], false, []⟩, ⟨[], [], false, []⟩, ⟨[], [], false, []⟩, ⟨[], [], true, []⟩, ⟨[], [], false, []⟩, ⟨[], [], false, []⟩, ⟨[], [4], false, []⟩, ⟨[], [], false, []⟩, ⟨[], [], false, []⟩, ⟨[], [], false, []⟩]), (15, [⟨[], [], false, []⟩, ⟨[], [], false, []⟩, ⟨[], [], false, []⟩, ⟨[], [], false, []⟩, ⟨[], [], true, []⟩, ⟨[], [], false, []⟩, ⟨[], [], false, []⟩, ⟨[], [], false, []⟩, ⟨[], [], true, []⟩, ⟨[], [], false, []⟩, ⟨[], [], false, []⟩, ⟨[], [], true, []⟩, ⟨[], [], false, []⟩, ⟨[], [], false, []⟩, ⟨[], [], true, []⟩, ⟨[], [], false, []⟩, ⟨[], [4, 8, 11, 14], false, []⟩, ⟨[], [], false, []⟩, ⟨[], [], false, []⟩, ⟨[], [], false, []⟩])]
def hl78 : List (Nat × List Ht) := [(0, [⟨[], [], false, [(3, (7, 1)), (3, (8, 1))]⟩]), (1, [])]
def hl79 : List (Nat × List Ht) := []
def hl80 : List (Nat × List Ht) := [(2, [⟨[], [], false, [(4, (1, 5))]⟩]), (11, [⟨[], [], false, [(8, (2, 3)), (8, (6, 1)), (8, (7, 13))]⟩])]
def hl81 : List (Nat × List Ht) := [(0, [⟨[], [], false, [(2, (0, 4)), (2, (1, 8))]⟩])]
def hl82 : List (Nat × List Ht) := [(0, [⟨[], [], false, [(2, (0, 4)), (2, (1, 8)), (2, (4, 3)), (2, (8, 1)), (2, (9, 13)), (3, (7, 1)), (3, (8, 1))]⟩]), (19, [⟨[], [], false, []⟩, ⟨[], [], false, []⟩, ⟨[], [], false, []⟩, ⟨[], [], true, []⟩, ⟨[], [], false, []⟩, ⟨[], [], false, []⟩, ⟨[], [], false, []⟩, ⟨[], [3], false, []⟩, ⟨[], [], false, []⟩, ⟨[], [], false, []⟩, ⟨[], [], false, []⟩])]
def hl83 : List (Nat × List Ht) := [(1, [⟨[], [], false, [(0, (0, 1))]⟩])]
def hl84 : List (Nat × List Ht) := []
def hl85 : List (Nat × List Ht) := []
def hl86 : List (Nat × List Ht) := [(0, [⟨[], [], false, [(4, (4, 7)), (4, (5, 9)), (4, (6, 9))]⟩]), (2, [⟨[], [], false, [(6, (4, 7)), (6, (5, 9)), (6, (6, 9))]⟩])]
def hl87 : List (Nat × List Ht) := [(0, [⟨[], [], false, [(3, (4, 7)), (3, (5, 9)), (3, (6, 9))]⟩]), (5, [⟨[], [], false, []⟩, ⟨[], [], false, []⟩, ⟨[], [], false, []⟩, ⟨[], [], false, []⟩, ⟨[], [], true, []⟩, ⟨[], [], false, []⟩, ⟨[], [4], false, []⟩, ⟨[], [], false, []⟩]), (7, [⟨[], [], false, []⟩, ⟨[], [], false, []⟩, ⟨[], [], false, []⟩, ⟨[], [], false, []⟩, ⟨[], [], true, []⟩, ⟨[], [], false, []⟩, ⟨[], [4], false, []⟩, ⟨[], [], false, []⟩, ⟨[], [], false, []⟩, ⟨[], [4], false, []⟩, ⟨[], [], false, []⟩]), (10, [⟨[], [], false, []⟩, ⟨[], [], false, []⟩, ⟨[], [], false, []⟩, ⟨[], [], false, []⟩, ⟨[], [], false, []⟩, ⟨[0], [], false, []⟩, ⟨[], [], true, []⟩, ⟨[], [], false, []⟩, ⟨[0], [6], false, []⟩, ⟨[], [], false, []⟩, ⟨[0], [6], false, []⟩, ⟨[], [], false, []⟩, ⟨[], [], false, []⟩, ⟨[], [], false, []⟩, ⟨[], [], false, []⟩, ⟨[], [], false, []⟩, ⟨[], [], false, []⟩]), (15, [⟨[], [], false, []⟩, ⟨[], [], false, []⟩, ⟨[], [], false, []⟩, ⟨[], [], true, []⟩, ⟨[], [], false, []⟩, ⟨[], [3], false, []⟩, ⟨[], [], false, []⟩, ⟨[], [], false, []⟩, ⟨[], [3], false, []⟩, ⟨[], [], false, []⟩]), (18, [⟨[], [], false, []⟩, ⟨[], [], false, []⟩, ⟨[], [], true, []⟩, ⟨[], [], false, []⟩, ⟨[], [2], false, []⟩, ⟨[], [], false, []⟩, ⟨[], [], false, []⟩, ⟨[], [2], false, []⟩, ⟨[], [], false, []⟩]), (19, []), (22, [⟨[], [], false, []⟩, ⟨[], [], false, []⟩, ⟨[], [], false, []⟩, ⟨[], [], true, []⟩, ⟨[], [], false, []⟩, ⟨[], [3], false, []⟩, ⟨[], [], false, []⟩, ⟨[], [], false, []⟩, ⟨[], [3], false, []⟩, ⟨[], [], false, []⟩]), (26, [])]
def hl88 : List (Nat × List Ht) := [(0, [⟨[], [], false, [(1, (4, 7)), (1, (5, 9)), (1, (6, 9))]⟩])]
def hl89 : List (Nat × List Ht) := []
def hl90 : List (Nat × List Ht) := [(0, [⟨[], [], false, [(3, (0, 4)), (3, (1, 7))]⟩]), (9, [])]
def hl91 : List (Nat × List Ht) := [(0, [⟨[], [], false, [(4, (4, 7))]⟩]), (3, [⟨[], [], false, [(8, (4, 7))]⟩]), (10, []), (11, [])]
def hl92 : List (Nat × List Ht) := [(0, [⟨[], [], false, [(4, (4, 7))]⟩]), (2, [⟨[], [], false, [(8, (7, 1)), (8, (8, 1))]⟩]), (5, []), (6, [])]
def hl93 : List (Nat × List Ht) := [(0, [⟨[], [], false, [(5, (4, 7))]⟩])]
def hl94 : List (Nat × List Ht) := []
def hl95 : List (Nat × List Ht) := []
def hl96 : List (Nat × List Ht) := [(0, [⟨[], [], false, [(2, (1, 5))]⟩])]
def hl97 : List (Nat × List Ht) := []
def hl98 : List (Nat × List Ht) := [(0, [⟨[], [], false, [(1, (7, 1)), (1, (8, 1))]⟩])]
def hl99 : List (Nat × List Ht) := [(0, [⟨[], [], false, [(1, (7, 1)), (1, (8, 1))]⟩])]
def hl100 : List (Nat × List Ht) := [(0, [⟨[], [], false, [(2, (0, 4)), (2, (1, 8)), (2, (4, 3)), (2, (8, 1)), (2, (9, 13))]⟩])]
def hl101 : List (Nat × List Ht) := [(0, [⟨[], [], false, [(2, (0, 4)), (2, (1, 8)), (2, (4, 3)), (2, (8, 1)), (2, (9, 13)), (3, (7, 1)), (3, (8, 1))]⟩]), (3, [⟨[], [], false, [(5, (2, 3)), (5, (6, 1)), (5, (7, 13))]⟩]), (9, [⟨[], [], false, []⟩, ⟨[], [], false, []⟩, ⟨[], [], true, []⟩, ⟨[], [], false, []⟩, ⟨[], [2], false, []⟩, ⟨[], [], false, []⟩, ⟨[], [], false, []⟩, ⟨[], [], false, []⟩, ⟨[], [2], false, []⟩, ⟨[], [], false, []⟩]), (12, [⟨[], [], false, []⟩, ⟨[], [], false, []⟩, ⟨[], [], false, []⟩, ⟨[], [], true, []⟩, ⟨[], [], false, []⟩, ⟨[], [], false, []⟩, ⟨[], [3], false, []⟩, ⟨[], [], false, []⟩, ⟨[], [], false, []⟩, ⟨[], [], false, []⟩])]
def hl102 : List (Nat × List Ht) := [(0, [⟨[], [], false, [(2, (0, 4)), (2, (1, 8)), (2, (4, 3)), (2, (8, 1)), (2, (9, 13))]⟩])]
def hl103 : List (Nat × List Ht) := [(0, [⟨[], [], false, [(2, (0, 4)), (2, (1, 8)), (2, (4, 3)), (2, (8, 1)), (2, (9, 13))]⟩])]
def hl104 : List (Nat × List Ht) := [(0, [⟨[], [], false, [(2, (0, 4)), (2, (1, 8)), (2, (4, 3)), (2, (8, 1)), (2, (9, 13))]⟩])]
def hl105 : List (Nat × List Ht) := [(0, [⟨[], [], false, [(2, (0, 4)), (2, (1, 8)), (2, (4, 3)), (2, (8, 1)), (2, (9, 13)), (3, (7, 1)), (3, (8, 1))]⟩]), (9, [⟨[], [], false, []⟩, ⟨[], [], false, []⟩, ⟨[], [], false, []⟩, ⟨[], [], false, []⟩, ⟨[], [], false, []⟩, ⟨[], [], false, []⟩, ⟨[], [], false, []⟩, ⟨[], [], false, []⟩, ⟨[], [], true, []⟩, ⟨[], [], false, []⟩, ⟨[], [8], false, []⟩, ⟨[], [], false, []⟩, ⟨[], [], false, []⟩, ⟨[], [], false, []⟩]), (17, [⟨[], [], false, []⟩, ⟨[], [], false, []⟩, ⟨[], [], false, []⟩, ⟨[], [], true, []⟩, ⟨[], [], false, []⟩, ⟨[], [], false, []⟩, ⟨[], [], false, []⟩, ⟨[], [], false, []⟩, ⟨[], [], false, []⟩, ⟨[], [], false, []⟩, ⟨[], [], true, []⟩, ⟨[], [], false, []⟩, ⟨[], [], false, []⟩, ⟨[], [], true, []⟩, ⟨[], [], false, []⟩, ⟨[], [3, 10, 13], false, []⟩, ⟨[], [], false, []⟩, ⟨[], [], false, []⟩, ⟨[], [], false, []⟩]), (19, [⟨[], [], false, []⟩, ⟨[], [], false, []⟩, ⟨[], [], false, []⟩, ⟨[], [], false, []⟩, ⟨[], [], false, []⟩, ⟨[], [], false, []⟩, ⟨[], [], false, []⟩, ⟨[], [], false, []⟩, ⟨[], [], false, []⟩, ⟨[], [], true, []⟩, ⟨[], [9], false, []⟩, ⟨[], [], false, []⟩, ⟨[], [9], false, []⟩, ⟨[], [], false, []⟩, ⟨[], [], false, []⟩, ⟨[], [], false, []⟩, ⟨[], [], false, []⟩, ⟨[], [], false, []⟩]), (28, [⟨[], [], false, []⟩, ⟨[], [], false, []⟩, ⟨[], [], false, []⟩, ⟨[], [], true, []⟩, ⟨[], [], false, []⟩, ⟨[], [], false, []⟩, ⟨[], [3], false, []⟩, ⟨[], [], false, []⟩, ⟨[], [3], false, []⟩, ⟨[], [], false, []⟩, ⟨[], [], false, []⟩, ⟨[], [3], false, []⟩, ⟨[], [], false, []⟩, ⟨[], [], false, []⟩, ⟨[], [], false, []⟩, ⟨[], [], false, []⟩])]
def hl106 : List (Nat × List Ht) := []
def hl107 : List (Nat × List Ht) := [(0, [⟨[], [], false, [(4, (4, 7)), (4, (5, 9)), (4, (6, 9)), (6, (4, 7)), (6, (5, 9)), (6, (6, 9))]⟩])]
def hl108 : List (Nat × List Ht) := [(1, [])]
def hl109 : List (Nat × List Ht) := [(0, [⟨[], [], false, [(4, (4, 7))]⟩])]
def hl110 : List (Nat × List Ht) := [(0, [⟨[], [], false, [(4, (4, 7)), (4, (5, 9)), (4, (6, 9)), (6, (4, 7)), (6, (5, 9)), (6, (6, 9))]⟩]), (5, [⟨[], [], false, []⟩, ⟨[], [], false, []⟩, ⟨[], [], true, []⟩, ⟨[], [], false, []⟩, ⟨[], [], true, []⟩, ⟨[], [], false, []⟩, ⟨[], [], false, []⟩, ⟨[], [2, 4], false, []⟩, ⟨[], [], false, []⟩, ⟨[], [], false, []⟩, ⟨[], [], false, []⟩, ⟨[], [], false, []⟩, ⟨[], [], false, []⟩]), (9, [⟨[], [], false, [(8, (4, 7))]⟩]), (21, [⟨[], [], false, [(13, (4, 7))]⟩])]
def hl111 : List (Nat × List Ht) := [(0, [⟨[], [], false, [(3, (4, 7))]⟩]), (11, [⟨[], [], false, []⟩, ⟨[], [], false, []⟩, ⟨[], [], true, []⟩, ⟨[], [], false, []⟩, ⟨[], [2], false, []⟩, ⟨[], [], false, []⟩]), (12, []), (26, [⟨[], [], false, []⟩, ⟨[], [], false, []⟩, ⟨[], [], false, []⟩, ⟨[], [], false, []⟩, ⟨[], [], false, []⟩, ⟨[], [], false, []⟩, ⟨[], [], false, []⟩, ⟨[], [], true, []⟩, ⟨[], [], false, []⟩, ⟨[], [], false, []⟩, ⟨[], [7], false, []⟩, ⟨[], [], false, []⟩])]
def hl112 : List (Nat × List Ht) := []
def hl113 : List (Nat × List Ht) := []
def hl114 : List (Nat × List Ht) := [(0, [⟨[], [], false, [(3, (4, 7)), (3, (5, 9)), (3, (6, 9))]⟩]), (4, []), (7, [⟨[], [], false, []⟩, ⟨[], [], false, []⟩, ⟨[], [], false, []⟩, ⟨[], [], false, []⟩, ⟨[], [], false, []⟩, ⟨[], [], false, []⟩, ⟨[], [], false, []⟩, ⟨[], [], true, []⟩, ⟨[], [], false, []⟩, ⟨[], [7], false, []⟩, ⟨[], [], false, []⟩, ⟨[], [], false, []⟩, ⟨[], [7], false, []⟩, ⟨[], [], false, []⟩]), (14, [])]
def hl115 : List (Nat × List Ht) := []
def hl116 : List (Nat × List Ht) := []
def hl117 : List (Nat × List Ht) := []
def hl118 : List (Nat × List Ht) := []
def hl119 : List (Nat × List Ht) := []
def hl120 : List (Nat × List Ht) := []
def hl121 : List (Nat × List Ht) := [(0, [⟨[], [], false, [(4, (0, 4)), (4, (1, 8)), (4, (4, 3)), (4, (8, 1)), (4, (9, 13)), (5, (7, 1)), (5, (8, 1))]⟩]), (4, [⟨[], [], true, []⟩, ⟨[], [], false, []⟩, ⟨[], [], false, []⟩, ⟨[], [0], false, []⟩, ⟨[], [], false, []⟩, ⟨[], [], false, []⟩, ⟨[], [], false, []⟩, ⟨[], [], false, []⟩, ⟨[], [], false, []⟩, ⟨[], [], false, []⟩, ⟨[], [], false, []⟩, ⟨[], [], false, []⟩, ⟨[], [], false, []⟩])]
def hl122 : List (Nat × List Ht) := [(0, [⟨[], [], false, [(6, (4, 7))]⟩]), (1, [⟨[], [], false, [(7, (0, 1))]⟩]), (4, [⟨[], [], false, [(8, (4, 7))]⟩]), (8, [⟨[], [], false, [(10, (4, 7))]⟩])]
def hl123 : List (Nat × List Ht) := [(0, [⟨[], [], false, [(3, (4, 7)), (4, (4, 7))]⟩])]
def hl124 : List (Nat × List Ht) := []
def hl125 : List (Nat × List Ht) := [(0, [⟨[], [], false, [(3, (4, 7))]⟩]), (1, []), (4, [⟨[], [], false, [(6, (1, 5)), (6, (4, 9))]⟩]), (10, [⟨[], [], false, []⟩, ⟨[], [], false, []⟩, ⟨[], [], false, []⟩, ⟨[], [], false, []⟩, ⟨[], [], false, []⟩, ⟨[], [], false, []⟩, ⟨[], [], false, []⟩, ⟨[], [], false, []⟩, ⟨[], [], true, []⟩, ⟨[], [], false, []⟩, ⟨[], [8], false, []⟩, ⟨[], [], false, []⟩, ⟨[], [], false, []⟩, ⟨[], [], false, []⟩, ⟨[], [8], false, []⟩, ⟨[], [], false, []⟩])]
def hl126 : List (Nat × List Ht) := []
def hl127 : List (Nat × List Ht) := []
def hl128 : List (Nat × List Ht) := [(0, [⟨[], [], false, [(3, (0, 4)), (3, (1, 8)), (3, (4, 3)), (3, (8, 1)), (3, (9, 13))]⟩]), (4, [⟨[], [], false, []⟩, ⟨[], [], false, []⟩, ⟨[], [], true, []⟩, ⟨[], [], false, []⟩, ⟨[], [], false, []⟩, ⟨[], [], false, []⟩, ⟨[], [], false, []⟩, ⟨[], [2], false, []⟩, ⟨[], [], false, []⟩, ⟨[], [], false, []⟩, ⟨[], [], false, []⟩, ⟨[], [], false, []⟩])]
def hl129 : List (Nat × List Ht) := [(0, [⟨[], [], false, [(4, (4, 7))]⟩]), (6, [⟨[], [], false, [(6, (4, 7))]⟩]), (8, [⟨[], [], false, [(7, (4, 7))]⟩])]
def hl130 : List (Nat × List Ht) := [(0, [⟨[], [], false, [(1, (4, 7))]⟩])]
def hl131 : List (Nat × List Ht) := []
def hl132 : List (Nat × List Ht) := [(0, [⟨[], [], false, [(4, (4, 7))]⟩]), (2, [⟨[], [], false, [(6, (4, 7))]⟩])]
def hd : Nat → Nat → Option (List Ht)
  | 3 => lookH hl3
  | 4 => lookH hl4
  | 5 => lookH hl5
  | 6 => lookH hl6
  | 7 => lookH hl7
  | 8 => lookH hl8
  | 9 => lookH hl9
  | 10 => lookH hl10
  | 11 => lookH hl11
  | 12 => lookH hl12
  | 13 => lookH hl13
  | 14 => lookH hl14
  | 15 => lookH hl15
  | 16 => lookH hl16
  | 17 => lookH hl17
  | 18 => lookH hl18
  | 19 => lookH hl19
  | 20 => lookH hl20
  | 21 => lookH hl21
  | 22 => lookH hl22
  | 23 => lookH hl23
  | 24 => lookH hl24
  | 25 => lookH hl25
  | 26 => lookH hl26
  | 27 => lookH hl27
  | 28 => lookH hl28
  | 29 => lookH hl29
  | 30 => lookH hl30
  | 31 => lookH hl31
  | 32 => lookH hl32
  | 33 => lookH hl33
  | 34 => lookH hl34
  | 35 => lookH hl35
  | 36 => lookH hl36
  | 37 => lookH hl37
  | 38 => lookH hl38
  | 39 => lookH hl39
  | 40 => lookH hl40
  | 41 => lookH hl41
  | 42 => lookH hl42
  | 43 => lookH hl43
  | 44 => lookH hl44
  | 45 => lookH hl45
  | 46 => lookH hl46
  | 47 => lookH hl47
  | 48 => lookH hl48
  | 49 => lookH hl49
  | 50 => lookH hl50
  | 51 => lookH hl51
  | 52 => lookH hl52
  | 53 => lookH hl53
  | 54 => lookH hl54
  | 55 => lookH hl55
  | 56 => lookH hl56
  | 57 => lookH hl57
  | 58 => lookH hl58
  | 59 => lookH hl59
  | 60 => lookH hl60
  | 61 => lookH hl61
  | 62 => lookH hl62
  | 63 => lookH hl63
  | 64 => lookH hl64
  | 65 => lookH hl65
  | 66 => lookH hl66
  | 67 => lookH hl67
  | 68 => lookH hl68
  | 69 => lookH hl69
  | 70 => lookH hl70
  | 71 => lookH hl71
  | 72 => lookH hl72
  | 73 => lookH hl73
  | 74 => lookH hl74
  | 75 => lookH hl75
  | 76 => lookH hl76
  | 77 => lookH hl77
  | 78 => lookH hl78
  | 79 => lookH hl79
  | 80 => lookH hl80
  | 81 => lookH hl81
  | 82 => lookH hl82
  | 83 => lookH hl83
  | 84 => lookH hl84
  | 85 => lookH hl85
  | 86 => lookH hl86
  | 87 => lookH hl87
  | 88 => lookH hl88
  | 89 => lookH hl89
  | 90 => lookH hl90
  | 91 => lookH hl91
  | 92 => lookH hl92
  | 93 => lookH hl93
  | 94 => lookH hl94
  | 95 => lookH hl95
  | 96 => lookH hl96
  | 97 => lookH hl97
  | 98 => lookH hl98
  | 99 => lookH hl99
  | 100 => lookH hl100
  | 101 => lookH hl101
  | 102 => lookH hl102
  | 103 => lookH hl103
  | 104 => lookH hl104
  | 105 => lookH hl105
  | 106 => lookH hl106
  | 107 => lookH hl107
  | 108 => lookH hl108
  | 109 => lookH hl109
  | 110 => lookH hl110
  | 111 => lookH hl111
  | 112 => lookH hl112
  | 113 => lookH hl113
  | 114 => lookH hl114
  | 115 => lookH hl115
  | 116 => lookH hl116
  | 117 => lookH hl117
  | 118 => lookH hl118
  | 119 => lookH hl119
  | 120 => lookH hl120
  | 121 => lookH hl121
  | 122 => lookH hl122
  | 123 => lookH hl123
  | 124 => lookH hl124
  | 125 => lookH hl125
  | 126 => lookH hl126
  | 127 => lookH hl127
  | 128 => lookH hl128
  | 129 => lookH hl129
  | 130 => lookH hl130
  | 131 => lookH hl131
  | 132 => lookH hl132
  | _ => fun _ => none
theorem prog_ok : progOk Tryz.prog hd = true := by kernel_rfl
theorem hv_3 : hv 3 = [8, 9, 10, 11, 12] := rfl
theorem hv_4 : hv 4 = [0, 1, 3] := rfl
theorem hv_5 : hv 5 = [6, 7, 8] := rfl
theorem hv_6 : hv 6 = [6, 7, 8] := rfl
theorem hv_7 : hv 7 = [2] := rfl
theorem hv_8 : hv 8 = [2, 3] := rfl
theorem hv_9 : hv 9 = [2, 3, 4, 5] := rfl
theorem hv_10 : hv 10 = [4, 8, 9, 10, 11] := rfl
theorem hv_11 : hv 11 = [2] := rfl
theorem hv_12 : hv 12 = [6, 7] := rfl
theorem hv_13 : hv 13 = [2, 3] := rfl
theorem hv_14 : hv 14 = [2, 3, 4, 5] := rfl
theorem hv_15 : hv 15 = [1, 2, 3, 4, 5, 6, 7, 8, 9] := rfl
theorem hv_16 : hv 16 = [3, 6, 7, 8, 9] := rfl
theorem hv_17 : hv 17 = [2, 3, 4, 5, 6, 55] := rfl
theorem hv_18 : hv 18 = [2, 4, 19, 20, 21] := rfl
theorem hv_19 : hv 19 = [2, 3, 4, 5, 6, 7, 8, 9, 10] := rfl
theorem hv_20 : hv 20 = [2, 3, 4, 5] := rfl
theorem hv_21 : hv 21 = [1, 2, 3, 4, 5, 6, 7] := rfl
theorem hv_22 : hv 22 = [3, 4] := rfl
theorem hv_23 : hv 23 = [4, 5] := rfl
theorem hv_24 : hv 24 = [1, 2, 3, 4, 6, 7, 26, 32, 33, 34] := rfl
theorem hv_25 : hv 25 = [2] := rfl
theorem hv_26 : hv 26 = [8, 9] := rfl
theorem hv_27 : hv 27 = [2, 3, 4] := rfl
theorem hv_28 : hv 28 = [4, 6, 7, 8, 10] := rfl
theorem hv_29 : hv 29 = [4, 6, 7, 9, 17, 47] := rfl
theorem hv_30 : hv 30 = [4, 6, 8, 10, 11, 12] := rfl
theorem hv_31 : hv 31 = [3, 4] := rfl
theorem hv_32 : hv 32 = [4] := rfl
theorem hv_33 : hv 33 = [4, 5, 6] := rfl
theorem hv_34 : hv 34 = [4, 5, 6, 7, 8, 9, 10, 11] := rfl
theorem hv_35 : hv 35 = [2, 3] := rfl
theorem hv_36 : hv 36 = [2] := rfl
theorem hv_37 : hv 37 = [2] := rfl
theorem hv_38 : hv 38 = [4, 5] := rfl
theorem hv_39 : hv 39 = [2, 3, 4] := rfl
theorem hv_40 : hv 40 = [2, 3, 4] := rfl
theorem hv_41 : hv 41 = [2, 3, 4, 5, 6] := rfl
theorem hv_42 : hv 42 = [7, 8] := rfl
theorem hv_43 : hv 43 = [2, 4, 5] := rfl
theorem hv_44 : hv 44 = [2] := rfl
theorem hv_45 : hv 45 = [3, 4, 6] := rfl
theorem hv_46 : hv 46 = [3, 4, 5, 6, 7, 8, 9, 23] := rfl
theorem hv_47 : hv 47 = [1, 2, 3, 4, 6, 7, 9, 11, 13, 14, 15, 20, 21, 22, 41, 42, 43] := rfl
theorem hv_48 : hv 48 = [1, 2] := rfl
theorem hv_49 : hv 49 = [2, 3, 4] := rfl
theorem hv_50 : hv 50 = [1, 2, 3, 4, 6, 7, 45, 46, 47] := rfl
theorem hv_51 : hv 51 = [4] := rfl
theorem hv_52 : hv 52 = [4, 5, 7, 8] := rfl
theorem hv_53 : hv 53 = [2, 3] := rfl
theorem hv_54 : hv 54 = [2, 3] := rfl
theorem hv_55 : hv 55 = [4, 5, 6] := rfl
theorem hv_56 : hv 56 = [1, 2] := rfl
theorem hv_57 : hv 57 = [2, 4] := rfl
theorem hv_58 : hv 58 = [2] := rfl
theorem hv_59 : hv 59 = [2] := rfl
theorem hv_60 : hv 60 = [2, 3, 4] := rfl
theorem hv_61 : hv 61 = [0] := rfl
theorem hv_62 : hv 62 = [] := rfl
theorem hv_63 : hv 63 = [2, 3, 4] := rfl
theorem hv_64 : hv 64 = [2, 3] := rfl
theorem hv_65 : hv 65 = [4, 5] := rfl
theorem hv_66 : hv 66 = [2] := rfl
theorem hv_67 : hv 67 = [2, 4, 5] := rfl
theorem hv_68 : hv 68 = [3, 4] := rfl
theorem hv_69 : hv 69 = [4, 5, 6] := rfl
theorem hv_70 : hv 70 = [4, 5] := rfl
theorem hv_71 : hv 71 = [2, 3] := rfl
theorem hv_72 : hv 72 = [5, 6, 8, 9, 10, 11, 12, 13, 14, 15, 17, 18, 19, 20, 21, 22, 23, 24, 25, 28] := rfl
theorem hv_73 : hv 73 = [4, 5] := rfl
theorem hv_74 : hv 74 = [4] := rfl
theorem hv_75 : hv 75 = [3, 4, 5, 6, 8, 9] := rfl
theorem hv_76 : hv 76 = [3, 4, 5, 6] := rfl
theorem hv_77 : hv 77 = [3, 4, 5, 6, 7, 8] := rfl
theorem hv_78 : hv 78 = [3, 4] := rfl
theorem hv_79 : hv 79 = [2, 3, 5, 7, 8, 9] := rfl
theorem hv_80 : hv 80 = [4, 6, 8, 10, 12, 13, 14, 19, 20, 21, 33, 34, 35, 46, 47, 48] := rfl
theorem hv_81 : hv 81 = [2, 3, 4] := rfl
theorem hv_82 : hv 82 = [2, 3, 4, 5, 6, 7, 29] := rfl
theorem hv_83 : hv 83 = [0] := rfl
theorem hv_84 : hv 84 = [5] := rfl
theorem hv_85 : hv 85 = [4] := rfl
theorem hv_86 : hv 86 = [4, 5, 6] := rfl
theorem hv_87 : hv 87 = [3, 4, 6, 7, 8, 9, 10, 12, 13, 14, 15, 19, 160] := rfl
theorem hv_88 : hv 88 = [1, 2] := rfl
theorem hv_89 : hv 89 = [5, 6] := rfl
theorem hv_90 : hv 90 = [3, 6, 7, 8, 9, 10, 11] := rfl
theorem hv_91 : hv 91 = [4, 6, 7, 8, 9, 10, 11, 12, 13] := rfl
theorem hv_92 : hv 92 = [4, 6, 7, 8] := rfl
theorem hv_93 : hv 93 = [5, 6, 8, 9] := rfl
theorem hv_94 : hv 94 = [2] := rfl
theorem hv_95 : hv 95 = [4, 5, 7, 8] := rfl
theorem hv_96 : hv 96 = [2, 3] := rfl
theorem hv_97 : hv 97 = [2, 3] := rfl
theorem hv_98 : hv 98 = [1, 2, 4, 5, 1000000] := rfl
theorem hv_99 : hv 99 = [1, 2, 3, 4] := rfl
theorem hv_100 : hv 100 = [2, 4] := rfl
theorem hv_101 : hv 101 = [2, 3, 4, 5, 6, 7, 42, 43, 44] := rfl
theorem hv_102 : hv 102 = [2, 4] := rfl
theorem hv_103 : hv 103 = [2, 4] := rfl
theorem hv_104 : hv 104 = [2, 4] := rfl
theorem hv_105 : hv 105 = [2, 3, 4, 5, 9, 10, 104, 115] := rfl
theorem hv_106 : hv 106 = [4, 5] := rfl
theorem hv_107 : hv 107 = [4, 6, 7, 18, 19] := rfl
theorem hv_108 : hv 108 = [2] := rfl
theorem hv_109 : hv 109 = [4] := rfl
theorem hv_110 : hv 110 = [4, 6, 7, 8, 9, 10, 11, 13] := rfl
theorem hv_111 : hv 111 = [3, 4, 5, 6, 7, 8, 10, 11, 12, 13, 14, 15, 21] := rfl
theorem hv_112 : hv 112 = [2, 3, 4] := rfl
theorem hv_113 : hv 113 = [1, 2] := rfl
theorem hv_114 : hv 114 = [3, 4, 5, 6, 7, 9, 10] := rfl
theorem hv_115 : hv 115 = [3, 4, 5] := rfl
theorem hv_116 : hv 116 = [2, 3, 4, 5, 6, 12, 20, 23] := rfl
theorem hv_117 : hv 117 = [4] := rfl
theorem hv_118 : hv 118 = [3] := rfl
theorem hv_119 : hv 119 = [3] := rfl
theorem hv_120 : hv 120 = [6] := rfl
theorem hv_121 : hv 121 = [4, 5, 8, 9, 10] := rfl
theorem hv_122 : hv 122 = [6, 7, 8, 9, 10] := rfl
theorem hv_123 : hv 123 = [3, 4] := rfl
theorem hv_124 : hv 124 = [4, 5] := rfl
theorem hv_125 : hv 125 = [3, 4, 5, 6, 7, 8] := rfl
theorem hv_126 : hv 126 = [4, 5, 7, 8] := rfl
theorem hv_127 : hv 127 = [4] := rfl
theorem hv_128 : hv 128 = [3, 6, 7, 8, 9] := rfl
theorem hv_129 : hv 129 = [4, 5, 6, 7, 8, 9] := rfl
theorem hv_130 : hv 130 = [1, 2, 3, 4] := rfl
theorem hv_131 : hv 131 = [4, 5, 7, 8] := rfl
theorem hv_132 : hv 132 = [4, 5, 6] := rfl
theorem hf_10_0 : hf 10 0 = [] := rfl
theorem hf_15_0 : hf 15 0 = [7, 8, 9] := rfl
theorem hf_15_2 : hf 15 2 = [] := rfl
theorem hf_18_0 : hf 18 0 = [4] := rfl
theorem hf_19_0 : hf 19 0 = [7, 8, 9, 10] := rfl
theorem hf_20_0 : hf 20 0 = [] := rfl
theorem hf_21_0 : hf 21 0 = [] := rfl
theorem hf_21_2 : hf 21 2 = [] := rfl
theorem hf_21_4 : hf 21 4 = [] := rfl
theorem hf_23_0 : hf 23 0 = [] := rfl
theorem hf_24_3 : hf 24 3 = [6] := rfl
theorem hf_30_0 : hf 30 0 = [8] := rfl
theorem hf_32_0 : hf 32 0 = [] := rfl
theorem hf_32_2 : hf 32 2 = [] := rfl
theorem hf_33_0 : hf 33 0 = [] := rfl
theorem hf_34_1 : hf 34 1 = [] := rfl
theorem hf_34_3 : hf 34 3 = [] := rfl
theorem hf_34_5 : hf 34 5 = [] := rfl
theorem hf_35_0 : hf 35 0 = [] := rfl
theorem hf_39_0 : hf 39 0 = [4] := rfl
theorem hf_40_0 : hf 40 0 = [4] := rfl
theorem hf_41_0 : hf 41 0 = [4, 5, 6] := rfl
theorem hf_41_2 : hf 41 2 = [5, 6] := rfl
theorem hf_41_4 : hf 41 4 = [] := rfl
theorem hf_43_0 : hf 43 0 = [] := rfl
theorem hf_45_0 : hf 45 0 = [6] := rfl
theorem hf_47_0 : hf 47 0 = [6, 7, 9, 20, 21, 22] := rfl
theorem hf_47_2 : hf 47 2 = [9] := rfl
theorem hf_47_4 : hf 47 4 = [11] := rfl
theorem hf_50_1 : hf 50 1 = [6, 7] := rfl
theorem hf_52_0 : hf 52 0 = [5] := rfl
theorem hf_60_0 : hf 60 0 = [] := rfl
theorem hf_65_0 : hf 65 0 = [] := rfl
theorem hf_67_0 : hf 67 0 = [] := rfl
theorem hf_69_0 : hf 69 0 = [] := rfl
theorem hf_70_0 : hf 70 0 = [] := rfl
theorem hf_71_0 : hf 71 0 = [] := rfl
theorem hf_72_1 : hf 72 1 = [] := rfl
theorem hf_73_0 : hf 73 0 = [] := rfl
theorem hf_77_0 : hf 77 0 = [] := rfl
theorem hf_79_0 : hf 79 0 = [5] := rfl
theorem hf_80_0 : hf 80 0 = [4, 6, 19, 20, 21] := rfl
theorem hf_80_2 : hf 80 2 = [6] := rfl
theorem hf_80_4 : hf 80 4 = [8, 10, 46, 47, 48] := rfl
theorem hf_80_6 : hf 80 6 = [10] := rfl
theorem hf_90_0 : hf 90 0 = [] := rfl
theorem hf_95_0 : hf 95 0 = [5] := rfl
theorem hf_101_0 : hf 101 0 = [6, 7] := rfl
theorem hf_106_0 : hf 106 0 = [] := rfl
theorem hf_110_0 : hf 110 0 = [10, 11] := rfl
theorem hf_122_0 : hf 122 0 = [9, 10] := rfl
theorem hf_124_0 : hf 124 0 = [] := rfl
theorem hf_125_0 : hf 125 0 = [8] := rfl
theorem hf_126_0 : hf 126 0 = [5] := rfl
theorem hf_129_0 : hf 129 0 = [8, 9] := rfl
theorem hf_130_0 : hf 130 0 = [] := rfl
theorem hf_131_0 : hf 131 0 = [5] := rfl
theorem hd_3 (i : Nat) : hd 3 i = lookH hl3 i := rfl
theorem hd_4 (i : Nat) : hd 4 i = lookH hl4 i := rfl
theorem hd_5 (i : Nat) : hd 5 i = lookH hl5 i := rfl
theorem hd_6 (i : Nat) : hd 6 i = lookH hl6 i := rfl
theorem hd_7 (i : Nat) : hd 7 i = lookH hl7 i := rfl
theorem hd_8 (i : Nat) : hd 8 i = lookH hl8 i := rfl
theorem hd_9 (i : Nat) : hd 9 i = lookH hl9 i := rfl
theorem hd_10 (i : Nat) : hd 10 i = lookH hl10 i := rfl
theorem hd_11 (i : Nat) : hd 11 i = lookH hl11 i := rfl
theorem hd_12 (i : Nat) : hd 12 i = lookH hl12 i := rfl
theorem hd_13 (i : Nat) : hd 13 i = lookH hl13 i := rfl
theorem hd_14 (i : Nat) : hd 14 i = lookH hl14 i := rfl
theorem hd_15 (i : Nat) : hd 15 i = lookH hl15 i := rfl
theorem hd_16 (i : Nat) : hd 16 i = lookH hl16 i := rfl
theorem hd_17 (i : Nat) : hd 17 i = lookH hl17 i := rfl
theorem hd_18 (i : Nat) : hd 18 i = lookH hl18 i := rfl
theorem hd_19 (i : Nat) : hd 19 i = lookH hl19 i := rfl
theorem hd_20 (i : Nat) : hd 20 i = lookH hl20 i := rfl
theorem hd_21 (i : Nat) : hd 21 i = lookH hl21 i := rfl
theorem hd_22 (i : Nat) : hd 22 i = lookH hl22 i := rfl
theorem hd_23 (i : Nat) : hd 23 i = lookH hl23 i := rfl
theorem hd_24 (i : Nat) : hd 24 i = lookH hl24 i := rfl
theorem hd_25 (i : Nat) : hd 25 i = lookH hl25 i := rfl
theorem hd_26 (i : Nat) : hd 26 i = lookH hl26 i := rfl
theorem hd_27 (i : Nat) : hd 27 i = lookH hl27 i := rfl
theorem hd_28 (i : Nat) : hd 28 i = lookH hl28 i := rfl
theorem hd_29 (i : Nat) : hd 29 i = lookH hl29 i := rfl
theorem hd_30 (i : Nat) : hd 30 i = lookH hl30 i := rfl
theorem hd_31 (i : Nat) : hd 31 i = lookH hl31 i := rfl
theorem hd_32 (i : Nat) : hd 32 i = lookH hl32 i := rfl
theorem hd_33 (i : Nat) : hd 33 i = lookH hl33 i := rfl
theorem hd_34 (i : Nat) : hd 34 i = lookH hl34 i := rfl
theorem hd_35 (i : Nat) : hd 35 i = lookH hl35 i := rfl
theorem hd_36 (i : Nat) : hd 36 i = lookH hl36 i := rfl
theorem hd_37 (i : Nat) : hd 37 i = lookH hl37 i := rfl
theorem hd_38 (i : Nat) : hd 38 i = lookH hl38 i := rfl
theorem hd_39 (i : Nat) : hd 39 i = lookH hl39 i := rfl
theorem hd_40 (i : Nat) : hd 40 i = lookH hl40 i := rfl
theorem hd_41 (i : Nat) : hd 41 i = lookH hl41 i := rfl
theorem hd_42 (i : Nat) : hd 42 i = lookH hl42 i := rfl
theorem hd_43 (i : Nat) : hd 43 i = lookH hl43 i := rfl
theorem hd_44 (i : Nat) : hd 44 i = lookH hl44 i := rfl
theorem hd_45 (i : Nat) : hd 45 i = lookH hl45 i := rfl
theorem hd_46 (i : Nat) : hd 46 i = lookH hl46 i := rfl
theorem hd_47 (i : Nat) : hd 47 i = lookH hl47 i := rfl
theorem hd_48 (i : Nat) : hd 48 i = lookH hl48 i := rfl
theorem hd_49 (i : Nat) : hd 49 i = lookH hl49 i := rfl
theorem hd_50 (i : Nat) : hd 50 i = lookH hl50 i := rfl
theorem hd_51 (i : Nat) : hd 51 i = lookH hl51 i := rfl
theorem hd_52 (i : Nat) : hd 52 i = lookH hl52 i := rfl
theorem hd_53 (i : Nat) : hd 53 i = lookH hl53 i := rfl
theorem hd_54 (i : Nat) : hd 54 i = lookH hl54 i := rfl
theorem hd_55 (i : Nat) : hd 55 i = lookH hl55 i := rfl
theorem hd_56 (i : Nat) : hd 56 i = lookH hl56 i := rfl
theorem hd_57 (i : Nat) : hd 57 i = lookH hl57 i := rfl
theorem hd_58 (i : Nat) : hd 58 i = lookH hl58 i := rfl
theorem hd_59 (i : Nat) : hd 59 i = lookH hl59 i := rfl
theorem hd_60 (i : Nat) : hd 60 i = lookH hl60 i := rfl
theorem hd_61 (i : Nat) : hd 61 i = lookH hl61 i := rfl
theorem hd_62 (i : Nat) : hd 62 i = lookH hl62 i := rfl
theorem hd_63 (i : Nat) : hd 63 i = lookH hl63 i := rfl
theorem hd_64 (i : Nat) : hd 64 i = lookH hl64 i := rfl
theorem hd_65 (i : Nat) : hd 65 i = lookH hl65 i := rfl
theorem hd_66 (i : Nat) : hd 66 i = lookH hl66 i := rfl
theorem hd_67 (i : Nat) : hd 67 i = lookH hl67 i := rfl
theorem hd_68 (i : Nat) : hd 68 i = lookH hl68 i := rfl
theorem hd_69 (i : Nat) : hd 69 i = lookH hl69 i := rfl
theorem hd_70 (i : Nat) : hd 70 i = lookH hl70 i := rfl
theorem hd_71 (i : Nat) : hd 71 i = lookH hl71 i := rfl
theorem hd_72 (i : Nat) : hd 72 i = lookH hl72 i := rfl
theorem hd_73 (i : Nat) : hd 73 i = lookH hl73 i := rfl
theorem hd_74 (i : Nat) : hd 74 i = lookH hl74 i := rfl
theorem hd_75 (i : Nat) : hd 75 i = lookH hl75 i := rfl
theorem hd_76 (i : Nat) : hd 76 i = lookH hl76 i := rfl
theorem hd_77 (i : Nat) : hd 77 i = lookH hl77 i := rfl
theorem hd_78 (i : Nat) : hd 78 i = lookH hl78 i := rfl
theorem hd_79 (i : Nat) : hd 79 i = lookH hl79 i := rfl
theorem hd_80 (i : Nat) : hd 80 i = lookH hl80 i := rfl
theorem hd_81 (i : Nat) : hd 81 i = lookH hl81 i := rfl
theorem hd_82 (i : Nat) : hd 82 i = lookH hl82 i := rfl
theorem hd_83 (i : Nat) : hd 83 i = lookH hl83 i := rfl
theorem hd_84 (i : Nat) : hd 84 i = lookH hl84 i := rfl
theorem hd_85 (i : Nat) : hd 85 i = lookH hl85 i := rfl
theorem hd_86 (i : Nat) : hd 86 i = lookH hl86 i := rfl
theorem hd_87 (i : Nat) : hd 87 i = lookH hl87 i := rfl
theorem hd_88 (i : Nat) : hd 88 i = lookH hl88 i := rfl
theorem hd_89 (i : Nat) : hd 89 i = lookH hl89 i := rfl
theorem hd_90 (i : Nat) : hd 90 i = lookH hl90 i := rfl
theorem hd_91 (i : Nat) : hd 91 i = lookH hl91 i := rfl
theorem hd_92 (i : Nat) : hd 92 i = lookH hl92 i := rfl
theorem hd_93 (i : Nat) : hd 93 i = lookH hl93 i := rfl
theorem hd_94 (i : Nat) : hd 94 i = lookH hl94 i := rfl
theorem hd_95 (i : Nat) : hd 95 i = lookH hl95 i := rfl
theorem hd_96 (i : Nat) : hd 96 i = lookH hl96 i := rfl
theorem hd_97 (i : Nat) : hd 97 i = lookH hl97 i := rfl
theorem hd_98 (i : Nat) : hd 98 i = lookH hl98 i := rfl
theorem hd_99 (i : Nat) : hd 99 i = lookH hl99 i := rfl
theorem hd_100 (i : Nat) : hd 100 i = lookH hl100 i := rfl
theorem hd_101 (i : Nat) : hd 101 i = lookH hl101 i := rfl
theorem hd_102 (i : Nat) : hd 102 i = lookH hl102 i := rfl
theorem hd_103 (i : Nat) : hd 103 i = lookH hl103 i := rfl
theorem hd_104 (i : Nat) : hd 104 i = lookH hl104 i := rfl
theorem hd_105 (i : Nat) : hd 105 i = lookH hl105 i := rfl
theorem hd_106 (i : Nat) : hd 106 i = lookH hl106 i := rfl
theorem hd_107 (i : Nat) : hd 107 i = lookH hl107 i := rfl
theorem hd_108 (i : Nat) : hd 108 i = lookH hl108 i := rfl
theorem hd_109 (i : Nat) : hd 109 i = lookH hl109 i := rfl
theorem hd_110 (i : Nat) : hd 110 i = lookH hl110 i := rfl
theorem hd_111 (i : Nat) : hd 111 i = lookH hl111 i := rfl
theorem hd_112 (i : Nat) : hd 112 i = lookH hl112 i := rfl
theorem hd_113 (i : Nat) : hd 113 i = lookH hl113 i := rfl
theorem hd_114 (i : Nat) : hd 114 i = lookH hl114 i := rfl
theorem hd_115 (i : Nat) : hd 115 i = lookH hl115 i := rfl
theorem hd_116 (i : Nat) : hd 116 i = lookH hl116 i := rfl
theorem hd_117 (i : Nat) : hd 117 i = lookH hl117 i := rfl
theorem hd_118 (i : Nat) : hd 118 i = lookH hl118 i := rfl
theorem hd_119 (i : Nat) : hd 119 i = lookH hl119 i := rfl
theorem hd_120 (i : Nat) : hd 120 i = lookH hl120 i := rfl
theorem hd_121 (i : Nat) : hd 121 i = lookH hl121 i := rfl
theorem hd_122 (i : Nat) : hd 122 i = lookH hl122 i := rfl
theorem hd_123 (i : Nat) : hd 123 i = lookH hl123 i := rfl
theorem hd_124 (i : Nat) : hd 124 i = lookH hl124 i := rfl
theorem hd_125 (i : Nat) : hd 125 i = lookH hl125 i := rfl
theorem hd_126 (i : Nat) : hd 126 i = lookH hl126 i := rfl
theorem hd_127 (i : Nat) : hd 127 i = lookH hl127 i := rfl
theorem hd_128 (i : Nat) : hd 128 i = lookH hl128 i := rfl
theorem hd_129 (i : Nat) : hd 129 i = lookH hl129 i := rfl
theorem hd_130 (i : Nat) : hd 130 i = lookH hl130 i := rfl
theorem hd_131 (i : Nat) : hd 131 i = lookH hl131 i := rfl
theorem hd_132 (i : Nat) : hd 132 i = lookH hl132 i := rfl
attribute [go_sem] hf_10_0 hf_15_0 hf_15_2 hf_18_0 hf_19_0 hf_20_0 hf_21_0 hf_21_2 hf_21_4 hf_23_0 hf_24_3 hf_30_0
attribute [go_sem] hf_32_0 hf_32_2 hf_33_0 hf_34_1 hf_34_3 hf_34_5 hf_35_0 hf_39_0 hf_40_0 hf_41_0 hf_41_2 hf_41_4
attribute [go_sem] hf_43_0 hf_45_0 hf_47_0 hf_47_2 hf_47_4 hf_50_1 hf_52_0 hf_60_0 hf_65_0 hf_67_0 hf_69_0 hf_70_0
attribute [go_sem] hf_71_0 hf_72_1 hf_73_0 hf_77_0 hf_79_0 hf_80_0 hf_80_2 hf_80_4 hf_80_6 hf_90_0 hf_95_0 hf_101_0
attribute [go_sem] hf_106_0 hf_110_0 hf_122_0 hf_124_0 hf_125_0 hf_126_0 hf_129_0 hf_130_0 hf_131_0 hd_3 hl3 hd_4
attribute [go_sem] hl4 hd_5 hl5 hd_6 hl6 hd_7 hl7 hd_8 hl8 hd_9 hl9 hd_10
attribute [go_sem] hl10 hd_11 hl11 hd_12 hl12 hd_13 hl13 hd_14 hl14 hd_15 hl15 hd_16
attribute [go_sem] hl16 hd_17 hl17 hd_18 hl18 hd_19 hl19 hd_20 hl20 hd_21 hl21 hd_22
attribute [go_sem] hl22 hd_23 hl23 hd_24 hl24 hd_25 hl25 hd_26 hl26 hd_27 hl27 hd_28
attribute [go_sem] hl28 hd_29 hl29 hd_30 hl30 hd_31 hl31 hd_32 hl32 hd_33 hl33 hd_34
attribute [go_sem] hl34 hd_35 hl35 hd_36 hl36 hd_37 hl37 hd_38 hl38 hd_39 hl39 hd_40
attribute [go_sem] hl40 hd_41 hl41 hd_42 hl42 hd_43 hl43 hd_44 hl44 hd_45 hl45 hd_46
attribute [go_sem] hl46 hd_47 hl47 hd_48 hl48 hd_49 hl49 hd_50 hl50 hd_51 hl51 hd_52
attribute [go_sem] hl52 hd_53 hl53 hd_54 hl54 hd_55 hl55 hd_56 hl56 hd_57 hl57 hd_58
attribute [go_sem] hl58 hd_59 hl59 hd_60 hl60 hd_61 hl61 hd_62 hl62 hd_63 hl63 hd_64
attribute [go_sem] hl64 hd_65 hl65 hd_66 hl66 hd_67 hl67 hd_68 hl68 hd_69 hl69 hd_70
attribute [go_sem] hl70 hd_71 hl71 hd_72 hl72 hd_73 hl73 hd_74 hl74 hd_75 hl75 hd_76
attribute [go_sem] hl76 hd_77 hl77 hd_78 hl78 hd_79 hl79 hd_80 hl80 hd_81 hl81 hd_82
attribute [go_sem] hl82 hd_83 hl83 hd_84 hl84 hd_85 hl85 hd_86 hl86 hd_87 hl87 hd_88
attribute [go_sem] hl88 hd_89 hl89 hd_90 hl90 hd_91 hl91 hd_92 hl92 hd_93 hl93 hd_94
attribute [go_sem] hl94 hd_95 hl95 hd_96 hl96 hd_97 hl97 hd_98 hl98 hd_99 hl99 hd_100
attribute [go_sem] hl100 hd_101 hl101 hd_102 hl102 hd_103 hl103 hd_104 hl104 hd_105 hl105 hd_106
attribute [go_sem] hl106 hd_107 hl107 hd_108 hl108 hd_109 hl109 hd_110 hl110 hd_111 hl111 hd_112
attribute [go_sem] hl112 hd_113 hl113 hd_114 hl114 hd_115 hl115 hd_116 hl116 hd_117 hl117 hd_118
attribute [go_sem] hl118 hd_119 hl119 hd_120 hl120 hd_121 hl121 hd_122 hl122 hd_123 hl123 hd_124
attribute [go_sem] hl124 hd_125 hl125 hd_126 hl126 hd_127 hl127 hd_128 hl128 hd_129 hl129 hd_130
attribute [go_sem] hl130 hd_131 hl131 hd_132 hl132
/-- Functions that are known otherwise. -/
def isExt : Nat → Bool
  | 97 => true
  | 25 => true
  | _ => false
/-- The program, with functions that are known otherwise. -/
noncomputable def G (ext : Sem') : Sem' := callA Tryz.prog ext hd hv hf
def Clear (ext : Sem') : Prop := ∀ (f : Nat) (xs : List AV) (H : List AObj), isExt f = false → ext f xs H = none
theorem G_ok {ext : Sem'} (h : Sound Tryz.prog ext) : Sound Tryz.prog (G ext) := callA_ok h prog_ok
theorem G_ext {ext : Sem'} {f : Nat} {xs : List AV} {H : List AObj} {r : Out × List AObj} (h : ext f xs H = some r) : G ext f xs H = some r := callA_ext h
theorem G_body {ext : Sem'} (hx : Clear ext) {f : Nat} {F : Func} {c : Code} {xs : List AV} {H : List AObj} {rs : List ResultVar} {V : List Nat} (he : isExt f = false) (h : Tryz.prog.funcs[f]? = some F) (hb : F.body = some c) (hr : F.results = ⟨rs⟩) (hV : hv f = V) (hl : Nat.ble xs.length F.ntmps = true) :
    G ext f xs H = finish Tryz.prog rs H.length (evC Tryz.prog (G ext) (hd f) (hf f) 0 c (.go (Go.Ab.start xs V H))) :=
  callA_body (hx f xs H he) h hb hr hV (Nat.le_of_ble_eq_true hl)
/-- A closed run: loops k rounds, calls n deep. -/
theorem G_run {ext : Sem'} (hx : Clear ext) {f : Nat} {xs : List AV} {H : List AObj} {r : Out × List AObj} (k n : Nat) (h : callF Tryz.prog isExt hd hv hf k n f xs H = some r) : G ext f xs H = some r := callF_ok hx n f xs H r h
/-- A closed run where some calls' answers are known. -/
theorem G_runT {ext : Sem'} (hx : Clear ext) {f : Nat} {xs : List AV} {H : List AObj} {r : Out × List AObj} (tbl : List Fact) (ht : ∀ x, x ∈ tbl → G ext x.f x.as x.H = some x.r) (k n : Nat) (h : callT Tryz.prog isExt hd hv hf tbl k n f xs H = some r) : G ext f xs H = some r := callT_ok hx ht n f xs H r h
end Go.Proofs.YtibkpedaplbbpaaGreat
