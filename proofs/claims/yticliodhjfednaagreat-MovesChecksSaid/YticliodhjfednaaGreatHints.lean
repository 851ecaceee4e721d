/- Hints for the abstract evaluator, and the program's functions read as their bodies. Conditions: none. -/
import Derived.Test.YticliodhjfednaaGreatAbX4
import Derived.Test.YticliodhjfednaaGreatTy
import Derived.Test.YticliodhjfednaaGreatProg
namespace Go.Proofs.YticliodhjfednaaGreat
open Go Go.Ab
def hv : Nat→List Nat
  | 3=>[2, 4, 5, 6, 7, 8, 9, 10]
  | 4=>[1, 2]
  | 5=>[3, 6, 7, 8, 9, 10, 11, 12, 13, 14, 15, 16, 17, 18, 19]
  | 6=>[2, 4, 5, 6, 7, 8, 9, 10, 11, 12]
  | 7=>[1, 2, 3, 4]
  | 8=>[0]
  | 9=>[2, 4]
  | 10=>[2, 4]
  | 11=>[6]
  | 12=>[6]
  | 13=>[4, 5, 13, 14]
  | 14=>[1, 2, 3, 4]
  | 15=>[4, 5]
  | 16=>[1, 2, 3, 4, 5, 6, 15, 16, 30, 31]
  | 17=>[1, 2, 3, 4, 5, 6, 7, 8, 9, 10, 11]
  | 18=>[1, 2, 3]
  | 19=>[2, 3, 4, 5, 6, 7, 9, 10]
  | 20=>[1, 2, 3]
  | 21=>[2, 4, 5, 6, 7]
  | 22=>[1, 2, 3, 4, 5, 6, 7, 8]
  | 23=>[1, 2, 3, 4]
  | 24=>[2, 3, 4, 5]
  | 25=>[1, 2, 3, 5, 6, 16, 17, 18]
  | 26=>[1, 2, 3, 4, 5, 6, 7, 8, 10, 11, 12, 13, 15, 17, 35, 36, 52, 53, 54, 69, 70, 71, 81, 82, 83]
  | 27=>[1, 2, 3, 4, 5, 6, 7]
  | 28=>[6]
  | 29=>[4]
  | 30=>[2, 4, 5, 6, 7, 8, 9, 10, 11, 12, 13, 14]
  | 31=>[1, 2, 3, 4, 5, 6, 7, 8, 16, 17, 18, 28, 29, 30]
  | 32=>[2, 3, 4, 5, 6, 8, 9, 22, 23, 24]
  | 33=>[1, 2, 3, 4, 5]
  | 34=>[2, 3, 4, 5, 6, 7]
  | 35=>[4, 5]
  | 36=>[4]
  | 37=>[2, 4, 6]
  | 38=>[1, 2, 3, 4, 5, 6, 7]
  | 39=>[1, 2, 3, 4, 6, 7, 26, 32, 33, 34]
  | 40=>[1, 2, 3, 4, 5]
  | 41=>[1, 2, 4, 6, 13, 14, 15, 30, 31, 32]
  | 42=>[]
  | 43=>[8, 9, 10, 34, 35]
  | 44=>[2]
  | 45=>[1, 2]
  | 46=>[4, 6, 19, 20, 21]
  | 47=>[8, 9, 11, 12, 13, 16, 17, 18]
  | 48=>[2, 4, 6]
  | 49=>[1, 2, 3, 4, 5, 6, 7, 8]
  | 50=>[1, 2, 3, 4, 5]
  | 51=>[1, 2]
  | 52=>[1, 2, 3, 4]
  | 53=>[2, 3, 4, 5, 6, 7, 9, 10]
  | 54=>[3, 4, 6, 7, 8]
  | 55=>[2, 3, 4, 5, 9]
  | 56=>[1, 2, 4, 5, 1000000]
  | 57=>[4]
  | 58=>[4, 5, 7, 8]
  | 59=>[4]
  | 60=>[4]
  | 61=>[3]
  | 62=>[3, 4, 5, 6, 7, 8, 9, 10, 12, 13]
  | 63=>[1, 2, 3, 4, 6, 7, 9, 11, 13, 14, 15, 20, 21, 22, 41, 42, 43]
  | 64=>[1, 2]
  | 65=>[2, 3, 4]
  | 66=>[1, 2, 3, 4, 6, 7, 45, 46, 47]
  | 67=>[2, 3, 4]
  | 68=>[4]
  | 69=>[1, 2]
  | 70=>[2]
  | 71=>[2, 3]
  | 72=>[4]
  | 73=>[1, 2]
  | 74=>[4]
  | 75=>[4]
  | 76=>[2]
  | 77=>[2, 4]
  | 78=>[1, 2, 3, 5, 7, 8, 9]
  | 79=>[6, 7, 8, 9, 15, 16, 17]
  | 80=>[2, 3, 4, 6, 8, 9, 33, 34, 35]
  | 81=>[4, 6, 8, 9, 10, 11, 12]
  | 82=>[2]
  | 83=>[]
  | 84=>[2, 3]
  | 85=>[3, 4, 5, 6, 7, 9, 10, 11, 19, 20, 64, 68, 69, 70, 83, 84, 85]
  | 86=>[1, 2, 3, 4]
  | 87=>[2, 3, 4, 5]
  | 88=>[1, 2, 3, 4, 5, 6, 7]
  | 89=>[1, 2, 3, 4, 5, 6]
  | 90=>[3, 4, 5, 6, 7, 8, 9, 42, 43, 130]
  | 91=>[2, 4, 5]
  | 92=>[4]
  | 93=>[2, 3]
  | 94=>[1, 2]
  | 95=>[2, 4]
  | 96=>[4, 5]
  | 97=>[2]
  | 98=>[2, 3, 4, 5, 6, 7, 8, 17, 18, 19]
  | 99=>[2, 3, 4, 5, 6]
  | 100=>[2, 3, 4, 5, 6, 12, 20, 23]
  | 101=>[4, 5, 7, 8]
  | 102=>[4, 5]
  | 103=>[2]
  | 104=>[2, 3, 5, 7, 8, 9]
  | 105=>[4, 6, 8, 10, 12, 13, 14, 19, 20, 21, 33, 34, 35, 46, 47, 48]
  | 106=>[2, 3, 4]
  | 107=>[2, 3, 4, 5, 6, 7, 29]
  | 108=>[4, 5, 7, 8]
  | 109=>[2, 3]
  | 110=>[2]
  | 111=>[4, 5, 7, 8]
  | 112=>[2]
  | 113=>[2, 3, 4]
  | 114=>[4, 5, 7, 8]
  | 115=>[4, 5, 7, 8]
  | 116=>[1, 2]
  | 117=>[6]
  | 118=>[2, 4]
  | 119=>[7, 8, 9, 10]
  | 120=>[8, 9]
  | 121=>[2, 4, 5]
  | 122=>[2, 3, 4]
  | 123=>[2, 4, 5]
  | 124=>[2, 3, 4]
  | 125=>[3, 4, 5, 6, 7, 8, 9, 10]
  | 126=>[3, 4, 5, 6, 7, 8]
  | 127=>[2]
  | 128=>[2, 3, 4]
  | 129=>[2]
  | 130=>[2, 3]
  | 131=>[2, 3]
  | 132=>[2, 4]
  | 133=>[2, 3, 4, 5, 6, 7, 42, 43, 44]
  | 134=>[2, 4]
  | 135=>[2, 4]
  | 136=>[2, 4]
  | 137=>[2, 3, 4, 5, 9, 10, 104, 115]
  | 138=>[2]
  | 139=>[4, 5, 6, 7]
  | 140=>[3]
  | 141=>[4, 5, 8, 9, 10, 11]
  | 142=>[0]
  | 143=>[3]
  | 144=>[3]
  | 145=>[6]
  | 146=>[4, 5, 8, 9, 10]
  | 147=>[4]
  | 148=>[3, 6, 7, 8, 9]
  | 149=>[4, 5, 7, 8]
  | _=>[]
def hf3 : Nat→List Nat
  | 0=>[9, 10]
  | _=>[]
def hf5 : Nat→List Nat
  | 2=>[12, 13, 14, 15, 16, 17, 18, 19]
  | _=>[]
def hf6 : Nat→List Nat
  | 0=>[10, 11, 12]
  | _=>[]
def hf7 : Nat→List Nat
  | _=>[]
def hf13 : Nat→List Nat
  | 0=>[5]
  | _=>[]
def hf14 : Nat→List Nat
  | _=>[]
def hf15 : Nat→List Nat
  | _=>[]
def hf16 : Nat→List Nat
  | 0=>[4, 5, 6, 30, 31]
  | 2=>[6]
  | _=>[]
def hf17 : Nat→List Nat
  | 0=>[5, 6, 7, 8, 9, 10, 11]
  | 2=>[9, 10, 11]
  | _=>[]
def hf19 : Nat→List Nat
  | _=>[]
def hf21 : Nat→List Nat
  | _=>[]
def hf22 : Nat→List Nat
  | 0=>[7, 8]
  | _=>[]
def hf23 : Nat→List Nat
  | _=>[]
def hf24 : Nat→List Nat
  | _=>[]
def hf25 : Nat→List Nat
  | 0=>[5, 6]
  | _=>[]
def hf26 : Nat→List Nat
  | 0=>[6]
  | 2=>[10]
  | 4=>[13, 15, 17, 69, 70, 71, 81, 82, 83]
  | 6=>[15, 17, 81, 82, 83]
  | 8=>[17]
  | _=>[]
def hf27 : Nat→List Nat
  | 0=>[5, 6, 7]
  | _=>[]
def hf30 : Nat→List Nat
  | 0=>[9, 10, 11, 12, 13, 14]
  | _=>[]
def hf31 : Nat→List Nat
  | 0=>[4, 5, 6, 7, 8, 28, 29, 30]
  | 2=>[7, 8]
  | _=>[]
def hf32 : Nat→List Nat
  | 0=>[8, 9]
  | _=>[]
def hf33 : Nat→List Nat
  | 0=>[5]
  | _=>[]
def hf34 : Nat→List Nat
  | 0=>[7]
  | _=>[]
def hf35 : Nat→List Nat
  | _=>[]
def hf38 : Nat→List Nat
  | 2=>[6, 7]
  | _=>[]
def hf39 : Nat→List Nat
  | 3=>[6]
  | _=>[]
def hf41 : Nat→List Nat
  | 0=>[4]
  | 2=>[6]
  | _=>[]
def hf43 : Nat→List Nat
  | 0=>[10]
  | _=>[]
def hf46 : Nat→List Nat
  | 0=>[6]
  | _=>[]
def hf47 : Nat→List Nat
  | 0=>[11]
  | _=>[]
def hf49 : Nat→List Nat
  | 1=>[4, 5, 6, 7]
  | 3=>[7]
  | _=>[]
def hf50 : Nat→List Nat
  | 0=>[4]
  | _=>[]
def hf52 : Nat→List Nat
  | 0=>[4]
  | _=>[]
def hf53 : Nat→List Nat
  | _=>[]
def hf54 : Nat→List Nat
  | _=>[]
def hf58 : Nat→List Nat
  | 0=>[5]
  | _=>[]
def hf62 : Nat→List Nat
  | _=>[]
def hf63 : Nat→List Nat
  | 0=>[6, 7, 9, 20, 21, 22]
  | 2=>[9]
  | 4=>[11]
  | _=>[]
def hf66 : Nat→List Nat
  | 1=>[6, 7]
  | _=>[]
def hf78 : Nat→List Nat
  | 0=>[5]
  | _=>[]
def hf79 : Nat→List Nat
  | 0=>[7, 8, 9]
  | _=>[]
def hf80 : Nat→List Nat
  | 1=>[6]
  | _=>[]
def hf81 : Nat→List Nat
  | 0=>[11, 12]
  | 2=>[12]
  | _=>[]
def hf84 : Nat→List Nat
  | _=>[]
def hf85 : Nat→List Nat
  | 1=>[9]
  | 3=>[10, 11]
  | _=>[]
def hf87 : Nat→List Nat
  | 0=>[4, 5]
  | _=>[]
def hf88 : Nat→List Nat
  | 0=>[4, 5, 6]
  | 2=>[6]
  | _=>[]
def hf89 : Nat→List Nat
  | 0=>[4]
  | 4=>[6]
  | _=>[]
def hf91 : Nat→List Nat
  | _=>[]
def hf93 : Nat→List Nat
  | _=>[]
def hf98 : Nat→List Nat
  | 0=>[6, 7, 8]
  | _=>[]
def hf101 : Nat→List Nat
  | 0=>[5]
  | _=>[]
def hf104 : Nat→List Nat
  | 0=>[5]
  | _=>[]
def hf105 : Nat→List Nat
  | 0=>[4, 6, 19, 20, 21]
  | 2=>[6]
  | 4=>[8, 10, 46, 47, 48]
  | 6=>[10]
  | _=>[]
def hf108 : Nat→List Nat
  | 0=>[5]
  | _=>[]
def hf111 : Nat→List Nat
  | 0=>[5]
  | _=>[]
def hf114 : Nat→List Nat
  | 0=>[5]
  | _=>[]
def hf115 : Nat→List Nat
  | 0=>[5]
  | _=>[]
def hf119 : Nat→List Nat
  | 0=>[7]
  | _=>[]
def hf121 : Nat→List Nat
  | _=>[]
def hf123 : Nat→List Nat
  | _=>[]
def hf124 : Nat→List Nat
  | _=>[]
def hf126 : Nat→List Nat
  | _=>[]
def hf128 : Nat→List Nat
  | _=>[]
def hf133 : Nat→List Nat
  | 0=>[6, 7]
  | _=>[]
def hf139 : Nat→List Nat
  | 0=>[7]
  | _=>[]
def hf149 : Nat→List Nat
  | 0=>[5]
  | _=>[]
def hf : Nat→Nat→List Nat
  | 3=>hf3
  | 5=>hf5
  | 6=>hf6
  | 7=>hf7
  | 13=>hf13
  | 14=>hf14
  | 15=>hf15
  | 16=>hf16
  | 17=>hf17
  | 19=>hf19
  | 21=>hf21
  | 22=>hf22
  | 23=>hf23
  | 24=>hf24
  | 25=>hf25
  | 26=>hf26
  | 27=>hf27
  | 30=>hf30
  | 31=>hf31
  | 32=>hf32
  | 33=>hf33
  | 34=>hf34
  | 35=>hf35
  | 38=>hf38
  | 39=>hf39
  | 41=>hf41
  | 43=>hf43
  | 46=>hf46
  | 47=>hf47
  | 49=>hf49
  | 50=>hf50
  | 52=>hf52
  | 53=>hf53
  | 54=>hf54
  | 58=>hf58
  | 62=>hf62
  | 63=>hf63
  | 66=>hf66
  | 78=>hf78
  | 79=>hf79
  | 80=>hf80
  | 81=>hf81
  | 84=>hf84
  | 85=>hf85
  | 87=>hf87
  | 88=>hf88
  | 89=>hf89
  | 91=>hf91
  | 93=>hf93
  | 98=>hf98
  | 101=>hf101
  | 104=>hf104
  | 105=>hf105
  | 108=>hf108
  | 111=>hf111
  | 114=>hf114
  | 115=>hf115
  | 119=>hf119
  | 121=>hf121
  | 123=>hf123
  | 124=>hf124
  | 126=>hf126
  | 128=>hf128
  | 133=>hf133
  | 139=>hf139
  | 149=>hf149
  | _=>fun _=>[]
def hl3 : List (Nat×List Ht):=[(0, [⟨[], [], false, [(2, (0, 4)), (2, (1, 8))]⟩]), (6, [⟨[], [], false, [(6, (2, 3)), (6, (6, 1)), (6, (7, 13))]⟩]), (15, [⟨[], [], false, []⟩, ⟨[], [], false, []⟩, ⟨[], [], false, []⟩, ⟨[], [], true, []⟩, ⟨[], [], false, []⟩, ⟨[], [], false, []⟩, ⟨[], [], false, []⟩, ⟨[], [3], false, []⟩, ⟨[], [], false, []⟩, ⟨[], [], false, []⟩, ⟨[], [3], false, []⟩, ⟨[], [], false, []⟩, ⟨[], [], false, []⟩, ⟨[], [], false, []⟩, ⟨[], [], false, []⟩, ⟨[], [], false, []⟩, ⟨[], [], false, []⟩, ⟨[], [], true, []⟩, ⟨[], [], false, []⟩, ⟨[], [], false, []⟩, ⟨[], [], false, []⟩, ⟨[], [17], false, []⟩, ⟨[], [], false, []⟩, ⟨[], [], false, []⟩, ⟨[], [17], false, []⟩, ⟨[], [], false, []⟩, ⟨[], [], false, []⟩, ⟨[], [], false, []⟩, ⟨[], [], false, []⟩])]
def hl4 : List (Nat×List Ht):=[(0, [⟨[], [], false, [(1, (0, 4)), (1, (1, 8))]⟩]), (1, [⟨[], [], false, []⟩, ⟨[], [], false, []⟩, ⟨[], [], false, []⟩, ⟨[], [], false, []⟩, ⟨[], [], false, []⟩, ⟨[], [], false, []⟩, ⟨[], [], false, []⟩, ⟨[], [], false, []⟩, ⟨[], [], true, []⟩, ⟨[], [8], false, []⟩, ⟨[], [], false, []⟩, ⟨[], [], false, []⟩, ⟨[], [], false, []⟩, ⟨[], [], false, []⟩, ⟨[], [], false, []⟩, ⟨[], [], false, []⟩, ⟨[], [], false, []⟩])]
def hl5 : List (Nat×List Ht):=[(0, [⟨[], [], false, [(3, (0, 4)), (3, (1, 8))]⟩]), (3, [⟨[], [], false, [(7, (2, 3)), (7, (6, 1)), (7, (7, 13))]⟩]), (13, [⟨[], [], false, [(12, (7, 1)), (12, (8, 1))]⟩])]
def hl6 : List (Nat×List Ht):=[(0, [⟨[], [], false, [(2, (0, 4)), (2, (1, 8))]⟩]), (4, [⟨[], [], false, [(6, (2, 3)), (6, (6, 1)), (6, (7, 13))]⟩])]
def hl7 : List (Nat×List Ht):=[(0, [⟨[], [], false, [(1, (0, 4)), (1, (1, 8))]⟩])]
def hl8 : List (Nat×List Ht):=[]
def hl9 : List (Nat×List Ht):=[(0, [⟨[], [], false, [(2, (0, 4)), (2, (1, 8))]⟩])]
def hl10 : List (Nat×List Ht):=[(0, [⟨[], [], false, [(2, (0, 4)), (2, (1, 8))]⟩])]
def hl11 : List (Nat×List Ht):=[]
def hl12 : List (Nat×List Ht):=[]
def hl13 : List (Nat×List Ht):=[]
def hl14 : List (Nat×List Ht):=[(0, [⟨[], [], false, [(1, (2, 3)), (1, (6, 1)), (1, (7, 13))]⟩])]
def hl15 : List (Nat×List Ht):=[(6, [])]
def hl16 : List (Nat×List Ht):=[(0, [⟨[], [], false, [(1, (0, 4)), (1, (1, 8))]⟩])]
def hl17 : List (Nat×List Ht):=[(0, [⟨[], [], false, [(1, (0, 4)), (1, (1, 8))]⟩]), (7, [⟨[], [], false, [(5, (2, 3)), (5, (6, 1)), (5, (7, 13))]⟩]), (14, [])]
def hl18 : List (Nat×List Ht):=[(0, [⟨[], [], false, [(1, (7, 1)), (1, (8, 1))]⟩])]
def hl19 : List (Nat×List Ht):=[(0, [⟨[], [], false, [(2, (2, 3)), (2, (6, 1)), (2, (7, 13)), (3, (7, 1)), (3, (8, 1))]⟩]), (13, []), (15, []), (20, []), (26, [])]
def hl20 : List (Nat×List Ht):=[(0, [⟨[], [], false, [(1, (7, 1)), (1, (8, 1))]⟩])]
def hl21 : List (Nat×List Ht):=[(0, [⟨[], [], false, [(2, (2, 3)), (2, (6, 1)), (2, (7, 13))]⟩]), (6, [])]
def hl22 : List (Nat×List Ht):=[(0, [⟨[], [], false, [(1, (2, 3)), (1, (6, 1)), (1, (7, 13))]⟩]), (6, [⟨[], [], false, [(5, (0, 1))]⟩]), (10, [])]
def hl23 : List (Nat×List Ht):=[(0, [⟨[], [], false, [(1, (0, 4)), (1, (1, 8))]⟩])]
def hl24 : List (Nat×List Ht):=[(0, [⟨[], [], false, [(2, (0, 4)), (2, (1, 8))]⟩]), (2, [⟨[], [], false, [(4, (2, 3)), (4, (6, 1)), (4, (7, 13))]⟩])]
def hl25 : List (Nat×List Ht):=[(0, [⟨[], [], false, [(1, (0, 4)), (1, (1, 8))]⟩]), (8, [⟨[], [], false, [(5, (2, 3)), (5, (6, 1)), (5, (7, 13))]⟩])]
def hl26 : List (Nat×List Ht):=[(0, [⟨[], [], false, [(1, (2, 3)), (1, (6, 1)), (1, (7, 13))]⟩]), (2, [⟨[], [], false, [(27, (2, 3)), (27, (6, 1)), (27, (7, 13)), (27, (8, 1)), (27, (9, 1))]⟩]), (25, [⟨[], [], false, []⟩, ⟨[], [], false, []⟩, ⟨[], [], false, []⟩, ⟨[], [], false, []⟩, ⟨[], [], false, []⟩, ⟨[], [], false, []⟩, ⟨[], [], false, []⟩, ⟨[], [], false, []⟩, ⟨[], [], false, []⟩, ⟨[], [], false, []⟩, ⟨[], [], false, []⟩, ⟨[], [], false, []⟩, ⟨[], [], false, []⟩, ⟨[], [], false, []⟩, ⟨[], [], false, []⟩, ⟨[], [], true, []⟩, ⟨[], [], false, []⟩, ⟨[], [], false, []⟩, ⟨[], [], false, []⟩, ⟨[], [], false, []⟩, ⟨[], [15], false, []⟩, ⟨[], [], false, []⟩, ⟨[], [], false, []⟩, ⟨[], [15], false, []⟩, ⟨[], [], false, []⟩, ⟨[], [], false, []⟩, ⟨[], [], false, []⟩, ⟨[], [], false, []⟩, ⟨[], [15], false, []⟩, ⟨[], [], false, []⟩, ⟨[], [], false, []⟩, ⟨[], [], false, []⟩, ⟨[], [], false, []⟩, ⟨[], [], false, []⟩, ⟨[], [], false, []⟩])]
def hl27 : List (Nat×List Ht):=[(0, [⟨[], [], false, [(1, (0, 4)), (1, (1, 8))]⟩]), (9, [⟨[], [], false, [(5, (2, 3)), (5, (6, 1)), (5, (7, 13))]⟩]), (22, [])]
def hl28 : List (Nat×List Ht):=[]
def hl29 : List (Nat×List Ht):=[]
def hl30 : List (Nat×List Ht):=[(0, [⟨[], [], false, [(2, (2, 3)), (2, (6, 1)), (2, (7, 13))]⟩]), (6, [⟨[], [], false, [(7, (0, 1))]⟩]), (12, []), (21, []), (22, [])]
def hl31 : List (Nat×List Ht):=[(0, [⟨[], [], false, [(1, (0, 4)), (1, (1, 8))]⟩]), (6, [⟨[], [], false, [(5, (2, 3)), (5, (6, 1)), (5, (7, 13))]⟩]), (10, [⟨[], [], false, [(8, (7, 1)), (8, (8, 1))]⟩])]
def hl32 : List (Nat×List Ht):=[(1, [])]
def hl33 : List (Nat×List Ht):=[(0, [⟨[], [], false, [(1, (0, 4)), (1, (1, 8))]⟩]), (10, [])]
def hl34 : List (Nat×List Ht):=[(0, [⟨[], [], false, [(2, (2, 3)), (2, (6, 1)), (2, (7, 13)), (3, (7, 1)), (3, (8, 1))]⟩]), (8, [])]
def hl35 : List (Nat×List Ht):=[]
def hl36 : List (Nat×List Ht):=[]
def hl37 : List (Nat×List Ht):=[(0, [⟨[], [], false, [(2, (7, 1)), (2, (8, 1))]⟩]), (3, [⟨[], [], false, [(4, (0, 1))]⟩]), (6, [⟨[], [], false, [(4, (0, 1))]⟩]), (7, [⟨[], [], false, [(4, (0, 1))]⟩]), (10, [⟨[], [], false, [(4, (0, 1))]⟩])]
def hl38 : List (Nat×List Ht):=[(0, [⟨[], [], false, [(1, (0, 4)), (1, (1, 8))]⟩]), (12, [⟨[], [], false, [(6, (2, 3)), (6, (6, 1)), (6, (7, 13))]⟩])]
def hl39 : List (Nat×List Ht):=[(0, [⟨[], [], false, [(1, (0, 4)), (1, (1, 8))]⟩]), (1, [⟨[], [], false, [(3, (0, 4)), (3, (1, 8)), (3, (4, 3)), (3, (8, 1)), (3, (9, 13))]⟩]), (12, [⟨[], [], false, [(6, (2, 3)), (6, (6, 1)), (6, (7, 13))]⟩])]
def hl40 : List (Nat×List Ht):=[(0, [⟨[], [], false, [(1, (0, 4)), (1, (1, 8))]⟩])]
def hl41 : List (Nat×List Ht):=[(0, [⟨[], [], false, [(1, (2, 3)), (1, (6, 1)), (1, (7, 13))]⟩]), (1, [⟨[], [], false, []⟩, ⟨[], [], false, []⟩, ⟨[], [], true, []⟩, ⟨[], [], false, []⟩, ⟨[], [2], false, []⟩, ⟨[], [], false, []⟩, ⟨[], [], false, []⟩, ⟨[], [], false, []⟩, ⟨[], [], false, []⟩]), (11, [⟨[], [], false, [(6, (7, 1)), (6, (8, 1))]⟩]), (12, [⟨[], [], false, []⟩, ⟨[], [], false, []⟩, ⟨[], [], true, []⟩, ⟨[], [], false, []⟩, ⟨[], [2], false, []⟩, ⟨[], [], false, []⟩, ⟨[], [], false, []⟩])]
def hl42 : List (Nat×List Ht):=[(0, []), (2, [])]
def hl43 : List (Nat×List Ht):=[(2, []), (8, []), (9, []), (10, [])]
def hl44 : List (Nat×List Ht):=[]
def hl45 : List (Nat×List Ht):=[(0, [⟨[], [], false, [(1, (2, 3)), (1, (6, 1)), (1, (7, 13)), (2, (0, 1001))]⟩]), (5, [⟨[], [], false, [(2, (0, 3000))]⟩])]
def hl46 : List (Nat×List Ht):=[(1, [])]
def hl47 : List (Nat×List Ht):=[]
def hl48 : List (Nat×List Ht):=[(0, [⟨[], [], false, [(2, (7, 1)), (2, (8, 1))]⟩]), (3, [⟨[], [], false, [(4, (0, 1))]⟩]), (8, [⟨[], [], false, [(4, (0, 1))]⟩])]
def hl49 : List (Nat×List Ht):=[(0, [⟨[], [], false, [(1, (0, 4)), (1, (1, 8))]⟩]), (10, [⟨[], [], false, [(4, (2, 3)), (4, (6, 1)), (4, (7, 13))]⟩]), (19, [])]
def hl50 : List (Nat×List Ht):=[(0, [⟨[], [], false, [(1, (0, 4)), (1, (1, 8))]⟩])]
def hl51 : List (Nat×List Ht):=[]
def hl52 : List (Nat×List Ht):=[(0, [⟨[], [], false, [(1, (2, 3)), (1, (6, 1)), (1, (7, 13))]⟩])]
def hl53 : List (Nat×List Ht):=[(0, [⟨[], [], false, [(2, (2, 3)), (2, (6, 1)), (2, (7, 13)), (3, (7, 1)), (3, (8, 1))]⟩]), (13, []), (19, [])]
def hl54 : List (Nat×List Ht):=[(0, [⟨[], [], false, [(3, (2, 3)), (3, (6, 1)), (3, (7, 13)), (4, (7, 1)), (4, (8, 1))]⟩])]
def hl55 : List (Nat×List Ht):=[(0, [⟨[], [], false, [(2, (0, 4)), (2, (1, 8)), (2, (4, 3)), (2, (8, 1)), (2, (9, 13)), (3, (7, 1)), (3, (8, 1))]⟩]), (4, [⟨[], [], false, []⟩, ⟨[], [], true, []⟩, ⟨[], [], false, []⟩, ⟨[], [], true, []⟩, ⟨[], [], false, []⟩, ⟨[], [], false, []⟩, ⟨[], [], false, []⟩, ⟨[], [1, 3], false, []⟩, ⟨[], [], false, []⟩, ⟨[], [], false, []⟩, ⟨[], [], false, []⟩, ⟨[], [], true, []⟩, ⟨[], [], false, []⟩, ⟨[], [], true, []⟩, ⟨[], [], false, []⟩, ⟨[], [], false, []⟩, ⟨[], [], false, []⟩, ⟨[], [11, 13], false, []⟩, ⟨[], [], false, []⟩, ⟨[], [], false, []⟩, ⟨[], [], false, []⟩]), (6, [⟨[], [], false, []⟩, ⟨[], [], true, []⟩, ⟨[], [], false, []⟩, ⟨[], [], true, []⟩, ⟨[], [], false, []⟩, ⟨[], [], false, []⟩, ⟨[], [], false, []⟩, ⟨[], [1, 3], false, []⟩, ⟨[], [], false, []⟩, ⟨[], [], false, []⟩, ⟨[], [], false, []⟩, ⟨[], [], false, []⟩, ⟨[], [], false, []⟩, ⟨[], [], false, []⟩, ⟨[], [], false, []⟩, ⟨[], [], false, []⟩, ⟨[], [], false, []⟩, ⟨[], [], false, []⟩, ⟨[], [], false, []⟩, ⟨[], [], false, []⟩, ⟨[], [], false, []⟩, ⟨[], [], false, []⟩, ⟨[], [], false, []⟩, ⟨[], [], false, []⟩])]
def hl56 : List (Nat×List Ht):=[(0, [⟨[], [], false, [(1, (7, 1)), (1, (8, 1))]⟩])]
def hl57 : List (Nat×List Ht):=[]
def hl58 : List (Nat×List Ht):=[]
def hl59 : List (Nat×List Ht):=[]
def hl60 : List (Nat×List Ht):=[]
def hl61 : List (Nat×List Ht):=[]
def hl62 : List (Nat×List Ht):=[(0, [⟨[], [], false, [(3, (0, 4)), (3, (1, 8)), (4, (2, 3)), (4, (6, 1)), (4, (7, 13)), (5, (7, 1)), (5, (8, 1))]⟩]), (5, []), (15, [⟨[], [], false, [(8, (2, 3)), (8, (6, 1)), (8, (7, 13))]⟩]), (19, []), (21, []), (26, [])]
def hl63 : List (Nat×List Ht):=[(0, [⟨[], [], false, [(1, (0, 4)), (1, (1, 8))]⟩]), (4, [⟨[], [], false, [(6, (1, 5))]⟩]), (17, [⟨[], [], false, [(11, (2, 3)), (11, (6, 1)), (11, (7, 13))]⟩])]
def hl64 : List (Nat×List Ht):=[(0, [⟨[], [], false, [(1, (0, 4)), (1, (1, 8))]⟩])]
def hl65 : List (Nat×List Ht):=[(0, [⟨[], [], false, [(2, (0, 4)), (2, (1, 8)), (2, (4, 3)), (2, (8, 1)), (2, (9, 13))]⟩])]
def hl66 : List (Nat×List Ht):=[(0, [⟨[], [], false, [(1, (0, 4)), (1, (1, 8)), (1, (4, 3)), (1, (8, 1)), (1, (9, 13))]⟩]), (9, [⟨[], [], false, [(6, (7, 1)), (6, (8, 1))]⟩])]
def hl67 : List (Nat×List Ht):=[(0, [⟨[], [], false, [(2, (0, 4)), (2, (1, 8))]⟩])]
def hl68 : List (Nat×List Ht):=[]
def hl69 : List (Nat×List Ht):=[]
def hl70 : List (Nat×List Ht):=[]
def hl71 : List (Nat×List Ht):=[(0, [⟨[], [], false, [(2, (1, 5))]⟩])]
def hl72 : List (Nat×List Ht):=[]
def hl73 : List (Nat×List Ht):=[(0, [⟨[], [], false, [(1, (2, 3)), (1, (6, 1)), (1, (7, 13))]⟩])]
def hl74 : List (Nat×List Ht):=[]
def hl75 : List (Nat×List Ht):=[]
def hl76 : List (Nat×List Ht):=[]
def hl77 : List (Nat×List Ht):=[]
def hl78 : List (Nat×List Ht):=[(0, [⟨[], [], false, [(1, (2, 3)), (1, (6, 1)), (1, (7, 13))]⟩])]
def hl79 : List (Nat×List Ht):=[]
def hl80 : List (Nat×List Ht):=[(0, [⟨[], [], false, [(2, (2, 3)), (2, (6, 1)), (2, (7, 13)), (3, (7, 1)), (3, (8, 1))]⟩]), (4, [⟨[], [], false, [(4, (0, 2))]⟩]), (7, [⟨[], [], false, [(4, (0, 2))]⟩])]
def hl81 : List (Nat×List Ht):=[(0, [⟨[], [], false, [(4, (2, 3)), (4, (6, 1)), (4, (7, 13))]⟩]), (1, [⟨[], [], false, [(8, (0, 1))]⟩]), (2, [⟨[], [], false, [(9, (0, 1002))]⟩])]
def hl82 : List (Nat×List Ht):=[]
def hl83 : List (Nat×List Ht):=[]
def hl84 : List (Nat×List Ht):=[(3, [])]
def hl85 : List (Nat×List Ht):=[(0, [⟨[], [], false, [(2, (2, 3)), (2, (6, 1)), (2, (7, 13)), (3, (7, 1)), (3, (8, 1))]⟩]), (1, [⟨[], [], false, [(13, (0, 2))]⟩]), (15, [])]
def hl86 : List (Nat×List Ht):=[(0, [⟨[], [], false, [(1, (7, 1)), (1, (8, 1))]⟩])]
def hl87 : List (Nat×List Ht):=[(6, []), (11, [])]
def hl88 : List (Nat×List Ht):=[(0, [⟨[], [], false, [(1, (0, 4)), (1, (1, 8))]⟩]), (4, []), (13, []), (18, [])]
def hl89 : List (Nat×List Ht):=[(0, [⟨[], [], false, [(1, (0, 4)), (1, (1, 8))]⟩]), (7, []), (12, []), (17, [])]
def hl90 : List (Nat×List Ht):=[(0, [⟨[], [], false, [(3, (0, 4)), (3, (1, 8)), (4, (2, 3)), (4, (6, 1)), (4, (7, 13)), (5, (7, 1)), (5, (8, 1))]⟩]), (4, [⟨[], [], false, []⟩, ⟨[], [], false, []⟩, ⟨[], [], false, []⟩, ⟨[], [], false, []⟩, ⟨[], [], false, []⟩, ⟨[], [], false, []⟩, ⟨[], [], false, []⟩, ⟨[], [], false, []⟩, ⟨[], [], false, []⟩, ⟨[], [], true, []⟩, ⟨[], [], false, []⟩, ⟨[], [9], false, []⟩, ⟨[], [], false, []⟩, ⟨[], [], false, []⟩, ⟨[], [], false, []⟩]), (27, []), (31, []), (46, [])]
def hl91 : List (Nat×List Ht):=[(0, [⟨[], [], false, [(2, (0, 4)), (2, (1, 8))]⟩])]
def hl92 : List (Nat×List Ht):=[]
def hl93 : List (Nat×List Ht):=[]
def hl94 : List (Nat×List Ht):=[]
def hl95 : List (Nat×List Ht):=[(0, [⟨[], [], false, [(2, (0, 4)), (2, (1, 8)), (2, (4, 3)), (2, (8, 1)), (2, (9, 13))]⟩])]
def hl96 : List (Nat×List Ht):=[]
def hl97 : List (Nat×List Ht):=[]
def hl98 : List (Nat×List Ht):=[(0, [⟨[], [], false, [(2, (0, 4)), (2, (1, 8)), (2, (4, 3)), (2, (8, 1)), (2, (9, 13)), (3, (7, 1)), (3, (8, 1))]⟩]), (1, [⟨[], [], false, [(5, (2, 3)), (5, (6, 1)), (5, (7, 13))]⟩]), (9, [⟨[], [], false, []⟩, ⟨[], [], false, []⟩, ⟨[], [], false, []⟩, ⟨[], [], true, []⟩, ⟨[], [], false, []⟩, ⟨[], [], false, []⟩, ⟨[], [3], false, []⟩, ⟨[], [], false, []⟩, ⟨[], [], false, []⟩])]
def hl99 : List (Nat×List Ht):=[(0, [⟨[], [], false, [(2, (0, 4)), (2, (1, 8)), (2, (4, 3)), (2, (8, 1)), (2, (9, 13)), (3, (7, 1)), (3, (8, 1))]⟩]), (3, [⟨[], [], false, []⟩, ⟨[], [], true, []⟩, ⟨[], [], false, []⟩, ⟨[], [], true, []⟩, ⟨[], [], false, []⟩, ⟨[], [], false, []⟩, ⟨[], [], false, []⟩, ⟨[], [1, 3], false, []⟩, ⟨[], [], false, []⟩, ⟨[], [], false, []⟩])]
def hl100 : List (Nat×List Ht):=[]
def hl101 : List (Nat×List Ht):=[]
def hl102 : List (Nat×List Ht):=[]
def hl103 : List (Nat×List Ht):=[]
def hl104 : List (Nat×List Ht):=[]
def hl105 : List (Nat×List Ht):=[(2, [⟨[], [], false, [(4, (1, 5))]⟩]), (11, [⟨[], [], false, [(8, (2, 3)), (8, (6, 1)), (8, (7, 13))]⟩])]
def hl106 : List (Nat×List Ht):=[(0, [⟨[], [], false, [(2, (0, 4)), (2, (1, 8))]⟩])]
def hl107 : List (Nat×List Ht):=[(0, [⟨[], [], false, [(2, (0, 4)), (2, (1, 8)), (2, (4, 3)), (2, (8, 1)), (2, (9, 13)), (3, (7, 1)), (3, (8, 1))]⟩]), (19, [⟨[], [], false, []⟩, ⟨[], [], false, []⟩, ⟨[], [], false, []⟩, ⟨[], [], true, []⟩, ⟨[], [], false, []⟩, ⟨[], [], false, []⟩, ⟨[], [], false, []⟩, ⟨[], [3], false, []⟩, ⟨[], [], false, []⟩, ⟨[], [], false, []⟩, ⟨[], [], false, []⟩])]
def hl108 : List (Nat×List Ht):=[]
def hl109 : List (Nat×List Ht):=[(0, [⟨[], [], false, [(2, (2, 3)), (2, (6, 1)), (2, (7, 13))]⟩])]
def hl110 : List (Nat×List Ht):=[]
def hl111 : List (Nat×List Ht):=[]
def hl112 : List (Nat×List Ht):=[]
def hl113 : List (Nat×List Ht):=[]
def hl114 : List (Nat×List Ht):=[]
def hl115 : List (Nat×List Ht):=[]
def hl116 : List (Nat×List Ht):=[]
def hl117 : List (Nat×List Ht):=[(2, [⟨[], [], true, []⟩, ⟨[], [], false, []⟩, ⟨[], [], false, []⟩, ⟨[], [], false, []⟩, ⟨[], [0], false, []⟩, ⟨[], [], false, []⟩, ⟨[], [], false, []⟩, ⟨[], [], false, []⟩, ⟨[], [], false, []⟩])]
def hl118 : List (Nat×List Ht):=[(0, [⟨[], [], false, [(2, (2, 3)), (2, (6, 1)), (2, (7, 13))]⟩])]
def hl119 : List (Nat×List Ht):=[]
def hl120 : List (Nat×List Ht):=[]
def hl121 : List (Nat×List Ht):=[(0, [⟨[], [], false, [(2, (0, 4)), (2, (1, 8))]⟩])]
def hl122 : List (Nat×List Ht):=[(0, [⟨[], [], false, [(2, (0, 4)), (2, (1, 8))]⟩])]
def hl123 : List (Nat×List Ht):=[(0, [⟨[], [], false, [(2, (2, 3)), (2, (6, 1)), (2, (7, 13))]⟩]), (4, [])]
def hl124 : List (Nat×List Ht):=[(1, [⟨[], [], false, [(3, (0, 1))]⟩])]
def hl125 : List (Nat×List Ht):=[(0, [⟨[], [], false, [(3, (0, 4)), (3, (1, 8)), (4, (2, 3)), (4, (6, 1)), (4, (7, 13)), (5, (7, 1)), (5, (8, 1))]⟩])]
def hl126 : List (Nat×List Ht):=[(0, [⟨[], [], false, [(3, (0, 4)), (3, (1, 8)), (4, (2, 3)), (4, (6, 1)), (4, (7, 13)), (5, (7, 1)), (5, (8, 1))]⟩]), (3, [⟨[], [], false, [(7, (2, 3)), (7, (6, 1)), (7, (7, 13))]⟩]), (9, []), (11, [])]
def hl127 : List (Nat×List Ht):=[]
def hl128 : List (Nat×List Ht):=[]
def hl129 : List (Nat×List Ht):=[]
def hl130 : List (Nat×List Ht):=[(0, [⟨[], [], false, [(2, (1, 5))]⟩])]
def hl131 : List (Nat×List Ht):=[]
def hl132 : List (Nat×List Ht):=[(0, [⟨[], [], false, [(2, (0, 4)), (2, (1, 8)), (2, (4, 3)), (2, (8, 1)), (2, (9, 13))]⟩])]
def hl133 : List (Nat×List Ht):=[(0, [⟨[], [], false, [(2, (0, 4)), (2, (1, 8)), (2, (4, 3)), (2, (8, 1)), (2, (9, 13)), (3, (7, 1)), (3, (8, 1))]⟩]), (3, [⟨[], [], false, [(5, (2, 3)), (5, (6, 1)), (5, (7, 13))]⟩]), (9, [⟨[], [], false, []⟩, ⟨[], [], false, []⟩, ⟨[], [], true, []⟩, ⟨[], [], false, []⟩, ⟨[], [2], false, []⟩, ⟨[], [], false, []⟩, ⟨[], [], false, []⟩, ⟨[], [], false, []⟩, ⟨[], [2], false, []⟩, ⟨[], [], false, []⟩]), (12, [⟨[], [], false, []⟩, ⟨[], [], false, []⟩, ⟨[], [], false, []⟩, ⟨[], [], true, []⟩, ⟨[], [], false, []⟩, ⟨[], [], false, []⟩, ⟨[], [3], false, []⟩, ⟨[], [], false, []⟩, ⟨[], [], false, []⟩, ⟨[], [], false, []⟩])]
def hl134 : List (Nat×List Ht):=[(0, [⟨[], [], false, [(2, (0, 4)), (2, (1, 8)), (2, (4, 3)), (2, (8, 1)), (2, (9, 13))]⟩])]
def hl135 : List (Nat×List Ht):=[(0, [⟨[], [], false, [(2, (0, 4)), (2, (1, 8)), (2, (4, 3)), (2, (8, 1)), (2, (9, 13))]⟩])]
def hl136 : List (Nat×List Ht):=[(0, [⟨[], [], false, [(2, (0, 4)), (2, (1, 8)), (2, (4, 3)), (2, (8, 1)), (2, (9, 13))]⟩])]
def hl137 : List (Nat×List Ht):=[(0, [⟨[], [], false, [(2, (0, 4)), (2, (1, 8)), (2, (4, 3)), (2, (8, 1)), (2, (9, 13)), (3, (7, 1)), (3, (8, 1))]⟩]), (9, [⟨[], [], false, []⟩, ⟨[], [], false, []⟩, ⟨[], [], false, []⟩, ⟨[], [], false, []⟩, ⟨[], [], false, []⟩, ⟨[], [], false, []⟩, ⟨[], [], false, []⟩, ⟨[], [], false, []⟩, ⟨[], [], true, []⟩, ⟨[], [], false, []⟩, ⟨[], [8], false, []⟩, ⟨[], [], false, []⟩, ⟨[], [], false, []⟩, ⟨[], [], false, []⟩]), (17, [⟨[], [], false, []⟩, ⟨[], [], false, []⟩, ⟨[], [], false, []⟩, ⟨[], [], true, []⟩, ⟨[], [], false, []⟩, ⟨[], [], false, []⟩, ⟨[], [], false, []⟩, ⟨[], [], false, []⟩, ⟨[], [], false, []⟩, ⟨[], [], false, []⟩, ⟨[], [], true, []⟩, ⟨[], [], false, []⟩, ⟨[], [], false, []⟩, ⟨[], [], true, []⟩, ⟨[], [], false, []⟩, ⟨[], [3, 10, 13], false, []⟩, ⟨[], [], false, []⟩, ⟨[], [], false, []⟩, ⟨[], [], false, []⟩]), (19, [⟨[], [], false, []⟩, ⟨[], [], false, []⟩, ⟨[], [], false, []⟩, ⟨[], [], false, []⟩, ⟨[], [], false, []⟩, ⟨[], [], false, []⟩, ⟨[], [], false, []⟩, ⟨[], [], false, []⟩, ⟨[], [], false, []⟩, ⟨[], [], true, []⟩, ⟨[], [9], false, []⟩, ⟨[], [], false, []⟩, ⟨[], [9], false, []⟩, ⟨[], [], false, []⟩, ⟨[], [], false, []⟩, ⟨[], [], false, []⟩, ⟨[], [], false, []⟩, ⟨[], [], false, []⟩]), (28, [⟨[], [], false, []⟩, ⟨[], [], false, []⟩, ⟨[], [], false, []⟩, ⟨[], [], true, []⟩, ⟨[], [], false, []⟩, ⟨[], [], false, []⟩, ⟨[], [3], false, []⟩, ⟨[], [], false, []⟩, ⟨[], [3], false, []⟩, ⟨[], [], false, []⟩, ⟨[], [], false, []⟩, ⟨[], [3], false, []⟩, ⟨[], [], false, []⟩, ⟨[], [], false, []⟩, ⟨[], [], false, []⟩, ⟨[], [], false, []⟩])]
def hl138 : List (Nat×List Ht):=[]
def hl139 : List (Nat×List Ht):=[]
def hl140 : List (Nat×List Ht):=[]
def hl141 : List (Nat×List Ht):=[(0, [⟨[], [], false, [(4, (0, 4)), (4, (1, 8)), (5, (2, 3)), (5, (6, 1)), (5, (7, 13))]⟩]), (4, [⟨[], [], false, []⟩, ⟨[], [], true, []⟩, ⟨[], [], false, []⟩, ⟨[], [], false, []⟩, ⟨[], [], false, []⟩, ⟨[], [1], false, []⟩, ⟨[], [], false, []⟩, ⟨[], [], false, []⟩, ⟨[], [], false, []⟩, ⟨[], [], false, []⟩])]
def hl142 : List (Nat×List Ht):=[(1, [⟨[], [], false, [(0, (0, 1))]⟩])]
def hl143 : List (Nat×List Ht):=[]
def hl144 : List (Nat×List Ht):=[]
def hl145 : List (Nat×List Ht):=[]
def hl146 : List (Nat×List Ht):=[(0, [⟨[], [], false, [(4, (0, 4)), (4, (1, 8)), (4, (4, 3)), (4, (8, 1)), (4, (9, 13)), (5, (7, 1)), (5, (8, 1))]⟩]), (4, [⟨[], [], true, []⟩, ⟨[], [], false, []⟩, ⟨[], [], false, []⟩, ⟨[], [0], false, []⟩, ⟨[], [], false, []⟩, ⟨[], [], false, []⟩, ⟨[], [], false, []⟩, ⟨[], [], false, []⟩, ⟨[], [], false, []⟩, ⟨[], [], false, []⟩, ⟨[], [], false, []⟩, ⟨[], [], false, []⟩, ⟨[], [], false, []⟩])]
def hl147 : List (Nat×List Ht):=[]
def hl148 : List (Nat×List Ht):=[(0, [⟨[], [], false, [(3, (0, 4)), (3, (1, 8)), (3, (4, 3)), (3, (8, 1)), (3, (9, 13))]⟩]), (4, [⟨[], [], false, []⟩, ⟨[], [], false, []⟩, ⟨[], [], true, []⟩, ⟨[], [], false, []⟩, ⟨[], [], false, []⟩, ⟨[], [], false, []⟩, ⟨[], [], false, []⟩, ⟨[], [2], false, []⟩, ⟨[], [], false, []⟩, ⟨[], [], false, []⟩, ⟨[], [], false, []⟩, ⟨[], [], false, []⟩])]
def hl149 : List (Nat×List Ht):=[]
def hd : Nat→Nat→Option (List Ht)
  | 3=>lookH hl3
  | 4=>lookH hl4
  | 5=>lookH hl5
  | 6=>lookH hl6
  | 7=>lookH hl7
  | 8=>lookH hl8
  | 9=>lookH hl9
  | 10=>lookH hl10
  | 11=>lookH hl11
  | 12=>lookH hl12
  | 13=>lookH hl13
  | 14=>lookH hl14
  | 15=>lookH hl15
  | 16=>lookH hl16
  | 17=>lookH hl17
  | 18=>lookH hl18
  | 19=>lookH hl19
  | 20=>lookH hl20
  | 21=>lookH hl21
  | 22=>lookH hl22
  | 23=>lookH hl23
  | 24=>lookH hl24
  | 25=>lookH hl25
  | 26=>lookH hl26
  | 27=>lookH hl27
  | 28=>lookH hl28
  | 29=>lookH hl29
  | 30=>lookH hl30
  | 31=>lookH hl31
  | 32=>lookH hl32
  | 33=>lookH hl33
  | 34=>lookH hl34
  | 35=>lookH hl35
  | 36=>lookH hl36
  | 37=>lookH hl37
  | 38=>lookH hl38
  | 39=>lookH hl39
  | 40=>lookH hl40
  | 41=>lookH hl41
  | 42=>lookH hl42
  | 43=>lookH hl43
  | 44=>lookH hl44
  | 45=>lookH hl45
  | 46=>lookH hl46
  | 47=>lookH hl47
  | 48=>lookH hl48
  | 49=>lookH hl49
  | 50=>lookH hl50
  | 51=>lookH hl51
  | 52=>lookH hl52
  | 53=>lookH hl53
  | 54=>lookH hl54
  | 55=>lookH hl55
  | 56=>lookH hl56
  | 57=>lookH hl57
  | 58=>lookH hl58
  | 59=>lookH hl59
  | 60=>lookH hl60
  | 61=>lookH hl61
  | 62=>lookH hl62
  | 63=>lookH hl63
  | 64=>lookH hl64
  | 65=>lookH hl65
  | 66=>lookH hl66
  | 67=>lookH hl67
  | 68=>lookH hl68
  | 69=>lookH hl69
  | 70=>lookH hl70
  | 71=>lookH hl71
  | 72=>lookH hl72
  | 73=>lookH hl73
  | 74=>lookH hl74
  | 75=>lookH hl75
  | 76=>lookH hl76
  | 77=>lookH hl77
  | 78=>lookH hl78
  | 79=>lookH hl79
  | 80=>lookH hl80
  | 81=>lookH hl81
  | 82=>lookH hl82
  | 83=>lookH hl83
  | 84=>lookH hl84
  | 85=>lookH hl85
  | 86=>lookH hl86
  | 87=>lookH hl87
  | 88=>lookH hl88
  | 89=>lookH hl89
  | 90=>lookH hl90
  | 91=>lookH hl91
  | 92=>lookH hl92
  | 93=>lookH hl93
  | 94=>lookH hl94
  | 95=>lookH hl95
  | 96=>lookH hl96
  | 97=>lookH hl97
  | 98=>lookH hl98
  | 99=>lookH hl99
  | 100=>lookH hl100
  | 101=>lookH hl101
  | 102=>lookH hl102
  | 103=>lookH hl103
  | 104=>lookH hl104
  | 105=>lookH hl105
  | 106=>lookH hl106
  | 107=>lookH hl107
  | 108=>lookH hl108
  | 109=>lookH hl109
  | 110=>lookH hl110
  | 111=>lookH hl111
  | 112=>lookH hl112
  | 113=>lookH hl113
  | 114=>lookH hl114
  | 115=>lookH hl115
  | 116=>lookH hl116
  | 117=>lookH hl117
  | 118=>lookH hl118
  | 119=>lookH hl119
  | 120=>lookH hl120
  | 121=>lookH hl121
  | 122=>lookH hl122
  | 123=>lookH hl123
  | 124=>lookH hl124
  | 125=>lookH hl125
  | 126=>lookH hl126
  | 127=>lookH hl127
  | 128=>lookH hl128
  | 129=>lookH hl129
  | 130=>lookH hl130
  | 131=>lookH hl131
  | 132=>lookH hl132
  | 133=>lookH hl133
  | 134=>lookH hl134
  | 135=>lookH hl135
  | 136=>lookH hl136
  | 137=>lookH hl137
  | 138=>lookH hl138
  | 139=>lookH hl139
  | 140=>lookH hl140
  | 141=>lookH hl141
  | 142=>lookH hl142
  | 143=>lookH hl143
  | 144=>lookH hl144
  | 145=>lookH hl145
  | 146=>lookH hl146
  | 147=>lookH hl147
  | 148=>lookH hl148
  | 149=>lookH hl149
  | _=>fun _=>none
theorem prog_ok : progOk Tryz.prog hd=true:=by kernel_rfl
theorem hv_3 : hv 3=[2, 4, 5, 6, 7, 8, 9, 10]:=rfl
theorem hv_4 : hv 4=[1, 2]:=rfl
theorem hv_5 : hv 5=[3, 6, 7, 8, 9, 10, 11, 12, 13, 14, 15, 16, 17, 18, 19]:=rfl
theorem hv_6 : hv 6=[2, 4, 5, 6, 7, 8, 9, 10, 11, 12]:=rfl
theorem hv_7 : hv 7=[1, 2, 3, 4]:=rfl
theorem hv_8 : hv 8=[0]:=rfl
theorem hv_9 : hv 9=[2, 4]:=rfl
theorem hv_10 : hv 10=[2, 4]:=rfl
theorem hv_11 : hv 11=[6]:=rfl
theorem hv_12 : hv 12=[6]:=rfl
theorem hv_13 : hv 13=[4, 5, 13, 14]:=rfl
theorem hv_14 : hv 14=[1, 2, 3, 4]:=rfl
theorem hv_15 : hv 15=[4, 5]:=rfl
theorem hv_16 : hv 16=[1, 2, 3, 4, 5, 6, 15, 16, 30, 31]:=rfl
theorem hv_17 : hv 17=[1, 2, 3, 4, 5, 6, 7, 8, 9, 10, 11]:=rfl
theorem hv_18 : hv 18=[1, 2, 3]:=rfl
theorem hv_19 : hv 19=[2, 3, 4, 5, 6, 7, 9, 10]:=rfl
theorem hv_20 : hv 20=[1, 2, 3]:=rfl
theorem hv_21 : hv 21=[2, 4, 5, 6, 7]:=rfl
theorem hv_22 : hv 22=[1, 2, 3, 4, 5, 6, 7, 8]:=rfl
theorem hv_23 : hv 23=[1, 2, 3, 4]:=rfl
theorem hv_24 : hv 24=[2, 3, 4, 5]:=rfl
theorem hv_25 : hv 25=[1, 2, 3, 5, 6, 16, 17, 18]:=rfl
theorem hv_26 : hv 26=[1, 2, 3, 4, 5, 6, 7, 8, 10, 11, 12, 13, 15, 17, 35, 36, 52, 53, 54, 69, 70, 71, 81, 82, 83]:=rfl
theorem hv_27 : hv 27=[1, 2, 3, 4, 5, 6, 7]:=rfl
theorem hv_28 : hv 28=[6]:=rfl
theorem hv_29 : hv 29=[4]:=rfl
theorem hv_30 : hv 30=[2, 4, 5, 6, 7, 8, 9, 10, 11, 12, 13, 14]:=rfl
theorem hv_31 : hv 31=[1, 2, 3, 4, 5, 6, 7, 8, 16, 17, 18, 28, 29, 30]:=rfl
theorem hv_32 : hv 32=[2, 3, 4, 5, 6, 8, 9, 22, 23, 24]:=rfl
theorem hv_33 : hv 33=[1, 2, 3, 4, 5]:=rfl
theorem hv_34 : hv 34=[2, 3, 4, 5, 6, 7]:=rfl
theorem hv_35 : hv 35=[4, 5]:=rfl
theorem hv_36 : hv 36=[4]:=rfl
theorem hv_37 : hv 37=[2, 4, 6]:=rfl
theorem hv_38 : hv 38=[1, 2, 3, 4, 5, 6, 7]:=rfl
theorem hv_39 : hv 39=[1, 2, 3, 4, 6, 7, 26, 32, 33, 34]:=rfl
theorem hv_40 : hv 40=[1, 2, 3, 4, 5]:=rfl
theorem hv_41 : hv 41=[1, 2, 4, 6, 13, 14, 15, 30, 31, 32]:=rfl
theorem hv_42 : hv 42=[]:=rfl
theorem hv_43 : hv 43=[8, 9, 10, 34, 35]:=rfl
theorem hv_44 : hv 44=[2]:=rfl
theorem hv_45 : hv 45=[1, 2]:=rfl
theorem hv_46 : hv 46=[4, 6, 19, 20, 21]:=rfl
theorem hv_47 : hv 47=[8, 9, 11, 12, 13, 16, 17, 18]:=rfl
theorem hv_48 : hv 48=[2, 4, 6]:=rfl
theorem hv_49 : hv 49=[1, 2, 3, 4, 5, 6, 7, 8]:=rfl
theorem hv_50 : hv 50=[1, 2, 3, 4, 5]:=rfl
theorem hv_51 : hv 51=[1, 2]:=rfl
theorem hv_52 : hv 52=[1, 2, 3, 4]:=rfl
theorem hv_53 : hv 53=[2, 3, 4, 5, 6, 7, 9, 10]:=rfl
theorem hv_54 : hv 54=[3, 4, 6, 7, 8]:=rfl
theorem hv_55 : hv 55=[2, 3, 4, 5, 9]:=rfl
theorem hv_56 : hv 56=[1, 2, 4, 5, 1000000]:=rfl
theorem hv_57 : hv 57=[4]:=rfl
theorem hv_58 : hv 58=[4, 5, 7, 8]:=rfl
theorem hv_59 : hv 59=[4]:=rfl
theorem hv_60 : hv 60=[4]:=rfl
theorem hv_61 : hv 61=[3]:=rfl
theorem hv_62 : hv 62=[3, 4, 5, 6, 7, 8, 9, 10, 12, 13]:=rfl
theorem hv_63 : hv 63=[1, 2, 3, 4, 6, 7, 9, 11, 13, 14, 15, 20, 21, 22, 41, 42, 43]:=rfl
theorem hv_64 : hv 64=[1, 2]:=rfl
theorem hv_65 : hv 65=[2, 3, 4]:=rfl
theorem hv_66 : hv 66=[1, 2, 3, 4, 6, 7, 45, 46, 47]:=rfl
theorem hv_67 : hv 67=[2, 3, 4]:=rfl
theorem hv_68 : hv 68=[4]:=rfl
theorem hv_69 : hv 69=[1, 2]:=rfl
theorem hv_70 : hv 70=[2]:=rfl
theorem hv_71 : hv 71=[2, 3]:=rfl
theorem hv_72 : hv 72=[4]:=rfl
theorem hv_73 : hv 73=[1, 2]:=rfl
theorem hv_74 : hv 74=[4]:=rfl
theorem hv_75 : hv 75=[4]:=rfl
theorem hv_76 : hv 76=[2]:=rfl
theorem hv_77 : hv 77=[2, 4]:=rfl
theorem hv_78 : hv 78=[1, 2, 3, 5, 7, 8, 9]:=rfl
theorem hv_79 : hv 79=[6, 7, 8, 9, 15, 16, 17]:=rfl
theorem hv_80 : hv 80=[2, 3, 4, 6, 8, 9, 33, 34, 35]:=rfl
theorem hv_81 : hv 81=[4, 6, 8, 9, 10, 11, 12]:=rfl
theorem hv_82 : hv 82=[2]:=rfl
theorem hv_83 : hv 83=[]:=rfl
theorem hv_84 : hv 84=[2, 3]:=rfl
theorem hv_85 : hv 85=[3, 4, 5, 6, 7, 9, 10, 11, 19, 20, 64, 68, 69, 70, 83, 84, 85]:=rfl
theorem hv_86 : hv 86=[1, 2, 3, 4]:=rfl
theorem hv_87 : hv 87=[2, 3, 4, 5]:=rfl
theorem hv_88 : hv 88=[1, 2, 3, 4, 5, 6, 7]:=rfl
theorem hv_89 : hv 89=[1, 2, 3, 4, 5, 6]:=rfl
theorem hv_90 : hv 90=[3, 4, 5, 6, 7, 8, 9, 42, 43, 130]:=rfl
theorem hv_91 : hv 91=[2, 4, 5]:=rfl
theorem hv_92 : hv 92=[4]:=rfl
theorem hv_93 : hv 93=[2, 3]:=rfl
theorem hv_94 : hv 94=[1, 2]:=rfl
theorem hv_95 : hv 95=[2, 4]:=rfl
theorem hv_96 : hv 96=[4, 5]:=rfl
theorem hv_97 : hv 97=[2]:=rfl
theorem hv_98 : hv 98=[2, 3, 4, 5, 6, 7, 8, 17, 18, 19]:=rfl
theorem hv_99 : hv 99=[2, 3, 4, 5, 6]:=rfl
theorem hv_100 : hv 100=[2, 3, 4, 5, 6, 12, 20, 23]:=rfl
theorem hv_101 : hv 101=[4, 5, 7, 8]:=rfl
theorem hv_102 : hv 102=[4, 5]:=rfl
theorem hv_103 : hv 103=[2]:=rfl
theorem hv_104 : hv 104=[2, 3, 5, 7, 8, 9]:=rfl
theorem hv_105 : hv 105=[4, 6, 8, 10, 12, 13, 14, 19, 20, 21, 33, 34, 35, 46, 47, 48]:=rfl
theorem hv_106 : hv 106=[2, 3, 4]:=rfl
theorem hv_107 : hv 107=[2, 3, 4, 5, 6, 7, 29]:=rfl
theorem hv_108 : hv 108=[4, 5, 7, 8]:=rfl
theorem hv_109 : hv 109=[2, 3]:=rfl
theorem hv_110 : hv 110=[2]:=rfl
theorem hv_111 : hv 111=[4, 5, 7, 8]:=rfl
theorem hv_112 : hv 112=[2]:=rfl
theorem hv_113 : hv 113=[2, 3, 4]:=rfl
theorem hv_114 : hv 114=[4, 5, 7, 8]:=rfl
theorem hv_115 : hv 115=[4, 5, 7, 8]:=rfl
theorem hv_116 : hv 116=[1, 2]:=rfl
theorem hv_117 : hv 117=[6]:=rfl
theorem hv_118 : hv 118=[2, 4]:=rfl
theorem hv_119 : hv 119=[7, 8, 9, 10]:=rfl
theorem hv_120 : hv 120=[8, 9]:=rfl
theorem hv_121 : hv 121=[2, 4, 5]:=rfl
theorem hv_122 : hv 122=[2, 3, 4]:=rfl
theorem hv_123 : hv 123=[2, 4, 5]:=rfl
theorem hv_124 : hv 124=[2, 3, 4]:=rfl
theorem hv_125 : hv 125=[3, 4, 5, 6, 7, 8, 9, 10]:=rfl
theorem hv_126 : hv 126=[3, 4, 5, 6, 7, 8]:=rfl
theorem hv_127 : hv 127=[2]:=rfl
theorem hv_128 : hv 128=[2, 3, 4]:=rfl
theorem hv_129 : hv 129=[2]:=rfl
theorem hv_130 : hv 130=[2, 3]:=rfl
theorem hv_131 : hv 131=[2, 3]:=rfl
theorem hv_132 : hv 132=[2, 4]:=rfl
theorem hv_133 : hv 133=[2, 3, 4, 5, 6, 7, 42, 43, 44]:=rfl
theorem hv_134 : hv 134=[2, 4]:=rfl
theorem hv_135 : hv 135=[2, 4]:=rfl
theorem hv_136 : hv 136=[2, 4]:=rfl
theorem hv_137 : hv 137=[2, 3, 4, 5, 9, 10, 104, 115]:=rfl
theorem hv_138 : hv 138=[2]:=rfl
theorem hv_139 : hv 139=[4, 5, 6, 7]:=rfl
theorem hv_140 : hv 140=[3]:=rfl
theorem hv_141 : hv 141=[4, 5, 8, 9, 10, 11]:=rfl
theorem hv_142 : hv 142=[0]:=rfl
theorem hv_143 : hv 143=[3]:=rfl
theorem hv_144 : hv 144=[3]:=rfl
theorem hv_145 : hv 145=[6]:=rfl
theorem hv_146 : hv 146=[4, 5, 8, 9, 10]:=rfl
theorem hv_147 : hv 147=[4]:=rfl
theorem hv_148 : hv 148=[3, 6, 7, 8, 9]:=rfl
theorem hv_149 : hv 149=[4, 5, 7, 8]:=rfl
theorem hf_3_0 : hf 3 0=[9, 10]:=rfl
theorem hf_3_2 : hf 3 2=[]:=rfl
theorem hf_5_0 : hf 5 0=[]:=rfl
theorem hf_5_2 : hf 5 2=[12, 13, 14, 15, 16, 17, 18, 19]:=rfl
theorem hf_5_4 : hf 5 4=[]:=rfl
theorem hf_5_6 : hf 5 6=[]:=rfl
theorem hf_6_0 : hf 6 0=[10, 11, 12]:=rfl
theorem hf_6_2 : hf 6 2=[]:=rfl
theorem hf_6_4 : hf 6 4=[]:=rfl
theorem hf_7_0 : hf 7 0=[]:=rfl
theorem hf_13_0 : hf 13 0=[5]:=rfl
theorem hf_14_0 : hf 14 0=[]:=rfl
theorem hf_15_0 : hf 15 0=[]:=rfl
theorem hf_16_0 : hf 16 0=[4, 5, 6, 30, 31]:=rfl
theorem hf_16_2 : hf 16 2=[6]:=rfl
theorem hf_17_0 : hf 17 0=[5, 6, 7, 8, 9, 10, 11]:=rfl
theorem hf_17_2 : hf 17 2=[9, 10, 11]:=rfl
theorem hf_17_4 : hf 17 4=[]:=rfl
theorem hf_19_1 : hf 19 1=[]:=rfl
theorem hf_21_0 : hf 21 0=[]:=rfl
theorem hf_22_0 : hf 22 0=[7, 8]:=rfl
theorem hf_22_2 : hf 22 2=[]:=rfl
theorem hf_23_0 : hf 23 0=[]:=rfl
theorem hf_24_0 : hf 24 0=[]:=rfl
theorem hf_25_0 : hf 25 0=[5, 6]:=rfl
theorem hf_26_0 : hf 26 0=[6]:=rfl
theorem hf_26_2 : hf 26 2=[10]:=rfl
theorem hf_26_4 : hf 26 4=[13, 15, 17, 69, 70, 71, 81, 82, 83]:=rfl
theorem hf_26_6 : hf 26 6=[15, 17, 81, 82, 83]:=rfl
theorem hf_26_8 : hf 26 8=[17]:=rfl
theorem hf_27_0 : hf 27 0=[5, 6, 7]:=rfl
theorem hf_27_2 : hf 27 2=[]:=rfl
theorem hf_27_4 : hf 27 4=[]:=rfl
theorem hf_30_0 : hf 30 0=[9, 10, 11, 12, 13, 14]:=rfl
theorem hf_30_2 : hf 30 2=[]:=rfl
theorem hf_31_0 : hf 31 0=[4, 5, 6, 7, 8, 28, 29, 30]:=rfl
theorem hf_31_2 : hf 31 2=[7, 8]:=rfl
theorem hf_32_0 : hf 32 0=[8, 9]:=rfl
theorem hf_33_0 : hf 33 0=[5]:=rfl
theorem hf_33_2 : hf 33 2=[]:=rfl
theorem hf_34_0 : hf 34 0=[7]:=rfl
theorem hf_34_2 : hf 34 2=[]:=rfl
theorem hf_35_0 : hf 35 0=[]:=rfl
theorem hf_38_0 : hf 38 0=[]:=rfl
theorem hf_38_2 : hf 38 2=[6, 7]:=rfl
theorem hf_38_4 : hf 38 4=[]:=rfl
theorem hf_39_3 : hf 39 3=[6]:=rfl
theorem hf_41_0 : hf 41 0=[4]:=rfl
theorem hf_41_2 : hf 41 2=[6]:=rfl
theorem hf_43_0 : hf 43 0=[10]:=rfl
theorem hf_46_0 : hf 46 0=[6]:=rfl
theorem hf_47_0 : hf 47 0=[11]:=rfl
theorem hf_49_1 : hf 49 1=[4, 5, 6, 7]:=rfl
theorem hf_49_3 : hf 49 3=[7]:=rfl
theorem hf_50_0 : hf 50 0=[4]:=rfl
theorem hf_50_2 : hf 50 2=[]:=rfl
theorem hf_50_4 : hf 50 4=[]:=rfl
theorem hf_52_0 : hf 52 0=[4]:=rfl
theorem hf_53_1 : hf 53 1=[]:=rfl
theorem hf_53_3 : hf 53 3=[]:=rfl
theorem hf_54_0 : hf 54 0=[]:=rfl
theorem hf_58_0 : hf 58 0=[5]:=rfl
theorem hf_62_1 : hf 62 1=[]:=rfl
theorem hf_63_0 : hf 63 0=[6, 7, 9, 20, 21, 22]:=rfl
theorem hf_63_2 : hf 63 2=[9]:=rfl
theorem hf_63_4 : hf 63 4=[11]:=rfl
theorem hf_66_1 : hf 66 1=[6, 7]:=rfl
theorem hf_78_0 : hf 78 0=[5]:=rfl
theorem hf_79_0 : hf 79 0=[7, 8, 9]:=rfl
theorem hf_80_1 : hf 80 1=[6]:=rfl
theorem hf_81_0 : hf 81 0=[11, 12]:=rfl
theorem hf_81_2 : hf 81 2=[12]:=rfl
theorem hf_84_0 : hf 84 0=[]:=rfl
theorem hf_85_1 : hf 85 1=[9]:=rfl
theorem hf_85_3 : hf 85 3=[10, 11]:=rfl
theorem hf_87_0 : hf 87 0=[4, 5]:=rfl
theorem hf_87_2 : hf 87 2=[]:=rfl
theorem hf_88_0 : hf 88 0=[4, 5, 6]:=rfl
theorem hf_88_2 : hf 88 2=[6]:=rfl
theorem hf_88_4 : hf 88 4=[]:=rfl
theorem hf_88_6 : hf 88 6=[]:=rfl
theorem hf_89_0 : hf 89 0=[4]:=rfl
theorem hf_89_2 : hf 89 2=[]:=rfl
theorem hf_89_4 : hf 89 4=[6]:=rfl
theorem hf_89_6 : hf 89 6=[]:=rfl
theorem hf_91_0 : hf 91 0=[]:=rfl
theorem hf_93_0 : hf 93 0=[]:=rfl
theorem hf_98_0 : hf 98 0=[6, 7, 8]:=rfl
theorem hf_101_0 : hf 101 0=[5]:=rfl
theorem hf_104_0 : hf 104 0=[5]:=rfl
theorem hf_105_0 : hf 105 0=[4, 6, 19, 20, 21]:=rfl
theorem hf_105_2 : hf 105 2=[6]:=rfl
theorem hf_105_4 : hf 105 4=[8, 10, 46, 47, 48]:=rfl
theorem hf_105_6 : hf 105 6=[10]:=rfl
theorem hf_108_0 : hf 108 0=[5]:=rfl
theorem hf_111_0 : hf 111 0=[5]:=rfl
theorem hf_114_0 : hf 114 0=[5]:=rfl
theorem hf_115_0 : hf 115 0=[5]:=rfl
theorem hf_119_0 : hf 119 0=[7]:=rfl
theorem hf_121_0 : hf 121 0=[]:=rfl
theorem hf_123_0 : hf 123 0=[]:=rfl
theorem hf_124_0 : hf 124 0=[]:=rfl
theorem hf_126_0 : hf 126 0=[]:=rfl
theorem hf_128_0 : hf 128 0=[]:=rfl
theorem hf_133_0 : hf 133 0=[6, 7]:=rfl
theorem hf_139_0 : hf 139 0=[7]:=rfl
theorem hf_149_0 : hf 149 0=[5]:=rfl
theorem hd_3(i : Nat) : hd 3 i=lookH hl3 i:=rfl
theorem hd_4(i : Nat) : hd 4 i=lookH hl4 i:=rfl
theorem hd_5(i : Nat) : hd 5 i=lookH hl5 i:=rfl
theorem hd_6(i : Nat) : hd 6 i=lookH hl6 i:=rfl
theorem hd_7(i : Nat) : hd 7 i=lookH hl7 i:=rfl
theorem hd_8(i : Nat) : hd 8 i=lookH hl8 i:=rfl
theorem hd_9(i : Nat) : hd 9 i=lookH hl9 i:=rfl
theorem hd_10(i : Nat) : hd 10 i=lookH hl10 i:=rfl
theorem hd_11(i : Nat) : hd 11 i=lookH hl11 i:=rfl
theorem hd_12(i : Nat) : hd 12 i=lookH hl12 i:=rfl
theorem hd_13(i : Nat) : hd 13 i=lookH hl13 i:=rfl
theorem hd_14(i : Nat) : hd 14 i=lookH hl14 i:=rfl
theorem hd_15(i : Nat) : hd 15 i=lookH hl15 i:=rfl
theorem hd_16(i : Nat) : hd 16 i=lookH hl16 i:=rfl
theorem hd_17(i : Nat) : hd 17 i=lookH hl17 i:=rfl
theorem hd_18(i : Nat) : hd 18 i=lookH hl18 i:=rfl
theorem hd_19(i : Nat) : hd 19 i=lookH hl19 i:=rfl
theorem hd_20(i : Nat) : hd 20 i=lookH hl20 i:=rfl
theorem hd_21(i : Nat) : hd 21 i=lookH hl21 i:=rfl
theorem hd_22(i : Nat) : hd 22 i=lookH hl22 i:=rfl
theorem hd_23(i : Nat) : hd 23 i=lookH hl23 i:=rfl
theorem hd_24(i : Nat) : hd 24 i=lookH hl24 i:=rfl
theorem hd_25(i : Nat) : hd 25 i=lookH hl25 i:=rfl
theorem hd_26(i : Nat) : hd 26 i=lookH hl26 i:=rfl
theorem hd_27(i : Nat) : hd 27 i=lookH hl27 i:=rfl
theorem hd_28(i : Nat) : hd 28 i=lookH hl28 i:=rfl
theorem hd_29(i : Nat) : hd 29 i=lookH hl29 i:=rfl
theorem hd_30(i : Nat) : hd 30 i=lookH hl30 i:=rfl
theorem hd_31(i : Nat) : hd 31 i=lookH hl31 i:=rfl
theorem hd_32(i : Nat) : hd 32 i=lookH hl32 i:=rfl
theorem hd_33(i : Nat) : hd 33 i=lookH hl33 i:=rfl
theorem hd_34(i : Nat) : hd 34 i=lookH hl34 i:=rfl
theorem hd_35(i : Nat) : hd 35 i=lookH hl35 i:=rfl
theorem hd_36(i : Nat) : hd 36 i=lookH hl36 i:=rfl
theorem hd_37(i : Nat) : hd 37 i=lookH hl37 i:=rfl
theorem hd_38(i : Nat) : hd 38 i=lookH hl38 i:=rfl
theorem hd_39(i : Nat) : hd 39 i=lookH hl39 i:=rfl
theorem hd_40(i : Nat) : hd 40 i=lookH hl40 i:=rfl
theorem hd_41(i : Nat) : hd 41 i=lookH hl41 i:=rfl
theorem hd_42(i : Nat) : hd 42 i=lookH hl42 i:=rfl
theorem hd_43(i : Nat) : hd 43 i=lookH hl43 i:=rfl
theorem hd_44(i : Nat) : hd 44 i=lookH hl44 i:=rfl
theorem hd_45(i : Nat) : hd 45 i=lookH hl45 i:=rfl
theorem hd_46(i : Nat) : hd 46 i=lookH hl46 i:=rfl
theorem hd_47(i : Nat) : hd 47 i=lookH hl47 i:=rfl
theorem hd_48(i : Nat) : hd 48 i=lookH hl48 i:=rfl
theorem hd_49(i : Nat) : hd 49 i=lookH hl49 i:=rfl
theorem hd_50(i : Nat) : hd 50 i=lookH hl50 i:=rfl
theorem hd_51(i : Nat) : hd 51 i=lookH hl51 i:=rfl
theorem hd_52(i : Nat) : hd 52 i=lookH hl52 i:=rfl
theorem hd_53(i : Nat) : hd 53 i=lookH hl53 i:=rfl
theorem hd_54(i : Nat) : hd 54 i=lookH hl54 i:=rfl
theorem hd_55(i : Nat) : hd 55 i=lookH hl55 i:=rfl
theorem hd_56(i : Nat) : hd 56 i=lookH hl56 i:=rfl
theorem hd_57(i : Nat) : hd 57 i=lookH hl57 i:=rfl
theorem hd_58(i : Nat) : hd 58 i=lookH hl58 i:=rfl
theorem hd_59(i : Nat) : hd 59 i=lookH hl59 i:=rfl
theorem hd_60(i : Nat) : hd 60 i=lookH hl60 i:=rfl
theorem hd_61(i : Nat) : hd 61 i=lookH hl61 i:=rfl
theorem hd_62(i : Nat) : hd 62 i=lookH hl62 i:=rfl
theorem hd_63(i : Nat) : hd 63 i=lookH hl63 i:=rfl
theorem hd_64(i : Nat) : hd 64 i=lookH hl64 i:=rfl
theorem hd_65(i : Nat) : hd 65 i=lookH hl65 i:=rfl
theorem hd_66(i : Nat) : hd 66 i=lookH hl66 i:=rfl
theorem hd_67(i : Nat) : hd 67 i=lookH hl67 i:=rfl
theorem hd_68(i : Nat) : hd 68 i=lookH hl68 i:=rfl
theorem hd_69(i : Nat) : hd 69 i=lookH hl69 i:=rfl
theorem hd_70(i : Nat) : hd 70 i=lookH hl70 i:=rfl
theorem hd_71(i : Nat) : hd 71 i=lookH hl71 i:=rfl
theorem hd_72(i : Nat) : hd 72 i=lookH hl72 i:=rfl
theorem hd_73(i : Nat) : hd 73 i=lookH hl73 i:=rfl
theorem hd_74(i : Nat) : hd 74 i=lookH hl74 i:=rfl
theorem hd_75(i : Nat) : hd 75 i=lookH hl75 i:=rfl
theorem hd_76(i : Nat) : hd 76 i=lookH hl76 i:=rfl
theorem hd_77(i : Nat) : hd 77 i=lookH hl77 i:=rfl
theorem hd_78(i : Nat) : hd 78 i=lookH hl78 i:=rfl
theorem hd_79(i : Nat) : hd 79 i=lookH hl79 i:=rfl
theorem hd_80(i : Nat) : hd 80 i=lookH hl80 i:=rfl
theorem hd_81(i : Nat) : hd 81 i=lookH hl81 i:=rfl
theorem hd_82(i : Nat) : hd 82 i=lookH hl82 i:=rfl
theorem hd_83(i : Nat) : hd 83 i=lookH hl83 i:=rfl
theorem hd_84(i : Nat) : hd 84 i=lookH hl84 i:=rfl
theorem hd_85(i : Nat) : hd 85 i=lookH hl85 i:=rfl
theorem hd_86(i : Nat) : hd 86 i=lookH hl86 i:=rfl
theorem hd_87(i : Nat) : hd 87 i=lookH hl87 i:=rfl
theorem hd_88(i : Nat) : hd 88 i=lookH hl88 i:=rfl
theorem hd_89(i : Nat) : hd 89 i=lookH hl89 i:=rfl
theorem hd_90(i : Nat) : hd 90 i=lookH hl90 i:=rfl
theorem hd_91(i : Nat) : hd 91 i=lookH hl91 i:=rfl
theorem hd_92(i : Nat) : hd 92 i=lookH hl92 i:=rfl
theorem hd_93(i : Nat) : hd 93 i=lookH hl93 i:=rfl
theorem hd_94(i : Nat) : hd 94 i=lookH hl94 i:=rfl
theorem hd_95(i : Nat) : hd 95 i=lookH hl95 i:=rfl
theorem hd_96(i : Nat) : hd 96 i=lookH hl96 i:=rfl
theorem hd_97(i : Nat) : hd 97 i=lookH hl97 i:=rfl
theorem hd_98(i : Nat) : hd 98 i=lookH hl98 i:=rfl
theorem hd_99(i : Nat) : hd 99 i=lookH hl99 i:=rfl
theorem hd_100(i : Nat) : hd 100 i=lookH hl100 i:=rfl
theorem hd_101(i : Nat) : hd 101 i=lookH hl101 i:=rfl
theorem hd_102(i : Nat) : hd 102 i=lookH hl102 i:=rfl
theorem hd_103(i : Nat) : hd 103 i=lookH hl103 i:=rfl
theorem hd_104(i : Nat) : hd 104 i=lookH hl104 i:=rfl
theorem hd_105(i : Nat) : hd 105 i=lookH hl105 i:=rfl
theorem hd_106(i : Nat) : hd 106 i=lookH hl106 i:=rfl
theorem hd_107(i : Nat) : hd 107 i=lookH hl107 i:=rfl
theorem hd_108(i : Nat) : hd 108 i=lookH hl108 i:=rfl
theorem hd_109(i : Nat) : hd 109 i=lookH hl109 i:=rfl
theorem hd_110(i : Nat) : hd 110 i=lookH hl110 i:=rfl
theorem hd_111(i : Nat) : hd 111 i=lookH hl111 i:=rfl
theorem hd_112(i : Nat) : hd 112 i=lookH hl112 i:=rfl
theorem hd_113(i : Nat) : hd 113 i=lookH hl113 i:=rfl
theorem hd_114(i : Nat) : hd 114 i=lookH hl114 i:=rfl
theorem hd_115(i : Nat) : hd 115 i=lookH hl115 i:=rfl
theorem hd_116(i : Nat) : hd 116 i=lookH hl116 i:=rfl
theorem hd_117(i : Nat) : hd 117 i=lookH hl117 i:=rfl
theorem hd_118(i : Nat) : hd 118 i=lookH hl118 i:=rfl
theorem hd_119(i : Nat) : hd 119 i=lookH hl119 i:=rfl
theorem hd_120(i : Nat) : hd 120 i=lookH hl120 i:=rfl
theorem hd_121(i : Nat) : hd 121 i=lookH hl121 i:=rfl
theorem hd_122(i : Nat) : hd 122 i=lookH hl122 i:=rfl
theorem hd_123(i : Nat) : hd 123 i=lookH hl123 i:=rfl
theorem hd_124(i : Nat) : hd 124 i=lookH hl124 i:=rfl
theorem hd_125(i : Nat) : hd 125 i=lookH hl125 i:=rfl
theorem hd_126(i : Nat) : hd 126 i=lookH hl126 i:=rfl
theorem hd_127(i : Nat) : hd 127 i=lookH hl127 i:=rfl
theorem hd_128(i : Nat) : hd 128 i=lookH hl128 i:=rfl
theorem hd_129(i : Nat) : hd 129 i=lookH hl129 i:=rfl
theorem hd_130(i : Nat) : hd 130 i=lookH hl130 i:=rfl
theorem hd_131(i : Nat) : hd 131 i=lookH hl131 i:=rfl
theorem hd_132(i : Nat) : hd 132 i=lookH hl132 i:=rfl
theorem hd_133(i : Nat) : hd 133 i=lookH hl133 i:=rfl
theorem hd_134(i : Nat) : hd 134 i=lookH hl134 i:=rfl
theorem hd_135(i : Nat) : hd 135 i=lookH hl135 i:=rfl
theorem hd_136(i : Nat) : hd 136 i=lookH hl136 i:=rfl
theorem hd_137(i : Nat) : hd 137 i=lookH hl137 i:=rfl
theorem hd_138(i : Nat) : hd 138 i=lookH hl138 i:=rfl
theorem hd_139(i : Nat) : hd 139 i=lookH hl139 i:=rfl
theorem hd_140(i : Nat) : hd 140 i=lookH hl140 i:=rfl
theorem hd_141(i : Nat) : hd 141 i=lookH hl141 i:=rfl
theorem hd_142(i : Nat) : hd 142 i=lookH hl142 i:=rfl
theorem hd_143(i : Nat) : hd 143 i=lookH hl143 i:=rfl
theorem hd_144(i : Nat) : hd 144 i=lookH hl144 i:=rfl
theorem hd_145(i : Nat) : hd 145 i=lookH hl145 i:=rfl
theorem hd_146(i : Nat) : hd 146 i=lookH hl146 i:=rfl
theorem hd_147(i : Nat) : hd 147 i=lookH hl147 i:=rfl
theorem hd_148(i : Nat) : hd 148 i=lookH hl148 i:=rfl
theorem hd_149(i : Nat) : hd 149 i=lookH hl149 i:=rfl
theorem rgF_0 : rgF 0=false:=rfl
theorem rgF_1 : rgF 1=false:=rfl
theorem rgF_2 : rgF 2=false:=rfl
theorem rgF_3 : rgF 3=true:=rfl
theorem rgF_4 : rgF 4=false:=rfl
theorem rgF_5 : rgF 5=false:=rfl
theorem rgF_6 : rgF 6=true:=rfl
theorem rgF_7 : rgF 7=false:=rfl
theorem rgF_8 : rgF 8=false:=rfl
theorem rgF_9 : rgF 9=true:=rfl
theorem rgF_10 : rgF 10=false:=rfl
theorem rgF_11 : rgF 11=true:=rfl
theorem rgF_12 : rgF 12=true:=rfl
theorem rgF_13 : rgF 13=true:=rfl
theorem rgF_14 : rgF 14=false:=rfl
theorem rgF_15 : rgF 15=false:=rfl
theorem rgF_16 : rgF 16=false:=rfl
theorem rgF_17 : rgF 17=false:=rfl
theorem rgF_18 : rgF 18=false:=rfl
theorem rgF_19 : rgF 19=false:=rfl
theorem rgF_20 : rgF 20=false:=rfl
theorem rgF_21 : rgF 21=false:=rfl
theorem rgF_22 : rgF 22=false:=rfl
theorem rgF_23 : rgF 23=false:=rfl
theorem rgF_24 : rgF 24=false:=rfl
theorem rgF_25 : rgF 25=false:=rfl
theorem rgF_26 : rgF 26=true:=rfl
theorem rgF_27 : rgF 27=false:=rfl
theorem rgF_28 : rgF 28=true:=rfl
theorem rgF_29 : rgF 29=true:=rfl
theorem rgF_30 : rgF 30=false:=rfl
theorem rgF_31 : rgF 31=false:=rfl
theorem rgF_32 : rgF 32=true:=rfl
theorem rgF_33 : rgF 33=false:=rfl
theorem rgF_34 : rgF 34=false:=rfl
theorem rgF_35 : rgF 35=false:=rfl
theorem rgF_36 : rgF 36=false:=rfl
theorem rgF_37 : rgF 37=false:=rfl
theorem rgF_38 : rgF 38=false:=rfl
theorem rgF_39 : rgF 39=false:=rfl
theorem rgF_40 : rgF 40=false:=rfl
theorem rgF_41 : rgF 41=false:=rfl
theorem rgF_42 : rgF 42=true:=rfl
theorem rgF_43 : rgF 43=true:=rfl
theorem rgF_44 : rgF 44=true:=rfl
theorem rgF_45 : rgF 45=false:=rfl
theorem rgF_46 : rgF 46=true:=rfl
theorem rgF_47 : rgF 47=true:=rfl
theorem rgF_48 : rgF 48=false:=rfl
theorem rgF_49 : rgF 49=false:=rfl
theorem rgF_50 : rgF 50=false:=rfl
theorem rgF_51 : rgF 51=false:=rfl
theorem rgF_52 : rgF 52=false:=rfl
theorem rgF_53 : rgF 53=false:=rfl
theorem rgF_54 : rgF 54=false:=rfl
theorem rgF_55 : rgF 55=false:=rfl
theorem rgF_56 : rgF 56=false:=rfl
theorem rgF_57 : rgF 57=true:=rfl
theorem rgF_58 : rgF 58=false:=rfl
theorem rgF_59 : rgF 59=false:=rfl
theorem rgF_60 : rgF 60=true:=rfl
theorem rgF_61 : rgF 61=true:=rfl
theorem rgF_62 : rgF 62=false:=rfl
theorem rgF_63 : rgF 63=false:=rfl
theorem rgF_64 : rgF 64=false:=rfl
theorem rgF_65 : rgF 65=false:=rfl
theorem rgF_66 : rgF 66=false:=rfl
theorem rgF_67 : rgF 67=false:=rfl
theorem rgF_68 : rgF 68=false:=rfl
theorem rgF_69 : rgF 69=false:=rfl
theorem rgF_70 : rgF 70=false:=rfl
theorem rgF_71 : rgF 71=false:=rfl
theorem rgF_72 : rgF 72=false:=rfl
theorem rgF_73 : rgF 73=false:=rfl
theorem rgF_74 : rgF 74=false:=rfl
theorem rgF_75 : rgF 75=false:=rfl
theorem rgF_76 : rgF 76=false:=rfl
theorem rgF_77 : rgF 77=false:=rfl
theorem rgF_78 : rgF 78=false:=rfl
theorem rgF_79 : rgF 79=false:=rfl
theorem rgF_80 : rgF 80=false:=rfl
theorem rgF_81 : rgF 81=false:=rfl
theorem rgF_82 : rgF 82=false:=rfl
theorem rgF_83 : rgF 83=false:=rfl
theorem rgF_84 : rgF 84=false:=rfl
theorem rgF_85 : rgF 85=false:=rfl
theorem rgF_86 : rgF 86=false:=rfl
theorem rgF_87 : rgF 87=false:=rfl
theorem rgF_88 : rgF 88=false:=rfl
theorem rgF_89 : rgF 89=false:=rfl
theorem rgF_90 : rgF 90=false:=rfl
theorem rgF_91 : rgF 91=false:=rfl
theorem rgF_92 : rgF 92=false:=rfl
theorem rgF_93 : rgF 93=false:=rfl
theorem rgF_94 : rgF 94=false:=rfl
theorem rgF_95 : rgF 95=false:=rfl
theorem rgF_96 : rgF 96=false:=rfl
theorem rgF_97 : rgF 97=false:=rfl
theorem rgF_98 : rgF 98=false:=rfl
theorem rgF_99 : rgF 99=false:=rfl
theorem rgF_100 : rgF 100=false:=rfl
theorem rgF_101 : rgF 101=true:=rfl
theorem rgF_102 : rgF 102=false:=rfl
theorem rgF_103 : rgF 103=false:=rfl
theorem rgF_104 : rgF 104=false:=rfl
theorem rgF_105 : rgF 105=false:=rfl
theorem rgF_106 : rgF 106=false:=rfl
theorem rgF_107 : rgF 107=false:=rfl
theorem rgF_108 : rgF 108=false:=rfl
theorem rgF_109 : rgF 109=false:=rfl
theorem rgF_110 : rgF 110=false:=rfl
theorem rgF_111 : rgF 111=false:=rfl
theorem rgF_112 : rgF 112=false:=rfl
theorem rgF_113 : rgF 113=false:=rfl
theorem rgF_114 : rgF 114=false:=rfl
theorem rgF_115 : rgF 115=false:=rfl
theorem rgF_116 : rgF 116=false:=rfl
theorem rgF_117 : rgF 117=false:=rfl
theorem rgF_118 : rgF 118=false:=rfl
theorem rgF_119 : rgF 119=false:=rfl
theorem rgF_120 : rgF 120=false:=rfl
theorem rgF_121 : rgF 121=false:=rfl
theorem rgF_122 : rgF 122=false:=rfl
theorem rgF_123 : rgF 123=false:=rfl
theorem rgF_124 : rgF 124=false:=rfl
theorem rgF_125 : rgF 125=false:=rfl
theorem rgF_126 : rgF 126=false:=rfl
theorem rgF_127 : rgF 127=false:=rfl
theorem rgF_128 : rgF 128=false:=rfl
theorem rgF_129 : rgF 129=false:=rfl
theorem rgF_130 : rgF 130=false:=rfl
theorem rgF_131 : rgF 131=false:=rfl
theorem rgF_132 : rgF 132=false:=rfl
theorem rgF_133 : rgF 133=false:=rfl
theorem rgF_134 : rgF 134=false:=rfl
theorem rgF_135 : rgF 135=false:=rfl
theorem rgF_136 : rgF 136=false:=rfl
theorem rgF_137 : rgF 137=false:=rfl
theorem rgF_138 : rgF 138=false:=rfl
theorem rgF_139 : rgF 139=false:=rfl
theorem rgF_140 : rgF 140=false:=rfl
theorem rgF_141 : rgF 141=false:=rfl
theorem rgF_142 : rgF 142=false:=rfl
theorem rgF_143 : rgF 143=false:=rfl
theorem rgF_144 : rgF 144=false:=rfl
theorem rgF_145 : rgF 145=false:=rfl
theorem rgF_146 : rgF 146=false:=rfl
theorem rgF_147 : rgF 147=false:=rfl
theorem rgF_148 : rgF 148=false:=rfl
theorem rgF_149 : rgF 149=false:=rfl
theorem rgF_150 : rgF 150=false:=rfl
theorem rgF_151 : rgF 151=false:=rfl
theorem rgF_152 : rgF 152=false:=rfl
theorem rgF_153 : rgF 153=false:=rfl
theorem rgF_154 : rgF 154=false:=rfl
theorem rgF_155 : rgF 155=false:=rfl
theorem rgF_156 : rgF 156=false:=rfl
theorem rgF_157 : rgF 157=false:=rfl
theorem rgF_158 : rgF 158=false:=rfl
theorem rgF_159 : rgF 159=false:=rfl
theorem rgF_160 : rgF 160=false:=rfl
theorem rgF_161 : rgF 161=false:=rfl
theorem rgF_162 : rgF 162=false:=rfl
theorem rgF_163 : rgF 163=false:=rfl
theorem rgF_164 : rgF 164=false:=rfl
theorem rgF_165 : rgF 165=false:=rfl
attribute [go_sem] hf_3_0 hf_3_2 hf_5_0 hf_5_2 hf_5_4 hf_5_6 hf_6_0 hf_6_2 hf_6_4 hf_7_0 hf_13_0 hf_14_0
attribute [go_sem] hf_15_0 hf_16_0 hf_16_2 hf_17_0 hf_17_2 hf_17_4 hf_19_1 hf_21_0 hf_22_0 hf_22_2 hf_23_0 hf_24_0
attribute [go_sem] hf_25_0 hf_26_0 hf_26_2 hf_26_4 hf_26_6 hf_26_8 hf_27_0 hf_27_2 hf_27_4 hf_30_0 hf_30_2 hf_31_0
attribute [go_sem] hf_31_2 hf_32_0 hf_33_0 hf_33_2 hf_34_0 hf_34_2 hf_35_0 hf_38_0 hf_38_2 hf_38_4 hf_39_3 hf_41_0
attribute [go_sem] hf_41_2 hf_43_0 hf_46_0 hf_47_0 hf_49_1 hf_49_3 hf_50_0 hf_50_2 hf_50_4 hf_52_0 hf_53_1 hf_53_3
attribute [go_sem] hf_54_0 hf_58_0 hf_62_1 hf_63_0 hf_63_2 hf_63_4 hf_66_1 hf_78_0 hf_79_0 hf_80_1 hf_81_0 hf_81_2
attribute [go_sem] hf_84_0 hf_85_1 hf_85_3 hf_87_0 hf_87_2 hf_88_0 hf_88_2 hf_88_4 hf_88_6 hf_89_0 hf_89_2 hf_89_4
attribute [go_sem] hf_89_6 hf_91_0 hf_93_0 hf_98_0 hf_101_0 hf_104_0 hf_105_0 hf_105_2 hf_105_4 hf_105_6 hf_108_0 hf_111_0
attribute [go_sem] hf_114_0 hf_115_0 hf_119_0 hf_121_0 hf_123_0 hf_124_0 hf_126_0 hf_128_0 hf_133_0 hf_139_0 hf_149_0 hd_3
attribute [go_sem] hl3 hd_4 hl4 hd_5 hl5 hd_6 hl6 hd_7 hl7 hd_8 hl8 hd_9
attribute [go_sem] hl9 hd_10 hl10 hd_11 hl11 hd_12 hl12 hd_13 hl13 hd_14 hl14 hd_15
attribute [go_sem] hl15 hd_16 hl16 hd_17 hl17 hd_18 hl18 hd_19 hl19 hd_20 hl20 hd_21
attribute [go_sem] hl21 hd_22 hl22 hd_23 hl23 hd_24 hl24 hd_25 hl25 hd_26 hl26 hd_27
attribute [go_sem] hl27 hd_28 hl28 hd_29 hl29 hd_30 hl30 hd_31 hl31 hd_32 hl32 hd_33
attribute [go_sem] hl33 hd_34 hl34 hd_35 hl35 hd_36 hl36 hd_37 hl37 hd_38 hl38 hd_39
attribute [go_sem] hl39 hd_40 hl40 hd_41 hl41 hd_42 hl42 hd_43 hl43 hd_44 hl44 hd_45
attribute [go_sem] hl45 hd_46 hl46 hd_47 hl47 hd_48 hl48 hd_49 hl49 hd_50 hl50 hd_51
attribute [go_sem] hl51 hd_52 hl52 hd_53 hl53 hd_54 hl54 hd_55 hl55 hd_56 hl56 hd_57
attribute [go_sem] hl57 hd_58 hl58 hd_59 hl59 hd_60 hl60 hd_61 hl61 hd_62 hl62 hd_63
attribute [go_sem] hl63 hd_64 hl64 hd_65 hl65 hd_66 hl66 hd_67 hl67 hd_68 hl68 hd_69
attribute [go_sem] hl69 hd_70 hl70 hd_71 hl71 hd_72 hl72 hd_73 hl73 hd_74 hl74 hd_75
attribute [go_sem] hl75 hd_76 hl76 hd_77 hl77 hd_78 hl78 hd_79 hl79 hd_80 hl80 hd_81
attribute [go_sem] hl81 hd_82 hl82 hd_83 hl83 hd_84 hl84 hd_85 hl85 hd_86 hl86 hd_87
attribute [go_sem] hl87 hd_88 hl88 hd_89 hl89 hd_90 hl90 hd_91 hl91 hd_92 hl92 hd_93
attribute [go_sem] hl93 hd_94 hl94 hd_95 hl95 hd_96 hl96 hd_97 hl97 hd_98 hl98 hd_99
attribute [go_sem] hl99 hd_100 hl100 hd_101 hl101 hd_102 hl102 hd_103 hl103 hd_104 hl104 hd_105
attribute [go_sem] hl105 hd_106 hl106 hd_107 hl107 hd_108 hl108 hd_109 hl109 hd_110 hl110 hd_111
attribute [go_sem] hl111 hd_112 hl112 hd_113 hl113 hd_114 hl114 hd_115 hl115 hd_116 hl116 hd_117
attribute [go_sem] hl117 hd_118 hl118 hd_119 hl119 hd_120 hl120 hd_121 hl121 hd_122 hl122 hd_123
attribute [go_sem] hl123 hd_124 hl124 hd_125 hl125 hd_126 hl126 hd_127 hl127 hd_128 hl128 hd_129
attribute [go_sem] hl129 hd_130 hl130 hd_131 hl131 hd_132 hl132 hd_133 hl133 hd_134 hl134 hd_135
attribute [go_sem] hl135 hd_136 hl136 hd_137 hl137 hd_138 hl138 hd_139 hl139 hd_140 hl140 hd_141
attribute [go_sem] hl141 hd_142 hl142 hd_143 hl143 hd_144 hl144 hd_145 hl145 hd_146 hl146 hd_147
attribute [go_sem] hl147 hd_148 hl148 hd_149 hl149 rgF_0 rgF_1 rgF_2 rgF_3 rgF_4 rgF_5 rgF_6
attribute [go_sem] rgF_7 rgF_8 rgF_9 rgF_10 rgF_11 rgF_12 rgF_13 rgF_14 rgF_15 rgF_16 rgF_17 rgF_18
attribute [go_sem] rgF_19 rgF_20 rgF_21 rgF_22 rgF_23 rgF_24 rgF_25 rgF_26 rgF_27 rgF_28 rgF_29 rgF_30
attribute [go_sem] rgF_31 rgF_32 rgF_33 rgF_34 rgF_35 rgF_36 rgF_37 rgF_38 rgF_39 rgF_40 rgF_41 rgF_42
attribute [go_sem] rgF_43 rgF_44 rgF_45 rgF_46 rgF_47 rgF_48 rgF_49 rgF_50 rgF_51 rgF_52 rgF_53 rgF_54
attribute [go_sem] rgF_55 rgF_56 rgF_57 rgF_58 rgF_59 rgF_60 rgF_61 rgF_62 rgF_63 rgF_64 rgF_65 rgF_66
attribute [go_sem] rgF_67 rgF_68 rgF_69 rgF_70 rgF_71 rgF_72 rgF_73 rgF_74 rgF_75 rgF_76 rgF_77 rgF_78
attribute [go_sem] rgF_79 rgF_80 rgF_81 rgF_82 rgF_83 rgF_84 rgF_85 rgF_86 rgF_87 rgF_88 rgF_89 rgF_90
attribute [go_sem] rgF_91 rgF_92 rgF_93 rgF_94 rgF_95 rgF_96 rgF_97 rgF_98 rgF_99 rgF_100 rgF_101 rgF_102
attribute [go_sem] rgF_103 rgF_104 rgF_105 rgF_106 rgF_107 rgF_108 rgF_109 rgF_110 rgF_111 rgF_112 rgF_113 rgF_114
attribute [go_sem] rgF_115 rgF_116 rgF_117 rgF_118 rgF_119 rgF_120 rgF_121 rgF_122 rgF_123 rgF_124 rgF_125 rgF_126
attribute [go_sem] rgF_127 rgF_128 rgF_129 rgF_130 rgF_131 rgF_132 rgF_133 rgF_134 rgF_135 rgF_136 rgF_137 rgF_138
attribute [go_sem] rgF_139 rgF_140 rgF_141 rgF_142 rgF_143 rgF_144 rgF_145 rgF_146 rgF_147 rgF_148 rgF_149 rgF_150
attribute [go_sem] rgF_151 rgF_152 rgF_153 rgF_154 rgF_155 rgF_156 rgF_157 rgF_158 rgF_159 rgF_160 rgF_161 rgF_162
attribute [go_sem] rgF_163 rgF_164 rgF_165
/-- Functions that are known otherwise. -/
def isExt : Nat→Bool
  | 76=>true
  | 131=>true
  | 44=>true
  | 16=>true
  | 3=>true
  | 6=>true
  | 48=>true
  | _=>false
/-- The program, with functions that are known otherwise. -/
noncomputable def G(ext : Sem') : Sem':=callA Tryz.prog ext hd hv hf
def Clear(ext : Sem') : Prop:=∀ (f : Nat) (xs : List AV) (H : List AObj), isExt f=false→ext f xs H=none
theorem G_ok{ext : Sem'}(h : Sound Tryz.prog ext) : Sound Tryz.prog (G ext):=callA_ok h prog_ok
theorem G_ext{ext : Sem'}{f : Nat}{xs : List AV}{H : List AObj}{r : Out×List AObj}(h : ext f xs H=some r) : G ext f xs H=some r:=callA_ext h
theorem G_body{ext : Sem'}(hx : Clear ext){f : Nat}{F : Func}{c : Code}{xs : List AV}{H : List AObj}{rs : List ResultVar}{V : List Nat}(he : isExt f=false)(h : Tryz.prog.funcs[f]?=some F)(hb : F.body=some c)(hr : F.results=⟨rs⟩)(hV : hv f=V)(hl : Nat.ble xs.length F.ntmps=true) :
    G ext f xs H=finish Tryz.prog rs H.length (evC Tryz.prog (G ext) (hd f) (hf f) 0 c (.go (Go.Ab.start xs V H))) :=
  callA_body (hx f xs H he) h hb hr hV (Nat.le_of_ble_eq_true hl)
/-- A closed run: loops k rounds, calls n deep. -/
theorem G_run{ext : Sem'}(hx : Clear ext){f : Nat}{xs : List AV}{H : List AObj}{r : Out×List AObj}(k n : Nat)(h : callF Tryz.prog isExt hd hv hf k n f xs H=some r) : G ext f xs H=some r:=callF_ok hx n f xs H r h
/-- A closed run where some calls' answers are known. -/
theorem G_runT{ext : Sem'}(hx : Clear ext){f : Nat}{xs : List AV}{H : List AObj}{r : Out×List AObj}(tbl : List Fact)(ht : ∀ x, x∈tbl→G ext x.f x.as x.H=some x.r)(k n : Nat)(h : callT Tryz.prog isExt hd hv hf tbl k n f xs H=some r) : G ext f xs H=some r:=callT_ok hx ht n f xs H r h
end Go.Proofs.YticliodhjfednaaGreat
