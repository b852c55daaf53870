/- Part of the texts on which proofs about this seat rest: each says what it proves at its own head. No condition. -/
import Derived.Test.YtepcejdglbcbkaaGreatM4
import Derived.KernelRfl
set_option linter.unusedVariables false
set_option linter.unusedSimpArgs false
/- The resolved functions of this seat, as printed (wip/abs/Print.lean), and the table of them. No condition. -/
namespace Go.Proofs.YtepcejdglbcbkaaGreat
open Go.Abs
section
open Go.O
def ZF:List aa:=[
 op 5 (.boxp (t 0)),
 op 6 (.boxp (t 1)),
 op 9 (.boxp (t 4)),
 mc 10 (v B)]
def ZG:List aa:=[
 la 17 43 5,
 la 18 1 6,
 c 19 9 [(t 17),(t 18)],
 op 20 (.un .not (t 19)),
 m 21 20,
 g 21 false (m 22 3),
 g 21 false (b 23 .lss (t 22) (i 0)),
 op 24 (.pick (t 21) (v (.bool true)) (t 23)),
 m 25 24,
 g 25 false (m 26 3),
 g 25 false (b 27 .gtr (t 26) (i 1099511627776)),
 op 28 (.pick (t 25) (v (.bool true)) (t 27))]
def ZH:List aa:=[
 c 29 10 [],
 m 10 29]
def ZI:List aa:=[
 la 30 43 5,
 la 31 1 6,
 c 32 11 [(t 30),(t 31)],
 la 33 43 5,
 la 34 1 6,
 c 35 12 [(t 33),(t 34)],
 op 36 (.eq true 1 (t 32) (t 35))]
def ZJ:List aa:=[
 mc 10 (v B)]
def ZK:List aa:=[
 la 37 43 5,
 la 38 1 6,
 c 39 12 [(t 37),(t 38)],
 op 40 (.un .not (t 39))]
def ZL:List aa:=[
 c 41 10 [],
 m 10 41]
def ZM:List aa:=[
 m 42 2,
 cv 43 .i64 42,
 f 44 0 5,
 f 45 0 44,
 l 46 45,
 b 47 .rem (t 43) (t 46),
 m 11 47]
def ZN:List aa:=[
 la 49 43 5,
 la 50 1 6,
 m 51 11,
 m 52 3,
 la 53 3 9,
 c 54 13 [(t 49),(t 50),(t 51),(t 52),(t 53)],
 m 48 54,
 e 55 48 0,
 e 56 48 1,
 nw 12 42 [I,U,U,U,U,U,U,U,U,I,I,I,I,I,I,B,B,B,B,I,I,I,I,I,I,I,I,E,I,U,U,I,I,N,N,U,U,U,U,I,I,I,I],
 nw 13 52 [N,U,N,I],
 sn 43 12 55,
 sn 4 13 56]
def ZO:List aa:=[
 la 57 43 5,
 la 58 1 6,
 m 59 11,
 m 60 3,
 la 61 3 9,
 c 62 14 [(t 57),(t 58),(t 59),(t 60),(t 61)],
 nw 14 56 [I,U,U,U,U,U,U,U,U,I,I,I,I,I,I,B,B,B,B,I,I,I,I,I,I,I,I,E,I,U,U,I,I,N,N,U,U,U,U,I,I,I,I,N,U,N,I],
 sn 47 14 62]
def Tw:List aa:=[
 la 63 43 5,
 c 64 15 [(t 63)],
 la 65 43 5,
 c 66 16 [(t 65)],
 m 15 64,
 m 16 66]
def Tx:List aa:=[
 m 67 15,
 n 68 2 67,
 b 69 .neq (t 68) (i 3),
 m 70 69,
 g 70 false (m 71 15),
 g 70 false (is 72 2 71 (i 0)),
 g 70 false (la 73 2 72),
 g 70 false (m 74 16),
 g 70 false (is 75 2 74 (i 0)),
 g 70 false (la 76 2 75),
 g 70 false (op 77 (.eqA true [0,0] (t 73) (t 76))),
 op 78 (.pick (t 70) (v (.bool true)) (t 77)),
 m 79 78,
 g 79 false (m 80 15),
 g 79 false (is 81 2 80 (i 1)),
 g 79 false (la 82 2 81),
 g 79 false (m 83 16),
 g 79 false (is 84 2 83 (i 1)),
 g 79 false (la 85 2 84),
 g 79 false (op 86 (.eqA true [0,0] (t 82) (t 85))),
 op 87 (.pick (t 79) (v (.bool true)) (t 86)),
 m 88 87,
 g 88 false (m 89 15),
 g 88 false (is 90 2 89 (i 2)),
 g 88 false (la 91 2 90),
 g 88 false (m 92 16),
 g 88 false (is 93 2 92 (i 2)),
 g 88 false (la 94 2 93),
 g 88 false (op 95 (.eqA true [0,0] (t 91) (t 94))),
 op 96 (.pick (t 88) (v (.bool true)) (t 95))]
def Ty:List aa:=[
 mc 10 (v B)]
def Tz:List aa:=[
 c 97 10 [],
 m 98 97,
 g 98 true (la 99 43 12),
 g 98 true (f 100 0 14),
 g 98 true (la 101 43 100),
 g 98 true (c 102 17 [(t 99),(t 101)]),
 op 103 (.pick (t 98) (t 102) (v B)),
 m 104 103,
 g 104 true (la 105 4 13),
 g 104 true (f 106 43 14),
 g 104 true (la 107 4 106),
 g 104 true (c 108 18 [(t 105),(t 107)]),
 op 109 (.pick (t 104) (t 108) (v B)),
 m 110 109,
 g 110 true (la 111 43 5),
 g 110 true (m 112 11),
 g 110 true (c 113 19 [(t 111),(t 112)]),
 g 110 true (la 114 43 5),
 g 110 true (m 115 11),
 g 110 true (c 116 20 [(t 114),(t 115)]),
 g 110 true (b 117 .eql (t 113) (t 116)),
 op 118 (.pick (t 110) (t 117) (v B)),
 m 119 118,
 g 119 true (la 120 43 5),
 g 119 true (m 121 11),
 g 119 true (m 122 3),
 g 119 true (c 123 21 [(t 120),(t 121),(t 122)]),
 g 119 true (la 124 43 5),
 g 119 true (m 125 11),
 g 119 true (m 126 3),
 g 119 true (c 127 22 [(t 124),(t 125),(t 126)]),
 g 119 true (c 128 17 [(t 123),(t 127)]),
 op 129 (.pick (t 119) (t 128) (v B)),
 m 10 129]
def f3:IFn:=⟨(q (o ZF) (q (q (o ZG) (k 28 (q (o ZH) R) K)) (q (q (od ZI) (k 36 (q (o ZJ) R) K)) (q (q (o ZK) (k 40 (q (o ZL) R) K)) (q (o ZM) (q (o ZN) (q (o ZO) (q (od Tw) (q (q (od Tx) (k 96 (q (o Ty) R) K)) (q (od Tz) R)))))))))),[.t 10],130⟩
def ZP:List aa:=[
 op 2 (.boxp (t 0)),
 op 3 (.boxp (t 1)),
 mc 4 (v B)]
def ZQ:List aa:=[
 la 5 1 3,
 c 6 36 [(t 5)],
 m 7 6,
 g 7 true (f 8 29 2),
 g 7 true (f 9 4 8),
 g 7 true (l 10 9),
 g 7 true (n 11 128 10),
 g 7 true (b 12 .leq (t 11) (i 70)),
 op 13 (.pick (t 7) (t 12) (v B)),
 m 14 13,
 g 14 true (f 15 29 2),
 g 14 true (f 16 5 15),
 g 14 true (l 17 16),
 g 14 true (n 18 5 17),
 g 14 true (b 19 .leq (t 18) (i 20)),
 op 20 (.pick (t 14) (t 19) (v B)),
 m 21 20,
 g 21 true (f 22 27 2),
 g 21 true (f 23 0 22),
 g 21 true (l 24 23),
 g 21 true (ns 25 24),
 g 21 true (b 26 .leq (t 25) (i 200)),
 op 27 (.pick (t 21) (t 26) (v B)),
 m 28 27,
 g 28 true (f 29 29 2),
 g 28 true (la 30 6 29),
 g 28 true (la 31 1 3),
 g 28 true (c 32 37 [(t 30),(t 31)]),
 op 33 (.pick (t 28) (t 32) (v B)),
 m 4 33]
def f9:IFn:=⟨(q (o ZP) (q (o ZQ) R)),[.t 4],34⟩
def TA:List aa:=[
 op 2 (.boxp (t 0)),
 op 3 (.boxp (t 1)),
 mc 4 (v B)]
def TB:List aa:=[
 f 5 0 2,
 la 6 14 5,
 c 7 41 [(t 6)],
 m 8 7,
 g 8 true (f 9 14 2),
 g 8 true (la 10 13 9),
 g 8 true (c 11 42 [(t 10)]),
 op 12 (.pick (t 8) (t 11) (v B)),
 m 13 12,
 g 13 true (f 14 27 2),
 g 13 true (la 15 2 14),
 g 13 true (c 16 43 [(t 15)]),
 op 17 (.pick (t 13) (t 16) (v B)),
 m 18 17,
 g 18 true (f 19 29 2),
 g 18 true (la 20 6 19),
 g 18 true (la 21 1 3),
 g 18 true (c 22 44 [(t 20),(t 21)]),
 op 23 (.pick (t 18) (t 22) (v B)),
 m 24 23,
 g 24 true (f 25 35 2),
 g 24 true (la 26 8 25),
 g 24 true (c 27 45 [(t 26)]),
 op 28 (.pick (t 24) (t 27) (v B)),
 m 4 28]
def f11:IFn:=⟨(q (o TA) (q (o TB) R)),[.t 4],29⟩
def TC:List aa:=[
 op 2 (.boxp (t 0)),
 op 3 (.boxp (t 1)),
 mc 4 (v B)]
def TE:List aa:=[
 f 5 0 2,
 la 6 14 5,
 c 7 46 [(t 6)],
 m 8 7,
 g 8 true (f 9 14 2),
 g 8 true (la 10 13 9),
 g 8 true (c 11 47 [(t 10)]),
 op 12 (.pick (t 8) (t 11) (v B)),
 m 13 12,
 g 13 true (f 14 27 2),
 g 13 true (la 15 2 14),
 g 13 true (c 16 48 [(t 15)]),
 op 17 (.pick (t 13) (t 16) (v B)),
 m 18 17,
 g 18 true (f 19 29 2),
 g 18 true (la 20 6 19),
 g 18 true (la 21 1 3),
 g 18 true (c 22 49 [(t 20),(t 21)]),
 op 23 (.pick (t 18) (t 22) (v B)),
 m 24 23,
 g 24 true (f 25 35 2),
 g 24 true (la 26 8 25),
 g 24 true (c 27 50 [(t 26)]),
 op 28 (.pick (t 24) (t 27) (v B)),
 m 4 28]
def f12:IFn:=⟨(q (o TC) (q (o TE) R)),[.t 4],29⟩
def TF:List aa:=[
 op 5 (.boxp (t 0)),
 op 6 (.boxp (t 1)),
 op 9 (.boxp (t 4)),
 nw 10 42 [I,U,U,U,U,U,U,U,U,I,I,I,I,I,I,B,B,B,B,I,I,I,I,I,I,I,I,E,I,U,U,I,I,N,N,U,U,U,U,I,I,I,I],
 nw 11 52 [N,U,N,I]]
def TG:List aa:=[
 la 14 43 5,
 la 15 1 6,
 m 16 2,
 m 17 3,
 la 18 3 9,
 bd 19 [I,U,U,U,U,U,U,U,U,I,I,I,I,I,I,B,B,B,B,I,I,I,I,I,I,I,I,E,I,U,U,I,I,N,N,U,U,U,U,I,I,I,I,N,I,I,B,I,U] [(0,43,(t 14)),(43,1,(t 15)),(44,1,(t 16)),(45,1,(t 17)),(46,3,(t 18))],
 nw 12 108 [I,U,U,U,U,U,U,U,U,I,I,I,I,I,I,B,B,B,B,I,I,I,I,I,I,I,I,E,I,U,U,I,I,N,N,U,U,U,U,I,I,I,I,N,I,I,B,I,U],
 sn 49 12 19]
def TH:List aa:=[
 la 20 49 12,
 bd 21 [I,U,U,U,U,U,U,U,U,I,I,I,I,I,I,B,B,B,B,I,I,I,I,I,I,I,I,E,I,U,U,I,I,N,N,U,U,U,U,I,I,I,I,N,I,I,B,I,U] [(0,49,(t 20))],
 op 22 (.mkif 110 (t 21)),
 la 23 49 12,
 bd 24 [I,U,U,U,U,U,U,U,U,I,I,I,I,I,I,B,B,B,B,I,I,I,I,I,I,I,I,E,I,U,U,I,I,N,N,U,U,U,U,I,I,I,I,N,I,I,B,I,U] [(0,49,(t 23))],
 op 25 (.mkif 111 (t 24)),
 la 26 49 12,
 bd 27 [I,U,U,U,U,U,U,U,U,I,I,I,I,I,I,B,B,B,B,I,I,I,I,I,I,I,I,E,I,U,U,I,I,N,N,U,U,U,U,I,I,I,I,N,I,I,B,I,U] [(0,49,(t 26))],
 op 28 (.mkif 112 (t 27)),
 la 29 49 12,
 bd 30 [I,U,U,U,U,U,U,U,U,I,I,I,I,I,I,B,B,B,B,I,I,I,I,I,I,I,I,E,I,U,U,I,I,N,N,U,U,U,U,I,I,I,I,N,I,I,B,I,U] [(0,49,(t 29))],
 op 31 (.mkif 113 (t 30)),
 la 32 49 12,
 bd 33 [I,U,U,U,U,U,U,U,U,I,I,I,I,I,I,B,B,B,B,I,I,I,I,I,I,I,I,E,I,U,U,I,I,N,N,U,U,U,U,I,I,I,I,N,I,I,B,I,U] [(0,49,(t 32))],
 op 34 (.mkif 114 (t 33)),
 bd 35 [.nilif,.nilif,.nilif,.nilif,.nilif] [(0,1,(t 22)),(1,1,(t 25)),(2,1,(t 28)),(3,1,(t 31)),(4,1,(t 34))],
 nw 13 117 [.nilif,.nilif,.nilif,.nilif,.nilif],
 sn 5 13 35]
def TJ:List aa:=[
 f 36 1 9,
 l 37 36,
 b 38 .lss (t 37) (i 0),
 m 39 38,
 g 39 false (f 40 1 9),
 g 39 false (l 41 40),
 g 39 false (b 42 .quo (t 41) (i 16)),
 g 39 false (b 43 .geq (t 42) (i 5)),
 op 44 (.pick (t 39) (v (.bool true)) (t 43))]
def TK:List aa:=[
 la 45 49 12,
 c 46 51 [(t 45),(i 5)],
 e 47 46 0,
 e 48 46 1,
 sn 43 10 47,
 sn 4 11 48]
def TL:List aa:=[
 f 49 1 9,
 l 50 49,
 b 51 .quo (t 50) (i 16),
 ia 52 5 1 13 (t 51),
 l 53 52,
 op 54 (.calli [(110,225),(111,233),(112,237),(113,244),(114,252)] (t 53) []),
 e 55 54 0,
 e 56 54 1,
 sn 43 10 55,
 sn 4 11 56]
def f13:IFn:=⟨(q (o TF) (q (o TG) (q (o TH) (q (q (o TJ) (k 44 (q (o TK) R) K)) (q (o TL) R))))),[.cell 10 43 true,.cell 11 4 true],57⟩
def TM:List aa:=[
 x 5 42 0,
 op 6 (.boxp (t 1)),
 op 9 (.boxp (t 4)),
 nw 10 56 [I,U,U,U,U,U,U,U,U,I,I,I,I,I,I,B,B,B,B,I,I,I,I,I,I,I,I,E,I,U,U,I,I,N,N,U,U,U,U,I,I,I,I,N,U,N,I]]
def TN:List aa:=[
 f 13 1 9,
 l 14 13,
 b 15 .lss (t 14) (i 0),
 m 16 15,
 g 16 false (f 17 1 9),
 g 16 false (l 18 17),
 g 16 false (b 19 .geq (t 18) (i 80)),
 op 20 (.pick (t 16) (v (.bool true)) (t 19))]
def TO:List aa:=[
 la 21 43 5,
 la 22 1 6,
 c 23 52 [(t 21),(t 22),(i 5)],
 sn 47 10 23]
def TP:List aa:=[
 f 24 1 9,
 l 25 24,
 b 26 .lss (t 25) (i 48)]
def TQ:List aa:=[
 la 27 43 5,
 la 28 1 6,
 m 29 2,
 m 30 3,
 la 31 3 9,
 c 32 53 [(t 27),(t 28),(t 29),(t 30),(t 31)],
 sn 47 10 32]
def TR:List aa:=[
 f 33 1 9,
 l 34 33,
 b 35 .lss (t 34) (i 64)]
def TT:List aa:=[
 f 36 29 5,
 la 37 6 36,
 la 38 1 6,
 la 39 3 9,
 c 40 54 [(t 37),(t 38),(t 39)],
 nw 11 124 [U,U,I,I,N,N,N,U,N,B,B],
 sn 11 11 40]
def TU:List aa:=[
 f 41 6 11,
 f 42 4 41,
 l 43 42,
 op 44 (.un .not (t 43))]
def TV:List aa:=[
 la 45 43 5,
 la 46 1 6,
 c 47 52 [(t 45),(t 46),(i 5)],
 sn 47 10 47]
def TW:List aa:=[
 f 48 0 11,
 la 49 6 48,
 f 50 29 5,
 sn 6 50 49]
def FA:List aa:=[
 la 51 43 5,
 f 52 6 11,
 f 53 3 52,
 l 54 53,
 c 55 55 [(t 51),(i 2),(t 54)],
 f 56 6 11,
 f 57 0 56,
 la 58 1 57,
 f 59 6 11,
 f 60 1 59,
 l 61 60,
 bd 62 [N,U,N,I] [(0,1,(t 58)),(1,1,(t 61))],
 bd 63 [I,U,U,U,U,U,U,U,U,I,I,I,I,I,I,B,B,B,B,I,I,I,I,I,I,I,I,E,I,U,U,I,I,N,N,U,U,U,U,I,I,I,I,N,U,N,I] [(0,43,(t 55)),(43,4,(t 62))],
 sn 47 10 63]
def FC:List aa:=[
 f 64 35 5,
 la 65 8 64,
 la 66 1 6,
 la 67 3 9,
 c 68 56 [(t 65),(t 66),(t 67)],
 nw 12 128 [U,U,U,U,I,I,I,I,N,U,N,B,B],
 sn 13 12 68]
def FD:List aa:=[
 f 69 8 12,
 f 70 4 69,
 l 71 70,
 op 72 (.un .not (t 71))]
def FE:List aa:=[
 la 73 43 5,
 la 74 1 6,
 c 75 52 [(t 73),(t 74),(i 5)],
 sn 47 10 75]
def FF:List aa:=[
 f 76 0 12,
 la 77 8 76,
 f 78 35 5,
 sn 8 78 77]
def FG:List aa:=[
 la 79 43 5,
 f 80 8 12,
 f 81 3 80,
 l 82 81,
 c 83 55 [(t 79),(i 3),(t 82)],
 f 84 8 12,
 f 85 0 84,
 la 86 1 85,
 f 87 8 12,
 f 88 1 87,
 l 89 88,
 m 90 2,
 m 91 3,
 f 92 8 12,
 f 93 2 92,
 l 94 93,
 c 95 57 [(i 2),(t 90),(t 91),(t 94)],
 bd 96 [N,U,N,I] [(0,1,(t 86)),(1,1,(t 89)),(2,1,(t 95))],
 bd 97 [I,U,U,U,U,U,U,U,U,I,I,I,I,I,I,B,B,B,B,I,I,I,I,I,I,I,I,E,I,U,U,I,I,N,N,U,U,U,U,I,I,I,I,N,U,N,I] [(0,43,(t 83)),(43,4,(t 96))],
 sn 47 10 97]
def f14:IFn:=⟨(q (o TM) (q (q (o TN) (k 20 (q (o TO) R) K)) (q (q (o TP) (k 26 (q (o TQ) R) K)) (q (q (o TR) (k 35 (q (o TT) (q (q (o TU) (k 44 (q (o TV) R) K)) (q (o TW) (q (od FA) R)))) K)) (q (o FC) (q (q (o FD) (k 72 (q (o FE) R) K)) (q (o FF) (q (od FG) R)))))))),[.cell 10 47 true],98⟩
def TY:List aa:=[
 op 1 (.boxp (t 0)),
 mc 2 (v N)]
def TZ:List aa:=[
 f 3 29 1,
 f 4 0 3,
 la 5 2 4,
 f 6 35 1,
 f 7 0 6,
 la 8 2 7,
 f 9 35 1,
 f 10 2 9,
 la 11 2 10,
 bs 12 2 [U,U,U,U,U,U] [(0,2,(t 5)),(2,2,(t 8)),(4,2,(t 11))],
 m 2 12]
def f15:IFn:=⟨(q (o TY) (q (o TZ) R)),[.t 2],13⟩
def T2:List aa:=[
 op 1 (.boxp (t 0)),
 mc 2 (v N)]
def T3:List aa:=[
 f 3 29 1,
 f 4 0 3,
 la 5 2 4,
 f 6 35 1,
 f 7 0 6,
 la 8 2 7,
 f 9 35 1,
 f 10 2 9,
 la 11 2 10,
 bs 12 2 [U,U,U,U,U,U] [(0,2,(t 5)),(2,2,(t 8)),(4,2,(t 11))],
 m 2 12]
def f16:IFn:=⟨(q (o T2) (q (o T3) R)),[.t 2],13⟩
def T4:List aa:=[
 op 2 (.boxp (t 0)),
 op 3 (.boxp (t 1)),
 mc 4 (v B)]
def T5:List aa:=[
 f 5 0 2,
 la 6 14 5,
 f 7 0 3,
 la 8 14 7,
 op 9 (.eqA false [0,0,0,0,0,0,0,0,0,0,0,0,0,0] (t 6) (t 8)),
 m 10 9,
 g 10 true (f 11 14 2),
 g 10 true (la 12 13 11),
 g 10 true (f 13 14 3),
 g 10 true (la 14 13 13),
 g 10 true (op 15 (.eqA false [0,1,1,1,1,0,0,0,0,0,0,0,0] (t 12) (t 14))),
 op 16 (.pick (t 10) (t 15) (v B)),
 m 17 16,
 g 17 true (f 18 27 2),
 g 17 true (la 19 2 18),
 g 17 true (f 20 27 3),
 g 17 true (la 21 2 20),
 g 17 true (op 22 (.eqA false [2,0] (t 19) (t 21))),
 op 23 (.pick (t 17) (t 22) (v B)),
 m 24 23,
 g 24 true (f 25 35 2),
 g 24 true (la 26 8 25),
 g 24 true (f 27 35 3),
 g 24 true (la 28 8 27),
 g 24 true (op 29 (.eqA false [0,0,0,0,0,0,0,0] (t 26) (t 28))),
 op 30 (.pick (t 24) (t 29) (v B)),
 m 31 30,
 g 31 true (f 32 29 2),
 g 31 true (la 33 6 32),
 g 31 true (f 34 29 3),
 g 31 true (la 35 6 34),
 g 31 true (c 36 34 [(t 33),(t 35)]),
 op 37 (.pick (t 31) (t 36) (v B)),
 m 4 37]
def f17:IFn:=⟨(q (o T4) (q (o T5) R)),[.t 4],38⟩
def T6:List aa:=[
 op 2 (.boxp (t 0)),
 op 3 (.boxp (t 1)),
 mc 4 (v B)]
def T7:List aa:=[
 f 5 1 2,
 l 6 5,
 f 7 1 3,
 l 8 7,
 b 9 .eql (t 6) (t 8),
 m 10 9,
 g 10 true (f 11 3 2),
 g 10 true (l 12 11),
 g 10 true (f 13 3 3),
 g 10 true (l 14 13),
 g 10 true (b 15 .eql (t 12) (t 14)),
 op 16 (.pick (t 10) (t 15) (v B)),
 m 17 16,
 g 17 true (f 18 2 2),
 g 17 true (l 19 18),
 g 17 true (f 20 2 3),
 g 17 true (l 21 20),
 g 17 true (c 22 35 [(t 19),(t 21)]),
 op 23 (.pick (t 17) (t 22) (v B)),
 m 24 23,
 g 24 true (f 25 0 2),
 g 24 true (la 26 1 25),
 g 24 true (f 27 0 3),
 g 24 true (la 28 1 27),
 g 24 true (c 29 28 [(t 26),(t 28)]),
 op 30 (.pick (t 24) (t 29) (v B)),
 m 4 30]
def f18:IFn:=⟨(q (o T6) (q (o T7) R)),[.t 4],31⟩
def T8:List aa:=[
 op 2 (.boxp (t 0)),
 mc 4 (w 0)]
def T9:List aa:=[
 f 5 0 2,
 la 6 14 5,
 m 7 1,
 c 8 58 [(t 6),(t 7)],
 m 4 8]
def f19:IFn:=⟨(q (o T8) (q (o T9) R)),[.t 4],9⟩
def Ua:List aa:=[
 op 2 (.boxp (t 0)),
 mc 4 (w 0)]
def Ub:List aa:=[
 f 5 0 2,
 la 6 14 5,
 m 7 1,
 c 8 59 [(t 6),(t 7)],
 m 4 8]
def f20:IFn:=⟨(q (o Ua) (q (o Ub) R)),[.t 4],9⟩
def Uc:List aa:=[
 x 3 42 0,
 nw 6 42 [I,U,U,U,U,U,U,U,U,I,I,I,I,I,I,B,B,B,B,I,I,I,I,I,I,I,I,E,I,U,U,I,I,N,N,U,U,U,U,I,I,I,I]]
def Ud:List aa:=[
 f 10 14 3,
 la 11 13 10,
 m 12 1,
 m 13 2,
 c 14 60 [(t 11),(t 12),(t 13)],
 m 9 14,
 e 15 9 0,
 e 16 9 1,
 nw 7 30 [I,B,B,B,B,I,I,I,I,I,I,I,I],
 sn 13 7 15,
 m 8 16]
def Ue:List aa:=[
 la 17 13 7,
 f 18 14 3,
 sn 13 18 17]
def Uf:List aa:=[
 m 19 8]
def Ug:List aa:=[
 f 20 0 3,
 la 21 14 20,
 m 22 1,
 c 23 61 [(t 21),(i 0),(t 22)],
 f 24 0 3,
 sn 14 24 23]
def Uh:List aa:=[
 la 25 43 3,
 sn 43 6 25]
def f21:IFn:=⟨(q (o Uc) (q (o Ud) (q (o Ue) (q (q (o Uf) (k 19 (o Ug) K)) (q (o Uh) R))))),[.cell 6 43 true],26⟩
def Ui:List aa:=[
 x 3 42 0,
 nw 6 42 [I,U,U,U,U,U,U,U,U,I,I,I,I,I,I,B,B,B,B,I,I,I,I,I,I,I,I,E,I,U,U,I,I,N,N,U,U,U,U,I,I,I,I]]
def Uj:List aa:=[
 f 8 14 3,
 la 9 13 8,
 m 10 1,
 m 11 2,
 c 12 62 [(t 9),(t 10),(t 11)],
 nw 7 136 [I,B,B,B,B,I,I,I,I,I,I,I,I,U,B,I],
 sn 16 7 12]
def Uk:List aa:=[
 f 13 0 7,
 la 14 13 13,
 f 15 14 3,
 sn 13 15 14]
def Ul:List aa:=[
 f 16 14 7,
 l 17 16]
def Um:List aa:=[
 f 18 0 3,
 la 19 14 18,
 m 20 1,
 c 21 63 [(t 19),(i 0),(t 20)],
 f 22 0 3,
 sn 14 22 21]
def Un:List aa:=[
 la 23 43 3,
 sn 43 6 23]
def f22:IFn:=⟨(q (o Ui) (q (o Uj) (q (o Uk) (q (q (o Ul) (k 17 (o Um) K)) (q (o Un) R))))),[.cell 6 43 true],24⟩
def Uo:List aa:=[
 x 2 44 0,
 x 3 44 1,
 mc 4 (v B)]
def Up:List aa:=[
 la 5 1 2,
 la 6 1 3,
 c 7 77 [(t 5),(t 6)],
 n 8 1 7,
 b 9 .eql (t 8) (i 0),
 m 4 9]
def f28:IFn:=⟨(q (o Uo) (q (o Up) R)),[.t 4],10⟩
def Uq:List aa:=[
 x 2 38 0,
 x 3 38 1,
 mc 4 (v B)]
def Ur:List aa:=[
 la 5 6 2,
 c 6 101 [(t 5)],
 op 7 (.b2s (t 6)),
 la 8 6 3,
 c 9 101 [(t 8)],
 op 10 (.b2s (t 9)),
 b 11 .eql (t 7) (t 10),
 m 4 11]
def f34:IFn:=⟨(q (o Uq) (q (od Ur) R)),[.t 4],12⟩
def Us:List aa:=[
 mc 4 (v B)]
def Ut:List aa:=[
 m 6 0,
 n 7 5 6,
 m 8 1,
 n 9 5 8,
 b 10 .neq (t 7) (t 9)]
def Uu:List aa:=[
 mc 4 (v B)]
def Uv:List aa:=[
 mc 5 (i 0)]
def Uw:List aa:=[
 m 11 5,
 m 12 0,
 n 13 5 12,
 b 14 .lss (t 11) (t 13)]
def Ux:List aa:=[
 m 17 0,
 m 18 5,
 is 19 5 17 (t 18),
 la 20 5 19,
 m 21 1,
 m 22 5,
 is 23 5 21 (t 22),
 la 24 5 23,
 op 25 (.eqA true [0,0,0,0,2] (t 20) (t 24))]
def Uy:List aa:=[
 mc 4 (v B)]
def Uz:List aa:=[
 m 15 5,
 b 16 .add (t 15) (i 1),
 m 5 16]
def UA:IC:=(q (q (o Uw) (k 14 K (ex 0))) (q (bl 1 (q (od Ux) (k 25 (q (o Uy) R) K))) (o Uz)))
def UB:List aa:=[
 mc 4 (v (.bool true))]
def f35:IFn:=⟨(q (o Us) (q (q (o Ut) (k 10 (q (o Uu) R) K)) (q (q (o Uv) (bl 0 (lp UA))) (q (o UB) R)))),[.t 4],26⟩
def UC:List aa:=[
 x 1 44 0,
 mc 2 (v B)]
def UD:List aa:=[
 f 3 0 1,
 l 4 3,
 n 5 128 4,
 b 6 .geq (t 5) (i 1),
 m 7 6,
 g 7 true (f 8 0 1),
 g 7 true (l 9 8),
 g 7 true (n 10 128 9),
 g 7 true (b 11 .leq (t 10) (i 64)),
 op 12 (.pick (t 7) (t 11) (v B)),
 m 2 12]
def f36:IFn:=⟨(q (o UC) (q (o UD) R)),[.t 2],13⟩
def UE:List aa:=[
 x 2 38 0,
 x 3 44 1,
 mc 4 (v B)]
def UF:List aa:=[
 mc 5 (i 0)]
def UG:List aa:=[
 m 6 5,
 f 7 5 2,
 l 8 7,
 n 9 5 8,
 b 10 .lss (t 6) (t 9),
 m 11 10,
 g 11 true (m 12 5),
 g 11 true (b 13 .lss (t 12) (i 11)),
 op 14 (.pick (t 11) (t 13) (v B))]
def UH:List aa:=[
 f 17 5 2,
 l 18 17,
 m 19 5,
 is 20 5 18 (t 19),
 f 21 4 20,
 l 22 21,
 n 23 4 22,
 b 24 .gtr (t 23) (i 10)]
def UI:List aa:=[
 mc 4 (v B)]
def UJ:List aa:=[
 m 15 5,
 b 16 .add (t 15) (i 1),
 m 5 16]
def UK:IC:=(q (q (o UG) (k 14 K (ex 0))) (q (bl 1 (q (o UH) (k 24 (q (o UI) R) K))) (o UJ)))
def UL:List aa:=[
 f 25 0 3,
 l 26 25,
 n 27 128 26,
 b 28 .leq (t 27) (i 16),
 m 29 28,
 g 29 true (f 30 4 2),
 g 29 true (l 31 30),
 g 29 true (n 32 128 31),
 g 29 true (b 33 .leq (t 32) (i 16)),
 op 34 (.pick (t 29) (t 33) (v B)),
 m 35 34,
 g 35 true (f 36 5 2),
 g 35 true (l 37 36),
 g 35 true (n 38 5 37),
 g 35 true (b 39 .leq (t 38) (i 10)),
 op 40 (.pick (t 35) (t 39) (v B)),
 m 4 40]
def f37:IFn:=⟨(q (o UE) (q (q (o UF) (bl 0 (lp UK))) (q (o UL) R))),[.t 4],41⟩
def UM:List aa:=[
 op 1 (.boxp (t 0)),
 mc 2 (v B)]
def UN:List aa:=[
 f 7 0 1,
 l 8 7,
 b 9 .lss (t 8) (i 1),
 m 10 9,
 g 10 false (f 11 0 1),
 g 10 false (l 12 11),
 g 10 false (b 13 .gtr (t 12) (i 4)),
 op 14 (.pick (t 10) (v (.bool true)) (t 13))]
def UO:List aa:=[
 mc 2 (v B)]
def UP:List aa:=[
 mc 15 (i 0)]
def UQ:List aa:=[
 b 16 .lss (t 15) (i 4)]
def UR:List aa:=[
 m 17 15,
 m 3 17]
def US:List aa:=[
 m 18 3,
 f 19 1 1,
 ia 20 4 1 19 (t 18),
 l 21 20,
 m 22 3,
 f 23 5 1,
 ia 24 4 1 23 (t 22),
 l 25 24,
 b 26 .or (t 21) (t 25),
 m 4 26]
def UT:List aa:=[
 m 27 4,
 b 28 .shr (t 27) (w 5),
 b 29 .neq (t 28) (w 0),
 m 30 29,
 g 30 false (m 31 3),
 g 30 false (f 32 0 1),
 g 30 false (l 33 32),
 g 30 false (b 34 .geq (t 31) (t 33)),
 g 30 false (m 35 34),
 g 35 true (m 36 4),
 g 35 true (b 37 .neq (t 36) (w 0)),
 g 30 false (op 38 (.pick (t 35) (t 37) (v B))),
 op 39 (.pick (t 30) (v (.bool true)) (t 38))]
def UU:List aa:=[
 mc 2 (v B)]
def UW:List aa:=[
 b 40 .add (t 15) (i 1),
 m 15 40]
def FH:IC:=(q (o UQ) (q (k 16 K (ex 0)) (q (bl 1 (q (o UR) (q (od US) (q (o UT) (k 39 (q (o UU) R) K))))) (o UW))))
def FI:List aa:=[
 f 41 9 1,
 la 42 5 41,
 mc 43 (i 0)]
def FJ:List aa:=[
 b 44 .lss (t 43) (i 5)]
def FK:List aa:=[
 m 45 43,
 op 46 (.ixA 5 1 false (t 42) (t 43)),
 m 5 45,
 m 6 46]
def FL:List aa:=[
 m 47 6,
 b 48 .lss (t 47) (i 0),
 m 49 48,
 g 49 false (m 50 6),
 g 49 false (f 51 0 1),
 g 49 false (l 52 51),
 g 49 false (b 53 .geq (t 50) (t 52)),
 op 54 (.pick (t 49) (v (.bool true)) (t 53)),
 m 55 54,
 g 55 false (m 56 6),
 g 55 false (b 57 .neq (t 56) (i 0)),
 g 55 false (m 58 57),
 g 58 true (m 59 5),
 g 58 true (cv 60 .u32 59),
 g 58 true (c 61 103 [(t 60)]),
 g 58 true (op 62 (.un .not (t 61))),
 g 55 false (op 63 (.pick (t 58) (t 62) (v B))),
 op 64 (.pick (t 55) (v (.bool true)) (t 63))]
def FM:List aa:=[
 mc 2 (v B)]
def FO:List aa:=[
 b 65 .add (t 43) (i 1),
 m 43 65]
def FP:IC:=(q (o FJ) (q (k 44 K (ex 2)) (q (bl 3 (q (o FK) (q (o FL) (k 64 (q (o FM) R) K)))) (o FO))))
def FQ:List aa:=[
 mc 2 (v (.bool true))]
def f41:IFn:=⟨(q (o UM) (q (q (o UN) (k 14 (q (o UO) R) K)) (q (q (o UP) (bl 0 (lp FH))) (q (q (o FI) (bl 2 (lp FP))) (q (o FQ) R))))),[.t 2],66⟩
def UX:List aa:=[
 op 1 (.boxp (t 0)),
 mc 2 (v B)]
def UY:List aa:=[
 f 4 0 1,
 l 5 4,
 b 6 .lss (t 5) (i 0),
 m 7 6,
 g 7 false (f 8 0 1),
 g 7 false (l 9 8),
 g 7 false (b 10 .gtr (t 9) (i 2147483647)),
 op 11 (.pick (t 7) (v (.bool true)) (t 10))]
def UZ:List aa:=[
 mc 2 (v B)]
def U0:List aa:=[
 mc 12 (i 0)]
def U1:List aa:=[
 b 13 .lss (t 12) (i 4)]
def U2:List aa:=[
 m 14 12,
 m 3 14]
def U3:List aa:=[
 m 15 3,
 f 16 5 1,
 ia 17 4 1 16 (t 15),
 l 18 17,
 b 19 .lss (t 18) (i 0),
 m 20 19,
 g 20 false (m 21 3),
 g 20 false (f 22 5 1),
 g 20 false (ia 23 4 1 22 (t 21)),
 g 20 false (l 24 23),
 g 20 false (f 25 0 1),
 g 20 false (l 26 25),
 g 20 false (b 27 .gtr (t 24) (t 26)),
 op 28 (.pick (t 20) (v (.bool true)) (t 27)),
 m 29 28,
 g 29 false (m 30 3),
 g 29 false (f 31 1 1),
 g 29 false (ia 32 4 1 31 (t 30)),
 g 29 false (l 33 32),
 g 29 false (op 34 (.un .not (t 33))),
 g 29 false (m 35 34),
 g 35 true (m 36 3),
 g 35 true (f 37 5 1),
 g 35 true (ia 38 4 1 37 (t 36)),
 g 35 true (l 39 38),
 g 35 true (b 40 .neq (t 39) (i 0)),
 g 29 false (op 41 (.pick (t 35) (t 40) (v B))),
 op 42 (.pick (t 29) (v (.bool true)) (t 41)),
 m 43 42,
 g 43 false (m 44 3),
 g 43 false (f 45 9 1),
 g 43 false (ia 46 4 1 45 (t 44)),
 g 43 false (l 47 46),
 g 43 false (b 48 .lss (t 47) (i 0)),
 op 49 (.pick (t 43) (v (.bool true)) (t 48)),
 m 50 49,
 g 50 false (m 51 3),
 g 50 false (f 52 9 1),
 g 50 false (ia 53 4 1 52 (t 51)),
 g 50 false (l 54 53),
 g 50 false (b 55 .gtr (t 54) (i 1099511627776)),
 op 56 (.pick (t 50) (v (.bool true)) (t 55))]
def U4:List aa:=[
 mc 2 (v B)]
def U5:List aa:=[
 b 57 .add (t 12) (i 1),
 m 12 57]
def U6:IC:=(q (o U1) (q (k 13 K (ex 0)) (q (bl 1 (q (o U2) (q (od U3) (k 56 (q (o U4) R) K)))) (o U5))))
def FR:List aa:=[
 mc 2 (v (.bool true))]
def f42:IFn:=⟨(q (o UX) (q (q (o UY) (k 11 (q (o UZ) R) K)) (q (q (o U0) (bl 0 (lp U6))) (q (o FR) R)))),[.t 2],58⟩
def U7:List aa:=[
 op 1 (.boxp (t 0)),
 mc 2 (v B)]
def U8:List aa:=[
 f 3 0 1,
 l 4 3,
 ns 5 4,
 b 6 .leq (t 5) (i 64),
 m 7 6,
 g 7 true (f 8 1 1),
 g 7 true (l 9 8),
 g 7 true (b 10 .geq (t 9) (i 0)),
 op 11 (.pick (t 7) (t 10) (v B)),
 m 12 11,
 g 12 true (f 13 1 1),
 g 12 true (l 14 13),
 g 12 true (b 15 .leq (t 14) (i 1099511627776)),
 op 16 (.pick (t 12) (t 15) (v B)),
 m 2 16]
def f43:IFn:=⟨(q (o U7) (q (o U8) R)),[.t 2],17⟩
def U9:List aa:=[
 x 2 38 0,
 x 3 44 1,
 mc 4 (v B)]
def Va:List aa:=[
 f 9 2 2,
 l 10 9,
 b 11 .eql (t 10) (i 0),
 m 12 11,
 g 12 false (f 13 2 2),
 g 12 false (l 14 13),
 g 12 false (b 15 .gtr (t 14) (i 0)),
 g 12 false (m 16 15),
 g 16 true (f 17 0 2),
 g 16 true (f 18 1 17),
 g 16 true (l 19 18),
 g 16 true (c 20 104 [(t 19)]),
 g 12 false (op 21 (.pick (t 16) (t 20) (v B))),
 g 12 false (m 22 21),
 g 22 true (f 23 2 2),
 g 22 true (l 24 23),
 g 22 true (f 25 0 2),
 g 22 true (f 26 1 25),
 g 22 true (l 27 26),
 g 22 true (cv 28 .i64 27),
 g 22 true (b 29 .lss (t 24) (t 28)),
 g 12 false (op 30 (.pick (t 22) (t 29) (v B))),
 op 31 (.pick (t 12) (v (.bool true)) (t 30)),
 m 5 31]
def Vb:List aa:=[
 f 32 3 2,
 l 33 32,
 b 34 .eql (t 33) (i 0),
 m 35 34,
 g 35 false (f 36 3 2),
 g 35 false (l 37 36),
 g 35 false (b 38 .geq (t 37) (i 160)),
 g 35 false (m 39 38),
 g 39 true (f 40 3 2),
 g 39 true (l 41 40),
 g 39 true (b 42 .leq (t 41) (i 165)),
 g 35 false (op 43 (.pick (t 39) (t 42) (v B))),
 op 44 (.pick (t 35) (v (.bool true)) (t 43)),
 m 6 44]
def Vc:List aa:=[
 m 45 5,
 op 46 (.un .not (t 45)),
 m 47 46,
 g 47 false (m 48 6),
 g 47 false (op 49 (.un .not (t 48))),
 op 50 (.pick (t 47) (v (.bool true)) (t 49)),
 m 51 50,
 g 51 false (f 52 4 2),
 g 51 false (l 53 52),
 g 51 false (n 54 128 53),
 g 51 false (b 55 .gtr (t 54) (i 64)),
 op 56 (.pick (t 51) (v (.bool true)) (t 55)),
 m 57 56,
 g 57 false (f 58 5 2),
 g 57 false (l 59 58),
 g 57 false (n 60 5 59),
 g 57 false (b 61 .gtr (t 60) (i 8)),
 op 62 (.pick (t 57) (v (.bool true)) (t 61))]
def Vd:List aa:=[
 mc 4 (v B)]
def Ve:List aa:=[
 f 63 5 2,
 l 64 63,
 n 65 5 64,
 mc 66 (i 0)]
def Vf:List aa:=[
 b 67 .lss (t 66) (t 65)]
def Vg:List aa:=[
 is 68 5 64 (t 66),
 la 69 5 68,
 nw 8 190 [U,U,I,B,N],
 sn 5 8 69]
def Vh:List aa:=[
 la 70 5 8,
 la 71 1 3,
 f 72 4 2,
 l 73 72,
 n 74 128 73,
 c 75 105 [(t 70),(t 71),(t 74)],
 op 76 (.un .not (t 75))]
def Vi:List aa:=[
 mc 4 (v B)]
def FT:List aa:=[
 b 77 .add (t 66) (i 1),
 m 66 77]
def FU:IC:=(q (o Vf) (q (k 67 K (ex 0)) (q (bl 1 (q (o Vg) (q (o Vh) (k 76 (q (o Vi) R) K)))) (o FT))))
def FV:List aa:=[
 mc 4 (v (.bool true))]
def f44:IFn:=⟨(q (o U9) (q (o Va) (q (o Vb) (q (q (o Vc) (k 62 (q (o Vd) R) K)) (q (q (o Ve) (bl 0 (lp FU))) (q (o FV) R)))))),[.t 4],78⟩
def Vj:List aa:=[
 x 1 40 0,
 mc 2 (v B)]
def Vk:List aa:=[
 f 4 6 1,
 l 5 4,
 b 6 .eql (t 5) (i 0),
 m 7 6,
 g 7 false (f 8 6 1),
 g 7 false (l 9 8),
 g 7 false (b 10 .geq (t 9) (i 160)),
 g 7 false (m 11 10),
 g 11 true (f 12 6 1),
 g 11 true (l 13 12),
 g 11 true (b 14 .leq (t 13) (i 165)),
 g 7 false (op 15 (.pick (t 11) (t 14) (v B))),
 op 16 (.pick (t 7) (v (.bool true)) (t 15)),
 m 3 16]
def Vl:List aa:=[
 m 17 3,
 m 18 17,
 g 18 true (f 19 0 1),
 g 18 true (la 20 2 19),
 g 18 true (f 21 4 1),
 g 18 true (l 22 21),
 g 18 true (c 23 106 [(t 20),(t 22)]),
 op 24 (.pick (t 18) (t 23) (v B)),
 m 25 24,
 g 25 true (f 26 2 1),
 g 25 true (la 27 2 26),
 g 25 true (f 28 5 1),
 g 25 true (l 29 28),
 g 25 true (c 30 106 [(t 27),(t 29)]),
 op 31 (.pick (t 25) (t 30) (v B)),
 m 32 31,
 g 32 true (f 33 7 1),
 g 32 true (l 34 33),
 g 32 true (b 35 .geq (t 34) (i 0)),
 op 36 (.pick (t 32) (t 35) (v B)),
 m 37 36,
 g 37 true (f 38 7 1),
 g 37 true (l 39 38),
 g 37 true (b 40 .leq (t 39) (i 1099511627776)),
 op 41 (.pick (t 37) (t 40) (v B)),
 m 2 41]
def f45:IFn:=⟨(q (o Vj) (q (o Vk) (q (o Vl) R))),[.t 2],42⟩
def Vm:List aa:=[
 op 1 (.boxp (t 0)),
 mc 2 (v B)]
def Vn:List aa:=[
 f 5 0 1,
 l 6 5,
 b 7 .lss (t 6) (i 1),
 m 8 7,
 g 8 false (f 9 0 1),
 g 8 false (l 10 9),
 g 8 false (b 11 .gtr (t 10) (i 4)),
 op 12 (.pick (t 8) (v (.bool true)) (t 11))]
def Vo:List aa:=[
 mc 2 (v B)]
def Vp:List aa:=[
 mc 3 (i 0)]
def Vq:List aa:=[
 m 13 3,
 b 14 .lss (t 13) (i 4)]
def Vr:List aa:=[
 m 17 3,
 f 18 1 1,
 ia 19 4 1 18 (t 17),
 l 20 19,
 b 21 .geq (t 20) (w 32),
 m 22 21,
 g 22 false (m 23 3),
 g 22 false (f 24 5 1),
 g 22 false (ia 25 4 1 24 (t 23)),
 g 22 false (l 26 25),
 g 22 false (b 27 .geq (t 26) (w 32)),
 op 28 (.pick (t 22) (v (.bool true)) (t 27)),
 m 29 28,
 g 29 false (m 30 3),
 g 29 false (f 31 0 1),
 g 29 false (l 32 31),
 g 29 false (b 33 .geq (t 30) (t 32)),
 g 29 false (m 34 33),
 g 34 true (m 35 3),
 g 34 true (f 36 1 1),
 g 34 true (ia 37 4 1 36 (t 35)),
 g 34 true (l 38 37),
 g 34 true (b 39 .neq (t 38) (w 0)),
 g 34 true (m 40 39),
 g 40 false (m 41 3),
 g 40 false (f 42 5 1),
 g 40 false (ia 43 4 1 42 (t 41)),
 g 40 false (l 44 43),
 g 40 false (b 45 .neq (t 44) (w 0)),
 g 34 true (op 46 (.pick (t 40) (v (.bool true)) (t 45))),
 g 29 false (op 47 (.pick (t 34) (t 46) (v B))),
 op 48 (.pick (t 29) (v (.bool true)) (t 47))]
def Vs:List aa:=[
 mc 2 (v B)]
def Vt:List aa:=[
 m 15 3,
 b 16 .add (t 15) (i 1),
 m 3 16]
def Vu:IC:=(q (q (o Vq) (k 14 K (ex 0))) (q (bl 1 (q (o Vr) (k 48 (q (o Vs) R) K))) (o Vt)))
def Vv:List aa:=[
 mc 4 (i 0)]
def FW:List aa:=[
 m 49 4,
 b 50 .lss (t 49) (i 5)]
def FX:List aa:=[
 m 53 4,
 f 54 9 1,
 ia 55 5 1 54 (t 53),
 l 56 55,
 b 57 .lss (t 56) (i 0),
 m 58 57,
 g 58 false (m 59 4),
 g 58 false (f 60 9 1),
 g 58 false (ia 61 5 1 60 (t 59)),
 g 58 false (l 62 61),
 g 58 false (f 63 0 1),
 g 58 false (l 64 63),
 g 58 false (b 65 .geq (t 62) (t 64)),
 op 66 (.pick (t 58) (v (.bool true)) (t 65)),
 m 67 66,
 g 67 false (m 68 4),
 g 67 false (c 69 107 [(t 68)]),
 g 67 false (op 70 (.un .not (t 69))),
 g 67 false (m 71 70),
 g 71 true (m 72 4),
 g 71 true (f 73 9 1),
 g 71 true (ia 74 5 1 73 (t 72)),
 g 71 true (l 75 74),
 g 71 true (b 76 .neq (t 75) (i 0)),
 g 67 false (op 77 (.pick (t 71) (t 76) (v B))),
 op 78 (.pick (t 67) (v (.bool true)) (t 77))]
def FY:List aa:=[
 mc 2 (v B)]
def FZ:List aa:=[
 m 51 4,
 b 52 .add (t 51) (i 1),
 m 4 52]
def F0:IC:=(q (q (o FW) (k 50 K (ex 2))) (q (bl 3 (q (od FX) (k 78 (q (o FY) R) K))) (o FZ)))
def F1:List aa:=[
 mc 2 (v (.bool true))]
def f46:IFn:=⟨(q (o Vm) (q (q (o Vn) (k 12 (q (o Vo) R) K)) (q (q (o Vp) (bl 0 (lp Vu))) (q (q (o Vv) (bl 2 (lp F0))) (q (o F1) R))))),[.t 2],79⟩
def Vw:List aa:=[
 op 1 (.boxp (t 0)),
 mc 2 (v B)]
def Vx:List aa:=[
 mc 3 (i 0)]
def Vy:List aa:=[
 m 4 3,
 b 5 .lss (t 4) (i 4)]
def Vz:List aa:=[
 m 8 3,
 f 9 5 1,
 ia 10 4 1 9 (t 8),
 l 11 10,
 b 12 .lss (t 11) (i 0),
 m 13 12,
 g 13 false (m 14 3),
 g 13 false (f 15 5 1),
 g 13 false (ia 16 4 1 15 (t 14)),
 g 13 false (l 17 16),
 g 13 false (f 18 0 1),
 g 13 false (l 19 18),
 g 13 false (b 20 .gtr (t 17) (t 19)),
 op 21 (.pick (t 13) (v (.bool true)) (t 20)),
 m 22 21,
 g 22 false (m 23 3),
 g 22 false (f 24 5 1),
 g 22 false (ia 25 4 1 24 (t 23)),
 g 22 false (l 26 25),
 g 22 false (b 27 .gtr (t 26) (i 0)),
 g 22 false (m 28 27),
 g 28 true (m 29 3),
 g 28 true (f 30 1 1),
 g 28 true (ia 31 4 1 30 (t 29)),
 g 28 true (l 32 31),
 g 28 true (op 33 (.un .not (t 32))),
 g 22 false (op 34 (.pick (t 28) (t 33) (v B))),
 op 35 (.pick (t 22) (v (.bool true)) (t 34)),
 m 36 35,
 g 36 false (m 37 3),
 g 36 false (f 38 9 1),
 g 36 false (ia 39 4 1 38 (t 37)),
 g 36 false (l 40 39),
 g 36 false (b 41 .lss (t 40) (i 0)),
 op 42 (.pick (t 36) (v (.bool true)) (t 41)),
 m 43 42,
 g 43 false (m 44 3),
 g 43 false (f 45 9 1),
 g 43 false (ia 46 4 1 45 (t 44)),
 g 43 false (l 47 46),
 g 43 false (b 48 .gtr (t 47) (i 1099511627776)),
 op 49 (.pick (t 43) (v (.bool true)) (t 48))]
def VA:List aa:=[
 mc 2 (v B)]
def VB:List aa:=[
 m 6 3,
 b 7 .add (t 6) (i 1),
 m 3 7]
def VC:IC:=(q (q (o Vy) (k 5 K (ex 0))) (q (bl 1 (q (od Vz) (k 49 (q (o VA) R) K))) (o VB)))
def VD:List aa:=[
 f 50 0 1,
 l 51 50,
 b 52 .geq (t 51) (i 0),
 m 53 52,
 g 53 true (f 54 0 1),
 g 53 true (l 55 54),
 g 53 true (b 56 .leq (t 55) (i 2147483647)),
 op 57 (.pick (t 53) (t 56) (v B)),
 m 2 57]
def f47:IFn:=⟨(q (o Vw) (q (q (o Vx) (bl 0 (lp VC))) (q (o VD) R))),[.t 2],58⟩
def VE:List aa:=[
 op 1 (.boxp (t 0)),
 mc 2 (v B)]
def VF:List aa:=[
 f 3 0 1,
 l 4 3,
 ns 5 4,
 b 6 .leq (t 5) (i 64),
 m 7 6,
 g 7 true (f 8 1 1),
 g 7 true (l 9 8),
 g 7 true (b 10 .geq (t 9) (i 0)),
 op 11 (.pick (t 7) (t 10) (v B)),
 m 12 11,
 g 12 true (f 13 1 1),
 g 12 true (l 14 13),
 g 12 true (b 15 .leq (t 14) (i 1099511627776)),
 op 16 (.pick (t 12) (t 15) (v B)),
 m 2 16]
def f48:IFn:=⟨(q (o VE) (q (o VF) R)),[.t 2],17⟩
def VG:List aa:=[
 x 2 38 0,
 x 3 44 1,
 mc 4 (v B)]
def VH:List aa:=[
 f 9 0 2,
 f 10 1 9,
 l 11 10,
 m 5 11]
def VI:List aa:=[
 m 12 5,
 b 13 .eql (t 12) (w 1),
 m 14 13,
 g 14 false (m 15 5),
 g 14 false (b 16 .eql (t 15) (w 2)),
 op 17 (.pick (t 14) (v (.bool true)) (t 16)),
 m 18 17,
 g 18 false (m 19 5),
 g 18 false (b 20 .eql (t 19) (w 4)),
 op 21 (.pick (t 18) (v (.bool true)) (t 20)),
 m 22 21,
 g 22 false (m 23 5),
 g 22 false (b 24 .eql (t 23) (w 8)),
 op 25 (.pick (t 22) (v (.bool true)) (t 24)),
 m 6 25]
def A5:List aa:=[
 f 26 2 2,
 l 27 26,
 b 28 .lss (t 27) (i 0),
 m 29 28,
 g 29 false (m 30 6),
 g 29 false (op 31 (.un .not (t 30))),
 g 29 false (m 32 31),
 g 32 true (f 33 2 2),
 g 32 true (l 34 33),
 g 32 true (b 35 .neq (t 34) (i 0)),
 g 29 false (op 36 (.pick (t 32) (t 35) (v B))),
 op 37 (.pick (t 29) (v (.bool true)) (t 36)),
 m 38 37,
 g 38 false (m 39 6),
 g 38 false (m 40 39),
 g 40 true (f 41 2 2),
 g 40 true (l 42 41),
 g 40 true (m 43 5),
 g 40 true (cv 44 .i64 43),
 g 40 true (b 45 .geq (t 42) (t 44)),
 g 38 false (op 46 (.pick (t 40) (t 45) (v B))),
 op 47 (.pick (t 38) (v (.bool true)) (t 46))]
def A6:List aa:=[
 mc 4 (v B)]
def A7:List aa:=[
 f 48 3 2,
 l 49 48,
 b 50 .neq (t 49) (i 0),
 m 51 50,
 g 51 true (f 52 3 2),
 g 51 true (l 53 52),
 g 51 true (b 54 .lss (t 53) (i 160)),
 g 51 true (m 55 54),
 g 55 false (f 56 3 2),
 g 55 false (l 57 56),
 g 55 false (b 58 .gtr (t 57) (i 165)),
 g 51 true (op 59 (.pick (t 55) (v (.bool true)) (t 58))),
 op 60 (.pick (t 51) (t 59) (v B)),
 m 61 60,
 g 61 false (f 62 4 2),
 g 61 false (l 63 62),
 g 61 false (n 64 128 63),
 g 61 false (b 65 .gtr (t 64) (i 64)),
 op 66 (.pick (t 61) (v (.bool true)) (t 65)),
 m 67 66,
 g 67 false (f 68 5 2),
 g 67 false (l 69 68),
 g 67 false (n 70 5 69),
 g 67 false (b 71 .gtr (t 70) (i 8)),
 op 72 (.pick (t 67) (v (.bool true)) (t 71))]
def A8:List aa:=[
 mc 4 (v B)]
def vO:List aa:=[
 mc 7 (i 0)]
def VJ:List aa:=[
 m 73 7,
 f 74 5 2,
 l 75 74,
 n 76 5 75,
 b 77 .lss (t 73) (t 76)]
def VK:List aa:=[
 f 80 5 2,
 l 81 80,
 m 82 7,
 is 83 5 81 (t 82),
 la 84 5 83,
 la 85 1 3,
 f 86 4 2,
 l 87 86,
 n 88 128 87,
 c 89 108 [(t 84),(t 85),(t 88)],
 m 8 89]
def F2:List aa:=[
 m 90 8,
 op 91 (.un .not (t 90))]
def F3:List aa:=[
 mc 4 (v B)]
def F4:List aa:=[
 m 78 7,
 b 79 .add (t 78) (i 1),
 m 7 79]
def rT:IC:=(q (q (o VJ) (k 77 K (ex 0))) (q (bl 1 (q (od VK) (q (o F2) (k 91 (q (o F3) R) K)))) (o F4)))
def rU:List aa:=[
 mc 4 (v (.bool true))]
def f49:IFn:=⟨(q (o VG) (q (o VH) (q (o VI) (q (q (o A5) (k 47 (q (o A6) R) K)) (q (q (o A7) (k 72 (q (o A8) R) K)) (q (q (o vO) (bl 0 (lp rT))) (q (o rU) R))))))),[.t 4],92⟩
def VL:List aa:=[
 x 1 40 0,
 mc 2 (v B)]
def VN:List aa:=[
 f 3 0 1,
 la 4 2 3,
 f 5 4 1,
 l 6 5,
 c 7 109 [(t 4),(t 6)],
 op 8 (.un .not (t 7)),
 m 9 8,
 g 9 false (f 10 2 1),
 g 9 false (la 11 2 10),
 g 9 false (f 12 5 1),
 g 9 false (l 13 12),
 g 9 false (c 14 109 [(t 11),(t 13)]),
 g 9 false (op 15 (.un .not (t 14))),
 op 16 (.pick (t 9) (v (.bool true)) (t 15)),
 m 17 16,
 g 17 false (f 18 7 1),
 g 17 false (l 19 18),
 g 17 false (b 20 .lss (t 19) (i 0)),
 op 21 (.pick (t 17) (v (.bool true)) (t 20)),
 m 22 21,
 g 22 false (f 23 7 1),
 g 22 false (l 24 23),
 g 22 false (b 25 .gtr (t 24) (i 1099511627776)),
 op 26 (.pick (t 22) (v (.bool true)) (t 25))]
def VO:List aa:=[
 mc 2 (v B)]
def VP:List aa:=[
 f 27 6 1,
 l 28 27,
 b 29 .eql (t 28) (i 0),
 m 30 29,
 g 30 false (f 31 6 1),
 g 30 false (l 32 31),
 g 30 false (b 33 .geq (t 32) (i 160)),
 g 30 false (m 34 33),
 g 34 true (f 35 6 1),
 g 34 true (l 36 35),
 g 34 true (b 37 .leq (t 36) (i 165)),
 g 30 false (op 38 (.pick (t 34) (t 37) (v B))),
 op 39 (.pick (t 30) (v (.bool true)) (t 38)),
 m 2 39]
def f50:IFn:=⟨(q (o VL) (q (q (o VN) (k 26 (q (o VO) R) K)) (q (o VP) R))),[.t 2],40⟩
def VQ:List aa:=[
 op 2 (.boxp (t 0)),
 nw 4 42 [I,U,U,U,U,U,U,U,U,I,I,I,I,I,I,B,B,B,B,I,I,I,I,I,I,I,I,E,I,U,U,I,I,N,N,U,U,U,U,I,I,I,I],
 nw 5 52 [N,U,N,I]]
def VR:List aa:=[
 f 6 0 2,
 la 7 43 6,
 f 8 43 2,
 la 9 1 8,
 m 10 1,
 bd 11 [N,U,N,I] [(0,1,(t 9)),(3,1,(t 10))],
 sn 43 4 7,
 sn 4 5 11]
def f51:IFn:=⟨(q (o VQ) (q (.opsX VR [(8,4)]) R)),[.cell 4 43 true,.cell 5 4 true],12⟩
def VT:List aa:=[
 op 3 (.boxp (t 0)),
 op 4 (.boxp (t 1)),
 nw 6 56 [I,U,U,U,U,U,U,U,U,I,I,I,I,I,I,B,B,B,B,I,I,I,I,I,I,I,I,E,I,U,U,I,I,N,N,U,U,U,U,I,I,I,I,N,U,N,I]]
def VU:List aa:=[
 la 7 43 3,
 la 8 1 4,
 m 9 2,
 bd 10 [N,U,N,I] [(0,1,(t 8)),(3,1,(t 9))],
 bd 11 [I,U,U,U,U,U,U,U,U,I,I,I,I,I,I,B,B,B,B,I,I,I,I,I,I,I,I,E,I,U,U,I,I,N,N,U,U,U,U,I,I,I,I,N,U,N,I] [(0,43,(t 7)),(43,4,(t 10))],
 sn 47 6 11]
def f52:IFn:=⟨(q (o VT) (q (o VU) R)),[.cell 6 47 true],12⟩
def VV:List aa:=[
 op 5 (.boxp (t 0)),
 op 6 (.boxp (t 1)),
 op 9 (.boxp (t 4)),
 nw 10 56 [I,U,U,U,U,U,U,U,U,I,I,I,I,I,I,B,B,B,B,I,I,I,I,I,I,I,I,E,I,U,U,I,I,N,N,U,U,U,U,I,I,I,I,N,U,N,I]]
def VW:List aa:=[
 la 15 43 5,
 la 16 1 6,
 bd 17 [N,U,N,I] [(0,1,(t 16))],
 bd 18 [I,U,U,U,U,U,U,U,U,I,I,I,I,I,I,B,B,B,B,I,I,I,I,I,I,I,I,E,I,U,U,I,I,N,N,U,U,U,U,I,I,I,I,N,U,N,I] [(0,43,(t 15)),(43,4,(t 17))],
 nw 11 56 [I,U,U,U,U,U,U,U,U,I,I,I,I,I,I,B,B,B,B,I,I,I,I,I,I,I,I,E,I,U,U,I,I,N,N,U,U,U,U,I,I,I,I,N,U,N,I],
 sn 47 11 18]
def VX:List aa:=[
 f 19 1 9,
 l 20 19,
 b 21 .quo (t 20) (i 16)]
def VY:List aa:=[
 b 52 .eql (t 21) (i 0),
 m 51 52]
def VZ:List aa:=[
 f 53 0 5,
 la 54 14 53,
 m 55 2,
 la 56 3 9,
 c 57 110 [(t 54),(t 55),(t 56)],
 nw 12 170 [I,U,U,U,U,U,U,U,U,I,I,I,I,I,U,I],
 sn 16 12 57]
def V0:List aa:=[
 f 58 15 12,
 l 59 58,
 b 60 .neq (t 59) (i 0)]
def V1:List aa:=[
 la 61 43 5,
 la 62 1 6,
 c 63 52 [(t 61),(t 62),(i 5)],
 sn 47 10 63]
def V2:List aa:=[
 f 64 0 12,
 la 65 14 64,
 f 66 0 11,
 f 67 0 66,
 sn 14 67 65]
def V3:List aa:=[
 f 68 14 12,
 l 69 68,
 f 70 43 11,
 f 71 1 70,
 s 71 69]
def V4:List aa:=[
 b 73 .eql (t 21) (i 1),
 m 72 73]
def F5:List aa:=[
 f 74 14 5,
 la 75 13 74,
 m 76 2,
 m 77 3,
 la 78 3 9,
 c 79 111 [(t 75),(t 76),(t 77),(t 78)],
 nw 13 136 [I,B,B,B,B,I,I,I,I,I,I,I,I,U,B,I],
 sn 16 13 79]
def F6:List aa:=[
 f 80 15 13,
 l 81 80,
 b 82 .neq (t 81) (i 0)]
def F7:List aa:=[
 la 83 43 5,
 la 84 1 6,
 f 85 15 13,
 l 86 85,
 c 87 52 [(t 83),(t 84),(t 86)],
 sn 47 10 87]
def F8:List aa:=[
 f 88 0 13,
 la 89 13 88,
 f 90 0 11,
 f 91 14 90,
 sn 13 91 89]
def F9:List aa:=[
 f 92 13 13,
 l 93 92,
 f 94 43 11,
 f 95 1 94,
 s 95 93]
def Ga:List aa:=[
 f 22 27 5,
 la 23 2 22,
 la 24 3 9,
 c 25 112 [(t 23),(t 24)],
 nw 14 199 [E,I,U,E,B],
 sn 5 14 25]
def Gb:List aa:=[
 f 26 4 14,
 l 27 26,
 op 28 (.un .not (t 27))]
def Gc:List aa:=[
 la 29 43 5,
 la 30 1 6,
 c 31 52 [(t 29),(t 30),(i 5)],
 sn 47 10 31]
def Gd:List aa:=[
 f 32 0 14,
 la 33 2 32,
 f 34 0 11,
 f 35 27 34,
 sn 2 35 33]
def Ge:List aa:=[
 f 36 2 14,
 l 37 36,
 f 38 43 11,
 f 39 1 38,
 s 39 37]
def Gf:List aa:=[
 f 40 3 14,
 l 41 40,
 b 42 .neq (t 41) (v E)]
def Gg:List aa:=[
 m 43 2,
 m 44 3,
 f 45 3 14,
 l 46 45,
 bs 47 1 [E] [(0,1,(t 46))],
 c 48 57 [(i 1),(t 43),(t 44),(t 47)],
 f 49 43 11,
 f 50 2 49,
 s 50 48]
def Gj:List aa:=[
 la 96 47 11,
 sn 47 10 96]
def f53:IFn:=⟨(q (o VV) (q (o VW) (q (q (o VX) (bl 0 (q (o VY) (k 51 (q (o VZ) (q (q (o V0) (k 60 (q (o V1) R) K)) (q (o V2) (o V3)))) (q (o V4) (k 72 (q (o F5) (q (q (o F6) (k 82 (q (o F7) R) K)) (q (o F8) (o F9)))) (q (o Ga) (q (q (o Gb) (k 28 (q (o Gc) R) K)) (q (o Gd) (q (o Ge) (q (o Gf) (k 42 (o Gg) K)))))))))))) (q (o Gj) R)))),[.cell 10 47 true],97⟩
def V5:List aa:=[
 x 3 38 0,
 x 4 44 1,
 x 5 46 2,
 nw 6 124 [U,U,I,I,N,N,N,U,N,B,B]]
def V6:List aa:=[
 la 8 6 3,
 la 9 1 4,
 bd 10 [N,U,N,B,B] [(0,1,(t 9)),(4,1,(v (.bool true)))],
 bd 11 [U,U,I,I,N,N,N,U,N,B,B] [(0,6,(t 8)),(6,5,(t 10))],
 nw 7 124 [U,U,I,I,N,N,N,U,N,B,B],
 sn 11 7 11]
def V7:List aa:=[
 f 15 0 5,
 l 16 15,
 m 17 16,
 g 17 true (f 18 1 5),
 g 17 true (l 19 18),
 g 17 true (b 20 .eql (t 19) (i 48)),
 op 21 (.pick (t 17) (t 20) (v B)),
 m 14 21]
def V8:List aa:=[
 f 22 0 3,
 f 23 0 22,
 l 24 23,
 f 25 6 7,
 f 26 1 25,
 s 26 24]
def V9:List aa:=[
 f 28 0 5,
 l 29 28,
 m 30 29,
 g 30 true (f 31 1 5),
 g 30 true (l 32 31),
 g 30 true (b 33 .eql (t 32) (i 49)),
 op 34 (.pick (t 30) (t 33) (v B)),
 m 27 34]
def Wa:List aa:=[
 f 35 0 3,
 f 36 1 35,
 l 37 36,
 f 38 6 7,
 f 39 1 38,
 s 39 37]
def Wb:List aa:=[
 f 41 0 5,
 l 42 41,
 m 43 42,
 g 43 true (f 44 1 5),
 g 43 true (l 45 44),
 g 43 true (b 46 .eql (t 45) (i 51)),
 op 47 (.pick (t 43) (t 46) (v B)),
 m 40 47]
def Wc:List aa:=[
 f 48 3 3,
 l 49 48,
 cv 50 .u32 49,
 f 51 6 7,
 f 52 1 51,
 s 52 50]
def Wd:List aa:=[
 f 53 0 7,
 f 54 3 53,
 op0 (.store 1 (t 54) (i 0))]
def We:List aa:=[
 f 56 0 5,
 l 57 56,
 op 58 (.un .not (t 57)),
 m 59 58,
 g 59 true (f 60 1 5),
 g 59 true (l 61 60),
 g 59 true (b 62 .eql (t 61) (i 48)),
 op 63 (.pick (t 59) (t 62) (v B)),
 m 55 63]
def Gk:List aa:=[
 f 64 2 5,
 l 65 64,
 f 66 0 7,
 f 67 0 66,
 f 68 0 67,
 s 68 65]
def Gl:List aa:=[
 f 69 0 7,
 f 70 2 69,
 op0 (.store 1 (t 70) (i 0))]
def Gm:List aa:=[
 f 72 0 5,
 l 73 72,
 op 74 (.un .not (t 73)),
 m 75 74,
 g 75 true (f 76 1 5),
 g 75 true (l 77 76),
 g 75 true (b 78 .eql (t 77) (i 49)),
 op 79 (.pick (t 75) (t 78) (v B)),
 m 71 79]
def Gn:List aa:=[
 f 80 2 5,
 l 81 80,
 f 82 0 7,
 f 83 0 82,
 f 84 1 83,
 s 84 81]
def Gp:List aa:=[
 f 85 0 7,
 f 86 2 85,
 op0 (.store 1 (t 86) (i 0))]
def Gq:List aa:=[
 f 88 0 5,
 l 89 88,
 op 90 (.un .not (t 89)),
 m 91 90,
 g 91 true (f 92 1 5),
 g 91 true (l 93 92),
 g 91 true (b 94 .eql (t 93) (i 50)),
 op 95 (.pick (t 91) (t 94) (v B)),
 m 87 95]
def Gr:List aa:=[
 la 96 11 7,
 c 97 113 [(t 96)],
 sn 11 6 97]
def Gs:List aa:=[
 f 12 6 7,
 f 13 4 12,
 op0 (.store 1 (t 13) (v B))]
def Gt:List aa:=[
 la 98 11 7,
 sn 11 6 98]
def f54:IFn:=⟨(q (o V5) (q (o V6) (q (bl 0 (q (o V7) (k 14 (o V8) (q (o V9) (k 27 (o Wa) (q (o Wb) (k 40 (q (o Wc) (o Wd)) (q (o We) (k 55 (q (o Gk) (o Gl)) (q (o Gm) (k 71 (q (o Gn) (o Gp)) (q (o Gq) (k 87 (q (o Gr) R) (o Gs)))))))))))))) (q (o Gt) R)))),[.cell 6 11 true],99⟩
def Wf:List aa:=[
 x 3 42 0,
 nw 6 42 [I,U,U,U,U,U,U,U,U,I,I,I,I,I,I,B,B,B,B,I,I,I,I,I,I,I,I,E,I,U,U,I,I,N,N,U,U,U,U,I,I,I,I]]
def Wg:List aa:=[
 m 7 2]
def Wh:List aa:=[
 f 8 0 3,
 la 9 14 8,
 m 10 1,
 c 11 63 [(t 9),(t 10),(i 0)],
 f 12 0 3,
 sn 14 12 11]
def Wi:List aa:=[
 la 13 43 3,
 sn 43 6 13]
def f55:IFn:=⟨(q (o Wf) (q (q (o Wg) (k 7 (o Wh) K)) (q (o Wi) R))),[.cell 6 43 true],14⟩
def Wj:List aa:=[
 x 3 40 0,
 x 4 44 1,
 x 5 46 2,
 nw 6 128 [U,U,U,U,I,I,I,I,N,U,N,B,B]]
def Wk:List aa:=[
 la 8 8 3,
 la 9 1 4,
 bd 10 [N,U,N,B,B] [(0,1,(t 9)),(4,1,(v (.bool true)))],
 bd 11 [U,U,U,U,I,I,I,I,N,U,N,B,B] [(0,8,(t 8)),(8,5,(t 10))],
 nw 7 128 [U,U,U,U,I,I,I,I,N,U,N,B,B],
 sn 13 7 11]
def Wl:List aa:=[
 f 12 0 5,
 l 13 12]
def Wm:List aa:=[
 f 14 1 5,
 l 15 14]
def Wn:List aa:=[
 b 19 .eql (t 15) (i 64),
 m 18 19]
def Wo:List aa:=[
 f 20 0 3,
 f 21 0 20,
 l 22 21,
 f 23 8 7,
 f 24 1 23,
 s 24 22]
def Wq:List aa:=[
 b 26 .eql (t 15) (i 65),
 m 25 26]
def Wr:List aa:=[
 f 27 0 3,
 f 28 1 27,
 l 29 28,
 f 30 8 7,
 f 31 1 30,
 s 31 29]
def Ws:List aa:=[
 b 33 .eql (t 15) (i 66),
 m 32 33]
def Wt:List aa:=[
 f 34 2 3,
 f 35 0 34,
 l 36 35,
 f 37 8 7,
 f 38 1 37,
 s 38 36]
def Gu:List aa:=[
 b 40 .eql (t 15) (i 67),
 m 39 40]
def Gv:List aa:=[
 f 41 2 3,
 f 42 1 41,
 l 43 42,
 f 44 8 7,
 f 45 1 44,
 s 45 43]
def Gw:List aa:=[
 b 47 .eql (t 15) (i 69),
 m 46 47]
def Gx:List aa:=[
 f 48 6 3,
 l 49 48,
 cv 50 .u32 49,
 f 51 8 7,
 f 52 1 51,
 s 52 50]
def Gy:List aa:=[
 f 53 0 7,
 f 54 6 53,
 op0 (.store 1 (t 54) (i 0))]
def Gz:List aa:=[
 b 56 .eql (t 15) (i 70),
 m 55 56]
def GA:List aa:=[
 f 57 7 3,
 l 58 57,
 cv 59 .u32 58,
 f 60 8 7,
 f 61 1 60,
 s 61 59]
def GC:List aa:=[
 f 16 8 7,
 f 17 4 16,
 op0 (.store 1 (t 17) (v B))]
def GD:List aa:=[
 la 62 13 7,
 sn 13 6 62]
def GF:List aa:=[
 f 63 1 5,
 l 64 63]
def GG:List aa:=[
 b 68 .eql (t 64) (i 64),
 m 67 68]
def GH:List aa:=[
 f 69 2 5,
 l 70 69,
 f 71 0 7,
 f 72 0 71,
 f 73 0 72,
 s 73 70]
def GI:List aa:=[
 f 74 0 7,
 f 75 4 74,
 op0 (.store 1 (t 75) (i 0))]
def GJ:List aa:=[
 b 77 .eql (t 64) (i 65),
 m 76 77]
def GK:List aa:=[
 f 78 2 5,
 l 79 78,
 f 80 0 7,
 f 81 0 80,
 f 82 1 81,
 s 82 79]
def GL:List aa:=[
 f 83 0 7,
 f 84 4 83,
 op0 (.store 1 (t 84) (i 0))]
def GM:List aa:=[
 b 86 .eql (t 64) (i 66),
 m 85 86]
def GN:List aa:=[
 f 87 2 5,
 l 88 87,
 f 89 0 7,
 f 90 2 89,
 f 91 0 90,
 s 91 88]
def GO:List aa:=[
 f 92 0 7,
 f 93 5 92,
 op0 (.store 1 (t 93) (i 0))]
def GQ:List aa:=[
 b 95 .eql (t 64) (i 67),
 m 94 95]
def GR:List aa:=[
 f 96 2 5,
 l 97 96,
 f 98 0 7,
 f 99 2 98,
 f 100 1 99,
 s 100 97]
def GS:List aa:=[
 f 101 0 7,
 f 102 5 101,
 op0 (.store 1 (t 102) (i 0))]
def GU:List aa:=[
 b 104 .eql (t 64) (i 68),
 m 103 104]
def GV:List aa:=[
 la 105 13 7,
 c 106 114 [(t 105)],
 sn 13 6 106]
def GW:List aa:=[
 f 65 8 7,
 f 66 4 65,
 op0 (.store 1 (t 66) (v B))]
def GX:List aa:=[
 la 107 13 7,
 sn 13 6 107]
def f56:IFn:=⟨(q (o Wj) (q (o Wk) (q (q (o Wl) (k 13 (q (q (o Wm) (bl 0 (q (o Wn) (k 18 (o Wo) (q (o Wq) (k 25 (o Wr) (q (o Ws) (k 32 (o Wt) (q (o Gu) (k 39 (o Gv) (q (o Gw) (k 46 (q (o Gx) (o Gy)) (q (o Gz) (k 55 (o GA) (o GC))))))))))))))) (q (o GD) R)) K)) (q (q (o GF) (bl 1 (q (o GG) (k 67 (q (o GH) (o GI)) (q (o GJ) (k 76 (q (o GK) (o GL)) (q (o GM) (k 85 (q (o GN) (o GO)) (q (o GQ) (k 94 (q (o GR) (o GS)) (q (o GU) (k 103 (q (o GV) R) (o GW))))))))))))) (q (o GX) R))))),[.cell 6 13 true],108⟩
def Wu:List aa:=[
 mc 8 (v N)]
def Wv:List aa:=[
 mc 9 (v N)]
def Ww:List aa:=[
 mc 10 (i 0)]
def Wx:List aa:=[
 m 11 10,
 m 12 3,
 n 13 1 12,
 b 14 .lss (t 11) (t 13)]
def Wy:List aa:=[
 m 17 9,
 m 18 0,
 m 19 1,
 m 20 2,
 m 21 3,
 m 22 10,
 is 23 1 21 (t 22),
 l 24 23,
 bd 25 [I,I,I,I,E] [(1,1,(t 18)),(2,1,(t 19)),(3,1,(t 20)),(4,1,(t 24))],
 bs 26 5 [I,I,I,I,E] [(0,5,(t 25))],
 ap 27 5 48 17 26,
 m 9 27]
def Wz:List aa:=[
 m 15 10,
 b 16 .add (t 15) (i 1),
 m 10 16]
def WA:IC:=(q (q (o Wx) (k 14 K (ex 0))) (q (bl 1 (o Wy)) (o Wz)))
def WB:List aa:=[
 m 28 9,
 m 8 28]
def f57:IFn:=⟨(q (o Wu) (q (o Wv) (q (q (o Ww) (bl 0 (lp WA))) (q (o WB) R)))),[.t 8],29⟩
def WC:List aa:=[
 op 2 (.boxp (t 0)),
 mc 4 (w 0)]
def WD:List aa:=[
 m 5 1,
 f 6 1 2,
 ia 7 4 1 6 (t 5),
 l 8 7,
 m 9 1,
 f 10 5 2,
 ia 11 4 1 10 (t 9),
 l 12 11,
 b 13 .and (t 8) (t 12),
 m 4 13]
def f58:IFn:=⟨(q (o WC) (q (od WD) R)),[.t 4],14⟩
def WE:List aa:=[
 op 2 (.boxp (t 0)),
 mc 4 (w 0)]
def WG:List aa:=[
 mc 5 (w 0)]
def WH:List aa:=[
 mc 6 (i 0)]
def WI:List aa:=[
 m 7 6,
 b 8 .lss (t 7) (i 5)]
def WJ:List aa:=[
 m 11 1,
 f 12 1 2,
 ia 13 4 1 12 (t 11),
 l 14 13,
 m 15 6,
 c 16 115 [(t 14),(t 15)],
 m 17 16,
 g 17 true (m 18 1),
 g 17 true (f 19 5 2),
 g 17 true (ia 20 4 1 19 (t 18)),
 g 17 true (l 21 20),
 g 17 true (m 22 6),
 g 17 true (c 23 115 [(t 21),(t 22)]),
 op 24 (.pick (t 17) (t 23) (v B))]
def WK:List aa:=[
 m 25 5,
 m 26 6,
 c 27 116 [(t 26)],
 b 28 .add (t 25) (t 27),
 m 5 28]
def WL:List aa:=[
 m 9 6,
 b 10 .add (t 9) (i 1),
 m 6 10]
def WM:IC:=(q (q (o WI) (k 8 K (ex 0))) (q (bl 1 (q (o WJ) (k 24 (o WK) K))) (o WL)))
def WN:List aa:=[
 m 29 5,
 m 4 29]
def f59:IFn:=⟨(q (o WE) (q (o WG) (q (q (o WH) (bl 0 (lp WM))) (q (o WN) R)))),[.t 4],30⟩
def WO:List aa:=[
 x 3 30 0,
 nw 6 30 [I,B,B,B,B,I,I,I,I,I,I,I,I],
 mc 7 (v B)]
def WQ:List aa:=[
 la 9 13 3,
 m 10 1,
 c 11 117 [(t 9),(t 10)],
 m 8 11]
def WR:List aa:=[
 m 12 8,
 b 13 .eql (t 12) (i 0),
 m 14 13,
 g 14 false (m 15 2),
 g 14 false (m 16 8),
 g 14 false (b 17 .lss (t 15) (t 16)),
 op 18 (.pick (t 14) (v (.bool true)) (t 17))]
def WS:List aa:=[
 la 19 13 3,
 sn 13 6 19,
 mc 7 (v B)]
def WT:List aa:=[
 m 20 1,
 f 21 9 3,
 ia 22 4 1 21 (t 20),
 op0 (.store 1 (t 22) (i 0))]
def WU:List aa:=[
 la 23 13 3,
 sn 13 6 23,
 mc 7 (v (.bool true))]
def f60:IFn:=⟨(q (o WO) (q (q (o WQ) (q (o WR) (k 18 (q (o WS) R) K))) (q (o WT) (q (o WU) R)))),[.cell 6 13 true,.t 7],24⟩
def WV:List aa:=[
 x 3 26 0,
 nw 6 26 [I,U,U,U,U,U,U,U,U,I,I,I,I,I]]
def WW:List aa:=[
 m 7 1,
 b 8 .lss (t 7) (i 0),
 m 9 8,
 g 9 false (m 10 1),
 g 9 false (b 11 .geq (t 10) (i 5)),
 op 12 (.pick (t 9) (v (.bool true)) (t 11))]
def WX:List aa:=[
 la 13 14 3,
 sn 14 6 13]
def WY:List aa:=[
 m 14 1,
 cv 15 .u32 14,
 c 16 103 [(t 15)]]
def WZ:List aa:=[
 m 17 1,
 f 18 9 3,
 ia 19 5 1 18 (t 17),
 l 20 19,
 m 2 20]
def W0:List aa:=[
 m 21 2,
 f 22 1 3,
 ia 23 4 1 22 (t 21),
 l 24 23,
 m 25 1,
 b 26 .shl (w 1) (t 25),
 b 27 .or (t 24) (t 26),
 f 28 1 3,
 ia 29 4 1 28 (t 21),
 s 29 27]
def W6:List aa:=[
 la 30 14 3,
 sn 14 6 30]
def f61:IFn:=⟨(q (o WV) (q (q (o WW) (k 12 (q (o WX) R) K)) (q (q (o WY) (k 16 (o WZ) K)) (q (od W0) (q (o W6) R))))),[.cell 6 14 true],31⟩
def W7:List aa:=[
 op 3 (.boxp (t 0)),
 nw 6 136 [I,B,B,B,B,I,I,I,I,I,I,I,I,U,B,I]]
def W8:List aa:=[
 la 9 13 3,
 m 10 1,
 c 11 118 [(t 9),(t 10)],
 m 7 11]
def W9:List aa:=[
 m 12 7,
 b 13 .eql (t 12) (i 0),
 m 14 13,
 g 14 false (m 15 2),
 g 14 false (m 16 7),
 g 14 false (b 17 .lss (t 15) (t 16)),
 op 18 (.pick (t 14) (v (.bool true)) (t 17))]
def Xa:List aa:=[
 la 19 13 3,
 bd 20 [I,B,B,B,B,I,I,I,I,I,I,I,I,U,B,I] [(0,13,(t 19))],
 sn 16 6 20]
def Xb:List aa:=[
 la 21 13 3,
 nw 8 30 [I,B,B,B,B,I,I,I,I,I,I,I,I],
 sn 13 8 21]
def Xc:List aa:=[
 m 22 1,
 f 23 9 8,
 ia 24 4 1 23 (t 22),
 op0 (.store 1 (t 24) (i 0))]
def Xd:List aa:=[
 la 25 13 8,
 bd 26 [I,B,B,B,B,I,I,I,I,I,I,I,I,U,B,I] [(0,13,(t 25)),(14,1,(v (.bool true)))],
 sn 16 6 26]
def f62:IFn:=⟨(q (o W7) (q (o W8) (q (q (o W9) (k 18 (q (o Xa) R) K)) (q (o Xb) (q (o Xc) (q (o Xd) R)))))),[.cell 6 16 true],27⟩
def Xe:List aa:=[
 x 3 26 0,
 nw 6 26 [I,U,U,U,U,U,U,U,U,I,I,I,I,I]]
def Xf:List aa:=[
 m 8 1,
 b 9 .lss (t 8) (i 0),
 m 10 9,
 g 10 false (m 11 1),
 g 10 false (b 12 .geq (t 11) (i 5)),
 op 13 (.pick (t 10) (v (.bool true)) (t 12))]
def Xg:List aa:=[
 la 14 14 3,
 sn 14 6 14]
def Xh:List aa:=[
 m 15 2,
 m 7 15]
def Xi:List aa:=[
 m 16 1,
 c 17 107 [(t 16)]]
def Xj:List aa:=[
 m 18 1,
 f 19 9 3,
 ia 20 5 1 19 (t 18),
 l 21 20,
 m 7 21]
def Xk:List aa:=[
 m 22 7,
 f 23 1 3,
 ia 24 4 1 23 (t 22),
 l 25 24,
 m 26 1,
 c 27 115 [(t 25),(t 26)],
 op 28 (.un .not (t 27))]
def Xl:List aa:=[
 m 29 7,
 m 30 7,
 f 31 1 3,
 ia 32 4 1 31 (t 30),
 l 33 32,
 m 34 1,
 c 35 116 [(t 34)],
 b 36 .add (t 33) (t 35),
 f 37 1 3,
 ia 38 4 1 37 (t 29),
 s 38 36]
def Xm:List aa:=[
 la 39 14 3,
 sn 14 6 39]
def f63:IFn:=⟨(q (o Xe) (q (q (o Xf) (k 13 (q (o Xg) R) K)) (q (o Xh) (q (q (o Xi) (k 17 (o Xj) K)) (q (q (o Xk) (k 28 (od Xl) K)) (q (o Xm) R)))))),[.cell 6 14 true],40⟩
def Xn:List aa:=[
 x 3 42 0,
 nw 6 42 [I,U,U,U,U,U,U,U,U,I,I,I,I,I,I,B,B,B,B,I,I,I,I,I,I,I,I,E,I,U,U,I,I,N,N,U,U,U,U,I,I,I,I]]
def Xo:List aa:=[
 m 7 2]
def Xp:List aa:=[
 f 8 0 3,
 la 9 14 8,
 m 10 1,
 c 11 61 [(t 9),(t 10),(i 0)],
 f 12 0 3,
 sn 14 12 11]
def Xq:List aa:=[
 la 13 43 3,
 sn 43 6 13]
def f69:IFn:=⟨(q (o Xn) (q (q (o Xo) (k 7 (o Xp) K)) (q (o Xq) R))),[.cell 6 43 true],14⟩
def Xr:List aa:=[
 x 2 44 0,
 x 3 44 1,
 mc 4 (v N)]
def Xs:List aa:=[
 mc 5 (v N)]
def Xt:List aa:=[
 mc 6 (i 0)]
def Xu:List aa:=[
 m 7 6,
 f 8 0 2,
 l 9 8,
 n 10 128 9,
 f 11 0 3,
 l 12 11,
 n 13 128 12,
 op 14 (.mn true [(t 10),(t 13)]),
 b 15 .lss (t 7) (t 14)]
def Xv:List aa:=[
 m 18 6,
 f 19 0 2,
 l 20 19,
 n 21 128 20,
 b 22 .geq (t 18) (t 21),
 m 23 22,
 g 23 false (m 24 6),
 g 23 false (f 25 0 3),
 g 23 false (l 26 25),
 g 23 false (n 27 128 26),
 g 23 false (b 28 .geq (t 24) (t 27)),
 op 29 (.pick (t 23) (v (.bool true)) (t 28)),
 m 30 29,
 g 30 false (f 31 0 2),
 g 30 false (l 32 31),
 g 30 false (m 33 6),
 g 30 false (is 34 128 32 (t 33)),
 g 30 false (la 35 128 34),
 g 30 false (f 36 0 3),
 g 30 false (l 37 36),
 g 30 false (m 38 6),
 g 30 false (is 39 128 37 (t 38)),
 g 30 false (la 40 128 39),
 g 30 false (op 41 (.eqA true [0,0,0,0,0,0,0,0,0,0,0,0,0,0,0,0,0,0,0,0,0,0,0,0,0,0,0,0,0,0,0,0,0,0,0,0,0,0,0,0,0,0,0,0,0,0,0,0,0,0,0,0,0,0,0,0,0,0,0,0,0,0,0,0,0,0,0,0,0,0,0,0,0,0,0,0,0,0,0,0,0,0,0,0,0,0,0,0,0,0,0,0,0,0,0,0,0,0,0,0,0,0,0,0,0,0,0,0,0,0,0,0,0,0,0,0,0,0,0,0,0,0,0,0,0,0,0,0] (t 35) (t 40))),
 op 42 (.pick (t 30) (v (.bool true)) (t 41))]
def Xw:List aa:=[
 m 43 5,
 m 44 6,
 bs 45 1 [I] [(0,1,(t 44))],
 ap 46 1 8 43 45,
 m 5 46]
def Xx:List aa:=[
 m 16 6,
 b 17 .add (t 16) (i 1),
 m 6 17]
def Xy:IC:=(q (q (o Xu) (k 15 K (ex 0))) (q (bl 1 (q (od Xv) (k 42 (o Xw) K))) (o Xx)))
def Xz:List aa:=[
 m 47 5,
 m 4 47]
def f77:IFn:=⟨(q (o Xr) (q (o Xs) (q (q (o Xt) (bl 0 (lp Xy))) (q (o Xz) R)))),[.t 4],48⟩
def GY:List aa:=[
 x 1 38 0,
 mc 2 (v N)]
def GZ:List aa:=[
 f 10 0 1,
 f 11 0 10,
 l 12 11,
 cv 13 .i64 12,
 f 14 0 1,
 f 15 1 14,
 l 16 15,
 cv 17 .i64 16,
 f 18 2 1,
 l 19 18,
 f 20 3 1,
 l 21 20,
 f 22 4 1,
 l 23 22,
 n 24 128 23,
 f 25 5 1,
 l 26 25,
 n 27 5 26,
 bs 28 1 [I,I,I,I,I,I] [(0,1,(t 13)),(1,1,(t 17)),(2,1,(t 19)),(3,1,(t 21)),(4,1,(t 24)),(5,1,(t 27))],
 m 3 28]
def G3:List aa:=[
 mc 4 (i 0)]
def G4:List aa:=[
 m 29 4,
 f 30 5 1,
 l 31 30,
 n 32 5 31,
 b 33 .lss (t 29) (t 32)]
def G5:List aa:=[
 f 36 5 1,
 l 37 36,
 m 38 4,
 is 39 5 37 (t 38),
 la 40 5 39,
 nw 5 190 [U,U,I,B,N],
 sn 5 5 40]
def G6:List aa:=[
 m 41 3,
 f 42 0 5,
 f 43 0 42,
 l 44 43,
 cv 45 .i64 44,
 f 46 0 5,
 f 47 1 46,
 l 48 47,
 cv 49 .i64 48,
 f 50 2 5,
 l 51 50,
 f 52 3 5,
 l 53 52,
 c 54 155 [(t 53)],
 f 55 4 5,
 l 56 55,
 n 57 4 56,
 bs 58 1 [I,I,I,I,I] [(0,1,(t 45)),(1,1,(t 49)),(2,1,(t 51)),(3,1,(t 54)),(4,1,(t 57))],
 ap 59 1 8 41 58,
 m 3 59]
def G7:List aa:=[
 mc 6 (i 0)]
def G8:List aa:=[
 m 60 6,
 f 61 4 5,
 l 62 61,
 n 63 4 62,
 b 64 .lss (t 60) (t 63)]
def G9:List aa:=[
 m 67 3,
 f 68 4 5,
 l 69 68,
 m 70 6,
 is 71 4 69 (t 70),
 f 72 0 71,
 l 73 72,
 f 74 4 5,
 l 75 74,
 m 76 6,
 is 77 4 75 (t 76),
 f 78 1 77,
 l 79 78,
 f 80 4 5,
 l 81 80,
 m 82 6,
 is 83 4 81 (t 82),
 f 84 2 83,
 l 85 84,
 f 86 4 5,
 l 87 86,
 m 88 6,
 is 89 4 87 (t 88),
 f 90 3 89,
 l 91 90,
 c 92 155 [(t 91)],
 bs 93 1 [I,I,I,I] [(0,1,(t 73)),(1,1,(t 79)),(2,1,(t 85)),(3,1,(t 92))],
 ap 94 1 8 67 93,
 m 3 94]
def Ha:List aa:=[
 m 65 6,
 b 66 .add (t 65) (i 1),
 m 6 66]
def B5:IC:=(q (q (o G8) (k 64 K (ex 2))) (q (bl 3 (od G9)) (o Ha)))
def B6:List aa:=[
 m 34 4,
 b 35 .add (t 34) (i 1),
 m 4 35]
def B7:IC:=(q (q (o G4) (k 33 K (ex 0))) (q (bl 1 (q (o G5) (q (od G6) (q (o G7) (bl 2 (lp B5)))))) (o B6)))
def B8:List aa:=[
 m 95 3,
 op 96 (.callp 1 152 [(t 95)]),
 m 7 96]
def B9:List aa:=[
 mc 8 (i 0)]
def Ca:List aa:=[
 m 97 8,
 f 98 4 1,
 l 99 98,
 n 100 128 99,
 b 101 .lss (t 97) (t 100)]
def Cb:List aa:=[
 mc 9 (i 0)]
def Cc:List aa:=[
 m 104 9,
 b 105 .lss (t 104) (i 128)]
def Cd:List aa:=[
 m 108 7,
 f 109 4 1,
 l 110 109,
 m 111 8,
 m 112 9,
 is 113 128 110 (t 111),
 ia 114 128 1 113 (t 112),
 l 115 114,
 bs 116 1 [Y] [(0,1,(t 115))],
 ap 117 1 1 108 116,
 m 7 117]
def Ce:List aa:=[
 m 106 9,
 b 107 .add (t 106) (i 1),
 m 9 107]
def Cf:IC:=(q (q (o Cc) (k 105 K (ex 6))) (q (bl 7 (o Cd)) (o Ce)))
def Cg:List aa:=[
 m 102 8,
 b 103 .add (t 102) (i 1),
 m 8 103]
def Ch:IC:=(q (q (o Ca) (k 101 K (ex 4))) (q (bl 5 (q (o Cb) (bl 6 (lp Cf)))) (o Cg)))
def Ci:List aa:=[
 m 118 7,
 m 2 118]
def f101:IFn:=⟨(q (o GY) (q (o GZ) (q (q (o G3) (bl 0 (lp B7))) (q (o B8) (q (q (o B9) (bl 4 (lp Ch))) (q (o Ci) R)))))),[.t 2],119⟩
def Hb:List aa:=[
 mc 2 (v B)]
def Hc:List aa:=[
 m 3 0,
 b 4 .eql (t 3) (w 1),
 m 5 4,
 g 5 false (m 6 0),
 g 5 false (b 7 .eql (t 6) (w 2)),
 op 8 (.pick (t 5) (v (.bool true)) (t 7)),
 m 9 8,
 g 9 false (m 10 0),
 g 9 false (b 11 .eql (t 10) (w 3)),
 op 12 (.pick (t 9) (v (.bool true)) (t 11)),
 m 2 12]
def f103:IFn:=⟨(q (o Hb) (q (o Hc) R)),[.t 2],13⟩
def Hd:List aa:=[
 mc 2 (v B)]
def He:List aa:=[
 m 3 0,
 b 4 .eql (t 3) (w 1),
 m 5 4,
 g 5 false (m 6 0),
 g 5 false (b 7 .eql (t 6) (w 2)),
 op 8 (.pick (t 5) (v (.bool true)) (t 7)),
 m 9 8,
 g 9 false (m 10 0),
 g 9 false (b 11 .eql (t 10) (w 4)),
 op 12 (.pick (t 9) (v (.bool true)) (t 11)),
 m 13 12,
 g 13 false (m 14 0),
 g 13 false (b 15 .eql (t 14) (w 8)),
 op 16 (.pick (t 13) (v (.bool true)) (t 15)),
 m 2 16]
def f104:IFn:=⟨(q (o Hd) (q (o He) R)),[.t 2],17⟩
def Hf:List aa:=[
 x 3 190 0,
 x 4 44 1,
 mc 6 (v B)]
def Hg:List aa:=[
 la 11 1 4,
 f 12 0 3,
 la 13 2 12,
 c 14 156 [(t 11),(t 13)],
 b 15 .neq (t 14) (i 0),
 m 16 15,
 g 16 false (f 17 2 3),
 g 16 false (l 18 17),
 g 16 false (b 19 .lss (t 18) (i 0)),
 op 20 (.pick (t 16) (v (.bool true)) (t 19)),
 m 21 20,
 g 21 false (f 22 2 3),
 g 21 false (l 23 22),
 g 21 false (m 24 2),
 g 21 false (b 25 .geq (t 23) (t 24)),
 op 26 (.pick (t 21) (v (.bool true)) (t 25)),
 m 27 26,
 g 27 false (f 28 4 3),
 g 27 false (l 29 28),
 g 27 false (n 30 4 29),
 g 27 false (b 31 .lss (t 30) (i 2)),
 op 32 (.pick (t 27) (v (.bool true)) (t 31)),
 m 33 32,
 g 33 false (f 34 4 3),
 g 33 false (l 35 34),
 g 33 false (n 36 4 35),
 g 33 false (b 37 .gtr (t 36) (i 4)),
 op 38 (.pick (t 33) (v (.bool true)) (t 37))]
def Hh:List aa:=[
 mc 6 (v B)]
def Hi:List aa:=[
 op 39 (.mkm),
 m 7 39]
def Hj:List aa:=[
 f 40 4 3,
 l 41 40,
 n 42 4 41,
 mc 43 (i 0)]
def Hk:List aa:=[
 b 44 .lss (t 43) (t 42)]
def Hl:List aa:=[
 is 45 4 41 (t 43),
 la 46 4 45,
 nw 9 259 [I,I,I,B],
 sn 4 9 46]
def Hn:List aa:=[
 f 47 0 9,
 l 48 47,
 b 49 .lss (t 48) (i 0),
 m 50 49,
 g 50 false (f 51 0 9),
 g 50 false (l 52 51),
 g 50 false (f 53 0 3),
 g 50 false (f 54 1 53),
 g 50 false (l 55 54),
 g 50 false (cv 56 .i64 55),
 g 50 false (b 57 .geq (t 52) (t 56)),
 op 58 (.pick (t 50) (v (.bool true)) (t 57)),
 m 59 58,
 g 59 false (m 60 7),
 g 59 false (f 61 0 9),
 g 59 false (l 62 61),
 g 59 false (op 63 (.mget 0 false B (t 60) (t 62))),
 op 64 (.pick (t 59) (v (.bool true)) (t 63)),
 m 65 64,
 g 65 false (f 66 2 9),
 g 65 false (l 67 66),
 g 65 false (b 68 .lss (t 67) (i 1)),
 op 69 (.pick (t 65) (v (.bool true)) (t 68)),
 m 70 69,
 g 70 false (f 71 2 9),
 g 70 false (l 72 71),
 g 70 false (b 73 .gtr (t 72) (i 512)),
 op 74 (.pick (t 70) (v (.bool true)) (t 73)),
 m 75 74,
 g 75 false (f 76 1 9),
 g 75 false (l 77 76),
 g 75 false (b 78 .lss (t 77) (i 0)),
 op 79 (.pick (t 75) (v (.bool true)) (t 78)),
 m 80 79,
 g 80 false (f 81 1 9),
 g 80 false (l 82 81),
 g 80 false (la 83 1 4),
 g 80 false (c 84 157 [(t 83)]),
 g 80 false (f 85 2 9),
 g 80 false (l 86 85),
 g 80 false (b 87 .sub (t 84) (t 86)),
 g 80 false (b 88 .gtr (t 82) (t 87)),
 op 89 (.pick (t 80) (v (.bool true)) (t 88))]
def Ho:List aa:=[
 mc 6 (v B)]
def Hq:List aa:=[
 m 90 7,
 f 91 0 9,
 l 92 91,
 op0 (.mupd 0 (t 90) (t 92) (v (.bool true)))]
def Cj:List aa:=[
 b 93 .add (t 43) (i 1),
 m 43 93]
def Ck:IC:=(q (o Hk) (q (k 44 K (ex 0)) (q (bl 1 (q (o Hl) (q (q (od Hn) (k 89 (q (o Ho) R) K)) (o Hq)))) (o Cj))))
def Cl:List aa:=[
 f 94 4 3,
 l 95 94,
 is 96 4 95 (i 0),
 la 97 4 96,
 nw 10 259 [I,I,I,B],
 sn 4 10 97]
def Cm:List aa:=[
 f 98 3 10,
 l 99 98,
 op 100 (.un .not (t 99)),
 m 101 100,
 g 101 true (f 102 2 10),
 g 101 true (l 103 102),
 g 101 true (b 104 .eql (t 103) (i 8)),
 op 105 (.pick (t 101) (t 104) (v B)),
 m 106 105,
 g 106 true (f 107 4 3),
 g 106 true (l 108 107),
 g 106 true (op 109 (.slL 4 (t 108) (some (i 1)) none none)),
 g 106 true (f 110 3 3),
 g 106 true (l 111 110),
 g 106 true (c 112 158 [(t 109),(t 111)]),
 g 106 true (b 113 .eql (t 112) (i 0)),
 op 114 (.pick (t 106) (t 113) (v B)),
 m 6 114]
def f105:IFn:=⟨(q (o Hf) (q (q (o Hg) (k 38 (q (o Hh) R) K)) (q (o Hi) (q (q (o Hj) (bl 0 (lp Ck))) (q (o Cl) (q (od Cm) R)))))),[.t 6],115⟩
def Hr:List aa:=[
 x 2 34 0,
 mc 4 (v B)]
def Ht:List aa:=[
 f 5 1 2,
 l 6 5]
def Hu:List aa:=[
 b 8 .eql (t 6) (w 1),
 m 7 8]
def Hv:List aa:=[
 b 10 .eql (t 6) (w 2),
 m 9 10]
def Hw:List aa:=[
 b 12 .eql (t 6) (w 4),
 m 11 12]
def Hx:List aa:=[
 b 14 .eql (t 6) (w 8),
 m 13 14]
def Hy:List aa:=[
 m 15 1,
 b 16 .geq (t 15) (i 0),
 m 17 16,
 g 17 true (m 18 1),
 g 17 true (f 19 1 2),
 g 17 true (l 20 19),
 g 17 true (cv 21 .i64 20),
 g 17 true (b 22 .lss (t 18) (t 21)),
 op 23 (.pick (t 17) (t 22) (v B)),
 m 4 23]
def Hz:List aa:=[
 m 24 1,
 b 25 .eql (t 24) (i 0),
 m 4 25]
def f106:IFn:=⟨(q (o Hr) (q (q (o Ht) (bl 0 (q (bl 4 (bl 3 (bl 2 (bl 1 (q (q (q (o Hu) (k 7 (ex 1) K)) (q (q (o Hv) (k 9 (ex 2) K)) (q (q (o Hw) (k 11 (ex 3) K)) (q (o Hx) (k 13 (ex 4) K))))) (ex 0)))))) (q (q (o Hy) R) (ex 0))))) (q (o Hz) R))),[.t 4],26⟩
def HC:List aa:=[
 mc 2 (v B)]
def HD:List aa:=[
 m 3 0,
 b 4 .geq (t 3) (i 1),
 m 5 4,
 g 5 true (m 6 0),
 g 5 true (b 7 .leq (t 6) (i 3)),
 op 8 (.pick (t 5) (t 7) (v B)),
 m 2 8]
def f107:IFn:=⟨(q (o HC) (q (o HD) R)),[.t 2],9⟩
def HE:List aa:=[
 x 3 190 0,
 x 4 44 1,
 mc 6 (v B)]
def HF:List aa:=[
 la 10 1 4,
 f 11 0 3,
 la 12 2 11,
 c 13 129 [(t 10),(t 12)],
 b 14 .neq (t 13) (i 0),
 m 15 14,
 g 15 false (f 16 2 3),
 g 15 false (l 17 16),
 g 15 false (b 18 .lss (t 17) (i 0)),
 op 19 (.pick (t 15) (v (.bool true)) (t 18)),
 m 20 19,
 g 20 false (f 21 2 3),
 g 20 false (l 22 21),
 g 20 false (m 23 2),
 g 20 false (b 24 .geq (t 22) (t 23)),
 op 25 (.pick (t 20) (v (.bool true)) (t 24)),
 m 26 25,
 g 26 false (f 27 4 3),
 g 26 false (l 28 27),
 g 26 false (n 29 4 28),
 g 26 false (b 30 .lss (t 29) (i 2)),
 op 31 (.pick (t 26) (v (.bool true)) (t 30)),
 m 32 31,
 g 32 false (f 33 4 3),
 g 32 false (l 34 33),
 g 32 false (n 35 4 34),
 g 32 false (b 36 .gtr (t 35) (i 4)),
 op 37 (.pick (t 32) (v (.bool true)) (t 36))]
def HG:List aa:=[
 mc 6 (v B)]
def HH:List aa:=[
 mc 7 (i 0)]
def HI:List aa:=[
 m 38 7,
 f 39 4 3,
 l 40 39,
 n 41 4 40,
 b 42 .lss (t 38) (t 41)]
def HJ:List aa:=[
 f 45 4 3,
 l 46 45,
 m 47 7,
 is 48 4 46 (t 47),
 la 49 4 48,
 nw 8 259 [I,I,I,B],
 sn 4 8 49]
def HK:List aa:=[
 f 50 0 8,
 l 51 50,
 b 52 .lss (t 51) (i 0),
 m 53 52,
 g 53 false (f 54 0 8),
 g 53 false (l 55 54),
 g 53 false (f 56 0 3),
 g 53 false (f 57 1 56),
 g 53 false (l 58 57),
 g 53 false (cv 59 .i64 58),
 g 53 false (b 60 .geq (t 55) (t 59)),
 op 61 (.pick (t 53) (v (.bool true)) (t 60)),
 m 62 61,
 g 62 false (f 63 2 8),
 g 62 false (l 64 63),
 g 62 false (b 65 .lss (t 64) (i 1)),
 op 66 (.pick (t 62) (v (.bool true)) (t 65)),
 m 67 66,
 g 67 false (f 68 2 8),
 g 67 false (l 69 68),
 g 67 false (b 70 .gtr (t 69) (i 512)),
 op 71 (.pick (t 67) (v (.bool true)) (t 70)),
 m 72 71,
 g 72 false (f 73 1 8),
 g 72 false (l 74 73),
 g 72 false (b 75 .lss (t 74) (i 0)),
 op 76 (.pick (t 72) (v (.bool true)) (t 75)),
 m 77 76,
 g 77 false (f 78 1 8),
 g 77 false (l 79 78),
 g 77 false (la 80 1 4),
 g 77 false (c 81 159 [(t 80)]),
 g 77 false (f 82 2 8),
 g 77 false (l 83 82),
 g 77 false (b 84 .sub (t 81) (t 83)),
 g 77 false (b 85 .gtr (t 79) (t 84)),
 op 86 (.pick (t 77) (v (.bool true)) (t 85))]
def HM:List aa:=[
 mc 6 (v B)]
def HN:List aa:=[
 mc 9 (i 0)]
def HO:List aa:=[
 m 87 9,
 m 88 7,
 b 89 .lss (t 87) (t 88)]
def Cn:List aa:=[
 f 92 4 3,
 l 93 92,
 m 94 9,
 is 95 4 93 (t 94),
 f 96 0 95,
 l 97 96,
 f 98 0 8,
 l 99 98,
 b 100 .eql (t 97) (t 99)]
def Co:List aa:=[
 mc 6 (v B)]
def Cp:List aa:=[
 m 90 9,
 b 91 .add (t 90) (i 1),
 m 9 91]
def Cq:IC:=(q (q (o HO) (k 89 K (ex 2))) (q (bl 3 (q (od Cn) (k 100 (q (o Co) R) K))) (o Cp)))
def Cr:List aa:=[
 m 43 7,
 b 44 .add (t 43) (i 1),
 m 7 44]
def Cs:IC:=(q (q (o HI) (k 42 K (ex 0))) (q (bl 1 (q (o HJ) (q (q (od HK) (k 86 (q (o HM) R) K)) (q (o HN) (bl 2 (lp Cq)))))) (o Cr)))
def Ct:List aa:=[
 f 101 4 3,
 l 102 101,
 is 103 4 102 (i 0),
 f 104 3 103,
 l 105 104,
 op 106 (.un .not (t 105)),
 m 107 106,
 g 107 true (f 108 4 3),
 g 107 true (l 109 108),
 g 107 true (is 110 4 109 (i 0)),
 g 107 true (f 111 2 110),
 g 107 true (l 112 111),
 g 107 true (b 113 .eql (t 112) (i 8)),
 op 114 (.pick (t 107) (t 113) (v B)),
 m 115 114,
 g 115 true (f 116 4 3),
 g 115 true (l 117 116),
 g 115 true (op 118 (.slL 4 (t 117) (some (i 1)) none none)),
 g 115 true (f 119 3 3),
 g 115 true (l 120 119),
 g 115 true (c 121 160 [(t 118),(t 120)]),
 g 115 true (b 122 .eql (t 121) (i 0)),
 op 123 (.pick (t 115) (t 122) (v B)),
 m 6 123]
def f108:IFn:=⟨(q (o HE) (q (q (o HF) (k 37 (q (o HG) R) K)) (q (q (o HH) (bl 0 (lp Cs))) (q (od Ct) R)))),[.t 6],124⟩
def HP:List aa:=[
 x 2 34 0,
 mc 4 (v B)]
def HQ:List aa:=[
 f 5 1 2,
 l 6 5,
 b 7 .eql (t 6) (w 1),
 m 8 7,
 g 8 false (f 9 1 2),
 g 8 false (l 10 9),
 g 8 false (b 11 .eql (t 10) (w 2)),
 op 12 (.pick (t 8) (v (.bool true)) (t 11)),
 m 13 12,
 g 13 false (f 14 1 2),
 g 13 false (l 15 14),
 g 13 false (b 16 .eql (t 15) (w 4)),
 op 17 (.pick (t 13) (v (.bool true)) (t 16)),
 m 18 17,
 g 18 false (f 19 1 2),
 g 18 false (l 20 19),
 g 18 false (b 21 .eql (t 20) (w 8)),
 op 22 (.pick (t 18) (v (.bool true)) (t 21))]
def HR:List aa:=[
 m 23 1,
 b 24 .geq (t 23) (i 0),
 m 25 24,
 g 25 true (m 26 1),
 g 25 true (f 27 1 2),
 g 25 true (l 28 27),
 g 25 true (cv 29 .i64 28),
 g 25 true (b 30 .lss (t 26) (t 29)),
 op 31 (.pick (t 25) (t 30) (v B)),
 m 4 31]
def HT:List aa:=[
 m 32 1,
 b 33 .eql (t 32) (i 0),
 m 4 33]
def f109:IFn:=⟨(q (o HP) (q (q (o HQ) (k 22 (q (o HR) R) K)) (q (o HT) R))),[.t 4],34⟩
def HU:List aa:=[
 op 3 (.boxp (t 0)),
 op 5 (.boxp (t 2)),
 nw 6 170 [I,U,U,U,U,U,U,U,U,I,I,I,I,I,U,I]]
def HV:List aa:=[
 f 7 0 5,
 l 8 7,
 op 9 (.un .not (t 8))]
def HX:List aa:=[
 la 10 14 3,
 m 11 1,
 f 12 1 5,
 l 13 12,
 f 14 2 5,
 l 15 14,
 cv 16 .i64 15,
 c 17 161 [(t 10),(t 11),(t 13),(t 16)],
 sn 16 6 17]
def HY:List aa:=[
 f 18 1 5,
 l 19 18]
def HZ:List aa:=[
 b 21 .eql (t 19) (i 0),
 m 20 21]
def H5:List aa:=[
 la 22 14 3,
 m 23 1,
 f 24 5 3,
 ia 25 4 1 24 (t 23),
 l 26 25,
 bd 27 [I,U,U,U,U,U,U,U,U,I,I,I,I,I,U,I] [(0,14,(t 22)),(14,1,(t 26))],
 sn 16 6 27]
def H6:List aa:=[
 b 29 .eql (t 19) (i 1),
 m 28 29]
def H7:List aa:=[
 la 30 14 3,
 la 31 14 3,
 m 32 1,
 c 33 59 [(t 31),(t 32)],
 bd 34 [I,U,U,U,U,U,U,U,U,I,I,I,I,I,U,I] [(0,14,(t 30)),(14,1,(t 33))],
 sn 16 6 34]
def H8:List aa:=[
 la 35 14 3,
 bd 36 [I,U,U,U,U,U,U,U,U,I,I,I,I,I,U,I] [(0,14,(t 35)),(15,1,(i 5))],
 sn 16 6 36]
def f110:IFn:=⟨(q (o HU) (q (q (o HV) (k 9 (q (o HX) R) K)) (q (q (o HY) (bl 0 (q (o HZ) (k 20 (q (od H5) R) (q (o H6) (k 28 (q (od H7) R) K)))))) (q (o H8) R)))),[.cell 6 16 true],37⟩
def H9:List aa:=[
 op 4 (.boxp (t 0)),
 op 7 (.boxp (t 3)),
 nw 8 136 [I,B,B,B,B,I,I,I,I,I,I,I,I,U,B,I]]
def Ia:List aa:=[
 f 9 1 7,
 l 10 9,
 b 11 .eql (t 10) (i 16),
 m 12 11,
 g 12 true (f 13 0 7),
 g 12 true (l 14 13),
 op 15 (.pick (t 12) (t 14) (v B))]
def Ib:List aa:=[
 la 16 13 4,
 m 17 1,
 c 18 162 [(t 16),(t 17)],
 sn 16 8 18]
def Ic:List aa:=[
 f 19 1 7,
 l 20 19,
 b 21 .eql (t 20) (i 17),
 m 22 21,
 g 22 true (f 23 0 7),
 g 22 true (l 24 23),
 g 22 true (op 25 (.un .not (t 24))),
 op 26 (.pick (t 22) (t 25) (v B))]
def Ie:List aa:=[
 la 27 13 4,
 m 28 1,
 m 29 2,
 f 30 2 7,
 l 31 30,
 c 32 163 [(t 27),(t 28),(t 29),(t 31)],
 sn 16 8 32]
def Ig:List aa:=[
 la 33 13 4,
 bd 34 [I,B,B,B,B,I,I,I,I,I,I,I,I,U,B,I] [(0,13,(t 33)),(15,1,(i 5))],
 sn 16 8 34]
def f111:IFn:=⟨(q (o H9) (q (q (o Ia) (k 15 (q (o Ib) R) K)) (q (q (o Ic) (k 26 (q (o Ie) R) K)) (q (o Ig) R)))),[.cell 8 16 true],35⟩
def Ih:List aa:=[
 op 2 (.boxp (t 0)),
 op 3 (.boxp (t 1)),
 nw 4 199 [E,I,U,E,B]]
def Ii:List aa:=[
 f 5 1 3,
 l 6 5,
 b 7 .eql (t 6) (i 32),
 m 8 7,
 g 8 true (f 9 0 3),
 g 8 true (l 10 9),
 g 8 true (op 11 (.un .not (t 10))),
 op 12 (.pick (t 8) (t 11) (v B))]
def Ij:List aa:=[
 la 13 2 2,
 f 14 2 3,
 l 15 14,
 cv 16 .u8 15,
 bs 17 1 [Y] [(0,1,(t 16))],
 op 18 (.b2s (t 17)),
 bd 19 [E,I,U,E,B] [(0,2,(t 13)),(3,1,(t 18)),(4,1,(v (.bool true)))],
 sn 5 4 19]
def Ik:List aa:=[
 f 20 1 3,
 l 21 20,
 b 22 .eql (t 21) (i 33),
 m 23 22,
 g 23 true (f 24 0 3),
 g 23 true (l 25 24),
 op 26 (.pick (t 23) (t 25) (v B))]
def Il:List aa:=[
 f 27 0 2,
 l 28 27,
 ns 29 28,
 b 30 .eql (t 29) (i 0)]
def Im:List aa:=[
 la 31 2 2,
 bd 32 [E,I,U,E,B] [(0,2,(t 31)),(2,1,(w 4294967295)),(4,1,(v (.bool true)))],
 sn 5 4 32]
def Io:List aa:=[
 f 33 0 2,
 l 34 33,
 op 35 (.slS (t 34) (some (i 1)) none),
 f 36 1 2,
 l 37 36,
 bd 38 [E,I] [(0,1,(t 35)),(1,1,(t 37))],
 f 39 0 2,
 l 40 39,
 op 41 (.ixS (t 40) (i 0)),
 cv 42 .u32 41,
 bd 43 [E,I,U,E,B] [(0,2,(t 38)),(2,1,(t 42)),(4,1,(v (.bool true)))],
 sn 5 4 43]
def Ip:List aa:=[
 f 44 1 3,
 l 45 44,
 b 46 .eql (t 45) (i 34),
 m 47 46,
 g 47 true (f 48 0 3),
 g 47 true (l 49 48),
 op 50 (.pick (t 47) (t 49) (v B))]
def Iq:List aa:=[
 la 51 2 2,
 f 52 0 2,
 l 53 52,
 ns 54 53,
 cv 55 .u32 54,
 bd 56 [E,I,U,E,B] [(0,2,(t 51)),(2,1,(t 55)),(4,1,(v (.bool true)))],
 sn 5 4 56]
def Ir:List aa:=[
 la 57 2 2,
 bd 58 [E,I,U,E,B] [(0,2,(t 57))],
 sn 5 4 58]
def f112:IFn:=⟨(q (o Ih) (q (q (o Ii) (k 12 (q (o Ij) R) K)) (q (q (o Ik) (k 26 (q (q (o Il) (k 30 (q (o Im) R) K)) (q (od Io) R)) K)) (q (q (o Ip) (k 50 (q (o Iq) R) K)) (q (o Ir) R))))),[.cell 4 5 true],59⟩
def It:List aa:=[
 x 1 124 0,
 nw 2 124 [U,U,I,I,N,N,N,U,N,B,B]]
def Iu:List aa:=[
 f 8 6 1,
 f 9 0 8,
 la 10 1 9,
 f 11 0 1,
 f 12 0 11,
 la 13 2 12,
 c 14 129 [(t 10),(t 13)],
 m 3 14]
def Iv:List aa:=[
 m 15 3,
 b 16 .neq (t 15) (i 0)]
def Iw:List aa:=[
 m 17 3,
 f 18 0 1,
 f 19 3 18,
 s 19 17]
def Ix:List aa:=[
 la 20 11 1,
 sn 11 2 20]
def Iy:List aa:=[
 f 21 0 1,
 f 22 0 21,
 f 23 1 22,
 l 24 23,
 cv 25 .i64 24,
 m 4 25]
def Iz:List aa:=[
 mc 5 (i 0)]
def IA:List aa:=[
 m 26 5,
 m 27 4,
 b 28 .lss (t 26) (t 27)]
def IB:List aa:=[
 f 31 6 1,
 f 32 0 31,
 la 33 1 32,
 f 34 0 1,
 f 35 0 34,
 la 36 2 35,
 f 37 0 1,
 f 38 2 37,
 l 39 38,
 c 40 130 [(t 33),(t 36),(t 39)],
 nw 6 229 [I,B],
 sn 2 6 40]
def ID:List aa:=[
 f 41 1 6,
 l 42 41,
 op 43 (.un .not (t 42)),
 m 44 43,
 g 44 false (f 45 0 1),
 g 44 false (f 46 5 45),
 g 44 false (l 47 46),
 g 44 false (n 48 5 47),
 g 44 false (b 49 .geq (t 48) (i 8)),
 op 50 (.pick (t 44) (v (.bool true)) (t 49))]
def Cu:List aa:=[
 la 51 11 1,
 sn 11 2 51]
def Cv:List aa:=[
 f 52 0 6,
 l 53 52,
 b 54 .add (t 53) (i 1),
 m 55 4,
 b 56 .rem (t 54) (t 55),
 f 57 0 1,
 f 58 2 57,
 s 58 56]
def Cw:List aa:=[
 f 59 6 1,
 f 60 0 59,
 la 61 1 60,
 f 62 0 1,
 f 63 0 62,
 la 64 2 63,
 f 65 0 6,
 l 66 65,
 c 67 131 [(t 61),(t 64),(t 66)],
 nw 7 232 [N,N,I],
 sn 3 7 67]
def Cx:List aa:=[
 f 68 0 7,
 la 69 1 68,
 f 70 6 1,
 f 71 0 70,
 s 71 69]
def Cy:List aa:=[
 f 72 2 7,
 l 73 72,
 b 74 .neq (t 73) (i 0)]
def Cz:List aa:=[
 f 75 2 7,
 l 76 75,
 f 77 0 1,
 f 78 3 77,
 s 78 76]
def CA:List aa:=[
 f 79 6 1,
 f 80 3 79,
 op0 (.store 1 (t 80) (v (.bool true)))]
def CB:List aa:=[
 la 81 11 1,
 f 82 0 6,
 l 83 82,
 f 84 1 7,
 l 85 84,
 c 86 164 [(t 81),(t 83),(t 85)],
 sn 11 1 86]
def CC:List aa:=[
 m 29 5,
 b 30 .add (t 29) (i 1),
 m 5 30]
def CD:IC:=(q (q (o IA) (k 28 K (ex 0))) (q (bl 1 (q (o IB) (q (q (o ID) (k 50 (q (o Cu) R) K)) (q (o Cv) (q (o Cw) (q (o Cx) (q (o Cy) (k 74 (q (o Cz) (o CA)) (o CB))))))))) (o CC)))
def CE:List aa:=[
 la 87 11 1,
 sn 11 2 87]
def f113:IFn:=⟨(q (o It) (q (o Iu) (q (q (o Iv) (k 16 (q (o Iw) (q (o Ix) R)) K)) (q (o Iy) (q (q (o Iz) (bl 0 (lp CD))) (q (o CE) R)))))),[.cell 2 11 true],88⟩
def IE:List aa:=[
 x 1 128 0,
 nw 2 128 [U,U,U,U,I,I,I,I,N,U,N,B,B]]
def IF:List aa:=[
 f 8 8 1,
 f 9 0 8,
 la 10 1 9,
 f 11 0 1,
 f 12 0 11,
 la 13 2 12,
 c 14 129 [(t 10),(t 13)],
 m 3 14]
def IG:List aa:=[
 m 15 3,
 b 16 .neq (t 15) (i 0)]
def IH:List aa:=[
 m 17 3,
 f 18 0 1,
 f 19 6 18,
 s 19 17]
def II:List aa:=[
 la 20 13 1,
 sn 13 2 20]
def IJ:List aa:=[
 mc 4 (i 0)]
def IK:List aa:=[
 m 21 4,
 f 22 0 1,
 f 23 0 22,
 f 24 1 23,
 l 25 24,
 cv 26 .i64 25,
 b 27 .lss (t 21) (t 26)]
def IL:List aa:=[
 f 30 8 1,
 f 31 0 30,
 la 32 1 31,
 f 33 0 1,
 f 34 0 33,
 la 35 2 34,
 f 36 0 1,
 f 37 4 36,
 l 38 37,
 c 39 130 [(t 32),(t 35),(t 38)],
 nw 5 229 [I,B],
 sn 2 5 39]
def IM:List aa:=[
 f 40 1 5,
 l 41 40,
 op 42 (.un .not (t 41))]
def IN:List aa:=[
 la 43 13 1,
 sn 13 2 43]
def CF:List aa:=[
 f 44 8 1,
 f 45 3 44,
 op0 (.store 1 (t 45) (v (.bool true)))]
def CG:List aa:=[
 f 46 0 5,
 l 47 46,
 b 48 .add (t 47) (i 1),
 f 49 0 1,
 f 50 0 49,
 f 51 1 50,
 l 52 51,
 cv 53 .i64 52,
 b 54 .rem (t 48) (t 53),
 f 55 0 1,
 f 56 4 55,
 s 56 54]
def CH:List aa:=[
 f 57 8 1,
 f 58 0 57,
 la 59 1 58,
 f 60 0 1,
 f 61 0 60,
 la 62 2 61,
 f 63 0 5,
 l 64 63,
 c 65 131 [(t 59),(t 62),(t 64)],
 nw 6 232 [N,N,I],
 sn 3 6 65]
def CI:List aa:=[
 f 66 0 6,
 la 67 1 66,
 f 68 8 1,
 f 69 0 68,
 s 69 67]
def CJ:List aa:=[
 f 70 2 6,
 l 71 70,
 b 72 .neq (t 71) (i 0)]
def CK:List aa:=[
 f 73 2 6,
 l 74 73,
 f 75 0 1,
 f 76 6 75,
 s 76 74]
def CL:List aa:=[
 f 77 1 6,
 l 78 77,
 c 79 132 [(t 78),(v B),(i 0),(i 512)],
 m 7 79]
def CM:List aa:=[
 m 80 7,
 b 81 .neq (t 80) (i 0)]
def CN:List aa:=[
 m 82 7,
 f 83 0 1,
 f 84 6 83,
 s 84 82]
def CO:List aa:=[
 f 85 8 1,
 f 86 0 85,
 la 87 1 86,
 f 88 0 1,
 f 89 0 88,
 la 90 2 89,
 f 91 0 5,
 l 92 91,
 m 93 7,
 c 94 133 [(t 87),(t 90),(t 92),(t 93)],
 f 95 8 1,
 f 96 0 95,
 s 96 94]
def CP:List aa:=[
 bs 97 1 [] [],
 f 98 8 1,
 f 99 2 98,
 l 100 99,
 ap 101 1 16 97 100,
 f 102 8 1,
 f 103 0 102,
 la 104 1 103,
 f 105 1 6,
 l 106 105,
 c 107 137 [(t 104),(t 106)],
 bs 108 1 [E] [(0,1,(t 107))],
 ap 109 1 16 101 108,
 f 110 8 1,
 f 111 2 110,
 s 111 109]
def CQ:List aa:=[
 f 112 8 1,
 f 113 0 112,
 la 114 1 113,
 f 115 0 1,
 f 116 0 115,
 la 117 2 116,
 f 118 1 6,
 l 119 118,
 c 120 135 [(t 114),(t 117),(t 119)],
 f 121 8 1,
 f 122 0 121,
 s 122 120]
def CR:List aa:=[
 m 28 4,
 b 29 .add (t 28) (i 1),
 m 4 29]
def CS:IC:=(q (q (o IK) (k 27 K (ex 0))) (q (bl 1 (q (o IL) (q (q (o IM) (k 42 (q (o IN) R) K)) (q (o CF) (q (o CG) (q (o CH) (q (o CI) (q (q (o CJ) (k 72 (q (o CK) (ex 1)) K)) (q (o CL) (q (q (o CM) (k 81 (q (o CN) (q (o CO) (ex 1))) K)) (q (od CP) (o CQ)))))))))))) (o CR)))
def CT:List aa:=[
 la 123 13 1,
 sn 13 2 123]
def f114:IFn:=⟨(q (o IE) (q (o IF) (q (q (o IG) (k 16 (q (o IH) (q (o II) R)) K)) (q (q (o IJ) (bl 0 (lp CS))) (q (o CT) R))))),[.cell 2 13 true],124⟩
def IP:List aa:=[
 mc 4 (v B)]
def IQ:List aa:=[
 m 5 0,
 m 6 1,
 c 7 116 [(t 6)],
 b 8 .quo (t 5) (t 7),
 b 9 .rem (t 8) (w 2),
 b 10 .eql (t 9) (w 1),
 m 4 10]
def f115:IFn:=⟨(q (o IP) (q (o IQ) R)),[.t 4],11⟩
def IS:List aa:=[
 op 2 (.boxp (t 0)),
 mc 4 (i 0)]
def IT:List aa:=[
 m 5 1,
 c 6 120 [(t 5)],
 op 7 (.un .not (t 6))]
def IU:List aa:=[
 mc 4 (i 0)]
def IV:List aa:=[
 m 8 1,
 f 9 9 2,
 ia 10 4 1 9 (t 8),
 l 11 10,
 m 4 11]
def f117:IFn:=⟨(q (o IS) (q (q (o IT) (k 7 (q (o IU) R) K)) (q (o IV) R))),[.t 4],12⟩
def IW:List aa:=[
 op 2 (.boxp (t 0)),
 mc 4 (i 0)]
def IX:List aa:=[
 m 6 1,
 c 7 127 [(t 6)],
 m 5 7]
def IY:List aa:=[
 m 8 5]
def IZ:List aa:=[
 m 9 1,
 f 10 9 2,
 ia 11 4 1 10 (t 9),
 l 12 11,
 m 4 12]
def I0:List aa:=[
 mc 4 (i 0)]
def f118:IFn:=⟨(q (o IW) (q (o IX) (q (q (o IY) (k 8 (q (o IZ) R) K)) (q (o I0) R)))),[.t 4],13⟩
def I1:List aa:=[
 mc 2 (v B)]
def I2:List aa:=[
 m 3 0,
 b 4 .geq (t 3) (i 0),
 m 5 4,
 g 5 true (m 6 0),
 g 5 true (b 7 .lss (t 6) (i 4)),
 op 8 (.pick (t 5) (t 7) (v B)),
 m 2 8]
def f120:IFn:=⟨(q (o I1) (q (o I2) R)),[.t 2],9⟩
def I3:List aa:=[
 x 3 209 0,
 x 4 34 1,
 x 5 215 2,
 mc 6 (v .nilfn)]
def I4:List aa:=[
 op 7 (.mkf 165 [] [(t 3),(t 4),(t 5)]),
 m 6 7]
def f121:IFn:=⟨(q (o I3) (q (o I4) R)),[.t 6],8⟩
def I5:List aa:=[
 x 3 44 0,
 x 4 34 1,
 nw 6 44 [N]]
def I6:List aa:=[
 m 9 2,
 n 10 4 9,
 mc 11 (i 0)]
def I7:List aa:=[
 b 12 .lss (t 11) (t 10)]
def I8:List aa:=[
 is 13 4 9 (t 11),
 la 14 4 13,
 nw 8 259 [I,I,I,B],
 sn 4 8 14]
def I9:List aa:=[
 la 15 1 3,
 la 16 2 4,
 f 17 0 8,
 l 18 17,
 bs 19 1 [I] [(0,1,(t 18))],
 c 20 176 [(t 15),(t 16),(i 3),(t 19)],
 s 3 20]
def Ja:List aa:=[
 b 21 .add (t 11) (i 1),
 m 11 21]
def Jb:IC:=(q (o I7) (q (k 12 K (ex 0)) (q (bl 1 (q (o I8) (o I9))) (o Ja))))
def Jc:List aa:=[
 la 22 1 3,
 s 6 22]
def f126:IFn:=⟨(q (o I5) (q (q (o I6) (bl 0 (lp Jb))) (q (o Jc) R))),[.cell 6 1 true],23⟩
def Jd:List aa:=[
 mc 2 (v B)]
def Je:List aa:=[
 m 3 0,
 b 4 .geq (t 3) (i 0),
 m 5 4,
 g 5 true (m 6 0),
 g 5 true (b 7 .leq (t 6) (i 3)),
 op 8 (.pick (t 5) (t 7) (v B)),
 m 2 8]
def f127:IFn:=⟨(q (o Jd) (q (o Je) R)),[.t 2],9⟩
def Jf:List aa:=[
 x 2 44 0,
 x 3 34 1,
 mc 4 (i 0)]
def Jg:List aa:=[
 f 5 1 3,
 l 6 5,
 b 7 .neq (t 6) (w 1),
 m 8 7,
 g 8 true (f 9 1 3),
 g 8 true (l 10 9),
 g 8 true (b 11 .neq (t 10) (w 2)),
 op 12 (.pick (t 8) (t 11) (v B)),
 m 13 12,
 g 13 true (f 14 1 3),
 g 13 true (l 15 14),
 g 13 true (b 16 .neq (t 15) (w 4)),
 op 17 (.pick (t 13) (t 16) (v B)),
 m 18 17,
 g 18 true (f 19 1 3),
 g 18 true (l 20 19),
 g 18 true (b 21 .neq (t 20) (w 8)),
 op 22 (.pick (t 18) (t 21) (v B)),
 m 23 22,
 g 23 false (f 24 0 3),
 g 23 false (l 25 24),
 g 23 false (b 26 .rem (t 25) (w 16)),
 g 23 false (b 27 .neq (t 26) (w 0)),
 op 28 (.pick (t 23) (v (.bool true)) (t 27)),
 m 29 28,
 g 29 false (f 30 0 3),
 g 29 false (l 31 30),
 g 29 false (cv 32 .i64 31),
 g 29 false (f 33 1 3),
 g 29 false (l 34 33),
 g 29 false (cv 35 .i64 34),
 g 29 false (b 36 .mul (i 16) (t 35)),
 g 29 false (b 37 .add (t 32) (t 36)),
 g 29 false (la 38 1 2),
 g 29 false (c 39 159 [(t 38)]),
 g 29 false (b 40 .gtr (t 37) (t 39)),
 op 41 (.pick (t 29) (v (.bool true)) (t 40))]
def Jh:List aa:=[
 mc 4 (i 160)]
def Ji:List aa:=[
 mc 4 (i 0)]
def f129:IFn:=⟨(q (o Jf) (q (q (od Jg) (k 41 (q (o Jh) R) K)) (q (o Ji) R))),[.t 4],42⟩
def Jj:List aa:=[
 x 3 44 0,
 x 4 34 1,
 nw 6 229 [I,B]]
def Jk:List aa:=[
 f 9 1 4,
 l 10 9,
 cv 11 .i64 10,
 m 7 11]
def Jl:List aa:=[
 mc 8 (i 0)]
def Jm:List aa:=[
 m 12 8,
 m 13 7,
 b 14 .lss (t 12) (t 13)]
def Jn:List aa:=[
 la 17 1 3,
 la 18 2 4,
 m 19 2,
 m 20 8,
 b 21 .add (t 19) (t 20),
 m 22 7,
 b 23 .rem (t 21) (t 22),
 c 24 177 [(t 17),(t 18),(t 23),(i 3)],
 b 25 .eql (t 24) (i 1)]
def Jo:List aa:=[
 m 26 2,
 m 27 8,
 b 28 .add (t 26) (t 27),
 m 29 7,
 b 30 .rem (t 28) (t 29),
 bd 31 [I,B] [(0,1,(t 30)),(1,1,(v (.bool true)))],
 sn 2 6 31]
def Jp:List aa:=[
 m 15 8,
 b 16 .add (t 15) (i 1),
 m 8 16]
def Jq:IC:=(q (q (o Jm) (k 14 K (ex 0))) (q (bl 1 (q (od Jn) (k 25 (q (o Jo) R) K))) (o Jp)))
def Jr:List aa:=[
 bd 32 [I,B] [],
 sn 2 6 32]
def f130:IFn:=⟨(q (o Jj) (q (o Jk) (q (q (o Jl) (bl 0 (lp Jq))) (q (o Jr) R)))),[.cell 6 2 true],33⟩
def Js:List aa:=[
 x 3 44 0,
 x 4 34 1,
 nw 6 232 [N,N,I]]
def Jt:List aa:=[
 mc 7 (v N)]
def Ju:List aa:=[
 m 11 2,
 m 8 11]
def Jv:List aa:=[
 la 12 1 3,
 la 13 2 4,
 m 14 7,
 m 15 8,
 c 16 178 [(t 12),(t 13),(t 14),(t 15)],
 m 9 16]
def Jw:List aa:=[
 m 17 9,
 b 18 .neq (t 17) (i 0)]
def Jx:List aa:=[
 la 19 1 3,
 la 20 2 4,
 m 21 2,
 c 22 177 [(t 19),(t 20),(t 21),(i 3)],
 b 23 .eql (t 22) (i 1)]
def Jy:List aa:=[
 la 24 1 3,
 la 25 2 4,
 m 26 2,
 m 27 9,
 b 28 .sub (t 27) (i 160),
 b 29 .add (i 4) (t 28),
 c 30 179 [(t 24),(t 25),(t 26),(t 29)],
 s 3 30]
def Jz:List aa:=[
 la 31 1 3,
 m 32 9,
 bd 33 [N,N,I] [(0,1,(t 31)),(2,1,(t 32))],
 sn 3 6 33]
def JA:List aa:=[
 la 34 1 3,
 la 35 2 4,
 m 36 8,
 c 37 177 [(t 34),(t 35),(t 36),(i 2)],
 m 10 37]
def JB:List aa:=[
 m 38 7,
 m 39 8,
 la 40 1 3,
 la 41 2 4,
 m 42 8,
 c 43 177 [(t 40),(t 41),(t 42),(i 0)],
 la 44 1 3,
 la 45 2 4,
 m 46 8,
 c 47 177 [(t 44),(t 45),(t 46),(i 1)],
 m 48 10,
 b 49 .rem (t 48) (i 2),
 b 50 .eql (t 49) (i 1),
 bd 51 [I,I,I,B] [(0,1,(t 39)),(1,1,(t 43)),(2,1,(t 47)),(3,1,(t 50))],
 bs 52 4 [I,I,I,B] [(0,4,(t 51))],
 ap 53 4 32 38 52,
 m 7 53]
def CU:List aa:=[
 m 54 10,
 b 55 .quo (t 54) (i 2),
 b 56 .rem (t 55) (i 2),
 b 57 .eql (t 56) (i 0)]
def CV:List aa:=[
 la 58 1 3,
 la 59 2 4,
 m 60 7,
 c 61 180 [(t 58),(t 59),(t 60),(i 2)],
 m 62 7,
 bd 63 [N,N,I] [(0,1,(t 61)),(1,1,(t 62))],
 sn 3 6 63]
def CW:List aa:=[
 m 64 10,
 b 65 .quo (t 64) (i 256),
 b 66 .rem (t 65) (i 256),
 m 8 66]
def CX:IC:=(bl 1 (q (o Jv) (q (q (o Jw) (k 18 (q (q (o Jx) (k 23 (o Jy) K)) (q (o Jz) R)) K)) (q (o JA) (q (od JB) (q (q (o CU) (k 57 (q (o CV) R) K)) (o CW)))))))
def f131:IFn:=⟨(q (o Js) (q (o Jt) (q (o Ju) (bl 0 (lp CX))))),[.cell 6 3 true],67⟩
def JC:List aa:=[
 mc 8 (i 0)]
def JD:List aa:=[
 mc 9 (i 0)]
def JE:List aa:=[
 mc 10 (i 0)]
def JF:List aa:=[
 m 11 10,
 m 12 0,
 n 13 4 12,
 b 14 .lss (t 11) (t 13)]
def JG:List aa:=[
 m 17 0,
 m 18 10,
 is 19 4 17 (t 18),
 f 20 3 19,
 l 21 20,
 m 22 1,
 op 23 (.eq true 1 (t 21) (t 22))]
def JH:List aa:=[
 mc 8 (i 164)]
def JI:List aa:=[
 m 24 9,
 m 25 0,
 m 26 10,
 is 27 4 25 (t 26),
 f 28 2 27,
 l 29 28,
 b 30 .add (t 24) (t 29),
 m 9 30]
def JJ:List aa:=[
 m 15 10,
 b 16 .add (t 15) (i 1),
 m 10 16]
def JK:IC:=(q (q (o JF) (k 14 K (ex 0))) (q (bl 1 (q (q (o JG) (k 23 (q (o JH) R) K)) (o JI))) (o JJ)))
def JL:List aa:=[
 m 31 9,
 m 32 2,
 b 33 .lss (t 31) (t 32),
 m 34 33,
 g 34 false (m 35 9),
 g 34 false (m 36 3),
 g 34 false (b 37 .gtr (t 35) (t 36)),
 op 38 (.pick (t 34) (v (.bool true)) (t 37))]
def CY:List aa:=[
 mc 8 (i 161)]
def CZ:List aa:=[
 mc 8 (i 0)]
def f132:IFn:=⟨(q (o JC) (q (o JD) (q (q (o JE) (bl 0 (lp JK))) (q (q (o JL) (k 38 (q (o CY) R) K)) (q (o CZ) R))))),[.t 8],39⟩
def JM:List aa:=[
 x 4 44 0,
 x 5 34 1,
 nw 8 44 [N]]
def JN:List aa:=[
 m 9 3,
 b 10 .lss (t 9) (i 160),
 m 11 10,
 g 11 false (m 12 3),
 g 11 false (b 13 .gtr (t 12) (i 165)),
 op 14 (.pick (t 11) (v (.bool true)) (t 13))]
def JO:List aa:=[
 la 15 1 4,
 s 8 15]
def JP:List aa:=[
 la 16 1 4,
 la 17 2 5,
 m 18 2,
 m 19 3,
 b 20 .sub (t 19) (i 160),
 b 21 .add (i 4) (t 20),
 c 22 179 [(t 16),(t 17),(t 18),(t 21)],
 s 8 22]
def f133:IFn:=⟨(q (o JM) (q (q (o JN) (k 14 (q (o JO) R) K)) (q (o JP) R))),[.cell 8 1 true],23⟩
def JQ:List aa:=[
 x 3 44 0,
 x 4 34 1,
 nw 6 44 [N]]
def JR:List aa:=[
 la 7 1 3,
 la 8 2 4,
 m 9 2,
 c 10 180 [(t 7),(t 8),(t 9),(i 3)],
 s 6 10]
def f135:IFn:=⟨(q (o JQ) (q (o JR) R)),[.cell 6 1 true],11⟩
def JS:List aa:=[
 x 2 44 0,
 x 3 243 1,
 nw 4 240 [N,B]]
def JT:List aa:=[
 la 8 1 2,
 f 9 0 3,
 l 10 9,
 f 11 1 3,
 l 12 11,
 c 13 182 [(t 8),(t 10),(t 12)],
 m 5 13]
def JU:List aa:=[
 m 14 5,
 op 15 (.un .not (t 14))]
def JV:List aa:=[
 la 16 1 2,
 bd 17 [N,B] [(0,1,(t 16))],
 sn 2 4 17]
def JW:List aa:=[
 la 18 1 2,
 op 19 (.callp 2 183 [(t 18)]),
 nw 6 44 [N],
 s 6 19]
def JX:List aa:=[
 mc 7 (i 0)]
def JY:List aa:=[
 m 20 7,
 f 21 1 3,
 l 22 21,
 b 23 .lss (t 20) (t 22)]
def JZ:List aa:=[
 f 26 0 6,
 l 27 26,
 f 28 0 3,
 l 29 28,
 m 30 7,
 b 31 .add (t 29) (t 30),
 b 32 .quo (t 31) (i 128),
 f 33 0 3,
 l 34 33,
 m 35 7,
 b 36 .add (t 34) (t 35),
 b 37 .rem (t 36) (i 128),
 f 38 2 3,
 l 39 38,
 m 40 7,
 b 41 .mul (i 8) (t 40),
 b 42 .shr (t 39) (t 41),
 cv 43 .u8 42,
 is 44 128 27 (t 32),
 ia 45 128 1 44 (t 37),
 s 45 43]
def J0:List aa:=[
 m 24 7,
 b 25 .add (t 24) (i 1),
 m 7 25]
def J1:IC:=(q (q (o JY) (k 23 K (ex 0))) (q (bl 1 (od JZ)) (o J0)))
def C0:List aa:=[
 la 46 1 6,
 bd 47 [N,B] [(0,1,(t 46)),(1,1,(v (.bool true)))],
 sn 2 4 47]
def f136:IFn:=⟨(q (o JS) (q (o JT) (q (q (o JU) (k 15 (q (o JV) R) K)) (q (o JW) (q (q (o JX) (bl 0 (lp J1))) (q (o C0) R)))))),[.cell 4 2 true],48⟩
def J2:List aa:=[
 x 2 44 0,
 mc 4 (v E)]
def J3:List aa:=[
 mc 5 (v E)]
def J4:List aa:=[
 mc 6 (i 0)]
def J5:List aa:=[
 m 7 6,
 m 8 1,
 n 9 4 8,
 b 10 .lss (t 7) (t 9)]
def J6:List aa:=[
 m 13 1,
 m 14 6,
 is 15 4 13 (t 14),
 f 16 3 15,
 l 17 16,
 op 18 (.un .not (t 17))]
def J7:List aa:=[
 m 19 5,
 la 20 1 2,
 m 21 1,
 m 22 6,
 is 23 4 21 (t 22),
 f 24 1 23,
 l 25 24,
 m 26 1,
 m 27 6,
 is 28 4 26 (t 27),
 f 29 2 28,
 l 30 29,
 c 31 184 [(t 20),(t 25),(t 30)],
 fd 32 0 1 false 31,
 b 33 .add (t 19) (t 32),
 m 5 33]
def J8:List aa:=[
 m 11 6,
 b 12 .add (t 11) (i 1),
 m 6 12]
def J9:IC:=(q (q (o J5) (k 10 K (ex 0))) (q (bl 1 (q (o J6) (k 18 (od J7) K))) (o J8)))
def Ka:List aa:=[
 m 34 5,
 m 4 34]
def f137:IFn:=⟨(q (o J2) (q (o J3) (q (q (o J4) (bl 0 (lp J9))) (q (o Ka) R)))),[.t 4],35⟩
def Kb:List aa:=[
 mc 2 (v N)]
def Kc:List aa:=[
 m 5 0,
 n 6 1 5,
 op 7 (.callp 1 154 [(t 6)]),
 m 3 7]
def Kd:List aa:=[
 mc 4 (i 0)]
def Ke:List aa:=[
 m 8 4,
 m 9 0,
 n 10 1 9,
 b 11 .lss (t 8) (t 10)]
def Kf:List aa:=[
 m 14 3,
 m 15 0,
 m 16 4,
 is 17 1 15 (t 16),
 l 18 17,
 c 19 154 [(t 18)],
 ap 20 1 1 14 19,
 m 3 20]
def Kg:List aa:=[
 m 12 4,
 b 13 .add (t 12) (i 1),
 m 4 13]
def Kh:IC:=(q (q (o Ke) (k 11 K (ex 0))) (q (bl 1 (o Kf)) (o Kg)))
def Ki:List aa:=[
 m 21 3,
 m 2 21]
def f152:IFn:=⟨(q (o Kb) (q (o Kc) (q (q (o Kd) (bl 0 (lp Kh))) (q (o Ki) R)))),[.t 2],22⟩
def Kj:List aa:=[
 mc 2 (v N)]
def Kk:List aa:=[
 m 5 0,
 cv 6 .u64 5,
 b 7 .mul (t 6) (v (.int .u64 2)),
 m 3 7]
def Kl:List aa:=[
 m 8 0,
 b 9 .lss (t 8) (i 0)]
def Km:List aa:=[
 m 10 0,
 b 11 .sub (i (-1)) (t 10),
 cv 12 .u64 11,
 b 13 .mul (t 12) (v (.int .u64 2)),
 b 14 .add (t 13) (v (.int .u64 1)),
 m 3 14]
def Kn:List aa:=[
 mc 4 (v N)]
def Ko:List aa:=[
 m 15 3,
 b 16 .geq (t 15) (v (.int .u64 128))]
def Kp:List aa:=[
 m 17 4,
 m 18 3,
 b 19 .rem (t 18) (v (.int .u64 128)),
 cv 20 .u8 19,
 b 21 .add (t 20) (y 128),
 bs 22 1 [Y] [(0,1,(t 21))],
 ap 23 1 1 17 22,
 m 4 23]
def Kq:List aa:=[
 m 24 3,
 b 25 .quo (t 24) (v (.int .u64 128)),
 m 3 25]
def Kr:IC:=(q (q (o Ko) (k 16 K (ex 0))) (bl 1 (q (o Kp) (o Kq))))
def Ks:List aa:=[
 m 26 4,
 m 27 3,
 cv 28 .u8 27,
 bs 29 1 [Y] [(0,1,(t 28))],
 ap 30 1 1 26 29,
 m 2 30]
def f154:IFn:=⟨(q (o Kj) (q (o Kk) (q (q (o Kl) (k 9 (o Km) K)) (q (o Kn) (q (bl 0 (lp Kr)) (q (o Ks) R)))))),[.t 2],31⟩
def Kt:List aa:=[
 mc 2 (i 0)]
def Ku:List aa:=[
 m 3 0]
def Kv:List aa:=[
 mc 2 (i 1)]
def Kw:List aa:=[
 mc 2 (i 0)]
def f155:IFn:=⟨(q (o Kt) (q (q (o Ku) (k 3 (q (o Kv) R) K)) (q (o Kw) R))),[.t 2],4⟩
def Kx:List aa:=[
 x 2 44 0,
 x 3 34 1,
 mc 4 (i 0)]
def Ky:List aa:=[
 f 5 1 3,
 l 6 5]
def Kz:List aa:=[
 b 8 .eql (t 6) (w 1),
 m 7 8]
def KA:List aa:=[
 b 9 .eql (t 6) (w 2),
 m 7 9]
def KB:List aa:=[
 b 10 .eql (t 6) (w 4),
 m 7 10]
def KC:List aa:=[
 b 11 .eql (t 6) (w 8),
 m 7 11]
def KD:List aa:=[
 f 12 0 3,
 l 13 12,
 b 14 .rem (t 13) (w 16),
 b 15 .eql (t 14) (w 0),
 m 16 15,
 g 16 true (f 17 0 3),
 g 16 true (l 18 17),
 g 16 true (cv 19 .i64 18),
 g 16 true (f 20 1 3),
 g 16 true (l 21 20),
 g 16 true (cv 22 .i64 21),
 g 16 true (b 23 .mul (i 16) (t 22)),
 g 16 true (b 24 .add (t 19) (t 23)),
 g 16 true (la 25 1 2),
 g 16 true (c 26 157 [(t 25)]),
 g 16 true (b 27 .leq (t 24) (t 26)),
 op 28 (.pick (t 16) (t 27) (v B))]
def KE:List aa:=[
 mc 4 (i 0)]
def KF:List aa:=[
 mc 4 (i 160)]
def f156:IFn:=⟨(q (o Kx) (q (q (o Ky) (bl 0 (q (q (o Kz) (k 7 K (q (o KA) (k 7 K (q (o KB) (k 7 K (o KC))))))) (k 7 (q (od KD) (k 28 (q (o KE) R) K)) K)))) (q (o KF) R))),[.t 4],29⟩
def KG:List aa:=[
 x 1 44 0,
 mc 2 (i 0)]
def KH:List aa:=[
 f 3 0 1,
 l 4 3,
 n 5 128 4,
 b 6 .mul (t 5) (i 128),
 m 2 6]
def f157:IFn:=⟨(q (o KG) (q (o KH) R)),[.t 2],7⟩
def KI:List aa:=[
 mc 4 (i 0)]
def KJ:List aa:=[
 mc 5 (i 0)]
def KK:List aa:=[
 m 10 0,
 n 11 4 10,
 mc 12 (i 0)]
def KL:List aa:=[
 b 13 .lss (t 12) (t 11)]
def KM:List aa:=[
 is 14 4 10 (t 12),
 la 15 4 14,
 nw 7 259 [I,I,I,B],
 sn 4 7 15]
def KN:List aa:=[
 m 16 5,
 f 17 2 7,
 l 18 17,
 b 19 .add (t 16) (t 18),
 m 5 19]
def KO:List aa:=[
 b 20 .add (t 12) (i 1),
 m 12 20]
def KP:IC:=(q (o KL) (q (k 13 K (ex 0)) (q (bl 1 (q (o KM) (o KN))) (o KO))))
def KQ:List aa:=[
 m 21 5,
 b 22 .lss (t 21) (i 1),
 m 23 22,
 g 23 false (m 24 5),
 g 23 false (b 25 .gtr (t 24) (i 128)),
 op 26 (.pick (t 23) (v (.bool true)) (t 25))]
def KR:List aa:=[
 mc 4 (i 161)]
def C1:List aa:=[
 m 27 0,
 n 28 4 27,
 mc 29 (i 0)]
def C2:List aa:=[
 b 30 .lss (t 29) (t 28)]
def C3:List aa:=[
 is 31 4 27 (t 29),
 la 32 4 31,
 nw 9 259 [I,I,I,B],
 sn 4 9 32]
def C4:List aa:=[
 f 33 3 9,
 l 34 33,
 m 35 1,
 op 36 (.eq false 1 (t 34) (t 35))]
def C5:List aa:=[
 mc 4 (i 164)]
def C6:List aa:=[
 b 37 .add (t 29) (i 1),
 m 29 37]
def C7:IC:=(q (o C2) (q (k 30 K (ex 2)) (q (bl 3 (q (o C3) (q (o C4) (k 36 (q (o C5) R) K)))) (o C6))))
def C8:List aa:=[
 mc 4 (i 0)]
def f158:IFn:=⟨(q (o KI) (q (o KJ) (q (q (o KK) (bl 0 (lp KP))) (q (q (o KQ) (k 26 (q (o KR) R) K)) (q (q (o C1) (bl 2 (lp C7))) (q (o C8) R)))))),[.t 4],38⟩
def KS:List aa:=[
 x 1 44 0,
 mc 2 (i 0)]
def KT:List aa:=[
 f 3 0 1,
 l 4 3,
 n 5 128 4,
 b 6 .mul (t 5) (i 128),
 m 2 6]
def f159:IFn:=⟨(q (o KS) (q (o KT) R)),[.t 2],7⟩
def KU:List aa:=[
 mc 4 (i 0)]
def KV:List aa:=[
 mc 5 (i 0)]
def KW:List aa:=[
 mc 6 (i 0)]
def KX:List aa:=[
 m 8 6,
 m 9 0,
 n 10 4 9,
 b 11 .lss (t 8) (t 10)]
def KY:List aa:=[
 m 14 5,
 m 15 0,
 m 16 6,
 is 17 4 15 (t 16),
 f 18 2 17,
 l 19 18,
 b 20 .add (t 14) (t 19),
 m 5 20]
def KZ:List aa:=[
 m 12 6,
 b 13 .add (t 12) (i 1),
 m 6 13]
def K0:IC:=(q (q (o KX) (k 11 K (ex 0))) (q (bl 1 (o KY)) (o KZ)))
def K1:List aa:=[
 m 21 0,
 n 22 4 21,
 b 23 .eql (t 22) (i 0),
 m 24 23,
 g 24 false (m 25 5),
 g 24 false (b 26 .gtr (t 25) (i 128)),
 op 27 (.pick (t 24) (v (.bool true)) (t 26))]
def K2:List aa:=[
 mc 4 (i 161)]
def K3:List aa:=[
 mc 7 (i 0)]
def C9:List aa:=[
 m 28 7,
 m 29 0,
 n 30 4 29,
 b 31 .lss (t 28) (t 30)]
def Da:List aa:=[
 m 34 0,
 m 35 7,
 is 36 4 34 (t 35),
 f 37 3 36,
 l 38 37,
 m 39 1,
 op 40 (.eq false 1 (t 38) (t 39))]
def Db:List aa:=[
 mc 4 (i 164)]
def Dc:List aa:=[
 m 32 7,
 b 33 .add (t 32) (i 1),
 m 7 33]
def Dd:IC:=(q (q (o C9) (k 31 K (ex 2))) (q (bl 3 (q (o Da) (k 40 (q (o Db) R) K))) (o Dc)))
def De:List aa:=[
 mc 4 (i 0)]
def f160:IFn:=⟨(q (o KU) (q (o KV) (q (q (o KW) (bl 0 (lp K0))) (q (q (o K1) (k 27 (q (o K2) R) K)) (q (q (o K3) (bl 2 (lp Dd))) (q (o De) R)))))),[.t 4],41⟩
def K4:List aa:=[
 x 4 26 0,
 nw 8 170 [I,U,U,U,U,U,U,U,U,I,I,I,I,I,U,I]]
def K5:List aa:=[
 m 9 2]
def K6:List aa:=[
 b 13 .eql (t 9) (i 0),
 m 12 13]
def K7:List aa:=[
 m 14 1,
 m 15 3,
 b 16 .rem (t 15) (i 32),
 cv 17 .u32 16,
 f 18 5 4,
 ia 19 4 1 18 (t 14),
 s 19 17]
def K8:List aa:=[
 b 21 .eql (t 9) (i 2),
 m 20 21]
def K9:List aa:=[
 m 22 3,
 b 23 .lss (t 22) (i 5),
 m 24 23,
 g 24 true (m 25 1),
 g 24 true (f 26 1 4),
 g 24 true (ia 27 4 1 26 (t 25)),
 g 24 true (l 28 27),
 g 24 true (m 29 3),
 g 24 true (c 30 115 [(t 28),(t 29)]),
 op 31 (.pick (t 24) (t 30) (v B))]
def La:List aa:=[
 m 32 1,
 m 33 1,
 f 34 1 4,
 ia 35 4 1 34 (t 33),
 l 36 35,
 m 37 3,
 c 38 116 [(t 37)],
 b 39 .sub (t 36) (t 38),
 f 40 1 4,
 ia 41 4 1 40 (t 32),
 s 41 39]
def Lb:List aa:=[
 b 43 .eql (t 9) (i 3),
 m 42 43]
def Lc:List aa:=[
 m 44 3,
 f 45 0 4,
 l 46 45,
 b 47 .lss (t 44) (t 46)]
def Ld:List aa:=[
 la 48 14 4,
 m 49 3,
 c 50 63 [(t 48),(i 4),(t 49)],
 sn 14 4 50]
def Df:List aa:=[
 b 52 .eql (t 9) (i 4),
 m 51 52]
def Dg:List aa:=[
 m 53 3,
 b 54 .quo (t 53) (i 16),
 c 55 107 [(t 54)],
 m 56 55,
 g 56 true (m 57 3),
 g 56 true (b 58 .rem (t 57) (i 16)),
 g 56 true (f 59 0 4),
 g 56 true (l 60 59),
 g 56 true (b 61 .lss (t 58) (t 60)),
 op 62 (.pick (t 56) (t 61) (v B))]
def Dh:List aa:=[
 m 63 3,
 b 64 .quo (t 63) (i 16),
 m 65 3,
 b 66 .rem (t 65) (i 16),
 f 67 9 4,
 ia 68 5 1 67 (t 64),
 s 68 66]
def Di:List aa:=[
 la 10 14 4,
 bd 11 [I,U,U,U,U,U,U,U,U,I,I,I,I,I,U,I] [(0,14,(t 10)),(15,1,(i 5))],
 sn 16 8 11]
def Dj:List aa:=[
 la 69 14 4,
 bd 70 [I,U,U,U,U,U,U,U,U,I,I,I,I,I,U,I] [(0,14,(t 69))],
 sn 16 8 70]
def f161:IFn:=⟨(q (o K4) (q (q (o K5) (bl 0 (q (o K6) (k 12 (o K7) (q (o K8) (k 20 (q (o K9) (k 31 (od La) K)) (q (o Lb) (k 42 (q (o Lc) (k 47 (o Ld) K)) (q (o Df) (k 51 (q (o Dg) (k 62 (o Dh) K)) (q (o Di) R))))))))))) (q (o Dj) R))),[.cell 8 16 true],71⟩
def Le:List aa:=[
 op 2 (.boxp (t 0)),
 nw 4 136 [I,B,B,B,B,I,I,I,I,I,I,I,I,U,B,I]]
def Lf:List aa:=[
 m 7 1,
 c 8 127 [(t 7)],
 m 5 8]
def Lg:List aa:=[
 m 9 5,
 op 10 (.un .not (t 9))]
def Lh:List aa:=[
 la 11 13 2,
 bd 12 [I,B,B,B,B,I,I,I,I,I,I,I,I,U,B,I] [(0,13,(t 11)),(15,1,(i 1))],
 sn 16 4 12]
def Li:List aa:=[
 m 13 1,
 f 14 1 2,
 ia 15 4 1 14 (t 13),
 l 16 15,
 op 17 (.un .not (t 16))]
def Lj:List aa:=[
 la 18 13 2,
 bd 19 [I,B,B,B,B,I,I,I,I,I,I,I,I,U,B,I] [(0,13,(t 18)),(15,1,(i 4))],
 sn 16 4 19]
def Lk:List aa:=[
 la 20 13 2,
 nw 6 30 [I,B,B,B,B,I,I,I,I,I,I,I,I],
 sn 13 6 20]
def Ll:List aa:=[
 m 21 1,
 f 22 1 6,
 ia 23 4 1 22 (t 21),
 op0 (.store 1 (t 23) (v B))]
def Lm:List aa:=[
 m 24 1,
 f 25 5 6,
 ia 26 4 1 25 (t 24),
 op0 (.store 1 (t 26) (i 0))]
def Ln:List aa:=[
 la 27 13 6,
 m 28 1,
 f 29 5 2,
 ia 30 4 1 29 (t 28),
 l 31 30,
 cv 32 .u32 31,
 bd 33 [I,B,B,B,B,I,I,I,I,I,I,I,I,U,B,I] [(0,13,(t 27)),(13,1,(t 32))],
 sn 16 4 33]
def f162:IFn:=⟨(q (o Le) (q (o Lf) (q (q (o Lg) (k 10 (q (o Lh) R) K)) (q (q (o Li) (k 17 (q (o Lj) R) K)) (q (o Lk) (q (o Ll) (q (o Lm) (q (od Ln) R)))))))),[.cell 4 16 true],34⟩
def Lo:List aa:=[
 op 4 (.boxp (t 0)),
 nw 8 136 [I,B,B,B,B,I,I,I,I,I,I,I,I,U,B,I]]
def Lp:List aa:=[
 m 11 1,
 c 12 127 [(t 11)],
 m 9 12]
def Lq:List aa:=[
 m 13 9,
 op 14 (.un .not (t 13)),
 m 15 14,
 g 15 false (m 16 2),
 g 15 false (b 17 .lss (t 16) (i 0)),
 op 18 (.pick (t 15) (v (.bool true)) (t 17)),
 m 19 18,
 g 19 false (m 20 2),
 g 19 false (b 21 .gtr (t 20) (i 1099511627776)),
 op 22 (.pick (t 19) (v (.bool true)) (t 21))]
def Lr:List aa:=[
 la 23 13 4,
 bd 24 [I,B,B,B,B,I,I,I,I,I,I,I,I,U,B,I] [(0,13,(t 23)),(15,1,(i 1))],
 sn 16 8 24]
def Ls:List aa:=[
 la 25 13 4,
 nw 10 30 [I,B,B,B,B,I,I,I,I,I,I,I,I],
 sn 13 10 25]
def Lt:List aa:=[
 m 26 1,
 m 27 2,
 m 28 3,
 cv 29 .i64 28,
 b 30 .add (t 27) (t 29),
 f 31 9 10,
 ia 32 4 1 31 (t 26),
 s 32 30]
def Lu:List aa:=[
 m 33 1,
 f 34 9 10,
 ia 35 4 1 34 (t 33),
 l 36 35,
 b 37 .gtr (t 36) (i 1099511627776)]
def Lv:List aa:=[
 m 38 1,
 f 39 9 10,
 ia 40 4 1 39 (t 38),
 op0 (.store 1 (t 40) (i 1099511627776))]
def Lw:List aa:=[
 m 41 3,
 b 42 .eql (t 41) (w 0)]
def Lx:List aa:=[
 m 43 1,
 f 44 9 10,
 ia 45 4 1 44 (t 43),
 op0 (.store 1 (t 45) (i 0))]
def Dk:List aa:=[
 la 46 13 10,
 bd 47 [I,B,B,B,B,I,I,I,I,I,I,I,I,U,B,I] [(0,13,(t 46))],
 sn 16 8 47]
def f163:IFn:=⟨(q (o Lo) (q (o Lp) (q (q (o Lq) (k 22 (q (o Lr) R) K)) (q (o Ls) (q (o Lt) (q (q (o Lu) (k 37 (o Lv) K)) (q (q (o Lw) (k 42 (o Lx) K)) (q (o Dk) R)))))))),[.cell 8 16 true],48⟩
def Ly:List aa:=[
 x 3 124 0,
 nw 6 124 [U,U,I,I,N,N,N,U,N,B,B]]
def Lz:List aa:=[
 m 10 2,
 is 11 4 10 (i 0),
 f 12 2 11,
 l 13 12,
 b 14 .neq (t 13) (i 8),
 m 15 14,
 g 15 false (m 16 2),
 g 15 false (is 17 4 16 (i 0)),
 g 15 false (f 18 3 17),
 g 15 false (l 19 18),
 op 20 (.pick (t 15) (v (.bool true)) (t 19))]
def LC:List aa:=[
 la 21 11 3,
 m 22 1,
 c 23 189 [(t 21),(t 22),(i 161)],
 sn 11 6 23]
def LD:List aa:=[
 f 24 6 3,
 f 25 0 24,
 la 26 1 25,
 m 27 2,
 is 28 4 27 (i 0),
 f 29 1 28,
 l 30 29,
 c 31 190 [(t 26),(t 30)],
 m 7 31]
def LF:List aa:=[
 f 32 6 3,
 f 33 0 32,
 la 34 1 33,
 m 35 2,
 is 36 4 35 (i 0),
 f 37 1 36,
 l 38 37,
 b 39 .add (t 38) (i 4),
 c 40 190 [(t 34),(t 39)],
 m 8 40]
def LG:List aa:=[
 m 41 7,
 f 42 0 3,
 f 43 4 42,
 l 44 43,
 n 45 128 44,
 b 46 .geq (t 41) (t 45),
 m 47 46,
 g 47 false (m 48 8),
 g 47 false (b 49 .neq (t 48) (i 1)),
 g 47 false (m 50 49),
 g 50 true (m 51 8),
 g 50 true (b 52 .neq (t 51) (i 2)),
 g 47 false (op 53 (.pick (t 50) (t 52) (v B))),
 op 54 (.pick (t 47) (v (.bool true)) (t 53))]
def LH:List aa:=[
 la 55 11 3,
 m 56 1,
 c 57 189 [(t 55),(t 56),(i 161)],
 sn 11 6 57]
def LI:List aa:=[
 m 58 2,
 op 59 (.slL 4 (t 58) (some (i 1)) none none),
 m 60 8,
 b 61 .eql (t 60) (i 2),
 c 62 160 [(t 59),(t 61)],
 m 9 62]
def LJ:List aa:=[
 m 63 9,
 b 64 .neq (t 63) (i 0)]
def LK:List aa:=[
 la 65 11 3,
 m 66 1,
 m 67 9,
 c 68 189 [(t 65),(t 66),(t 67)],
 sn 11 6 68]
def Dl:List aa:=[
 bs 69 5 [] [],
 f 70 0 3,
 f 71 5 70,
 l 72 71,
 ap 73 5 48 69 72,
 f 74 0 3,
 f 75 0 74,
 la 76 2 75,
 m 77 7,
 m 78 8,
 b 79 .eql (t 78) (i 2),
 m 80 2,
 bd 81 [U,U,I,B,N] [(0,2,(t 76)),(2,1,(t 77)),(3,1,(t 79)),(4,1,(t 80))],
 bs 82 5 [U,U,I,B,N] [(0,5,(t 81))],
 ap 83 5 48 73 82,
 f 84 0 3,
 f 85 5 84,
 s 85 83]
def Dm:List aa:=[
 la 86 11 3,
 sn 11 6 86]
def f164:IFn:=⟨(q (o Ly) (q (q (o Lz) (k 20 (q (o LC) R) K)) (q (od LD) (q (od LF) (q (q (o LG) (k 54 (q (o LH) R) K)) (q (o LI) (q (q (o LJ) (k 64 (q (o LK) R) K)) (q (od Dl) (q (o Dm) R))))))))),[.cell 6 11 true],87⟩
def LL:List aa:=[
 l 11 1,
 op 12 (.nchk (t 11)),
 f 13 0 12,
 f 14 0 13,
 la 15 1 14,
 la 16 2 2,
 c 17 156 [(t 15),(t 16)],
 m 5 17]
def LM:List aa:=[
 m 18 5,
 b 19 .neq (t 18) (i 0)]
def LN:List aa:=[
 l 20 1,
 m 21 5,
 op 22 (.calls 166 [(t 20),(t 21)])]
def LO:List aa:=[
 f 23 1 2,
 l 24 23,
 mc 25 (w 0)]
def LP:List aa:=[
 b 26 .lss (t 25) (t 24)]
def LQ:List aa:=[
 l 28 1,
 op 29 (.nchk (t 28)),
 f 30 0 29,
 f 31 0 30,
 la 32 1 31,
 la 33 2 2,
 l 34 3,
 op 35 (.nchk (t 34)),
 l 36 35,
 c 37 167 [(t 32),(t 33),(t 36)],
 m 27 37,
 e 38 27 0,
 e 39 27 1,
 m 6 38,
 m 7 39]
def LR:List aa:=[
 m 40 7,
 op 41 (.un .not (t 40))]
def LU:List aa:=[
 l 42 1,
 op 43 (.nchk (t 42)),
 f 44 0 43,
 f 45 3 44,
 op0 (.store 1 (t 45) (v (.bool true)))]
def LV:List aa:=[
 l 46 3,
 m 47 6,
 b 48 .add (t 47) (i 1),
 f 49 1 2,
 l 50 49,
 cv 51 .i64 50,
 b 52 .rem (t 48) (t 51),
 op 53 (.nchk (t 46)),
 s 53 52]
def LW:List aa:=[
 l 55 1,
 op 56 (.nchk (t 55)),
 f 57 0 56,
 f 58 0 57,
 la 59 1 58,
 la 60 2 2,
 m 61 6,
 c 62 168 [(t 59),(t 60),(t 61)],
 m 54 62,
 e 63 54 0,
 e 64 54 1,
 e 65 54 2,
 nw 8 44 [N],
 s 8 63,
 m 9 64,
 m 10 65]
def Dp:List aa:=[
 l 66 1,
 la 67 1 8,
 op 68 (.nchk (t 66)),
 f 69 0 68,
 f 70 0 69,
 s 70 67]
def Dq:List aa:=[
 m 71 10,
 b 72 .neq (t 71) (i 0)]
def Dr:List aa:=[
 l 73 1,
 m 74 10,
 op 75 (.calls 166 [(t 73),(t 74)])]
def Ds:List aa:=[
 m 76 0,
 m 77 6,
 m 78 9,
 m 79 10,
 bd 80 [I,N,I] [(0,1,(t 77)),(1,1,(t 78)),(2,1,(t 79))],
 op 81 (.callv (t 76) [(t 80)]),
 op 82 (.un .not (t 81))]
def Dt:List aa:=[
 b 83 .add (t 25) (w 1),
 m 25 83]
def Du:IC:=(q (o LP) (q (k 26 K (ex 0)) (q (bl 1 (q (od LQ) (q (q (o LR) (k 41 R K)) (q (o LU) (q (od LV) (q (od LW) (q (o Dp) (q (q (o Dq) (k 72 (o Dr) K)) (q (o Ds) (k 82 R K)))))))))) (o Dt))))
def f165:IFn:=⟨(q (q (od LL) (q (o LM) (k 19 (q (o LN) R) K))) (q (o LO) (bl 0 (lp Du)))),[],84⟩
def LX:List aa:=[
 m 4 0,
 m 5 1,
 op 6 (.nchk (t 4)),
 f 7 5 6,
 f 8 6 7,
 s 8 5]
def f166:IFn:=⟨(o LX),[],9⟩
def LY:List aa:=[
 x 3 44 0,
 x 4 34 1,
 mc 6 (i 0),
 mc 7 (v B)]
def LZ:List aa:=[
 f 10 1 4,
 l 11 10,
 cv 12 .i64 11,
 mc 13 (i 0)]
def L0:List aa:=[
 b 14 .lss (t 13) (t 12)]
def L1:List aa:=[
 m 15 13,
 m 8 15]
def L2:List aa:=[
 m 16 2,
 m 17 8,
 b 18 .add (t 16) (t 17),
 f 19 1 4,
 l 20 19,
 cv 21 .i64 20,
 b 22 .rem (t 18) (t 21),
 m 9 22]
def L3:List aa:=[
 la 23 1 3,
 la 24 2 4,
 m 25 9,
 c 26 191 [(t 23),(t 24),(t 25)],
 fd 27 5 1 false 26,
 b 28 .eql (t 27) (w 1)]
def L4:List aa:=[
 m 29 9,
 m 6 29,
 mc 7 (v (.bool true))]
def L5:List aa:=[
 b 30 .add (t 13) (i 1),
 m 13 30]
def L6:IC:=(q (o L0) (q (k 14 K (ex 0)) (q (bl 1 (q (o L1) (q (o L2) (q (o L3) (k 28 (q (o L4) R) K))))) (o L5))))
def L7:List aa:=[
 mc 6 (i 0),
 mc 7 (v B)]
def f167:IFn:=⟨(q (o LY) (q (q (o LZ) (bl 0 (lp L6))) (q (o L7) R))),[.t 6,.t 7],31⟩
def L8:List aa:=[
 x 3 44 0,
 x 4 34 1,
 nw 6 44 [N],
 mc 7 (v N),
 mc 8 (i 0)]
def L9:List aa:=[
 mc 9 (v N)]
def Ma:List aa:=[
 op 17 (.mks false 1 8 [I] (i 0) (i 4)),
 m 10 17]
def Mb:List aa:=[
 m 18 2,
 mc 11 (v B),
 m 12 18,
 mc 13 (i 0)]
def Mc:List aa:=[
 la 19 1 3,
 la 20 2 4,
 m 21 12,
 c 22 191 [(t 19),(t 20),(t 21)],
 nw 14 312 [I,I,I,B,U,U],
 sn 6 14 22]
def Md:List aa:=[
 m 23 10,
 n 24 1 23,
 mc 25 (i 0)]
def Me:List aa:=[
 b 26 .lss (t 25) (t 24)]
def Mf:List aa:=[
 is 27 1 23 (t 25),
 l 28 27,
 m 16 28]
def Mg:List aa:=[
 m 29 16,
 m 30 12,
 b 31 .eql (t 29) (t 30)]
def Mh:List aa:=[
 mc 13 (i 163)]
def Dv:List aa:=[
 b 32 .add (t 25) (i 1),
 m 25 32]
def Dw:IC:=(q (o Me) (q (k 26 K (ex 2)) (q (bl 3 (q (o Mf) (q (o Mg) (k 31 (q (o Mh) (ex 0)) K)))) (o Dv))))
def Dx:List aa:=[
 m 34 10,
 n 35 1 34,
 b 36 .eql (t 35) (i 4),
 m 33 36]
def Dy:List aa:=[
 mc 13 (i 163)]
def Dz:List aa:=[
 f 38 5 14,
 l 39 38,
 b 40 .neq (t 39) (w 1),
 m 37 40]
def DA:List aa:=[
 mc 13 (i 165)]
def DB:List aa:=[
 f 42 0 14,
 f 43 2 42,
 l 44 43,
 b 45 .lss (t 44) (i 1),
 m 46 45,
 g 46 false (f 47 0 14),
 g 46 false (f 48 2 47),
 g 46 false (l 49 48),
 g 46 false (b 50 .gtr (t 49) (i 512)),
 op 51 (.pick (t 46) (v (.bool true)) (t 50)),
 m 52 51,
 g 52 false (f 53 0 14),
 g 52 false (f 54 1 53),
 g 52 false (l 55 54),
 g 52 false (f 56 0 14),
 g 52 false (f 57 2 56),
 g 52 false (l 58 57),
 g 52 false (b 59 .add (t 55) (t 58)),
 g 52 false (la 60 1 3),
 g 52 false (c 61 157 [(t 60)]),
 g 52 false (b 62 .gtr (t 59) (t 61)),
 op 63 (.pick (t 52) (v (.bool true)) (t 62)),
 m 41 63]
def DC:List aa:=[
 mc 13 (i 161)]
def DD:List aa:=[
 la 65 6 14,
 c 66 192 [(t 65)],
 op 67 (.un .not (t 66)),
 m 68 67,
 g 68 false (m 69 11),
 g 68 false (m 70 69),
 g 70 true (f 71 0 14),
 g 70 true (f 72 3 71),
 g 70 true (l 73 72),
 g 70 true (op 74 (.un .not (t 73))),
 g 68 false (op 75 (.pick (t 70) (t 74) (v B))),
 op 76 (.pick (t 68) (v (.bool true)) (t 75)),
 m 64 76]
def DE:List aa:=[
 mc 13 (i 164)]
def DF:List aa:=[
 la 78 6 14,
 c 79 193 [(t 78)],
 m 80 79,
 g 80 true (la 81 6 14),
 g 80 true (c 82 194 [(t 81)]),
 g 80 true (f 83 1 4),
 g 80 true (l 84 83),
 g 80 true (cv 85 .i64 84),
 g 80 true (b 86 .geq (t 82) (t 85)),
 op 87 (.pick (t 80) (t 86) (v B)),
 m 77 87]
def DG:List aa:=[
 mc 13 (i 162)]
def DH:List aa:=[
 m 88 13,
 b 89 .neq (t 88) (i 0)]
def DJ:List aa:=[
 m 90 10,
 m 91 12,
 bs 92 1 [I] [(0,1,(t 91))],
 ap 93 1 8 90 92,
 m 94 9,
 f 95 0 14,
 la 96 4 95,
 bs 97 4 [I,I,I,B] [(0,4,(t 96))],
 ap 98 4 32 94 97,
 m 99 11,
 m 100 99,
 g 100 false (f 101 0 14),
 g 100 false (f 102 3 101),
 g 100 false (l 103 102),
 op 104 (.pick (t 100) (v (.bool true)) (t 103)),
 m 10 93,
 m 9 98,
 m 11 104]
def DK:List aa:=[
 la 105 6 14,
 c 106 193 [(t 105)],
 op 107 (.un .not (t 106))]
def DL:List aa:=[
 la 108 1 3,
 la 109 2 4,
 m 110 10,
 c 111 176 [(t 108),(t 109),(i 2),(t 110)],
 m 112 9,
 s 6 111,
 m 7 112,
 mc 8 (i 0)]
def DM:List aa:=[
 la 113 6 14,
 c 114 194 [(t 113)],
 m 12 114]
def tX:IC:=(bl 1 (q (o Mc) (q (q (o Md) (bl 2 (lp Dw))) (q (bl 4 (q (o Dx) (k 33 (o Dy) (q (o Dz) (k 37 (o DA) (q (od DB) (k 41 (o DC) (q (o DD) (k 64 (o DE) (q (od DF) (k 77 (o DG) K))))))))))) (q (q (o DH) (k 89 (ex 0) K)) (q (od DJ) (q (q (o DK) (k 107 (q (o DL) R) K)) (o DM))))))))
def DN:List aa:=[
 la 115 1 3,
 la 116 2 4,
 m 117 2,
 c 118 191 [(t 115),(t 116),(t 117)],
 fd 119 5 1 false 118,
 b 120 .eql (t 119) (w 1)]
def DO:List aa:=[
 la 121 1 3,
 la 122 2 4,
 m 123 2,
 m 124 13,
 c 125 195 [(t 121),(t 122),(t 123),(t 124)],
 s 3 125]
def DP:List aa:=[
 la 126 1 3,
 m 127 13,
 s 6 126,
 mc 7 (v N),
 m 8 127]
def f168:IFn:=⟨(q (o L8) (q (o L9) (q (o Ma) (q (o Mb) (q K (q (bl 0 (lp tX)) (q (q (o DN) (k 120 (o DO) K)) (q (o DP) R)))))))),[.cell 6 1 true,.t 7,.t 8],128⟩
def Mi:List aa:=[
 mc 8 (i 0)]
def Mj:List aa:=[
 mc 9 (i 0)]
def Mk:List aa:=[
 m 12 0,
 n 13 4 12,
 mc 14 (i 0)]
def Ml:List aa:=[
 b 15 .lss (t 14) (t 13)]
def Mm:List aa:=[
 is 16 4 12 (t 14),
 la 17 4 16,
 nw 11 259 [I,I,I,B],
 sn 4 11 17]
def Mn:List aa:=[
 f 18 3 11,
 l 19 18,
 m 20 1,
 op 21 (.eq true 1 (t 19) (t 20))]
def Mo:List aa:=[
 mc 8 (i 164)]
def Mp:List aa:=[
 m 22 9,
 f 23 2 11,
 l 24 23,
 b 25 .add (t 22) (t 24),
 m 9 25]
def Mq:List aa:=[
 b 26 .add (t 14) (i 1),
 m 14 26]
def Mr:IC:=(q (o Ml) (q (k 15 K (ex 0)) (q (bl 1 (q (o Mm) (q (q (o Mn) (k 21 (q (o Mo) R) K)) (o Mp)))) (o Mq))))
def DQ:List aa:=[
 m 27 9,
 m 28 2,
 b 29 .lss (t 27) (t 28),
 m 30 29,
 g 30 false (m 31 9),
 g 30 false (m 32 3),
 g 30 false (b 33 .gtr (t 31) (t 32)),
 op 34 (.pick (t 30) (v (.bool true)) (t 33))]
def DR:List aa:=[
 mc 8 (i 161)]
def DS:List aa:=[
 mc 8 (i 0)]
def f169:IFn:=⟨(q (o Mi) (q (o Mj) (q (q (o Mk) (bl 0 (lp Mr))) (q (q (o DQ) (k 34 (q (o DR) R) K)) (q (o DS) R))))),[.t 8],35⟩
def Ms:List aa:=[
 x 5 34 1]
def Mt:List aa:=[
 m 8 0,
 m 9 0,
 op 10 (.nchk (t 9)),
 f 11 0 10,
 f 12 0 11,
 la 13 1 12,
 la 14 2 5,
 m 15 2,
 m 16 3,
 c 17 195 [(t 13),(t 14),(t 15),(t 16)],
 op 18 (.nchk (t 8)),
 f 19 0 18,
 f 20 0 19,
 s 20 17]
def Mu:List aa:=[
 m 21 0,
 m 22 3,
 op 23 (.calls 166 [(t 21),(t 22)])]
def f170:IFn:=⟨(q (o Ms) (q (od Mt) (o Mu))),[],24⟩
def Mv:List aa:=[
 x 2 44 0,
 x 3 243 1,
 nw 4 44 [N],
 mc 5 (v B)]
def Mw:List aa:=[
 la 6 1 2,
 la 7 3 3,
 bs 8 3 [I,I,U] [(0,3,(t 7))],
 c 9 196 [(t 6),(t 8)],
 e 10 9 0,
 e 11 9 1,
 s 4 10,
 m 5 11]
def f171:IFn:=⟨(q (o Mv) (q (o Mw) R)),[.cell 4 1 true,.t 5],12⟩
def Mx:List aa:=[
 x 3 44 0,
 mc 6 (v E),
 mc 7 (v B)]
def My:List aa:=[
 m 12 1,
 b 13 .lss (t 12) (i 0),
 m 14 13,
 g 14 false (m 15 2),
 g 14 false (b 16 .lss (t 15) (i 0)),
 op 17 (.pick (t 14) (v (.bool true)) (t 16)),
 m 18 17,
 g 18 false (m 19 1),
 g 18 false (la 20 1 3),
 g 18 false (c 21 157 [(t 20)]),
 g 18 false (b 22 .gtr (t 19) (t 21)),
 op 23 (.pick (t 18) (v (.bool true)) (t 22)),
 m 24 23,
 g 24 false (m 25 2),
 g 24 false (la 26 1 3),
 g 24 false (c 27 157 [(t 26)]),
 g 24 false (m 28 1),
 g 24 false (b 29 .sub (t 27) (t 28)),
 g 24 false (b 30 .gtr (t 25) (t 29)),
 op 31 (.pick (t 24) (v (.bool true)) (t 30))]
def Mz:List aa:=[
 mc 6 (v E),
 mc 7 (v B)]
def MA:List aa:=[
 m 32 2,
 op 33 (.mks false 1 1 [Y] (i 0) (t 32)),
 m 8 33]
def MB:List aa:=[
 m 34 8,
 n 35 1 34,
 m 36 2,
 b 37 .lss (t 35) (t 36)]
def MC:List aa:=[
 m 38 1,
 m 39 8,
 n 40 1 39,
 b 41 .add (t 38) (t 40),
 m 9 41]
def MD:List aa:=[
 f 42 0 3,
 l 43 42,
 m 44 9,
 b 45 .quo (t 44) (i 128),
 is 46 128 43 (t 45),
 la 47 128 46,
 nw 10 220 (List.replicate 128 Y),
 sn 128 10 47]
def ME:List aa:=[
 m 48 9,
 b 49 .rem (t 48) (i 128),
 op 50 (.slA 128 1 (t 10) (some (t 49)) none none),
 m 11 50]
def MF:List aa:=[
 m 51 8,
 m 52 11,
 m 53 11,
 n 54 1 53,
 m 55 2,
 m 56 8,
 n 57 1 56,
 b 58 .sub (t 55) (t 57),
 op 59 (.mn false [(t 54),(t 58)]),
 op 60 (.slL 1 (t 52) none (some (t 59)) none),
 ap 61 1 1 51 60,
 m 8 61]
def MG:IC:=(q (q (o MB) (k 37 K (ex 0))) (bl 1 (q (o MC) (q (o MD) (q (o ME) (o MF))))))
def DT:List aa:=[
 m 62 8,
 op 63 (.b2s (t 62)),
 m 6 63,
 mc 7 (v (.bool true))]
def f172:IFn:=⟨(q (o Mx) (q (q (o My) (k 31 (q (o Mz) R) K)) (q (o MA) (q (bl 0 (lp MG)) (q (o DT) R))))),[.t 6,.t 7],64⟩
def MH:List aa:=[
 x 4 44 0,
 x 5 34 1,
 nw 8 44 [N]]
def MI:List aa:=[
 m 11 3,
 n 12 1 11,
 mc 13 (i 0)]
def MJ:List aa:=[
 b 14 .lss (t 13) (t 12)]
def MK:List aa:=[
 is 15 1 11 (t 13),
 l 16 15,
 m 10 16]
def ML:List aa:=[
 la 18 1 4,
 la 19 2 5,
 m 20 10,
 c 21 200 [(t 19),(t 20),(i 3)],
 m 22 2,
 cv 23 .u32 22,
 bd 24 [I,I,U] [(0,1,(t 21)),(1,1,(i 4)),(2,1,(t 23))],
 c 25 171 [(t 18),(t 24)],
 m 17 25,
 e 26 17 0,
 e 27 17 1,
 s 4 26]
def MM:List aa:=[
 b 28 .add (t 13) (i 1),
 m 13 28]
def MN:IC:=(q (o MJ) (q (k 14 K (ex 0)) (q (bl 1 (q (o MK) (od ML))) (o MM))))
def MO:List aa:=[
 la 29 1 4,
 s 8 29]
def f176:IFn:=⟨(q (o MH) (q (q (o MI) (bl 0 (lp MN))) (q (o MO) R))),[.cell 8 1 true],30⟩
def MP:List aa:=[
 x 4 44 0,
 x 5 34 1,
 mc 8 (i 0)]
def MQ:List aa:=[
 la 9 1 4,
 f 10 0 5,
 l 11 10,
 cv 12 .i64 11,
 m 13 2,
 b 14 .mul (i 16) (t 13),
 b 15 .add (t 12) (t 14),
 m 16 3,
 b 17 .mul (i 4) (t 16),
 b 18 .add (t 15) (t 17),
 c 19 201 [(t 9),(t 18),(i 4)],
 fd 20 0 1 false 19,
 cv 21 .i64 20,
 m 8 21]
def f177:IFn:=⟨(q (o MP) (q (o MQ) R)),[.t 8],22⟩
def MR:List aa:=[
 x 4 44 0,
 x 5 34 1,
 mc 8 (i 0)]
def MS:List aa:=[
 la 14 1 4,
 la 15 2 5,
 m 16 3,
 c 17 177 [(t 14),(t 15),(t 16),(i 0)],
 m 9 17]
def MT:List aa:=[
 la 18 1 4,
 la 19 2 5,
 m 20 3,
 c 21 177 [(t 18),(t 19),(t 20),(i 1)],
 m 10 21]
def MU:List aa:=[
 la 22 1 4,
 la 23 2 5,
 m 24 3,
 c 25 177 [(t 22),(t 23),(t 24),(i 2)],
 m 11 25]
def MV:List aa:=[
 m 26 11,
 b 27 .quo (t 26) (i 256),
 b 28 .rem (t 27) (i 256),
 m 12 28]
def MW:List aa:=[
 m 29 11,
 b 30 .quo (t 29) (i 2),
 b 31 .rem (t 30) (i 2),
 b 32 .eql (t 31) (i 1),
 m 13 32]
def MX:List aa:=[
 m 34 2,
 m 35 3,
 c 36 202 [(t 34),(t 35)],
 m 37 36,
 g 37 false (m 38 2),
 g 37 false (n 39 4 38),
 g 37 false (b 40 .geq (t 39) (i 4)),
 op 41 (.pick (t 37) (v (.bool true)) (t 40)),
 m 33 41]
def MY:List aa:=[
 mc 8 (i 163)]
def MZ:List aa:=[
 la 43 1 4,
 la 44 2 5,
 m 45 3,
 c 46 177 [(t 43),(t 44),(t 45),(i 3)],
 b 47 .neq (t 46) (i 1),
 m 42 47]
def M0:List aa:=[
 mc 8 (i 165)]
def DU:List aa:=[
 m 49 10,
 b 50 .lss (t 49) (i 1),
 m 51 50,
 g 51 false (m 52 10),
 g 51 false (b 53 .gtr (t 52) (i 512)),
 op 54 (.pick (t 51) (v (.bool true)) (t 53)),
 m 55 54,
 g 55 false (m 56 9),
 g 55 false (m 57 10),
 g 55 false (b 58 .add (t 56) (t 57)),
 g 55 false (la 59 1 4),
 g 55 false (c 60 159 [(t 59)]),
 g 55 false (b 61 .gtr (t 58) (t 60)),
 op 62 (.pick (t 55) (v (.bool true)) (t 61)),
 m 48 62]
def DV:List aa:=[
 mc 8 (i 161)]
def DW:List aa:=[
 m 64 11,
 b 65 .quo (t 64) (i 4),
 b 66 .rem (t 65) (i 64),
 b 67 .neq (t 66) (i 0),
 m 68 67,
 g 68 false (m 69 11),
 g 68 false (b 70 .quo (t 69) (i 65536)),
 g 68 false (b 71 .neq (t 70) (i 0)),
 op 72 (.pick (t 68) (v (.bool true)) (t 71)),
 m 73 72,
 g 73 false (m 74 13),
 g 73 false (op 75 (.un .not (t 74))),
 g 73 false (m 76 75),
 g 76 true (m 77 12),
 g 76 true (b 78 .neq (t 77) (i 0)),
 g 73 false (op 79 (.pick (t 76) (t 78) (v B))),
 op 80 (.pick (t 73) (v (.bool true)) (t 79)),
 m 81 80,
 g 81 false (m 82 11),
 g 81 false (b 83 .rem (t 82) (i 2)),
 g 81 false (b 84 .eql (t 83) (i 0)),
 g 81 false (m 85 84),
 g 85 true (m 86 2),
 g 85 true (c 87 203 [(t 86)]),
 g 81 false (op 88 (.pick (t 85) (t 87) (v B))),
 op 89 (.pick (t 81) (v (.bool true)) (t 88)),
 m 63 89]
def DX:List aa:=[
 mc 8 (i 164)]
def DY:List aa:=[
 m 91 13,
 m 92 91,
 g 92 true (m 93 12),
 g 92 true (f 94 1 5),
 g 92 true (l 95 94),
 g 92 true (cv 96 .i64 95),
 g 92 true (b 97 .geq (t 93) (t 96)),
 op 98 (.pick (t 92) (t 97) (v B)),
 m 90 98]
def DZ:List aa:=[
 mc 8 (i 162)]
def D0:List aa:=[
 mc 8 (i 0)]
def f178:IFn:=⟨(q (o MR) (q (o MS) (q (o MT) (q (o MU) (q (o MV) (q (o MW) (q (bl 0 (q (o MX) (k 33 (q (o MY) R) (q (o MZ) (k 42 (q (o M0) R) (q (o DU) (k 48 (q (o DV) R) (q (o DW) (k 63 (q (o DX) R) (q (o DY) (k 90 (q (o DZ) R) K))))))))))) (q (o D0) R)))))))),[.t 8],99⟩
def M1:List aa:=[
 x 4 44 0,
 x 5 34 1,
 nw 8 44 [N]]
def M3:List aa:=[
 la 9 1 4,
 f 10 0 5,
 l 11 10,
 cv 12 .i64 11,
 m 13 2,
 b 14 .mul (i 16) (t 13),
 b 15 .add (t 12) (t 14),
 b 16 .add (t 15) (i 12),
 m 17 3,
 cv 18 .u32 17,
 bd 19 [I,I,U] [(0,1,(t 16)),(1,1,(i 4)),(2,1,(t 18))],
 c 20 136 [(t 9),(t 19)],
 fd 21 0 1 true 20,
 s 8 21]
def f179:IFn:=⟨(q (o M1) (q (o M3) R)),[.cell 8 1 true],22⟩
def M4:List aa:=[
 x 4 44 0,
 x 5 34 1,
 nw 8 44 [N]]
def M5:List aa:=[
 mc 9 (i 0)]
def M6:List aa:=[
 m 10 9,
 m 11 2,
 n 12 4 11,
 b 13 .lss (t 10) (t 12)]
def M7:List aa:=[
 la 16 1 4,
 la 17 2 5,
 m 18 2,
 m 19 9,
 is 20 4 18 (t 19),
 f 21 0 20,
 l 22 21,
 m 23 3,
 c 24 179 [(t 16),(t 17),(t 22),(t 23)],
 s 4 24]
def M8:List aa:=[
 m 14 9,
 b 15 .add (t 14) (i 1),
 m 9 15]
def M9:IC:=(q (q (o M6) (k 13 K (ex 0))) (q (bl 1 (od M7)) (o M8)))
def Na:List aa:=[
 la 25 1 4,
 s 8 25]
def f180:IFn:=⟨(q (o M4) (q (q (o M5) (bl 0 (lp M9))) (q (o Na) R))),[.cell 8 1 true],26⟩
def Nb:List aa:=[
 x 3 44 0,
 mc 6 (v B)]
def Nc:List aa:=[
 m 7 2,
 b 8 .neq (t 7) (i 1),
 m 9 8,
 g 9 true (m 10 2),
 g 9 true (b 11 .neq (t 10) (i 4)),
 op 12 (.pick (t 9) (t 11) (v B))]
def Nd:List aa:=[
 mc 6 (v B)]
def Nf:List aa:=[
 m 13 1,
 b 14 .geq (t 13) (i 0),
 m 15 14,
 g 15 true (m 16 1),
 g 15 true (m 17 2),
 g 15 true (b 18 .rem (t 16) (t 17)),
 g 15 true (b 19 .eql (t 18) (i 0)),
 op 20 (.pick (t 15) (t 19) (v B)),
 m 21 20,
 g 21 true (m 22 1),
 g 21 true (la 23 1 3),
 g 21 true (c 24 159 [(t 23)]),
 g 21 true (m 25 2),
 g 21 true (b 26 .sub (t 24) (t 25)),
 g 21 true (b 27 .leq (t 22) (t 26)),
 op 28 (.pick (t 21) (t 27) (v B)),
 m 6 28]
def f182:IFn:=⟨(q (o Nb) (q (q (o Nc) (k 12 (q (o Nd) R) K)) (q (o Nf) R))),[.t 6],29⟩
def Ng:List aa:=[
 x 1 44 0,
 nw 2 44 [N]]
def Nh:List aa:=[
 bs 3 128 [] [],
 f 4 0 1,
 l 5 4,
 ap 6 128 128 3 5,
 bd 7 [N] [(0,1,(t 6))],
 s 2 7]
def f183:IFn:=⟨(q (o Ng) (q (o Nh) R)),[.cell 2 1 true],8⟩
def Ni:List aa:=[
 x 3 44 0,
 nw 6 302 [E,B]]
def Nj:List aa:=[
 m 9 1,
 b 10 .lss (t 9) (i 0),
 m 11 10,
 g 11 false (m 12 2),
 g 11 false (b 13 .lss (t 12) (i 0)),
 op 14 (.pick (t 11) (v (.bool true)) (t 13)),
 m 15 14,
 g 15 false (m 16 1),
 g 15 false (la 17 1 3),
 g 15 false (c 18 159 [(t 17)]),
 g 15 false (b 19 .gtr (t 16) (t 18)),
 op 20 (.pick (t 15) (v (.bool true)) (t 19)),
 m 21 20,
 g 21 false (m 22 2),
 g 21 false (la 23 1 3),
 g 21 false (c 24 159 [(t 23)]),
 g 21 false (m 25 1),
 g 21 false (b 26 .sub (t 24) (t 25)),
 g 21 false (b 27 .gtr (t 22) (t 26)),
 op 28 (.pick (t 21) (v (.bool true)) (t 27))]
def Nk:List aa:=[
 bd 29 [E,B] [],
 sn 2 6 29]
def Nl:List aa:=[
 mc 7 (v N)]
def Nn:List aa:=[
 mc 8 (i 0)]
def No:List aa:=[
 m 30 8,
 m 31 2,
 b 32 .lss (t 30) (t 31)]
def Np:List aa:=[
 m 35 7,
 la 36 1 3,
 m 37 1,
 m 38 8,
 b 39 .add (t 37) (t 38),
 c 40 204 [(t 36),(t 39)],
 bs 41 1 [Y] [(0,1,(t 40))],
 ap 42 1 1 35 41,
 m 7 42]
def Nq:List aa:=[
 m 33 8,
 b 34 .add (t 33) (i 1),
 m 8 34]
def Nr:IC:=(q (q (o No) (k 32 K (ex 0))) (q (bl 1 (o Np)) (o Nq)))
def Ns:List aa:=[
 m 43 7,
 op 44 (.b2s (t 43)),
 bd 45 [E,B] [(0,1,(t 44)),(1,1,(v (.bool true)))],
 sn 2 6 45]
def f184:IFn:=⟨(q (o Ni) (q (q (o Nj) (k 28 (q (o Nk) R) K)) (q (o Nl) (q (q (o Nn) (bl 0 (lp Nr))) (q (o Ns) R))))),[.cell 6 2 true],46⟩
def Nt:List aa:=[
 x 3 124 0,
 nw 6 124 [U,U,I,I,N,N,N,U,N,B,B]]
def Nu:List aa:=[
 f 7 6 3,
 f 8 0 7,
 la 9 1 8,
 f 10 0 3,
 f 11 0 10,
 la 12 2 11,
 m 13 1,
 m 14 2,
 c 15 133 [(t 9),(t 12),(t 13),(t 14)],
 f 16 6 3,
 f 17 0 16,
 s 17 15]
def Nv:List aa:=[
 m 18 2,
 f 19 0 3,
 f 20 3 19,
 s 20 18]
def Nw:List aa:=[
 f 21 6 3,
 f 22 3 21,
 op0 (.store 1 (t 22) (v (.bool true)))]
def Nx:List aa:=[
 la 23 11 3,
 sn 11 6 23]
def f189:IFn:=⟨(q (o Nt) (q (o Nu) (q (o Nv) (q (o Nw) (q (o Nx) R))))),[.cell 6 11 true],24⟩
def Ny:List aa:=[
 x 2 44 0,
 mc 4 (i 0)]
def Nz:List aa:=[
 la 6 1 2,
 m 7 1,
 c 8 184 [(t 6),(t 7),(i 4)],
 fd 9 0 1 false 8,
 m 5 9]
def NA:List aa:=[
 m 10 5,
 op 11 (.ixS (t 10) (i 0)),
 cv 12 .i64 11,
 m 13 5,
 op 14 (.ixS (t 13) (i 1)),
 cv 15 .i64 14,
 b 16 .mul (i 256) (t 15),
 b 17 .add (t 12) (t 16),
 m 18 5,
 op 19 (.ixS (t 18) (i 2)),
 cv 20 .i64 19,
 b 21 .mul (i 65536) (t 20),
 b 22 .add (t 17) (t 21),
 m 23 5,
 op 24 (.ixS (t 23) (i 3)),
 cv 25 .i64 24,
 b 26 .mul (i 16777216) (t 25),
 b 27 .add (t 22) (t 26),
 m 4 27]
def f190:IFn:=⟨(q (o Ny) (q (o Nz) (q (od NA) R))),[.t 4],28⟩
def NB:List aa:=[
 x 3 44 0,
 x 4 34 1,
 nw 6 312 [I,I,I,B,U,U]]
def NC:List aa:=[
 nw 7 23 [U,U,U,U]]
def ND:List aa:=[
 mc 9 (i 0)]
def NF:List aa:=[
 b 10 .lss (t 9) (i 4)]
def NG:List aa:=[
 m 11 9,
 m 8 11]
def NH:List aa:=[
 m 13 8,
 la 14 1 3,
 la 15 2 4,
 m 16 2,
 m 17 8,
 c 18 200 [(t 15),(t 16),(t 17)],
 c 19 205 [(t 14),(t 18),(i 4)],
 m 12 19,
 e 20 12 0,
 e 21 12 1,
 ia 22 4 1 7 (t 13),
 s 22 20]
def NJ:List aa:=[
 b 23 .add (t 9) (i 1),
 m 9 23]
def NK:IC:=(q (o NF) (q (k 10 K (ex 0)) (q (bl 1 (q (o NG) (od NH))) (o NJ))))
def NL:List aa:=[
 m 24 2,
 ia 25 4 1 7 (i 0),
 l 26 25,
 cv 27 .i64 26,
 ia 28 4 1 7 (i 1),
 l 29 28,
 cv 30 .i64 29,
 ia 31 4 1 7 (i 2),
 l 32 31,
 b 33 .and (t 32) (w 1),
 b 34 .neq (t 33) (w 0),
 bd 35 [I,I,I,B] [(0,1,(t 24)),(1,1,(t 27)),(2,1,(t 30)),(3,1,(t 34))],
 ia 36 4 1 7 (i 2),
 l 37 36,
 ia 38 4 1 7 (i 3),
 l 39 38,
 bd 40 [I,I,I,B,U,U] [(0,4,(t 35)),(4,1,(t 37)),(5,1,(t 39))],
 sn 6 6 40]
def f191:IFn:=⟨(q (o NB) (q (o NC) (q (q (o ND) (bl 0 (lp NK))) (q (o NL) R)))),[.cell 6 6 true],41⟩
def NM:List aa:=[
 x 1 312 0,
 mc 2 (v B)]
def NN:List aa:=[
 f 3 4 1,
 l 4 3,
 b 5 .andNot (t 4) (w 65283),
 b 6 .eql (t 5) (w 0),
 m 7 6,
 g 7 true (la 8 6 1),
 g 7 true (c 9 193 [(t 8)]),
 g 7 true (m 10 9),
 g 10 false (la 11 6 1),
 g 10 false (c 12 194 [(t 11)]),
 g 10 false (b 13 .eql (t 12) (i 0)),
 g 7 true (op 14 (.pick (t 10) (v (.bool true)) (t 13))),
 op 15 (.pick (t 7) (t 14) (v B)),
 m 2 15]
def f192:IFn:=⟨(q (o NM) (q (o NN) R)),[.t 2],16⟩
def NO:List aa:=[
 x 1 312 0,
 mc 2 (v B)]
def NP:List aa:=[
 f 3 4 1,
 l 4 3,
 b 5 .and (t 4) (w 2),
 b 6 .neq (t 5) (w 0),
 m 2 6]
def f193:IFn:=⟨(q (o NO) (q (o NP) R)),[.t 2],7⟩
def NQ:List aa:=[
 x 1 312 0,
 mc 2 (i 0)]
def NT:List aa:=[
 f 3 4 1,
 l 4 3,
 b 5 .shr (t 4) (v (.int .u64 8)),
 b 6 .and (t 5) (w 255),
 cv 7 .i64 6,
 m 2 7]
def f194:IFn:=⟨(q (o NQ) (q (o NT) R)),[.t 2],8⟩
def NU:List aa:=[
 x 4 44 0,
 x 5 34 1,
 nw 8 44 [N]]
def NW:List aa:=[
 m 9 3,
 b 10 .lss (t 9) (i 160),
 m 11 10,
 g 11 false (m 12 3),
 g 11 false (b 13 .gtr (t 12) (i 165)),
 op 14 (.pick (t 11) (v (.bool true)) (t 13))]
def NX:List aa:=[
 la 15 1 4,
 s 8 15]
def NY:List aa:=[
 la 16 1 4,
 la 17 2 5,
 m 18 3,
 b 19 .sub (t 18) (i 160),
 b 20 .add (i 4) (t 19),
 m 21 2,
 bs 22 1 [I] [(0,1,(t 21))],
 c 23 176 [(t 16),(t 17),(t 20),(t 22)],
 s 8 23]
def f195:IFn:=⟨(q (o NU) (q (q (o NW) (k 14 (q (o NX) R) K)) (q (o NY) R))),[.cell 8 1 true],24⟩
def NZ:List aa:=[
 x 2 44 0,
 nw 4 44 [N],
 mc 5 (v B)]
def N0:List aa:=[
 f 10 0 2,
 l 11 10,
 op 12 (.callp 2 198 [(t 11)]),
 bd 13 [N] [(0,1,(t 12))],
 nw 6 320 [N],
 s 6 13]
def N1:List aa:=[
 la 14 1 6,
 op 15 (.mkf 206 [(t 14)] []),
 m 7 15]
def N2:List aa:=[
 m 16 1,
 n 17 3 16,
 mc 18 (i 0)]
def N3:List aa:=[
 b 19 .lss (t 18) (t 17)]
def N4:List aa:=[
 is 20 3 16 (t 18),
 la 21 3 20,
 nw 9 243 [I,I,U],
 sn 3 9 21]
def N5:List aa:=[
 m 22 7,
 la 23 3 9,
 op 24 (.callv (t 22) [(t 23)]),
 op 25 (.un .not (t 24))]
def N6:List aa:=[
 la 26 1 2,
 s 4 26,
 mc 5 (v B)]
def N7:List aa:=[
 b 27 .add (t 18) (i 1),
 m 18 27]
def N8:IC:=(q (o N3) (q (k 19 K (ex 0)) (q (bl 1 (q (o N4) (q (o N5) (k 25 (q (o N6) R) K)))) (o N7))))
def D1:List aa:=[
 f 28 0 6,
 l 29 28,
 bd 30 [N] [(0,1,(t 29))],
 s 4 30,
 mc 5 (v (.bool true))]
def f196:IFn:=⟨(q (o NZ) (q (o N0) (q (o N1) (q (q (o N2) (bl 0 (lp N8))) (q (o D1) R))))),[.cell 4 1 true,.t 5],31⟩
def N9:List aa:=[
 mc 2 (v N)]
def Oa:List aa:=[
 m 3 0,
 op 4 (.eq false 5 (t 3) (v N))]
def Ob:List aa:=[
 mc 2 (v N)]
def Oc:List aa:=[
 bs 5 128 [] [],
 m 6 0,
 ap 7 128 128 5 6,
 m 2 7]
def f198:IFn:=⟨(q (o N9) (q (q (o Oa) (k 4 (q (o Ob) R) K)) (q (o Oc) R))),[.t 2],8⟩
def Od:List aa:=[
 x 3 320 0]
def Oe:List aa:=[
 m 7 2,
 n 8 1 7,
 b 9 .gtr (t 8) (i 0)]
def Of:List aa:=[
 f 10 0 3,
 l 11 10,
 m 12 1,
 b 13 .quo (t 12) (i 128),
 is 14 128 11 (t 13),
 m 15 1,
 b 16 .rem (t 15) (i 128),
 op 17 (.slA 128 1 (t 14) (some (t 16)) none none),
 m 18 2,
 op 19 (.cpy 1 (t 17) (t 18)),
 m 6 19]
def Og:List aa:=[
 m 20 1,
 m 21 6,
 b 22 .add (t 20) (t 21),
 m 23 2,
 m 24 6,
 op 25 (.slL 1 (t 23) (some (t 24)) none none),
 m 1 22,
 m 2 25]
def Oh:IC:=(q (q (o Oe) (k 9 K (ex 0))) (bl 1 (q (o Of) (od Og))))
def f199:IFn:=⟨(q (o Od) (bl 0 (lp Oh))),[],26⟩
def Oi:List aa:=[
 x 3 34 0,
 mc 6 (i 0)]
def Oj:List aa:=[
 f 7 0 3,
 l 8 7,
 cv 9 .i64 8,
 m 10 1,
 b 11 .mul (i 16) (t 10),
 b 12 .add (t 9) (t 11),
 m 13 2,
 b 14 .mul (i 4) (t 13),
 b 15 .add (t 12) (t 14),
 m 6 15]
def f200:IFn:=⟨(q (o Oi) (q (o Oj) R)),[.t 6],16⟩
def Ok:List aa:=[
 x 3 44 0,
 nw 6 324 [U,B]]
def Ol:List aa:=[
 la 10 1 3,
 m 11 1,
 m 12 2,
 c 13 182 [(t 10),(t 11),(t 12)],
 m 7 13]
def Om:List aa:=[
 m 14 7,
 op 15 (.un .not (t 14))]
def On:List aa:=[
 bd 16 [U,B] [],
 sn 2 6 16]
def Oo:List aa:=[
 mc 8 (w 0)]
def Oq:List aa:=[
 m 17 2,
 b 18 .sub (t 17) (i 1),
 m 9 18]
def Ot:List aa:=[
 m 19 9,
 b 20 .geq (t 19) (i 0)]
def Ou:List aa:=[
 m 23 8,
 b 24 .shl (t 23) (v (.int .u64 8)),
 la 25 1 3,
 m 26 1,
 m 27 9,
 b 28 .add (t 26) (t 27),
 c 29 204 [(t 25),(t 28)],
 cv 30 .u32 29,
 b 31 .or (t 24) (t 30),
 m 8 31]
def Ov:List aa:=[
 m 21 9,
 b 22 .sub (t 21) (i 1),
 m 9 22]
def Ow:IC:=(q (q (o Ot) (k 20 K (ex 0))) (q (bl 1 (o Ou)) (o Ov)))
def D2:List aa:=[
 m 32 8,
 bd 33 [U,B] [(0,1,(t 32)),(1,1,(v (.bool true)))],
 sn 2 6 33]
def f201:IFn:=⟨(q (o Ok) (q (o Ol) (q (q (o Om) (k 15 (q (o On) R) K)) (q (o Oo) (q (q (o Oq) (bl 0 (lp Ow))) (q (o D2) R)))))),[.cell 6 2 true],34⟩
def Ox:List aa:=[
 mc 4 (v B)]
def Oy:List aa:=[
 mc 5 (i 0)]
def Oz:List aa:=[
 m 6 5,
 m 7 0,
 n 8 4 7,
 b 9 .lss (t 6) (t 8)]
def OA:List aa:=[
 m 12 0,
 m 13 5,
 is 14 4 12 (t 13),
 f 15 0 14,
 l 16 15,
 m 17 1,
 b 18 .eql (t 16) (t 17)]
def OC:List aa:=[
 mc 4 (v (.bool true))]
def OD:List aa:=[
 m 10 5,
 b 11 .add (t 10) (i 1),
 m 5 11]
def OF:IC:=(q (q (o Oz) (k 9 K (ex 0))) (q (bl 1 (q (o OA) (k 18 (q (o OC) R) K))) (o OD)))
def OG:List aa:=[
 mc 4 (v B)]
def f202:IFn:=⟨(q (o Ox) (q (q (o Oy) (bl 0 (lp OF))) (q (o OG) R))),[.t 4],19⟩
def OH:List aa:=[
 mc 2 (v B)]
def OI:List aa:=[
 mc 3 (i 0)]
def OJ:List aa:=[
 m 4 3,
 m 5 0,
 n 6 4 5,
 b 7 .lss (t 4) (t 6)]
def OK:List aa:=[
 m 10 0,
 m 11 3,
 is 12 4 10 (t 11),
 f 13 3 12,
 l 14 13]
def OL:List aa:=[
 mc 2 (v (.bool true))]
def OM:List aa:=[
 m 8 3,
 b 9 .add (t 8) (i 1),
 m 3 9]
def ON:IC:=(q (q (o OJ) (k 7 K (ex 0))) (q (bl 1 (q (o OK) (k 14 (q (o OL) R) K))) (o OM)))
def OO:List aa:=[
 mc 2 (v B)]
def f203:IFn:=⟨(q (o OH) (q (q (o OI) (bl 0 (lp ON))) (q (o OO) R))),[.t 2],15⟩
def OP:List aa:=[
 x 2 44 0,
 mc 4 (y 0)]
def OQ:List aa:=[
 f 5 0 2,
 l 6 5,
 m 7 1,
 b 8 .quo (t 7) (i 128),
 m 9 1,
 b 10 .rem (t 9) (i 128),
 is 11 128 6 (t 8),
 ia 12 128 1 11 (t 10),
 l 13 12,
 m 4 13]
def f204:IFn:=⟨(q (o OP) (q (o OQ) R)),[.t 4],14⟩
def OR:List aa:=[
 x 3 44 0,
 mc 6 (w 0),
 mc 7 (v B)]
def OS:List aa:=[
 la 9 1 3,
 m 10 1,
 m 11 2,
 c 12 208 [(t 9),(t 10),(t 11)],
 op 13 (.un .not (t 12))]
def OT:List aa:=[
 mc 6 (w 0),
 mc 7 (v B)]
def OU:List aa:=[
 f 14 0 3,
 l 15 14,
 m 16 1,
 b 17 .quo (t 16) (i 128),
 is 18 128 15 (t 17),
 m 19 1,
 b 20 .rem (t 19) (i 128),
 op 21 (.slA 128 1 (t 18) (some (t 20)) none none),
 m 8 21]
def OV:List aa:=[
 m 22 2,
 b 23 .eql (t 22) (i 1)]
def OX:List aa:=[
 m 24 8,
 is 25 1 24 (i 0),
 l 26 25,
 cv 27 .u32 26,
 m 6 27,
 mc 7 (v (.bool true))]
def OY:List aa:=[
 m 28 8,
 is 29 1 28 (i 0),
 l 30 29,
 cv 31 .u32 30,
 m 32 8,
 is 33 1 32 (i 1),
 l 34 33,
 cv 35 .u32 34,
 b 36 .shl (t 35) (v (.int .u64 8)),
 b 37 .or (t 31) (t 36),
 m 38 8,
 is 39 1 38 (i 2),
 l 40 39,
 cv 41 .u32 40,
 b 42 .shl (t 41) (v (.int .u64 16)),
 b 43 .or (t 37) (t 42),
 m 44 8,
 is 45 1 44 (i 3),
 l 46 45,
 cv 47 .u32 46,
 b 48 .shl (t 47) (v (.int .u64 24)),
 b 49 .or (t 43) (t 48),
 m 6 49,
 mc 7 (v (.bool true))]
def f205:IFn:=⟨(q (o OR) (q (q (o OS) (k 13 (q (o OT) R) K)) (q (o OU) (q (q (o OV) (k 23 (q (o OX) R) K)) (q (od OY) R))))),[.t 6,.t 7],50⟩
def OZ:List aa:=[
 x 2 320 0,
 x 3 243 1,
 mc 4 (v B)]
def O0:List aa:=[
 f 6 0 2,
 l 7 6,
 bd 8 [N] [(0,1,(t 7))],
 f 9 0 3,
 l 10 9,
 f 11 1 3,
 l 12 11,
 op 13 (.calln 208 [(t 8),(t 10),(t 12)]),
 op 14 (.un .not (t 13))]
def O1:List aa:=[
 mc 4 (v B)]
def O2:List aa:=[
 f 15 2 3,
 l 16 15,
 m 5 16]
def O3:List aa:=[
 la 17 1 2,
 f 18 0 3,
 l 19 18,
 m 20 5,
 cv 21 .u8 20,
 m 22 5,
 b 23 .shr (t 22) (v (.int .u64 8)),
 cv 24 .u8 23,
 m 25 5,
 b 26 .shr (t 25) (v (.int .u64 16)),
 cv 27 .u8 26,
 m 28 5,
 b 29 .shr (t 28) (v (.int .u64 24)),
 cv 30 .u8 29,
 bs 31 1 [Y,Y,Y,Y] [(0,1,(t 21)),(1,1,(t 24)),(2,1,(t 27)),(3,1,(t 30))],
 f 32 1 3,
 l 33 32,
 op 34 (.slL 1 (t 31) none (some (t 33)) none),
 op 35 (.calls 199 [(t 17),(t 19),(t 34)])]
def O4:List aa:=[
 mc 4 (v (.bool true))]
def f206:IFn:=⟨(q (o OZ) (q (q (o O0) (k 14 (q (o O1) R) K)) (q (o O2) (q (od O3) (q (o O4) R))))),[.t 4],36⟩
def O5:List aa:=[
 x 3 44 0,
 mc 6 (v B)]
def O6:List aa:=[
 m 7 2,
 b 8 .eql (t 7) (i 1),
 m 9 8,
 g 9 false (m 10 2),
 g 9 false (b 11 .eql (t 10) (i 4)),
 op 12 (.pick (t 9) (v (.bool true)) (t 11)),
 m 13 12,
 g 13 true (m 14 1),
 g 13 true (b 15 .geq (t 14) (i 0)),
 op 16 (.pick (t 13) (t 15) (v B)),
 m 17 16,
 g 17 true (m 18 1),
 g 17 true (m 19 2),
 g 17 true (b 20 .rem (t 18) (t 19)),
 g 17 true (b 21 .eql (t 20) (i 0)),
 op 22 (.pick (t 17) (t 21) (v B)),
 m 23 22,
 g 23 true (m 24 1),
 g 23 true (la 25 1 3),
 g 23 true (c 26 157 [(t 25)]),
 g 23 true (m 27 2),
 g 23 true (b 28 .sub (t 26) (t 27)),
 g 23 true (b 29 .leq (t 24) (t 28)),
 op 30 (.pick (t 23) (t 29) (v B)),
 m 6 30]
def f208:IFn:=⟨(q (o O5) (q (o O6) R)),[.t 6],31⟩
def O7:List aa:=[
 op 3 (.boxp (t 0)),
 mc 6 (v N)]
def O8:List aa:=[
 mc 7 (v N)]
def O9:List aa:=[
 m 10 2,
 n 11 1 10,
 mc 12 (i 0)]
def Pa:List aa:=[
 b 13 .lss (t 12) (t 11)]
def Pb:List aa:=[
 is 14 1 10 (t 12),
 l 15 14,
 m 9 15]
def Pc:List aa:=[
 m 16 7,
 m 17 1,
 f 18 44 3,
 l 19 18,
 f 20 45 3,
 l 21 20,
 m 22 9,
 bd 23 [I,I,I,I,E] [(1,1,(t 17)),(2,1,(t 19)),(3,1,(t 21)),(4,1,(t 22))],
 bs 24 5 [I,I,I,I,E] [(0,5,(t 23))],
 ap 25 5 48 16 24,
 m 7 25]
def Pd:List aa:=[
 b 26 .add (t 12) (i 1),
 m 12 26]
def Pe:IC:=(q (o Pa) (q (k 13 K (ex 0)) (q (bl 1 (q (o Pb) (o Pc))) (o Pd))))
def Pf:List aa:=[
 m 27 7,
 m 6 27]
def f224:IFn:=⟨(q (o O7) (q (o O8) (q (q (o O9) (bl 0 (lp Pe))) (q (o Pf) R)))),[.t 6],28⟩
def Pg:List aa:=[
 x 1 110 0,
 nw 2 42 [I,U,U,U,U,U,U,U,U,I,I,I,I,I,I,B,B,B,B,I,I,I,I,I,I,I,I,E,I,U,U,I,I,N,N,U,U,U,U,I,I,I,I],
 nw 3 52 [N,U,N,I]]
def Ph:List aa:=[
 f 8 0 1,
 f 9 0 8,
 f 10 0 9,
 la 11 14 10,
 f 12 0 1,
 f 13 44 12,
 l 14 13,
 f 15 0 1,
 f 16 46 15,
 la 17 3 16,
 c 18 226 [(t 11),(t 14),(t 17)],
 m 7 18,
 e 19 7 0,
 e 20 7 1,
 e 21 7 2,
 nw 4 26 [I,U,U,U,U,U,U,U,U,I,I,I,I,I],
 sn 14 4 19,
 m 5 20,
 m 6 21]
def Pj:List aa:=[
 m 22 6,
 b 23 .neq (t 22) (i 0)]
def Pk:List aa:=[
 f 24 0 1,
 la 25 49 24,
 m 26 6,
 c 27 51 [(t 25),(t 26)],
 e 28 27 0,
 e 29 27 1,
 sn 43 2 28,
 sn 4 3 29]
def Pm:List aa:=[
 la 30 14 4,
 f 31 0 1,
 f 32 0 31,
 f 33 0 32,
 sn 14 33 30]
def Pn:List aa:=[
 f 34 0 1,
 f 35 0 34,
 la 36 43 35,
 f 37 0 1,
 f 38 43 37,
 la 39 1 38,
 m 40 5,
 bd 41 [N,U,N,I] [(0,1,(t 39)),(1,1,(t 40))],
 sn 43 2 36,
 sn 4 3 41]
def f225:IFn:=⟨(q (o Pg) (q (o Ph) (q (q (o Pj) (k 23 (q (o Pk) R) K)) (q (o Pm) (q (.opsX Pn [(38,2)]) R))))),[.cell 2 43 true,.cell 3 4 true],42⟩
def Po:List aa:=[
 x 3 26 0,
 op 5 (.boxp (t 2)),
 nw 6 26 [I,U,U,U,U,U,U,U,U,I,I,I,I,I],
 mc 7 (w 0),
 mc 8 (i 0)]
def Pp:List aa:=[
 la 14 14 3,
 m 15 1,
 bd 16 [I,U,U,U,U,U,U,U,U,I,I,I,I,I,I] [(0,14,(t 14)),(14,1,(t 15))],
 x 17 351 16,
 m 9 17]
def Pq:List aa:=[
 f 18 0 5,
 l 19 18]
def Pr:List aa:=[
 op 21 (.mkm),
 m 22 9,
 op 23 (.mkf 227 [(t 22)] []),
 op0 (.mupd 0 (t 21) (i 0) (t 23)),
 m 24 9,
 op 25 (.mkf 228 [(t 24)] []),
 op0 (.mupd 0 (t 21) (i 1) (t 25)),
 m 26 21,
 f 27 1 5,
 l 28 27,
 op 29 (.mget 0 true .nilfn (t 26) (t 28)),
 m 20 29,
 e 30 20 0,
 e 31 20 1,
 m 10 30,
 m 11 31]
def Ps:List aa:=[
 m 32 11,
 op 33 (.un .not (t 32))]
def Pu:List aa:=[
 la 34 14 3,
 sn 14 6 34,
 mc 7 (w 0),
 mc 8 (i 5)]
def Pv:List aa:=[
 la 35 14 3,
 m 36 10,
 op 37 (.callv (t 36) []),
 sn 14 6 35,
 m 7 37,
 mc 8 (i 0)]
def Pw:List aa:=[
 op 39 (.mkm),
 m 40 9,
 op 41 (.mkf 229 [(t 40)] []),
 op0 (.mupd 0 (t 39) (i 0) (t 41)),
 m 42 9,
 op 43 (.mkf 230 [(t 42)] []),
 op0 (.mupd 0 (t 39) (i 2) (t 43)),
 m 44 9,
 op 45 (.mkf 231 [(t 44)] []),
 op0 (.mupd 0 (t 39) (i 3) (t 45)),
 m 46 9,
 op 47 (.mkf 232 [(t 46)] []),
 op0 (.mupd 0 (t 39) (i 4) (t 47)),
 m 48 39,
 f 49 1 5,
 l 50 49,
 op 51 (.mget 0 true .nilfn (t 48) (t 50)),
 m 38 51,
 e 52 38 0,
 e 53 38 1,
 m 12 52,
 m 13 53]
def Px:List aa:=[
 m 54 13,
 op 55 (.un .not (t 54))]
def Py:List aa:=[
 la 56 14 3,
 sn 14 6 56,
 mc 7 (w 0),
 mc 8 (i 5)]
def D3:List aa:=[
 m 57 12,
 f 58 2 5,
 l 59 58,
 op 60 (.callv (t 57) [(t 59)])]
def D4:List aa:=[
 m 61 9,
 op 62 (.nchk (t 61)),
 f 63 0 62,
 la 64 14 63,
 sn 14 6 64,
 mc 7 (w 0),
 mc 8 (i 0)]
def f226:IFn:=⟨(q (o Po) (q (o Pp) (q (q (o Pq) (k 19 (q (o Pr) (q (q (o Ps) (k 33 (q (o Pu) R) K)) (q (.opsC Pv [] [(2,3)]) R))) K)) (q (o Pw) (q (q (o Px) (k 55 (q (o Py) R) K)) (q (o D3) (q (o D4) R))))))),[.cell 6 14 true,.t 7,.t 8],65⟩
def Pz:List aa:=[
 mc 2 (w 0)]
def PA:List aa:=[
 m 3 0,
 m 4 0,
 op 5 (.nchk (t 4)),
 f 6 14 5,
 l 7 6,
 op 8 (.nchk (t 3)),
 f 9 0 8,
 f 10 5 9,
 ia 11 4 1 10 (t 7),
 l 12 11,
 m 2 12]
def f227:IFn:=⟨(q (o Pz) (q (od PA) R)),[.t 2],13⟩
def PB:List aa:=[
 mc 2 (w 0)]
def PC:List aa:=[
 m 3 0,
 op 4 (.nchk (t 3)),
 f 5 0 4,
 la 6 14 5,
 m 7 0,
 op 8 (.nchk (t 7)),
 f 9 14 8,
 l 10 9,
 c 11 58 [(t 6),(t 10)],
 m 2 11]
def f228:IFn:=⟨(q (o PB) (q (od PC) R)),[.t 2],12⟩
def PD:List aa:=[
 m 4 0,
 m 5 0,
 op 6 (.nchk (t 5)),
 f 7 14 6,
 l 8 7,
 m 9 1,
 b 10 .and (t 9) (w 31),
 op 11 (.nchk (t 4)),
 f 12 0 11,
 f 13 5 12,
 ia 14 4 1 13 (t 8),
 s 14 10]
def f229:IFn:=⟨(od PD),[],15⟩
def PE:List aa:=[
 m 4 1,
 b 5 .lss (t 4) (w 5)]
def PF:List aa:=[
 m 6 0,
 m 7 0,
 op 8 (.nchk (t 7)),
 f 9 14 8,
 l 10 9,
 op 11 (.nchk (t 6)),
 f 12 0 11,
 f 13 1 12,
 ia 14 4 1 13 (t 10),
 l 15 14,
 m 16 1,
 b 17 .shl (w 1) (t 16),
 b 18 .andNot (t 15) (t 17),
 op 19 (.nchk (t 6)),
 f 20 0 19,
 f 21 1 20,
 ia 22 4 1 21 (t 10),
 s 22 18]
def f230:IFn:=⟨(q (o PE) (k 5 (od PF) K)),[],23⟩
def PG:List aa:=[
 m 4 1,
 m 5 0,
 op 6 (.nchk (t 5)),
 f 7 0 6,
 f 8 0 7,
 l 9 8,
 cv 10 .u32 9,
 b 11 .lss (t 4) (t 10)]
def PH:List aa:=[
 m 12 0,
 m 13 0,
 op 14 (.nchk (t 13)),
 f 15 0 14,
 la 16 14 15,
 m 17 1,
 cv 18 .i64 17,
 c 19 61 [(t 16),(i 4),(t 18)],
 op 20 (.nchk (t 12)),
 f 21 0 20,
 sn 14 21 19]
def f231:IFn:=⟨(q (o PG) (k 11 (o PH) K)),[],22⟩
def PJ:List aa:=[
 m 4 1,
 b 5 .quo (t 4) (w 16),
 c 6 103 [(t 5)],
 m 7 6,
 g 7 true (m 8 1),
 g 7 true (b 9 .rem (t 8) (w 16)),
 g 7 true (m 10 0),
 g 7 true (op 11 (.nchk (t 10))),
 g 7 true (f 12 0 11),
 g 7 true (f 13 0 12),
 g 7 true (l 14 13),
 g 7 true (cv 15 .u32 14),
 g 7 true (b 16 .lss (t 9) (t 15)),
 op 17 (.pick (t 7) (t 16) (v B))]
def PK:List aa:=[
 m 18 0,
 m 19 1,
 b 20 .quo (t 19) (w 16),
 m 21 1,
 b 22 .rem (t 21) (w 16),
 cv 23 .i64 22,
 op 24 (.nchk (t 18)),
 f 25 0 24,
 f 26 9 25,
 ia 27 5 1 26 (t 20),
 s 27 23]
def f232:IFn:=⟨(q (o PJ) (k 17 (o PK) K)),[],28⟩
def PL:List aa:=[
 x 1 111 0,
 nw 2 42 [I,U,U,U,U,U,U,U,U,I,I,I,I,I,I,B,B,B,B,I,I,I,I,I,I,I,I,E,I,U,U,I,I,N,N,U,U,U,U,I,I,I,I],
 nw 3 52 [N,U,N,I]]
def PM:List aa:=[
 f 8 0 1,
 f 9 0 8,
 f 10 14 9,
 la 11 13 10,
 f 12 0 1,
 f 13 44 12,
 l 14 13,
 f 15 0 1,
 f 16 45 15,
 l 17 16,
 f 18 0 1,
 f 19 46 18,
 la 20 3 19,
 c 21 234 [(t 11),(t 14),(t 17),(t 20)],
 m 7 21,
 e 22 7 0,
 e 23 7 1,
 e 24 7 2,
 nw 4 30 [I,B,B,B,B,I,I,I,I,I,I,I,I],
 sn 13 4 22,
 m 5 23,
 m 6 24]
def PN:List aa:=[
 m 25 6,
 b 26 .neq (t 25) (i 0)]
def PQ:List aa:=[
 f 27 0 1,
 la 28 49 27,
 m 29 6,
 c 30 51 [(t 28),(t 29)],
 e 31 30 0,
 e 32 30 1,
 sn 43 2 31,
 sn 4 3 32]
def PR:List aa:=[
 la 33 13 4,
 f 34 0 1,
 f 35 0 34,
 f 36 14 35,
 sn 13 36 33]
def PS:List aa:=[
 f 37 0 1,
 f 38 0 37,
 la 39 43 38,
 f 40 0 1,
 f 41 43 40,
 la 42 1 41,
 m 43 5,
 bd 44 [N,U,N,I] [(0,1,(t 42)),(1,1,(t 43))],
 sn 43 2 39,
 sn 4 3 44]
def f233:IFn:=⟨(q (o PL) (q (o PM) (q (q (o PN) (k 26 (q (o PQ) R) K)) (q (o PR) (q (.opsX PS [(41,2)]) R))))),[.cell 2 43 true,.cell 3 4 true],45⟩
def PT:List aa:=[
 op 4 (.boxp (t 0)),
 op 7 (.boxp (t 3)),
 nw 8 30 [I,B,B,B,B,I,I,I,I,I,I,I,I],
 mc 9 (w 0),
 mc 10 (i 0)]
def PU:List aa:=[
 f 14 0 7,
 l 15 14,
 m 16 15,
 g 16 true (f 17 1 7),
 g 16 true (l 18 17),
 g 16 true (b 19 .eql (t 18) (i 16)),
 op 20 (.pick (t 16) (t 19) (v B)),
 m 13 20]
def PV:List aa:=[
 la 21 13 4,
 m 22 1,
 c 23 235 [(t 21),(t 22)],
 e 24 23 0,
 e 25 23 1,
 e 26 23 2,
 sn 13 8 24,
 m 9 25,
 m 10 26]
def PW:List aa:=[
 f 28 0 7,
 l 29 28,
 op 30 (.un .not (t 29)),
 m 31 30,
 g 31 true (f 32 1 7),
 g 31 true (l 33 32),
 g 31 true (b 34 .eql (t 33) (i 17)),
 op 35 (.pick (t 31) (t 34) (v B)),
 m 27 35]
def PX:List aa:=[
 la 37 13 4,
 m 38 1,
 m 39 2,
 f 40 2 7,
 l 41 40,
 c 42 236 [(t 37),(t 38),(t 39),(t 41)],
 m 36 42,
 e 43 36 0,
 e 44 36 1,
 nw 11 30 [I,B,B,B,B,I,I,I,I,I,I,I,I],
 sn 13 11 43,
 m 12 44]
def PY:List aa:=[
 la 45 13 11,
 m 46 12,
 sn 13 8 45,
 mc 9 (w 0),
 m 10 46]
def PZ:List aa:=[
 la 47 13 4,
 sn 13 8 47,
 mc 9 (w 0),
 mc 10 (i 5)]
def f234:IFn:=⟨(q (o PT) (q (bl 0 (q (o PU) (k 13 (q (o PV) R) (q (o PW) (k 27 (q (o PX) (q (o PY) R)) K))))) (q (o PZ) R))),[.cell 8 13 true,.t 9,.t 10],48⟩
def P0:List aa:=[
 x 2 30 0,
 nw 4 30 [I,B,B,B,B,I,I,I,I,I,I,I,I],
 mc 5 (w 0),
 mc 6 (i 0)]
def P1:List aa:=[
 m 9 1,
 c 10 120 [(t 9)],
 op 11 (.un .not (t 10)),
 bd 12 [B,I] [(0,1,(t 11)),(1,1,(i 1))],
 m 13 1,
 c 14 120 [(t 13)],
 m 15 14,
 g 15 true (m 16 1),
 g 15 true (b 17 .and (t 16) (i 3)),
 g 15 true (f 18 1 2),
 g 15 true (ia 19 4 1 18 (t 17)),
 g 15 true (l 20 19),
 g 15 true (op 21 (.un .not (t 20))),
 op 22 (.pick (t 15) (t 21) (v B)),
 bd 23 [B,I] [(0,1,(t 22)),(1,1,(i 4))],
 bs 24 2 [B,I,B,I] [(0,2,(t 12)),(2,2,(t 23))],
 c 25 119 [(t 24)],
 m 7 25]
def P2:List aa:=[
 m 26 7,
 b 27 .neq (t 26) (i 0)]
def P3:List aa:=[
 la 28 13 2,
 m 29 7,
 sn 13 4 28,
 mc 5 (w 0),
 m 6 29]
def P4:List aa:=[
 m 30 1,
 f 31 5 2,
 ia 32 4 1 31 (t 30),
 l 33 32,
 cv 34 .u32 33,
 m 8 34]
def P5:List aa:=[
 m 35 1,
 m 36 1,
 f 37 1 2,
 ia 38 4 1 37 (t 35),
 op0 (.store 1 (t 38) (v B)),
 f 39 5 2,
 ia 40 4 1 39 (t 36),
 op0 (.store 1 (t 40) (i 0))]
def P6:List aa:=[
 la 41 13 2,
 m 42 8,
 sn 13 4 41,
 m 5 42,
 mc 6 (i 0)]
def f235:IFn:=⟨(q (o P0) (q (q (o P1) (q (o P2) (k 27 (q (o P3) R) K))) (q (o P4) (q (o P5) (q (o P6) R))))),[.cell 4 13 true,.t 5,.t 6],43⟩
def P7:List aa:=[
 x 4 30 0,
 nw 8 30 [I,B,B,B,B,I,I,I,I,I,I,I,I],
 mc 9 (i 0)]
def P8:List aa:=[
 m 10 1,
 c 11 120 [(t 10)],
 op 12 (.un .not (t 11)),
 m 13 12,
 g 13 false (m 14 2),
 g 13 false (b 15 .lss (t 14) (i 0)),
 op 16 (.pick (t 13) (v (.bool true)) (t 15)),
 m 17 16,
 g 17 false (m 18 2),
 g 17 false (b 19 .gtr (t 18) (i 1099511627776)),
 op 20 (.pick (t 17) (v (.bool true)) (t 19))]
def P9:List aa:=[
 la 21 13 4,
 sn 13 8 21,
 mc 9 (i 1)]
def Qa:List aa:=[
 m 22 1,
 f 23 9 4,
 ia 24 4 1 23 (t 22),
 op0 (.store 1 (t 24) (i 0))]
def Qb:List aa:=[
 m 25 3,
 b 26 .gtr (t 25) (w 0)]
def Qc:List aa:=[
 m 27 1,
 m 28 2,
 m 29 3,
 cv 30 .i64 29,
 b 31 .add (t 28) (t 30),
 op 32 (.mn false [(t 31),(i 1099511627776)]),
 f 33 9 4,
 ia 34 4 1 33 (t 27),
 s 34 32]
def Qd:List aa:=[
 la 35 13 4,
 sn 13 8 35,
 mc 9 (i 0)]
def f236:IFn:=⟨(q (o P7) (q (q (o P8) (k 20 (q (o P9) R) K)) (q (o Qa) (q (q (o Qb) (k 26 (o Qc) K)) (q (o Qd) R))))),[.cell 8 13 true,.t 9],36⟩
def Qe:List aa:=[
 x 1 112 0,
 nw 2 42 [I,U,U,U,U,U,U,U,U,I,I,I,I,I,I,B,B,B,B,I,I,I,I,I,I,I,I,E,I,U,U,I,I,N,N,U,U,U,U,I,I,I,I],
 nw 3 52 [N,U,N,I]]
def Qf:List aa:=[
 f 10 0 1,
 f 11 0 10,
 f 12 27 11,
 la 13 2 12,
 f 14 0 1,
 f 15 46 14,
 la 16 3 15,
 c 17 238 [(t 13),(t 16)],
 m 9 17,
 e 18 9 0,
 e 19 9 1,
 e 20 9 2,
 e 21 9 3,
 nw 4 32 [E,I],
 sn 2 4 18,
 m 5 19,
 m 6 20,
 m 7 21]
def Qg:List aa:=[
 m 22 7,
 op 23 (.un .not (t 22))]
def Qh:List aa:=[
 f 24 0 1,
 la 25 49 24,
 c 26 51 [(t 25),(i 5)],
 e 27 26 0,
 e 28 26 1,
 sn 43 2 27,
 sn 4 3 28]
def Qi:List aa:=[
 la 29 2 4,
 f 30 0 1,
 f 31 0 30,
 f 32 27 31,
 sn 2 32 29]
def Qj:List aa:=[
 f 33 0 1,
 f 34 43 33,
 la 35 1 34,
 m 36 5,
 bd 37 [N,U,N,I] [(0,1,(t 35)),(1,1,(t 36))],
 nw 8 52 [N,U,N,I],
 sn 4 8 37]
def Qk:List aa:=[
 m 38 6,
 b 39 .neq (t 38) (v E)]
def Ql:List aa:=[
 f 40 0 1,
 la 41 49 40,
 m 42 6,
 bs 43 1 [E] [(0,1,(t 42))],
 c 44 224 [(t 41),(i 1),(t 43)],
 f 45 2 8,
 s 45 44]
def Qm:List aa:=[
 f 46 0 1,
 f 47 0 46,
 la 48 43 47,
 la 49 4 8,
 sn 43 2 48,
 sn 4 3 49]
def f237:IFn:=⟨(q (o Qe) (q (o Qf) (q (q (o Qg) (k 23 (q (o Qh) R) K)) (q (o Qi) (q (o Qj) (q (q (o Qk) (k 39 (o Ql) K)) (q (.opsX Qm [(8,2)]) R))))))),[.cell 2 43 true,.cell 3 4 true],50⟩
def Qn:List aa:=[
 op 2 (.boxp (t 0)),
 op 3 (.boxp (t 1)),
 nw 4 32 [E,I],
 mc 5 (w 0),
 mc 6 (v E),
 mc 7 (v B)]
def Qo:List aa:=[
 op 11 (.calls 239 []),
 mc 12 (i 0)]
def Qp:List aa:=[
 b 13 .lss (t 12) (i 3)]
def Qq:List aa:=[
 op 14 (.ixA 3 3 true (t 11) (t 12)),
 nw 9 366 [I,B,.nilfn],
 sn 3 9 14]
def Qr:List aa:=[
 f 15 0 9,
 l 16 15,
 f 17 1 3,
 l 18 17,
 b 19 .eql (t 16) (t 18),
 m 20 19,
 g 20 true (f 21 1 9),
 g 20 true (l 22 21),
 g 20 true (f 23 0 3),
 g 20 true (l 24 23),
 g 20 true (op 25 (.eq false 1 (t 22) (t 24))),
 op 26 (.pick (t 20) (t 25) (v B))]
def Qs:List aa:=[
 la 27 2 2,
 bd 28 [E,I,U,E] [(0,2,(t 27))],
 x 29 371 28,
 m 10 29]
def Qt:List aa:=[
 f 30 2 9,
 l 31 30,
 m 32 10,
 f 33 2 3,
 l 34 33,
 op 35 (.callv (t 31) [(t 32),(t 34)])]
def Qu:List aa:=[
 m 36 10,
 op 37 (.nchk (t 36)),
 f 38 0 37,
 la 39 2 38,
 m 40 10,
 op 41 (.nchk (t 40)),
 f 42 2 41,
 l 43 42,
 m 44 10,
 op 45 (.nchk (t 44)),
 f 46 3 45,
 l 47 46,
 sn 2 4 39,
 m 5 43,
 m 6 47,
 mc 7 (v (.bool true))]
def Qv:List aa:=[
 b 48 .add (t 12) (i 1),
 m 12 48]
def Qw:IC:=(q (o Qp) (q (k 13 K (ex 0)) (q (bl 1 (q (o Qq) (q (o Qr) (k 26 (q (o Qs) (q (o Qt) (q (.opsX Qu [(42,4),(46,4)]) R))) K)))) (o Qv))))
def D5:List aa:=[
 la 49 2 2,
 sn 2 4 49,
 mc 5 (w 0),
 mc 6 (v E),
 mc 7 (v B)]
def f238:IFn:=⟨(q (o Qn) (q (q (o Qo) (bl 0 (lp Qw))) (q (o D5) R))),[.cell 4 2 true,.t 5,.t 6,.t 7],50⟩
def Qx:List aa:=[
 nw 0 367 [I,B,.nilfn,I,B,.nilfn,I,B,.nilfn]]
def Qy:List aa:=[
 bd 1 [I,B,.nilfn] [(0,1,(i 32)),(1,1,(v B)),(2,1,(v (.fn 240 [] [])))],
 bd 2 [I,B,.nilfn] [(0,1,(i 33)),(1,1,(v (.bool true))),(2,1,(v (.fn 241 [] [])))],
 bd 3 [I,B,.nilfn] [(0,1,(i 34)),(1,1,(v (.bool true))),(2,1,(v (.fn 243 [] [])))],
 bd 4 [I,B,.nilfn,I,B,.nilfn,I,B,.nilfn] [(0,3,(t 1)),(3,3,(t 2)),(6,3,(t 3))],
 sn 9 0 4]
def f239:IFn:=⟨(q (o Qx) (q (o Qy) R)),[.cell 0 9 true],5⟩
def Qz:List aa:=[
 m 4 0,
 m 5 1,
 cv 6 .u8 5,
 bs 7 1 [Y] [(0,1,(t 6))],
 op 8 (.b2s (t 7)),
 op 9 (.nchk (t 4)),
 f 10 3 9,
 s 10 8]
def f240:IFn:=⟨(o Qz),[],11⟩
def QA:List aa:=[
 m 4 0,
 op 5 (.calls 242 [(t 4)])]
def f241:IFn:=⟨(o QA),[],6⟩
def QB:List aa:=[
 m 4 0,
 m 5 0,
 op 6 (.nchk (t 5)),
 f 7 0 6,
 f 8 0 7,
 l 9 8,
 ns 10 9,
 cv 11 .u32 10,
 op 12 (.nchk (t 4)),
 f 13 2 12,
 s 13 11]
def f243:IFn:=⟨(o QB),[],14⟩
def QC:List aa:=[
 x 1 113 0,
 nw 2 42 [I,U,U,U,U,U,U,U,U,I,I,I,I,I,I,B,B,B,B,I,I,I,I,I,I,I,I,E,I,U,U,I,I,N,N,U,U,U,U,I,I,I,I],
 nw 3 52 [N,U,N,I]]
def QD:List aa:=[
 f 7 0 1,
 f 8 0 7,
 f 9 29 8,
 la 10 6 9,
 f 11 0 1,
 f 12 43 11,
 la 13 1 12,
 f 14 0 1,
 f 15 46 14,
 la 16 3 15,
 c 17 245 [(t 10),(t 13),(t 16)],
 m 6 17,
 e 18 6 0,
 e 19 6 1,
 nw 4 38 [U,U,I,I,N,N],
 nw 5 122 [N,U,N,B,B],
 sn 6 4 18,
 sn 5 5 19]
def QE:List aa:=[
 f 20 4 5,
 l 21 20,
 op 22 (.un .not (t 21))]
def QF:List aa:=[
 f 23 0 1,
 la 24 49 23,
 c 25 51 [(t 24),(i 5)],
 e 26 25 0,
 e 27 25 1,
 sn 43 2 26,
 sn 4 3 27]
def QG:List aa:=[
 la 28 6 4,
 f 29 0 1,
 f 30 0 29,
 f 31 29 30,
 sn 6 31 28]
def QH:List aa:=[
 f 32 0 1,
 f 33 0 32,
 la 34 43 33,
 f 35 3 5,
 l 36 35,
 c 37 69 [(t 34),(i 2),(t 36)],
 f 38 0 5,
 la 39 1 38,
 f 40 1 5,
 l 41 40,
 bd 42 [N,U,N,I] [(0,1,(t 39)),(1,1,(t 41))],
 sn 43 2 37,
 sn 4 3 42]
def f244:IFn:=⟨(q (o QC) (q (o QD) (q (q (o QE) (k 22 (q (o QF) R) K)) (q (o QG) (q (.opsX QH [(38,2),(40,2)]) R))))),[.cell 2 43 true,.cell 3 4 true],43⟩
def QI:List aa:=[
 x 3 38 0,
 x 4 44 1,
 x 5 46 2,
 nw 6 38 [U,U,I,I,N,N],
 nw 7 122 [N,U,N,B,B]]
def QJ:List aa:=[
 la 11 1 4,
 bd 12 [N,U,N,B,B] [(0,1,(t 11))],
 la 13 6 3,
 bd 14 [N,U,N,B,B,U,U,I,I,N,N] [(0,5,(t 12)),(5,6,(t 13))],
 x 15 375 14,
 m 8 15]
def QK:List aa:=[
 f 16 0 5,
 l 17 16]
def QL:List aa:=[
 m 18 8,
 op 19 (.nchk (t 18)),
 f 20 0 19,
 f 21 4 20,
 op0 (.store 1 (t 21) (v (.bool true)))]
def QM:List aa:=[
 f 22 1 5,
 l 23 22]
def QN:List aa:=[
 b 29 .eql (t 23) (i 48),
 m 28 29]
def QO:List aa:=[
 m 30 8,
 f 31 0 3,
 f 32 0 31,
 l 33 32,
 op 34 (.nchk (t 30)),
 f 35 0 34,
 f 36 1 35,
 s 36 33]
def QP:List aa:=[
 b 38 .eql (t 23) (i 49),
 m 37 38]
def QQ:List aa:=[
 m 39 8,
 f 40 0 3,
 f 41 1 40,
 l 42 41,
 op 43 (.nchk (t 39)),
 f 44 0 43,
 f 45 1 44,
 s 45 42]
def QR:List aa:=[
 b 47 .eql (t 23) (i 51),
 m 46 47]
def D6:List aa:=[
 m 48 8,
 m 49 8,
 f 50 3 3,
 l 51 50,
 cv 52 .u32 51,
 op 53 (.nchk (t 48)),
 f 54 0 53,
 f 55 1 54,
 s 55 52,
 op 56 (.nchk (t 49)),
 f 57 5 56,
 f 58 3 57,
 op0 (.store 1 (t 58) (i 0))]
def D7:List aa:=[
 m 24 8,
 op 25 (.nchk (t 24)),
 f 26 0 25,
 f 27 4 26,
 op0 (.store 1 (t 27) (v B))]
def D8:List aa:=[
 m 59 8,
 op 60 (.nchk (t 59)),
 f 61 5 60,
 la 62 6 61,
 m 63 8,
 op 64 (.nchk (t 63)),
 f 65 0 64,
 la 66 5 65,
 sn 6 6 62,
 sn 5 7 66]
def D9:List aa:=[
 op 68 (.mkm),
 m 69 8,
 op 70 (.mkf 246 [(t 69)] []),
 op0 (.mupd 0 (t 68) (i 48) (t 70)),
 m 71 8,
 op 72 (.mkf 247 [(t 71)] []),
 op0 (.mupd 0 (t 68) (i 49) (t 72)),
 m 73 8,
 op 74 (.mkf 248 [(t 73)] []),
 op0 (.mupd 0 (t 68) (i 50) (t 74)),
 m 75 68,
 f 76 1 5,
 l 77 76,
 op 78 (.mget 0 true .nilfn (t 75) (t 77)),
 m 67 78,
 e 79 67 0,
 e 80 67 1,
 m 9 79,
 m 10 80]
def Ea:List aa:=[
 m 81 10]
def Eb:List aa:=[
 m 82 8,
 op 83 (.nchk (t 82)),
 f 84 0 83,
 f 85 4 84,
 op0 (.store 1 (t 85) (v (.bool true)))]
def Ec:List aa:=[
 m 86 9,
 f 87 2 5,
 l 88 87,
 op 89 (.callv (t 86) [(t 88)])]
def Ed:List aa:=[
 m 90 8,
 op 91 (.nchk (t 90)),
 f 92 5 91,
 la 93 6 92,
 m 94 8,
 op 95 (.nchk (t 94)),
 f 96 0 95,
 la 97 5 96,
 sn 6 6 93,
 sn 5 7 97]
def f245:IFn:=⟨(q (o QI) (q (o QJ) (q (q (o QK) (k 17 (q (q (o QL) (q (o QM) (bl 0 (q (o QN) (k 28 (o QO) (q (o QP) (k 37 (o QQ) (q (o QR) (k 46 (o D6) (o D7)))))))))) (q (.opsX D8 [(65,6)]) R)) K)) (q (o D9) (q (q (o Ea) (k 81 (q (o Eb) (o Ec)) K)) (q (.opsX Ed [(96,6)]) R)))))),[.cell 6 6 true,.cell 7 5 true],98⟩
def QS:List aa:=[
 m 4 0,
 m 5 0,
 m 6 1,
 op 7 (.nchk (t 4)),
 f 8 5 7,
 f 9 0 8,
 f 10 0 9,
 s 10 6,
 op 11 (.nchk (t 5)),
 f 12 5 11,
 f 13 2 12,
 op0 (.store 1 (t 13) (i 0))]
def f246:IFn:=⟨(o QS),[],14⟩
def QT:List aa:=[
 m 4 0,
 m 5 0,
 m 6 1,
 op 7 (.nchk (t 4)),
 f 8 5 7,
 f 9 0 8,
 f 10 1 9,
 s 10 6,
 op 11 (.nchk (t 5)),
 f 12 5 11,
 f 13 2 12,
 op0 (.store 1 (t 13) (i 0))]
def f247:IFn:=⟨(o QT),[],14⟩
def QU:List aa:=[
 m 11 0,
 op 12 (.nchk (t 11)),
 f 13 0 12,
 f 14 0 13,
 la 15 1 14,
 m 16 0,
 op 17 (.nchk (t 16)),
 f 18 5 17,
 f 19 0 18,
 la 20 2 19,
 c 21 156 [(t 15),(t 20)],
 m 4 21]
def QV:List aa:=[
 m 22 4,
 b 23 .neq (t 22) (i 0)]
def QW:List aa:=[
 m 24 0,
 m 25 4,
 op 26 (.nchk (t 24)),
 f 27 5 26,
 f 28 3 27,
 s 28 25]
def QX:List aa:=[
 m 29 0,
 op 30 (.nchk (t 29)),
 f 31 5 30,
 f 32 0 31,
 f 33 1 32,
 l 34 33,
 mc 35 (w 0)]
def QY:List aa:=[
 b 36 .lss (t 35) (t 34)]
def QZ:List aa:=[
 m 38 0,
 op 39 (.nchk (t 38)),
 f 40 0 39,
 f 41 0 40,
 la 42 1 41,
 m 43 0,
 op 44 (.nchk (t 43)),
 f 45 5 44,
 f 46 0 45,
 la 47 2 46,
 m 48 0,
 op 49 (.nchk (t 48)),
 f 50 5 49,
 f 51 2 50,
 l 52 51,
 c 53 167 [(t 42),(t 47),(t 52)],
 m 37 53,
 e 54 37 0,
 e 55 37 1,
 m 5 54,
 m 6 55]
def Q0:List aa:=[
 m 56 6,
 op 57 (.un .not (t 56)),
 m 58 57,
 g 58 false (m 59 0),
 g 58 false (op 60 (.nchk (t 59))),
 g 58 false (f 61 5 60),
 g 58 false (f 62 5 61),
 g 58 false (l 63 62),
 g 58 false (n 64 5 63),
 g 58 false (b 65 .geq (t 64) (i 8)),
 op 66 (.pick (t 58) (v (.bool true)) (t 65))]
def Q1:List aa:=[
 m 67 0,
 m 68 5,
 b 69 .add (t 68) (i 1),
 m 70 0,
 op 71 (.nchk (t 70)),
 f 72 5 71,
 f 73 0 72,
 f 74 1 73,
 l 75 74,
 cv 76 .i64 75,
 b 77 .rem (t 69) (t 76),
 op 78 (.nchk (t 67)),
 f 79 5 78,
 f 80 2 79,
 s 80 77]
def Q2:List aa:=[
 m 82 0,
 op 83 (.nchk (t 82)),
 f 84 0 83,
 f 85 0 84,
 la 86 1 85,
 m 87 0,
 op 88 (.nchk (t 87)),
 f 89 5 88,
 f 90 0 89,
 la 91 2 90,
 m 92 5,
 c 93 168 [(t 86),(t 91),(t 92)],
 m 81 93,
 e 94 81 0,
 e 95 81 1,
 e 96 81 2,
 nw 7 44 [N],
 s 7 94,
 m 8 95,
 m 9 96]
def Q3:List aa:=[
 m 97 0,
 la 98 1 7,
 op 99 (.nchk (t 97)),
 f 100 0 99,
 f 101 0 100,
 s 101 98]
def Ee:List aa:=[
 m 102 9,
 b 103 .neq (t 102) (i 0)]
def Ef:List aa:=[
 m 104 0,
 m 105 0,
 m 106 9,
 op 107 (.nchk (t 104)),
 f 108 5 107,
 f 109 3 108,
 s 109 106,
 op 110 (.nchk (t 105)),
 f 111 0 110,
 f 112 3 111,
 op0 (.store 1 (t 112) (v (.bool true)))]
def Eg:List aa:=[
 m 114 0,
 m 115 8,
 op 116 (.calls 249 [(t 114),(t 115)]),
 m 113 116,
 e 117 113 0,
 e 118 113 1,
 nw 10 190 [U,U,I,B,N],
 sn 5 10 117,
 m 9 118]
def Eh:List aa:=[
 m 119 9,
 b 120 .neq (t 119) (i 0)]
def Ei:List aa:=[
 m 121 0,
 m 122 5,
 m 123 9,
 op 124 (.calls 250 [(t 121),(t 122),(t 123)])]
def Ej:List aa:=[
 m 125 0,
 m 126 0,
 op 127 (.nchk (t 126)),
 f 128 5 127,
 f 129 5 128,
 l 130 129,
 m 131 0,
 op 132 (.nchk (t 131)),
 f 133 5 132,
 f 134 5 133,
 l 135 134,
 n 136 5 135,
 m 137 0,
 op 138 (.nchk (t 137)),
 f 139 5 138,
 f 140 5 139,
 l 141 140,
 n 142 5 141,
 op 143 (.slL 5 (t 130) none (some (t 136)) (some (t 142))),
 la 144 5 10,
 bs 145 5 [U,U,I,B,N] [(0,5,(t 144))],
 ap 146 5 48 143 145,
 op 147 (.nchk (t 125)),
 f 148 5 147,
 f 149 5 148,
 s 149 146]
def Ek:List aa:=[
 b 150 .add (t 35) (w 1),
 m 35 150]
def El:IC:=(q (o QY) (q (k 36 K (ex 0)) (q (bl 1 (q (od QZ) (q (q (o Q0) (k 66 (ex 0) K)) (q (o Q1) (q (od Q2) (q (o Q3) (q (q (o Ee) (k 103 (q (o Ef) (ex 1)) K)) (q (o Eg) (q (q (o Eh) (k 120 (q (o Ei) (ex 1)) K)) (od Ej)))))))))) (o Ek))))
def f248:IFn:=⟨(q (q (od QU) (q (o QV) (k 23 (q (o QW) R) K))) (q K (q (o QX) (bl 0 (lp El))))),[],151⟩
def Q4:List aa:=[
 nw 4 190 [U,U,I,B,N],
 mc 5 (i 0)]
def Q5:List aa:=[
 m 10 1,
 is 11 4 10 (i 0),
 la 12 4 11,
 nw 6 259 [I,I,I,B],
 sn 4 6 12]
def Q6:List aa:=[
 f 13 2 6,
 l 14 13,
 b 15 .neq (t 14) (i 8),
 m 16 15,
 g 16 false (f 17 3 6),
 g 16 false (l 18 17),
 op 19 (.pick (t 16) (v (.bool true)) (t 18))]
def Q7:List aa:=[
 bd 20 [U,U,I,B,N] [],
 sn 5 4 20,
 mc 5 (i 161)]
def Q8:List aa:=[
 m 21 0,
 op 22 (.nchk (t 21)),
 f 23 0 22,
 f 24 0 23,
 la 25 1 24,
 f 26 1 6,
 l 27 26,
 c 28 251 [(t 25),(t 27)],
 m 29 0,
 op 30 (.nchk (t 29)),
 f 31 0 30,
 f 32 0 31,
 la 33 1 32,
 f 34 1 6,
 l 35 34,
 b 36 .add (t 35) (i 4),
 c 37 251 [(t 33),(t 36)],
 m 7 28,
 m 8 37]
def Q9:List aa:=[
 m 38 7,
 m 39 0,
 op 40 (.nchk (t 39)),
 f 41 5 40,
 f 42 4 41,
 l 43 42,
 n 44 128 43,
 cv 45 .u32 44,
 b 46 .geq (t 38) (t 45),
 m 47 46,
 g 47 false (m 48 8),
 g 47 false (b 49 .neq (t 48) (w 1)),
 g 47 false (m 50 49),
 g 50 true (m 51 8),
 g 50 true (b 52 .neq (t 51) (w 2)),
 g 47 false (op 53 (.pick (t 50) (t 52) (v B))),
 op 54 (.pick (t 47) (v (.bool true)) (t 53))]
def Ra:List aa:=[
 bd 55 [U,U,I,B,N] [],
 sn 5 4 55,
 mc 5 (i 161)]
def Rb:List aa:=[
 m 56 0,
 op 57 (.nchk (t 56)),
 f 58 5 57,
 f 59 0 58,
 la 60 2 59,
 m 61 7,
 cv 62 .i64 61,
 m 63 8,
 b 64 .eql (t 63) (w 2),
 m 65 1,
 bd 66 [U,U,I,B,N] [(0,2,(t 60)),(2,1,(t 62)),(3,1,(t 64)),(4,1,(t 65))],
 nw 9 190 [U,U,I,B,N],
 sn 5 9 66]
def Rc:List aa:=[
 la 67 5 9,
 m 68 1,
 op 69 (.slL 4 (t 68) (some (i 1)) none none),
 f 70 3 9,
 l 71 70,
 c 72 158 [(t 69),(t 71)],
 sn 5 4 67,
 m 5 72]
def f249:IFn:=⟨(q (o Q4) (q (o Q5) (q (q (o Q6) (k 19 (q (o Q7) R) K)) (q (od Q8) (q (q (o Q9) (k 54 (q (o Ra) R) K)) (q (o Rb) (q (od Rc) R))))))),[.cell 4 5 true,.t 5],73⟩
def Rd:List aa:=[
 m 6 0,
 m 7 0,
 op 8 (.nchk (t 7)),
 f 9 0 8,
 f 10 0 9,
 la 11 1 10,
 m 12 0,
 op 13 (.nchk (t 12)),
 f 14 5 13,
 f 15 0 14,
 la 16 2 15,
 m 17 1,
 m 18 2,
 c 19 195 [(t 11),(t 16),(t 17),(t 18)],
 op 20 (.nchk (t 6)),
 f 21 0 20,
 f 22 0 21,
 s 22 19]
def Re:List aa:=[
 m 23 0,
 m 24 0,
 m 25 2,
 op 26 (.nchk (t 23)),
 f 27 5 26,
 f 28 3 27,
 s 28 25,
 op 29 (.nchk (t 24)),
 f 30 0 29,
 f 31 3 30,
 op0 (.store 1 (t 31) (v (.bool true)))]
def f250:IFn:=⟨(q (od Rd) (o Re)),[],32⟩
def Rf:List aa:=[
 x 2 44 0,
 mc 4 (w 0)]
def Rg:List aa:=[
 la 8 1 2,
 m 9 1,
 c 10 172 [(t 8),(t 9),(i 4)],
 m 7 10,
 e 11 7 0,
 e 12 7 1,
 m 5 11,
 m 6 12]
def Rh:List aa:=[
 m 13 5,
 op 14 (.ixS (t 13) (i 0)),
 cv 15 .u32 14,
 m 16 5,
 op 17 (.ixS (t 16) (i 1)),
 cv 18 .u32 17,
 b 19 .shl (t 18) (v (.int .u64 8)),
 b 20 .or (t 15) (t 19),
 m 21 5,
 op 22 (.ixS (t 21) (i 2)),
 cv 23 .u32 22,
 b 24 .shl (t 23) (v (.int .u64 16)),
 b 25 .or (t 20) (t 24),
 m 26 5,
 op 27 (.ixS (t 26) (i 3)),
 cv 28 .u32 27,
 b 29 .shl (t 28) (v (.int .u64 24)),
 b 30 .or (t 25) (t 29),
 m 4 30]
def f251:IFn:=⟨(q (o Rf) (q (o Rg) (q (od Rh) R))),[.t 4],31⟩
def Ri:List aa:=[
 x 1 114 0,
 nw 2 42 [I,U,U,U,U,U,U,U,U,I,I,I,I,I,I,B,B,B,B,I,I,I,I,I,I,I,I,E,I,U,U,I,I,N,N,U,U,U,U,I,I,I,I],
 nw 3 52 [N,U,N,I]]
def Rj:List aa:=[
 f 7 0 1,
 f 8 0 7,
 f 9 35 8,
 la 10 8 9,
 f 11 0 1,
 f 12 43 11,
 la 13 1 12,
 f 14 0 1,
 f 15 46 14,
 la 16 3 15,
 c 17 253 [(t 10),(t 13),(t 16)],
 m 6 17,
 e 18 6 0,
 e 19 6 1,
 nw 4 40 [U,U,U,U,I,I,I,I],
 nw 5 122 [N,U,N,B,B],
 sn 8 4 18,
 sn 5 5 19]
def Rk:List aa:=[
 f 20 4 5,
 l 21 20,
 op 22 (.un .not (t 21))]
def Rl:List aa:=[
 f 23 0 1,
 la 24 49 23,
 c 25 51 [(t 24),(i 5)],
 e 26 25 0,
 e 27 25 1,
 sn 43 2 26,
 sn 4 3 27]
def Rm:List aa:=[
 la 28 8 4,
 f 29 0 1,
 f 30 0 29,
 f 31 35 30,
 sn 8 31 28]
def Rn:List aa:=[
 f 32 0 1,
 f 33 0 32,
 la 34 43 33,
 f 35 3 5,
 l 36 35,
 c 37 69 [(t 34),(i 3),(t 36)],
 f 38 0 5,
 la 39 1 38,
 f 40 1 5,
 l 41 40,
 f 42 0 1,
 la 43 49 42,
 f 44 2 5,
 l 45 44,
 c 46 224 [(t 43),(i 2),(t 45)],
 bd 47 [N,U,N,I] [(0,1,(t 39)),(1,1,(t 41)),(2,1,(t 46))],
 sn 43 2 37,
 sn 4 3 47]
def f252:IFn:=⟨(q (o Ri) (q (o Rj) (q (q (o Rk) (k 22 (q (o Rl) R) K)) (q (o Rm) (q (.opsX Rn [(38,2),(40,2)]) R))))),[.cell 2 43 true,.cell 3 4 true],48⟩
def Ro:List aa:=[
 x 3 40 0,
 x 4 44 1,
 x 5 46 2,
 nw 6 40 [U,U,U,U,I,I,I,I],
 nw 7 122 [N,U,N,B,B]]
def Rp:List aa:=[
 la 9 1 4,
 bd 10 [N,U,N,B,B] [(0,1,(t 9)),(4,1,(v (.bool true)))],
 la 11 8 3,
 bd 12 [N,U,N,B,B,U,U,U,U,I,I,I,I] [(0,5,(t 10)),(5,8,(t 11))],
 x 13 211 12,
 m 8 13]
def Rq:List aa:=[
 f 14 0 5,
 l 15 14]
def Rr:List aa:=[
 m 16 8,
 f 17 1 5,
 l 18 17,
 op 19 (.calls 254 [(t 16),(t 18)])]
def Rs:List aa:=[
 m 20 8,
 f 21 1 5,
 l 22 21,
 f 23 2 5,
 l 24 23,
 op 25 (.calls 255 [(t 20),(t 22),(t 24)])]
def Ru:List aa:=[
 m 26 8,
 op 27 (.nchk (t 26)),
 f 28 5 27,
 la 29 8 28,
 m 30 8,
 op 31 (.nchk (t 30)),
 f 32 0 31,
 la 33 5 32,
 sn 8 6 29,
 sn 5 7 33]
def f253:IFn:=⟨(q (o Ro) (q (o Rp) (q (q (o Rq) (k 15 (o Rr) (o Rs))) (q (.opsX Ru [(32,6)]) R)))),[.cell 6 8 true,.cell 7 5 true],34⟩
def Rv:List aa:=[
 m 4 1]
def Rw:List aa:=[
 b 10 .eql (t 4) (i 64),
 m 9 10]
def Rx:List aa:=[
 m 11 0,
 m 12 0,
 op 13 (.nchk (t 12)),
 f 14 5 13,
 f 15 0 14,
 f 16 0 15,
 l 17 16,
 op 18 (.nchk (t 11)),
 f 19 0 18,
 f 20 1 19,
 s 20 17]
def Ry:List aa:=[
 b 22 .eql (t 4) (i 65),
 m 21 22]
def Rz:List aa:=[
 m 23 0,
 m 24 0,
 op 25 (.nchk (t 24)),
 f 26 5 25,
 f 27 0 26,
 f 28 1 27,
 l 29 28,
 op 30 (.nchk (t 23)),
 f 31 0 30,
 f 32 1 31,
 s 32 29]
def RA:List aa:=[
 b 34 .eql (t 4) (i 66),
 m 33 34]
def RB:List aa:=[
 m 35 0,
 m 36 0,
 op 37 (.nchk (t 36)),
 f 38 5 37,
 f 39 2 38,
 f 40 0 39,
 l 41 40,
 op 42 (.nchk (t 35)),
 f 43 0 42,
 f 44 1 43,
 s 44 41]
def RC:List aa:=[
 b 46 .eql (t 4) (i 67),
 m 45 46]
def RD:List aa:=[
 m 47 0,
 m 48 0,
 op 49 (.nchk (t 48)),
 f 50 5 49,
 f 51 2 50,
 f 52 1 51,
 l 53 52,
 op 54 (.nchk (t 47)),
 f 55 0 54,
 f 56 1 55,
 s 56 53]
def RE:List aa:=[
 b 58 .eql (t 4) (i 69),
 m 57 58]
def Em:List aa:=[
 m 59 0,
 m 60 0,
 m 61 0,
 op 62 (.nchk (t 61)),
 f 63 5 62,
 f 64 6 63,
 l 65 64,
 cv 66 .u32 65,
 op 67 (.nchk (t 59)),
 f 68 0 67,
 f 69 1 68,
 s 69 66,
 op 70 (.nchk (t 60)),
 f 71 5 70,
 f 72 6 71,
 op0 (.store 1 (t 72) (i 0))]
def En:List aa:=[
 b 74 .eql (t 4) (i 70),
 m 73 74]
def Eo:List aa:=[
 m 75 0,
 m 76 0,
 op 77 (.nchk (t 76)),
 f 78 5 77,
 f 79 7 78,
 l 80 79,
 cv 81 .u32 80,
 op 82 (.nchk (t 75)),
 f 83 0 82,
 f 84 1 83,
 s 84 81]
def Ep:List aa:=[
 m 5 0,
 op 6 (.nchk (t 5)),
 f 7 0 6,
 f 8 4 7,
 op0 (.store 1 (t 8) (v B))]
def f254:IFn:=⟨(q (o Rv) (bl 0 (q (o Rw) (k 9 (o Rx) (q (o Ry) (k 21 (o Rz) (q (o RA) (k 33 (o RB) (q (o RC) (k 45 (o RD) (q (o RE) (k 57 (o Em) (q (o En) (k 73 (o Eo) (o Ep))))))))))))))),[],85⟩
def RF:List aa:=[
 m 6 1]
def RG:List aa:=[
 b 12 .eql (t 6) (i 64),
 m 11 12]
def RH:List aa:=[
 m 13 0,
 m 14 0,
 m 15 2,
 op 16 (.nchk (t 13)),
 f 17 5 16,
 f 18 0 17,
 f 19 0 18,
 s 19 15,
 op 20 (.nchk (t 14)),
 f 21 5 20,
 f 22 4 21,
 op0 (.store 1 (t 22) (i 0))]
def RJ:List aa:=[
 b 24 .eql (t 6) (i 65),
 m 23 24]
def RK:List aa:=[
 m 25 0,
 m 26 0,
 m 27 2,
 op 28 (.nchk (t 25)),
 f 29 5 28,
 f 30 0 29,
 f 31 1 30,
 s 31 27,
 op 32 (.nchk (t 26)),
 f 33 5 32,
 f 34 4 33,
 op0 (.store 1 (t 34) (i 0))]
def RL:List aa:=[
 b 36 .eql (t 6) (i 66),
 m 35 36]
def RM:List aa:=[
 m 37 0,
 m 38 0,
 m 39 2,
 op 40 (.nchk (t 37)),
 f 41 5 40,
 f 42 2 41,
 f 43 0 42,
 s 43 39,
 op 44 (.nchk (t 38)),
 f 45 5 44,
 f 46 5 45,
 op0 (.store 1 (t 46) (i 0))]
def RN:List aa:=[
 b 48 .eql (t 6) (i 67),
 m 47 48]
def RO:List aa:=[
 m 49 0,
 m 50 0,
 m 51 2,
 op 52 (.nchk (t 49)),
 f 53 5 52,
 f 54 2 53,
 f 55 1 54,
 s 55 51,
 op 56 (.nchk (t 50)),
 f 57 5 56,
 f 58 5 57,
 op0 (.store 1 (t 58) (i 0))]
def RP:List aa:=[
 b 60 .eql (t 6) (i 68),
 m 59 60]
def Er:List aa:=[
 m 61 0,
 op 62 (.calls 256 [(t 61)])]
def Es:List aa:=[
 m 7 0,
 op 8 (.nchk (t 7)),
 f 9 0 8,
 f 10 4 9,
 op0 (.store 1 (t 10) (v B))]
def f255:IFn:=⟨(q (o RF) (bl 0 (q (o RG) (k 11 (o RH) (q (o RJ) (k 23 (o RK) (q (o RL) (k 35 (o RM) (q (o RN) (k 47 (o RO) (q (o RP) (k 59 (o Er) (o Es))))))))))))),[],63⟩
def RQ:List aa:=[
 x 1 209 0]
def RR:List aa:=[
 l 4 1,
 l 5 1,
 op 6 (.nchk (t 5)),
 f 7 5 6,
 f 8 0 7,
 la 9 2 8,
 l 10 1,
 op 11 (.nchk (t 10)),
 f 12 5 11,
 f 13 4 12,
 op 14 (.calls 121 [(t 4),(t 9),(t 13)])]
def RS:List aa:=[
 nw 2 217 [I,N,I],
 sn 3 2 15]
def RT:List aa:=[
 f 16 2 2,
 l 17 16,
 b 18 .neq (t 17) (i 0)]
def RU:List aa:=[
 f 19 1 2,
 l 20 19,
 c 21 169 [(t 20),(v B),(i 0),(i 512)],
 m 3 21]
def RW:List aa:=[
 m 22 3,
 b 23 .neq (t 22) (i 0)]
def RX:List aa:=[
 l 24 1,
 l 25 1,
 op 26 (.nchk (t 25)),
 f 27 5 26,
 f 28 0 27,
 la 29 2 28,
 f 30 0 2,
 l 31 30,
 m 32 3,
 op 33 (.calls 170 [(t 24),(t 29),(t 31),(t 32)])]
def RY:List aa:=[
 l 34 1,
 l 35 1,
 op 36 (.nchk (t 35)),
 f 37 0 36,
 f 38 2 37,
 l 39 38,
 l 40 1,
 op 41 (.nchk (t 40)),
 f 42 0 41,
 f 43 0 42,
 la 44 1 43,
 f 45 1 2,
 l 46 45,
 c 47 123 [(t 44),(t 46)],
 bs 48 1 [E] [(0,1,(t 47))],
 ap 49 1 16 39 48,
 op 50 (.nchk (t 34)),
 f 51 0 50,
 f 52 2 51,
 s 52 49]
def RZ:List aa:=[
 l 53 1,
 l 54 1,
 op 55 (.nchk (t 54)),
 f 56 0 55,
 f 57 0 56,
 la 58 1 57,
 l 59 1,
 op 60 (.nchk (t 59)),
 f 61 5 60,
 f 62 0 61,
 la 63 2 62,
 f 64 1 2,
 l 65 64,
 c 66 126 [(t 58),(t 63),(t 65)],
 op 67 (.nchk (t 53)),
 f 68 0 67,
 f 69 0 68,
 s 69 66]
def rV:IC:=(o RS)
def kc:IC:=(bl 1 (q (q (o RT) (k 18 (ex 1) K)) (q (q (o RU) (q (o RW) (k 23 (q (od RX) (ex 1)) K))) (q (od RY) (od RZ)))))
def f256:IFn:=⟨(q (o RQ) (q (od RR) (bl 0 (.rangeF (t 14) [15] rV kc)))),[],70⟩
end
noncomputable def kQ:FuncId→Option Prim:=fun f=>if f=123 then some (mF (ab FN0 20000)) else if f=242 then some mG else none
theorem XA:FN0 157=some (.code f157):=by kernel_rfl
theorem XB:FN0 172=some (.code f172):=by kernel_rfl
noncomputable def FN:FuncId→Option cr:=vx Tryz.prog hint kQ
theorem XC:FN 123=some (.prim (mF (ab FN0 20000))):=by kernel_rfl
theorem XD:FN 242=some (.prim mG):=by kernel_rfl
theorem fn3:FN 3=some (.code f3):=by kernel_rfl
theorem fn9:FN 9=some (.code f9):=by kernel_rfl
theorem ZR:FN 11=some (.code f11):=by kernel_rfl
theorem ZS:FN 12=some (.code f12):=by kernel_rfl
theorem ZT:FN 13=some (.code f13):=by kernel_rfl
theorem ZU:FN 14=some (.code f14):=by kernel_rfl
theorem ZV:FN 15=some (.code f15):=by kernel_rfl
theorem ZW:FN 16=some (.code f16):=by kernel_rfl
theorem ZX:FN 17=some (.code f17):=by kernel_rfl
theorem ZY:FN 18=some (.code f18):=by kernel_rfl
theorem ZZ:FN 19=some (.code f19):=by kernel_rfl
theorem Z0:FN 20=some (.code f20):=by kernel_rfl
theorem Z1:FN 21=some (.code f21):=by kernel_rfl
theorem Z2:FN 22=some (.code f22):=by kernel_rfl
theorem Z3:FN 28=some (.code f28):=by kernel_rfl
theorem Z4:FN 34=some (.code f34):=by kernel_rfl
theorem Z5:FN 35=some (.code f35):=by kernel_rfl
theorem R0:FN 36=some (.code f36):=by kernel_rfl
theorem Z6:FN 37=some (.code f37):=by kernel_rfl
theorem Z7:FN 41=some (.code f41):=by kernel_rfl
theorem Z8:FN 42=some (.code f42):=by kernel_rfl
theorem Z9:FN 43=some (.code f43):=by kernel_rfl
theorem aaa:FN 44=some (.code f44):=by kernel_rfl
theorem aab:FN 45=some (.code f45):=by kernel_rfl
theorem aac:FN 46=some (.code f46):=by kernel_rfl
theorem aad:FN 47=some (.code f47):=by kernel_rfl
theorem aae:FN 48=some (.code f48):=by kernel_rfl
theorem aaf:FN 49=some (.code f49):=by kernel_rfl
theorem aag:FN 50=some (.code f50):=by kernel_rfl
theorem aah:FN 51=some (.code f51):=by kernel_rfl
theorem aai:FN 52=some (.code f52):=by kernel_rfl
theorem pg:FN 53=some (.code f53):=by kernel_rfl
theorem R1:FN 54=some (.code f54):=by kernel_rfl
theorem aaj:FN 55=some (.code f55):=by kernel_rfl
theorem aak:FN 56=some (.code f56):=by kernel_rfl
theorem aal:FN 57=some (.code f57):=by kernel_rfl
theorem aam:FN 58=some (.code f58):=by kernel_rfl
theorem aan:FN 59=some (.code f59):=by kernel_rfl
theorem aao:FN 60=some (.code f60):=by kernel_rfl
theorem aap:FN 61=some (.code f61):=by kernel_rfl
theorem aaq:FN 62=some (.code f62):=by kernel_rfl
theorem aar:FN 63=some (.code f63):=by kernel_rfl
theorem aas:FN 69=some (.code f69):=by kernel_rfl
theorem aat:FN 77=some (.code f77):=by kernel_rfl
theorem XE:FN 101=some (.code f101):=by kernel_rfl
theorem XF:FN 103=some (.code f103):=by kernel_rfl
theorem XG:FN 104=some (.code f104):=by kernel_rfl
theorem XH:FN 105=some (.code f105):=by kernel_rfl
theorem XI:FN 106=some (.code f106):=by kernel_rfl
theorem XJ:FN 107=some (.code f107):=by kernel_rfl
theorem XK:FN 108=some (.code f108):=by kernel_rfl
theorem XL:FN 109=some (.code f109):=by kernel_rfl
theorem A9:FN 110=some (.code f110):=by kernel_rfl
theorem XM:FN 111=some (.code f111):=by kernel_rfl
theorem XN:FN 112=some (.code f112):=by kernel_rfl
theorem Ba:FN 113=some (.code f113):=by kernel_rfl
theorem Bb:FN 114=some (.code f114):=by kernel_rfl
theorem XO:FN 115=some (.code f115):=by kernel_rfl
theorem XP:FN 117=some (.code f117):=by kernel_rfl
theorem XQ:FN 118=some (.code f118):=by kernel_rfl
theorem XR:FN 120=some (.code f120):=by kernel_rfl
theorem XT:FN 121=some (.code f121):=by kernel_rfl
theorem XU:FN 126=some (.code f126):=by kernel_rfl
theorem XV:FN 127=some (.code f127):=by kernel_rfl
theorem XW:FN 129=some (.code f129):=by kernel_rfl
theorem XX:FN 130=some (.code f130):=by kernel_rfl
theorem XY:FN 131=some (.code f131):=by kernel_rfl
theorem XZ:FN 132=some (.code f132):=by kernel_rfl
theorem X0:FN 133=some (.code f133):=by kernel_rfl
theorem X1:FN 135=some (.code f135):=by kernel_rfl
theorem X2:FN 136=some (.code f136):=by kernel_rfl
theorem X3:FN 137=some (.code f137):=by kernel_rfl
theorem X4:FN 152=some (.code f152):=by kernel_rfl
theorem X5:FN 154=some (.code f154):=by kernel_rfl
theorem X6:FN 155=some (.code f155):=by kernel_rfl
theorem X7:FN 156=some (.code f156):=by kernel_rfl
theorem Bc:FN 157=some (.code f157):=by kernel_rfl
theorem X8:FN 158=some (.code f158):=by kernel_rfl
theorem X9:FN 159=some (.code f159):=by kernel_rfl
theorem Ya:FN 160=some (.code f160):=by kernel_rfl
theorem Yb:FN 161=some (.code f161):=by kernel_rfl
theorem Yc:FN 162=some (.code f162):=by kernel_rfl
theorem Yd:FN 163=some (.code f163):=by kernel_rfl
theorem Ye:FN 164=some (.code f164):=by kernel_rfl
theorem Yf:FN 165=some (.code f165):=by kernel_rfl
theorem Yg:FN 166=some (.code f166):=by kernel_rfl
theorem Yh:FN 167=some (.code f167):=by kernel_rfl
theorem Yi:FN 168=some (.code f168):=by kernel_rfl
theorem Yj:FN 169=some (.code f169):=by kernel_rfl
theorem Yk:FN 170=some (.code f170):=by kernel_rfl
theorem Yl:FN 171=some (.code f171):=by kernel_rfl
theorem Ym:FN 172=some (.code f172):=by kernel_rfl
theorem Yn:FN 176=some (.code f176):=by kernel_rfl
theorem Yo:FN 177=some (.code f177):=by kernel_rfl
theorem Yp:FN 178=some (.code f178):=by kernel_rfl
theorem Yq:FN 179=some (.code f179):=by kernel_rfl
theorem Yr:FN 180=some (.code f180):=by kernel_rfl
theorem Ys:FN 182=some (.code f182):=by kernel_rfl
theorem Yt:FN 183=some (.code f183):=by kernel_rfl
theorem Yu:FN 184=some (.code f184):=by kernel_rfl
theorem Yv:FN 189=some (.code f189):=by kernel_rfl
theorem Yw:FN 190=some (.code f190):=by kernel_rfl
theorem Yx:FN 191=some (.code f191):=by kernel_rfl
theorem Yy:FN 192=some (.code f192):=by kernel_rfl
theorem Yz:FN 193=some (.code f193):=by kernel_rfl
theorem YA:FN 194=some (.code f194):=by kernel_rfl
theorem YB:FN 195=some (.code f195):=by kernel_rfl
theorem YC:FN 196=some (.code f196):=by kernel_rfl
theorem YD:FN 198=some (.code f198):=by kernel_rfl
theorem Bd:FN 199=some (.code f199):=by kernel_rfl
theorem YE:FN 200=some (.code f200):=by kernel_rfl
theorem YF:FN 201=some (.code f201):=by kernel_rfl
theorem YG:FN 202=some (.code f202):=by kernel_rfl
theorem YH:FN 203=some (.code f203):=by kernel_rfl
theorem YI:FN 204=some (.code f204):=by kernel_rfl
theorem YJ:FN 205=some (.code f205):=by kernel_rfl
theorem YK:FN 206=some (.code f206):=by kernel_rfl
theorem YL:FN 208=some (.code f208):=by kernel_rfl
theorem YM:FN 224=some (.code f224):=by kernel_rfl
theorem Be:FN 225=some (.code f225):=by kernel_rfl
theorem Bf:FN 226=some (.code f226):=by kernel_rfl
theorem YN:FN 227=some (.code f227):=by kernel_rfl
theorem YO:FN 228=some (.code f228):=by kernel_rfl
theorem YP:FN 229=some (.code f229):=by kernel_rfl
theorem YQ:FN 230=some (.code f230):=by kernel_rfl
theorem YR:FN 231=some (.code f231):=by kernel_rfl
theorem YS:FN 232=some (.code f232):=by kernel_rfl
theorem Bg:FN 233=some (.code f233):=by kernel_rfl
theorem YT:FN 234=some (.code f234):=by kernel_rfl
theorem YU:FN 235=some (.code f235):=by kernel_rfl
theorem YV:FN 236=some (.code f236):=by kernel_rfl
theorem Bh:FN 237=some (.code f237):=by kernel_rfl
theorem YW:FN 238=some (.code f238):=by kernel_rfl
theorem YX:FN 239=some (.code f239):=by kernel_rfl
theorem YY:FN 240=some (.code f240):=by kernel_rfl
theorem YZ:FN 241=some (.code f241):=by kernel_rfl
theorem Y0:FN 243=some (.code f243):=by kernel_rfl
theorem Bi:FN 244=some (.code f244):=by kernel_rfl
theorem Bj:FN 245=some (.code f245):=by kernel_rfl
theorem Y1:FN 246=some (.code f246):=by kernel_rfl
theorem Y2:FN 247=some (.code f247):=by kernel_rfl
theorem Bk:FN 248=some (.code f248):=by kernel_rfl
theorem Y3:FN 249=some (.code f249):=by kernel_rfl
theorem Y4:FN 250=some (.code f250):=by kernel_rfl
theorem Y5:FN 251=some (.code f251):=by kernel_rfl
theorem Bl:FN 252=some (.code f252):=by kernel_rfl
theorem Y6:FN 253=some (.code f253):=by kernel_rfl
theorem Y7:FN 254=some (.code f254):=by kernel_rfl
theorem Y8:FN 255=some (.code f255):=by kernel_rfl
theorem Y9:FN 256=some (.code f256):=by kernel_rfl
end Go.Proofs.YtepcejdglbcbkaaGreat
