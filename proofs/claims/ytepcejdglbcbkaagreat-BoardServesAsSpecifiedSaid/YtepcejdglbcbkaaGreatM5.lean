/- Part of the texts on which proofs about this seat rest: each says what it proves at its own head. No condition. -/
import Derived.Test.YtepcejdglbcbkaaGreatM4
import Derived.KernelRfl
set_option linter.unusedVariables false
set_option linter.unusedSimpArgs false
/- The resolved functions of this seat, as printed (wip/abs/Print.lean), and the table of them. No condition. -/
namespace Go.Proofs.YtepcejdglbcbkaaGreat
open Go.Abs
section
open Go.O
def ZL:List aa:=[
 op 5 (.boxp (t 0)),
 op 6 (.boxp (t 1)),
 op 9 (.boxp (t 4)),
 mc 10 (v B)]
def ZM:List aa:=[
 la 17 43 5,
 la 18 1 6,
 c 19 9 [(t 17),(t 18)],
 op 20 (.un .not (t 19)),
 m 21 20,
 g 21 false (m 22 3),
 g 21 false (b 23 .lss (t 22) (i 0)),
 op 24 (.pick (t 21) (v (.bool true)) (t 23)),
 m 25 24,
 g 25 false (m 26 3),
 g 25 false (b 27 .gtr (t 26) (i 1099511627776)),
 op 28 (.pick (t 25) (v (.bool true)) (t 27))]
def ZN:List aa:=[
 c 29 10 [],
 m 10 29]
def ZO:List aa:=[
 la 30 43 5,
 la 31 1 6,
 c 32 11 [(t 30),(t 31)],
 la 33 43 5,
 la 34 1 6,
 c 35 12 [(t 33),(t 34)],
 op 36 (.eq true 1 (t 32) (t 35))]
def ZP:List aa:=[
 mc 10 (v B)]
def ZQ:List aa:=[
 la 37 43 5,
 la 38 1 6,
 c 39 12 [(t 37),(t 38)],
 op 40 (.un .not (t 39))]
def ZR:List aa:=[
 c 41 10 [],
 m 10 41]
def ZS:List aa:=[
 m 42 2,
 cv 43 .i64 42,
 f 44 0 5,
 f 45 0 44,
 l 46 45,
 b 47 .rem (t 43) (t 46),
 m 11 47]
def ZT:List aa:=[
 la 49 43 5,
 la 50 1 6,
 m 51 11,
 m 52 3,
 la 53 3 9,
 c 54 13 [(t 49),(t 50),(t 51),(t 52),(t 53)],
 m 48 54,
 e 55 48 0,
 e 56 48 1,
 nw 12 42 [I,U,U,U,U,U,U,U,U,I,I,I,I,I,I,B,B,B,B,I,I,I,I,I,I,I,I,E,I,U,U,I,I,N,N,U,U,U,U,I,I,I,I],
 nw 13 52 [N,U,N,I],
 sn 43 12 55,
 sn 4 13 56]
def ZU:List aa:=[
 la 57 43 5,
 la 58 1 6,
 m 59 11,
 m 60 3,
 la 61 3 9,
 c 62 14 [(t 57),(t 58),(t 59),(t 60),(t 61)],
 nw 14 56 [I,U,U,U,U,U,U,U,U,I,I,I,I,I,I,B,B,B,B,I,I,I,I,I,I,I,I,E,I,U,U,I,I,N,N,U,U,U,U,I,I,I,I,N,U,N,I],
 sn 47 14 62]
def TC:List aa:=[
 la 63 43 5,
 c 64 15 [(t 63)],
 la 65 43 5,
 c 66 16 [(t 65)],
 m 15 64,
 m 16 66]
def TE:List aa:=[
 m 67 15,
 n 68 2 67,
 b 69 .neq (t 68) (i 3),
 m 70 69,
 g 70 false (m 71 15),
 g 70 false (is 72 2 71 (i 0)),
 g 70 false (la 73 2 72),
 g 70 false (m 74 16),
 g 70 false (is 75 2 74 (i 0)),
 g 70 false (la 76 2 75),
 g 70 false (op 77 (.eqA true [0,0] (t 73) (t 76))),
 op 78 (.pick (t 70) (v (.bool true)) (t 77)),
 m 79 78,
 g 79 false (m 80 15),
 g 79 false (is 81 2 80 (i 1)),
 g 79 false (la 82 2 81),
 g 79 false (m 83 16),
 g 79 false (is 84 2 83 (i 1)),
 g 79 false (la 85 2 84),
 g 79 false (op 86 (.eqA true [0,0] (t 82) (t 85))),
 op 87 (.pick (t 79) (v (.bool true)) (t 86)),
 m 88 87,
 g 88 false (m 89 15),
 g 88 false (is 90 2 89 (i 2)),
 g 88 false (la 91 2 90),
 g 88 false (m 92 16),
 g 88 false (is 93 2 92 (i 2)),
 g 88 false (la 94 2 93),
 g 88 false (op 95 (.eqA true [0,0] (t 91) (t 94))),
 op 96 (.pick (t 88) (v (.bool true)) (t 95))]
def TF:List aa:=[
 mc 10 (v B)]
def TG:List aa:=[
 c 97 10 [],
 m 98 97,
 g 98 true (la 99 43 12),
 g 98 true (f 100 0 14),
 g 98 true (la 101 43 100),
 g 98 true (c 102 17 [(t 99),(t 101)]),
 op 103 (.pick (t 98) (t 102) (v B)),
 m 104 103,
 g 104 true (la 105 4 13),
 g 104 true (f 106 43 14),
 g 104 true (la 107 4 106),
 g 104 true (c 108 18 [(t 105),(t 107)]),
 op 109 (.pick (t 104) (t 108) (v B)),
 m 110 109,
 g 110 true (la 111 43 5),
 g 110 true (m 112 11),
 g 110 true (c 113 19 [(t 111),(t 112)]),
 g 110 true (la 114 43 5),
 g 110 true (m 115 11),
 g 110 true (c 116 20 [(t 114),(t 115)]),
 g 110 true (b 117 .eql (t 113) (t 116)),
 op 118 (.pick (t 110) (t 117) (v B)),
 m 119 118,
 g 119 true (la 120 43 5),
 g 119 true (m 121 11),
 g 119 true (m 122 3),
 g 119 true (c 123 21 [(t 120),(t 121),(t 122)]),
 g 119 true (la 124 43 5),
 g 119 true (m 125 11),
 g 119 true (m 126 3),
 g 119 true (c 127 22 [(t 124),(t 125),(t 126)]),
 g 119 true (c 128 17 [(t 123),(t 127)]),
 op 129 (.pick (t 119) (t 128) (v B)),
 m 10 129]
def f3:IFn:=⟨(q (o ZL) (q (q (o ZM) (k 28 (q (o ZN) R) K)) (q (q (od ZO) (k 36 (q (o ZP) R) K)) (q (q (o ZQ) (k 40 (q (o ZR) R) K)) (q (o ZS) (q (o ZT) (q (o ZU) (q (od TC) (q (q (od TE) (k 96 (q (o TF) R) K)) (q (od TG) R)))))))))),[.t 10],130⟩
def ZV:List aa:=[
 op 2 (.boxp (t 0)),
 op 3 (.boxp (t 1)),
 mc 4 (v B)]
def ZW:List aa:=[
 la 5 1 3,
 c 6 36 [(t 5)],
 m 7 6,
 g 7 true (f 8 29 2),
 g 7 true (f 9 4 8),
 g 7 true (l 10 9),
 g 7 true (n 11 128 10),
 g 7 true (b 12 .leq (t 11) (i 70)),
 op 13 (.pick (t 7) (t 12) (v B)),
 m 14 13,
 g 14 true (f 15 29 2),
 g 14 true (f 16 5 15),
 g 14 true (l 17 16),
 g 14 true (n 18 5 17),
 g 14 true (b 19 .leq (t 18) (i 20)),
 op 20 (.pick (t 14) (t 19) (v B)),
 m 21 20,
 g 21 true (f 22 27 2),
 g 21 true (f 23 0 22),
 g 21 true (l 24 23),
 g 21 true (ns 25 24),
 g 21 true (b 26 .leq (t 25) (i 200)),
 op 27 (.pick (t 21) (t 26) (v B)),
 m 28 27,
 g 28 true (f 29 29 2),
 g 28 true (la 30 6 29),
 g 28 true (la 31 1 3),
 g 28 true (c 32 37 [(t 30),(t 31)]),
 op 33 (.pick (t 28) (t 32) (v B)),
 m 4 33]
def f9:IFn:=⟨(q (o ZV) (q (o ZW) R)),[.t 4],34⟩
def TH:List aa:=[
 op 2 (.boxp (t 0)),
 op 3 (.boxp (t 1)),
 mc 4 (v B)]
def TJ:List aa:=[
 f 5 0 2,
 la 6 14 5,
 c 7 41 [(t 6)],
 m 8 7,
 g 8 true (f 9 14 2),
 g 8 true (la 10 13 9),
 g 8 true (c 11 42 [(t 10)]),
 op 12 (.pick (t 8) (t 11) (v B)),
 m 13 12,
 g 13 true (f 14 27 2),
 g 13 true (la 15 2 14),
 g 13 true (c 16 43 [(t 15)]),
 op 17 (.pick (t 13) (t 16) (v B)),
 m 18 17,
 g 18 true (f 19 29 2),
 g 18 true (la 20 6 19),
 g 18 true (la 21 1 3),
 g 18 true (c 22 44 [(t 20),(t 21)]),
 op 23 (.pick (t 18) (t 22) (v B)),
 m 24 23,
 g 24 true (f 25 35 2),
 g 24 true (la 26 8 25),
 g 24 true (c 27 45 [(t 26)]),
 op 28 (.pick (t 24) (t 27) (v B)),
 m 4 28]
def f11:IFn:=⟨(q (o TH) (q (o TJ) R)),[.t 4],29⟩
def TK:List aa:=[
 op 2 (.boxp (t 0)),
 op 3 (.boxp (t 1)),
 mc 4 (v B)]
def TL:List aa:=[
 f 5 0 2,
 la 6 14 5,
 c 7 46 [(t 6)],
 m 8 7,
 g 8 true (f 9 14 2),
 g 8 true (la 10 13 9),
 g 8 true (c 11 47 [(t 10)]),
 op 12 (.pick (t 8) (t 11) (v B)),
 m 13 12,
 g 13 true (f 14 27 2),
 g 13 true (la 15 2 14),
 g 13 true (c 16 48 [(t 15)]),
 op 17 (.pick (t 13) (t 16) (v B)),
 m 18 17,
 g 18 true (f 19 29 2),
 g 18 true (la 20 6 19),
 g 18 true (la 21 1 3),
 g 18 true (c 22 49 [(t 20),(t 21)]),
 op 23 (.pick (t 18) (t 22) (v B)),
 m 24 23,
 g 24 true (f 25 35 2),
 g 24 true (la 26 8 25),
 g 24 true (c 27 50 [(t 26)]),
 op 28 (.pick (t 24) (t 27) (v B)),
 m 4 28]
def f12:IFn:=⟨(q (o TK) (q (o TL) R)),[.t 4],29⟩
def TM:List aa:=[
 op 5 (.boxp (t 0)),
 op 6 (.boxp (t 1)),
 op 9 (.boxp (t 4)),
 nw 10 42 [I,U,U,U,U,U,U,U,U,I,I,I,I,I,I,B,B,B,B,I,I,I,I,I,I,I,I,E,I,U,U,I,I,N,N,U,U,U,U,I,I,I,I],
 nw 11 52 [N,U,N,I]]
def TN:List aa:=[
 la 14 43 5,
 la 15 1 6,
 m 16 2,
 m 17 3,
 la 18 3 9,
 bd 19 [I,U,U,U,U,U,U,U,U,I,I,I,I,I,I,B,B,B,B,I,I,I,I,I,I,I,I,E,I,U,U,I,I,N,N,U,U,U,U,I,I,I,I,N,I,I,B,I,U] [(0,43,(t 14)),(43,1,(t 15)),(44,1,(t 16)),(45,1,(t 17)),(46,3,(t 18))],
 nw 12 108 [I,U,U,U,U,U,U,U,U,I,I,I,I,I,I,B,B,B,B,I,I,I,I,I,I,I,I,E,I,U,U,I,I,N,N,U,U,U,U,I,I,I,I,N,I,I,B,I,U],
 sn 49 12 19]
def TO:List aa:=[
 la 20 49 12,
 bd 21 [I,U,U,U,U,U,U,U,U,I,I,I,I,I,I,B,B,B,B,I,I,I,I,I,I,I,I,E,I,U,U,I,I,N,N,U,U,U,U,I,I,I,I,N,I,I,B,I,U] [(0,49,(t 20))],
 op 22 (.mkif 110 (t 21)),
 la 23 49 12,
 bd 24 [I,U,U,U,U,U,U,U,U,I,I,I,I,I,I,B,B,B,B,I,I,I,I,I,I,I,I,E,I,U,U,I,I,N,N,U,U,U,U,I,I,I,I,N,I,I,B,I,U] [(0,49,(t 23))],
 op 25 (.mkif 111 (t 24)),
 la 26 49 12,
 bd 27 [I,U,U,U,U,U,U,U,U,I,I,I,I,I,I,B,B,B,B,I,I,I,I,I,I,I,I,E,I,U,U,I,I,N,N,U,U,U,U,I,I,I,I,N,I,I,B,I,U] [(0,49,(t 26))],
 op 28 (.mkif 112 (t 27)),
 la 29 49 12,
 bd 30 [I,U,U,U,U,U,U,U,U,I,I,I,I,I,I,B,B,B,B,I,I,I,I,I,I,I,I,E,I,U,U,I,I,N,N,U,U,U,U,I,I,I,I,N,I,I,B,I,U] [(0,49,(t 29))],
 op 31 (.mkif 113 (t 30)),
 la 32 49 12,
 bd 33 [I,U,U,U,U,U,U,U,U,I,I,I,I,I,I,B,B,B,B,I,I,I,I,I,I,I,I,E,I,U,U,I,I,N,N,U,U,U,U,I,I,I,I,N,I,I,B,I,U] [(0,49,(t 32))],
 op 34 (.mkif 114 (t 33)),
 bd 35 [.nilif,.nilif,.nilif,.nilif,.nilif] [(0,1,(t 22)),(1,1,(t 25)),(2,1,(t 28)),(3,1,(t 31)),(4,1,(t 34))],
 nw 13 117 [.nilif,.nilif,.nilif,.nilif,.nilif],
 sn 5 13 35]
def TP:List aa:=[
 f 36 1 9,
 l 37 36,
 b 38 .lss (t 37) (i 0),
 m 39 38,
 g 39 false (f 40 1 9),
 g 39 false (l 41 40),
 g 39 false (b 42 .quo (t 41) (i 16)),
 g 39 false (b 43 .geq (t 42) (i 5)),
 op 44 (.pick (t 39) (v (.bool true)) (t 43))]
def TQ:List aa:=[
 la 45 49 12,
 c 46 51 [(t 45),(i 5)],
 e 47 46 0,
 e 48 46 1,
 sn 43 10 47,
 sn 4 11 48]
def TR:List aa:=[
 f 49 1 9,
 l 50 49,
 b 51 .quo (t 50) (i 16),
 ia 52 5 1 13 (t 51),
 l 53 52,
 op 54 (.calli [(110,225),(111,233),(112,237),(113,244),(114,252)] (t 53) []),
 e 55 54 0,
 e 56 54 1,
 sn 43 10 55,
 sn 4 11 56]
def f13:IFn:=⟨(q (o TM) (q (o TN) (q (o TO) (q (q (o TP) (k 44 (q (o TQ) R) K)) (q (o TR) R))))),[.cell 10 43 true,.cell 11 4 true],57⟩
def TT:List aa:=[
 x 5 42 0,
 op 6 (.boxp (t 1)),
 op 9 (.boxp (t 4)),
 nw 10 56 [I,U,U,U,U,U,U,U,U,I,I,I,I,I,I,B,B,B,B,I,I,I,I,I,I,I,I,E,I,U,U,I,I,N,N,U,U,U,U,I,I,I,I,N,U,N,I]]
def TU:List aa:=[
 f 13 1 9,
 l 14 13,
 b 15 .lss (t 14) (i 0),
 m 16 15,
 g 16 false (f 17 1 9),
 g 16 false (l 18 17),
 g 16 false (b 19 .geq (t 18) (i 80)),
 op 20 (.pick (t 16) (v (.bool true)) (t 19))]
def TV:List aa:=[
 la 21 43 5,
 la 22 1 6,
 c 23 52 [(t 21),(t 22),(i 5)],
 sn 47 10 23]
def TW:List aa:=[
 f 24 1 9,
 l 25 24,
 b 26 .lss (t 25) (i 48)]
def TY:List aa:=[
 la 27 43 5,
 la 28 1 6,
 m 29 2,
 m 30 3,
 la 31 3 9,
 c 32 53 [(t 27),(t 28),(t 29),(t 30),(t 31)],
 sn 47 10 32]
def TZ:List aa:=[
 f 33 1 9,
 l 34 33,
 b 35 .lss (t 34) (i 64)]
def T2:List aa:=[
 f 36 29 5,
 la 37 6 36,
 la 38 1 6,
 la 39 3 9,
 c 40 54 [(t 37),(t 38),(t 39)],
 nw 11 124 [U,U,I,I,N,N,N,U,N,B,B],
 sn 11 11 40]
def T3:List aa:=[
 f 41 6 11,
 f 42 4 41,
 l 43 42,
 op 44 (.un .not (t 43))]
def T4:List aa:=[
 la 45 43 5,
 la 46 1 6,
 c 47 52 [(t 45),(t 46),(i 5)],
 sn 47 10 47]
def T5:List aa:=[
 f 48 0 11,
 la 49 6 48,
 f 50 29 5,
 sn 6 50 49]
def FG:List aa:=[
 la 51 43 5,
 f 52 6 11,
 f 53 3 52,
 l 54 53,
 c 55 55 [(t 51),(i 2),(t 54)],
 f 56 6 11,
 f 57 0 56,
 la 58 1 57,
 f 59 6 11,
 f 60 1 59,
 l 61 60,
 bd 62 [N,U,N,I] [(0,1,(t 58)),(1,1,(t 61))],
 bd 63 [I,U,U,U,U,U,U,U,U,I,I,I,I,I,I,B,B,B,B,I,I,I,I,I,I,I,I,E,I,U,U,I,I,N,N,U,U,U,U,I,I,I,I,N,U,N,I] [(0,43,(t 55)),(43,4,(t 62))],
 sn 47 10 63]
def FH:List aa:=[
 f 64 35 5,
 la 65 8 64,
 la 66 1 6,
 la 67 3 9,
 c 68 56 [(t 65),(t 66),(t 67)],
 nw 12 128 [U,U,U,U,I,I,I,I,N,U,N,B,B],
 sn 13 12 68]
def FI:List aa:=[
 f 69 8 12,
 f 70 4 69,
 l 71 70,
 op 72 (.un .not (t 71))]
def FJ:List aa:=[
 la 73 43 5,
 la 74 1 6,
 c 75 52 [(t 73),(t 74),(i 5)],
 sn 47 10 75]
def FK:List aa:=[
 f 76 0 12,
 la 77 8 76,
 f 78 35 5,
 sn 8 78 77]
def FL:List aa:=[
 la 79 43 5,
 f 80 8 12,
 f 81 3 80,
 l 82 81,
 c 83 55 [(t 79),(i 3),(t 82)],
 f 84 8 12,
 f 85 0 84,
 la 86 1 85,
 f 87 8 12,
 f 88 1 87,
 l 89 88,
 m 90 2,
 m 91 3,
 f 92 8 12,
 f 93 2 92,
 l 94 93,
 c 95 57 [(i 2),(t 90),(t 91),(t 94)],
 bd 96 [N,U,N,I] [(0,1,(t 86)),(1,1,(t 89)),(2,1,(t 95))],
 bd 97 [I,U,U,U,U,U,U,U,U,I,I,I,I,I,I,B,B,B,B,I,I,I,I,I,I,I,I,E,I,U,U,I,I,N,N,U,U,U,U,I,I,I,I,N,U,N,I] [(0,43,(t 83)),(43,4,(t 96))],
 sn 47 10 97]
def f14:IFn:=⟨(q (o TT) (q (q (o TU) (k 20 (q (o TV) R) K)) (q (q (o TW) (k 26 (q (o TY) R) K)) (q (q (o TZ) (k 35 (q (o T2) (q (q (o T3) (k 44 (q (o T4) R) K)) (q (o T5) (q (od FG) R)))) K)) (q (o FH) (q (q (o FI) (k 72 (q (o FJ) R) K)) (q (o FK) (q (od FL) R)))))))),[.cell 10 47 true],98⟩
def T6:List aa:=[
 op 1 (.boxp (t 0)),
 mc 2 (v N)]
def T7:List aa:=[
 f 3 29 1,
 f 4 0 3,
 la 5 2 4,
 f 6 35 1,
 f 7 0 6,
 la 8 2 7,
 f 9 35 1,
 f 10 2 9,
 la 11 2 10,
 bs 12 2 [U,U,U,U,U,U] [(0,2,(t 5)),(2,2,(t 8)),(4,2,(t 11))],
 m 2 12]
def f15:IFn:=⟨(q (o T6) (q (o T7) R)),[.t 2],13⟩
def T8:List aa:=[
 op 1 (.boxp (t 0)),
 mc 2 (v N)]
def T9:List aa:=[
 f 3 29 1,
 f 4 0 3,
 la 5 2 4,
 f 6 35 1,
 f 7 0 6,
 la 8 2 7,
 f 9 35 1,
 f 10 2 9,
 la 11 2 10,
 bs 12 2 [U,U,U,U,U,U] [(0,2,(t 5)),(2,2,(t 8)),(4,2,(t 11))],
 m 2 12]
def f16:IFn:=⟨(q (o T8) (q (o T9) R)),[.t 2],13⟩
def Ua:List aa:=[
 op 2 (.boxp (t 0)),
 op 3 (.boxp (t 1)),
 mc 4 (v B)]
def Ub:List aa:=[
 f 5 0 2,
 la 6 14 5,
 f 7 0 3,
 la 8 14 7,
 op 9 (.eqA false [0,0,0,0,0,0,0,0,0,0,0,0,0,0] (t 6) (t 8)),
 m 10 9,
 g 10 true (f 11 14 2),
 g 10 true (la 12 13 11),
 g 10 true (f 13 14 3),
 g 10 true (la 14 13 13),
 g 10 true (op 15 (.eqA false [0,1,1,1,1,0,0,0,0,0,0,0,0] (t 12) (t 14))),
 op 16 (.pick (t 10) (t 15) (v B)),
 m 17 16,
 g 17 true (f 18 27 2),
 g 17 true (la 19 2 18),
 g 17 true (f 20 27 3),
 g 17 true (la 21 2 20),
 g 17 true (op 22 (.eqA false [2,0] (t 19) (t 21))),
 op 23 (.pick (t 17) (t 22) (v B)),
 m 24 23,
 g 24 true (f 25 35 2),
 g 24 true (la 26 8 25),
 g 24 true (f 27 35 3),
 g 24 true (la 28 8 27),
 g 24 true (op 29 (.eqA false [0,0,0,0,0,0,0,0] (t 26) (t 28))),
 op 30 (.pick (t 24) (t 29) (v B)),
 m 31 30,
 g 31 true (f 32 29 2),
 g 31 true (la 33 6 32),
 g 31 true (f 34 29 3),
 g 31 true (la 35 6 34),
 g 31 true (c 36 34 [(t 33),(t 35)]),
 op 37 (.pick (t 31) (t 36) (v B)),
 m 4 37]
def f17:IFn:=⟨(q (o Ua) (q (o Ub) R)),[.t 4],38⟩
def Uc:List aa:=[
 op 2 (.boxp (t 0)),
 op 3 (.boxp (t 1)),
 mc 4 (v B)]
def Ud:List aa:=[
 f 5 1 2,
 l 6 5,
 f 7 1 3,
 l 8 7,
 b 9 .eql (t 6) (t 8),
 m 10 9,
 g 10 true (f 11 3 2),
 g 10 true (l 12 11),
 g 10 true (f 13 3 3),
 g 10 true (l 14 13),
 g 10 true (b 15 .eql (t 12) (t 14)),
 op 16 (.pick (t 10) (t 15) (v B)),
 m 17 16,
 g 17 true (f 18 2 2),
 g 17 true (l 19 18),
 g 17 true (f 20 2 3),
 g 17 true (l 21 20),
 g 17 true (c 22 35 [(t 19),(t 21)]),
 op 23 (.pick (t 17) (t 22) (v B)),
 m 24 23,
 g 24 true (f 25 0 2),
 g 24 true (la 26 1 25),
 g 24 true (f 27 0 3),
 g 24 true (la 28 1 27),
 g 24 true (c 29 28 [(t 26),(t 28)]),
 op 30 (.pick (t 24) (t 29) (v B)),
 m 4 30]
def f18:IFn:=⟨(q (o Uc) (q (o Ud) R)),[.t 4],31⟩
def Ue:List aa:=[
 op 2 (.boxp (t 0)),
 mc 4 (w 0)]
def Uf:List aa:=[
 f 5 0 2,
 la 6 14 5,
 m 7 1,
 c 8 58 [(t 6),(t 7)],
 m 4 8]
def f19:IFn:=⟨(q (o Ue) (q (o Uf) R)),[.t 4],9⟩
def Ug:List aa:=[
 op 2 (.boxp (t 0)),
 mc 4 (w 0)]
def Uh:List aa:=[
 f 5 0 2,
 la 6 14 5,
 m 7 1,
 c 8 59 [(t 6),(t 7)],
 m 4 8]
def f20:IFn:=⟨(q (o Ug) (q (o Uh) R)),[.t 4],9⟩
def Ui:List aa:=[
 x 3 42 0,
 nw 6 42 [I,U,U,U,U,U,U,U,U,I,I,I,I,I,I,B,B,B,B,I,I,I,I,I,I,I,I,E,I,U,U,I,I,N,N,U,U,U,U,I,I,I,I]]
def Uj:List aa:=[
 f 10 14 3,
 la 11 13 10,
 m 12 1,
 m 13 2,
 c 14 60 [(t 11),(t 12),(t 13)],
 m 9 14,
 e 15 9 0,
 e 16 9 1,
 nw 7 30 [I,B,B,B,B,I,I,I,I,I,I,I,I],
 sn 13 7 15,
 m 8 16]
def Uk:List aa:=[
 la 17 13 7,
 f 18 14 3,
 sn 13 18 17]
def Ul:List aa:=[
 m 19 8]
def Um:List aa:=[
 f 20 0 3,
 la 21 14 20,
 m 22 1,
 c 23 61 [(t 21),(i 0),(t 22)],
 f 24 0 3,
 sn 14 24 23]
def Un:List aa:=[
 la 25 43 3,
 sn 43 6 25]
def f21:IFn:=⟨(q (o Ui) (q (o Uj) (q (o Uk) (q (q (o Ul) (k 19 (o Um) K)) (q (o Un) R))))),[.cell 6 43 true],26⟩
def Uo:List aa:=[
 x 3 42 0,
 nw 6 42 [I,U,U,U,U,U,U,U,U,I,I,I,I,I,I,B,B,B,B,I,I,I,I,I,I,I,I,E,I,U,U,I,I,N,N,U,U,U,U,I,I,I,I]]
def Up:List aa:=[
 f 8 14 3,
 la 9 13 8,
 m 10 1,
 m 11 2,
 c 12 62 [(t 9),(t 10),(t 11)],
 nw 7 136 [I,B,B,B,B,I,I,I,I,I,I,I,I,U,B,I],
 sn 16 7 12]
def Uq:List aa:=[
 f 13 0 7,
 la 14 13 13,
 f 15 14 3,
 sn 13 15 14]
def Ur:List aa:=[
 f 16 14 7,
 l 17 16]
def Us:List aa:=[
 f 18 0 3,
 la 19 14 18,
 m 20 1,
 c 21 63 [(t 19),(i 0),(t 20)],
 f 22 0 3,
 sn 14 22 21]
def Ut:List aa:=[
 la 23 43 3,
 sn 43 6 23]
def f22:IFn:=⟨(q (o Uo) (q (o Up) (q (o Uq) (q (q (o Ur) (k 17 (o Us) K)) (q (o Ut) R))))),[.cell 6 43 true],24⟩
def Uu:List aa:=[
 x 2 44 0,
 x 3 44 1,
 mc 4 (v B)]
def Uv:List aa:=[
 la 5 1 2,
 la 6 1 3,
 c 7 77 [(t 5),(t 6)],
 n 8 1 7,
 b 9 .eql (t 8) (i 0),
 m 4 9]
def f28:IFn:=⟨(q (o Uu) (q (o Uv) R)),[.t 4],10⟩
def Uw:List aa:=[
 x 2 38 0,
 x 3 38 1,
 mc 4 (v B)]
def Ux:List aa:=[
 la 5 6 2,
 c 6 101 [(t 5)],
 op 7 (.b2s (t 6)),
 la 8 6 3,
 c 9 101 [(t 8)],
 op 10 (.b2s (t 9)),
 b 11 .eql (t 7) (t 10),
 m 4 11]
def f34:IFn:=⟨(q (o Uw) (q (od Ux) R)),[.t 4],12⟩
def Uy:List aa:=[
 mc 4 (v B)]
def Uz:List aa:=[
 m 6 0,
 n 7 5 6,
 m 8 1,
 n 9 5 8,
 b 10 .neq (t 7) (t 9)]
def UA:List aa:=[
 mc 4 (v B)]
def UB:List aa:=[
 mc 5 (i 0)]
def UC:List aa:=[
 m 11 5,
 m 12 0,
 n 13 5 12,
 b 14 .lss (t 11) (t 13)]
def UD:List aa:=[
 m 17 0,
 m 18 5,
 is 19 5 17 (t 18),
 la 20 5 19,
 m 21 1,
 m 22 5,
 is 23 5 21 (t 22),
 la 24 5 23,
 op 25 (.eqA true [0,0,0,0,2] (t 20) (t 24))]
def UE:List aa:=[
 mc 4 (v B)]
def UF:List aa:=[
 m 15 5,
 b 16 .add (t 15) (i 1),
 m 5 16]
def UG:IC:=(q (q (o UC) (k 14 K (ex 0))) (q (bl 1 (q (od UD) (k 25 (q (o UE) R) K))) (o UF)))
def UH:List aa:=[
 mc 4 (v (.bool true))]
def f35:IFn:=⟨(q (o Uy) (q (q (o Uz) (k 10 (q (o UA) R) K)) (q (q (o UB) (bl 0 (lp UG))) (q (o UH) R)))),[.t 4],26⟩
def UI:List aa:=[
 x 1 44 0,
 mc 2 (v B)]
def UJ:List aa:=[
 f 3 0 1,
 l 4 3,
 n 5 128 4,
 b 6 .geq (t 5) (i 1),
 m 7 6,
 g 7 true (f 8 0 1),
 g 7 true (l 9 8),
 g 7 true (n 10 128 9),
 g 7 true (b 11 .leq (t 10) (i 64)),
 op 12 (.pick (t 7) (t 11) (v B)),
 m 2 12]
def f36:IFn:=⟨(q (o UI) (q (o UJ) R)),[.t 2],13⟩
def UK:List aa:=[
 x 2 38 0,
 x 3 44 1,
 mc 4 (v B)]
def UL:List aa:=[
 mc 5 (i 0)]
def UM:List aa:=[
 m 6 5,
 f 7 5 2,
 l 8 7,
 n 9 5 8,
 b 10 .lss (t 6) (t 9),
 m 11 10,
 g 11 true (m 12 5),
 g 11 true (b 13 .lss (t 12) (i 11)),
 op 14 (.pick (t 11) (t 13) (v B))]
def UN:List aa:=[
 f 17 5 2,
 l 18 17,
 m 19 5,
 is 20 5 18 (t 19),
 f 21 4 20,
 l 22 21,
 n 23 4 22,
 b 24 .gtr (t 23) (i 10)]
def UO:List aa:=[
 mc 4 (v B)]
def UP:List aa:=[
 m 15 5,
 b 16 .add (t 15) (i 1),
 m 5 16]
def UQ:IC:=(q (q (o UM) (k 14 K (ex 0))) (q (bl 1 (q (o UN) (k 24 (q (o UO) R) K))) (o UP)))
def UR:List aa:=[
 f 25 0 3,
 l 26 25,
 n 27 128 26,
 b 28 .leq (t 27) (i 16),
 m 29 28,
 g 29 true (f 30 4 2),
 g 29 true (l 31 30),
 g 29 true (n 32 128 31),
 g 29 true (b 33 .leq (t 32) (i 16)),
 op 34 (.pick (t 29) (t 33) (v B)),
 m 35 34,
 g 35 true (f 36 5 2),
 g 35 true (l 37 36),
 g 35 true (n 38 5 37),
 g 35 true (b 39 .leq (t 38) (i 10)),
 op 40 (.pick (t 35) (t 39) (v B)),
 m 4 40]
def f37:IFn:=⟨(q (o UK) (q (q (o UL) (bl 0 (lp UQ))) (q (o UR) R))),[.t 4],41⟩
def US:List aa:=[
 op 1 (.boxp (t 0)),
 mc 2 (v B)]
def UT:List aa:=[
 f 7 0 1,
 l 8 7,
 b 9 .lss (t 8) (i 1),
 m 10 9,
 g 10 false (f 11 0 1),
 g 10 false (l 12 11),
 g 10 false (b 13 .gtr (t 12) (i 4)),
 op 14 (.pick (t 10) (v (.bool true)) (t 13))]
def UU:List aa:=[
 mc 2 (v B)]
def UW:List aa:=[
 mc 15 (i 0)]
def UX:List aa:=[
 b 16 .lss (t 15) (i 4)]
def UY:List aa:=[
 m 17 15,
 m 3 17]
def UZ:List aa:=[
 m 18 3,
 f 19 1 1,
 ia 20 4 1 19 (t 18),
 l 21 20,
 m 22 3,
 f 23 5 1,
 ia 24 4 1 23 (t 22),
 l 25 24,
 b 26 .or (t 21) (t 25),
 m 4 26]
def U0:List aa:=[
 m 27 4,
 b 28 .shr (t 27) (w 5),
 b 29 .neq (t 28) (w 0),
 m 30 29,
 g 30 false (m 31 3),
 g 30 false (f 32 0 1),
 g 30 false (l 33 32),
 g 30 false (b 34 .geq (t 31) (t 33)),
 g 30 false (m 35 34),
 g 35 true (m 36 4),
 g 35 true (b 37 .neq (t 36) (w 0)),
 g 30 false (op 38 (.pick (t 35) (t 37) (v B))),
 op 39 (.pick (t 30) (v (.bool true)) (t 38))]
def U1:List aa:=[
 mc 2 (v B)]
def U2:List aa:=[
 b 40 .add (t 15) (i 1),
 m 15 40]
def FM:IC:=(q (o UX) (q (k 16 K (ex 0)) (q (bl 1 (q (o UY) (q (od UZ) (q (o U0) (k 39 (q (o U1) R) K))))) (o U2))))
def FO:List aa:=[
 f 41 9 1,
 la 42 5 41,
 mc 43 (i 0)]
def FP:List aa:=[
 b 44 .lss (t 43) (i 5)]
def FQ:List aa:=[
 m 45 43,
 op 46 (.ixA 5 1 false (t 42) (t 43)),
 m 5 45,
 m 6 46]
def FR:List aa:=[
 m 47 6,
 b 48 .lss (t 47) (i 0),
 m 49 48,
 g 49 false (m 50 6),
 g 49 false (f 51 0 1),
 g 49 false (l 52 51),
 g 49 false (b 53 .geq (t 50) (t 52)),
 op 54 (.pick (t 49) (v (.bool true)) (t 53)),
 m 55 54,
 g 55 false (m 56 6),
 g 55 false (b 57 .neq (t 56) (i 0)),
 g 55 false (m 58 57),
 g 58 true (m 59 5),
 g 58 true (cv 60 .u32 59),
 g 58 true (c 61 103 [(t 60)]),
 g 58 true (op 62 (.un .not (t 61))),
 g 55 false (op 63 (.pick (t 58) (t 62) (v B))),
 op 64 (.pick (t 55) (v (.bool true)) (t 63))]
def FT:List aa:=[
 mc 2 (v B)]
def FU:List aa:=[
 b 65 .add (t 43) (i 1),
 m 43 65]
def FV:IC:=(q (o FP) (q (k 44 K (ex 2)) (q (bl 3 (q (o FQ) (q (o FR) (k 64 (q (o FT) R) K)))) (o FU))))
def FW:List aa:=[
 mc 2 (v (.bool true))]
def f41:IFn:=⟨(q (o US) (q (q (o UT) (k 14 (q (o UU) R) K)) (q (q (o UW) (bl 0 (lp FM))) (q (q (o FO) (bl 2 (lp FV))) (q (o FW) R))))),[.t 2],66⟩
def U3:List aa:=[
 op 1 (.boxp (t 0)),
 mc 2 (v B)]
def U4:List aa:=[
 f 4 0 1,
 l 5 4,
 b 6 .lss (t 5) (i 0),
 m 7 6,
 g 7 false (f 8 0 1),
 g 7 false (l 9 8),
 g 7 false (b 10 .gtr (t 9) (i 2147483647)),
 op 11 (.pick (t 7) (v (.bool true)) (t 10))]
def U5:List aa:=[
 mc 2 (v B)]
def U6:List aa:=[
 mc 12 (i 0)]
def U7:List aa:=[
 b 13 .lss (t 12) (i 4)]
def U8:List aa:=[
 m 14 12,
 m 3 14]
def U9:List aa:=[
 m 15 3,
 f 16 5 1,
 ia 17 4 1 16 (t 15),
 l 18 17,
 b 19 .lss (t 18) (i 0),
 m 20 19,
 g 20 false (m 21 3),
 g 20 false (f 22 5 1),
 g 20 false (ia 23 4 1 22 (t 21)),
 g 20 false (l 24 23),
 g 20 false (f 25 0 1),
 g 20 false (l 26 25),
 g 20 false (b 27 .gtr (t 24) (t 26)),
 op 28 (.pick (t 20) (v (.bool true)) (t 27)),
 m 29 28,
 g 29 false (m 30 3),
 g 29 false (f 31 1 1),
 g 29 false (ia 32 4 1 31 (t 30)),
 g 29 false (l 33 32),
 g 29 false (op 34 (.un .not (t 33))),
 g 29 false (m 35 34),
 g 35 true (m 36 3),
 g 35 true (f 37 5 1),
 g 35 true (ia 38 4 1 37 (t 36)),
 g 35 true (l 39 38),
 g 35 true (b 40 .neq (t 39) (i 0)),
 g 29 false (op 41 (.pick (t 35) (t 40) (v B))),
 op 42 (.pick (t 29) (v (.bool true)) (t 41)),
 m 43 42,
 g 43 false (m 44 3),
 g 43 false (f 45 9 1),
 g 43 false (ia 46 4 1 45 (t 44)),
 g 43 false (l 47 46),
 g 43 false (b 48 .lss (t 47) (i 0)),
 op 49 (.pick (t 43) (v (.bool true)) (t 48)),
 m 50 49,
 g 50 false (m 51 3),
 g 50 false (f 52 9 1),
 g 50 false (ia 53 4 1 52 (t 51)),
 g 50 false (l 54 53),
 g 50 false (b 55 .gtr (t 54) (i 1099511627776)),
 op 56 (.pick (t 50) (v (.bool true)) (t 55))]
def Va:List aa:=[
 mc 2 (v B)]
def Vb:List aa:=[
 b 57 .add (t 12) (i 1),
 m 12 57]
def Vc:IC:=(q (o U7) (q (k 13 K (ex 0)) (q (bl 1 (q (o U8) (q (od U9) (k 56 (q (o Va) R) K)))) (o Vb))))
def FX:List aa:=[
 mc 2 (v (.bool true))]
def f42:IFn:=⟨(q (o U3) (q (q (o U4) (k 11 (q (o U5) R) K)) (q (q (o U6) (bl 0 (lp Vc))) (q (o FX) R)))),[.t 2],58⟩
def Vd:List aa:=[
 op 1 (.boxp (t 0)),
 mc 2 (v B)]
def Ve:List aa:=[
 f 3 0 1,
 l 4 3,
 ns 5 4,
 b 6 .leq (t 5) (i 64),
 m 7 6,
 g 7 true (f 8 1 1),
 g 7 true (l 9 8),
 g 7 true (b 10 .geq (t 9) (i 0)),
 op 11 (.pick (t 7) (t 10) (v B)),
 m 12 11,
 g 12 true (f 13 1 1),
 g 12 true (l 14 13),
 g 12 true (b 15 .leq (t 14) (i 1099511627776)),
 op 16 (.pick (t 12) (t 15) (v B)),
 m 2 16]
def f43:IFn:=⟨(q (o Vd) (q (o Ve) R)),[.t 2],17⟩
def Vf:List aa:=[
 x 2 38 0,
 x 3 44 1,
 mc 4 (v B)]
def Vg:List aa:=[
 f 9 2 2,
 l 10 9,
 b 11 .eql (t 10) (i 0),
 m 12 11,
 g 12 false (f 13 2 2),
 g 12 false (l 14 13),
 g 12 false (b 15 .gtr (t 14) (i 0)),
 g 12 false (m 16 15),
 g 16 true (f 17 0 2),
 g 16 true (f 18 1 17),
 g 16 true (l 19 18),
 g 16 true (c 20 104 [(t 19)]),
 g 12 false (op 21 (.pick (t 16) (t 20) (v B))),
 g 12 false (m 22 21),
 g 22 true (f 23 2 2),
 g 22 true (l 24 23),
 g 22 true (f 25 0 2),
 g 22 true (f 26 1 25),
 g 22 true (l 27 26),
 g 22 true (cv 28 .i64 27),
 g 22 true (b 29 .lss (t 24) (t 28)),
 g 12 false (op 30 (.pick (t 22) (t 29) (v B))),
 op 31 (.pick (t 12) (v (.bool true)) (t 30)),
 m 5 31]
def Vh:List aa:=[
 f 32 3 2,
 l 33 32,
 b 34 .eql (t 33) (i 0),
 m 35 34,
 g 35 false (f 36 3 2),
 g 35 false (l 37 36),
 g 35 false (b 38 .geq (t 37) (i 160)),
 g 35 false (m 39 38),
 g 39 true (f 40 3 2),
 g 39 true (l 41 40),
 g 39 true (b 42 .leq (t 41) (i 165)),
 g 35 false (op 43 (.pick (t 39) (t 42) (v B))),
 op 44 (.pick (t 35) (v (.bool true)) (t 43)),
 m 6 44]
def Vi:List aa:=[
 m 45 5,
 op 46 (.un .not (t 45)),
 m 47 46,
 g 47 false (m 48 6),
 g 47 false (op 49 (.un .not (t 48))),
 op 50 (.pick (t 47) (v (.bool true)) (t 49)),
 m 51 50,
 g 51 false (f 52 4 2),
 g 51 false (l 53 52),
 g 51 false (n 54 128 53),
 g 51 false (b 55 .gtr (t 54) (i 64)),
 op 56 (.pick (t 51) (v (.bool true)) (t 55)),
 m 57 56,
 g 57 false (f 58 5 2),
 g 57 false (l 59 58),
 g 57 false (n 60 5 59),
 g 57 false (b 61 .gtr (t 60) (i 8)),
 op 62 (.pick (t 57) (v (.bool true)) (t 61))]
def Vj:List aa:=[
 mc 4 (v B)]
def Vk:List aa:=[
 f 63 5 2,
 l 64 63,
 n 65 5 64,
 mc 66 (i 0)]
def Vl:List aa:=[
 b 67 .lss (t 66) (t 65)]
def Vm:List aa:=[
 is 68 5 64 (t 66),
 la 69 5 68,
 nw 8 190 [U,U,I,B,N],
 sn 5 8 69]
def Vn:List aa:=[
 la 70 5 8,
 la 71 1 3,
 f 72 4 2,
 l 73 72,
 n 74 128 73,
 c 75 105 [(t 70),(t 71),(t 74)],
 op 76 (.un .not (t 75))]
def Vo:List aa:=[
 mc 4 (v B)]
def FY:List aa:=[
 b 77 .add (t 66) (i 1),
 m 66 77]
def FZ:IC:=(q (o Vl) (q (k 67 K (ex 0)) (q (bl 1 (q (o Vm) (q (o Vn) (k 76 (q (o Vo) R) K)))) (o FY))))
def F0:List aa:=[
 mc 4 (v (.bool true))]
def f44:IFn:=⟨(q (o Vf) (q (o Vg) (q (o Vh) (q (q (o Vi) (k 62 (q (o Vj) R) K)) (q (q (o Vk) (bl 0 (lp FZ))) (q (o F0) R)))))),[.t 4],78⟩
def Vp:List aa:=[
 x 1 40 0,
 mc 2 (v B)]
def Vq:List aa:=[
 f 4 6 1,
 l 5 4,
 b 6 .eql (t 5) (i 0),
 m 7 6,
 g 7 false (f 8 6 1),
 g 7 false (l 9 8),
 g 7 false (b 10 .geq (t 9) (i 160)),
 g 7 false (m 11 10),
 g 11 true (f 12 6 1),
 g 11 true (l 13 12),
 g 11 true (b 14 .leq (t 13) (i 165)),
 g 7 false (op 15 (.pick (t 11) (t 14) (v B))),
 op 16 (.pick (t 7) (v (.bool true)) (t 15)),
 m 3 16]
def Vr:List aa:=[
 m 17 3,
 m 18 17,
 g 18 true (f 19 0 1),
 g 18 true (la 20 2 19),
 g 18 true (f 21 4 1),
 g 18 true (l 22 21),
 g 18 true (c 23 106 [(t 20),(t 22)]),
 op 24 (.pick (t 18) (t 23) (v B)),
 m 25 24,
 g 25 true (f 26 2 1),
 g 25 true (la 27 2 26),
 g 25 true (f 28 5 1),
 g 25 true (l 29 28),
 g 25 true (c 30 106 [(t 27),(t 29)]),
 op 31 (.pick (t 25) (t 30) (v B)),
 m 32 31,
 g 32 true (f 33 7 1),
 g 32 true (l 34 33),
 g 32 true (b 35 .geq (t 34) (i 0)),
 op 36 (.pick (t 32) (t 35) (v B)),
 m 37 36,
 g 37 true (f 38 7 1),
 g 37 true (l 39 38),
 g 37 true (b 40 .leq (t 39) (i 1099511627776)),
 op 41 (.pick (t 37) (t 40) (v B)),
 m 2 41]
def f45:IFn:=⟨(q (o Vp) (q (o Vq) (q (o Vr) R))),[.t 2],42⟩
def Vs:List aa:=[
 op 1 (.boxp (t 0)),
 mc 2 (v B)]
def Vt:List aa:=[
 f 5 0 1,
 l 6 5,
 b 7 .lss (t 6) (i 1),
 m 8 7,
 g 8 false (f 9 0 1),
 g 8 false (l 10 9),
 g 8 false (b 11 .gtr (t 10) (i 4)),
 op 12 (.pick (t 8) (v (.bool true)) (t 11))]
def Vu:List aa:=[
 mc 2 (v B)]
def Vv:List aa:=[
 mc 3 (i 0)]
def Vw:List aa:=[
 m 13 3,
 b 14 .lss (t 13) (i 4)]
def Vx:List aa:=[
 m 17 3,
 f 18 1 1,
 ia 19 4 1 18 (t 17),
 l 20 19,
 b 21 .geq (t 20) (w 32),
 m 22 21,
 g 22 false (m 23 3),
 g 22 false (f 24 5 1),
 g 22 false (ia 25 4 1 24 (t 23)),
 g 22 false (l 26 25),
 g 22 false (b 27 .geq (t 26) (w 32)),
 op 28 (.pick (t 22) (v (.bool true)) (t 27)),
 m 29 28,
 g 29 false (m 30 3),
 g 29 false (f 31 0 1),
 g 29 false (l 32 31),
 g 29 false (b 33 .geq (t 30) (t 32)),
 g 29 false (m 34 33),
 g 34 true (m 35 3),
 g 34 true (f 36 1 1),
 g 34 true (ia 37 4 1 36 (t 35)),
 g 34 true (l 38 37),
 g 34 true (b 39 .neq (t 38) (w 0)),
 g 34 true (m 40 39),
 g 40 false (m 41 3),
 g 40 false (f 42 5 1),
 g 40 false (ia 43 4 1 42 (t 41)),
 g 40 false (l 44 43),
 g 40 false (b 45 .neq (t 44) (w 0)),
 g 34 true (op 46 (.pick (t 40) (v (.bool true)) (t 45))),
 g 29 false (op 47 (.pick (t 34) (t 46) (v B))),
 op 48 (.pick (t 29) (v (.bool true)) (t 47))]
def Vy:List aa:=[
 mc 2 (v B)]
def Vz:List aa:=[
 m 15 3,
 b 16 .add (t 15) (i 1),
 m 3 16]
def VA:IC:=(q (q (o Vw) (k 14 K (ex 0))) (q (bl 1 (q (o Vx) (k 48 (q (o Vy) R) K))) (o Vz)))
def VB:List aa:=[
 mc 4 (i 0)]
def F1:List aa:=[
 m 49 4,
 b 50 .lss (t 49) (i 5)]
def F2:List aa:=[
 m 53 4,
 f 54 9 1,
 ia 55 5 1 54 (t 53),
 l 56 55,
 b 57 .lss (t 56) (i 0),
 m 58 57,
 g 58 false (m 59 4),
 g 58 false (f 60 9 1),
 g 58 false (ia 61 5 1 60 (t 59)),
 g 58 false (l 62 61),
 g 58 false (f 63 0 1),
 g 58 false (l 64 63),
 g 58 false (b 65 .geq (t 62) (t 64)),
 op 66 (.pick (t 58) (v (.bool true)) (t 65)),
 m 67 66,
 g 67 false (m 68 4),
 g 67 false (c 69 107 [(t 68)]),
 g 67 false (op 70 (.un .not (t 69))),
 g 67 false (m 71 70),
 g 71 true (m 72 4),
 g 71 true (f 73 9 1),
 g 71 true (ia 74 5 1 73 (t 72)),
 g 71 true (l 75 74),
 g 71 true (b 76 .neq (t 75) (i 0)),
 g 67 false (op 77 (.pick (t 71) (t 76) (v B))),
 op 78 (.pick (t 67) (v (.bool true)) (t 77))]
def F3:List aa:=[
 mc 2 (v B)]
def F4:List aa:=[
 m 51 4,
 b 52 .add (t 51) (i 1),
 m 4 52]
def F5:IC:=(q (q (o F1) (k 50 K (ex 2))) (q (bl 3 (q (od F2) (k 78 (q (o F3) R) K))) (o F4)))
def F6:List aa:=[
 mc 2 (v (.bool true))]
def f46:IFn:=⟨(q (o Vs) (q (q (o Vt) (k 12 (q (o Vu) R) K)) (q (q (o Vv) (bl 0 (lp VA))) (q (q (o VB) (bl 2 (lp F5))) (q (o F6) R))))),[.t 2],79⟩
def VC:List aa:=[
 op 1 (.boxp (t 0)),
 mc 2 (v B)]
def VD:List aa:=[
 mc 3 (i 0)]
def VE:List aa:=[
 m 4 3,
 b 5 .lss (t 4) (i 4)]
def VF:List aa:=[
 m 8 3,
 f 9 5 1,
 ia 10 4 1 9 (t 8),
 l 11 10,
 b 12 .lss (t 11) (i 0),
 m 13 12,
 g 13 false (m 14 3),
 g 13 false (f 15 5 1),
 g 13 false (ia 16 4 1 15 (t 14)),
 g 13 false (l 17 16),
 g 13 false (f 18 0 1),
 g 13 false (l 19 18),
 g 13 false (b 20 .gtr (t 17) (t 19)),
 op 21 (.pick (t 13) (v (.bool true)) (t 20)),
 m 22 21,
 g 22 false (m 23 3),
 g 22 false (f 24 5 1),
 g 22 false (ia 25 4 1 24 (t 23)),
 g 22 false (l 26 25),
 g 22 false (b 27 .gtr (t 26) (i 0)),
 g 22 false (m 28 27),
 g 28 true (m 29 3),
 g 28 true (f 30 1 1),
 g 28 true (ia 31 4 1 30 (t 29)),
 g 28 true (l 32 31),
 g 28 true (op 33 (.un .not (t 32))),
 g 22 false (op 34 (.pick (t 28) (t 33) (v B))),
 op 35 (.pick (t 22) (v (.bool true)) (t 34)),
 m 36 35,
 g 36 false (m 37 3),
 g 36 false (f 38 9 1),
 g 36 false (ia 39 4 1 38 (t 37)),
 g 36 false (l 40 39),
 g 36 false (b 41 .lss (t 40) (i 0)),
 op 42 (.pick (t 36) (v (.bool true)) (t 41)),
 m 43 42,
 g 43 false (m 44 3),
 g 43 false (f 45 9 1),
 g 43 false (ia 46 4 1 45 (t 44)),
 g 43 false (l 47 46),
 g 43 false (b 48 .gtr (t 47) (i 1099511627776)),
 op 49 (.pick (t 43) (v (.bool true)) (t 48))]
def VG:List aa:=[
 mc 2 (v B)]
def VH:List aa:=[
 m 6 3,
 b 7 .add (t 6) (i 1),
 m 3 7]
def VI:IC:=(q (q (o VE) (k 5 K (ex 0))) (q (bl 1 (q (od VF) (k 49 (q (o VG) R) K))) (o VH)))
def VJ:List aa:=[
 f 50 0 1,
 l 51 50,
 b 52 .geq (t 51) (i 0),
 m 53 52,
 g 53 true (f 54 0 1),
 g 53 true (l 55 54),
 g 53 true (b 56 .leq (t 55) (i 2147483647)),
 op 57 (.pick (t 53) (t 56) (v B)),
 m 2 57]
def f47:IFn:=⟨(q (o VC) (q (q (o VD) (bl 0 (lp VI))) (q (o VJ) R))),[.t 2],58⟩
def VK:List aa:=[
 op 1 (.boxp (t 0)),
 mc 2 (v B)]
def VL:List aa:=[
 f 3 0 1,
 l 4 3,
 ns 5 4,
 b 6 .leq (t 5) (i 64),
 m 7 6,
 g 7 true (f 8 1 1),
 g 7 true (l 9 8),
 g 7 true (b 10 .geq (t 9) (i 0)),
 op 11 (.pick (t 7) (t 10) (v B)),
 m 12 11,
 g 12 true (f 13 1 1),
 g 12 true (l 14 13),
 g 12 true (b 15 .leq (t 14) (i 1099511627776)),
 op 16 (.pick (t 12) (t 15) (v B)),
 m 2 16]
def f48:IFn:=⟨(q (o VK) (q (o VL) R)),[.t 2],17⟩
def VN:List aa:=[
 x 2 38 0,
 x 3 44 1,
 mc 4 (v B)]
def VO:List aa:=[
 f 9 0 2,
 f 10 1 9,
 l 11 10,
 m 5 11]
def VP:List aa:=[
 m 12 5,
 b 13 .eql (t 12) (w 1),
 m 14 13,
 g 14 false (m 15 5),
 g 14 false (b 16 .eql (t 15) (w 2)),
 op 17 (.pick (t 14) (v (.bool true)) (t 16)),
 m 18 17,
 g 18 false (m 19 5),
 g 18 false (b 20 .eql (t 19) (w 4)),
 op 21 (.pick (t 18) (v (.bool true)) (t 20)),
 m 22 21,
 g 22 false (m 23 5),
 g 22 false (b 24 .eql (t 23) (w 8)),
 op 25 (.pick (t 22) (v (.bool true)) (t 24)),
 m 6 25]
def Bb:List aa:=[
 f 26 2 2,
 l 27 26,
 b 28 .lss (t 27) (i 0),
 m 29 28,
 g 29 false (m 30 6),
 g 29 false (op 31 (.un .not (t 30))),
 g 29 false (m 32 31),
 g 32 true (f 33 2 2),
 g 32 true (l 34 33),
 g 32 true (b 35 .neq (t 34) (i 0)),
 g 29 false (op 36 (.pick (t 32) (t 35) (v B))),
 op 37 (.pick (t 29) (v (.bool true)) (t 36)),
 m 38 37,
 g 38 false (m 39 6),
 g 38 false (m 40 39),
 g 40 true (f 41 2 2),
 g 40 true (l 42 41),
 g 40 true (m 43 5),
 g 40 true (cv 44 .i64 43),
 g 40 true (b 45 .geq (t 42) (t 44)),
 g 38 false (op 46 (.pick (t 40) (t 45) (v B))),
 op 47 (.pick (t 38) (v (.bool true)) (t 46))]
def Bc:List aa:=[
 mc 4 (v B)]
def Bd:List aa:=[
 f 48 3 2,
 l 49 48,
 b 50 .neq (t 49) (i 0),
 m 51 50,
 g 51 true (f 52 3 2),
 g 51 true (l 53 52),
 g 51 true (b 54 .lss (t 53) (i 160)),
 g 51 true (m 55 54),
 g 55 false (f 56 3 2),
 g 55 false (l 57 56),
 g 55 false (b 58 .gtr (t 57) (i 165)),
 g 51 true (op 59 (.pick (t 55) (v (.bool true)) (t 58))),
 op 60 (.pick (t 51) (t 59) (v B)),
 m 61 60,
 g 61 false (f 62 4 2),
 g 61 false (l 63 62),
 g 61 false (n 64 128 63),
 g 61 false (b 65 .gtr (t 64) (i 64)),
 op 66 (.pick (t 61) (v (.bool true)) (t 65)),
 m 67 66,
 g 67 false (f 68 5 2),
 g 67 false (l 69 68),
 g 67 false (n 70 5 69),
 g 67 false (b 71 .gtr (t 70) (i 8)),
 op 72 (.pick (t 67) (v (.bool true)) (t 71))]
def Be:List aa:=[
 mc 4 (v B)]
def vO:List aa:=[
 mc 7 (i 0)]
def VQ:List aa:=[
 m 73 7,
 f 74 5 2,
 l 75 74,
 n 76 5 75,
 b 77 .lss (t 73) (t 76)]
def VR:List aa:=[
 f 80 5 2,
 l 81 80,
 m 82 7,
 is 83 5 81 (t 82),
 la 84 5 83,
 la 85 1 3,
 f 86 4 2,
 l 87 86,
 n 88 128 87,
 c 89 108 [(t 84),(t 85),(t 88)],
 m 8 89]
def F7:List aa:=[
 m 90 8,
 op 91 (.un .not (t 90))]
def F8:List aa:=[
 mc 4 (v B)]
def F9:List aa:=[
 m 78 7,
 b 79 .add (t 78) (i 1),
 m 7 79]
def rT:IC:=(q (q (o VQ) (k 77 K (ex 0))) (q (bl 1 (q (od VR) (q (o F7) (k 91 (q (o F8) R) K)))) (o F9)))
def rU:List aa:=[
 mc 4 (v (.bool true))]
def f49:IFn:=⟨(q (o VN) (q (o VO) (q (o VP) (q (q (o Bb) (k 47 (q (o Bc) R) K)) (q (q (o Bd) (k 72 (q (o Be) R) K)) (q (q (o vO) (bl 0 (lp rT))) (q (o rU) R))))))),[.t 4],92⟩
def VT:List aa:=[
 x 1 40 0,
 mc 2 (v B)]
def VU:List aa:=[
 f 3 0 1,
 la 4 2 3,
 f 5 4 1,
 l 6 5,
 c 7 109 [(t 4),(t 6)],
 op 8 (.un .not (t 7)),
 m 9 8,
 g 9 false (f 10 2 1),
 g 9 false (la 11 2 10),
 g 9 false (f 12 5 1),
 g 9 false (l 13 12),
 g 9 false (c 14 109 [(t 11),(t 13)]),
 g 9 false (op 15 (.un .not (t 14))),
 op 16 (.pick (t 9) (v (.bool true)) (t 15)),
 m 17 16,
 g 17 false (f 18 7 1),
 g 17 false (l 19 18),
 g 17 false (b 20 .lss (t 19) (i 0)),
 op 21 (.pick (t 17) (v (.bool true)) (t 20)),
 m 22 21,
 g 22 false (f 23 7 1),
 g 22 false (l 24 23),
 g 22 false (b 25 .gtr (t 24) (i 1099511627776)),
 op 26 (.pick (t 22) (v (.bool true)) (t 25))]
def VV:List aa:=[
 mc 2 (v B)]
def VW:List aa:=[
 f 27 6 1,
 l 28 27,
 b 29 .eql (t 28) (i 0),
 m 30 29,
 g 30 false (f 31 6 1),
 g 30 false (l 32 31),
 g 30 false (b 33 .geq (t 32) (i 160)),
 g 30 false (m 34 33),
 g 34 true (f 35 6 1),
 g 34 true (l 36 35),
 g 34 true (b 37 .leq (t 36) (i 165)),
 g 30 false (op 38 (.pick (t 34) (t 37) (v B))),
 op 39 (.pick (t 30) (v (.bool true)) (t 38)),
 m 2 39]
def f50:IFn:=⟨(q (o VT) (q (q (o VU) (k 26 (q (o VV) R) K)) (q (o VW) R))),[.t 2],40⟩
def VX:List aa:=[
 op 2 (.boxp (t 0)),
 nw 4 42 [I,U,U,U,U,U,U,U,U,I,I,I,I,I,I,B,B,B,B,I,I,I,I,I,I,I,I,E,I,U,U,I,I,N,N,U,U,U,U,I,I,I,I],
 nw 5 52 [N,U,N,I]]
def VY:List aa:=[
 f 6 0 2,
 la 7 43 6,
 f 8 43 2,
 la 9 1 8,
 m 10 1,
 bd 11 [N,U,N,I] [(0,1,(t 9)),(3,1,(t 10))],
 sn 43 4 7,
 sn 4 5 11]
def f51:IFn:=⟨(q (o VX) (q (.opsX VY [(8,4)]) R)),[.cell 4 43 true,.cell 5 4 true],12⟩
def VZ:List aa:=[
 op 3 (.boxp (t 0)),
 op 4 (.boxp (t 1)),
 nw 6 56 [I,U,U,U,U,U,U,U,U,I,I,I,I,I,I,B,B,B,B,I,I,I,I,I,I,I,I,E,I,U,U,I,I,N,N,U,U,U,U,I,I,I,I,N,U,N,I]]
def V0:List aa:=[
 la 7 43 3,
 la 8 1 4,
 m 9 2,
 bd 10 [N,U,N,I] [(0,1,(t 8)),(3,1,(t 9))],
 bd 11 [I,U,U,U,U,U,U,U,U,I,I,I,I,I,I,B,B,B,B,I,I,I,I,I,I,I,I,E,I,U,U,I,I,N,N,U,U,U,U,I,I,I,I,N,U,N,I] [(0,43,(t 7)),(43,4,(t 10))],
 sn 47 6 11]
def f52:IFn:=⟨(q (o VZ) (q (o V0) R)),[.cell 6 47 true],12⟩
def V1:List aa:=[
 op 5 (.boxp (t 0)),
 op 6 (.boxp (t 1)),
 op 9 (.boxp (t 4)),
 nw 10 56 [I,U,U,U,U,U,U,U,U,I,I,I,I,I,I,B,B,B,B,I,I,I,I,I,I,I,I,E,I,U,U,I,I,N,N,U,U,U,U,I,I,I,I,N,U,N,I]]
def V2:List aa:=[
 la 15 43 5,
 la 16 1 6,
 bd 17 [N,U,N,I] [(0,1,(t 16))],
 bd 18 [I,U,U,U,U,U,U,U,U,I,I,I,I,I,I,B,B,B,B,I,I,I,I,I,I,I,I,E,I,U,U,I,I,N,N,U,U,U,U,I,I,I,I,N,U,N,I] [(0,43,(t 15)),(43,4,(t 17))],
 nw 11 56 [I,U,U,U,U,U,U,U,U,I,I,I,I,I,I,B,B,B,B,I,I,I,I,I,I,I,I,E,I,U,U,I,I,N,N,U,U,U,U,I,I,I,I,N,U,N,I],
 sn 47 11 18]
def V3:List aa:=[
 f 19 1 9,
 l 20 19,
 b 21 .quo (t 20) (i 16)]
def V4:List aa:=[
 b 52 .eql (t 21) (i 0),
 m 51 52]
def V5:List aa:=[
 f 53 0 5,
 la 54 14 53,
 m 55 2,
 la 56 3 9,
 c 57 110 [(t 54),(t 55),(t 56)],
 nw 12 170 [I,U,U,U,U,U,U,U,U,I,I,I,I,I,U,I],
 sn 16 12 57]
def V6:List aa:=[
 f 58 15 12,
 l 59 58,
 b 60 .neq (t 59) (i 0)]
def V7:List aa:=[
 la 61 43 5,
 la 62 1 6,
 c 63 52 [(t 61),(t 62),(i 5)],
 sn 47 10 63]
def V8:List aa:=[
 f 64 0 12,
 la 65 14 64,
 f 66 0 11,
 f 67 0 66,
 sn 14 67 65]
def V9:List aa:=[
 f 68 14 12,
 l 69 68,
 f 70 43 11,
 f 71 1 70,
 s 71 69]
def Wa:List aa:=[
 b 73 .eql (t 21) (i 1),
 m 72 73]
def Ga:List aa:=[
 f 74 14 5,
 la 75 13 74,
 m 76 2,
 m 77 3,
 la 78 3 9,
 c 79 111 [(t 75),(t 76),(t 77),(t 78)],
 nw 13 136 [I,B,B,B,B,I,I,I,I,I,I,I,I,U,B,I],
 sn 16 13 79]
def Gb:List aa:=[
 f 80 15 13,
 l 81 80,
 b 82 .neq (t 81) (i 0)]
def Gc:List aa:=[
 la 83 43 5,
 la 84 1 6,
 f 85 15 13,
 l 86 85,
 c 87 52 [(t 83),(t 84),(t 86)],
 sn 47 10 87]
def Gd:List aa:=[
 f 88 0 13,
 la 89 13 88,
 f 90 0 11,
 f 91 14 90,
 sn 13 91 89]
def Ge:List aa:=[
 f 92 13 13,
 l 93 92,
 f 94 43 11,
 f 95 1 94,
 s 95 93]
def Gf:List aa:=[
 f 22 27 5,
 la 23 2 22,
 la 24 3 9,
 c 25 112 [(t 23),(t 24)],
 nw 14 199 [E,I,U,E,B],
 sn 5 14 25]
def Gg:List aa:=[
 f 26 4 14,
 l 27 26,
 op 28 (.un .not (t 27))]
def Gj:List aa:=[
 la 29 43 5,
 la 30 1 6,
 c 31 52 [(t 29),(t 30),(i 5)],
 sn 47 10 31]
def Gk:List aa:=[
 f 32 0 14,
 la 33 2 32,
 f 34 0 11,
 f 35 27 34,
 sn 2 35 33]
def Gl:List aa:=[
 f 36 2 14,
 l 37 36,
 f 38 43 11,
 f 39 1 38,
 s 39 37]
def Gm:List aa:=[
 f 40 3 14,
 l 41 40,
 b 42 .neq (t 41) (v E)]
def Gn:List aa:=[
 m 43 2,
 m 44 3,
 f 45 3 14,
 l 46 45,
 bs 47 1 [E] [(0,1,(t 46))],
 c 48 57 [(i 1),(t 43),(t 44),(t 47)],
 f 49 43 11,
 f 50 2 49,
 s 50 48]
def Gp:List aa:=[
 la 96 47 11,
 sn 47 10 96]
def f53:IFn:=⟨(q (o V1) (q (o V2) (q (q (o V3) (bl 0 (q (o V4) (k 51 (q (o V5) (q (q (o V6) (k 60 (q (o V7) R) K)) (q (o V8) (o V9)))) (q (o Wa) (k 72 (q (o Ga) (q (q (o Gb) (k 82 (q (o Gc) R) K)) (q (o Gd) (o Ge)))) (q (o Gf) (q (q (o Gg) (k 28 (q (o Gj) R) K)) (q (o Gk) (q (o Gl) (q (o Gm) (k 42 (o Gn) K)))))))))))) (q (o Gp) R)))),[.cell 10 47 true],97⟩
def Wb:List aa:=[
 x 3 38 0,
 x 4 44 1,
 x 5 46 2,
 nw 6 124 [U,U,I,I,N,N,N,U,N,B,B]]
def Wc:List aa:=[
 la 8 6 3,
 la 9 1 4,
 bd 10 [N,U,N,B,B] [(0,1,(t 9)),(4,1,(v (.bool true)))],
 bd 11 [U,U,I,I,N,N,N,U,N,B,B] [(0,6,(t 8)),(6,5,(t 10))],
 nw 7 124 [U,U,I,I,N,N,N,U,N,B,B],
 sn 11 7 11]
def Wd:List aa:=[
 f 15 0 5,
 l 16 15,
 m 17 16,
 g 17 true (f 18 1 5),
 g 17 true (l 19 18),
 g 17 true (b 20 .eql (t 19) (i 48)),
 op 21 (.pick (t 17) (t 20) (v B)),
 m 14 21]
def We:List aa:=[
 f 22 0 3,
 f 23 0 22,
 l 24 23,
 f 25 6 7,
 f 26 1 25,
 s 26 24]
def Wf:List aa:=[
 f 28 0 5,
 l 29 28,
 m 30 29,
 g 30 true (f 31 1 5),
 g 30 true (l 32 31),
 g 30 true (b 33 .eql (t 32) (i 49)),
 op 34 (.pick (t 30) (t 33) (v B)),
 m 27 34]
def Wg:List aa:=[
 f 35 0 3,
 f 36 1 35,
 l 37 36,
 f 38 6 7,
 f 39 1 38,
 s 39 37]
def Wh:List aa:=[
 f 41 0 5,
 l 42 41,
 m 43 42,
 g 43 true (f 44 1 5),
 g 43 true (l 45 44),
 g 43 true (b 46 .eql (t 45) (i 51)),
 op 47 (.pick (t 43) (t 46) (v B)),
 m 40 47]
def Wi:List aa:=[
 f 48 3 3,
 l 49 48,
 cv 50 .u32 49,
 f 51 6 7,
 f 52 1 51,
 s 52 50]
def Wj:List aa:=[
 f 53 0 7,
 f 54 3 53,
 op0 (.store 1 (t 54) (i 0))]
def Wk:List aa:=[
 f 56 0 5,
 l 57 56,
 op 58 (.un .not (t 57)),
 m 59 58,
 g 59 true (f 60 1 5),
 g 59 true (l 61 60),
 g 59 true (b 62 .eql (t 61) (i 48)),
 op 63 (.pick (t 59) (t 62) (v B)),
 m 55 63]
def Gq:List aa:=[
 f 64 2 5,
 l 65 64,
 f 66 0 7,
 f 67 0 66,
 f 68 0 67,
 s 68 65]
def Gr:List aa:=[
 f 69 0 7,
 f 70 2 69,
 op0 (.store 1 (t 70) (i 0))]
def Gs:List aa:=[
 f 72 0 5,
 l 73 72,
 op 74 (.un .not (t 73)),
 m 75 74,
 g 75 true (f 76 1 5),
 g 75 true (l 77 76),
 g 75 true (b 78 .eql (t 77) (i 49)),
 op 79 (.pick (t 75) (t 78) (v B)),
 m 71 79]
def Gt:List aa:=[
 f 80 2 5,
 l 81 80,
 f 82 0 7,
 f 83 0 82,
 f 84 1 83,
 s 84 81]
def Gu:List aa:=[
 f 85 0 7,
 f 86 2 85,
 op0 (.store 1 (t 86) (i 0))]
def Gv:List aa:=[
 f 88 0 5,
 l 89 88,
 op 90 (.un .not (t 89)),
 m 91 90,
 g 91 true (f 92 1 5),
 g 91 true (l 93 92),
 g 91 true (b 94 .eql (t 93) (i 50)),
 op 95 (.pick (t 91) (t 94) (v B)),
 m 87 95]
def Gw:List aa:=[
 la 96 11 7,
 c 97 113 [(t 96)],
 sn 11 6 97]
def Gx:List aa:=[
 f 12 6 7,
 f 13 4 12,
 op0 (.store 1 (t 13) (v B))]
def Gy:List aa:=[
 la 98 11 7,
 sn 11 6 98]
def f54:IFn:=⟨(q (o Wb) (q (o Wc) (q (bl 0 (q (o Wd) (k 14 (o We) (q (o Wf) (k 27 (o Wg) (q (o Wh) (k 40 (q (o Wi) (o Wj)) (q (o Wk) (k 55 (q (o Gq) (o Gr)) (q (o Gs) (k 71 (q (o Gt) (o Gu)) (q (o Gv) (k 87 (q (o Gw) R) (o Gx)))))))))))))) (q (o Gy) R)))),[.cell 6 11 true],99⟩
def Wl:List aa:=[
 x 3 42 0,
 nw 6 42 [I,U,U,U,U,U,U,U,U,I,I,I,I,I,I,B,B,B,B,I,I,I,I,I,I,I,I,E,I,U,U,I,I,N,N,U,U,U,U,I,I,I,I]]
def Wm:List aa:=[
 m 7 2]
def Wn:List aa:=[
 f 8 0 3,
 la 9 14 8,
 m 10 1,
 c 11 63 [(t 9),(t 10),(i 0)],
 f 12 0 3,
 sn 14 12 11]
def Wo:List aa:=[
 la 13 43 3,
 sn 43 6 13]
def f55:IFn:=⟨(q (o Wl) (q (q (o Wm) (k 7 (o Wn) K)) (q (o Wo) R))),[.cell 6 43 true],14⟩
def Wq:List aa:=[
 x 3 40 0,
 x 4 44 1,
 x 5 46 2,
 nw 6 128 [U,U,U,U,I,I,I,I,N,U,N,B,B]]
def Wr:List aa:=[
 la 8 8 3,
 la 9 1 4,
 bd 10 [N,U,N,B,B] [(0,1,(t 9)),(4,1,(v (.bool true)))],
 bd 11 [U,U,U,U,I,I,I,I,N,U,N,B,B] [(0,8,(t 8)),(8,5,(t 10))],
 nw 7 128 [U,U,U,U,I,I,I,I,N,U,N,B,B],
 sn 13 7 11]
def Ws:List aa:=[
 f 12 0 5,
 l 13 12]
def Wt:List aa:=[
 f 14 1 5,
 l 15 14]
def Wu:List aa:=[
 b 19 .eql (t 15) (i 64),
 m 18 19]
def Wv:List aa:=[
 f 20 0 3,
 f 21 0 20,
 l 22 21,
 f 23 8 7,
 f 24 1 23,
 s 24 22]
def Ww:List aa:=[
 b 26 .eql (t 15) (i 65),
 m 25 26]
def Wx:List aa:=[
 f 27 0 3,
 f 28 1 27,
 l 29 28,
 f 30 8 7,
 f 31 1 30,
 s 31 29]
def Wy:List aa:=[
 b 33 .eql (t 15) (i 66),
 m 32 33]
def Wz:List aa:=[
 f 34 2 3,
 f 35 0 34,
 l 36 35,
 f 37 8 7,
 f 38 1 37,
 s 38 36]
def Gz:List aa:=[
 b 40 .eql (t 15) (i 67),
 m 39 40]
def GA:List aa:=[
 f 41 2 3,
 f 42 1 41,
 l 43 42,
 f 44 8 7,
 f 45 1 44,
 s 45 43]
def GC:List aa:=[
 b 47 .eql (t 15) (i 69),
 m 46 47]
def GD:List aa:=[
 f 48 6 3,
 l 49 48,
 cv 50 .u32 49,
 f 51 8 7,
 f 52 1 51,
 s 52 50]
def GF:List aa:=[
 f 53 0 7,
 f 54 6 53,
 op0 (.store 1 (t 54) (i 0))]
def GG:List aa:=[
 b 56 .eql (t 15) (i 70),
 m 55 56]
def GH:List aa:=[
 f 57 7 3,
 l 58 57,
 cv 59 .u32 58,
 f 60 8 7,
 f 61 1 60,
 s 61 59]
def GI:List aa:=[
 f 16 8 7,
 f 17 4 16,
 op0 (.store 1 (t 17) (v B))]
def GJ:List aa:=[
 la 62 13 7,
 sn 13 6 62]
def GK:List aa:=[
 f 63 1 5,
 l 64 63]
def GL:List aa:=[
 b 68 .eql (t 64) (i 64),
 m 67 68]
def GM:List aa:=[
 f 69 2 5,
 l 70 69,
 f 71 0 7,
 f 72 0 71,
 f 73 0 72,
 s 73 70]
def GN:List aa:=[
 f 74 0 7,
 f 75 4 74,
 op0 (.store 1 (t 75) (i 0))]
def GO:List aa:=[
 b 77 .eql (t 64) (i 65),
 m 76 77]
def GQ:List aa:=[
 f 78 2 5,
 l 79 78,
 f 80 0 7,
 f 81 0 80,
 f 82 1 81,
 s 82 79]
def GR:List aa:=[
 f 83 0 7,
 f 84 4 83,
 op0 (.store 1 (t 84) (i 0))]
def GS:List aa:=[
 b 86 .eql (t 64) (i 66),
 m 85 86]
def GU:List aa:=[
 f 87 2 5,
 l 88 87,
 f 89 0 7,
 f 90 2 89,
 f 91 0 90,
 s 91 88]
def GV:List aa:=[
 f 92 0 7,
 f 93 5 92,
 op0 (.store 1 (t 93) (i 0))]
def GW:List aa:=[
 b 95 .eql (t 64) (i 67),
 m 94 95]
def GX:List aa:=[
 f 96 2 5,
 l 97 96,
 f 98 0 7,
 f 99 2 98,
 f 100 1 99,
 s 100 97]
def GY:List aa:=[
 f 101 0 7,
 f 102 5 101,
 op0 (.store 1 (t 102) (i 0))]
def GZ:List aa:=[
 b 104 .eql (t 64) (i 68),
 m 103 104]
def G3:List aa:=[
 la 105 13 7,
 c 106 114 [(t 105)],
 sn 13 6 106]
def G4:List aa:=[
 f 65 8 7,
 f 66 4 65,
 op0 (.store 1 (t 66) (v B))]
def G5:List aa:=[
 la 107 13 7,
 sn 13 6 107]
def f56:IFn:=⟨(q (o Wq) (q (o Wr) (q (q (o Ws) (k 13 (q (q (o Wt) (bl 0 (q (o Wu) (k 18 (o Wv) (q (o Ww) (k 25 (o Wx) (q (o Wy) (k 32 (o Wz) (q (o Gz) (k 39 (o GA) (q (o GC) (k 46 (q (o GD) (o GF)) (q (o GG) (k 55 (o GH) (o GI))))))))))))))) (q (o GJ) R)) K)) (q (q (o GK) (bl 1 (q (o GL) (k 67 (q (o GM) (o GN)) (q (o GO) (k 76 (q (o GQ) (o GR)) (q (o GS) (k 85 (q (o GU) (o GV)) (q (o GW) (k 94 (q (o GX) (o GY)) (q (o GZ) (k 103 (q (o G3) R) (o G4))))))))))))) (q (o G5) R))))),[.cell 6 13 true],108⟩
def WA:List aa:=[
 mc 8 (v N)]
def WB:List aa:=[
 mc 9 (v N)]
def WC:List aa:=[
 mc 10 (i 0)]
def WD:List aa:=[
 m 11 10,
 m 12 3,
 n 13 1 12,
 b 14 .lss (t 11) (t 13)]
def WE:List aa:=[
 m 17 9,
 m 18 0,
 m 19 1,
 m 20 2,
 m 21 3,
 m 22 10,
 is 23 1 21 (t 22),
 l 24 23,
 bd 25 [I,I,I,I,E] [(1,1,(t 18)),(2,1,(t 19)),(3,1,(t 20)),(4,1,(t 24))],
 bs 26 5 [I,I,I,I,E] [(0,5,(t 25))],
 ap 27 5 48 17 26,
 m 9 27]
def WG:List aa:=[
 m 15 10,
 b 16 .add (t 15) (i 1),
 m 10 16]
def WH:IC:=(q (q (o WD) (k 14 K (ex 0))) (q (bl 1 (o WE)) (o WG)))
def WI:List aa:=[
 m 28 9,
 m 8 28]
def f57:IFn:=⟨(q (o WA) (q (o WB) (q (q (o WC) (bl 0 (lp WH))) (q (o WI) R)))),[.t 8],29⟩
def WJ:List aa:=[
 op 2 (.boxp (t 0)),
 mc 4 (w 0)]
def WK:List aa:=[
 m 5 1,
 f 6 1 2,
 ia 7 4 1 6 (t 5),
 l 8 7,
 m 9 1,
 f 10 5 2,
 ia 11 4 1 10 (t 9),
 l 12 11,
 b 13 .and (t 8) (t 12),
 m 4 13]
def f58:IFn:=⟨(q (o WJ) (q (od WK) R)),[.t 4],14⟩
def WL:List aa:=[
 op 2 (.boxp (t 0)),
 mc 4 (w 0)]
def WM:List aa:=[
 mc 5 (w 0)]
def WN:List aa:=[
 mc 6 (i 0)]
def WO:List aa:=[
 m 7 6,
 b 8 .lss (t 7) (i 5)]
def WQ:List aa:=[
 m 11 1,
 f 12 1 2,
 ia 13 4 1 12 (t 11),
 l 14 13,
 m 15 6,
 c 16 115 [(t 14),(t 15)],
 m 17 16,
 g 17 true (m 18 1),
 g 17 true (f 19 5 2),
 g 17 true (ia 20 4 1 19 (t 18)),
 g 17 true (l 21 20),
 g 17 true (m 22 6),
 g 17 true (c 23 115 [(t 21),(t 22)]),
 op 24 (.pick (t 17) (t 23) (v B))]
def WR:List aa:=[
 m 25 5,
 m 26 6,
 c 27 116 [(t 26)],
 b 28 .add (t 25) (t 27),
 m 5 28]
def WS:List aa:=[
 m 9 6,
 b 10 .add (t 9) (i 1),
 m 6 10]
def WT:IC:=(q (q (o WO) (k 8 K (ex 0))) (q (bl 1 (q (o WQ) (k 24 (o WR) K))) (o WS)))
def WU:List aa:=[
 m 29 5,
 m 4 29]
def f59:IFn:=⟨(q (o WL) (q (o WM) (q (q (o WN) (bl 0 (lp WT))) (q (o WU) R)))),[.t 4],30⟩
def WV:List aa:=[
 x 3 30 0,
 nw 6 30 [I,B,B,B,B,I,I,I,I,I,I,I,I],
 mc 7 (v B)]
def WW:List aa:=[
 la 9 13 3,
 m 10 1,
 c 11 117 [(t 9),(t 10)],
 m 8 11]
def WX:List aa:=[
 m 12 8,
 b 13 .eql (t 12) (i 0),
 m 14 13,
 g 14 false (m 15 2),
 g 14 false (m 16 8),
 g 14 false (b 17 .lss (t 15) (t 16)),
 op 18 (.pick (t 14) (v (.bool true)) (t 17))]
def WY:List aa:=[
 la 19 13 3,
 sn 13 6 19,
 mc 7 (v B)]
def WZ:List aa:=[
 m 20 1,
 f 21 9 3,
 ia 22 4 1 21 (t 20),
 op0 (.store 1 (t 22) (i 0))]
def W0:List aa:=[
 la 23 13 3,
 sn 13 6 23,
 mc 7 (v (.bool true))]
def f60:IFn:=⟨(q (o WV) (q (q (o WW) (q (o WX) (k 18 (q (o WY) R) K))) (q (o WZ) (q (o W0) R)))),[.cell 6 13 true,.t 7],24⟩
def W6:List aa:=[
 x 3 26 0,
 nw 6 26 [I,U,U,U,U,U,U,U,U,I,I,I,I,I]]
def W7:List aa:=[
 m 7 1,
 b 8 .lss (t 7) (i 0),
 m 9 8,
 g 9 false (m 10 1),
 g 9 false (b 11 .geq (t 10) (i 5)),
 op 12 (.pick (t 9) (v (.bool true)) (t 11))]
def W8:List aa:=[
 la 13 14 3,
 sn 14 6 13]
def W9:List aa:=[
 m 14 1,
 cv 15 .u32 14,
 c 16 103 [(t 15)]]
def Xa:List aa:=[
 m 17 1,
 f 18 9 3,
 ia 19 5 1 18 (t 17),
 l 20 19,
 m 2 20]
def Xb:List aa:=[
 m 21 2,
 f 22 1 3,
 ia 23 4 1 22 (t 21),
 l 24 23,
 m 25 1,
 b 26 .shl (w 1) (t 25),
 b 27 .or (t 24) (t 26),
 f 28 1 3,
 ia 29 4 1 28 (t 21),
 s 29 27]
def Xc:List aa:=[
 la 30 14 3,
 sn 14 6 30]
def f61:IFn:=⟨(q (o W6) (q (q (o W7) (k 12 (q (o W8) R) K)) (q (q (o W9) (k 16 (o Xa) K)) (q (od Xb) (q (o Xc) R))))),[.cell 6 14 true],31⟩
def Xd:List aa:=[
 op 3 (.boxp (t 0)),
 nw 6 136 [I,B,B,B,B,I,I,I,I,I,I,I,I,U,B,I]]
def Xe:List aa:=[
 la 9 13 3,
 m 10 1,
 c 11 118 [(t 9),(t 10)],
 m 7 11]
def Xf:List aa:=[
 m 12 7,
 b 13 .eql (t 12) (i 0),
 m 14 13,
 g 14 false (m 15 2),
 g 14 false (m 16 7),
 g 14 false (b 17 .lss (t 15) (t 16)),
 op 18 (.pick (t 14) (v (.bool true)) (t 17))]
def Xg:List aa:=[
 la 19 13 3,
 bd 20 [I,B,B,B,B,I,I,I,I,I,I,I,I,U,B,I] [(0,13,(t 19))],
 sn 16 6 20]
def Xh:List aa:=[
 la 21 13 3,
 nw 8 30 [I,B,B,B,B,I,I,I,I,I,I,I,I],
 sn 13 8 21]
def Xi:List aa:=[
 m 22 1,
 f 23 9 8,
 ia 24 4 1 23 (t 22),
 op0 (.store 1 (t 24) (i 0))]
def Xj:List aa:=[
 la 25 13 8,
 bd 26 [I,B,B,B,B,I,I,I,I,I,I,I,I,U,B,I] [(0,13,(t 25)),(14,1,(v (.bool true)))],
 sn 16 6 26]
def f62:IFn:=⟨(q (o Xd) (q (o Xe) (q (q (o Xf) (k 18 (q (o Xg) R) K)) (q (o Xh) (q (o Xi) (q (o Xj) R)))))),[.cell 6 16 true],27⟩
def Xk:List aa:=[
 x 3 26 0,
 nw 6 26 [I,U,U,U,U,U,U,U,U,I,I,I,I,I]]
def Xl:List aa:=[
 m 8 1,
 b 9 .lss (t 8) (i 0),
 m 10 9,
 g 10 false (m 11 1),
 g 10 false (b 12 .geq (t 11) (i 5)),
 op 13 (.pick (t 10) (v (.bool true)) (t 12))]
def Xm:List aa:=[
 la 14 14 3,
 sn 14 6 14]
def Xn:List aa:=[
 m 15 2,
 m 7 15]
def Xo:List aa:=[
 m 16 1,
 c 17 107 [(t 16)]]
def Xp:List aa:=[
 m 18 1,
 f 19 9 3,
 ia 20 5 1 19 (t 18),
 l 21 20,
 m 7 21]
def Xq:List aa:=[
 m 22 7,
 f 23 1 3,
 ia 24 4 1 23 (t 22),
 l 25 24,
 m 26 1,
 c 27 115 [(t 25),(t 26)],
 op 28 (.un .not (t 27))]
def Xr:List aa:=[
 m 29 7,
 m 30 7,
 f 31 1 3,
 ia 32 4 1 31 (t 30),
 l 33 32,
 m 34 1,
 c 35 116 [(t 34)],
 b 36 .add (t 33) (t 35),
 f 37 1 3,
 ia 38 4 1 37 (t 29),
 s 38 36]
def Xs:List aa:=[
 la 39 14 3,
 sn 14 6 39]
def f63:IFn:=⟨(q (o Xk) (q (q (o Xl) (k 13 (q (o Xm) R) K)) (q (o Xn) (q (q (o Xo) (k 17 (o Xp) K)) (q (q (o Xq) (k 28 (od Xr) K)) (q (o Xs) R)))))),[.cell 6 14 true],40⟩
def Xt:List aa:=[
 x 3 42 0,
 nw 6 42 [I,U,U,U,U,U,U,U,U,I,I,I,I,I,I,B,B,B,B,I,I,I,I,I,I,I,I,E,I,U,U,I,I,N,N,U,U,U,U,I,I,I,I]]
def Xu:List aa:=[
 m 7 2]
def Xv:List aa:=[
 f 8 0 3,
 la 9 14 8,
 m 10 1,
 c 11 61 [(t 9),(t 10),(i 0)],
 f 12 0 3,
 sn 14 12 11]
def Xw:List aa:=[
 la 13 43 3,
 sn 43 6 13]
def f69:IFn:=⟨(q (o Xt) (q (q (o Xu) (k 7 (o Xv) K)) (q (o Xw) R))),[.cell 6 43 true],14⟩
def Xx:List aa:=[
 x 2 44 0,
 x 3 44 1,
 mc 4 (v N)]
def Xy:List aa:=[
 mc 5 (v N)]
def Xz:List aa:=[
 mc 6 (i 0)]
def XA:List aa:=[
 m 7 6,
 f 8 0 2,
 l 9 8,
 n 10 128 9,
 f 11 0 3,
 l 12 11,
 n 13 128 12,
 op 14 (.mn true [(t 10),(t 13)]),
 b 15 .lss (t 7) (t 14)]
def XB:List aa:=[
 m 18 6,
 f 19 0 2,
 l 20 19,
 n 21 128 20,
 b 22 .geq (t 18) (t 21),
 m 23 22,
 g 23 false (m 24 6),
 g 23 false (f 25 0 3),
 g 23 false (l 26 25),
 g 23 false (n 27 128 26),
 g 23 false (b 28 .geq (t 24) (t 27)),
 op 29 (.pick (t 23) (v (.bool true)) (t 28)),
 m 30 29,
 g 30 false (f 31 0 2),
 g 30 false (l 32 31),
 g 30 false (m 33 6),
 g 30 false (is 34 128 32 (t 33)),
 g 30 false (la 35 128 34),
 g 30 false (f 36 0 3),
 g 30 false (l 37 36),
 g 30 false (m 38 6),
 g 30 false (is 39 128 37 (t 38)),
 g 30 false (la 40 128 39),
 g 30 false (op 41 (.eqA true [0,0,0,0,0,0,0,0,0,0,0,0,0,0,0,0,0,0,0,0,0,0,0,0,0,0,0,0,0,0,0,0,0,0,0,0,0,0,0,0,0,0,0,0,0,0,0,0,0,0,0,0,0,0,0,0,0,0,0,0,0,0,0,0,0,0,0,0,0,0,0,0,0,0,0,0,0,0,0,0,0,0,0,0,0,0,0,0,0,0,0,0,0,0,0,0,0,0,0,0,0,0,0,0,0,0,0,0,0,0,0,0,0,0,0,0,0,0,0,0,0,0,0,0,0,0,0,0] (t 35) (t 40))),
 op 42 (.pick (t 30) (v (.bool true)) (t 41))]
def XC:List aa:=[
 m 43 5,
 m 44 6,
 bs 45 1 [I] [(0,1,(t 44))],
 ap 46 1 8 43 45,
 m 5 46]
def XD:List aa:=[
 m 16 6,
 b 17 .add (t 16) (i 1),
 m 6 17]
def XE:IC:=(q (q (o XA) (k 15 K (ex 0))) (q (bl 1 (q (od XB) (k 42 (o XC) K))) (o XD)))
def XF:List aa:=[
 m 47 5,
 m 4 47]
def f77:IFn:=⟨(q (o Xx) (q (o Xy) (q (q (o Xz) (bl 0 (lp XE))) (q (o XF) R)))),[.t 4],48⟩
def G6:List aa:=[
 x 1 38 0,
 mc 2 (v N)]
def G7:List aa:=[
 f 10 0 1,
 f 11 0 10,
 l 12 11,
 cv 13 .i64 12,
 f 14 0 1,
 f 15 1 14,
 l 16 15,
 cv 17 .i64 16,
 f 18 2 1,
 l 19 18,
 f 20 3 1,
 l 21 20,
 f 22 4 1,
 l 23 22,
 n 24 128 23,
 f 25 5 1,
 l 26 25,
 n 27 5 26,
 bs 28 1 [I,I,I,I,I,I] [(0,1,(t 13)),(1,1,(t 17)),(2,1,(t 19)),(3,1,(t 21)),(4,1,(t 24)),(5,1,(t 27))],
 m 3 28]
def G8:List aa:=[
 mc 4 (i 0)]
def G9:List aa:=[
 m 29 4,
 f 30 5 1,
 l 31 30,
 n 32 5 31,
 b 33 .lss (t 29) (t 32)]
def Ha:List aa:=[
 f 36 5 1,
 l 37 36,
 m 38 4,
 is 39 5 37 (t 38),
 la 40 5 39,
 nw 5 190 [U,U,I,B,N],
 sn 5 5 40]
def Hb:List aa:=[
 m 41 3,
 f 42 0 5,
 f 43 0 42,
 l 44 43,
 cv 45 .i64 44,
 f 46 0 5,
 f 47 1 46,
 l 48 47,
 cv 49 .i64 48,
 f 50 2 5,
 l 51 50,
 f 52 3 5,
 l 53 52,
 c 54 155 [(t 53)],
 f 55 4 5,
 l 56 55,
 n 57 4 56,
 bs 58 1 [I,I,I,I,I] [(0,1,(t 45)),(1,1,(t 49)),(2,1,(t 51)),(3,1,(t 54)),(4,1,(t 57))],
 ap 59 1 8 41 58,
 m 3 59]
def Hc:List aa:=[
 mc 6 (i 0)]
def Hd:List aa:=[
 m 60 6,
 f 61 4 5,
 l 62 61,
 n 63 4 62,
 b 64 .lss (t 60) (t 63)]
def He:List aa:=[
 m 67 3,
 f 68 4 5,
 l 69 68,
 m 70 6,
 is 71 4 69 (t 70),
 f 72 0 71,
 l 73 72,
 f 74 4 5,
 l 75 74,
 m 76 6,
 is 77 4 75 (t 76),
 f 78 1 77,
 l 79 78,
 f 80 4 5,
 l 81 80,
 m 82 6,
 is 83 4 81 (t 82),
 f 84 2 83,
 l 85 84,
 f 86 4 5,
 l 87 86,
 m 88 6,
 is 89 4 87 (t 88),
 f 90 3 89,
 l 91 90,
 c 92 155 [(t 91)],
 bs 93 1 [I,I,I,I] [(0,1,(t 73)),(1,1,(t 79)),(2,1,(t 85)),(3,1,(t 92))],
 ap 94 1 8 67 93,
 m 3 94]
def Hf:List aa:=[
 m 65 6,
 b 66 .add (t 65) (i 1),
 m 6 66]
def Cb:IC:=(q (q (o Hd) (k 64 K (ex 2))) (q (bl 3 (od He)) (o Hf)))
def Cc:List aa:=[
 m 34 4,
 b 35 .add (t 34) (i 1),
 m 4 35]
def Cd:IC:=(q (q (o G9) (k 33 K (ex 0))) (q (bl 1 (q (o Ha) (q (od Hb) (q (o Hc) (bl 2 (lp Cb)))))) (o Cc)))
def Ce:List aa:=[
 m 95 3,
 op 96 (.callp 1 152 [(t 95)]),
 m 7 96]
def Cf:List aa:=[
 mc 8 (i 0)]
def Cg:List aa:=[
 m 97 8,
 f 98 4 1,
 l 99 98,
 n 100 128 99,
 b 101 .lss (t 97) (t 100)]
def Ch:List aa:=[
 mc 9 (i 0)]
def Ci:List aa:=[
 m 104 9,
 b 105 .lss (t 104) (i 128)]
def Cj:List aa:=[
 m 108 7,
 f 109 4 1,
 l 110 109,
 m 111 8,
 m 112 9,
 is 113 128 110 (t 111),
 ia 114 128 1 113 (t 112),
 l 115 114,
 bs 116 1 [Y] [(0,1,(t 115))],
 ap 117 1 1 108 116,
 m 7 117]
def Ck:List aa:=[
 m 106 9,
 b 107 .add (t 106) (i 1),
 m 9 107]
def Cl:IC:=(q (q (o Ci) (k 105 K (ex 6))) (q (bl 7 (o Cj)) (o Ck)))
def Cm:List aa:=[
 m 102 8,
 b 103 .add (t 102) (i 1),
 m 8 103]
def Cn:IC:=(q (q (o Cg) (k 101 K (ex 4))) (q (bl 5 (q (o Ch) (bl 6 (lp Cl)))) (o Cm)))
def Co:List aa:=[
 m 118 7,
 m 2 118]
def f101:IFn:=⟨(q (o G6) (q (o G7) (q (q (o G8) (bl 0 (lp Cd))) (q (o Ce) (q (q (o Cf) (bl 4 (lp Cn))) (q (o Co) R)))))),[.t 2],119⟩
def Hg:List aa:=[
 mc 2 (v B)]
def Hh:List aa:=[
 m 3 0,
 b 4 .eql (t 3) (w 1),
 m 5 4,
 g 5 false (m 6 0),
 g 5 false (b 7 .eql (t 6) (w 2)),
 op 8 (.pick (t 5) (v (.bool true)) (t 7)),
 m 9 8,
 g 9 false (m 10 0),
 g 9 false (b 11 .eql (t 10) (w 3)),
 op 12 (.pick (t 9) (v (.bool true)) (t 11)),
 m 2 12]
def f103:IFn:=⟨(q (o Hg) (q (o Hh) R)),[.t 2],13⟩
def Hi:List aa:=[
 mc 2 (v B)]
def Hj:List aa:=[
 m 3 0,
 b 4 .eql (t 3) (w 1),
 m 5 4,
 g 5 false (m 6 0),
 g 5 false (b 7 .eql (t 6) (w 2)),
 op 8 (.pick (t 5) (v (.bool true)) (t 7)),
 m 9 8,
 g 9 false (m 10 0),
 g 9 false (b 11 .eql (t 10) (w 4)),
 op 12 (.pick (t 9) (v (.bool true)) (t 11)),
 m 13 12,
 g 13 false (m 14 0),
 g 13 false (b 15 .eql (t 14) (w 8)),
 op 16 (.pick (t 13) (v (.bool true)) (t 15)),
 m 2 16]
def f104:IFn:=⟨(q (o Hi) (q (o Hj) R)),[.t 2],17⟩
def Hk:List aa:=[
 x 3 190 0,
 x 4 44 1,
 mc 6 (v B)]
def Hl:List aa:=[
 la 11 1 4,
 f 12 0 3,
 la 13 2 12,
 c 14 156 [(t 11),(t 13)],
 b 15 .neq (t 14) (i 0),
 m 16 15,
 g 16 false (f 17 2 3),
 g 16 false (l 18 17),
 g 16 false (b 19 .lss (t 18) (i 0)),
 op 20 (.pick (t 16) (v (.bool true)) (t 19)),
 m 21 20,
 g 21 false (f 22 2 3),
 g 21 false (l 23 22),
 g 21 false (m 24 2),
 g 21 false (b 25 .geq (t 23) (t 24)),
 op 26 (.pick (t 21) (v (.bool true)) (t 25)),
 m 27 26,
 g 27 false (f 28 4 3),
 g 27 false (l 29 28),
 g 27 false (n 30 4 29),
 g 27 false (b 31 .lss (t 30) (i 2)),
 op 32 (.pick (t 27) (v (.bool true)) (t 31)),
 m 33 32,
 g 33 false (f 34 4 3),
 g 33 false (l 35 34),
 g 33 false (n 36 4 35),
 g 33 false (b 37 .gtr (t 36) (i 4)),
 op 38 (.pick (t 33) (v (.bool true)) (t 37))]
def Hn:List aa:=[
 mc 6 (v B)]
def Ho:List aa:=[
 op 39 (.mkm),
 m 7 39]
def Hq:List aa:=[
 f 40 4 3,
 l 41 40,
 n 42 4 41,
 mc 43 (i 0)]
def Hr:List aa:=[
 b 44 .lss (t 43) (t 42)]
def Ht:List aa:=[
 is 45 4 41 (t 43),
 la 46 4 45,
 nw 9 259 [I,I,I,B],
 sn 4 9 46]
def Hu:List aa:=[
 f 47 0 9,
 l 48 47,
 b 49 .lss (t 48) (i 0),
 m 50 49,
 g 50 false (f 51 0 9),
 g 50 false (l 52 51),
 g 50 false (f 53 0 3),
 g 50 false (f 54 1 53),
 g 50 false (l 55 54),
 g 50 false (cv 56 .i64 55),
 g 50 false (b 57 .geq (t 52) (t 56)),
 op 58 (.pick (t 50) (v (.bool true)) (t 57)),
 m 59 58,
 g 59 false (m 60 7),
 g 59 false (f 61 0 9),
 g 59 false (l 62 61),
 g 59 false (op 63 (.mget 0 false B (t 60) (t 62))),
 op 64 (.pick (t 59) (v (.bool true)) (t 63)),
 m 65 64,
 g 65 false (f 66 2 9),
 g 65 false (l 67 66),
 g 65 false (b 68 .lss (t 67) (i 1)),
 op 69 (.pick (t 65) (v (.bool true)) (t 68)),
 m 70 69,
 g 70 false (f 71 2 9),
 g 70 false (l 72 71),
 g 70 false (b 73 .gtr (t 72) (i 512)),
 op 74 (.pick (t 70) (v (.bool true)) (t 73)),
 m 75 74,
 g 75 false (f 76 1 9),
 g 75 false (l 77 76),
 g 75 false (b 78 .lss (t 77) (i 0)),
 op 79 (.pick (t 75) (v (.bool true)) (t 78)),
 m 80 79,
 g 80 false (f 81 1 9),
 g 80 false (l 82 81),
 g 80 false (la 83 1 4),
 g 80 false (c 84 157 [(t 83)]),
 g 80 false (f 85 2 9),
 g 80 false (l 86 85),
 g 80 false (b 87 .sub (t 84) (t 86)),
 g 80 false (b 88 .gtr (t 82) (t 87)),
 op 89 (.pick (t 80) (v (.bool true)) (t 88))]
def Hv:List aa:=[
 mc 6 (v B)]
def Hw:List aa:=[
 m 90 7,
 f 91 0 9,
 l 92 91,
 op0 (.mupd 0 (t 90) (t 92) (v (.bool true)))]
def Cp:List aa:=[
 b 93 .add (t 43) (i 1),
 m 43 93]
def Cq:IC:=(q (o Hr) (q (k 44 K (ex 0)) (q (bl 1 (q (o Ht) (q (q (od Hu) (k 89 (q (o Hv) R) K)) (o Hw)))) (o Cp))))
def Cr:List aa:=[
 f 94 4 3,
 l 95 94,
 is 96 4 95 (i 0),
 la 97 4 96,
 nw 10 259 [I,I,I,B],
 sn 4 10 97]
def Cs:List aa:=[
 f 98 3 10,
 l 99 98,
 op 100 (.un .not (t 99)),
 m 101 100,
 g 101 true (f 102 2 10),
 g 101 true (l 103 102),
 g 101 true (b 104 .eql (t 103) (i 8)),
 op 105 (.pick (t 101) (t 104) (v B)),
 m 106 105,
 g 106 true (f 107 4 3),
 g 106 true (l 108 107),
 g 106 true (op 109 (.slL 4 (t 108) (some (i 1)) none none)),
 g 106 true (f 110 3 3),
 g 106 true (l 111 110),
 g 106 true (c 112 158 [(t 109),(t 111)]),
 g 106 true (b 113 .eql (t 112) (i 0)),
 op 114 (.pick (t 106) (t 113) (v B)),
 m 6 114]
def f105:IFn:=⟨(q (o Hk) (q (q (o Hl) (k 38 (q (o Hn) R) K)) (q (o Ho) (q (q (o Hq) (bl 0 (lp Cq))) (q (o Cr) (q (od Cs) R)))))),[.t 6],115⟩
def Hx:List aa:=[
 x 2 34 0,
 mc 4 (v B)]
def Hy:List aa:=[
 f 5 1 2,
 l 6 5]
def Hz:List aa:=[
 b 8 .eql (t 6) (w 1),
 m 7 8]
def HC:List aa:=[
 b 10 .eql (t 6) (w 2),
 m 9 10]
def HD:List aa:=[
 b 12 .eql (t 6) (w 4),
 m 11 12]
def HE:List aa:=[
 b 14 .eql (t 6) (w 8),
 m 13 14]
def HF:List aa:=[
 m 15 1,
 b 16 .geq (t 15) (i 0),
 m 17 16,
 g 17 true (m 18 1),
 g 17 true (f 19 1 2),
 g 17 true (l 20 19),
 g 17 true (cv 21 .i64 20),
 g 17 true (b 22 .lss (t 18) (t 21)),
 op 23 (.pick (t 17) (t 22) (v B)),
 m 4 23]
def HG:List aa:=[
 m 24 1,
 b 25 .eql (t 24) (i 0),
 m 4 25]
def f106:IFn:=⟨(q (o Hx) (q (q (o Hy) (bl 0 (q (bl 4 (bl 3 (bl 2 (bl 1 (q (q (q (o Hz) (k 7 (ex 1) K)) (q (q (o HC) (k 9 (ex 2) K)) (q (q (o HD) (k 11 (ex 3) K)) (q (o HE) (k 13 (ex 4) K))))) (ex 0)))))) (q (q (o HF) R) (ex 0))))) (q (o HG) R))),[.t 4],26⟩
def HH:List aa:=[
 mc 2 (v B)]
def HI:List aa:=[
 m 3 0,
 b 4 .geq (t 3) (i 1),
 m 5 4,
 g 5 true (m 6 0),
 g 5 true (b 7 .leq (t 6) (i 3)),
 op 8 (.pick (t 5) (t 7) (v B)),
 m 2 8]
def f107:IFn:=⟨(q (o HH) (q (o HI) R)),[.t 2],9⟩
def HJ:List aa:=[
 x 3 190 0,
 x 4 44 1,
 mc 6 (v B)]
def HK:List aa:=[
 la 10 1 4,
 f 11 0 3,
 la 12 2 11,
 c 13 129 [(t 10),(t 12)],
 b 14 .neq (t 13) (i 0),
 m 15 14,
 g 15 false (f 16 2 3),
 g 15 false (l 17 16),
 g 15 false (b 18 .lss (t 17) (i 0)),
 op 19 (.pick (t 15) (v (.bool true)) (t 18)),
 m 20 19,
 g 20 false (f 21 2 3),
 g 20 false (l 22 21),
 g 20 false (m 23 2),
 g 20 false (b 24 .geq (t 22) (t 23)),
 op 25 (.pick (t 20) (v (.bool true)) (t 24)),
 m 26 25,
 g 26 false (f 27 4 3),
 g 26 false (l 28 27),
 g 26 false (n 29 4 28),
 g 26 false (b 30 .lss (t 29) (i 2)),
 op 31 (.pick (t 26) (v (.bool true)) (t 30)),
 m 32 31,
 g 32 false (f 33 4 3),
 g 32 false (l 34 33),
 g 32 false (n 35 4 34),
 g 32 false (b 36 .gtr (t 35) (i 4)),
 op 37 (.pick (t 32) (v (.bool true)) (t 36))]
def HM:List aa:=[
 mc 6 (v B)]
def HN:List aa:=[
 mc 7 (i 0)]
def HO:List aa:=[
 m 38 7,
 f 39 4 3,
 l 40 39,
 n 41 4 40,
 b 42 .lss (t 38) (t 41)]
def HP:List aa:=[
 f 45 4 3,
 l 46 45,
 m 47 7,
 is 48 4 46 (t 47),
 la 49 4 48,
 nw 8 259 [I,I,I,B],
 sn 4 8 49]
def HQ:List aa:=[
 f 50 0 8,
 l 51 50,
 b 52 .lss (t 51) (i 0),
 m 53 52,
 g 53 false (f 54 0 8),
 g 53 false (l 55 54),
 g 53 false (f 56 0 3),
 g 53 false (f 57 1 56),
 g 53 false (l 58 57),
 g 53 false (cv 59 .i64 58),
 g 53 false (b 60 .geq (t 55) (t 59)),
 op 61 (.pick (t 53) (v (.bool true)) (t 60)),
 m 62 61,
 g 62 false (f 63 2 8),
 g 62 false (l 64 63),
 g 62 false (b 65 .lss (t 64) (i 1)),
 op 66 (.pick (t 62) (v (.bool true)) (t 65)),
 m 67 66,
 g 67 false (f 68 2 8),
 g 67 false (l 69 68),
 g 67 false (b 70 .gtr (t 69) (i 512)),
 op 71 (.pick (t 67) (v (.bool true)) (t 70)),
 m 72 71,
 g 72 false (f 73 1 8),
 g 72 false (l 74 73),
 g 72 false (b 75 .lss (t 74) (i 0)),
 op 76 (.pick (t 72) (v (.bool true)) (t 75)),
 m 77 76,
 g 77 false (f 78 1 8),
 g 77 false (l 79 78),
 g 77 false (la 80 1 4),
 g 77 false (c 81 159 [(t 80)]),
 g 77 false (f 82 2 8),
 g 77 false (l 83 82),
 g 77 false (b 84 .sub (t 81) (t 83)),
 g 77 false (b 85 .gtr (t 79) (t 84)),
 op 86 (.pick (t 77) (v (.bool true)) (t 85))]
def HR:List aa:=[
 mc 6 (v B)]
def HT:List aa:=[
 mc 9 (i 0)]
def HU:List aa:=[
 m 87 9,
 m 88 7,
 b 89 .lss (t 87) (t 88)]
def Ct:List aa:=[
 f 92 4 3,
 l 93 92,
 m 94 9,
 is 95 4 93 (t 94),
 f 96 0 95,
 l 97 96,
 f 98 0 8,
 l 99 98,
 b 100 .eql (t 97) (t 99)]
def Cu:List aa:=[
 mc 6 (v B)]
def Cv:List aa:=[
 m 90 9,
 b 91 .add (t 90) (i 1),
 m 9 91]
def Cw:IC:=(q (q (o HU) (k 89 K (ex 2))) (q (bl 3 (q (od Ct) (k 100 (q (o Cu) R) K))) (o Cv)))
def Cx:List aa:=[
 m 43 7,
 b 44 .add (t 43) (i 1),
 m 7 44]
def Cy:IC:=(q (q (o HO) (k 42 K (ex 0))) (q (bl 1 (q (o HP) (q (q (od HQ) (k 86 (q (o HR) R) K)) (q (o HT) (bl 2 (lp Cw)))))) (o Cx)))
def Cz:List aa:=[
 f 101 4 3,
 l 102 101,
 is 103 4 102 (i 0),
 f 104 3 103,
 l 105 104,
 op 106 (.un .not (t 105)),
 m 107 106,
 g 107 true (f 108 4 3),
 g 107 true (l 109 108),
 g 107 true (is 110 4 109 (i 0)),
 g 107 true (f 111 2 110),
 g 107 true (l 112 111),
 g 107 true (b 113 .eql (t 112) (i 8)),
 op 114 (.pick (t 107) (t 113) (v B)),
 m 115 114,
 g 115 true (f 116 4 3),
 g 115 true (l 117 116),
 g 115 true (op 118 (.slL 4 (t 117) (some (i 1)) none none)),
 g 115 true (f 119 3 3),
 g 115 true (l 120 119),
 g 115 true (c 121 160 [(t 118),(t 120)]),
 g 115 true (b 122 .eql (t 121) (i 0)),
 op 123 (.pick (t 115) (t 122) (v B)),
 m 6 123]
def f108:IFn:=⟨(q (o HJ) (q (q (o HK) (k 37 (q (o HM) R) K)) (q (q (o HN) (bl 0 (lp Cy))) (q (od Cz) R)))),[.t 6],124⟩
def HV:List aa:=[
 x 2 34 0,
 mc 4 (v B)]
def HX:List aa:=[
 f 5 1 2,
 l 6 5,
 b 7 .eql (t 6) (w 1),
 m 8 7,
 g 8 false (f 9 1 2),
 g 8 false (l 10 9),
 g 8 false (b 11 .eql (t 10) (w 2)),
 op 12 (.pick (t 8) (v (.bool true)) (t 11)),
 m 13 12,
 g 13 false (f 14 1 2),
 g 13 false (l 15 14),
 g 13 false (b 16 .eql (t 15) (w 4)),
 op 17 (.pick (t 13) (v (.bool true)) (t 16)),
 m 18 17,
 g 18 false (f 19 1 2),
 g 18 false (l 20 19),
 g 18 false (b 21 .eql (t 20) (w 8)),
 op 22 (.pick (t 18) (v (.bool true)) (t 21))]
def HY:List aa:=[
 m 23 1,
 b 24 .geq (t 23) (i 0),
 m 25 24,
 g 25 true (m 26 1),
 g 25 true (f 27 1 2),
 g 25 true (l 28 27),
 g 25 true (cv 29 .i64 28),
 g 25 true (b 30 .lss (t 26) (t 29)),
 op 31 (.pick (t 25) (t 30) (v B)),
 m 4 31]
def HZ:List aa:=[
 m 32 1,
 b 33 .eql (t 32) (i 0),
 m 4 33]
def f109:IFn:=⟨(q (o HV) (q (q (o HX) (k 22 (q (o HY) R) K)) (q (o HZ) R))),[.t 4],34⟩
def H5:List aa:=[
 op 3 (.boxp (t 0)),
 op 5 (.boxp (t 2)),
 nw 6 170 [I,U,U,U,U,U,U,U,U,I,I,I,I,I,U,I]]
def H6:List aa:=[
 f 7 0 5,
 l 8 7,
 op 9 (.un .not (t 8))]
def H7:List aa:=[
 la 10 14 3,
 m 11 1,
 f 12 1 5,
 l 13 12,
 f 14 2 5,
 l 15 14,
 cv 16 .i64 15,
 c 17 161 [(t 10),(t 11),(t 13),(t 16)],
 sn 16 6 17]
def H8:List aa:=[
 f 18 1 5,
 l 19 18]
def H9:List aa:=[
 b 21 .eql (t 19) (i 0),
 m 20 21]
def Ia:List aa:=[
 la 22 14 3,
 m 23 1,
 f 24 5 3,
 ia 25 4 1 24 (t 23),
 l 26 25,
 bd 27 [I,U,U,U,U,U,U,U,U,I,I,I,I,I,U,I] [(0,14,(t 22)),(14,1,(t 26))],
 sn 16 6 27]
def Ib:List aa:=[
 b 29 .eql (t 19) (i 1),
 m 28 29]
def Ic:List aa:=[
 la 30 14 3,
 la 31 14 3,
 m 32 1,
 c 33 59 [(t 31),(t 32)],
 bd 34 [I,U,U,U,U,U,U,U,U,I,I,I,I,I,U,I] [(0,14,(t 30)),(14,1,(t 33))],
 sn 16 6 34]
def Ie:List aa:=[
 la 35 14 3,
 bd 36 [I,U,U,U,U,U,U,U,U,I,I,I,I,I,U,I] [(0,14,(t 35)),(15,1,(i 5))],
 sn 16 6 36]
def f110:IFn:=⟨(q (o H5) (q (q (o H6) (k 9 (q (o H7) R) K)) (q (q (o H8) (bl 0 (q (o H9) (k 20 (q (od Ia) R) (q (o Ib) (k 28 (q (od Ic) R) K)))))) (q (o Ie) R)))),[.cell 6 16 true],37⟩
def Ig:List aa:=[
 op 4 (.boxp (t 0)),
 op 7 (.boxp (t 3)),
 nw 8 136 [I,B,B,B,B,I,I,I,I,I,I,I,I,U,B,I]]
def Ih:List aa:=[
 f 9 1 7,
 l 10 9,
 b 11 .eql (t 10) (i 16),
 m 12 11,
 g 12 true (f 13 0 7),
 g 12 true (l 14 13),
 op 15 (.pick (t 12) (t 14) (v B))]
def Ii:List aa:=[
 la 16 13 4,
 m 17 1,
 c 18 162 [(t 16),(t 17)],
 sn 16 8 18]
def Ij:List aa:=[
 f 19 1 7,
 l 20 19,
 b 21 .eql (t 20) (i 17),
 m 22 21,
 g 22 true (f 23 0 7),
 g 22 true (l 24 23),
 g 22 true (op 25 (.un .not (t 24))),
 op 26 (.pick (t 22) (t 25) (v B))]
def Ik:List aa:=[
 la 27 13 4,
 m 28 1,
 m 29 2,
 f 30 2 7,
 l 31 30,
 c 32 163 [(t 27),(t 28),(t 29),(t 31)],
 sn 16 8 32]
def Il:List aa:=[
 la 33 13 4,
 bd 34 [I,B,B,B,B,I,I,I,I,I,I,I,I,U,B,I] [(0,13,(t 33)),(15,1,(i 5))],
 sn 16 8 34]
def f111:IFn:=⟨(q (o Ig) (q (q (o Ih) (k 15 (q (o Ii) R) K)) (q (q (o Ij) (k 26 (q (o Ik) R) K)) (q (o Il) R)))),[.cell 8 16 true],35⟩
def Im:List aa:=[
 op 2 (.boxp (t 0)),
 op 3 (.boxp (t 1)),
 nw 4 199 [E,I,U,E,B]]
def Io:List aa:=[
 f 5 1 3,
 l 6 5,
 b 7 .eql (t 6) (i 32),
 m 8 7,
 g 8 true (f 9 0 3),
 g 8 true (l 10 9),
 g 8 true (op 11 (.un .not (t 10))),
 op 12 (.pick (t 8) (t 11) (v B))]
def Ip:List aa:=[
 la 13 2 2,
 f 14 2 3,
 l 15 14,
 cv 16 .u8 15,
 bs 17 1 [Y] [(0,1,(t 16))],
 op 18 (.b2s (t 17)),
 bd 19 [E,I,U,E,B] [(0,2,(t 13)),(3,1,(t 18)),(4,1,(v (.bool true)))],
 sn 5 4 19]
def Iq:List aa:=[
 f 20 1 3,
 l 21 20,
 b 22 .eql (t 21) (i 33),
 m 23 22,
 g 23 true (f 24 0 3),
 g 23 true (l 25 24),
 op 26 (.pick (t 23) (t 25) (v B))]
def Ir:List aa:=[
 f 27 0 2,
 l 28 27,
 ns 29 28,
 b 30 .eql (t 29) (i 0)]
def It:List aa:=[
 la 31 2 2,
 bd 32 [E,I,U,E,B] [(0,2,(t 31)),(2,1,(w 4294967295)),(4,1,(v (.bool true)))],
 sn 5 4 32]
def Iu:List aa:=[
 f 33 0 2,
 l 34 33,
 op 35 (.slS (t 34) (some (i 1)) none),
 f 36 1 2,
 l 37 36,
 bd 38 [E,I] [(0,1,(t 35)),(1,1,(t 37))],
 f 39 0 2,
 l 40 39,
 op 41 (.ixS (t 40) (i 0)),
 cv 42 .u32 41,
 bd 43 [E,I,U,E,B] [(0,2,(t 38)),(2,1,(t 42)),(4,1,(v (.bool true)))],
 sn 5 4 43]
def Iv:List aa:=[
 f 44 1 3,
 l 45 44,
 b 46 .eql (t 45) (i 34),
 m 47 46,
 g 47 true (f 48 0 3),
 g 47 true (l 49 48),
 op 50 (.pick (t 47) (t 49) (v B))]
def Iw:List aa:=[
 la 51 2 2,
 f 52 0 2,
 l 53 52,
 ns 54 53,
 cv 55 .u32 54,
 bd 56 [E,I,U,E,B] [(0,2,(t 51)),(2,1,(t 55)),(4,1,(v (.bool true)))],
 sn 5 4 56]
def Ix:List aa:=[
 la 57 2 2,
 bd 58 [E,I,U,E,B] [(0,2,(t 57))],
 sn 5 4 58]
def f112:IFn:=⟨(q (o Im) (q (q (o Io) (k 12 (q (o Ip) R) K)) (q (q (o Iq) (k 26 (q (q (o Ir) (k 30 (q (o It) R) K)) (q (od Iu) R)) K)) (q (q (o Iv) (k 50 (q (o Iw) R) K)) (q (o Ix) R))))),[.cell 4 5 true],59⟩
def Iy:List aa:=[
 x 1 124 0,
 nw 2 124 [U,U,I,I,N,N,N,U,N,B,B]]
def Iz:List aa:=[
 f 8 6 1,
 f 9 0 8,
 la 10 1 9,
 f 11 0 1,
 f 12 0 11,
 la 13 2 12,
 c 14 129 [(t 10),(t 13)],
 m 3 14]
def IA:List aa:=[
 m 15 3,
 b 16 .neq (t 15) (i 0)]
def IB:List aa:=[
 m 17 3,
 f 18 0 1,
 f 19 3 18,
 s 19 17]
def ID:List aa:=[
 la 20 11 1,
 sn 11 2 20]
def IE:List aa:=[
 f 21 0 1,
 f 22 0 21,
 f 23 1 22,
 l 24 23,
 cv 25 .i64 24,
 m 4 25]
def IF:List aa:=[
 mc 5 (i 0)]
def IG:List aa:=[
 m 26 5,
 m 27 4,
 b 28 .lss (t 26) (t 27)]
def IH:List aa:=[
 f 31 6 1,
 f 32 0 31,
 la 33 1 32,
 f 34 0 1,
 f 35 0 34,
 la 36 2 35,
 f 37 0 1,
 f 38 2 37,
 l 39 38,
 c 40 130 [(t 33),(t 36),(t 39)],
 nw 6 229 [I,B],
 sn 2 6 40]
def II:List aa:=[
 f 41 1 6,
 l 42 41,
 op 43 (.un .not (t 42)),
 m 44 43,
 g 44 false (f 45 0 1),
 g 44 false (f 46 5 45),
 g 44 false (l 47 46),
 g 44 false (n 48 5 47),
 g 44 false (b 49 .geq (t 48) (i 8)),
 op 50 (.pick (t 44) (v (.bool true)) (t 49))]
def CA:List aa:=[
 la 51 11 1,
 sn 11 2 51]
def CB:List aa:=[
 f 52 0 6,
 l 53 52,
 b 54 .add (t 53) (i 1),
 m 55 4,
 b 56 .rem (t 54) (t 55),
 f 57 0 1,
 f 58 2 57,
 s 58 56]
def CC:List aa:=[
 f 59 6 1,
 f 60 0 59,
 la 61 1 60,
 f 62 0 1,
 f 63 0 62,
 la 64 2 63,
 f 65 0 6,
 l 66 65,
 c 67 131 [(t 61),(t 64),(t 66)],
 nw 7 232 [N,N,I],
 sn 3 7 67]
def CD:List aa:=[
 f 68 0 7,
 la 69 1 68,
 f 70 6 1,
 f 71 0 70,
 s 71 69]
def CE:List aa:=[
 f 72 2 7,
 l 73 72,
 b 74 .neq (t 73) (i 0)]
def CF:List aa:=[
 f 75 2 7,
 l 76 75,
 f 77 0 1,
 f 78 3 77,
 s 78 76]
def CG:List aa:=[
 f 79 6 1,
 f 80 3 79,
 op0 (.store 1 (t 80) (v (.bool true)))]
def CH:List aa:=[
 la 81 11 1,
 f 82 0 6,
 l 83 82,
 f 84 1 7,
 l 85 84,
 c 86 164 [(t 81),(t 83),(t 85)],
 sn 11 1 86]
def CI:List aa:=[
 m 29 5,
 b 30 .add (t 29) (i 1),
 m 5 30]
def CJ:IC:=(q (q (o IG) (k 28 K (ex 0))) (q (bl 1 (q (o IH) (q (q (o II) (k 50 (q (o CA) R) K)) (q (o CB) (q (o CC) (q (o CD) (q (o CE) (k 74 (q (o CF) (o CG)) (o CH))))))))) (o CI)))
def CK:List aa:=[
 la 87 11 1,
 sn 11 2 87]
def f113:IFn:=⟨(q (o Iy) (q (o Iz) (q (q (o IA) (k 16 (q (o IB) (q (o ID) R)) K)) (q (o IE) (q (q (o IF) (bl 0 (lp CJ))) (q (o CK) R)))))),[.cell 2 11 true],88⟩
def IJ:List aa:=[
 x 1 128 0,
 nw 2 128 [U,U,U,U,I,I,I,I,N,U,N,B,B]]
def IK:List aa:=[
 f 8 8 1,
 f 9 0 8,
 la 10 1 9,
 f 11 0 1,
 f 12 0 11,
 la 13 2 12,
 c 14 129 [(t 10),(t 13)],
 m 3 14]
def IL:List aa:=[
 m 15 3,
 b 16 .neq (t 15) (i 0)]
def IM:List aa:=[
 m 17 3,
 f 18 0 1,
 f 19 6 18,
 s 19 17]
def IN:List aa:=[
 la 20 13 1,
 sn 13 2 20]
def IP:List aa:=[
 mc 4 (i 0)]
def IQ:List aa:=[
 m 21 4,
 f 22 0 1,
 f 23 0 22,
 f 24 1 23,
 l 25 24,
 cv 26 .i64 25,
 b 27 .lss (t 21) (t 26)]
def IS:List aa:=[
 f 30 8 1,
 f 31 0 30,
 la 32 1 31,
 f 33 0 1,
 f 34 0 33,
 la 35 2 34,
 f 36 0 1,
 f 37 4 36,
 l 38 37,
 c 39 130 [(t 32),(t 35),(t 38)],
 nw 5 229 [I,B],
 sn 2 5 39]
def IT:List aa:=[
 f 40 1 5,
 l 41 40,
 op 42 (.un .not (t 41))]
def IU:List aa:=[
 la 43 13 1,
 sn 13 2 43]
def CL:List aa:=[
 f 44 8 1,
 f 45 3 44,
 op0 (.store 1 (t 45) (v (.bool true)))]
def CM:List aa:=[
 f 46 0 5,
 l 47 46,
 b 48 .add (t 47) (i 1),
 f 49 0 1,
 f 50 0 49,
 f 51 1 50,
 l 52 51,
 cv 53 .i64 52,
 b 54 .rem (t 48) (t 53),
 f 55 0 1,
 f 56 4 55,
 s 56 54]
def CN:List aa:=[
 f 57 8 1,
 f 58 0 57,
 la 59 1 58,
 f 60 0 1,
 f 61 0 60,
 la 62 2 61,
 f 63 0 5,
 l 64 63,
 c 65 131 [(t 59),(t 62),(t 64)],
 nw 6 232 [N,N,I],
 sn 3 6 65]
def CO:List aa:=[
 f 66 0 6,
 la 67 1 66,
 f 68 8 1,
 f 69 0 68,
 s 69 67]
def CP:List aa:=[
 f 70 2 6,
 l 71 70,
 b 72 .neq (t 71) (i 0)]
def CQ:List aa:=[
 f 73 2 6,
 l 74 73,
 f 75 0 1,
 f 76 6 75,
 s 76 74]
def CR:List aa:=[
 f 77 1 6,
 l 78 77,
 c 79 132 [(t 78),(v B),(i 0),(i 512)],
 m 7 79]
def CS:List aa:=[
 m 80 7,
 b 81 .neq (t 80) (i 0)]
def CT:List aa:=[
 m 82 7,
 f 83 0 1,
 f 84 6 83,
 s 84 82]
def CU:List aa:=[
 f 85 8 1,
 f 86 0 85,
 la 87 1 86,
 f 88 0 1,
 f 89 0 88,
 la 90 2 89,
 f 91 0 5,
 l 92 91,
 m 93 7,
 c 94 133 [(t 87),(t 90),(t 92),(t 93)],
 f 95 8 1,
 f 96 0 95,
 s 96 94]
def CV:List aa:=[
 bs 97 1 [] [],
 f 98 8 1,
 f 99 2 98,
 l 100 99,
 ap 101 1 16 97 100,
 f 102 8 1,
 f 103 0 102,
 la 104 1 103,
 f 105 1 6,
 l 106 105,
 c 107 137 [(t 104),(t 106)],
 bs 108 1 [E] [(0,1,(t 107))],
 ap 109 1 16 101 108,
 f 110 8 1,
 f 111 2 110,
 s 111 109]
def CW:List aa:=[
 f 112 8 1,
 f 113 0 112,
 la 114 1 113,
 f 115 0 1,
 f 116 0 115,
 la 117 2 116,
 f 118 1 6,
 l 119 118,
 c 120 135 [(t 114),(t 117),(t 119)],
 f 121 8 1,
 f 122 0 121,
 s 122 120]
def CX:List aa:=[
 m 28 4,
 b 29 .add (t 28) (i 1),
 m 4 29]
def CY:IC:=(q (q (o IQ) (k 27 K (ex 0))) (q (bl 1 (q (o IS) (q (q (o IT) (k 42 (q (o IU) R) K)) (q (o CL) (q (o CM) (q (o CN) (q (o CO) (q (q (o CP) (k 72 (q (o CQ) (ex 1)) K)) (q (o CR) (q (q (o CS) (k 81 (q (o CT) (q (o CU) (ex 1))) K)) (q (od CV) (o CW)))))))))))) (o CX)))
def CZ:List aa:=[
 la 123 13 1,
 sn 13 2 123]
def f114:IFn:=⟨(q (o IJ) (q (o IK) (q (q (o IL) (k 16 (q (o IM) (q (o IN) R)) K)) (q (q (o IP) (bl 0 (lp CY))) (q (o CZ) R))))),[.cell 2 13 true],124⟩
def IV:List aa:=[
 mc 4 (v B)]
def IW:List aa:=[
 m 5 0,
 m 6 1,
 c 7 116 [(t 6)],
 b 8 .quo (t 5) (t 7),
 b 9 .rem (t 8) (w 2),
 b 10 .eql (t 9) (w 1),
 m 4 10]
def f115:IFn:=⟨(q (o IV) (q (o IW) R)),[.t 4],11⟩
def IX:List aa:=[
 op 2 (.boxp (t 0)),
 mc 4 (i 0)]
def IY:List aa:=[
 m 5 1,
 c 6 120 [(t 5)],
 op 7 (.un .not (t 6))]
def IZ:List aa:=[
 mc 4 (i 0)]
def I0:List aa:=[
 m 8 1,
 f 9 9 2,
 ia 10 4 1 9 (t 8),
 l 11 10,
 m 4 11]
def f117:IFn:=⟨(q (o IX) (q (q (o IY) (k 7 (q (o IZ) R) K)) (q (o I0) R))),[.t 4],12⟩
def I1:List aa:=[
 op 2 (.boxp (t 0)),
 mc 4 (i 0)]
def I2:List aa:=[
 m 6 1,
 c 7 127 [(t 6)],
 m 5 7]
def I3:List aa:=[
 m 8 5]
def I4:List aa:=[
 m 9 1,
 f 10 9 2,
 ia 11 4 1 10 (t 9),
 l 12 11,
 m 4 12]
def I5:List aa:=[
 mc 4 (i 0)]
def f118:IFn:=⟨(q (o I1) (q (o I2) (q (q (o I3) (k 8 (q (o I4) R) K)) (q (o I5) R)))),[.t 4],13⟩
def I6:List aa:=[
 mc 2 (v B)]
def I7:List aa:=[
 m 3 0,
 b 4 .geq (t 3) (i 0),
 m 5 4,
 g 5 true (m 6 0),
 g 5 true (b 7 .lss (t 6) (i 4)),
 op 8 (.pick (t 5) (t 7) (v B)),
 m 2 8]
def f120:IFn:=⟨(q (o I6) (q (o I7) R)),[.t 2],9⟩
def I8:List aa:=[
 x 3 209 0,
 x 4 34 1,
 x 5 215 2,
 mc 6 (v .nilfn)]
def I9:List aa:=[
 op 7 (.mkf 165 [] [(t 3),(t 4),(t 5)]),
 m 6 7]
def f121:IFn:=⟨(q (o I8) (q (o I9) R)),[.t 6],8⟩
def Ja:List aa:=[
 x 3 44 0,
 x 4 34 1,
 nw 6 44 [N]]
def Jb:List aa:=[
 m 9 2,
 n 10 4 9,
 mc 11 (i 0)]
def Jc:List aa:=[
 b 12 .lss (t 11) (t 10)]
def Jd:List aa:=[
 is 13 4 9 (t 11),
 la 14 4 13,
 nw 8 259 [I,I,I,B],
 sn 4 8 14]
def Je:List aa:=[
 la 15 1 3,
 la 16 2 4,
 f 17 0 8,
 l 18 17,
 bs 19 1 [I] [(0,1,(t 18))],
 c 20 176 [(t 15),(t 16),(i 3),(t 19)],
 s 3 20]
def Jf:List aa:=[
 b 21 .add (t 11) (i 1),
 m 11 21]
def Jg:IC:=(q (o Jc) (q (k 12 K (ex 0)) (q (bl 1 (q (o Jd) (o Je))) (o Jf))))
def Jh:List aa:=[
 la 22 1 3,
 s 6 22]
def f126:IFn:=⟨(q (o Ja) (q (q (o Jb) (bl 0 (lp Jg))) (q (o Jh) R))),[.cell 6 1 true],23⟩
def Ji:List aa:=[
 mc 2 (v B)]
def Jj:List aa:=[
 m 3 0,
 b 4 .geq (t 3) (i 0),
 m 5 4,
 g 5 true (m 6 0),
 g 5 true (b 7 .leq (t 6) (i 3)),
 op 8 (.pick (t 5) (t 7) (v B)),
 m 2 8]
def f127:IFn:=⟨(q (o Ji) (q (o Jj) R)),[.t 2],9⟩
def Jk:List aa:=[
 x 2 44 0,
 x 3 34 1,
 mc 4 (i 0)]
def Jl:List aa:=[
 f 5 1 3,
 l 6 5,
 b 7 .neq (t 6) (w 1),
 m 8 7,
 g 8 true (f 9 1 3),
 g 8 true (l 10 9),
 g 8 true (b 11 .neq (t 10) (w 2)),
 op 12 (.pick (t 8) (t 11) (v B)),
 m 13 12,
 g 13 true (f 14 1 3),
 g 13 true (l 15 14),
 g 13 true (b 16 .neq (t 15) (w 4)),
 op 17 (.pick (t 13) (t 16) (v B)),
 m 18 17,
 g 18 true (f 19 1 3),
 g 18 true (l 20 19),
 g 18 true (b 21 .neq (t 20) (w 8)),
 op 22 (.pick (t 18) (t 21) (v B)),
 m 23 22,
 g 23 false (f 24 0 3),
 g 23 false (l 25 24),
 g 23 false (b 26 .rem (t 25) (w 16)),
 g 23 false (b 27 .neq (t 26) (w 0)),
 op 28 (.pick (t 23) (v (.bool true)) (t 27)),
 m 29 28,
 g 29 false (f 30 0 3),
 g 29 false (l 31 30),
 g 29 false (cv 32 .i64 31),
 g 29 false (f 33 1 3),
 g 29 false (l 34 33),
 g 29 false (cv 35 .i64 34),
 g 29 false (b 36 .mul (i 16) (t 35)),
 g 29 false (b 37 .add (t 32) (t 36)),
 g 29 false (la 38 1 2),
 g 29 false (c 39 159 [(t 38)]),
 g 29 false (b 40 .gtr (t 37) (t 39)),
 op 41 (.pick (t 29) (v (.bool true)) (t 40))]
def Jm:List aa:=[
 mc 4 (i 160)]
def Jn:List aa:=[
 mc 4 (i 0)]
def f129:IFn:=⟨(q (o Jk) (q (q (od Jl) (k 41 (q (o Jm) R) K)) (q (o Jn) R))),[.t 4],42⟩
def Jo:List aa:=[
 x 3 44 0,
 x 4 34 1,
 nw 6 229 [I,B]]
def Jp:List aa:=[
 f 9 1 4,
 l 10 9,
 cv 11 .i64 10,
 m 7 11]
def Jq:List aa:=[
 mc 8 (i 0)]
def Jr:List aa:=[
 m 12 8,
 m 13 7,
 b 14 .lss (t 12) (t 13)]
def Js:List aa:=[
 la 17 1 3,
 la 18 2 4,
 m 19 2,
 m 20 8,
 b 21 .add (t 19) (t 20),
 m 22 7,
 b 23 .rem (t 21) (t 22),
 c 24 177 [(t 17),(t 18),(t 23),(i 3)],
 b 25 .eql (t 24) (i 1)]
def Jt:List aa:=[
 m 26 2,
 m 27 8,
 b 28 .add (t 26) (t 27),
 m 29 7,
 b 30 .rem (t 28) (t 29),
 bd 31 [I,B] [(0,1,(t 30)),(1,1,(v (.bool true)))],
 sn 2 6 31]
def Ju:List aa:=[
 m 15 8,
 b 16 .add (t 15) (i 1),
 m 8 16]
def Jv:IC:=(q (q (o Jr) (k 14 K (ex 0))) (q (bl 1 (q (od Js) (k 25 (q (o Jt) R) K))) (o Ju)))
def Jw:List aa:=[
 bd 32 [I,B] [],
 sn 2 6 32]
def f130:IFn:=⟨(q (o Jo) (q (o Jp) (q (q (o Jq) (bl 0 (lp Jv))) (q (o Jw) R)))),[.cell 6 2 true],33⟩
def Jx:List aa:=[
 x 3 44 0,
 x 4 34 1,
 nw 6 232 [N,N,I]]
def Jy:List aa:=[
 mc 7 (v N)]
def Jz:List aa:=[
 m 11 2,
 m 8 11]
def JA:List aa:=[
 la 12 1 3,
 la 13 2 4,
 m 14 7,
 m 15 8,
 c 16 178 [(t 12),(t 13),(t 14),(t 15)],
 m 9 16]
def JB:List aa:=[
 m 17 9,
 b 18 .neq (t 17) (i 0)]
def JC:List aa:=[
 la 19 1 3,
 la 20 2 4,
 m 21 2,
 c 22 177 [(t 19),(t 20),(t 21),(i 3)],
 b 23 .eql (t 22) (i 1)]
def JD:List aa:=[
 la 24 1 3,
 la 25 2 4,
 m 26 2,
 m 27 9,
 b 28 .sub (t 27) (i 160),
 b 29 .add (i 4) (t 28),
 c 30 179 [(t 24),(t 25),(t 26),(t 29)],
 s 3 30]
def JE:List aa:=[
 la 31 1 3,
 m 32 9,
 bd 33 [N,N,I] [(0,1,(t 31)),(2,1,(t 32))],
 sn 3 6 33]
def JF:List aa:=[
 la 34 1 3,
 la 35 2 4,
 m 36 8,
 c 37 177 [(t 34),(t 35),(t 36),(i 2)],
 m 10 37]
def JG:List aa:=[
 m 38 7,
 m 39 8,
 la 40 1 3,
 la 41 2 4,
 m 42 8,
 c 43 177 [(t 40),(t 41),(t 42),(i 0)],
 la 44 1 3,
 la 45 2 4,
 m 46 8,
 c 47 177 [(t 44),(t 45),(t 46),(i 1)],
 m 48 10,
 b 49 .rem (t 48) (i 2),
 b 50 .eql (t 49) (i 1),
 bd 51 [I,I,I,B] [(0,1,(t 39)),(1,1,(t 43)),(2,1,(t 47)),(3,1,(t 50))],
 bs 52 4 [I,I,I,B] [(0,4,(t 51))],
 ap 53 4 32 38 52,
 m 7 53]
def C0:List aa:=[
 m 54 10,
 b 55 .quo (t 54) (i 2),
 b 56 .rem (t 55) (i 2),
 b 57 .eql (t 56) (i 0)]
def C1:List aa:=[
 la 58 1 3,
 la 59 2 4,
 m 60 7,
 c 61 180 [(t 58),(t 59),(t 60),(i 2)],
 m 62 7,
 bd 63 [N,N,I] [(0,1,(t 61)),(1,1,(t 62))],
 sn 3 6 63]
def C2:List aa:=[
 m 64 10,
 b 65 .quo (t 64) (i 256),
 b 66 .rem (t 65) (i 256),
 m 8 66]
def C3:IC:=(bl 1 (q (o JA) (q (q (o JB) (k 18 (q (q (o JC) (k 23 (o JD) K)) (q (o JE) R)) K)) (q (o JF) (q (od JG) (q (q (o C0) (k 57 (q (o C1) R) K)) (o C2)))))))
def f131:IFn:=⟨(q (o Jx) (q (o Jy) (q (o Jz) (bl 0 (lp C3))))),[.cell 6 3 true],67⟩
def JH:List aa:=[
 mc 8 (i 0)]
def JI:List aa:=[
 mc 9 (i 0)]
def JJ:List aa:=[
 mc 10 (i 0)]
def JK:List aa:=[
 m 11 10,
 m 12 0,
 n 13 4 12,
 b 14 .lss (t 11) (t 13)]
def JL:List aa:=[
 m 17 0,
 m 18 10,
 is 19 4 17 (t 18),
 f 20 3 19,
 l 21 20,
 m 22 1,
 op 23 (.eq true 1 (t 21) (t 22))]
def JM:List aa:=[
 mc 8 (i 164)]
def JN:List aa:=[
 m 24 9,
 m 25 0,
 m 26 10,
 is 27 4 25 (t 26),
 f 28 2 27,
 l 29 28,
 b 30 .add (t 24) (t 29),
 m 9 30]
def JO:List aa:=[
 m 15 10,
 b 16 .add (t 15) (i 1),
 m 10 16]
def JP:IC:=(q (q (o JK) (k 14 K (ex 0))) (q (bl 1 (q (q (o JL) (k 23 (q (o JM) R) K)) (o JN))) (o JO)))
def JQ:List aa:=[
 m 31 9,
 m 32 2,
 b 33 .lss (t 31) (t 32),
 m 34 33,
 g 34 false (m 35 9),
 g 34 false (m 36 3),
 g 34 false (b 37 .gtr (t 35) (t 36)),
 op 38 (.pick (t 34) (v (.bool true)) (t 37))]
def C4:List aa:=[
 mc 8 (i 161)]
def C5:List aa:=[
 mc 8 (i 0)]
def f132:IFn:=⟨(q (o JH) (q (o JI) (q (q (o JJ) (bl 0 (lp JP))) (q (q (o JQ) (k 38 (q (o C4) R) K)) (q (o C5) R))))),[.t 8],39⟩
def JR:List aa:=[
 x 4 44 0,
 x 5 34 1,
 nw 8 44 [N]]
def JS:List aa:=[
 m 9 3,
 b 10 .lss (t 9) (i 160),
 m 11 10,
 g 11 false (m 12 3),
 g 11 false (b 13 .gtr (t 12) (i 165)),
 op 14 (.pick (t 11) (v (.bool true)) (t 13))]
def JT:List aa:=[
 la 15 1 4,
 s 8 15]
def JU:List aa:=[
 la 16 1 4,
 la 17 2 5,
 m 18 2,
 m 19 3,
 b 20 .sub (t 19) (i 160),
 b 21 .add (i 4) (t 20),
 c 22 179 [(t 16),(t 17),(t 18),(t 21)],
 s 8 22]
def f133:IFn:=⟨(q (o JR) (q (q (o JS) (k 14 (q (o JT) R) K)) (q (o JU) R))),[.cell 8 1 true],23⟩
def JV:List aa:=[
 x 3 44 0,
 x 4 34 1,
 nw 6 44 [N]]
def JW:List aa:=[
 la 7 1 3,
 la 8 2 4,
 m 9 2,
 c 10 180 [(t 7),(t 8),(t 9),(i 3)],
 s 6 10]
def f135:IFn:=⟨(q (o JV) (q (o JW) R)),[.cell 6 1 true],11⟩
def JX:List aa:=[
 x 2 44 0,
 x 3 243 1,
 nw 4 240 [N,B]]
def JY:List aa:=[
 la 8 1 2,
 f 9 0 3,
 l 10 9,
 f 11 1 3,
 l 12 11,
 c 13 182 [(t 8),(t 10),(t 12)],
 m 5 13]
def JZ:List aa:=[
 m 14 5,
 op 15 (.un .not (t 14))]
def J0:List aa:=[
 la 16 1 2,
 bd 17 [N,B] [(0,1,(t 16))],
 sn 2 4 17]
def J1:List aa:=[
 la 18 1 2,
 op 19 (.callp 2 183 [(t 18)]),
 nw 6 44 [N],
 s 6 19]
def J2:List aa:=[
 mc 7 (i 0)]
def J3:List aa:=[
 m 20 7,
 f 21 1 3,
 l 22 21,
 b 23 .lss (t 20) (t 22)]
def J4:List aa:=[
 f 26 0 6,
 l 27 26,
 f 28 0 3,
 l 29 28,
 m 30 7,
 b 31 .add (t 29) (t 30),
 b 32 .quo (t 31) (i 128),
 f 33 0 3,
 l 34 33,
 m 35 7,
 b 36 .add (t 34) (t 35),
 b 37 .rem (t 36) (i 128),
 f 38 2 3,
 l 39 38,
 m 40 7,
 b 41 .mul (i 8) (t 40),
 b 42 .shr (t 39) (t 41),
 cv 43 .u8 42,
 is 44 128 27 (t 32),
 ia 45 128 1 44 (t 37),
 s 45 43]
def J5:List aa:=[
 m 24 7,
 b 25 .add (t 24) (i 1),
 m 7 25]
def J6:IC:=(q (q (o J3) (k 23 K (ex 0))) (q (bl 1 (od J4)) (o J5)))
def C6:List aa:=[
 la 46 1 6,
 bd 47 [N,B] [(0,1,(t 46)),(1,1,(v (.bool true)))],
 sn 2 4 47]
def f136:IFn:=⟨(q (o JX) (q (o JY) (q (q (o JZ) (k 15 (q (o J0) R) K)) (q (o J1) (q (q (o J2) (bl 0 (lp J6))) (q (o C6) R)))))),[.cell 4 2 true],48⟩
def J7:List aa:=[
 x 2 44 0,
 mc 4 (v E)]
def J8:List aa:=[
 mc 5 (v E)]
def J9:List aa:=[
 mc 6 (i 0)]
def Ka:List aa:=[
 m 7 6,
 m 8 1,
 n 9 4 8,
 b 10 .lss (t 7) (t 9)]
def Kb:List aa:=[
 m 13 1,
 m 14 6,
 is 15 4 13 (t 14),
 f 16 3 15,
 l 17 16,
 op 18 (.un .not (t 17))]
def Kc:List aa:=[
 m 19 5,
 la 20 1 2,
 m 21 1,
 m 22 6,
 is 23 4 21 (t 22),
 f 24 1 23,
 l 25 24,
 m 26 1,
 m 27 6,
 is 28 4 26 (t 27),
 f 29 2 28,
 l 30 29,
 c 31 184 [(t 20),(t 25),(t 30)],
 fd 32 0 1 false 31,
 b 33 .add (t 19) (t 32),
 m 5 33]
def Kd:List aa:=[
 m 11 6,
 b 12 .add (t 11) (i 1),
 m 6 12]
def Ke:IC:=(q (q (o Ka) (k 10 K (ex 0))) (q (bl 1 (q (o Kb) (k 18 (od Kc) K))) (o Kd)))
def Kf:List aa:=[
 m 34 5,
 m 4 34]
def f137:IFn:=⟨(q (o J7) (q (o J8) (q (q (o J9) (bl 0 (lp Ke))) (q (o Kf) R)))),[.t 4],35⟩
def Kg:List aa:=[
 mc 2 (v N)]
def Kh:List aa:=[
 m 5 0,
 n 6 1 5,
 op 7 (.callp 1 154 [(t 6)]),
 m 3 7]
def Ki:List aa:=[
 mc 4 (i 0)]
def Kj:List aa:=[
 m 8 4,
 m 9 0,
 n 10 1 9,
 b 11 .lss (t 8) (t 10)]
def Kk:List aa:=[
 m 14 3,
 m 15 0,
 m 16 4,
 is 17 1 15 (t 16),
 l 18 17,
 c 19 154 [(t 18)],
 ap 20 1 1 14 19,
 m 3 20]
def Kl:List aa:=[
 m 12 4,
 b 13 .add (t 12) (i 1),
 m 4 13]
def Km:IC:=(q (q (o Kj) (k 11 K (ex 0))) (q (bl 1 (o Kk)) (o Kl)))
def Kn:List aa:=[
 m 21 3,
 m 2 21]
def f152:IFn:=⟨(q (o Kg) (q (o Kh) (q (q (o Ki) (bl 0 (lp Km))) (q (o Kn) R)))),[.t 2],22⟩
def Ko:List aa:=[
 mc 2 (v N)]
def Kp:List aa:=[
 m 5 0,
 cv 6 .u64 5,
 b 7 .mul (t 6) (v (.int .u64 2)),
 m 3 7]
def Kq:List aa:=[
 m 8 0,
 b 9 .lss (t 8) (i 0)]
def Kr:List aa:=[
 m 10 0,
 b 11 .sub (i (-1)) (t 10),
 cv 12 .u64 11,
 b 13 .mul (t 12) (v (.int .u64 2)),
 b 14 .add (t 13) (v (.int .u64 1)),
 m 3 14]
def Ks:List aa:=[
 mc 4 (v N)]
def Kt:List aa:=[
 m 15 3,
 b 16 .geq (t 15) (v (.int .u64 128))]
def Ku:List aa:=[
 m 17 4,
 m 18 3,
 b 19 .rem (t 18) (v (.int .u64 128)),
 cv 20 .u8 19,
 b 21 .add (t 20) (y 128),
 bs 22 1 [Y] [(0,1,(t 21))],
 ap 23 1 1 17 22,
 m 4 23]
def Kv:List aa:=[
 m 24 3,
 b 25 .quo (t 24) (v (.int .u64 128)),
 m 3 25]
def Kw:IC:=(q (q (o Kt) (k 16 K (ex 0))) (bl 1 (q (o Ku) (o Kv))))
def Kx:List aa:=[
 m 26 4,
 m 27 3,
 cv 28 .u8 27,
 bs 29 1 [Y] [(0,1,(t 28))],
 ap 30 1 1 26 29,
 m 2 30]
def f154:IFn:=⟨(q (o Ko) (q (o Kp) (q (q (o Kq) (k 9 (o Kr) K)) (q (o Ks) (q (bl 0 (lp Kw)) (q (o Kx) R)))))),[.t 2],31⟩
def Ky:List aa:=[
 mc 2 (i 0)]
def Kz:List aa:=[
 m 3 0]
def KA:List aa:=[
 mc 2 (i 1)]
def KB:List aa:=[
 mc 2 (i 0)]
def f155:IFn:=⟨(q (o Ky) (q (q (o Kz) (k 3 (q (o KA) R) K)) (q (o KB) R))),[.t 2],4⟩
def KC:List aa:=[
 x 2 44 0,
 x 3 34 1,
 mc 4 (i 0)]
def KD:List aa:=[
 f 5 1 3,
 l 6 5]
def KE:List aa:=[
 b 8 .eql (t 6) (w 1),
 m 7 8]
def KF:List aa:=[
 b 9 .eql (t 6) (w 2),
 m 7 9]
def KG:List aa:=[
 b 10 .eql (t 6) (w 4),
 m 7 10]
def KH:List aa:=[
 b 11 .eql (t 6) (w 8),
 m 7 11]
def KI:List aa:=[
 f 12 0 3,
 l 13 12,
 b 14 .rem (t 13) (w 16),
 b 15 .eql (t 14) (w 0),
 m 16 15,
 g 16 true (f 17 0 3),
 g 16 true (l 18 17),
 g 16 true (cv 19 .i64 18),
 g 16 true (f 20 1 3),
 g 16 true (l 21 20),
 g 16 true (cv 22 .i64 21),
 g 16 true (b 23 .mul (i 16) (t 22)),
 g 16 true (b 24 .add (t 19) (t 23)),
 g 16 true (la 25 1 2),
 g 16 true (c 26 157 [(t 25)]),
 g 16 true (b 27 .leq (t 24) (t 26)),
 op 28 (.pick (t 16) (t 27) (v B))]
def KJ:List aa:=[
 mc 4 (i 0)]
def KK:List aa:=[
 mc 4 (i 160)]
def f156:IFn:=⟨(q (o KC) (q (q (o KD) (bl 0 (q (q (o KE) (k 7 K (q (o KF) (k 7 K (q (o KG) (k 7 K (o KH))))))) (k 7 (q (od KI) (k 28 (q (o KJ) R) K)) K)))) (q (o KK) R))),[.t 4],29⟩
def KL:List aa:=[
 x 1 44 0,
 mc 2 (i 0)]
def KM:List aa:=[
 f 3 0 1,
 l 4 3,
 n 5 128 4,
 b 6 .mul (t 5) (i 128),
 m 2 6]
def f157:IFn:=⟨(q (o KL) (q (o KM) R)),[.t 2],7⟩
def KN:List aa:=[
 mc 4 (i 0)]
def KO:List aa:=[
 mc 5 (i 0)]
def KP:List aa:=[
 m 10 0,
 n 11 4 10,
 mc 12 (i 0)]
def KQ:List aa:=[
 b 13 .lss (t 12) (t 11)]
def KR:List aa:=[
 is 14 4 10 (t 12),
 la 15 4 14,
 nw 7 259 [I,I,I,B],
 sn 4 7 15]
def KS:List aa:=[
 m 16 5,
 f 17 2 7,
 l 18 17,
 b 19 .add (t 16) (t 18),
 m 5 19]
def KT:List aa:=[
 b 20 .add (t 12) (i 1),
 m 12 20]
def KU:IC:=(q (o KQ) (q (k 13 K (ex 0)) (q (bl 1 (q (o KR) (o KS))) (o KT))))
def KV:List aa:=[
 m 21 5,
 b 22 .lss (t 21) (i 1),
 m 23 22,
 g 23 false (m 24 5),
 g 23 false (b 25 .gtr (t 24) (i 128)),
 op 26 (.pick (t 23) (v (.bool true)) (t 25))]
def KW:List aa:=[
 mc 4 (i 161)]
def C7:List aa:=[
 m 27 0,
 n 28 4 27,
 mc 29 (i 0)]
def C8:List aa:=[
 b 30 .lss (t 29) (t 28)]
def C9:List aa:=[
 is 31 4 27 (t 29),
 la 32 4 31,
 nw 9 259 [I,I,I,B],
 sn 4 9 32]
def Da:List aa:=[
 f 33 3 9,
 l 34 33,
 m 35 1,
 op 36 (.eq false 1 (t 34) (t 35))]
def Db:List aa:=[
 mc 4 (i 164)]
def Dc:List aa:=[
 b 37 .add (t 29) (i 1),
 m 29 37]
def Dd:IC:=(q (o C8) (q (k 30 K (ex 2)) (q (bl 3 (q (o C9) (q (o Da) (k 36 (q (o Db) R) K)))) (o Dc))))
def De:List aa:=[
 mc 4 (i 0)]
def f158:IFn:=⟨(q (o KN) (q (o KO) (q (q (o KP) (bl 0 (lp KU))) (q (q (o KV) (k 26 (q (o KW) R) K)) (q (q (o C7) (bl 2 (lp Dd))) (q (o De) R)))))),[.t 4],38⟩
def KX:List aa:=[
 x 1 44 0,
 mc 2 (i 0)]
def KY:List aa:=[
 f 3 0 1,
 l 4 3,
 n 5 128 4,
 b 6 .mul (t 5) (i 128),
 m 2 6]
def f159:IFn:=⟨(q (o KX) (q (o KY) R)),[.t 2],7⟩
def KZ:List aa:=[
 mc 4 (i 0)]
def K0:List aa:=[
 mc 5 (i 0)]
def K1:List aa:=[
 mc 6 (i 0)]
def K2:List aa:=[
 m 8 6,
 m 9 0,
 n 10 4 9,
 b 11 .lss (t 8) (t 10)]
def K3:List aa:=[
 m 14 5,
 m 15 0,
 m 16 6,
 is 17 4 15 (t 16),
 f 18 2 17,
 l 19 18,
 b 20 .add (t 14) (t 19),
 m 5 20]
def K4:List aa:=[
 m 12 6,
 b 13 .add (t 12) (i 1),
 m 6 13]
def K5:IC:=(q (q (o K2) (k 11 K (ex 0))) (q (bl 1 (o K3)) (o K4)))
def K6:List aa:=[
 m 21 0,
 n 22 4 21,
 b 23 .eql (t 22) (i 0),
 m 24 23,
 g 24 false (m 25 5),
 g 24 false (b 26 .gtr (t 25) (i 128)),
 op 27 (.pick (t 24) (v (.bool true)) (t 26))]
def K7:List aa:=[
 mc 4 (i 161)]
def K8:List aa:=[
 mc 7 (i 0)]
def Df:List aa:=[
 m 28 7,
 m 29 0,
 n 30 4 29,
 b 31 .lss (t 28) (t 30)]
def Dg:List aa:=[
 m 34 0,
 m 35 7,
 is 36 4 34 (t 35),
 f 37 3 36,
 l 38 37,
 m 39 1,
 op 40 (.eq false 1 (t 38) (t 39))]
def Dh:List aa:=[
 mc 4 (i 164)]
def Di:List aa:=[
 m 32 7,
 b 33 .add (t 32) (i 1),
 m 7 33]
def Dj:IC:=(q (q (o Df) (k 31 K (ex 2))) (q (bl 3 (q (o Dg) (k 40 (q (o Dh) R) K))) (o Di)))
def Dk:List aa:=[
 mc 4 (i 0)]
def f160:IFn:=⟨(q (o KZ) (q (o K0) (q (q (o K1) (bl 0 (lp K5))) (q (q (o K6) (k 27 (q (o K7) R) K)) (q (q (o K8) (bl 2 (lp Dj))) (q (o Dk) R)))))),[.t 4],41⟩
def K9:List aa:=[
 x 4 26 0,
 nw 8 170 [I,U,U,U,U,U,U,U,U,I,I,I,I,I,U,I]]
def La:List aa:=[
 m 9 2]
def Lb:List aa:=[
 b 13 .eql (t 9) (i 0),
 m 12 13]
def Lc:List aa:=[
 m 14 1,
 m 15 3,
 b 16 .rem (t 15) (i 32),
 cv 17 .u32 16,
 f 18 5 4,
 ia 19 4 1 18 (t 14),
 s 19 17]
def Ld:List aa:=[
 b 21 .eql (t 9) (i 2),
 m 20 21]
def Le:List aa:=[
 m 22 3,
 b 23 .lss (t 22) (i 5),
 m 24 23,
 g 24 true (m 25 1),
 g 24 true (f 26 1 4),
 g 24 true (ia 27 4 1 26 (t 25)),
 g 24 true (l 28 27),
 g 24 true (m 29 3),
 g 24 true (c 30 115 [(t 28),(t 29)]),
 op 31 (.pick (t 24) (t 30) (v B))]
def Lf:List aa:=[
 m 32 1,
 m 33 1,
 f 34 1 4,
 ia 35 4 1 34 (t 33),
 l 36 35,
 m 37 3,
 c 38 116 [(t 37)],
 b 39 .sub (t 36) (t 38),
 f 40 1 4,
 ia 41 4 1 40 (t 32),
 s 41 39]
def Lg:List aa:=[
 b 43 .eql (t 9) (i 3),
 m 42 43]
def Lh:List aa:=[
 m 44 3,
 f 45 0 4,
 l 46 45,
 b 47 .lss (t 44) (t 46)]
def Li:List aa:=[
 la 48 14 4,
 m 49 3,
 c 50 63 [(t 48),(i 4),(t 49)],
 sn 14 4 50]
def Dl:List aa:=[
 b 52 .eql (t 9) (i 4),
 m 51 52]
def Dm:List aa:=[
 m 53 3,
 b 54 .quo (t 53) (i 16),
 c 55 107 [(t 54)],
 m 56 55,
 g 56 true (m 57 3),
 g 56 true (b 58 .rem (t 57) (i 16)),
 g 56 true (f 59 0 4),
 g 56 true (l 60 59),
 g 56 true (b 61 .lss (t 58) (t 60)),
 op 62 (.pick (t 56) (t 61) (v B))]
def Dp:List aa:=[
 m 63 3,
 b 64 .quo (t 63) (i 16),
 m 65 3,
 b 66 .rem (t 65) (i 16),
 f 67 9 4,
 ia 68 5 1 67 (t 64),
 s 68 66]
def Dq:List aa:=[
 la 10 14 4,
 bd 11 [I,U,U,U,U,U,U,U,U,I,I,I,I,I,U,I] [(0,14,(t 10)),(15,1,(i 5))],
 sn 16 8 11]
def Dr:List aa:=[
 la 69 14 4,
 bd 70 [I,U,U,U,U,U,U,U,U,I,I,I,I,I,U,I] [(0,14,(t 69))],
 sn 16 8 70]
def f161:IFn:=⟨(q (o K9) (q (q (o La) (bl 0 (q (o Lb) (k 12 (o Lc) (q (o Ld) (k 20 (q (o Le) (k 31 (od Lf) K)) (q (o Lg) (k 42 (q (o Lh) (k 47 (o Li) K)) (q (o Dl) (k 51 (q (o Dm) (k 62 (o Dp) K)) (q (o Dq) R))))))))))) (q (o Dr) R))),[.cell 8 16 true],71⟩
def Lj:List aa:=[
 op 2 (.boxp (t 0)),
 nw 4 136 [I,B,B,B,B,I,I,I,I,I,I,I,I,U,B,I]]
def Lk:List aa:=[
 m 7 1,
 c 8 127 [(t 7)],
 m 5 8]
def Ll:List aa:=[
 m 9 5,
 op 10 (.un .not (t 9))]
def Lm:List aa:=[
 la 11 13 2,
 bd 12 [I,B,B,B,B,I,I,I,I,I,I,I,I,U,B,I] [(0,13,(t 11)),(15,1,(i 1))],
 sn 16 4 12]
def Ln:List aa:=[
 m 13 1,
 f 14 1 2,
 ia 15 4 1 14 (t 13),
 l 16 15,
 op 17 (.un .not (t 16))]
def Lo:List aa:=[
 la 18 13 2,
 bd 19 [I,B,B,B,B,I,I,I,I,I,I,I,I,U,B,I] [(0,13,(t 18)),(15,1,(i 4))],
 sn 16 4 19]
def Lp:List aa:=[
 la 20 13 2,
 nw 6 30 [I,B,B,B,B,I,I,I,I,I,I,I,I],
 sn 13 6 20]
def Lq:List aa:=[
 m 21 1,
 f 22 1 6,
 ia 23 4 1 22 (t 21),
 op0 (.store 1 (t 23) (v B))]
def Lr:List aa:=[
 m 24 1,
 f 25 5 6,
 ia 26 4 1 25 (t 24),
 op0 (.store 1 (t 26) (i 0))]
def Ls:List aa:=[
 la 27 13 6,
 m 28 1,
 f 29 5 2,
 ia 30 4 1 29 (t 28),
 l 31 30,
 cv 32 .u32 31,
 bd 33 [I,B,B,B,B,I,I,I,I,I,I,I,I,U,B,I] [(0,13,(t 27)),(13,1,(t 32))],
 sn 16 4 33]
def f162:IFn:=⟨(q (o Lj) (q (o Lk) (q (q (o Ll) (k 10 (q (o Lm) R) K)) (q (q (o Ln) (k 17 (q (o Lo) R) K)) (q (o Lp) (q (o Lq) (q (o Lr) (q (od Ls) R)))))))),[.cell 4 16 true],34⟩
def Lt:List aa:=[
 op 4 (.boxp (t 0)),
 nw 8 136 [I,B,B,B,B,I,I,I,I,I,I,I,I,U,B,I]]
def Lu:List aa:=[
 m 11 1,
 c 12 127 [(t 11)],
 m 9 12]
def Lv:List aa:=[
 m 13 9,
 op 14 (.un .not (t 13)),
 m 15 14,
 g 15 false (m 16 2),
 g 15 false (b 17 .lss (t 16) (i 0)),
 op 18 (.pick (t 15) (v (.bool true)) (t 17)),
 m 19 18,
 g 19 false (m 20 2),
 g 19 false (b 21 .gtr (t 20) (i 1099511627776)),
 op 22 (.pick (t 19) (v (.bool true)) (t 21))]
def Lw:List aa:=[
 la 23 13 4,
 bd 24 [I,B,B,B,B,I,I,I,I,I,I,I,I,U,B,I] [(0,13,(t 23)),(15,1,(i 1))],
 sn 16 8 24]
def Lx:List aa:=[
 la 25 13 4,
 nw 10 30 [I,B,B,B,B,I,I,I,I,I,I,I,I],
 sn 13 10 25]
def Ly:List aa:=[
 m 26 1,
 m 27 2,
 m 28 3,
 cv 29 .i64 28,
 b 30 .add (t 27) (t 29),
 f 31 9 10,
 ia 32 4 1 31 (t 26),
 s 32 30]
def Lz:List aa:=[
 m 33 1,
 f 34 9 10,
 ia 35 4 1 34 (t 33),
 l 36 35,
 b 37 .gtr (t 36) (i 1099511627776)]
def LC:List aa:=[
 m 38 1,
 f 39 9 10,
 ia 40 4 1 39 (t 38),
 op0 (.store 1 (t 40) (i 1099511627776))]
def LD:List aa:=[
 m 41 3,
 b 42 .eql (t 41) (w 0)]
def LF:List aa:=[
 m 43 1,
 f 44 9 10,
 ia 45 4 1 44 (t 43),
 op0 (.store 1 (t 45) (i 0))]
def Ds:List aa:=[
 la 46 13 10,
 bd 47 [I,B,B,B,B,I,I,I,I,I,I,I,I,U,B,I] [(0,13,(t 46))],
 sn 16 8 47]
def f163:IFn:=⟨(q (o Lt) (q (o Lu) (q (q (o Lv) (k 22 (q (o Lw) R) K)) (q (o Lx) (q (o Ly) (q (q (o Lz) (k 37 (o LC) K)) (q (q (o LD) (k 42 (o LF) K)) (q (o Ds) R)))))))),[.cell 8 16 true],48⟩
def LG:List aa:=[
 x 3 124 0,
 nw 6 124 [U,U,I,I,N,N,N,U,N,B,B]]
def LH:List aa:=[
 m 10 2,
 is 11 4 10 (i 0),
 f 12 2 11,
 l 13 12,
 b 14 .neq (t 13) (i 8),
 m 15 14,
 g 15 false (m 16 2),
 g 15 false (is 17 4 16 (i 0)),
 g 15 false (f 18 3 17),
 g 15 false (l 19 18),
 op 20 (.pick (t 15) (v (.bool true)) (t 19))]
def LI:List aa:=[
 la 21 11 3,
 m 22 1,
 c 23 189 [(t 21),(t 22),(i 161)],
 sn 11 6 23]
def LJ:List aa:=[
 f 24 6 3,
 f 25 0 24,
 la 26 1 25,
 m 27 2,
 is 28 4 27 (i 0),
 f 29 1 28,
 l 30 29,
 c 31 190 [(t 26),(t 30)],
 m 7 31]
def LK:List aa:=[
 f 32 6 3,
 f 33 0 32,
 la 34 1 33,
 m 35 2,
 is 36 4 35 (i 0),
 f 37 1 36,
 l 38 37,
 b 39 .add (t 38) (i 4),
 c 40 190 [(t 34),(t 39)],
 m 8 40]
def LL:List aa:=[
 m 41 7,
 f 42 0 3,
 f 43 4 42,
 l 44 43,
 n 45 128 44,
 b 46 .geq (t 41) (t 45),
 m 47 46,
 g 47 false (m 48 8),
 g 47 false (b 49 .neq (t 48) (i 1)),
 g 47 false (m 50 49),
 g 50 true (m 51 8),
 g 50 true (b 52 .neq (t 51) (i 2)),
 g 47 false (op 53 (.pick (t 50) (t 52) (v B))),
 op 54 (.pick (t 47) (v (.bool true)) (t 53))]
def LM:List aa:=[
 la 55 11 3,
 m 56 1,
 c 57 189 [(t 55),(t 56),(i 161)],
 sn 11 6 57]
def LN:List aa:=[
 m 58 2,
 op 59 (.slL 4 (t 58) (some (i 1)) none none),
 m 60 8,
 b 61 .eql (t 60) (i 2),
 c 62 160 [(t 59),(t 61)],
 m 9 62]
def LO:List aa:=[
 m 63 9,
 b 64 .neq (t 63) (i 0)]
def LP:List aa:=[
 la 65 11 3,
 m 66 1,
 m 67 9,
 c 68 189 [(t 65),(t 66),(t 67)],
 sn 11 6 68]
def Dt:List aa:=[
 bs 69 5 [] [],
 f 70 0 3,
 f 71 5 70,
 l 72 71,
 ap 73 5 48 69 72,
 f 74 0 3,
 f 75 0 74,
 la 76 2 75,
 m 77 7,
 m 78 8,
 b 79 .eql (t 78) (i 2),
 m 80 2,
 bd 81 [U,U,I,B,N] [(0,2,(t 76)),(2,1,(t 77)),(3,1,(t 79)),(4,1,(t 80))],
 bs 82 5 [U,U,I,B,N] [(0,5,(t 81))],
 ap 83 5 48 73 82,
 f 84 0 3,
 f 85 5 84,
 s 85 83]
def Du:List aa:=[
 la 86 11 3,
 sn 11 6 86]
def f164:IFn:=⟨(q (o LG) (q (q (o LH) (k 20 (q (o LI) R) K)) (q (od LJ) (q (od LK) (q (q (o LL) (k 54 (q (o LM) R) K)) (q (o LN) (q (q (o LO) (k 64 (q (o LP) R) K)) (q (od Dt) (q (o Du) R))))))))),[.cell 6 11 true],87⟩
def LQ:List aa:=[
 l 11 1,
 op 12 (.nchk (t 11)),
 f 13 0 12,
 f 14 0 13,
 la 15 1 14,
 la 16 2 2,
 c 17 156 [(t 15),(t 16)],
 m 5 17]
def LR:List aa:=[
 m 18 5,
 b 19 .neq (t 18) (i 0)]
def LU:List aa:=[
 l 20 1,
 m 21 5,
 op 22 (.calls 166 [(t 20),(t 21)])]
def LV:List aa:=[
 f 23 1 2,
 l 24 23,
 mc 25 (w 0)]
def LW:List aa:=[
 b 26 .lss (t 25) (t 24)]
def LX:List aa:=[
 l 28 1,
 op 29 (.nchk (t 28)),
 f 30 0 29,
 f 31 0 30,
 la 32 1 31,
 la 33 2 2,
 l 34 3,
 op 35 (.nchk (t 34)),
 l 36 35,
 c 37 167 [(t 32),(t 33),(t 36)],
 m 27 37,
 e 38 27 0,
 e 39 27 1,
 m 6 38,
 m 7 39]
def LY:List aa:=[
 m 40 7,
 op 41 (.un .not (t 40))]
def LZ:List aa:=[
 l 42 1,
 op 43 (.nchk (t 42)),
 f 44 0 43,
 f 45 3 44,
 op0 (.store 1 (t 45) (v (.bool true)))]
def L0:List aa:=[
 l 46 3,
 m 47 6,
 b 48 .add (t 47) (i 1),
 f 49 1 2,
 l 50 49,
 cv 51 .i64 50,
 b 52 .rem (t 48) (t 51),
 op 53 (.nchk (t 46)),
 s 53 52]
def L1:List aa:=[
 l 55 1,
 op 56 (.nchk (t 55)),
 f 57 0 56,
 f 58 0 57,
 la 59 1 58,
 la 60 2 2,
 m 61 6,
 c 62 168 [(t 59),(t 60),(t 61)],
 m 54 62,
 e 63 54 0,
 e 64 54 1,
 e 65 54 2,
 nw 8 44 [N],
 s 8 63,
 m 9 64,
 m 10 65]
def Dv:List aa:=[
 l 66 1,
 la 67 1 8,
 op 68 (.nchk (t 66)),
 f 69 0 68,
 f 70 0 69,
 s 70 67]
def Dw:List aa:=[
 m 71 10,
 b 72 .neq (t 71) (i 0)]
def Dx:List aa:=[
 l 73 1,
 m 74 10,
 op 75 (.calls 166 [(t 73),(t 74)])]
def Dy:List aa:=[
 m 76 0,
 m 77 6,
 m 78 9,
 m 79 10,
 bd 80 [I,N,I] [(0,1,(t 77)),(1,1,(t 78)),(2,1,(t 79))],
 op 81 (.callv (t 76) [(t 80)]),
 op 82 (.un .not (t 81))]
def Dz:List aa:=[
 b 83 .add (t 25) (w 1),
 m 25 83]
def DA:IC:=(q (o LW) (q (k 26 K (ex 0)) (q (bl 1 (q (od LX) (q (q (o LY) (k 41 R K)) (q (o LZ) (q (od L0) (q (od L1) (q (o Dv) (q (q (o Dw) (k 72 (o Dx) K)) (q (o Dy) (k 82 R K)))))))))) (o Dz))))
def f165:IFn:=⟨(q (q (od LQ) (q (o LR) (k 19 (q (o LU) R) K))) (q (o LV) (bl 0 (lp DA)))),[],84⟩
def L2:List aa:=[
 m 4 0,
 m 5 1,
 op 6 (.nchk (t 4)),
 f 7 5 6,
 f 8 6 7,
 s 8 5]
def f166:IFn:=⟨(o L2),[],9⟩
def L3:List aa:=[
 x 3 44 0,
 x 4 34 1,
 mc 6 (i 0),
 mc 7 (v B)]
def L4:List aa:=[
 f 10 1 4,
 l 11 10,
 cv 12 .i64 11,
 mc 13 (i 0)]
def L5:List aa:=[
 b 14 .lss (t 13) (t 12)]
def L6:List aa:=[
 m 15 13,
 m 8 15]
def L7:List aa:=[
 m 16 2,
 m 17 8,
 b 18 .add (t 16) (t 17),
 f 19 1 4,
 l 20 19,
 cv 21 .i64 20,
 b 22 .rem (t 18) (t 21),
 m 9 22]
def L8:List aa:=[
 la 23 1 3,
 la 24 2 4,
 m 25 9,
 c 26 191 [(t 23),(t 24),(t 25)],
 fd 27 5 1 false 26,
 b 28 .eql (t 27) (w 1)]
def L9:List aa:=[
 m 29 9,
 m 6 29,
 mc 7 (v (.bool true))]
def Ma:List aa:=[
 b 30 .add (t 13) (i 1),
 m 13 30]
def Mb:IC:=(q (o L5) (q (k 14 K (ex 0)) (q (bl 1 (q (o L6) (q (o L7) (q (o L8) (k 28 (q (o L9) R) K))))) (o Ma))))
def Mc:List aa:=[
 mc 6 (i 0),
 mc 7 (v B)]
def f167:IFn:=⟨(q (o L3) (q (q (o L4) (bl 0 (lp Mb))) (q (o Mc) R))),[.t 6,.t 7],31⟩
def Md:List aa:=[
 x 3 44 0,
 x 4 34 1,
 nw 6 44 [N],
 mc 7 (v N),
 mc 8 (i 0)]
def Me:List aa:=[
 mc 9 (v N)]
def Mf:List aa:=[
 op 17 (.mks false 1 8 [I] (i 0) (i 4)),
 m 10 17]
def Mg:List aa:=[
 m 18 2,
 mc 11 (v B),
 m 12 18,
 mc 13 (i 0)]
def Mh:List aa:=[
 la 19 1 3,
 la 20 2 4,
 m 21 12,
 c 22 191 [(t 19),(t 20),(t 21)],
 nw 14 312 [I,I,I,B,U,U],
 sn 6 14 22]
def Mi:List aa:=[
 m 23 10,
 n 24 1 23,
 mc 25 (i 0)]
def Mj:List aa:=[
 b 26 .lss (t 25) (t 24)]
def Mk:List aa:=[
 is 27 1 23 (t 25),
 l 28 27,
 m 16 28]
def Ml:List aa:=[
 m 29 16,
 m 30 12,
 b 31 .eql (t 29) (t 30)]
def Mm:List aa:=[
 mc 13 (i 163)]
def DB:List aa:=[
 b 32 .add (t 25) (i 1),
 m 25 32]
def DC:IC:=(q (o Mj) (q (k 26 K (ex 2)) (q (bl 3 (q (o Mk) (q (o Ml) (k 31 (q (o Mm) (ex 0)) K)))) (o DB))))
def DD:List aa:=[
 m 34 10,
 n 35 1 34,
 b 36 .eql (t 35) (i 4),
 m 33 36]
def DE:List aa:=[
 mc 13 (i 163)]
def DF:List aa:=[
 f 38 5 14,
 l 39 38,
 b 40 .neq (t 39) (w 1),
 m 37 40]
def DG:List aa:=[
 mc 13 (i 165)]
def DH:List aa:=[
 f 42 0 14,
 f 43 2 42,
 l 44 43,
 b 45 .lss (t 44) (i 1),
 m 46 45,
 g 46 false (f 47 0 14),
 g 46 false (f 48 2 47),
 g 46 false (l 49 48),
 g 46 false (b 50 .gtr (t 49) (i 512)),
 op 51 (.pick (t 46) (v (.bool true)) (t 50)),
 m 52 51,
 g 52 false (f 53 0 14),
 g 52 false (f 54 1 53),
 g 52 false (l 55 54),
 g 52 false (f 56 0 14),
 g 52 false (f 57 2 56),
 g 52 false (l 58 57),
 g 52 false (b 59 .add (t 55) (t 58)),
 g 52 false (la 60 1 3),
 g 52 false (c 61 157 [(t 60)]),
 g 52 false (b 62 .gtr (t 59) (t 61)),
 op 63 (.pick (t 52) (v (.bool true)) (t 62)),
 m 41 63]
def DJ:List aa:=[
 mc 13 (i 161)]
def DK:List aa:=[
 la 65 6 14,
 c 66 192 [(t 65)],
 op 67 (.un .not (t 66)),
 m 68 67,
 g 68 false (m 69 11),
 g 68 false (m 70 69),
 g 70 true (f 71 0 14),
 g 70 true (f 72 3 71),
 g 70 true (l 73 72),
 g 70 true (op 74 (.un .not (t 73))),
 g 68 false (op 75 (.pick (t 70) (t 74) (v B))),
 op 76 (.pick (t 68) (v (.bool true)) (t 75)),
 m 64 76]
def DL:List aa:=[
 mc 13 (i 164)]
def DM:List aa:=[
 la 78 6 14,
 c 79 193 [(t 78)],
 m 80 79,
 g 80 true (la 81 6 14),
 g 80 true (c 82 194 [(t 81)]),
 g 80 true (f 83 1 4),
 g 80 true (l 84 83),
 g 80 true (cv 85 .i64 84),
 g 80 true (b 86 .geq (t 82) (t 85)),
 op 87 (.pick (t 80) (t 86) (v B)),
 m 77 87]
def DN:List aa:=[
 mc 13 (i 162)]
def DO:List aa:=[
 m 88 13,
 b 89 .neq (t 88) (i 0)]
def DP:List aa:=[
 m 90 10,
 m 91 12,
 bs 92 1 [I] [(0,1,(t 91))],
 ap 93 1 8 90 92,
 m 94 9,
 f 95 0 14,
 la 96 4 95,
 bs 97 4 [I,I,I,B] [(0,4,(t 96))],
 ap 98 4 32 94 97,
 m 99 11,
 m 100 99,
 g 100 false (f 101 0 14),
 g 100 false (f 102 3 101),
 g 100 false (l 103 102),
 op 104 (.pick (t 100) (v (.bool true)) (t 103)),
 m 10 93,
 m 9 98,
 m 11 104]
def DQ:List aa:=[
 la 105 6 14,
 c 106 193 [(t 105)],
 op 107 (.un .not (t 106))]
def DR:List aa:=[
 la 108 1 3,
 la 109 2 4,
 m 110 10,
 c 111 176 [(t 108),(t 109),(i 2),(t 110)],
 m 112 9,
 s 6 111,
 m 7 112,
 mc 8 (i 0)]
def DS:List aa:=[
 la 113 6 14,
 c 114 194 [(t 113)],
 m 12 114]
def tX:IC:=(bl 1 (q (o Mh) (q (q (o Mi) (bl 2 (lp DC))) (q (bl 4 (q (o DD) (k 33 (o DE) (q (o DF) (k 37 (o DG) (q (od DH) (k 41 (o DJ) (q (o DK) (k 64 (o DL) (q (od DM) (k 77 (o DN) K))))))))))) (q (q (o DO) (k 89 (ex 0) K)) (q (od DP) (q (q (o DQ) (k 107 (q (o DR) R) K)) (o DS))))))))
def DT:List aa:=[
 la 115 1 3,
 la 116 2 4,
 m 117 2,
 c 118 191 [(t 115),(t 116),(t 117)],
 fd 119 5 1 false 118,
 b 120 .eql (t 119) (w 1)]
def DU:List aa:=[
 la 121 1 3,
 la 122 2 4,
 m 123 2,
 m 124 13,
 c 125 195 [(t 121),(t 122),(t 123),(t 124)],
 s 3 125]
def DV:List aa:=[
 la 126 1 3,
 m 127 13,
 s 6 126,
 mc 7 (v N),
 m 8 127]
def f168:IFn:=⟨(q (o Md) (q (o Me) (q (o Mf) (q (o Mg) (q K (q (bl 0 (lp tX)) (q (q (o DT) (k 120 (o DU) K)) (q (o DV) R)))))))),[.cell 6 1 true,.t 7,.t 8],128⟩
def Mn:List aa:=[
 mc 8 (i 0)]
def Mo:List aa:=[
 mc 9 (i 0)]
def Mp:List aa:=[
 m 12 0,
 n 13 4 12,
 mc 14 (i 0)]
def Mq:List aa:=[
 b 15 .lss (t 14) (t 13)]
def Mr:List aa:=[
 is 16 4 12 (t 14),
 la 17 4 16,
 nw 11 259 [I,I,I,B],
 sn 4 11 17]
def Ms:List aa:=[
 f 18 3 11,
 l 19 18,
 m 20 1,
 op 21 (.eq true 1 (t 19) (t 20))]
def Mt:List aa:=[
 mc 8 (i 164)]
def Mu:List aa:=[
 m 22 9,
 f 23 2 11,
 l 24 23,
 b 25 .add (t 22) (t 24),
 m 9 25]
def Mv:List aa:=[
 b 26 .add (t 14) (i 1),
 m 14 26]
def Mw:IC:=(q (o Mq) (q (k 15 K (ex 0)) (q (bl 1 (q (o Mr) (q (q (o Ms) (k 21 (q (o Mt) R) K)) (o Mu)))) (o Mv))))
def DW:List aa:=[
 m 27 9,
 m 28 2,
 b 29 .lss (t 27) (t 28),
 m 30 29,
 g 30 false (m 31 9),
 g 30 false (m 32 3),
 g 30 false (b 33 .gtr (t 31) (t 32)),
 op 34 (.pick (t 30) (v (.bool true)) (t 33))]
def DX:List aa:=[
 mc 8 (i 161)]
def DY:List aa:=[
 mc 8 (i 0)]
def f169:IFn:=⟨(q (o Mn) (q (o Mo) (q (q (o Mp) (bl 0 (lp Mw))) (q (q (o DW) (k 34 (q (o DX) R) K)) (q (o DY) R))))),[.t 8],35⟩
def Mx:List aa:=[
 x 5 34 1]
def My:List aa:=[
 m 8 0,
 m 9 0,
 op 10 (.nchk (t 9)),
 f 11 0 10,
 f 12 0 11,
 la 13 1 12,
 la 14 2 5,
 m 15 2,
 m 16 3,
 c 17 195 [(t 13),(t 14),(t 15),(t 16)],
 op 18 (.nchk (t 8)),
 f 19 0 18,
 f 20 0 19,
 s 20 17]
def Mz:List aa:=[
 m 21 0,
 m 22 3,
 op 23 (.calls 166 [(t 21),(t 22)])]
def f170:IFn:=⟨(q (o Mx) (q (od My) (o Mz))),[],24⟩
def MA:List aa:=[
 x 2 44 0,
 x 3 243 1,
 nw 4 44 [N],
 mc 5 (v B)]
def MB:List aa:=[
 la 6 1 2,
 la 7 3 3,
 bs 8 3 [I,I,U] [(0,3,(t 7))],
 c 9 196 [(t 6),(t 8)],
 e 10 9 0,
 e 11 9 1,
 s 4 10,
 m 5 11]
def f171:IFn:=⟨(q (o MA) (q (o MB) R)),[.cell 4 1 true,.t 5],12⟩
def MC:List aa:=[
 x 3 44 0,
 mc 6 (v E),
 mc 7 (v B)]
def MD:List aa:=[
 m 12 1,
 b 13 .lss (t 12) (i 0),
 m 14 13,
 g 14 false (m 15 2),
 g 14 false (b 16 .lss (t 15) (i 0)),
 op 17 (.pick (t 14) (v (.bool true)) (t 16)),
 m 18 17,
 g 18 false (m 19 1),
 g 18 false (la 20 1 3),
 g 18 false (c 21 157 [(t 20)]),
 g 18 false (b 22 .gtr (t 19) (t 21)),
 op 23 (.pick (t 18) (v (.bool true)) (t 22)),
 m 24 23,
 g 24 false (m 25 2),
 g 24 false (la 26 1 3),
 g 24 false (c 27 157 [(t 26)]),
 g 24 false (m 28 1),
 g 24 false (b 29 .sub (t 27) (t 28)),
 g 24 false (b 30 .gtr (t 25) (t 29)),
 op 31 (.pick (t 24) (v (.bool true)) (t 30))]
def ME:List aa:=[
 mc 6 (v E),
 mc 7 (v B)]
def MF:List aa:=[
 m 32 2,
 op 33 (.mks false 1 1 [Y] (i 0) (t 32)),
 m 8 33]
def MG:List aa:=[
 m 34 8,
 n 35 1 34,
 m 36 2,
 b 37 .lss (t 35) (t 36)]
def MH:List aa:=[
 m 38 1,
 m 39 8,
 n 40 1 39,
 b 41 .add (t 38) (t 40),
 m 9 41]
def MI:List aa:=[
 f 42 0 3,
 l 43 42,
 m 44 9,
 b 45 .quo (t 44) (i 128),
 is 46 128 43 (t 45),
 la 47 128 46,
 nw 10 220 (List.replicate 128 Y),
 sn 128 10 47]
def MJ:List aa:=[
 m 48 9,
 b 49 .rem (t 48) (i 128),
 op 50 (.slA 128 1 (t 10) (some (t 49)) none none),
 m 11 50]
def MK:List aa:=[
 m 51 8,
 m 52 11,
 m 53 11,
 n 54 1 53,
 m 55 2,
 m 56 8,
 n 57 1 56,
 b 58 .sub (t 55) (t 57),
 op 59 (.mn false [(t 54),(t 58)]),
 op 60 (.slL 1 (t 52) none (some (t 59)) none),
 ap 61 1 1 51 60,
 m 8 61]
def ML:IC:=(q (q (o MG) (k 37 K (ex 0))) (bl 1 (q (o MH) (q (o MI) (q (o MJ) (o MK))))))
def DZ:List aa:=[
 m 62 8,
 op 63 (.b2s (t 62)),
 m 6 63,
 mc 7 (v (.bool true))]
def f172:IFn:=⟨(q (o MC) (q (q (o MD) (k 31 (q (o ME) R) K)) (q (o MF) (q (bl 0 (lp ML)) (q (o DZ) R))))),[.t 6,.t 7],64⟩
def MM:List aa:=[
 x 4 44 0,
 x 5 34 1,
 nw 8 44 [N]]
def MN:List aa:=[
 m 11 3,
 n 12 1 11,
 mc 13 (i 0)]
def MO:List aa:=[
 b 14 .lss (t 13) (t 12)]
def MP:List aa:=[
 is 15 1 11 (t 13),
 l 16 15,
 m 10 16]
def MQ:List aa:=[
 la 18 1 4,
 la 19 2 5,
 m 20 10,
 c 21 200 [(t 19),(t 20),(i 3)],
 m 22 2,
 cv 23 .u32 22,
 bd 24 [I,I,U] [(0,1,(t 21)),(1,1,(i 4)),(2,1,(t 23))],
 c 25 171 [(t 18),(t 24)],
 m 17 25,
 e 26 17 0,
 e 27 17 1,
 s 4 26]
def MR:List aa:=[
 b 28 .add (t 13) (i 1),
 m 13 28]
def MS:IC:=(q (o MO) (q (k 14 K (ex 0)) (q (bl 1 (q (o MP) (od MQ))) (o MR))))
def MT:List aa:=[
 la 29 1 4,
 s 8 29]
def f176:IFn:=⟨(q (o MM) (q (q (o MN) (bl 0 (lp MS))) (q (o MT) R))),[.cell 8 1 true],30⟩
def MU:List aa:=[
 x 4 44 0,
 x 5 34 1,
 mc 8 (i 0)]
def MV:List aa:=[
 la 9 1 4,
 f 10 0 5,
 l 11 10,
 cv 12 .i64 11,
 m 13 2,
 b 14 .mul (i 16) (t 13),
 b 15 .add (t 12) (t 14),
 m 16 3,
 b 17 .mul (i 4) (t 16),
 b 18 .add (t 15) (t 17),
 c 19 201 [(t 9),(t 18),(i 4)],
 fd 20 0 1 false 19,
 cv 21 .i64 20,
 m 8 21]
def f177:IFn:=⟨(q (o MU) (q (o MV) R)),[.t 8],22⟩
def MW:List aa:=[
 x 4 44 0,
 x 5 34 1,
 mc 8 (i 0)]
def MX:List aa:=[
 la 14 1 4,
 la 15 2 5,
 m 16 3,
 c 17 177 [(t 14),(t 15),(t 16),(i 0)],
 m 9 17]
def MY:List aa:=[
 la 18 1 4,
 la 19 2 5,
 m 20 3,
 c 21 177 [(t 18),(t 19),(t 20),(i 1)],
 m 10 21]
def MZ:List aa:=[
 la 22 1 4,
 la 23 2 5,
 m 24 3,
 c 25 177 [(t 22),(t 23),(t 24),(i 2)],
 m 11 25]
def M0:List aa:=[
 m 26 11,
 b 27 .quo (t 26) (i 256),
 b 28 .rem (t 27) (i 256),
 m 12 28]
def M1:List aa:=[
 m 29 11,
 b 30 .quo (t 29) (i 2),
 b 31 .rem (t 30) (i 2),
 b 32 .eql (t 31) (i 1),
 m 13 32]
def M3:List aa:=[
 m 34 2,
 m 35 3,
 c 36 202 [(t 34),(t 35)],
 m 37 36,
 g 37 false (m 38 2),
 g 37 false (n 39 4 38),
 g 37 false (b 40 .geq (t 39) (i 4)),
 op 41 (.pick (t 37) (v (.bool true)) (t 40)),
 m 33 41]
def M4:List aa:=[
 mc 8 (i 163)]
def M5:List aa:=[
 la 43 1 4,
 la 44 2 5,
 m 45 3,
 c 46 177 [(t 43),(t 44),(t 45),(i 3)],
 b 47 .neq (t 46) (i 1),
 m 42 47]
def M6:List aa:=[
 mc 8 (i 165)]
def D0:List aa:=[
 m 49 10,
 b 50 .lss (t 49) (i 1),
 m 51 50,
 g 51 false (m 52 10),
 g 51 false (b 53 .gtr (t 52) (i 512)),
 op 54 (.pick (t 51) (v (.bool true)) (t 53)),
 m 55 54,
 g 55 false (m 56 9),
 g 55 false (m 57 10),
 g 55 false (b 58 .add (t 56) (t 57)),
 g 55 false (la 59 1 4),
 g 55 false (c 60 159 [(t 59)]),
 g 55 false (b 61 .gtr (t 58) (t 60)),
 op 62 (.pick (t 55) (v (.bool true)) (t 61)),
 m 48 62]
def D1:List aa:=[
 mc 8 (i 161)]
def D2:List aa:=[
 m 64 11,
 b 65 .quo (t 64) (i 4),
 b 66 .rem (t 65) (i 64),
 b 67 .neq (t 66) (i 0),
 m 68 67,
 g 68 false (m 69 11),
 g 68 false (b 70 .quo (t 69) (i 65536)),
 g 68 false (b 71 .neq (t 70) (i 0)),
 op 72 (.pick (t 68) (v (.bool true)) (t 71)),
 m 73 72,
 g 73 false (m 74 13),
 g 73 false (op 75 (.un .not (t 74))),
 g 73 false (m 76 75),
 g 76 true (m 77 12),
 g 76 true (b 78 .neq (t 77) (i 0)),
 g 73 false (op 79 (.pick (t 76) (t 78) (v B))),
 op 80 (.pick (t 73) (v (.bool true)) (t 79)),
 m 81 80,
 g 81 false (m 82 11),
 g 81 false (b 83 .rem (t 82) (i 2)),
 g 81 false (b 84 .eql (t 83) (i 0)),
 g 81 false (m 85 84),
 g 85 true (m 86 2),
 g 85 true (c 87 203 [(t 86)]),
 g 81 false (op 88 (.pick (t 85) (t 87) (v B))),
 op 89 (.pick (t 81) (v (.bool true)) (t 88)),
 m 63 89]
def D3:List aa:=[
 mc 8 (i 164)]
def D4:List aa:=[
 m 91 13,
 m 92 91,
 g 92 true (m 93 12),
 g 92 true (f 94 1 5),
 g 92 true (l 95 94),
 g 92 true (cv 96 .i64 95),
 g 92 true (b 97 .geq (t 93) (t 96)),
 op 98 (.pick (t 92) (t 97) (v B)),
 m 90 98]
def D5:List aa:=[
 mc 8 (i 162)]
def D6:List aa:=[
 mc 8 (i 0)]
def f178:IFn:=⟨(q (o MW) (q (o MX) (q (o MY) (q (o MZ) (q (o M0) (q (o M1) (q (bl 0 (q (o M3) (k 33 (q (o M4) R) (q (o M5) (k 42 (q (o M6) R) (q (o D0) (k 48 (q (o D1) R) (q (o D2) (k 63 (q (o D3) R) (q (o D4) (k 90 (q (o D5) R) K))))))))))) (q (o D6) R)))))))),[.t 8],99⟩
def M7:List aa:=[
 x 4 44 0,
 x 5 34 1,
 nw 8 44 [N]]
def M8:List aa:=[
 la 9 1 4,
 f 10 0 5,
 l 11 10,
 cv 12 .i64 11,
 m 13 2,
 b 14 .mul (i 16) (t 13),
 b 15 .add (t 12) (t 14),
 b 16 .add (t 15) (i 12),
 m 17 3,
 cv 18 .u32 17,
 bd 19 [I,I,U] [(0,1,(t 16)),(1,1,(i 4)),(2,1,(t 18))],
 c 20 136 [(t 9),(t 19)],
 fd 21 0 1 true 20,
 s 8 21]
def f179:IFn:=⟨(q (o M7) (q (o M8) R)),[.cell 8 1 true],22⟩
def M9:List aa:=[
 x 4 44 0,
 x 5 34 1,
 nw 8 44 [N]]
def Na:List aa:=[
 mc 9 (i 0)]
def Nb:List aa:=[
 m 10 9,
 m 11 2,
 n 12 4 11,
 b 13 .lss (t 10) (t 12)]
def Nc:List aa:=[
 la 16 1 4,
 la 17 2 5,
 m 18 2,
 m 19 9,
 is 20 4 18 (t 19),
 f 21 0 20,
 l 22 21,
 m 23 3,
 c 24 179 [(t 16),(t 17),(t 22),(t 23)],
 s 4 24]
def Nd:List aa:=[
 m 14 9,
 b 15 .add (t 14) (i 1),
 m 9 15]
def Nf:IC:=(q (q (o Nb) (k 13 K (ex 0))) (q (bl 1 (od Nc)) (o Nd)))
def Ng:List aa:=[
 la 25 1 4,
 s 8 25]
def f180:IFn:=⟨(q (o M9) (q (q (o Na) (bl 0 (lp Nf))) (q (o Ng) R))),[.cell 8 1 true],26⟩
def Nh:List aa:=[
 x 3 44 0,
 mc 6 (v B)]
def Ni:List aa:=[
 m 7 2,
 b 8 .neq (t 7) (i 1),
 m 9 8,
 g 9 true (m 10 2),
 g 9 true (b 11 .neq (t 10) (i 4)),
 op 12 (.pick (t 9) (t 11) (v B))]
def Nj:List aa:=[
 mc 6 (v B)]
def Nk:List aa:=[
 m 13 1,
 b 14 .geq (t 13) (i 0),
 m 15 14,
 g 15 true (m 16 1),
 g 15 true (m 17 2),
 g 15 true (b 18 .rem (t 16) (t 17)),
 g 15 true (b 19 .eql (t 18) (i 0)),
 op 20 (.pick (t 15) (t 19) (v B)),
 m 21 20,
 g 21 true (m 22 1),
 g 21 true (la 23 1 3),
 g 21 true (c 24 159 [(t 23)]),
 g 21 true (m 25 2),
 g 21 true (b 26 .sub (t 24) (t 25)),
 g 21 true (b 27 .leq (t 22) (t 26)),
 op 28 (.pick (t 21) (t 27) (v B)),
 m 6 28]
def f182:IFn:=⟨(q (o Nh) (q (q (o Ni) (k 12 (q (o Nj) R) K)) (q (o Nk) R))),[.t 6],29⟩
def Nl:List aa:=[
 x 1 44 0,
 nw 2 44 [N]]
def Nn:List aa:=[
 bs 3 128 [] [],
 f 4 0 1,
 l 5 4,
 ap 6 128 128 3 5,
 bd 7 [N] [(0,1,(t 6))],
 s 2 7]
def f183:IFn:=⟨(q (o Nl) (q (o Nn) R)),[.cell 2 1 true],8⟩
def No:List aa:=[
 x 3 44 0,
 nw 6 302 [E,B]]
def Np:List aa:=[
 m 9 1,
 b 10 .lss (t 9) (i 0),
 m 11 10,
 g 11 false (m 12 2),
 g 11 false (b 13 .lss (t 12) (i 0)),
 op 14 (.pick (t 11) (v (.bool true)) (t 13)),
 m 15 14,
 g 15 false (m 16 1),
 g 15 false (la 17 1 3),
 g 15 false (c 18 159 [(t 17)]),
 g 15 false (b 19 .gtr (t 16) (t 18)),
 op 20 (.pick (t 15) (v (.bool true)) (t 19)),
 m 21 20,
 g 21 false (m 22 2),
 g 21 false (la 23 1 3),
 g 21 false (c 24 159 [(t 23)]),
 g 21 false (m 25 1),
 g 21 false (b 26 .sub (t 24) (t 25)),
 g 21 false (b 27 .gtr (t 22) (t 26)),
 op 28 (.pick (t 21) (v (.bool true)) (t 27))]
def Nq:List aa:=[
 bd 29 [E,B] [],
 sn 2 6 29]
def Nr:List aa:=[
 mc 7 (v N)]
def Ns:List aa:=[
 mc 8 (i 0)]
def Nt:List aa:=[
 m 30 8,
 m 31 2,
 b 32 .lss (t 30) (t 31)]
def Nu:List aa:=[
 m 35 7,
 la 36 1 3,
 m 37 1,
 m 38 8,
 b 39 .add (t 37) (t 38),
 c 40 204 [(t 36),(t 39)],
 bs 41 1 [Y] [(0,1,(t 40))],
 ap 42 1 1 35 41,
 m 7 42]
def Nv:List aa:=[
 m 33 8,
 b 34 .add (t 33) (i 1),
 m 8 34]
def Nw:IC:=(q (q (o Nt) (k 32 K (ex 0))) (q (bl 1 (o Nu)) (o Nv)))
def Nx:List aa:=[
 m 43 7,
 op 44 (.b2s (t 43)),
 bd 45 [E,B] [(0,1,(t 44)),(1,1,(v (.bool true)))],
 sn 2 6 45]
def f184:IFn:=⟨(q (o No) (q (q (o Np) (k 28 (q (o Nq) R) K)) (q (o Nr) (q (q (o Ns) (bl 0 (lp Nw))) (q (o Nx) R))))),[.cell 6 2 true],46⟩
def Ny:List aa:=[
 x 3 124 0,
 nw 6 124 [U,U,I,I,N,N,N,U,N,B,B]]
def Nz:List aa:=[
 f 7 6 3,
 f 8 0 7,
 la 9 1 8,
 f 10 0 3,
 f 11 0 10,
 la 12 2 11,
 m 13 1,
 m 14 2,
 c 15 133 [(t 9),(t 12),(t 13),(t 14)],
 f 16 6 3,
 f 17 0 16,
 s 17 15]
def NA:List aa:=[
 m 18 2,
 f 19 0 3,
 f 20 3 19,
 s 20 18]
def NB:List aa:=[
 f 21 6 3,
 f 22 3 21,
 op0 (.store 1 (t 22) (v (.bool true)))]
def NC:List aa:=[
 la 23 11 3,
 sn 11 6 23]
def f189:IFn:=⟨(q (o Ny) (q (o Nz) (q (o NA) (q (o NB) (q (o NC) R))))),[.cell 6 11 true],24⟩
def ND:List aa:=[
 x 2 44 0,
 mc 4 (i 0)]
def NF:List aa:=[
 la 6 1 2,
 m 7 1,
 c 8 184 [(t 6),(t 7),(i 4)],
 fd 9 0 1 false 8,
 m 5 9]
def NG:List aa:=[
 m 10 5,
 op 11 (.ixS (t 10) (i 0)),
 cv 12 .i64 11,
 m 13 5,
 op 14 (.ixS (t 13) (i 1)),
 cv 15 .i64 14,
 b 16 .mul (i 256) (t 15),
 b 17 .add (t 12) (t 16),
 m 18 5,
 op 19 (.ixS (t 18) (i 2)),
 cv 20 .i64 19,
 b 21 .mul (i 65536) (t 20),
 b 22 .add (t 17) (t 21),
 m 23 5,
 op 24 (.ixS (t 23) (i 3)),
 cv 25 .i64 24,
 b 26 .mul (i 16777216) (t 25),
 b 27 .add (t 22) (t 26),
 m 4 27]
def f190:IFn:=⟨(q (o ND) (q (o NF) (q (od NG) R))),[.t 4],28⟩
def NH:List aa:=[
 x 3 44 0,
 x 4 34 1,
 nw 6 312 [I,I,I,B,U,U]]
def NJ:List aa:=[
 nw 7 23 [U,U,U,U]]
def NK:List aa:=[
 mc 9 (i 0)]
def NL:List aa:=[
 b 10 .lss (t 9) (i 4)]
def NM:List aa:=[
 m 11 9,
 m 8 11]
def NN:List aa:=[
 m 13 8,
 la 14 1 3,
 la 15 2 4,
 m 16 2,
 m 17 8,
 c 18 200 [(t 15),(t 16),(t 17)],
 c 19 205 [(t 14),(t 18),(i 4)],
 m 12 19,
 e 20 12 0,
 e 21 12 1,
 ia 22 4 1 7 (t 13),
 s 22 20]
def NO:List aa:=[
 b 23 .add (t 9) (i 1),
 m 9 23]
def NP:IC:=(q (o NL) (q (k 10 K (ex 0)) (q (bl 1 (q (o NM) (od NN))) (o NO))))
def NQ:List aa:=[
 m 24 2,
 ia 25 4 1 7 (i 0),
 l 26 25,
 cv 27 .i64 26,
 ia 28 4 1 7 (i 1),
 l 29 28,
 cv 30 .i64 29,
 ia 31 4 1 7 (i 2),
 l 32 31,
 b 33 .and (t 32) (w 1),
 b 34 .neq (t 33) (w 0),
 bd 35 [I,I,I,B] [(0,1,(t 24)),(1,1,(t 27)),(2,1,(t 30)),(3,1,(t 34))],
 ia 36 4 1 7 (i 2),
 l 37 36,
 ia 38 4 1 7 (i 3),
 l 39 38,
 bd 40 [I,I,I,B,U,U] [(0,4,(t 35)),(4,1,(t 37)),(5,1,(t 39))],
 sn 6 6 40]
def f191:IFn:=⟨(q (o NH) (q (o NJ) (q (q (o NK) (bl 0 (lp NP))) (q (o NQ) R)))),[.cell 6 6 true],41⟩
def NT:List aa:=[
 x 1 312 0,
 mc 2 (v B)]
def NU:List aa:=[
 f 3 4 1,
 l 4 3,
 b 5 .andNot (t 4) (w 65283),
 b 6 .eql (t 5) (w 0),
 m 7 6,
 g 7 true (la 8 6 1),
 g 7 true (c 9 193 [(t 8)]),
 g 7 true (m 10 9),
 g 10 false (la 11 6 1),
 g 10 false (c 12 194 [(t 11)]),
 g 10 false (b 13 .eql (t 12) (i 0)),
 g 7 true (op 14 (.pick (t 10) (v (.bool true)) (t 13))),
 op 15 (.pick (t 7) (t 14) (v B)),
 m 2 15]
def f192:IFn:=⟨(q (o NT) (q (o NU) R)),[.t 2],16⟩
def NW:List aa:=[
 x 1 312 0,
 mc 2 (v B)]
def NX:List aa:=[
 f 3 4 1,
 l 4 3,
 b 5 .and (t 4) (w 2),
 b 6 .neq (t 5) (w 0),
 m 2 6]
def f193:IFn:=⟨(q (o NW) (q (o NX) R)),[.t 2],7⟩
def NY:List aa:=[
 x 1 312 0,
 mc 2 (i 0)]
def NZ:List aa:=[
 f 3 4 1,
 l 4 3,
 b 5 .shr (t 4) (v (.int .u64 8)),
 b 6 .and (t 5) (w 255),
 cv 7 .i64 6,
 m 2 7]
def f194:IFn:=⟨(q (o NY) (q (o NZ) R)),[.t 2],8⟩
def N0:List aa:=[
 x 4 44 0,
 x 5 34 1,
 nw 8 44 [N]]
def N1:List aa:=[
 m 9 3,
 b 10 .lss (t 9) (i 160),
 m 11 10,
 g 11 false (m 12 3),
 g 11 false (b 13 .gtr (t 12) (i 165)),
 op 14 (.pick (t 11) (v (.bool true)) (t 13))]
def N2:List aa:=[
 la 15 1 4,
 s 8 15]
def N3:List aa:=[
 la 16 1 4,
 la 17 2 5,
 m 18 3,
 b 19 .sub (t 18) (i 160),
 b 20 .add (i 4) (t 19),
 m 21 2,
 bs 22 1 [I] [(0,1,(t 21))],
 c 23 176 [(t 16),(t 17),(t 20),(t 22)],
 s 8 23]
def f195:IFn:=⟨(q (o N0) (q (q (o N1) (k 14 (q (o N2) R) K)) (q (o N3) R))),[.cell 8 1 true],24⟩
def N4:List aa:=[
 x 2 44 0,
 nw 4 44 [N],
 mc 5 (v B)]
def N5:List aa:=[
 f 10 0 2,
 l 11 10,
 op 12 (.callp 2 198 [(t 11)]),
 bd 13 [N] [(0,1,(t 12))],
 nw 6 320 [N],
 s 6 13]
def N6:List aa:=[
 la 14 1 6,
 op 15 (.mkf 206 [(t 14)] []),
 m 7 15]
def N7:List aa:=[
 m 16 1,
 n 17 3 16,
 mc 18 (i 0)]
def N8:List aa:=[
 b 19 .lss (t 18) (t 17)]
def N9:List aa:=[
 is 20 3 16 (t 18),
 la 21 3 20,
 nw 9 243 [I,I,U],
 sn 3 9 21]
def Oa:List aa:=[
 m 22 7,
 la 23 3 9,
 op 24 (.callv (t 22) [(t 23)]),
 op 25 (.un .not (t 24))]
def Ob:List aa:=[
 la 26 1 2,
 s 4 26,
 mc 5 (v B)]
def Oc:List aa:=[
 b 27 .add (t 18) (i 1),
 m 18 27]
def Od:IC:=(q (o N8) (q (k 19 K (ex 0)) (q (bl 1 (q (o N9) (q (o Oa) (k 25 (q (o Ob) R) K)))) (o Oc))))
def D7:List aa:=[
 f 28 0 6,
 l 29 28,
 bd 30 [N] [(0,1,(t 29))],
 s 4 30,
 mc 5 (v (.bool true))]
def f196:IFn:=⟨(q (o N4) (q (o N5) (q (o N6) (q (q (o N7) (bl 0 (lp Od))) (q (o D7) R))))),[.cell 4 1 true,.t 5],31⟩
def Oe:List aa:=[
 mc 2 (v N)]
def Of:List aa:=[
 m 3 0,
 op 4 (.eq false 5 (t 3) (v N))]
def Og:List aa:=[
 mc 2 (v N)]
def Oh:List aa:=[
 bs 5 128 [] [],
 m 6 0,
 ap 7 128 128 5 6,
 m 2 7]
def f198:IFn:=⟨(q (o Oe) (q (q (o Of) (k 4 (q (o Og) R) K)) (q (o Oh) R))),[.t 2],8⟩
def Oi:List aa:=[
 x 3 320 0]
def Oj:List aa:=[
 m 7 2,
 n 8 1 7,
 b 9 .gtr (t 8) (i 0)]
def Ok:List aa:=[
 f 10 0 3,
 l 11 10,
 m 12 1,
 b 13 .quo (t 12) (i 128),
 is 14 128 11 (t 13),
 m 15 1,
 b 16 .rem (t 15) (i 128),
 op 17 (.slA 128 1 (t 14) (some (t 16)) none none),
 m 18 2,
 op 19 (.cpy 1 (t 17) (t 18)),
 m 6 19]
def Ol:List aa:=[
 m 20 1,
 m 21 6,
 b 22 .add (t 20) (t 21),
 m 23 2,
 m 24 6,
 op 25 (.slL 1 (t 23) (some (t 24)) none none),
 m 1 22,
 m 2 25]
def Om:IC:=(q (q (o Oj) (k 9 K (ex 0))) (bl 1 (q (o Ok) (od Ol))))
def f199:IFn:=⟨(q (o Oi) (bl 0 (lp Om))),[],26⟩
def On:List aa:=[
 x 3 34 0,
 mc 6 (i 0)]
def Oo:List aa:=[
 f 7 0 3,
 l 8 7,
 cv 9 .i64 8,
 m 10 1,
 b 11 .mul (i 16) (t 10),
 b 12 .add (t 9) (t 11),
 m 13 2,
 b 14 .mul (i 4) (t 13),
 b 15 .add (t 12) (t 14),
 m 6 15]
def f200:IFn:=⟨(q (o On) (q (o Oo) R)),[.t 6],16⟩
def Oq:List aa:=[
 x 3 44 0,
 nw 6 324 [U,B]]
def Ot:List aa:=[
 la 10 1 3,
 m 11 1,
 m 12 2,
 c 13 182 [(t 10),(t 11),(t 12)],
 m 7 13]
def Ou:List aa:=[
 m 14 7,
 op 15 (.un .not (t 14))]
def Ov:List aa:=[
 bd 16 [U,B] [],
 sn 2 6 16]
def Ow:List aa:=[
 mc 8 (w 0)]
def Ox:List aa:=[
 m 17 2,
 b 18 .sub (t 17) (i 1),
 m 9 18]
def Oy:List aa:=[
 m 19 9,
 b 20 .geq (t 19) (i 0)]
def Oz:List aa:=[
 m 23 8,
 b 24 .shl (t 23) (v (.int .u64 8)),
 la 25 1 3,
 m 26 1,
 m 27 9,
 b 28 .add (t 26) (t 27),
 c 29 204 [(t 25),(t 28)],
 cv 30 .u32 29,
 b 31 .or (t 24) (t 30),
 m 8 31]
def OA:List aa:=[
 m 21 9,
 b 22 .sub (t 21) (i 1),
 m 9 22]
def OC:IC:=(q (q (o Oy) (k 20 K (ex 0))) (q (bl 1 (o Oz)) (o OA)))
def D8:List aa:=[
 m 32 8,
 bd 33 [U,B] [(0,1,(t 32)),(1,1,(v (.bool true)))],
 sn 2 6 33]
def f201:IFn:=⟨(q (o Oq) (q (o Ot) (q (q (o Ou) (k 15 (q (o Ov) R) K)) (q (o Ow) (q (q (o Ox) (bl 0 (lp OC))) (q (o D8) R)))))),[.cell 6 2 true],34⟩
def OD:List aa:=[
 mc 4 (v B)]
def OF:List aa:=[
 mc 5 (i 0)]
def OG:List aa:=[
 m 6 5,
 m 7 0,
 n 8 4 7,
 b 9 .lss (t 6) (t 8)]
def OH:List aa:=[
 m 12 0,
 m 13 5,
 is 14 4 12 (t 13),
 f 15 0 14,
 l 16 15,
 m 17 1,
 b 18 .eql (t 16) (t 17)]
def OI:List aa:=[
 mc 4 (v (.bool true))]
def OJ:List aa:=[
 m 10 5,
 b 11 .add (t 10) (i 1),
 m 5 11]
def OK:IC:=(q (q (o OG) (k 9 K (ex 0))) (q (bl 1 (q (o OH) (k 18 (q (o OI) R) K))) (o OJ)))
def OL:List aa:=[
 mc 4 (v B)]
def f202:IFn:=⟨(q (o OD) (q (q (o OF) (bl 0 (lp OK))) (q (o OL) R))),[.t 4],19⟩
def OM:List aa:=[
 mc 2 (v B)]
def ON:List aa:=[
 mc 3 (i 0)]
def OO:List aa:=[
 m 4 3,
 m 5 0,
 n 6 4 5,
 b 7 .lss (t 4) (t 6)]
def OP:List aa:=[
 m 10 0,
 m 11 3,
 is 12 4 10 (t 11),
 f 13 3 12,
 l 14 13]
def OQ:List aa:=[
 mc 2 (v (.bool true))]
def OR:List aa:=[
 m 8 3,
 b 9 .add (t 8) (i 1),
 m 3 9]
def OS:IC:=(q (q (o OO) (k 7 K (ex 0))) (q (bl 1 (q (o OP) (k 14 (q (o OQ) R) K))) (o OR)))
def OT:List aa:=[
 mc 2 (v B)]
def f203:IFn:=⟨(q (o OM) (q (q (o ON) (bl 0 (lp OS))) (q (o OT) R))),[.t 2],15⟩
def OU:List aa:=[
 x 2 44 0,
 mc 4 (y 0)]
def OV:List aa:=[
 f 5 0 2,
 l 6 5,
 m 7 1,
 b 8 .quo (t 7) (i 128),
 m 9 1,
 b 10 .rem (t 9) (i 128),
 is 11 128 6 (t 8),
 ia 12 128 1 11 (t 10),
 l 13 12,
 m 4 13]
def f204:IFn:=⟨(q (o OU) (q (o OV) R)),[.t 4],14⟩
def OX:List aa:=[
 x 3 44 0,
 mc 6 (w 0),
 mc 7 (v B)]
def OY:List aa:=[
 la 9 1 3,
 m 10 1,
 m 11 2,
 c 12 208 [(t 9),(t 10),(t 11)],
 op 13 (.un .not (t 12))]
def OZ:List aa:=[
 mc 6 (w 0),
 mc 7 (v B)]
def O0:List aa:=[
 f 14 0 3,
 l 15 14,
 m 16 1,
 b 17 .quo (t 16) (i 128),
 is 18 128 15 (t 17),
 m 19 1,
 b 20 .rem (t 19) (i 128),
 op 21 (.slA 128 1 (t 18) (some (t 20)) none none),
 m 8 21]
def O1:List aa:=[
 m 22 2,
 b 23 .eql (t 22) (i 1)]
def O2:List aa:=[
 m 24 8,
 is 25 1 24 (i 0),
 l 26 25,
 cv 27 .u32 26,
 m 6 27,
 mc 7 (v (.bool true))]
def O3:List aa:=[
 m 28 8,
 is 29 1 28 (i 0),
 l 30 29,
 cv 31 .u32 30,
 m 32 8,
 is 33 1 32 (i 1),
 l 34 33,
 cv 35 .u32 34,
 b 36 .shl (t 35) (v (.int .u64 8)),
 b 37 .or (t 31) (t 36),
 m 38 8,
 is 39 1 38 (i 2),
 l 40 39,
 cv 41 .u32 40,
 b 42 .shl (t 41) (v (.int .u64 16)),
 b 43 .or (t 37) (t 42),
 m 44 8,
 is 45 1 44 (i 3),
 l 46 45,
 cv 47 .u32 46,
 b 48 .shl (t 47) (v (.int .u64 24)),
 b 49 .or (t 43) (t 48),
 m 6 49,
 mc 7 (v (.bool true))]
def f205:IFn:=⟨(q (o OX) (q (q (o OY) (k 13 (q (o OZ) R) K)) (q (o O0) (q (q (o O1) (k 23 (q (o O2) R) K)) (q (od O3) R))))),[.t 6,.t 7],50⟩
def O4:List aa:=[
 x 2 320 0,
 x 3 243 1,
 mc 4 (v B)]
def O5:List aa:=[
 f 6 0 2,
 l 7 6,
 bd 8 [N] [(0,1,(t 7))],
 f 9 0 3,
 l 10 9,
 f 11 1 3,
 l 12 11,
 op 13 (.calln 208 [(t 8),(t 10),(t 12)]),
 op 14 (.un .not (t 13))]
def O6:List aa:=[
 mc 4 (v B)]
def O7:List aa:=[
 f 15 2 3,
 l 16 15,
 m 5 16]
def O8:List aa:=[
 la 17 1 2,
 f 18 0 3,
 l 19 18,
 m 20 5,
 cv 21 .u8 20,
 m 22 5,
 b 23 .shr (t 22) (v (.int .u64 8)),
 cv 24 .u8 23,
 m 25 5,
 b 26 .shr (t 25) (v (.int .u64 16)),
 cv 27 .u8 26,
 m 28 5,
 b 29 .shr (t 28) (v (.int .u64 24)),
 cv 30 .u8 29,
 bs 31 1 [Y,Y,Y,Y] [(0,1,(t 21)),(1,1,(t 24)),(2,1,(t 27)),(3,1,(t 30))],
 f 32 1 3,
 l 33 32,
 op 34 (.slL 1 (t 31) none (some (t 33)) none),
 op 35 (.calls 199 [(t 17),(t 19),(t 34)])]
def O9:List aa:=[
 mc 4 (v (.bool true))]
def f206:IFn:=⟨(q (o O4) (q (q (o O5) (k 14 (q (o O6) R) K)) (q (o O7) (q (od O8) (q (o O9) R))))),[.t 4],36⟩
def Pa:List aa:=[
 x 3 44 0,
 mc 6 (v B)]
def Pb:List aa:=[
 m 7 2,
 b 8 .eql (t 7) (i 1),
 m 9 8,
 g 9 false (m 10 2),
 g 9 false (b 11 .eql (t 10) (i 4)),
 op 12 (.pick (t 9) (v (.bool true)) (t 11)),
 m 13 12,
 g 13 true (m 14 1),
 g 13 true (b 15 .geq (t 14) (i 0)),
 op 16 (.pick (t 13) (t 15) (v B)),
 m 17 16,
 g 17 true (m 18 1),
 g 17 true (m 19 2),
 g 17 true (b 20 .rem (t 18) (t 19)),
 g 17 true (b 21 .eql (t 20) (i 0)),
 op 22 (.pick (t 17) (t 21) (v B)),
 m 23 22,
 g 23 true (m 24 1),
 g 23 true (la 25 1 3),
 g 23 true (c 26 157 [(t 25)]),
 g 23 true (m 27 2),
 g 23 true (b 28 .sub (t 26) (t 27)),
 g 23 true (b 29 .leq (t 24) (t 28)),
 op 30 (.pick (t 23) (t 29) (v B)),
 m 6 30]
def f208:IFn:=⟨(q (o Pa) (q (o Pb) R)),[.t 6],31⟩
def Pc:List aa:=[
 op 3 (.boxp (t 0)),
 mc 6 (v N)]
def Pd:List aa:=[
 mc 7 (v N)]
def Pe:List aa:=[
 m 10 2,
 n 11 1 10,
 mc 12 (i 0)]
def Pf:List aa:=[
 b 13 .lss (t 12) (t 11)]
def Pg:List aa:=[
 is 14 1 10 (t 12),
 l 15 14,
 m 9 15]
def Ph:List aa:=[
 m 16 7,
 m 17 1,
 f 18 44 3,
 l 19 18,
 f 20 45 3,
 l 21 20,
 m 22 9,
 bd 23 [I,I,I,I,E] [(1,1,(t 17)),(2,1,(t 19)),(3,1,(t 21)),(4,1,(t 22))],
 bs 24 5 [I,I,I,I,E] [(0,5,(t 23))],
 ap 25 5 48 16 24,
 m 7 25]
def Pj:List aa:=[
 b 26 .add (t 12) (i 1),
 m 12 26]
def Pk:IC:=(q (o Pf) (q (k 13 K (ex 0)) (q (bl 1 (q (o Pg) (o Ph))) (o Pj))))
def Pm:List aa:=[
 m 27 7,
 m 6 27]
def f224:IFn:=⟨(q (o Pc) (q (o Pd) (q (q (o Pe) (bl 0 (lp Pk))) (q (o Pm) R)))),[.t 6],28⟩
def Pn:List aa:=[
 x 1 110 0,
 nw 2 42 [I,U,U,U,U,U,U,U,U,I,I,I,I,I,I,B,B,B,B,I,I,I,I,I,I,I,I,E,I,U,U,I,I,N,N,U,U,U,U,I,I,I,I],
 nw 3 52 [N,U,N,I]]
def Po:List aa:=[
 f 8 0 1,
 f 9 0 8,
 f 10 0 9,
 la 11 14 10,
 f 12 0 1,
 f 13 44 12,
 l 14 13,
 f 15 0 1,
 f 16 46 15,
 la 17 3 16,
 c 18 226 [(t 11),(t 14),(t 17)],
 m 7 18,
 e 19 7 0,
 e 20 7 1,
 e 21 7 2,
 nw 4 26 [I,U,U,U,U,U,U,U,U,I,I,I,I,I],
 sn 14 4 19,
 m 5 20,
 m 6 21]
def Pp:List aa:=[
 m 22 6,
 b 23 .neq (t 22) (i 0)]
def Pq:List aa:=[
 f 24 0 1,
 la 25 49 24,
 m 26 6,
 c 27 51 [(t 25),(t 26)],
 e 28 27 0,
 e 29 27 1,
 sn 43 2 28,
 sn 4 3 29]
def Pr:List aa:=[
 la 30 14 4,
 f 31 0 1,
 f 32 0 31,
 f 33 0 32,
 sn 14 33 30]
def Ps:List aa:=[
 f 34 0 1,
 f 35 0 34,
 la 36 43 35,
 f 37 0 1,
 f 38 43 37,
 la 39 1 38,
 m 40 5,
 bd 41 [N,U,N,I] [(0,1,(t 39)),(1,1,(t 40))],
 sn 43 2 36,
 sn 4 3 41]
def f225:IFn:=⟨(q (o Pn) (q (o Po) (q (q (o Pp) (k 23 (q (o Pq) R) K)) (q (o Pr) (q (.opsX Ps [(38,2)]) R))))),[.cell 2 43 true,.cell 3 4 true],42⟩
def Pu:List aa:=[
 x 3 26 0,
 op 5 (.boxp (t 2)),
 nw 6 26 [I,U,U,U,U,U,U,U,U,I,I,I,I,I],
 mc 7 (w 0),
 mc 8 (i 0)]
def Pv:List aa:=[
 la 14 14 3,
 m 15 1,
 bd 16 [I,U,U,U,U,U,U,U,U,I,I,I,I,I,I] [(0,14,(t 14)),(14,1,(t 15))],
 x 17 351 16,
 m 9 17]
def Pw:List aa:=[
 f 18 0 5,
 l 19 18]
def Px:List aa:=[
 op 21 (.mkm),
 m 22 9,
 op 23 (.mkf 227 [(t 22)] []),
 op0 (.mupd 0 (t 21) (i 0) (t 23)),
 m 24 9,
 op 25 (.mkf 228 [(t 24)] []),
 op0 (.mupd 0 (t 21) (i 1) (t 25)),
 m 26 21,
 f 27 1 5,
 l 28 27,
 op 29 (.mget 0 true .nilfn (t 26) (t 28)),
 m 20 29,
 e 30 20 0,
 e 31 20 1,
 m 10 30,
 m 11 31]
def Py:List aa:=[
 m 32 11,
 op 33 (.un .not (t 32))]
def Pz:List aa:=[
 la 34 14 3,
 sn 14 6 34,
 mc 7 (w 0),
 mc 8 (i 5)]
def PA:List aa:=[
 la 35 14 3,
 m 36 10,
 op 37 (.callv (t 36) []),
 sn 14 6 35,
 m 7 37,
 mc 8 (i 0)]
def PB:List aa:=[
 op 39 (.mkm),
 m 40 9,
 op 41 (.mkf 229 [(t 40)] []),
 op0 (.mupd 0 (t 39) (i 0) (t 41)),
 m 42 9,
 op 43 (.mkf 230 [(t 42)] []),
 op0 (.mupd 0 (t 39) (i 2) (t 43)),
 m 44 9,
 op 45 (.mkf 231 [(t 44)] []),
 op0 (.mupd 0 (t 39) (i 3) (t 45)),
 m 46 9,
 op 47 (.mkf 232 [(t 46)] []),
 op0 (.mupd 0 (t 39) (i 4) (t 47)),
 m 48 39,
 f 49 1 5,
 l 50 49,
 op 51 (.mget 0 true .nilfn (t 48) (t 50)),
 m 38 51,
 e 52 38 0,
 e 53 38 1,
 m 12 52,
 m 13 53]
def PC:List aa:=[
 m 54 13,
 op 55 (.un .not (t 54))]
def PD:List aa:=[
 la 56 14 3,
 sn 14 6 56,
 mc 7 (w 0),
 mc 8 (i 5)]
def D9:List aa:=[
 m 57 12,
 f 58 2 5,
 l 59 58,
 op 60 (.callv (t 57) [(t 59)])]
def Ea:List aa:=[
 m 61 9,
 op 62 (.nchk (t 61)),
 f 63 0 62,
 la 64 14 63,
 sn 14 6 64,
 mc 7 (w 0),
 mc 8 (i 0)]
def f226:IFn:=⟨(q (o Pu) (q (o Pv) (q (q (o Pw) (k 19 (q (o Px) (q (q (o Py) (k 33 (q (o Pz) R) K)) (q (.opsC PA [] [(2,3)]) R))) K)) (q (o PB) (q (q (o PC) (k 55 (q (o PD) R) K)) (q (o D9) (q (o Ea) R))))))),[.cell 6 14 true,.t 7,.t 8],65⟩
def PE:List aa:=[
 mc 2 (w 0)]
def PF:List aa:=[
 m 3 0,
 m 4 0,
 op 5 (.nchk (t 4)),
 f 6 14 5,
 l 7 6,
 op 8 (.nchk (t 3)),
 f 9 0 8,
 f 10 5 9,
 ia 11 4 1 10 (t 7),
 l 12 11,
 m 2 12]
def f227:IFn:=⟨(q (o PE) (q (od PF) R)),[.t 2],13⟩
def PG:List aa:=[
 mc 2 (w 0)]
def PH:List aa:=[
 m 3 0,
 op 4 (.nchk (t 3)),
 f 5 0 4,
 la 6 14 5,
 m 7 0,
 op 8 (.nchk (t 7)),
 f 9 14 8,
 l 10 9,
 c 11 58 [(t 6),(t 10)],
 m 2 11]
def f228:IFn:=⟨(q (o PG) (q (od PH) R)),[.t 2],12⟩
def PJ:List aa:=[
 m 4 0,
 m 5 0,
 op 6 (.nchk (t 5)),
 f 7 14 6,
 l 8 7,
 m 9 1,
 b 10 .and (t 9) (w 31),
 op 11 (.nchk (t 4)),
 f 12 0 11,
 f 13 5 12,
 ia 14 4 1 13 (t 8),
 s 14 10]
def f229:IFn:=⟨(od PJ),[],15⟩
def PK:List aa:=[
 m 4 1,
 b 5 .lss (t 4) (w 5)]
def PL:List aa:=[
 m 6 0,
 m 7 0,
 op 8 (.nchk (t 7)),
 f 9 14 8,
 l 10 9,
 op 11 (.nchk (t 6)),
 f 12 0 11,
 f 13 1 12,
 ia 14 4 1 13 (t 10),
 l 15 14,
 m 16 1,
 b 17 .shl (w 1) (t 16),
 b 18 .andNot (t 15) (t 17),
 op 19 (.nchk (t 6)),
 f 20 0 19,
 f 21 1 20,
 ia 22 4 1 21 (t 10),
 s 22 18]
def f230:IFn:=⟨(q (o PK) (k 5 (od PL) K)),[],23⟩
def PM:List aa:=[
 m 4 1,
 m 5 0,
 op 6 (.nchk (t 5)),
 f 7 0 6,
 f 8 0 7,
 l 9 8,
 cv 10 .u32 9,
 b 11 .lss (t 4) (t 10)]
def PN:List aa:=[
 m 12 0,
 m 13 0,
 op 14 (.nchk (t 13)),
 f 15 0 14,
 la 16 14 15,
 m 17 1,
 cv 18 .i64 17,
 c 19 61 [(t 16),(i 4),(t 18)],
 op 20 (.nchk (t 12)),
 f 21 0 20,
 sn 14 21 19]
def f231:IFn:=⟨(q (o PM) (k 11 (o PN) K)),[],22⟩
def PQ:List aa:=[
 m 4 1,
 b 5 .quo (t 4) (w 16),
 c 6 103 [(t 5)],
 m 7 6,
 g 7 true (m 8 1),
 g 7 true (b 9 .rem (t 8) (w 16)),
 g 7 true (m 10 0),
 g 7 true (op 11 (.nchk (t 10))),
 g 7 true (f 12 0 11),
 g 7 true (f 13 0 12),
 g 7 true (l 14 13),
 g 7 true (cv 15 .u32 14),
 g 7 true (b 16 .lss (t 9) (t 15)),
 op 17 (.pick (t 7) (t 16) (v B))]
def PR:List aa:=[
 m 18 0,
 m 19 1,
 b 20 .quo (t 19) (w 16),
 m 21 1,
 b 22 .rem (t 21) (w 16),
 cv 23 .i64 22,
 op 24 (.nchk (t 18)),
 f 25 0 24,
 f 26 9 25,
 ia 27 5 1 26 (t 20),
 s 27 23]
def f232:IFn:=⟨(q (o PQ) (k 17 (o PR) K)),[],28⟩
def PS:List aa:=[
 x 1 111 0,
 nw 2 42 [I,U,U,U,U,U,U,U,U,I,I,I,I,I,I,B,B,B,B,I,I,I,I,I,I,I,I,E,I,U,U,I,I,N,N,U,U,U,U,I,I,I,I],
 nw 3 52 [N,U,N,I]]
def PT:List aa:=[
 f 8 0 1,
 f 9 0 8,
 f 10 14 9,
 la 11 13 10,
 f 12 0 1,
 f 13 44 12,
 l 14 13,
 f 15 0 1,
 f 16 45 15,
 l 17 16,
 f 18 0 1,
 f 19 46 18,
 la 20 3 19,
 c 21 234 [(t 11),(t 14),(t 17),(t 20)],
 m 7 21,
 e 22 7 0,
 e 23 7 1,
 e 24 7 2,
 nw 4 30 [I,B,B,B,B,I,I,I,I,I,I,I,I],
 sn 13 4 22,
 m 5 23,
 m 6 24]
def PU:List aa:=[
 m 25 6,
 b 26 .neq (t 25) (i 0)]
def PV:List aa:=[
 f 27 0 1,
 la 28 49 27,
 m 29 6,
 c 30 51 [(t 28),(t 29)],
 e 31 30 0,
 e 32 30 1,
 sn 43 2 31,
 sn 4 3 32]
def PX:List aa:=[
 la 33 13 4,
 f 34 0 1,
 f 35 0 34,
 f 36 14 35,
 sn 13 36 33]
def PY:List aa:=[
 f 37 0 1,
 f 38 0 37,
 la 39 43 38,
 f 40 0 1,
 f 41 43 40,
 la 42 1 41,
 m 43 5,
 bd 44 [N,U,N,I] [(0,1,(t 42)),(1,1,(t 43))],
 sn 43 2 39,
 sn 4 3 44]
def f233:IFn:=⟨(q (o PS) (q (o PT) (q (q (o PU) (k 26 (q (o PV) R) K)) (q (o PX) (q (.opsX PY [(41,2)]) R))))),[.cell 2 43 true,.cell 3 4 true],45⟩
def PZ:List aa:=[
 op 4 (.boxp (t 0)),
 op 7 (.boxp (t 3)),
 nw 8 30 [I,B,B,B,B,I,I,I,I,I,I,I,I],
 mc 9 (w 0),
 mc 10 (i 0)]
def P0:List aa:=[
 f 14 0 7,
 l 15 14,
 m 16 15,
 g 16 true (f 17 1 7),
 g 16 true (l 18 17),
 g 16 true (b 19 .eql (t 18) (i 16)),
 op 20 (.pick (t 16) (t 19) (v B)),
 m 13 20]
def P1:List aa:=[
 la 21 13 4,
 m 22 1,
 c 23 235 [(t 21),(t 22)],
 e 24 23 0,
 e 25 23 1,
 e 26 23 2,
 sn 13 8 24,
 m 9 25,
 m 10 26]
def P2:List aa:=[
 f 28 0 7,
 l 29 28,
 op 30 (.un .not (t 29)),
 m 31 30,
 g 31 true (f 32 1 7),
 g 31 true (l 33 32),
 g 31 true (b 34 .eql (t 33) (i 17)),
 op 35 (.pick (t 31) (t 34) (v B)),
 m 27 35]
def P3:List aa:=[
 la 37 13 4,
 m 38 1,
 m 39 2,
 f 40 2 7,
 l 41 40,
 c 42 236 [(t 37),(t 38),(t 39),(t 41)],
 m 36 42,
 e 43 36 0,
 e 44 36 1,
 nw 11 30 [I,B,B,B,B,I,I,I,I,I,I,I,I],
 sn 13 11 43,
 m 12 44]
def P4:List aa:=[
 la 45 13 11,
 m 46 12,
 sn 13 8 45,
 mc 9 (w 0),
 m 10 46]
def P5:List aa:=[
 la 47 13 4,
 sn 13 8 47,
 mc 9 (w 0),
 mc 10 (i 5)]
def f234:IFn:=⟨(q (o PZ) (q (bl 0 (q (o P0) (k 13 (q (o P1) R) (q (o P2) (k 27 (q (o P3) (q (o P4) R)) K))))) (q (o P5) R))),[.cell 8 13 true,.t 9,.t 10],48⟩
def P6:List aa:=[
 x 2 30 0,
 nw 4 30 [I,B,B,B,B,I,I,I,I,I,I,I,I],
 mc 5 (w 0),
 mc 6 (i 0)]
def P7:List aa:=[
 m 9 1,
 c 10 120 [(t 9)],
 op 11 (.un .not (t 10)),
 bd 12 [B,I] [(0,1,(t 11)),(1,1,(i 1))],
 m 13 1,
 c 14 120 [(t 13)],
 m 15 14,
 g 15 true (m 16 1),
 g 15 true (b 17 .and (t 16) (i 3)),
 g 15 true (f 18 1 2),
 g 15 true (ia 19 4 1 18 (t 17)),
 g 15 true (l 20 19),
 g 15 true (op 21 (.un .not (t 20))),
 op 22 (.pick (t 15) (t 21) (v B)),
 bd 23 [B,I] [(0,1,(t 22)),(1,1,(i 4))],
 bs 24 2 [B,I,B,I] [(0,2,(t 12)),(2,2,(t 23))],
 c 25 119 [(t 24)],
 m 7 25]
def P8:List aa:=[
 m 26 7,
 b 27 .neq (t 26) (i 0)]
def P9:List aa:=[
 la 28 13 2,
 m 29 7,
 sn 13 4 28,
 mc 5 (w 0),
 m 6 29]
def Qa:List aa:=[
 m 30 1,
 f 31 5 2,
 ia 32 4 1 31 (t 30),
 l 33 32,
 cv 34 .u32 33,
 m 8 34]
def Qb:List aa:=[
 m 35 1,
 m 36 1,
 f 37 1 2,
 ia 38 4 1 37 (t 35),
 op0 (.store 1 (t 38) (v B)),
 f 39 5 2,
 ia 40 4 1 39 (t 36),
 op0 (.store 1 (t 40) (i 0))]
def Qc:List aa:=[
 la 41 13 2,
 m 42 8,
 sn 13 4 41,
 m 5 42,
 mc 6 (i 0)]
def f235:IFn:=⟨(q (o P6) (q (q (o P7) (q (o P8) (k 27 (q (o P9) R) K))) (q (o Qa) (q (o Qb) (q (o Qc) R))))),[.cell 4 13 true,.t 5,.t 6],43⟩
def Qd:List aa:=[
 x 4 30 0,
 nw 8 30 [I,B,B,B,B,I,I,I,I,I,I,I,I],
 mc 9 (i 0)]
def Qe:List aa:=[
 m 10 1,
 c 11 120 [(t 10)],
 op 12 (.un .not (t 11)),
 m 13 12,
 g 13 false (m 14 2),
 g 13 false (b 15 .lss (t 14) (i 0)),
 op 16 (.pick (t 13) (v (.bool true)) (t 15)),
 m 17 16,
 g 17 false (m 18 2),
 g 17 false (b 19 .gtr (t 18) (i 1099511627776)),
 op 20 (.pick (t 17) (v (.bool true)) (t 19))]
def Qf:List aa:=[
 la 21 13 4,
 sn 13 8 21,
 mc 9 (i 1)]
def Qg:List aa:=[
 m 22 1,
 f 23 9 4,
 ia 24 4 1 23 (t 22),
 op0 (.store 1 (t 24) (i 0))]
def Qh:List aa:=[
 m 25 3,
 b 26 .gtr (t 25) (w 0)]
def Qi:List aa:=[
 m 27 1,
 m 28 2,
 m 29 3,
 cv 30 .i64 29,
 b 31 .add (t 28) (t 30),
 op 32 (.mn false [(t 31),(i 1099511627776)]),
 f 33 9 4,
 ia 34 4 1 33 (t 27),
 s 34 32]
def Qj:List aa:=[
 la 35 13 4,
 sn 13 8 35,
 mc 9 (i 0)]
def f236:IFn:=⟨(q (o Qd) (q (q (o Qe) (k 20 (q (o Qf) R) K)) (q (o Qg) (q (q (o Qh) (k 26 (o Qi) K)) (q (o Qj) R))))),[.cell 8 13 true,.t 9],36⟩
def Qk:List aa:=[
 x 1 112 0,
 nw 2 42 [I,U,U,U,U,U,U,U,U,I,I,I,I,I,I,B,B,B,B,I,I,I,I,I,I,I,I,E,I,U,U,I,I,N,N,U,U,U,U,I,I,I,I],
 nw 3 52 [N,U,N,I]]
def Ql:List aa:=[
 f 10 0 1,
 f 11 0 10,
 f 12 27 11,
 la 13 2 12,
 f 14 0 1,
 f 15 46 14,
 la 16 3 15,
 c 17 238 [(t 13),(t 16)],
 m 9 17,
 e 18 9 0,
 e 19 9 1,
 e 20 9 2,
 e 21 9 3,
 nw 4 32 [E,I],
 sn 2 4 18,
 m 5 19,
 m 6 20,
 m 7 21]
def Qm:List aa:=[
 m 22 7,
 op 23 (.un .not (t 22))]
def Qn:List aa:=[
 f 24 0 1,
 la 25 49 24,
 c 26 51 [(t 25),(i 5)],
 e 27 26 0,
 e 28 26 1,
 sn 43 2 27,
 sn 4 3 28]
def Qo:List aa:=[
 la 29 2 4,
 f 30 0 1,
 f 31 0 30,
 f 32 27 31,
 sn 2 32 29]
def Qp:List aa:=[
 f 33 0 1,
 f 34 43 33,
 la 35 1 34,
 m 36 5,
 bd 37 [N,U,N,I] [(0,1,(t 35)),(1,1,(t 36))],
 nw 8 52 [N,U,N,I],
 sn 4 8 37]
def Qq:List aa:=[
 m 38 6,
 b 39 .neq (t 38) (v E)]
def Qr:List aa:=[
 f 40 0 1,
 la 41 49 40,
 m 42 6,
 bs 43 1 [E] [(0,1,(t 42))],
 c 44 224 [(t 41),(i 1),(t 43)],
 f 45 2 8,
 s 45 44]
def Qs:List aa:=[
 f 46 0 1,
 f 47 0 46,
 la 48 43 47,
 la 49 4 8,
 sn 43 2 48,
 sn 4 3 49]
def f237:IFn:=⟨(q (o Qk) (q (o Ql) (q (q (o Qm) (k 23 (q (o Qn) R) K)) (q (o Qo) (q (o Qp) (q (q (o Qq) (k 39 (o Qr) K)) (q (.opsX Qs [(8,2)]) R))))))),[.cell 2 43 true,.cell 3 4 true],50⟩
def Qt:List aa:=[
 op 2 (.boxp (t 0)),
 op 3 (.boxp (t 1)),
 nw 4 32 [E,I],
 mc 5 (w 0),
 mc 6 (v E),
 mc 7 (v B)]
def Qu:List aa:=[
 op 11 (.calls 239 []),
 mc 12 (i 0)]
def Qv:List aa:=[
 b 13 .lss (t 12) (i 3)]
def Qw:List aa:=[
 op 14 (.ixA 3 3 true (t 11) (t 12)),
 nw 9 366 [I,B,.nilfn],
 sn 3 9 14]
def Qx:List aa:=[
 f 15 0 9,
 l 16 15,
 f 17 1 3,
 l 18 17,
 b 19 .eql (t 16) (t 18),
 m 20 19,
 g 20 true (f 21 1 9),
 g 20 true (l 22 21),
 g 20 true (f 23 0 3),
 g 20 true (l 24 23),
 g 20 true (op 25 (.eq false 1 (t 22) (t 24))),
 op 26 (.pick (t 20) (t 25) (v B))]
def Qy:List aa:=[
 la 27 2 2,
 bd 28 [E,I,U,E] [(0,2,(t 27))],
 x 29 371 28,
 m 10 29]
def Qz:List aa:=[
 f 30 2 9,
 l 31 30,
 m 32 10,
 f 33 2 3,
 l 34 33,
 op 35 (.callv (t 31) [(t 32),(t 34)])]
def QA:List aa:=[
 m 36 10,
 op 37 (.nchk (t 36)),
 f 38 0 37,
 la 39 2 38,
 m 40 10,
 op 41 (.nchk (t 40)),
 f 42 2 41,
 l 43 42,
 m 44 10,
 op 45 (.nchk (t 44)),
 f 46 3 45,
 l 47 46,
 sn 2 4 39,
 m 5 43,
 m 6 47,
 mc 7 (v (.bool true))]
def QB:List aa:=[
 b 48 .add (t 12) (i 1),
 m 12 48]
def QC:IC:=(q (o Qv) (q (k 13 K (ex 0)) (q (bl 1 (q (o Qw) (q (o Qx) (k 26 (q (o Qy) (q (o Qz) (q (.opsX QA [(42,4),(46,4)]) R))) K)))) (o QB))))
def Eb:List aa:=[
 la 49 2 2,
 sn 2 4 49,
 mc 5 (w 0),
 mc 6 (v E),
 mc 7 (v B)]
def f238:IFn:=⟨(q (o Qt) (q (q (o Qu) (bl 0 (lp QC))) (q (o Eb) R))),[.cell 4 2 true,.t 5,.t 6,.t 7],50⟩
def QD:List aa:=[
 nw 0 367 [I,B,.nilfn,I,B,.nilfn,I,B,.nilfn]]
def QE:List aa:=[
 bd 1 [I,B,.nilfn] [(0,1,(i 32)),(1,1,(v B)),(2,1,(v (.fn 240 [] [])))],
 bd 2 [I,B,.nilfn] [(0,1,(i 33)),(1,1,(v (.bool true))),(2,1,(v (.fn 241 [] [])))],
 bd 3 [I,B,.nilfn] [(0,1,(i 34)),(1,1,(v (.bool true))),(2,1,(v (.fn 243 [] [])))],
 bd 4 [I,B,.nilfn,I,B,.nilfn,I,B,.nilfn] [(0,3,(t 1)),(3,3,(t 2)),(6,3,(t 3))],
 sn 9 0 4]
def f239:IFn:=⟨(q (o QD) (q (o QE) R)),[.cell 0 9 true],5⟩
def QF:List aa:=[
 m 4 0,
 m 5 1,
 cv 6 .u8 5,
 bs 7 1 [Y] [(0,1,(t 6))],
 op 8 (.b2s (t 7)),
 op 9 (.nchk (t 4)),
 f 10 3 9,
 s 10 8]
def f240:IFn:=⟨(o QF),[],11⟩
def QG:List aa:=[
 m 4 0,
 op 5 (.calls 242 [(t 4)])]
def f241:IFn:=⟨(o QG),[],6⟩
def QH:List aa:=[
 m 4 0,
 m 5 0,
 op 6 (.nchk (t 5)),
 f 7 0 6,
 f 8 0 7,
 l 9 8,
 ns 10 9,
 cv 11 .u32 10,
 op 12 (.nchk (t 4)),
 f 13 2 12,
 s 13 11]
def f243:IFn:=⟨(o QH),[],14⟩
def QI:List aa:=[
 x 1 113 0,
 nw 2 42 [I,U,U,U,U,U,U,U,U,I,I,I,I,I,I,B,B,B,B,I,I,I,I,I,I,I,I,E,I,U,U,I,I,N,N,U,U,U,U,I,I,I,I],
 nw 3 52 [N,U,N,I]]
def QJ:List aa:=[
 f 7 0 1,
 f 8 0 7,
 f 9 29 8,
 la 10 6 9,
 f 11 0 1,
 f 12 43 11,
 la 13 1 12,
 f 14 0 1,
 f 15 46 14,
 la 16 3 15,
 c 17 245 [(t 10),(t 13),(t 16)],
 m 6 17,
 e 18 6 0,
 e 19 6 1,
 nw 4 38 [U,U,I,I,N,N],
 nw 5 122 [N,U,N,B,B],
 sn 6 4 18,
 sn 5 5 19]
def QK:List aa:=[
 f 20 4 5,
 l 21 20,
 op 22 (.un .not (t 21))]
def QL:List aa:=[
 f 23 0 1,
 la 24 49 23,
 c 25 51 [(t 24),(i 5)],
 e 26 25 0,
 e 27 25 1,
 sn 43 2 26,
 sn 4 3 27]
def QM:List aa:=[
 la 28 6 4,
 f 29 0 1,
 f 30 0 29,
 f 31 29 30,
 sn 6 31 28]
def QN:List aa:=[
 f 32 0 1,
 f 33 0 32,
 la 34 43 33,
 f 35 3 5,
 l 36 35,
 c 37 69 [(t 34),(i 2),(t 36)],
 f 38 0 5,
 la 39 1 38,
 f 40 1 5,
 l 41 40,
 bd 42 [N,U,N,I] [(0,1,(t 39)),(1,1,(t 41))],
 sn 43 2 37,
 sn 4 3 42]
def f244:IFn:=⟨(q (o QI) (q (o QJ) (q (q (o QK) (k 22 (q (o QL) R) K)) (q (o QM) (q (.opsX QN [(38,2),(40,2)]) R))))),[.cell 2 43 true,.cell 3 4 true],43⟩
def QO:List aa:=[
 x 3 38 0,
 x 4 44 1,
 x 5 46 2,
 nw 6 38 [U,U,I,I,N,N],
 nw 7 122 [N,U,N,B,B]]
def QP:List aa:=[
 la 11 1 4,
 bd 12 [N,U,N,B,B] [(0,1,(t 11))],
 la 13 6 3,
 bd 14 [N,U,N,B,B,U,U,I,I,N,N] [(0,5,(t 12)),(5,6,(t 13))],
 x 15 375 14,
 m 8 15]
def QQ:List aa:=[
 f 16 0 5,
 l 17 16]
def QR:List aa:=[
 m 18 8,
 op 19 (.nchk (t 18)),
 f 20 0 19,
 f 21 4 20,
 op0 (.store 1 (t 21) (v (.bool true)))]
def QS:List aa:=[
 f 22 1 5,
 l 23 22]
def QT:List aa:=[
 b 29 .eql (t 23) (i 48),
 m 28 29]
def QU:List aa:=[
 m 30 8,
 f 31 0 3,
 f 32 0 31,
 l 33 32,
 op 34 (.nchk (t 30)),
 f 35 0 34,
 f 36 1 35,
 s 36 33]
def QV:List aa:=[
 b 38 .eql (t 23) (i 49),
 m 37 38]
def QW:List aa:=[
 m 39 8,
 f 40 0 3,
 f 41 1 40,
 l 42 41,
 op 43 (.nchk (t 39)),
 f 44 0 43,
 f 45 1 44,
 s 45 42]
def QX:List aa:=[
 b 47 .eql (t 23) (i 51),
 m 46 47]
def Ec:List aa:=[
 m 48 8,
 m 49 8,
 f 50 3 3,
 l 51 50,
 cv 52 .u32 51,
 op 53 (.nchk (t 48)),
 f 54 0 53,
 f 55 1 54,
 s 55 52,
 op 56 (.nchk (t 49)),
 f 57 5 56,
 f 58 3 57,
 op0 (.store 1 (t 58) (i 0))]
def Ed:List aa:=[
 m 24 8,
 op 25 (.nchk (t 24)),
 f 26 0 25,
 f 27 4 26,
 op0 (.store 1 (t 27) (v B))]
def Ee:List aa:=[
 m 59 8,
 op 60 (.nchk (t 59)),
 f 61 5 60,
 la 62 6 61,
 m 63 8,
 op 64 (.nchk (t 63)),
 f 65 0 64,
 la 66 5 65,
 sn 6 6 62,
 sn 5 7 66]
def Ef:List aa:=[
 op 68 (.mkm),
 m 69 8,
 op 70 (.mkf 246 [(t 69)] []),
 op0 (.mupd 0 (t 68) (i 48) (t 70)),
 m 71 8,
 op 72 (.mkf 247 [(t 71)] []),
 op0 (.mupd 0 (t 68) (i 49) (t 72)),
 m 73 8,
 op 74 (.mkf 248 [(t 73)] []),
 op0 (.mupd 0 (t 68) (i 50) (t 74)),
 m 75 68,
 f 76 1 5,
 l 77 76,
 op 78 (.mget 0 true .nilfn (t 75) (t 77)),
 m 67 78,
 e 79 67 0,
 e 80 67 1,
 m 9 79,
 m 10 80]
def Eg:List aa:=[
 m 81 10]
def Eh:List aa:=[
 m 82 8,
 op 83 (.nchk (t 82)),
 f 84 0 83,
 f 85 4 84,
 op0 (.store 1 (t 85) (v (.bool true)))]
def Ei:List aa:=[
 m 86 9,
 f 87 2 5,
 l 88 87,
 op 89 (.callv (t 86) [(t 88)])]
def Ej:List aa:=[
 m 90 8,
 op 91 (.nchk (t 90)),
 f 92 5 91,
 la 93 6 92,
 m 94 8,
 op 95 (.nchk (t 94)),
 f 96 0 95,
 la 97 5 96,
 sn 6 6 93,
 sn 5 7 97]
def f245:IFn:=⟨(q (o QO) (q (o QP) (q (q (o QQ) (k 17 (q (q (o QR) (q (o QS) (bl 0 (q (o QT) (k 28 (o QU) (q (o QV) (k 37 (o QW) (q (o QX) (k 46 (o Ec) (o Ed)))))))))) (q (.opsX Ee [(65,6)]) R)) K)) (q (o Ef) (q (q (o Eg) (k 81 (q (o Eh) (o Ei)) K)) (q (.opsX Ej [(96,6)]) R)))))),[.cell 6 6 true,.cell 7 5 true],98⟩
def QY:List aa:=[
 m 4 0,
 m 5 0,
 m 6 1,
 op 7 (.nchk (t 4)),
 f 8 5 7,
 f 9 0 8,
 f 10 0 9,
 s 10 6,
 op 11 (.nchk (t 5)),
 f 12 5 11,
 f 13 2 12,
 op0 (.store 1 (t 13) (i 0))]
def f246:IFn:=⟨(o QY),[],14⟩
def QZ:List aa:=[
 m 4 0,
 m 5 0,
 m 6 1,
 op 7 (.nchk (t 4)),
 f 8 5 7,
 f 9 0 8,
 f 10 1 9,
 s 10 6,
 op 11 (.nchk (t 5)),
 f 12 5 11,
 f 13 2 12,
 op0 (.store 1 (t 13) (i 0))]
def f247:IFn:=⟨(o QZ),[],14⟩
def Q0:List aa:=[
 m 11 0,
 op 12 (.nchk (t 11)),
 f 13 0 12,
 f 14 0 13,
 la 15 1 14,
 m 16 0,
 op 17 (.nchk (t 16)),
 f 18 5 17,
 f 19 0 18,
 la 20 2 19,
 c 21 156 [(t 15),(t 20)],
 m 4 21]
def Q1:List aa:=[
 m 22 4,
 b 23 .neq (t 22) (i 0)]
def Q2:List aa:=[
 m 24 0,
 m 25 4,
 op 26 (.nchk (t 24)),
 f 27 5 26,
 f 28 3 27,
 s 28 25]
def Q3:List aa:=[
 m 29 0,
 op 30 (.nchk (t 29)),
 f 31 5 30,
 f 32 0 31,
 f 33 1 32,
 l 34 33,
 mc 35 (w 0)]
def Q4:List aa:=[
 b 36 .lss (t 35) (t 34)]
def Q5:List aa:=[
 m 38 0,
 op 39 (.nchk (t 38)),
 f 40 0 39,
 f 41 0 40,
 la 42 1 41,
 m 43 0,
 op 44 (.nchk (t 43)),
 f 45 5 44,
 f 46 0 45,
 la 47 2 46,
 m 48 0,
 op 49 (.nchk (t 48)),
 f 50 5 49,
 f 51 2 50,
 l 52 51,
 c 53 167 [(t 42),(t 47),(t 52)],
 m 37 53,
 e 54 37 0,
 e 55 37 1,
 m 5 54,
 m 6 55]
def Q6:List aa:=[
 m 56 6,
 op 57 (.un .not (t 56)),
 m 58 57,
 g 58 false (m 59 0),
 g 58 false (op 60 (.nchk (t 59))),
 g 58 false (f 61 5 60),
 g 58 false (f 62 5 61),
 g 58 false (l 63 62),
 g 58 false (n 64 5 63),
 g 58 false (b 65 .geq (t 64) (i 8)),
 op 66 (.pick (t 58) (v (.bool true)) (t 65))]
def Q7:List aa:=[
 m 67 0,
 m 68 5,
 b 69 .add (t 68) (i 1),
 m 70 0,
 op 71 (.nchk (t 70)),
 f 72 5 71,
 f 73 0 72,
 f 74 1 73,
 l 75 74,
 cv 76 .i64 75,
 b 77 .rem (t 69) (t 76),
 op 78 (.nchk (t 67)),
 f 79 5 78,
 f 80 2 79,
 s 80 77]
def Q8:List aa:=[
 m 82 0,
 op 83 (.nchk (t 82)),
 f 84 0 83,
 f 85 0 84,
 la 86 1 85,
 m 87 0,
 op 88 (.nchk (t 87)),
 f 89 5 88,
 f 90 0 89,
 la 91 2 90,
 m 92 5,
 c 93 168 [(t 86),(t 91),(t 92)],
 m 81 93,
 e 94 81 0,
 e 95 81 1,
 e 96 81 2,
 nw 7 44 [N],
 s 7 94,
 m 8 95,
 m 9 96]
def Q9:List aa:=[
 m 97 0,
 la 98 1 7,
 op 99 (.nchk (t 97)),
 f 100 0 99,
 f 101 0 100,
 s 101 98]
def Ek:List aa:=[
 m 102 9,
 b 103 .neq (t 102) (i 0)]
def El:List aa:=[
 m 104 0,
 m 105 0,
 m 106 9,
 op 107 (.nchk (t 104)),
 f 108 5 107,
 f 109 3 108,
 s 109 106,
 op 110 (.nchk (t 105)),
 f 111 0 110,
 f 112 3 111,
 op0 (.store 1 (t 112) (v (.bool true)))]
def Em:List aa:=[
 m 114 0,
 m 115 8,
 op 116 (.calls 249 [(t 114),(t 115)]),
 m 113 116,
 e 117 113 0,
 e 118 113 1,
 nw 10 190 [U,U,I,B,N],
 sn 5 10 117,
 m 9 118]
def En:List aa:=[
 m 119 9,
 b 120 .neq (t 119) (i 0)]
def Eo:List aa:=[
 m 121 0,
 m 122 5,
 m 123 9,
 op 124 (.calls 250 [(t 121),(t 122),(t 123)])]
def Ep:List aa:=[
 m 125 0,
 m 126 0,
 op 127 (.nchk (t 126)),
 f 128 5 127,
 f 129 5 128,
 l 130 129,
 m 131 0,
 op 132 (.nchk (t 131)),
 f 133 5 132,
 f 134 5 133,
 l 135 134,
 n 136 5 135,
 m 137 0,
 op 138 (.nchk (t 137)),
 f 139 5 138,
 f 140 5 139,
 l 141 140,
 n 142 5 141,
 op 143 (.slL 5 (t 130) none (some (t 136)) (some (t 142))),
 la 144 5 10,
 bs 145 5 [U,U,I,B,N] [(0,5,(t 144))],
 ap 146 5 48 143 145,
 op 147 (.nchk (t 125)),
 f 148 5 147,
 f 149 5 148,
 s 149 146]
def Er:List aa:=[
 b 150 .add (t 35) (w 1),
 m 35 150]
def Es:IC:=(q (o Q4) (q (k 36 K (ex 0)) (q (bl 1 (q (od Q5) (q (q (o Q6) (k 66 (ex 0) K)) (q (o Q7) (q (od Q8) (q (o Q9) (q (q (o Ek) (k 103 (q (o El) (ex 1)) K)) (q (o Em) (q (q (o En) (k 120 (q (o Eo) (ex 1)) K)) (od Ep)))))))))) (o Er))))
def f248:IFn:=⟨(q (q (od Q0) (q (o Q1) (k 23 (q (o Q2) R) K))) (q K (q (o Q3) (bl 0 (lp Es))))),[],151⟩
def Ra:List aa:=[
 nw 4 190 [U,U,I,B,N],
 mc 5 (i 0)]
def Rb:List aa:=[
 m 10 1,
 is 11 4 10 (i 0),
 la 12 4 11,
 nw 6 259 [I,I,I,B],
 sn 4 6 12]
def Rc:List aa:=[
 f 13 2 6,
 l 14 13,
 b 15 .neq (t 14) (i 8),
 m 16 15,
 g 16 false (f 17 3 6),
 g 16 false (l 18 17),
 op 19 (.pick (t 16) (v (.bool true)) (t 18))]
def Rd:List aa:=[
 bd 20 [U,U,I,B,N] [],
 sn 5 4 20,
 mc 5 (i 161)]
def Re:List aa:=[
 m 21 0,
 op 22 (.nchk (t 21)),
 f 23 0 22,
 f 24 0 23,
 la 25 1 24,
 f 26 1 6,
 l 27 26,
 c 28 251 [(t 25),(t 27)],
 m 29 0,
 op 30 (.nchk (t 29)),
 f 31 0 30,
 f 32 0 31,
 la 33 1 32,
 f 34 1 6,
 l 35 34,
 b 36 .add (t 35) (i 4),
 c 37 251 [(t 33),(t 36)],
 m 7 28,
 m 8 37]
def Rf:List aa:=[
 m 38 7,
 m 39 0,
 op 40 (.nchk (t 39)),
 f 41 5 40,
 f 42 4 41,
 l 43 42,
 n 44 128 43,
 cv 45 .u32 44,
 b 46 .geq (t 38) (t 45),
 m 47 46,
 g 47 false (m 48 8),
 g 47 false (b 49 .neq (t 48) (w 1)),
 g 47 false (m 50 49),
 g 50 true (m 51 8),
 g 50 true (b 52 .neq (t 51) (w 2)),
 g 47 false (op 53 (.pick (t 50) (t 52) (v B))),
 op 54 (.pick (t 47) (v (.bool true)) (t 53))]
def Rg:List aa:=[
 bd 55 [U,U,I,B,N] [],
 sn 5 4 55,
 mc 5 (i 161)]
def Rh:List aa:=[
 m 56 0,
 op 57 (.nchk (t 56)),
 f 58 5 57,
 f 59 0 58,
 la 60 2 59,
 m 61 7,
 cv 62 .i64 61,
 m 63 8,
 b 64 .eql (t 63) (w 2),
 m 65 1,
 bd 66 [U,U,I,B,N] [(0,2,(t 60)),(2,1,(t 62)),(3,1,(t 64)),(4,1,(t 65))],
 nw 9 190 [U,U,I,B,N],
 sn 5 9 66]
def Ri:List aa:=[
 la 67 5 9,
 m 68 1,
 op 69 (.slL 4 (t 68) (some (i 1)) none none),
 f 70 3 9,
 l 71 70,
 c 72 158 [(t 69),(t 71)],
 sn 5 4 67,
 m 5 72]
def f249:IFn:=⟨(q (o Ra) (q (o Rb) (q (q (o Rc) (k 19 (q (o Rd) R) K)) (q (od Re) (q (q (o Rf) (k 54 (q (o Rg) R) K)) (q (o Rh) (q (od Ri) R))))))),[.cell 4 5 true,.t 5],73⟩
def Rj:List aa:=[
 m 6 0,
 m 7 0,
 op 8 (.nchk (t 7)),
 f 9 0 8,
 f 10 0 9,
 la 11 1 10,
 m 12 0,
 op 13 (.nchk (t 12)),
 f 14 5 13,
 f 15 0 14,
 la 16 2 15,
 m 17 1,
 m 18 2,
 c 19 195 [(t 11),(t 16),(t 17),(t 18)],
 op 20 (.nchk (t 6)),
 f 21 0 20,
 f 22 0 21,
 s 22 19]
def Rk:List aa:=[
 m 23 0,
 m 24 0,
 m 25 2,
 op 26 (.nchk (t 23)),
 f 27 5 26,
 f 28 3 27,
 s 28 25,
 op 29 (.nchk (t 24)),
 f 30 0 29,
 f 31 3 30,
 op0 (.store 1 (t 31) (v (.bool true)))]
def f250:IFn:=⟨(q (od Rj) (o Rk)),[],32⟩
def Rl:List aa:=[
 x 2 44 0,
 mc 4 (w 0)]
def Rm:List aa:=[
 la 8 1 2,
 m 9 1,
 c 10 172 [(t 8),(t 9),(i 4)],
 m 7 10,
 e 11 7 0,
 e 12 7 1,
 m 5 11,
 m 6 12]
def Rn:List aa:=[
 m 13 5,
 op 14 (.ixS (t 13) (i 0)),
 cv 15 .u32 14,
 m 16 5,
 op 17 (.ixS (t 16) (i 1)),
 cv 18 .u32 17,
 b 19 .shl (t 18) (v (.int .u64 8)),
 b 20 .or (t 15) (t 19),
 m 21 5,
 op 22 (.ixS (t 21) (i 2)),
 cv 23 .u32 22,
 b 24 .shl (t 23) (v (.int .u64 16)),
 b 25 .or (t 20) (t 24),
 m 26 5,
 op 27 (.ixS (t 26) (i 3)),
 cv 28 .u32 27,
 b 29 .shl (t 28) (v (.int .u64 24)),
 b 30 .or (t 25) (t 29),
 m 4 30]
def f251:IFn:=⟨(q (o Rl) (q (o Rm) (q (od Rn) R))),[.t 4],31⟩
def Ro:List aa:=[
 x 1 114 0,
 nw 2 42 [I,U,U,U,U,U,U,U,U,I,I,I,I,I,I,B,B,B,B,I,I,I,I,I,I,I,I,E,I,U,U,I,I,N,N,U,U,U,U,I,I,I,I],
 nw 3 52 [N,U,N,I]]
def Rp:List aa:=[
 f 7 0 1,
 f 8 0 7,
 f 9 35 8,
 la 10 8 9,
 f 11 0 1,
 f 12 43 11,
 la 13 1 12,
 f 14 0 1,
 f 15 46 14,
 la 16 3 15,
 c 17 253 [(t 10),(t 13),(t 16)],
 m 6 17,
 e 18 6 0,
 e 19 6 1,
 nw 4 40 [U,U,U,U,I,I,I,I],
 nw 5 122 [N,U,N,B,B],
 sn 8 4 18,
 sn 5 5 19]
def Rq:List aa:=[
 f 20 4 5,
 l 21 20,
 op 22 (.un .not (t 21))]
def Rr:List aa:=[
 f 23 0 1,
 la 24 49 23,
 c 25 51 [(t 24),(i 5)],
 e 26 25 0,
 e 27 25 1,
 sn 43 2 26,
 sn 4 3 27]
def Rs:List aa:=[
 la 28 8 4,
 f 29 0 1,
 f 30 0 29,
 f 31 35 30,
 sn 8 31 28]
def Ru:List aa:=[
 f 32 0 1,
 f 33 0 32,
 la 34 43 33,
 f 35 3 5,
 l 36 35,
 c 37 69 [(t 34),(i 3),(t 36)],
 f 38 0 5,
 la 39 1 38,
 f 40 1 5,
 l 41 40,
 f 42 0 1,
 la 43 49 42,
 f 44 2 5,
 l 45 44,
 c 46 224 [(t 43),(i 2),(t 45)],
 bd 47 [N,U,N,I] [(0,1,(t 39)),(1,1,(t 41)),(2,1,(t 46))],
 sn 43 2 37,
 sn 4 3 47]
def f252:IFn:=⟨(q (o Ro) (q (o Rp) (q (q (o Rq) (k 22 (q (o Rr) R) K)) (q (o Rs) (q (.opsX Ru [(38,2),(40,2)]) R))))),[.cell 2 43 true,.cell 3 4 true],48⟩
def Rv:List aa:=[
 x 3 40 0,
 x 4 44 1,
 x 5 46 2,
 nw 6 40 [U,U,U,U,I,I,I,I],
 nw 7 122 [N,U,N,B,B]]
def Rw:List aa:=[
 la 9 1 4,
 bd 10 [N,U,N,B,B] [(0,1,(t 9)),(4,1,(v (.bool true)))],
 la 11 8 3,
 bd 12 [N,U,N,B,B,U,U,U,U,I,I,I,I] [(0,5,(t 10)),(5,8,(t 11))],
 x 13 211 12,
 m 8 13]
def Rx:List aa:=[
 f 14 0 5,
 l 15 14]
def Ry:List aa:=[
 m 16 8,
 f 17 1 5,
 l 18 17,
 op 19 (.calls 254 [(t 16),(t 18)])]
def Rz:List aa:=[
 m 20 8,
 f 21 1 5,
 l 22 21,
 f 23 2 5,
 l 24 23,
 op 25 (.calls 255 [(t 20),(t 22),(t 24)])]
def RA:List aa:=[
 m 26 8,
 op 27 (.nchk (t 26)),
 f 28 5 27,
 la 29 8 28,
 m 30 8,
 op 31 (.nchk (t 30)),
 f 32 0 31,
 la 33 5 32,
 sn 8 6 29,
 sn 5 7 33]
def f253:IFn:=⟨(q (o Rv) (q (o Rw) (q (q (o Rx) (k 15 (o Ry) (o Rz))) (q (.opsX RA [(32,6)]) R)))),[.cell 6 8 true,.cell 7 5 true],34⟩
def RB:List aa:=[
 m 4 1]
def RC:List aa:=[
 b 10 .eql (t 4) (i 64),
 m 9 10]
def RD:List aa:=[
 m 11 0,
 m 12 0,
 op 13 (.nchk (t 12)),
 f 14 5 13,
 f 15 0 14,
 f 16 0 15,
 l 17 16,
 op 18 (.nchk (t 11)),
 f 19 0 18,
 f 20 1 19,
 s 20 17]
def RE:List aa:=[
 b 22 .eql (t 4) (i 65),
 m 21 22]
def RF:List aa:=[
 m 23 0,
 m 24 0,
 op 25 (.nchk (t 24)),
 f 26 5 25,
 f 27 0 26,
 f 28 1 27,
 l 29 28,
 op 30 (.nchk (t 23)),
 f 31 0 30,
 f 32 1 31,
 s 32 29]
def RG:List aa:=[
 b 34 .eql (t 4) (i 66),
 m 33 34]
def RH:List aa:=[
 m 35 0,
 m 36 0,
 op 37 (.nchk (t 36)),
 f 38 5 37,
 f 39 2 38,
 f 40 0 39,
 l 41 40,
 op 42 (.nchk (t 35)),
 f 43 0 42,
 f 44 1 43,
 s 44 41]
def RJ:List aa:=[
 b 46 .eql (t 4) (i 67),
 m 45 46]
def RK:List aa:=[
 m 47 0,
 m 48 0,
 op 49 (.nchk (t 48)),
 f 50 5 49,
 f 51 2 50,
 f 52 1 51,
 l 53 52,
 op 54 (.nchk (t 47)),
 f 55 0 54,
 f 56 1 55,
 s 56 53]
def RL:List aa:=[
 b 58 .eql (t 4) (i 69),
 m 57 58]
def Et:List aa:=[
 m 59 0,
 m 60 0,
 m 61 0,
 op 62 (.nchk (t 61)),
 f 63 5 62,
 f 64 6 63,
 l 65 64,
 cv 66 .u32 65,
 op 67 (.nchk (t 59)),
 f 68 0 67,
 f 69 1 68,
 s 69 66,
 op 70 (.nchk (t 60)),
 f 71 5 70,
 f 72 6 71,
 op0 (.store 1 (t 72) (i 0))]
def Eu:List aa:=[
 b 74 .eql (t 4) (i 70),
 m 73 74]
def Ev:List aa:=[
 m 75 0,
 m 76 0,
 op 77 (.nchk (t 76)),
 f 78 5 77,
 f 79 7 78,
 l 80 79,
 cv 81 .u32 80,
 op 82 (.nchk (t 75)),
 f 83 0 82,
 f 84 1 83,
 s 84 81]
def Ew:List aa:=[
 m 5 0,
 op 6 (.nchk (t 5)),
 f 7 0 6,
 f 8 4 7,
 op0 (.store 1 (t 8) (v B))]
def f254:IFn:=⟨(q (o RB) (bl 0 (q (o RC) (k 9 (o RD) (q (o RE) (k 21 (o RF) (q (o RG) (k 33 (o RH) (q (o RJ) (k 45 (o RK) (q (o RL) (k 57 (o Et) (q (o Eu) (k 73 (o Ev) (o Ew))))))))))))))),[],85⟩
def RM:List aa:=[
 m 6 1]
def RN:List aa:=[
 b 12 .eql (t 6) (i 64),
 m 11 12]
def RO:List aa:=[
 m 13 0,
 m 14 0,
 m 15 2,
 op 16 (.nchk (t 13)),
 f 17 5 16,
 f 18 0 17,
 f 19 0 18,
 s 19 15,
 op 20 (.nchk (t 14)),
 f 21 5 20,
 f 22 4 21,
 op0 (.store 1 (t 22) (i 0))]
def RP:List aa:=[
 b 24 .eql (t 6) (i 65),
 m 23 24]
def RQ:List aa:=[
 m 25 0,
 m 26 0,
 m 27 2,
 op 28 (.nchk (t 25)),
 f 29 5 28,
 f 30 0 29,
 f 31 1 30,
 s 31 27,
 op 32 (.nchk (t 26)),
 f 33 5 32,
 f 34 4 33,
 op0 (.store 1 (t 34) (i 0))]
def RR:List aa:=[
 b 36 .eql (t 6) (i 66),
 m 35 36]
def RS:List aa:=[
 m 37 0,
 m 38 0,
 m 39 2,
 op 40 (.nchk (t 37)),
 f 41 5 40,
 f 42 2 41,
 f 43 0 42,
 s 43 39,
 op 44 (.nchk (t 38)),
 f 45 5 44,
 f 46 5 45,
 op0 (.store 1 (t 46) (i 0))]
def RT:List aa:=[
 b 48 .eql (t 6) (i 67),
 m 47 48]
def RU:List aa:=[
 m 49 0,
 m 50 0,
 m 51 2,
 op 52 (.nchk (t 49)),
 f 53 5 52,
 f 54 2 53,
 f 55 1 54,
 s 55 51,
 op 56 (.nchk (t 50)),
 f 57 5 56,
 f 58 5 57,
 op0 (.store 1 (t 58) (i 0))]
def RW:List aa:=[
 b 60 .eql (t 6) (i 68),
 m 59 60]
def Ey:List aa:=[
 m 61 0,
 op 62 (.calls 256 [(t 61)])]
def Ez:List aa:=[
 m 7 0,
 op 8 (.nchk (t 7)),
 f 9 0 8,
 f 10 4 9,
 op0 (.store 1 (t 10) (v B))]
def f255:IFn:=⟨(q (o RM) (bl 0 (q (o RN) (k 11 (o RO) (q (o RP) (k 23 (o RQ) (q (o RR) (k 35 (o RS) (q (o RT) (k 47 (o RU) (q (o RW) (k 59 (o Ey) (o Ez))))))))))))),[],63⟩
def RX:List aa:=[
 x 1 209 0]
def RY:List aa:=[
 l 4 1,
 l 5 1,
 op 6 (.nchk (t 5)),
 f 7 5 6,
 f 8 0 7,
 la 9 2 8,
 l 10 1,
 op 11 (.nchk (t 10)),
 f 12 5 11,
 f 13 4 12,
 op 14 (.calls 121 [(t 4),(t 9),(t 13)])]
def RZ:List aa:=[
 nw 2 217 [I,N,I],
 sn 3 2 15]
def R0:List aa:=[
 f 16 2 2,
 l 17 16,
 b 18 .neq (t 17) (i 0)]
def R1:List aa:=[
 f 19 1 2,
 l 20 19,
 c 21 169 [(t 20),(v B),(i 0),(i 512)],
 m 3 21]
def R2:List aa:=[
 m 22 3,
 b 23 .neq (t 22) (i 0)]
def R3:List aa:=[
 l 24 1,
 l 25 1,
 op 26 (.nchk (t 25)),
 f 27 5 26,
 f 28 0 27,
 la 29 2 28,
 f 30 0 2,
 l 31 30,
 m 32 3,
 op 33 (.calls 170 [(t 24),(t 29),(t 31),(t 32)])]
def R4:List aa:=[
 l 34 1,
 l 35 1,
 op 36 (.nchk (t 35)),
 f 37 0 36,
 f 38 2 37,
 l 39 38,
 l 40 1,
 op 41 (.nchk (t 40)),
 f 42 0 41,
 f 43 0 42,
 la 44 1 43,
 f 45 1 2,
 l 46 45,
 c 47 123 [(t 44),(t 46)],
 bs 48 1 [E] [(0,1,(t 47))],
 ap 49 1 16 39 48,
 op 50 (.nchk (t 34)),
 f 51 0 50,
 f 52 2 51,
 s 52 49]
def R5:List aa:=[
 l 53 1,
 l 54 1,
 op 55 (.nchk (t 54)),
 f 56 0 55,
 f 57 0 56,
 la 58 1 57,
 l 59 1,
 op 60 (.nchk (t 59)),
 f 61 5 60,
 f 62 0 61,
 la 63 2 62,
 f 64 1 2,
 l 65 64,
 c 66 126 [(t 58),(t 63),(t 65)],
 op 67 (.nchk (t 53)),
 f 68 0 67,
 f 69 0 68,
 s 69 66]
def rV:IC:=(o RZ)
def kc:IC:=(bl 1 (q (q (o R0) (k 18 (ex 1) K)) (q (q (o R1) (q (o R2) (k 23 (q (od R3) (ex 1)) K))) (q (od R4) (od R5)))))
def f256:IFn:=⟨(q (o RX) (q (od RY) (bl 0 (.rangeF (t 14) [15] rV kc)))),[],70⟩
end
noncomputable def kQ:FuncId→Option Prim:=fun f=>if f=123 then some (mE (ab FN0 20000)) else if f=242 then some mF else none
theorem XG:FN0 157=some (.code f157):=by kernel_rfl
theorem XH:FN0 172=some (.code f172):=by kernel_rfl
noncomputable def FN:FuncId→Option cr:=vx Tryz.prog hint kQ
theorem XI:FN 123=some (.prim (mE (ab FN0 20000))):=by kernel_rfl
theorem XJ:FN 242=some (.prim mF):=by kernel_rfl
theorem fn3:FN 3=some (.code f3):=by kernel_rfl
theorem fn9:FN 9=some (.code f9):=by kernel_rfl
theorem ZX:FN 11=some (.code f11):=by kernel_rfl
theorem ZY:FN 12=some (.code f12):=by kernel_rfl
theorem ZZ:FN 13=some (.code f13):=by kernel_rfl
theorem Z0:FN 14=some (.code f14):=by kernel_rfl
theorem Z1:FN 15=some (.code f15):=by kernel_rfl
theorem Z2:FN 16=some (.code f16):=by kernel_rfl
theorem Z3:FN 17=some (.code f17):=by kernel_rfl
theorem Z4:FN 18=some (.code f18):=by kernel_rfl
theorem Z5:FN 19=some (.code f19):=by kernel_rfl
theorem Z6:FN 20=some (.code f20):=by kernel_rfl
theorem Z7:FN 21=some (.code f21):=by kernel_rfl
theorem Z8:FN 22=some (.code f22):=by kernel_rfl
theorem Z9:FN 28=some (.code f28):=by kernel_rfl
theorem aaa:FN 34=some (.code f34):=by kernel_rfl
theorem aab:FN 35=some (.code f35):=by kernel_rfl
theorem R6:FN 36=some (.code f36):=by kernel_rfl
theorem aac:FN 37=some (.code f37):=by kernel_rfl
theorem aad:FN 41=some (.code f41):=by kernel_rfl
theorem aae:FN 42=some (.code f42):=by kernel_rfl
theorem aaf:FN 43=some (.code f43):=by kernel_rfl
theorem aag:FN 44=some (.code f44):=by kernel_rfl
theorem aah:FN 45=some (.code f45):=by kernel_rfl
theorem aai:FN 46=some (.code f46):=by kernel_rfl
theorem aaj:FN 47=some (.code f47):=by kernel_rfl
theorem aak:FN 48=some (.code f48):=by kernel_rfl
theorem aal:FN 49=some (.code f49):=by kernel_rfl
theorem aam:FN 50=some (.code f50):=by kernel_rfl
theorem aan:FN 51=some (.code f51):=by kernel_rfl
theorem aao:FN 52=some (.code f52):=by kernel_rfl
theorem pg:FN 53=some (.code f53):=by kernel_rfl
theorem R7:FN 54=some (.code f54):=by kernel_rfl
theorem aap:FN 55=some (.code f55):=by kernel_rfl
theorem aaq:FN 56=some (.code f56):=by kernel_rfl
theorem aar:FN 57=some (.code f57):=by kernel_rfl
theorem aas:FN 58=some (.code f58):=by kernel_rfl
theorem aat:FN 59=some (.code f59):=by kernel_rfl
theorem aau:FN 60=some (.code f60):=by kernel_rfl
theorem aav:FN 61=some (.code f61):=by kernel_rfl
theorem aaw:FN 62=some (.code f62):=by kernel_rfl
theorem aax:FN 63=some (.code f63):=by kernel_rfl
theorem aay:FN 69=some (.code f69):=by kernel_rfl
theorem aaz:FN 77=some (.code f77):=by kernel_rfl
theorem XK:FN 101=some (.code f101):=by kernel_rfl
theorem XL:FN 103=some (.code f103):=by kernel_rfl
theorem XM:FN 104=some (.code f104):=by kernel_rfl
theorem XN:FN 105=some (.code f105):=by kernel_rfl
theorem XO:FN 106=some (.code f106):=by kernel_rfl
theorem XP:FN 107=some (.code f107):=by kernel_rfl
theorem XQ:FN 108=some (.code f108):=by kernel_rfl
theorem XR:FN 109=some (.code f109):=by kernel_rfl
theorem Bf:FN 110=some (.code f110):=by kernel_rfl
theorem XT:FN 111=some (.code f111):=by kernel_rfl
theorem XU:FN 112=some (.code f112):=by kernel_rfl
theorem Bg:FN 113=some (.code f113):=by kernel_rfl
theorem Bh:FN 114=some (.code f114):=by kernel_rfl
theorem XV:FN 115=some (.code f115):=by kernel_rfl
theorem XW:FN 117=some (.code f117):=by kernel_rfl
theorem XX:FN 118=some (.code f118):=by kernel_rfl
theorem XY:FN 120=some (.code f120):=by kernel_rfl
theorem XZ:FN 121=some (.code f121):=by kernel_rfl
theorem X0:FN 126=some (.code f126):=by kernel_rfl
theorem X1:FN 127=some (.code f127):=by kernel_rfl
theorem X2:FN 129=some (.code f129):=by kernel_rfl
theorem X3:FN 130=some (.code f130):=by kernel_rfl
theorem X4:FN 131=some (.code f131):=by kernel_rfl
theorem X5:FN 132=some (.code f132):=by kernel_rfl
theorem X6:FN 133=some (.code f133):=by kernel_rfl
theorem X7:FN 135=some (.code f135):=by kernel_rfl
theorem X8:FN 136=some (.code f136):=by kernel_rfl
theorem X9:FN 137=some (.code f137):=by kernel_rfl
theorem Ya:FN 152=some (.code f152):=by kernel_rfl
theorem Yb:FN 154=some (.code f154):=by kernel_rfl
theorem Yc:FN 155=some (.code f155):=by kernel_rfl
theorem Yd:FN 156=some (.code f156):=by kernel_rfl
theorem Bi:FN 157=some (.code f157):=by kernel_rfl
theorem Ye:FN 158=some (.code f158):=by kernel_rfl
theorem Yf:FN 159=some (.code f159):=by kernel_rfl
theorem Yg:FN 160=some (.code f160):=by kernel_rfl
theorem Yh:FN 161=some (.code f161):=by kernel_rfl
theorem Yi:FN 162=some (.code f162):=by kernel_rfl
theorem Yj:FN 163=some (.code f163):=by kernel_rfl
theorem Yk:FN 164=some (.code f164):=by kernel_rfl
theorem Yl:FN 165=some (.code f165):=by kernel_rfl
theorem Ym:FN 166=some (.code f166):=by kernel_rfl
theorem Yn:FN 167=some (.code f167):=by kernel_rfl
theorem Yo:FN 168=some (.code f168):=by kernel_rfl
theorem Yp:FN 169=some (.code f169):=by kernel_rfl
theorem Yq:FN 170=some (.code f170):=by kernel_rfl
theorem Yr:FN 171=some (.code f171):=by kernel_rfl
theorem Ys:FN 172=some (.code f172):=by kernel_rfl
theorem Yt:FN 176=some (.code f176):=by kernel_rfl
theorem Yu:FN 177=some (.code f177):=by kernel_rfl
theorem Yv:FN 178=some (.code f178):=by kernel_rfl
theorem Yw:FN 179=some (.code f179):=by kernel_rfl
theorem Yx:FN 180=some (.code f180):=by kernel_rfl
theorem Yy:FN 182=some (.code f182):=by kernel_rfl
theorem Yz:FN 183=some (.code f183):=by kernel_rfl
theorem YA:FN 184=some (.code f184):=by kernel_rfl
theorem YB:FN 189=some (.code f189):=by kernel_rfl
theorem YC:FN 190=some (.code f190):=by kernel_rfl
theorem YD:FN 191=some (.code f191):=by kernel_rfl
theorem YE:FN 192=some (.code f192):=by kernel_rfl
theorem YF:FN 193=some (.code f193):=by kernel_rfl
theorem YG:FN 194=some (.code f194):=by kernel_rfl
theorem YH:FN 195=some (.code f195):=by kernel_rfl
theorem YI:FN 196=some (.code f196):=by kernel_rfl
theorem YJ:FN 198=some (.code f198):=by kernel_rfl
theorem Bj:FN 199=some (.code f199):=by kernel_rfl
theorem YK:FN 200=some (.code f200):=by kernel_rfl
theorem YL:FN 201=some (.code f201):=by kernel_rfl
theorem YM:FN 202=some (.code f202):=by kernel_rfl
theorem YN:FN 203=some (.code f203):=by kernel_rfl
theorem YO:FN 204=some (.code f204):=by kernel_rfl
theorem YP:FN 205=some (.code f205):=by kernel_rfl
theorem YQ:FN 206=some (.code f206):=by kernel_rfl
theorem YR:FN 208=some (.code f208):=by kernel_rfl
theorem YS:FN 224=some (.code f224):=by kernel_rfl
theorem Bk:FN 225=some (.code f225):=by kernel_rfl
theorem Bl:FN 226=some (.code f226):=by kernel_rfl
theorem YT:FN 227=some (.code f227):=by kernel_rfl
theorem YU:FN 228=some (.code f228):=by kernel_rfl
theorem YV:FN 229=some (.code f229):=by kernel_rfl
theorem YW:FN 230=some (.code f230):=by kernel_rfl
theorem YX:FN 231=some (.code f231):=by kernel_rfl
theorem YY:FN 232=some (.code f232):=by kernel_rfl
theorem Bm:FN 233=some (.code f233):=by kernel_rfl
theorem YZ:FN 234=some (.code f234):=by kernel_rfl
theorem Y0:FN 235=some (.code f235):=by kernel_rfl
theorem Y1:FN 236=some (.code f236):=by kernel_rfl
theorem Bn:FN 237=some (.code f237):=by kernel_rfl
theorem Y2:FN 238=some (.code f238):=by kernel_rfl
theorem Y3:FN 239=some (.code f239):=by kernel_rfl
theorem Y4:FN 240=some (.code f240):=by kernel_rfl
theorem Y5:FN 241=some (.code f241):=by kernel_rfl
theorem Y6:FN 243=some (.code f243):=by kernel_rfl
theorem Bo:FN 244=some (.code f244):=by kernel_rfl
theorem Bp:FN 245=some (.code f245):=by kernel_rfl
theorem Y7:FN 246=some (.code f246):=by kernel_rfl
theorem Y8:FN 247=some (.code f247):=by kernel_rfl
theorem Bq:FN 248=some (.code f248):=by kernel_rfl
theorem Y9:FN 249=some (.code f249):=by kernel_rfl
theorem Za:FN 250=some (.code f250):=by kernel_rfl
theorem Zb:FN 251=some (.code f251):=by kernel_rfl
theorem Br:FN 252=some (.code f252):=by kernel_rfl
theorem Zc:FN 253=some (.code f253):=by kernel_rfl
theorem Zd:FN 254=some (.code f254):=by kernel_rfl
theorem Ze:FN 255=some (.code f255):=by kernel_rfl
theorem Zf:FN 256=some (.code f256):=by kernel_rfl
end Go.Proofs.YtepcejdglbcbkaaGreat
