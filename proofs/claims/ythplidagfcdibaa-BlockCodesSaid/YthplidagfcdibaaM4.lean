/- Part 4 of the texts on which proofs about this seat rest: each says what it proves at its own head. No condition. -/
import Derived.Test.YthplidagfcdibaaM3
import Derived.KernelRfl
set_option linter.unusedVariables false
set_option linter.unusedSimpArgs false
/- The resolved functions of this seat, as printed (wip/abs/Print.lean), and the table of them. No condition. -/
namespace Go.Proofs.Ythplidagfcdibaa
open Go.Abs
section
open Go.O
def f3o0 : List IOper := [
 x 4 28 0,
 x 5 30 1,
 x 6 32 2,
 mc 8 (v B)]
def f3o1 : List IOper := [
 la 16 6 4,
 la 17 1 5,
 c 18 9 [(t 16), (t 17)],
 op 19 (.un .not (t 18)),
 m 20 19,
 g 20 false (la 21 1 5),
 g 20 false (c 22 10 [(t 21)]),
 g 20 false (op 23 (.un .not (t 22))),
 op 24 (.pick (t 20) (v (.bool true)) (t 23))]
def f3o2 : List IOper := [
 c 25 11 [],
 m 8 25]
def f3o3 : List IOper := [
 la 26 6 4,
 la 27 1 5,
 c 28 12 [(t 26), (t 27)],
 m 9 28]
def f3o4 : List IOper := [
 la 29 6 4,
 la 30 1 5,
 c 31 13 [(t 29), (t 30)],
 m 32 9,
 op 33 (.eq true 1 (t 31) (t 32))]
def f3o5 : List IOper := [
 mc 8 (v B)]
def f3o6 : List IOper := [
 m 34 9,
 op 35 (.un .not (t 34))]
def f3o7 : List IOper := [
 c 36 11 [],
 m 8 36]
def f3o8 : List IOper := [
 la 38 6 4,
 la 39 1 5,
 la 40 3 6,
 c 41 14 [(t 38), (t 39), (t 40)],
 m 37 41,
 e 42 37 0,
 e 43 37 1,
 nw 10 28 [U, U, I, I, N, N],
 nw 11 38 [N, U, N, B, B],
 sn 6 10 42,
 sn 5 11 43]
def f3o9 : List IOper := [
 la 45 6 4,
 la 46 1 5,
 m 47 3,
 c 48 15 [(t 45), (t 46), (t 47)],
 m 44 48,
 e 49 44 0,
 e 50 44 1,
 nw 12 28 [U, U, I, I, N, N],
 nw 13 38 [N, U, N, B, B],
 sn 6 12 49,
 sn 5 13 50]
def f3o10 : List IOper := [
 la 51 6 4,
 la 52 1 5,
 la 53 3 6,
 c 54 16 [(t 51), (t 52), (t 53)],
 nw 14 43 [U, U, I, I, N, N, N, U, N, B, B],
 sn 11 14 54]
def f3o11 : List IOper := [
 la 55 6 4,
 la 56 1 5,
 m 57 3,
 c 58 17 [(t 55), (t 56), (t 57)],
 nw 15 43 [U, U, I, I, N, N, N, U, N, B, B],
 sn 11 15 58]
def f3o12 : List IOper := [
 c 59 11 [],
 m 60 59,
 g 60 true (la 61 6 10),
 g 60 true (f 62 0 14),
 g 60 true (la 63 6 62),
 g 60 true (c 64 18 [(t 61), (t 63)]),
 op 65 (.pick (t 60) (t 64) (v B)),
 m 66 65,
 g 66 true (la 67 5 11),
 g 66 true (f 68 6 14),
 g 66 true (la 69 5 68),
 g 66 true (c 70 19 [(t 67), (t 69)]),
 op 71 (.pick (t 66) (t 70) (v B)),
 m 72 71,
 g 72 true (la 73 6 12),
 g 72 true (f 74 0 15),
 g 72 true (la 75 6 74),
 g 72 true (c 76 18 [(t 73), (t 75)]),
 op 77 (.pick (t 72) (t 76) (v B)),
 m 78 77,
 g 78 true (la 79 5 13),
 g 78 true (f 80 6 15),
 g 78 true (la 81 5 80),
 g 78 true (c 82 19 [(t 79), (t 81)]),
 op 83 (.pick (t 78) (t 82) (v B)),
 m 8 83]
def f3 : IFn := ⟨(q (o f3o0) (q (q (o f3o1) (k 24 (q (o f3o2) R) K)) (q (o f3o3) (q (q (o f3o4) (k 33 (q (o f3o5) R) K)) (q (q (o f3o6) (k 35 (q (o f3o7) R) K)) (q (o f3o8) (q (o f3o9) (q (o f3o10) (q (o f3o11) (q (o f3o12) R)))))))))), [.t 8], 84⟩
def f4o0 : List IOper := [
 x 3 28 0,
 x 4 30 1,
 mc 6 (v B)]
def f4o1 : List IOper := [
 la 13 6 3,
 la 14 1 4,
 c 15 20 [(t 13), (t 14)],
 m 7 15]
def f4o2 : List IOper := [
 m 16 7,
 op 17 (.un .not (t 16)),
 m 18 17,
 g 18 false (m 19 2),
 g 18 false (n 20 128 19),
 g 18 false (b 21 .gtr (t 20) (i 100)),
 op 22 (.pick (t 18) (v (.bool true)) (t 21))]
def f4o3 : List IOper := [
 c 23 11 [],
 m 6 23]
def f4o4 : List IOper := [
 m 25 2,
 c 26 21 [(t 25)],
 m 24 26,
 e 27 24 0,
 e 28 24 1,
 nw 8 28 [U, U, I, I, N, N],
 sn 6 8 27,
 m 9 28]
def f4o5 : List IOper := [
 m 29 9,
 b 30 .eql (t 29) (i 0),
 m 31 2,
 n 32 128 31,
 b 33 .leq (t 32) (i 64),
 op 34 (.eq true 1 (t 30) (t 33)),
 m 35 34,
 g 35 false (m 36 9),
 g 35 false (b 37 .eql (t 36) (i 0)),
 g 35 false (m 38 37),
 g 38 true (la 39 6 8),
 g 38 true (m 40 2),
 g 38 true (bd 41 [U, U, I, I, N, N] [(4, 1, (t 40))]),
 g 38 true (c 42 18 [(t 39), (t 41)]),
 g 38 true (op 43 (.un .not (t 42))),
 g 35 false (op 44 (.pick (t 38) (t 43) (v B))),
 op 45 (.pick (t 35) (v (.bool true)) (t 44)),
 m 46 45,
 g 46 false (m 47 9),
 g 46 false (b 48 .neq (t 47) (i 0)),
 g 46 false (m 49 48),
 g 49 true (m 50 9),
 g 49 true (b 51 .neq (t 50) (i 2)),
 g 49 true (m 52 51),
 g 52 false (f 53 4 8),
 g 52 false (l 54 53),
 g 52 false (n 55 128 54),
 g 52 false (b 56 .neq (t 55) (i 0)),
 g 49 true (op 57 (.pick (t 52) (v (.bool true)) (t 56))),
 g 46 false (op 58 (.pick (t 49) (t 57) (v B))),
 op 59 (.pick (t 46) (v (.bool true)) (t 58))]
def f4o6 : List IOper := [
 mc 6 (v B)]
def f4o7 : List IOper := [
 la 61 6 3,
 la 62 1 4,
 bd 63 [B, I, U] [(1, 1, (i 50))],
 c 64 14 [(t 61), (t 62), (t 63)],
 m 60 64,
 e 65 60 0,
 e 66 60 1,
 nw 10 28 [U, U, I, I, N, N],
 nw 11 38 [N, U, N, B, B],
 sn 6 10 65,
 sn 5 11 66]
def f4o8 : List IOper := [
 la 67 6 3,
 la 68 1 4,
 bd 69 [B, I, U] [(1, 1, (i 50))],
 c 70 16 [(t 67), (t 68), (t 69)],
 nw 12 43 [U, U, I, I, N, N, N, U, N, B, B],
 sn 11 12 70]
def f4o9 : List IOper := [
 c 71 11 [],
 m 72 71,
 g 72 true (la 73 6 10),
 g 72 true (f 74 0 12),
 g 72 true (la 75 6 74),
 g 72 true (c 76 18 [(t 73), (t 75)]),
 op 77 (.pick (t 72) (t 76) (v B)),
 m 78 77,
 g 78 true (la 79 5 11),
 g 78 true (f 80 6 12),
 g 78 true (la 81 5 80),
 g 78 true (c 82 19 [(t 79), (t 81)]),
 op 83 (.pick (t 78) (t 82) (v B)),
 m 6 83]
def f4 : IFn := ⟨(q (o f4o0) (q (o f4o1) (q (q (o f4o2) (k 22 (q (o f4o3) R) K)) (q (o f4o4) (q (q (o f4o5) (k 59 (q (o f4o6) R) K)) (q (o f4o7) (q (o f4o8) (q (o f4o9) R)))))))), [.t 6], 84⟩
def f5o0 : List IOper := [
 x 3 28 0,
 x 4 30 1,
 mc 6 (v B)]
def f5o1 : List IOper := [
 la 15 6 3,
 la 16 1 4,
 c 17 20 [(t 15), (t 16)],
 m 7 17]
def f5o2 : List IOper := [
 m 18 7,
 op 19 (.un .not (t 18))]
def f5o3 : List IOper := [
 c 20 11 [],
 m 6 20]
def f5o4 : List IOper := [
 la 22 6 3,
 la 23 1 4,
 bd 24 [B, I, U] [(1, 1, (i 50))],
 c 25 14 [(t 22), (t 23), (t 24)],
 m 21 25,
 e 26 21 0,
 e 27 21 1,
 nw 8 28 [U, U, I, I, N, N],
 nw 9 38 [N, U, N, B, B],
 sn 6 8 26,
 sn 5 9 27]
def f5o5 : List IOper := [
 f 28 4 9,
 l 29 28,
 op 30 (.un .not (t 29)),
 m 31 30,
 g 31 false (la 32 1 4),
 g 31 false (f 33 0 9),
 g 31 false (la 34 1 33),
 g 31 false (f 35 0 3),
 g 31 false (la 36 2 35),
 g 31 false (c 37 22 [(t 32), (t 34), (t 36), (v N)]),
 g 31 false (op 38 (.un .not (t 37))),
 op 39 (.pick (t 31) (v (.bool true)) (t 38)),
 m 40 39,
 g 40 false (f 41 5 8),
 g 40 false (l 42 41),
 g 40 false (n 43 5 42),
 g 40 false (f 44 5 3),
 g 40 false (l 45 44),
 g 40 false (n 46 5 45),
 g 40 false (b 47 .lss (t 43) (t 46)),
 op 48 (.pick (t 40) (v (.bool true)) (t 47)),
 m 49 48,
 g 49 false (f 50 5 8),
 g 49 false (l 51 50),
 g 49 false (n 52 5 51),
 g 49 false (b 53 .gtr (t 52) (i 8)),
 op 54 (.pick (t 49) (v (.bool true)) (t 53)),
 m 55 54,
 g 55 false (la 56 6 8),
 g 55 false (f 57 0 9),
 g 55 false (la 58 1 57),
 g 55 false (c 59 13 [(t 56), (t 58)]),
 g 55 false (op 60 (.un .not (t 59))),
 op 61 (.pick (t 55) (v (.bool true)) (t 60)),
 m 62 61,
 g 62 false (f 63 4 8),
 g 62 false (l 64 63),
 g 62 false (n 65 128 64),
 g 62 false (f 66 4 3),
 g 62 false (l 67 66),
 g 62 false (n 68 128 67),
 g 62 false (b 69 .neq (t 65) (t 68)),
 op 70 (.pick (t 62) (v (.bool true)) (t 69))]
def f5o6 : List IOper := [
 mc 6 (v B)]
def f5o7 : List IOper := [
 la 71 1 4,
 f 72 0 3,
 la 73 2 72,
 c 74 23 [(t 71), (t 73)],
 b 75 .neq (t 74) (i 0),
 m 76 75,
 g 76 true (la 77 1 4),
 g 76 true (f 78 0 9),
 g 76 true (la 79 1 78),
 g 76 true (bd 80 [U, U] []),
 g 76 true (c 81 22 [(t 77), (t 79), (t 80), (v N)]),
 g 76 true (op 82 (.un .not (t 81))),
 op 83 (.pick (t 76) (t 82) (v B))]
def f5o8 : List IOper := [
 mc 6 (v B)]
def f5o9 : List IOper := [
 f 84 5 8,
 l 85 84,
 n 86 5 85,
 b 87 .eql (t 86) (i 0)]
def f5o10 : List IOper := [
 c 88 11 [],
 m 6 88]
def f5o11 : List IOper := [
 m 89 2,
 cv 90 .i64 89,
 f 91 5 8,
 l 92 91,
 n 93 5 92,
 b 94 .rem (t 90) (t 93),
 m 10 94]
def f5o12 : List IOper := [
 f 95 5 8,
 l 96 95,
 m 97 10,
 is 98 5 96 (t 97),
 la 99 5 98,
 nw 11 57 [U, U, I, B, N],
 sn 5 11 99]
def f5o13 : List IOper := [
 la 101 6 8,
 f 102 0 9,
 la 103 1 102,
 m 104 10,
 c 105 15 [(t 101), (t 103), (t 104)],
 m 100 105,
 e 106 100 0,
 e 107 100 1,
 nw 12 28 [U, U, I, I, N, N],
 nw 13 38 [N, U, N, B, B],
 sn 6 12 106,
 sn 5 13 107]
def f5o14 : List IOper := [
 f 108 4 13,
 l 109 108,
 op 110 (.un .not (t 109)),
 m 111 110,
 g 111 false (f 112 3 13),
 g 111 false (l 113 112),
 g 111 false (op 114 (.un .not (t 113))),
 op 115 (.pick (t 111) (v (.bool true)) (t 114)),
 m 116 115,
 g 116 false (f 117 5 12),
 g 116 false (l 118 117),
 g 116 false (n 119 5 118),
 g 116 false (f 120 5 8),
 g 116 false (l 121 120),
 g 116 false (n 122 5 121),
 g 116 false (b 123 .sub (t 122) (i 1)),
 g 116 false (b 124 .neq (t 119) (t 123)),
 op 125 (.pick (t 116) (v (.bool true)) (t 124)),
 m 126 125,
 g 126 false (f 127 0 9),
 g 126 false (la 128 1 127),
 g 126 false (f 129 0 13),
 g 126 false (la 130 1 129),
 g 126 false (f 131 0 11),
 g 126 false (la 132 2 131),
 g 126 false (f 133 4 11),
 g 126 false (l 134 133),
 g 126 false (c 135 22 [(t 128), (t 130), (t 132), (t 134)]),
 g 126 false (op 136 (.un .not (t 135))),
 op 137 (.pick (t 126) (v (.bool true)) (t 136)),
 m 138 137,
 g 138 false (la 139 6 12),
 g 138 false (f 140 0 13),
 g 138 false (la 141 1 140),
 g 138 false (c 142 13 [(t 139), (t 141)]),
 g 138 false (op 143 (.un .not (t 142))),
 op 144 (.pick (t 138) (v (.bool true)) (t 143)),
 m 145 144,
 g 145 false (f 146 4 12),
 g 145 false (l 147 146),
 g 145 false (n 148 128 147),
 g 145 false (f 149 4 8),
 g 145 false (l 150 149),
 g 145 false (n 151 128 150),
 g 145 false (b 152 .neq (t 148) (t 151)),
 op 153 (.pick (t 145) (v (.bool true)) (t 152))]
def f5o15 : List IOper := [
 mc 6 (v B)]
def f5o16 : List IOper := [
 mc 14 (i 0)]
def f5o17 : List IOper := [
 m 154 14,
 f 155 4 8,
 l 156 155,
 n 157 128 156,
 b 158 .lss (t 154) (t 157)]
def f5o18 : List IOper := [
 f 161 4 8,
 l 162 161,
 m 163 14,
 is 164 128 162 (t 163),
 la 165 128 164,
 f 166 4 12,
 l 167 166,
 m 168 14,
 is 169 128 167 (t 168),
 la 170 128 169,
 op 171 (.eqA true [0, 0, 0, 0, 0, 0, 0, 0, 0, 0, 0, 0, 0, 0, 0, 0, 0, 0, 0, 0, 0, 0, 0, 0, 0, 0, 0, 0, 0, 0, 0, 0, 0, 0, 0, 0, 0, 0, 0, 0, 0, 0, 0, 0, 0, 0, 0, 0, 0, 0, 0, 0, 0, 0, 0, 0, 0, 0, 0, 0, 0, 0, 0, 0, 0, 0, 0, 0, 0, 0, 0, 0, 0, 0, 0, 0, 0, 0, 0, 0, 0, 0, 0, 0, 0, 0, 0, 0, 0, 0, 0, 0, 0, 0, 0, 0, 0, 0, 0, 0, 0, 0, 0, 0, 0, 0, 0, 0, 0, 0, 0, 0, 0, 0, 0, 0, 0, 0, 0, 0, 0, 0, 0, 0, 0, 0, 0, 0] (t 165) (t 170)),
 m 172 171,
 g 172 true (m 173 14),
 g 172 true (f 174 2 11),
 g 172 true (l 175 174),
 g 172 true (b 176 .neq (t 173) (t 175)),
 g 172 true (m 177 176),
 g 177 false (f 178 3 11),
 g 177 false (l 179 178),
 g 177 false (op 180 (.un .not (t 179))),
 g 172 true (op 181 (.pick (t 177) (v (.bool true)) (t 180))),
 op 182 (.pick (t 172) (t 181) (v B))]
def f5o19 : List IOper := [
 mc 6 (v B)]
def f5o20 : List IOper := [
 m 159 14,
 b 160 .add (t 159) (i 1),
 m 14 160]
def f5l21 : IC := (q (q (o f5o17) (k 158 K (ex 0))) (q (bl 1 (q (od f5o18) (k 182 (q (o f5o19) R) K))) (o f5o20)))
def f5o22 : List IOper := [
 c 183 11 [],
 m 6 183]
def f5 : IFn := ⟨(q (o f5o0) (q (o f5o1) (q (q (o f5o2) (k 19 (q (o f5o3) R) K)) (q (o f5o4) (q (q (o f5o5) (k 70 (q (o f5o6) R) K)) (q (q (o f5o7) (k 83 (q (o f5o8) R) K)) (q (q (o f5o9) (k 87 (q (o f5o10) R) K)) (q (o f5o11) (q (o f5o12) (q (o f5o13) (q (q (o f5o14) (k 153 (q (o f5o15) R) K)) (q (q (o f5o16) (bl 0 (lp f5l21))) (q (o f5o22) R))))))))))))), [.t 6], 184⟩
def f6o0 : List IOper := [
 x 2 28 0,
 x 3 30 1,
 mc 4 (v B)]
def f6o1 : List IOper := [
 la 12 6 2,
 la 13 1 3,
 c 14 20 [(t 12), (t 13)],
 m 5 14]
def f6o2 : List IOper := [
 m 15 5,
 op 16 (.un .not (t 15)),
 m 17 16,
 g 17 false (f 18 5 2),
 g 17 false (l 19 18),
 g 17 false (n 20 5 19),
 g 17 false (b 21 .lss (t 20) (i 2)),
 op 22 (.pick (t 17) (v (.bool true)) (t 21)),
 m 23 22,
 g 23 false (f 24 5 2),
 g 23 false (l 25 24),
 g 23 false (is 26 5 25 (i 0)),
 g 23 false (la 27 5 26),
 g 23 false (f 28 5 2),
 g 23 false (l 29 28),
 g 23 false (is 30 5 29 (i 1)),
 g 23 false (la 31 5 30),
 g 23 false (c 32 24 [(t 27), (t 31)]),
 g 23 false (op 33 (.un .not (t 32))),
 op 34 (.pick (t 23) (v (.bool true)) (t 33))]
def f6o3 : List IOper := [
 c 35 11 [],
 m 4 35]
def f6o4 : List IOper := [
 la 37 6 2,
 la 38 1 3,
 c 39 15 [(t 37), (t 38), (i 0)],
 m 36 39,
 e 40 36 0,
 e 41 36 1,
 nw 6 28 [U, U, I, I, N, N],
 nw 7 38 [N, U, N, B, B],
 sn 6 6 40,
 sn 5 7 41]
def f6o5 : List IOper := [
 la 43 6 6,
 f 44 0 7,
 la 45 1 44,
 c 46 15 [(t 43), (t 45), (i 0)],
 m 42 46,
 e 47 42 0,
 e 48 42 1,
 nw 8 38 [N, U, N, B, B],
 sn 6 6 47,
 sn 5 8 48]
def f6o6 : List IOper := [
 la 50 6 2,
 la 51 1 3,
 c 52 15 [(t 50), (t 51), (i 1)],
 m 49 52,
 e 53 49 0,
 e 54 49 1,
 nw 9 28 [U, U, I, I, N, N],
 nw 10 38 [N, U, N, B, B],
 sn 6 9 53,
 sn 5 10 54]
def f6o7 : List IOper := [
 la 56 6 9,
 f 57 0 10,
 la 58 1 57,
 c 59 15 [(t 56), (t 58), (i 0)],
 m 55 59,
 e 60 55 0,
 e 61 55 1,
 nw 11 38 [N, U, N, B, B],
 sn 6 9 60,
 sn 5 11 61]
def f6o8 : List IOper := [
 c 62 11 [],
 m 63 62,
 g 63 true (f 64 4 7),
 g 63 true (l 65 64),
 op 66 (.pick (t 63) (t 65) (v B)),
 m 67 66,
 g 67 true (f 68 4 8),
 g 67 true (l 69 68),
 op 70 (.pick (t 67) (t 69) (v B)),
 m 71 70,
 g 71 true (f 72 4 10),
 g 71 true (l 73 72),
 op 74 (.pick (t 71) (t 73) (v B)),
 m 75 74,
 g 75 true (f 76 4 11),
 g 75 true (l 77 76),
 op 78 (.pick (t 75) (t 77) (v B)),
 m 79 78,
 g 79 true (la 80 6 6),
 g 79 true (la 81 6 9),
 g 79 true (c 82 18 [(t 80), (t 81)]),
 op 83 (.pick (t 79) (t 82) (v B)),
 m 84 83,
 g 84 true (f 85 0 8),
 g 84 true (la 86 1 85),
 g 84 true (f 87 0 11),
 g 84 true (la 88 1 87),
 g 84 true (c 89 25 [(t 86), (t 88)]),
 op 90 (.pick (t 84) (t 89) (v B)),
 m 4 90]
def f6 : IFn := ⟨(q (o f6o0) (q (o f6o1) (q (q (od f6o2) (k 34 (q (o f6o3) R) K)) (q (o f6o4) (q (o f6o5) (q (o f6o6) (q (o f6o7) (q (o f6o8) R)))))))), [.t 4], 91⟩
def f7o0 : List IOper := [
 mc 10 (v B)]
def f7o1 : List IOper := [
 m 26 0,
 n 27 128 26,
 b 28 .neq (t 27) (i 4),
 m 29 28,
 g 29 false (m 30 2),
 g 29 false (ns 31 30),
 g 29 false (b 32 .eql (t 31) (i 0)),
 op 33 (.pick (t 29) (v (.bool true)) (t 32)),
 m 34 33,
 g 34 false (m 35 2),
 g 34 false (ns 36 35),
 g 34 false (b 37 .gtr (t 36) (i 128)),
 op 38 (.pick (t 34) (v (.bool true)) (t 37)),
 m 39 38,
 g 39 false (m 40 3),
 g 39 false (b 41 .rem (t 40) (y 2)),
 g 39 false (m 42 4),
 g 39 false (b 43 .rem (t 42) (y 2)),
 g 39 false (b 44 .eql (t 41) (t 43)),
 op 45 (.pick (t 39) (v (.bool true)) (t 44))]
def f7o2 : List IOper := [
 c 46 11 [],
 m 10 46]
def f7o3 : List IOper := [
 c 48 26 [(i 8)],
 m 47 48,
 e 49 47 0,
 e 50 47 1,
 nw 11 30 [N],
 s 11 49,
 m 12 50]
def f7o4 : List IOper := [
 m 52 0,
 c 53 21 [(t 52)],
 m 51 53,
 e 54 51 0,
 e 55 51 1,
 nw 13 28 [U, U, I, I, N, N],
 sn 6 13 54,
 m 14 55]
def f7o5 : List IOper := [
 m 56 12,
 b 57 .neq (t 56) (i 0),
 m 58 57,
 g 58 false (m 59 14),
 g 58 false (b 60 .neq (t 59) (i 0)),
 op 61 (.pick (t 58) (v (.bool true)) (t 60))]
def f7o6 : List IOper := [
 mc 10 (v B)]
def f7o7 : List IOper := [
 m 62 1,
 b 63 .rem (t 62) (y 4),
 cv 64 .u32 63,
 m 15 64]
def f7o8 : List IOper := [
 m 65 3,
 b 66 .rem (t 65) (y 2),
 cv 67 .i64 66,
 b 68 .mul (i 128) (t 67),
 b 69 .add (i 512) (t 68),
 m 16 69]
def f7o9 : List IOper := [
 m 70 4,
 b 71 .rem (t 70) (y 2),
 cv 72 .i64 71,
 b 73 .mul (i 128) (t 72),
 b 74 .add (i 512) (t 73),
 m 17 74]
def f7o10 : List IOper := [
 la 75 1 11,
 m 76 16,
 cv 77 .u32 76,
 m 78 2,
 ns 79 78,
 cv 80 .u32 79,
 m 81 17,
 cv 82 .u32 81,
 m 83 2,
 ns 84 83,
 cv 85 .u32 84,
 bs 86 1 (List.replicate 16 U) [(0, 1, (w 256)), (1, 1, (w 8)), (2, 1, (w 258)), (3, 1, (w 1)), (4, 1, (t 77)), (5, 1, (t 80)), (6, 1, (w 0)), (7, 1, (w 1)), (8, 1, (w 264)), (9, 1, (w 8)), (10, 1, (w 770)), (11, 1, (w 1)), (12, 1, (t 82)), (13, 1, (t 85)), (14, 1, (w 1)), (15, 1, (w 1))],
 c 87 27 [(t 75), (i 0), (t 86)],
 s 11 87]
def f7o11 : List IOper := [
 la 88 1 11,
 m 89 15,
 m 90 15,
 bs 91 1 [U, U, U, U] [(0, 1, (t 89)), (1, 1, (w 2)), (2, 1, (t 90)), (3, 1, (w 1))],
 c 92 27 [(t 88), (i 256), (t 91)],
 s 11 92]
def f7o12 : List IOper := [
 la 94 1 11,
 m 95 16,
 m 96 2,
 c 97 28 [(t 94), (t 95), (t 96)],
 m 93 97,
 e 98 93 0,
 e 99 93 1,
 s 11 98]
def f7o13 : List IOper := [
 la 101 6 13,
 la 102 1 11,
 bd 103 [B, I, U] [(1, 1, (i 49)), (2, 1, (w 4))],
 c 104 14 [(t 101), (t 102), (t 103)],
 m 100 104,
 e 105 100 0,
 e 106 100 1,
 sn 6 13 105]
def f7o14 : List IOper := [
 la 108 6 13,
 la 109 1 11,
 bd 110 [B, I, U] [(1, 1, (i 50))],
 c 111 14 [(t 108), (t 109), (t 110)],
 m 107 111,
 e 112 107 0,
 e 113 107 1,
 nw 18 38 [N, U, N, B, B],
 sn 6 13 112,
 sn 5 18 113]
def f7o15 : List IOper := [
 f 114 4 18,
 l 115 114,
 op 116 (.un .not (t 115)),
 m 117 116,
 g 117 false (f 118 5 13),
 g 117 false (l 119 118),
 g 117 false (n 120 5 119),
 g 117 false (b 121 .neq (t 120) (i 2)),
 op 122 (.pick (t 117) (v (.bool true)) (t 121)),
 m 123 122,
 g 123 false (f 124 3 13),
 g 123 false (l 125 124),
 g 123 false (b 126 .neq (t 125) (i 0)),
 op 127 (.pick (t 123) (v (.bool true)) (t 126))]
def f7o16 : List IOper := [
 mc 10 (v B)]
def f7o17 : List IOper := [
 la 129 6 13,
 f 130 0 18,
 la 131 1 130,
 c 132 15 [(t 129), (t 131), (i 0)],
 m 128 132,
 e 133 128 0,
 e 134 128 1,
 nw 19 38 [N, U, N, B, B],
 sn 6 13 133,
 sn 5 19 134]
def f7o18 : List IOper := [
 la 136 6 13,
 f 137 0 19,
 la 138 1 137,
 c 139 15 [(t 136), (t 138), (i 0)],
 m 135 139,
 e 140 135 0,
 e 141 135 1,
 nw 20 38 [N, U, N, B, B],
 sn 6 13 140,
 sn 5 20 141]
def f7o19 : List IOper := [
 f 143 0 20,
 la 144 1 143,
 m 145 17,
 m 146 2,
 ns 147 146,
 c 148 29 [(t 144), (t 145), (t 147)],
 m 142 148,
 e 149 142 0,
 e 150 142 1,
 m 21 149,
 m 22 150]
def f7o20 : List IOper := [
 f 151 4 19,
 l 152 151,
 op 153 (.un .not (t 152)),
 m 154 153,
 g 154 false (f 155 4 20),
 g 154 false (l 156 155),
 g 154 false (op 157 (.un .not (t 156))),
 op 158 (.pick (t 154) (v (.bool true)) (t 157)),
 m 159 158,
 g 159 false (m 160 22),
 g 159 false (op 161 (.un .not (t 160))),
 op 162 (.pick (t 159) (v (.bool true)) (t 161)),
 m 163 162,
 g 163 false (m 164 21),
 g 163 false (m 165 2),
 g 163 false (b 166 .neq (t 164) (t 165)),
 op 167 (.pick (t 163) (v (.bool true)) (t 166)),
 m 168 167,
 g 168 false (f 169 4 13),
 g 168 false (l 170 169),
 g 168 false (n 171 128 170),
 g 168 false (b 172 .neq (t 171) (i 4)),
 op 173 (.pick (t 168) (v (.bool true)) (t 172))]
def f7o21 : List IOper := [
 mc 10 (v B)]
def f7o22 : List IOper := [
 mc 23 (i 0)]
def f7o23 : List IOper := [
 m 174 23,
 b 175 .lss (t 174) (i 4)]
def f7o24 : List IOper := [
 mc 24 (i 0)]
def f7o25 : List IOper := [
 m 178 24,
 b 179 .lss (t 178) (i 128)]
def f7o26 : List IOper := [
 m 182 0,
 m 183 23,
 m 184 24,
 is 185 128 182 (t 183),
 ia 186 128 1 185 (t 184),
 l 187 186,
 m 25 187]
def f7o27 : List IOper := [
 m 188 23,
 m 189 15,
 cv 190 .i64 189,
 b 191 .eql (t 188) (t 190),
 m 192 191,
 g 192 true (m 193 24),
 g 192 true (m 194 2),
 g 192 true (ns 195 194),
 g 192 true (b 196 .lss (t 193) (t 195)),
 op 197 (.pick (t 192) (t 196) (v B))]
def f7o28 : List IOper := [
 m 198 2,
 m 199 24,
 op 200 (.ixS (t 198) (t 199)),
 m 25 200]
def f7o29 : List IOper := [
 f 201 4 13,
 l 202 201,
 m 203 23,
 m 204 24,
 is 205 128 202 (t 203),
 ia 206 128 1 205 (t 204),
 l 207 206,
 m 208 25,
 b 209 .neq (t 207) (t 208)]
def f7o30 : List IOper := [
 mc 10 (v B)]
def f7o31 : List IOper := [
 m 180 24,
 b 181 .add (t 180) (i 1),
 m 24 181]
def f7l32 : IC := (q (q (o f7o25) (k 179 K (ex 2))) (q (bl 3 (q (o f7o26) (q (q (o f7o27) (k 197 (o f7o28) K)) (q (o f7o29) (k 209 (q (o f7o30) R) K))))) (o f7o31)))
def f7o33 : List IOper := [
 m 176 23,
 b 177 .add (t 176) (i 1),
 m 23 177]
def f7l34 : IC := (q (q (o f7o23) (k 175 K (ex 0))) (q (bl 1 (q (o f7o24) (bl 2 (lp f7l32)))) (o f7o33)))
def f7o35 : List IOper := [
 c 210 11 [],
 m 10 210]
def f7 : IFn := ⟨(q (o f7o0) (q (q (o f7o1) (k 45 (q (o f7o2) R) K)) (q (o f7o3) (q (o f7o4) (q (q (o f7o5) (k 61 (q (o f7o6) R) K)) (q (o f7o7) (q (o f7o8) (q (o f7o9) (q (o f7o10) (q (o f7o11) (q (o f7o12) (q (o f7o13) (q (o f7o14) (q (q (o f7o15) (k 127 (q (o f7o16) R) K)) (q (o f7o17) (q (o f7o18) (q (o f7o19) (q (q (o f7o20) (k 173 (q (o f7o21) R) K)) (q (q (o f7o22) (bl 0 (lp f7l34))) (q (o f7o35) R)))))))))))))))))))), [.t 10], 211⟩
def f8o0 : List IOper := [
 x 3 28 0,
 x 4 30 1,
 mc 6 (v B)]
def f8o1 : List IOper := [
 m 14 2,
 n 15 1 14,
 b 16 .gtr (t 15) (i 3000)]
def f8o2 : List IOper := [
 c 17 11 [],
 m 6 17]
def f8o3 : List IOper := [
 m 19 2,
 c 20 30 [(t 19)],
 m 18 20,
 e 21 18 0,
 e 22 18 1,
 nw 7 28 [U, U, I, I, N, N],
 sn 6 7 21,
 m 8 22]
def f8o4 : List IOper := [
 m 23 2,
 c 24 31 [(t 23)],
 nw 9 75 [U, U, I, I, N, N, I],
 sn 7 9 24]
def f8o5 : List IOper := [
 m 25 8,
 f 26 6 9,
 l 27 26,
 b 28 .neq (t 25) (t 27),
 m 29 28,
 g 29 false (la 30 6 7),
 g 29 false (f 31 0 9),
 g 29 false (la 32 6 31),
 g 29 false (c 33 18 [(t 30), (t 32)]),
 g 29 false (op 34 (.un .not (t 33))),
 op 35 (.pick (t 29) (v (.bool true)) (t 34)),
 m 36 35,
 g 36 false (m 37 8),
 g 36 false (b 38 .eql (t 37) (i 0)),
 g 36 false (m 39 38),
 g 39 true (la 40 6 7),
 g 39 true (c 41 32 [(t 40)]),
 g 39 true (op 42 (.b2s (t 41))),
 g 39 true (m 43 2),
 g 39 true (op 44 (.b2s (t 43))),
 g 39 true (b 45 .neq (t 42) (t 44)),
 g 36 false (op 46 (.pick (t 39) (t 45) (v B))),
 op 47 (.pick (t 36) (v (.bool true)) (t 46))]
def f8o6 : List IOper := [
 mc 6 (v B)]
def f8o7 : List IOper := [
 la 48 6 3,
 la 49 1 4,
 c 50 20 [(t 48), (t 49)],
 m 10 50]
def f8o8 : List IOper := [
 m 51 10,
 op 52 (.un .not (t 51))]
def f8o9 : List IOper := [
 c 53 11 [],
 m 6 53]
def f8o10 : List IOper := [
 la 54 6 3,
 c 55 32 [(t 54)],
 m 11 55]
def f8o11 : List IOper := [
 m 57 11,
 c 58 30 [(t 57)],
 m 56 58,
 e 59 56 0,
 e 60 56 1,
 nw 12 28 [U, U, I, I, N, N],
 sn 6 12 59,
 m 13 60]
def f8o12 : List IOper := [
 c 61 11 [],
 m 62 61,
 g 62 true (m 63 11),
 g 62 true (op 64 (.b2s (t 63))),
 g 62 true (la 65 6 3),
 g 62 true (c 66 33 [(t 65)]),
 g 62 true (op 67 (.b2s (t 66))),
 g 62 true (b 68 .eql (t 64) (t 67)),
 op 69 (.pick (t 62) (t 68) (v B)),
 m 70 69,
 g 70 true (m 71 13),
 g 70 true (b 72 .eql (t 71) (i 0)),
 op 73 (.pick (t 70) (t 72) (v B)),
 m 74 73,
 g 74 true (la 75 6 12),
 g 74 true (la 76 6 3),
 g 74 true (c 77 18 [(t 75), (t 76)]),
 op 78 (.pick (t 74) (t 77) (v B)),
 m 6 78]
def f8 : IFn := ⟨(q (o f8o0) (q (q (o f8o1) (k 16 (q (o f8o2) R) K)) (q (o f8o3) (q (o f8o4) (q (q (od f8o5) (k 47 (q (o f8o6) R) K)) (q (o f8o7) (q (q (o f8o8) (k 52 (q (o f8o9) R) K)) (q (o f8o10) (q (o f8o11) (q (od f8o12) R)))))))))), [.t 6], 79⟩
def f9o0 : List IOper := [
 x 2 28 0,
 x 3 30 1,
 mc 4 (v B)]
def f9o1 : List IOper := [
 mc 5 (i 0)]
def f9o2 : List IOper := [
 m 6 5,
 f 7 5 2,
 l 8 7,
 n 9 5 8,
 b 10 .lss (t 6) (t 9),
 m 11 10,
 g 11 true (m 12 5),
 g 11 true (b 13 .lss (t 12) (i 11)),
 op 14 (.pick (t 11) (t 13) (v B))]
def f9o3 : List IOper := [
 f 17 5 2,
 l 18 17,
 m 19 5,
 is 20 5 18 (t 19),
 f 21 4 20,
 l 22 21,
 n 23 4 22,
 b 24 .gtr (t 23) (i 10)]
def f9o4 : List IOper := [
 mc 4 (v B)]
def f9o5 : List IOper := [
 m 15 5,
 b 16 .add (t 15) (i 1),
 m 5 16]
def f9l6 : IC := (q (q (o f9o2) (k 14 K (ex 0))) (q (bl 1 (q (o f9o3) (k 24 (q (o f9o4) R) K))) (o f9o5)))
def f9o7 : List IOper := [
 f 25 0 3,
 l 26 25,
 n 27 128 26,
 b 28 .leq (t 27) (i 16),
 m 29 28,
 g 29 true (f 30 4 2),
 g 29 true (l 31 30),
 g 29 true (n 32 128 31),
 g 29 true (b 33 .leq (t 32) (i 16)),
 op 34 (.pick (t 29) (t 33) (v B)),
 m 35 34,
 g 35 true (f 36 5 2),
 g 35 true (l 37 36),
 g 35 true (n 38 5 37),
 g 35 true (b 39 .leq (t 38) (i 10)),
 op 40 (.pick (t 35) (t 39) (v B)),
 m 4 40]
def f9 : IFn := ⟨(q (o f9o0) (q (q (o f9o1) (bl 0 (lp f9l6))) (q (o f9o7) R))), [.t 4], 41⟩
def f10o0 : List IOper := [
 x 1 30 0,
 mc 2 (v B)]
def f10o1 : List IOper := [
 f 3 0 1,
 l 4 3,
 n 5 128 4,
 b 6 .geq (t 5) (i 1),
 m 7 6,
 g 7 true (f 8 0 1),
 g 7 true (l 9 8),
 g 7 true (n 10 128 9),
 g 7 true (b 11 .leq (t 10) (i 64)),
 op 12 (.pick (t 7) (t 11) (v B)),
 m 2 12]
def f10 : IFn := ⟨(q (o f10o0) (q (o f10o1) R)), [.t 2], 13⟩
def f11o0 : List IOper := [
 mc 0 (v B)]
def f11o1 : List IOper := [
 c 23 34 [],
 m 22 23,
 e 24 22 0,
 e 25 22 1,
 e 26 22 2,
 nw 1 28 [U, U, I, I, N, N],
 nw 2 30 [N],
 sn 6 1 24,
 s 2 25,
 m 3 26]
def f11o2 : List IOper := [
 m 27 3,
 op 28 (.un .not (t 27))]
def f11o3 : List IOper := [
 mc 0 (v B)]
def f11o4 : List IOper := [
 bd 29 [B, I, U] [(1, 1, (i 50))],
 nw 4 32 [B, I, U],
 sn 3 4 29]
def f11o5 : List IOper := [
 la 31 6 1,
 la 32 1 2,
 la 33 3 4,
 c 34 14 [(t 31), (t 32), (t 33)],
 m 30 34,
 e 35 30 0,
 e 36 30 1,
 nw 5 28 [U, U, I, I, N, N],
 nw 6 38 [N, U, N, B, B],
 sn 6 5 35,
 sn 5 6 36]
def f11o6 : List IOper := [
 f 37 4 6,
 l 38 37,
 op 39 (.un .not (t 38)),
 m 40 39,
 g 40 false (f 41 3 6),
 g 40 false (l 42 41),
 op 43 (.pick (t 40) (v (.bool true)) (t 42)),
 m 44 43,
 g 44 false (f 45 5 5),
 g 44 false (l 46 45),
 g 44 false (n 47 5 46),
 g 44 false (b 48 .neq (t 47) (i 1)),
 op 49 (.pick (t 44) (v (.bool true)) (t 48)),
 m 50 49,
 g 50 false (f 51 2 5),
 g 50 false (l 52 51),
 g 50 false (b 53 .neq (t 52) (i 1)),
 op 54 (.pick (t 50) (v (.bool true)) (t 53))]
def f11o7 : List IOper := [
 mc 0 (v B)]
def f11o8 : List IOper := [
 la 56 6 5,
 f 57 0 6,
 la 58 1 57,
 c 59 15 [(t 56), (t 58), (i 1)],
 m 55 59,
 e 60 55 0,
 e 61 55 1,
 nw 7 28 [U, U, I, I, N, N],
 nw 8 38 [N, U, N, B, B],
 sn 6 7 60,
 sn 5 8 61]
def f11o9 : List IOper := [
 la 63 6 5,
 f 64 0 6,
 la 65 1 64,
 c 66 15 [(t 63), (t 65), (i 0)],
 m 62 66,
 e 67 62 0,
 e 68 62 1,
 nw 9 28 [U, U, I, I, N, N],
 nw 10 38 [N, U, N, B, B],
 sn 6 9 67,
 sn 5 10 68]
def f11o10 : List IOper := [
 f 70 0 10,
 la 71 1 70,
 c 72 29 [(t 71), (i 600), (i 4)],
 m 69 72,
 e 73 69 0,
 e 74 69 1,
 m 11 73,
 m 12 74]
def f11o11 : List IOper := [
 f 75 4 8,
 l 76 75,
 m 77 76,
 g 77 false (f 78 4 10),
 g 77 false (l 79 78),
 g 77 false (op 80 (.un .not (t 79))),
 op 81 (.pick (t 77) (v (.bool true)) (t 80)),
 m 82 81,
 g 82 false (f 83 3 10),
 g 82 false (l 84 83),
 g 82 false (op 85 (.un .not (t 84))),
 op 86 (.pick (t 82) (v (.bool true)) (t 85)),
 m 87 86,
 g 87 false (m 88 12),
 g 87 false (op 89 (.un .not (t 88))),
 op 90 (.pick (t 87) (v (.bool true)) (t 89)),
 m 91 90,
 g 91 false (m 92 11),
 g 91 false (b 93 .neq (t 92) (v (.str [97, 98, 99, 0]))),
 op 94 (.pick (t 91) (v (.bool true)) (t 93)),
 m 95 94,
 g 95 false (f 96 5 9),
 g 95 false (l 97 96),
 g 95 false (n 98 5 97),
 g 95 false (b 99 .neq (t 98) (i 0)),
 op 100 (.pick (t 95) (v (.bool true)) (t 99))]
def f11o12 : List IOper := [
 mc 0 (v B)]
def f11o13 : List IOper := [
 la 102 6 1,
 la 103 1 2,
 bs 104 1 [U] [(0, 1, (w 2))],
 c 105 27 [(t 103), (i 512), (t 104)],
 la 106 3 4,
 c 107 14 [(t 102), (t 105), (t 106)],
 m 101 107,
 e 108 101 0,
 e 109 101 1,
 nw 13 28 [U, U, I, I, N, N],
 nw 14 38 [N, U, N, B, B],
 sn 6 13 108,
 sn 5 14 109]
def f11o14 : List IOper := [
 f 111 0 14,
 la 112 1 111,
 c 113 35 [(t 112), (i 268), (i 4)],
 m 110 113,
 e 114 110 0,
 e 115 110 1,
 m 15 114,
 m 16 115]
def f11o15 : List IOper := [
 la 117 6 1,
 la 118 1 2,
 bs 119 1 [U] [(0, 1, (w 2))],
 c 120 27 [(t 118), (i 516), (t 119)],
 la 121 3 4,
 c 122 14 [(t 117), (t 120), (t 121)],
 m 116 122,
 e 123 116 0,
 e 124 116 1,
 nw 17 28 [U, U, I, I, N, N],
 nw 18 38 [N, U, N, B, B],
 sn 6 17 123,
 sn 5 18 124]
def f11o16 : List IOper := [
 la 126 6 17,
 la 127 1 2,
 bd 128 [B, I, U] [(0, 1, (v (.bool true))), (1, 1, (i 51))],
 c 129 14 [(t 126), (t 127), (t 128)],
 m 125 129,
 e 130 125 0,
 e 131 125 1,
 nw 19 38 [N, U, N, B, B],
 sn 6 17 130,
 sn 5 19 131]
def f11o17 : List IOper := [
 la 133 6 17,
 la 134 1 2,
 bd 135 [B, I, U] [(0, 1, (v (.bool true))), (1, 1, (i 51))],
 c 136 14 [(t 133), (t 134), (t 135)],
 m 132 136,
 e 137 132 0,
 e 138 132 1,
 nw 20 28 [U, U, I, I, N, N],
 nw 21 38 [N, U, N, B, B],
 sn 6 20 137,
 sn 5 21 138]
def f11o18 : List IOper := [
 f 139 3 13,
 l 140 139,
 b 141 .eql (t 140) (i 161),
 m 142 141,
 g 142 true (f 143 3 14),
 g 142 true (l 144 143),
 op 145 (.pick (t 142) (t 144) (v B)),
 m 146 145,
 g 146 true (m 147 16),
 op 148 (.pick (t 146) (t 147) (v B)),
 m 149 148,
 g 149 true (m 150 15),
 g 149 true (b 151 .eql (t 150) (w 5)),
 op 152 (.pick (t 149) (t 151) (v B)),
 m 153 152,
 g 153 true (f 154 1 19),
 g 153 true (l 155 154),
 g 153 true (b 156 .eql (t 155) (w 164)),
 op 157 (.pick (t 153) (t 156) (v B)),
 m 158 157,
 g 158 true (f 159 1 21),
 g 158 true (l 160 159),
 g 158 true (b 161 .eql (t 160) (w 0)),
 op 162 (.pick (t 158) (t 161) (v B)),
 m 163 162,
 g 163 true (f 164 4 21),
 g 163 true (l 165 164),
 op 166 (.pick (t 163) (t 165) (v B)),
 m 0 166]
def f11 : IFn := ⟨(q (o f11o0) (q (o f11o1) (q (q (o f11o2) (k 28 (q (o f11o3) R) K)) (q (o f11o4) (q (o f11o5) (q (q (o f11o6) (k 54 (q (o f11o7) R) K)) (q (o f11o8) (q (o f11o9) (q (o f11o10) (q (q (o f11o11) (k 100 (q (o f11o12) R) K)) (q (od f11o13) (q (o f11o14) (q (od f11o15) (q (o f11o16) (q (o f11o17) (q (o f11o18) R)))))))))))))))), [.t 0], 167⟩
def f12o0 : List IOper := [
 x 2 28 0,
 x 3 30 1,
 mc 4 (v B)]
def f12o1 : List IOper := [
 f 9 0 2,
 f 10 1 9,
 l 11 10,
 m 5 11]
def f12o2 : List IOper := [
 m 12 5,
 b 13 .eql (t 12) (w 1),
 m 14 13,
 g 14 false (m 15 5),
 g 14 false (b 16 .eql (t 15) (w 2)),
 op 17 (.pick (t 14) (v (.bool true)) (t 16)),
 m 18 17,
 g 18 false (m 19 5),
 g 18 false (b 20 .eql (t 19) (w 4)),
 op 21 (.pick (t 18) (v (.bool true)) (t 20)),
 m 22 21,
 g 22 false (m 23 5),
 g 22 false (b 24 .eql (t 23) (w 8)),
 op 25 (.pick (t 22) (v (.bool true)) (t 24)),
 m 6 25]
def f12o3 : List IOper := [
 f 26 2 2,
 l 27 26,
 b 28 .lss (t 27) (i 0),
 m 29 28,
 g 29 false (m 30 6),
 g 29 false (op 31 (.un .not (t 30))),
 g 29 false (m 32 31),
 g 32 true (f 33 2 2),
 g 32 true (l 34 33),
 g 32 true (b 35 .neq (t 34) (i 0)),
 g 29 false (op 36 (.pick (t 32) (t 35) (v B))),
 op 37 (.pick (t 29) (v (.bool true)) (t 36)),
 m 38 37,
 g 38 false (m 39 6),
 g 38 false (m 40 39),
 g 40 true (f 41 2 2),
 g 40 true (l 42 41),
 g 40 true (m 43 5),
 g 40 true (cv 44 .i64 43),
 g 40 true (b 45 .geq (t 42) (t 44)),
 g 38 false (op 46 (.pick (t 40) (t 45) (v B))),
 op 47 (.pick (t 38) (v (.bool true)) (t 46))]
def f12o4 : List IOper := [
 mc 4 (v B)]
def f12o5 : List IOper := [
 f 48 3 2,
 l 49 48,
 b 50 .neq (t 49) (i 0),
 m 51 50,
 g 51 true (f 52 3 2),
 g 51 true (l 53 52),
 g 51 true (b 54 .lss (t 53) (i 160)),
 g 51 true (m 55 54),
 g 55 false (f 56 3 2),
 g 55 false (l 57 56),
 g 55 false (b 58 .gtr (t 57) (i 165)),
 g 51 true (op 59 (.pick (t 55) (v (.bool true)) (t 58))),
 op 60 (.pick (t 51) (t 59) (v B)),
 m 61 60,
 g 61 false (f 62 4 2),
 g 61 false (l 63 62),
 g 61 false (n 64 128 63),
 g 61 false (b 65 .gtr (t 64) (i 64)),
 op 66 (.pick (t 61) (v (.bool true)) (t 65)),
 m 67 66,
 g 67 false (f 68 5 2),
 g 67 false (l 69 68),
 g 67 false (n 70 5 69),
 g 67 false (b 71 .gtr (t 70) (i 8)),
 op 72 (.pick (t 67) (v (.bool true)) (t 71))]
def f12o6 : List IOper := [
 mc 4 (v B)]
def f12o7 : List IOper := [
 mc 7 (i 0)]
def f12o8 : List IOper := [
 m 73 7,
 f 74 5 2,
 l 75 74,
 n 76 5 75,
 b 77 .lss (t 73) (t 76)]
def f12o9 : List IOper := [
 f 80 5 2,
 l 81 80,
 m 82 7,
 is 83 5 81 (t 82),
 la 84 5 83,
 la 85 1 3,
 f 86 4 2,
 l 87 86,
 n 88 128 87,
 c 89 36 [(t 84), (t 85), (t 88)],
 m 8 89]
def f12o10 : List IOper := [
 m 90 8,
 op 91 (.un .not (t 90))]
def f12o11 : List IOper := [
 mc 4 (v B)]
def f12o12 : List IOper := [
 m 78 7,
 b 79 .add (t 78) (i 1),
 m 7 79]
def f12l13 : IC := (q (q (o f12o8) (k 77 K (ex 0))) (q (bl 1 (q (od f12o9) (q (o f12o10) (k 91 (q (o f12o11) R) K)))) (o f12o12)))
def f12o14 : List IOper := [
 mc 4 (v (.bool true))]
def f12 : IFn := ⟨(q (o f12o0) (q (o f12o1) (q (o f12o2) (q (q (o f12o3) (k 47 (q (o f12o4) R) K)) (q (q (o f12o5) (k 72 (q (o f12o6) R) K)) (q (q (o f12o7) (bl 0 (lp f12l13))) (q (o f12o14) R))))))), [.t 4], 92⟩
def f13o0 : List IOper := [
 x 2 28 0,
 x 3 30 1,
 mc 4 (v B)]
def f13o1 : List IOper := [
 f 9 2 2,
 l 10 9,
 b 11 .eql (t 10) (i 0),
 m 12 11,
 g 12 false (f 13 2 2),
 g 12 false (l 14 13),
 g 12 false (b 15 .gtr (t 14) (i 0)),
 g 12 false (m 16 15),
 g 16 true (f 17 0 2),
 g 16 true (f 18 1 17),
 g 16 true (l 19 18),
 g 16 true (c 20 37 [(t 19)]),
 g 12 false (op 21 (.pick (t 16) (t 20) (v B))),
 g 12 false (m 22 21),
 g 22 true (f 23 2 2),
 g 22 true (l 24 23),
 g 22 true (f 25 0 2),
 g 22 true (f 26 1 25),
 g 22 true (l 27 26),
 g 22 true (cv 28 .i64 27),
 g 22 true (b 29 .lss (t 24) (t 28)),
 g 12 false (op 30 (.pick (t 22) (t 29) (v B))),
 op 31 (.pick (t 12) (v (.bool true)) (t 30)),
 m 5 31]
def f13o2 : List IOper := [
 f 32 3 2,
 l 33 32,
 b 34 .eql (t 33) (i 0),
 m 35 34,
 g 35 false (f 36 3 2),
 g 35 false (l 37 36),
 g 35 false (b 38 .geq (t 37) (i 160)),
 g 35 false (m 39 38),
 g 39 true (f 40 3 2),
 g 39 true (l 41 40),
 g 39 true (b 42 .leq (t 41) (i 165)),
 g 35 false (op 43 (.pick (t 39) (t 42) (v B))),
 op 44 (.pick (t 35) (v (.bool true)) (t 43)),
 m 6 44]
def f13o3 : List IOper := [
 m 45 5,
 op 46 (.un .not (t 45)),
 m 47 46,
 g 47 false (m 48 6),
 g 47 false (op 49 (.un .not (t 48))),
 op 50 (.pick (t 47) (v (.bool true)) (t 49)),
 m 51 50,
 g 51 false (f 52 4 2),
 g 51 false (l 53 52),
 g 51 false (n 54 128 53),
 g 51 false (b 55 .gtr (t 54) (i 64)),
 op 56 (.pick (t 51) (v (.bool true)) (t 55)),
 m 57 56,
 g 57 false (f 58 5 2),
 g 57 false (l 59 58),
 g 57 false (n 60 5 59),
 g 57 false (b 61 .gtr (t 60) (i 8)),
 op 62 (.pick (t 57) (v (.bool true)) (t 61))]
def f13o4 : List IOper := [
 mc 4 (v B)]
def f13o5 : List IOper := [
 f 63 5 2,
 l 64 63,
 n 65 5 64,
 mc 66 (i 0)]
def f13o6 : List IOper := [
 b 67 .lss (t 66) (t 65)]
def f13o7 : List IOper := [
 is 68 5 64 (t 66),
 la 69 5 68,
 nw 8 57 [U, U, I, B, N],
 sn 5 8 69]
def f13o8 : List IOper := [
 la 70 5 8,
 la 71 1 3,
 f 72 4 2,
 l 73 72,
 n 74 128 73,
 c 75 38 [(t 70), (t 71), (t 74)],
 op 76 (.un .not (t 75))]
def f13o9 : List IOper := [
 mc 4 (v B)]
def f13o10 : List IOper := [
 b 77 .add (t 66) (i 1),
 m 66 77]
def f13l11 : IC := (q (o f13o6) (q (k 67 K (ex 0)) (q (bl 1 (q (o f13o7) (q (o f13o8) (k 76 (q (o f13o9) R) K)))) (o f13o10))))
def f13o12 : List IOper := [
 mc 4 (v (.bool true))]
def f13 : IFn := ⟨(q (o f13o0) (q (o f13o1) (q (o f13o2) (q (q (o f13o3) (k 62 (q (o f13o4) R) K)) (q (q (o f13o5) (bl 0 (lp f13l11))) (q (o f13o12) R)))))), [.t 4], 78⟩
def f14o0 : List IOper := [
 x 3 28 0,
 x 4 30 1,
 x 5 32 2,
 nw 6 28 [U, U, I, I, N, N],
 nw 7 38 [N, U, N, B, B]]
def f14o1 : List IOper := [
 la 11 1 4,
 bd 12 [N, U, N, B, B] [(0, 1, (t 11))],
 la 13 6 3,
 bd 14 [N, U, N, B, B, U, U, I, I, N, N] [(0, 5, (t 12)), (5, 6, (t 13))],
 x 15 87 14,
 m 8 15]
def f14o2 : List IOper := [
 f 16 0 5,
 l 17 16]
def f14o3 : List IOper := [
 m 18 8,
 op 19 (.nchk (t 18)),
 f 20 0 19,
 f 21 4 20,
 op0 (.store 1 (t 21) (v (.bool true)))]
def f14o4 : List IOper := [
 f 22 1 5,
 l 23 22]
def f14o5 : List IOper := [
 b 29 .eql (t 23) (i 48),
 m 28 29]
def f14o6 : List IOper := [
 m 30 8,
 f 31 0 3,
 f 32 0 31,
 l 33 32,
 op 34 (.nchk (t 30)),
 f 35 0 34,
 f 36 1 35,
 s 36 33]
def f14o7 : List IOper := [
 b 38 .eql (t 23) (i 49),
 m 37 38]
def f14o8 : List IOper := [
 m 39 8,
 f 40 0 3,
 f 41 1 40,
 l 42 41,
 op 43 (.nchk (t 39)),
 f 44 0 43,
 f 45 1 44,
 s 45 42]
def f14o9 : List IOper := [
 b 47 .eql (t 23) (i 51),
 m 46 47]
def f14o10 : List IOper := [
 m 48 8,
 m 49 8,
 f 50 3 3,
 l 51 50,
 cv 52 .u32 51,
 op 53 (.nchk (t 48)),
 f 54 0 53,
 f 55 1 54,
 s 55 52,
 op 56 (.nchk (t 49)),
 f 57 5 56,
 f 58 3 57,
 op0 (.store 1 (t 58) (i 0))]
def f14o11 : List IOper := [
 m 24 8,
 op 25 (.nchk (t 24)),
 f 26 0 25,
 f 27 4 26,
 op0 (.store 1 (t 27) (v B))]
def f14o12 : List IOper := [
 m 59 8,
 op 60 (.nchk (t 59)),
 f 61 5 60,
 la 62 6 61,
 m 63 8,
 op 64 (.nchk (t 63)),
 f 65 0 64,
 la 66 5 65,
 sn 6 6 62,
 sn 5 7 66]
def f14o13 : List IOper := [
 op 68 (.mkm),
 m 69 8,
 op 70 (.mkf 39 [(t 69)] []),
 op0 (.mupd 0 (t 68) (i 48) (t 70)),
 m 71 8,
 op 72 (.mkf 40 [(t 71)] []),
 op0 (.mupd 0 (t 68) (i 49) (t 72)),
 m 73 8,
 op 74 (.mkf 41 [(t 73)] []),
 op0 (.mupd 0 (t 68) (i 50) (t 74)),
 m 75 68,
 f 76 1 5,
 l 77 76,
 op 78 (.mget 0 true .nilfn (t 75) (t 77)),
 m 67 78,
 e 79 67 0,
 e 80 67 1,
 m 9 79,
 m 10 80]
def f14o14 : List IOper := [
 m 81 10]
def f14o15 : List IOper := [
 m 82 8,
 op 83 (.nchk (t 82)),
 f 84 0 83,
 f 85 4 84,
 op0 (.store 1 (t 85) (v (.bool true)))]
def f14o16 : List IOper := [
 m 86 9,
 f 87 2 5,
 l 88 87,
 op 89 (.callv (t 86) [(t 88)])]
def f14o17 : List IOper := [
 m 90 8,
 op 91 (.nchk (t 90)),
 f 92 5 91,
 la 93 6 92,
 m 94 8,
 op 95 (.nchk (t 94)),
 f 96 0 95,
 la 97 5 96,
 sn 6 6 93,
 sn 5 7 97]
def f14 : IFn := ⟨(q (o f14o0) (q (o f14o1) (q (q (o f14o2) (k 17 (q (q (o f14o3) (q (o f14o4) (bl 0 (q (o f14o5) (k 28 (o f14o6) (q (o f14o7) (k 37 (o f14o8) (q (o f14o9) (k 46 (o f14o10) (o f14o11)))))))))) (q (.opsX f14o12 [(65, 6)]) R)) K)) (q (o f14o13) (q (q (o f14o14) (k 81 (q (o f14o15) (o f14o16)) K)) (q (.opsX f14o17 [(96, 6)]) R)))))), [.cell 6 6 true, .cell 7 5 true], 98⟩
def f15o0 : List IOper := [
 x 3 28 0,
 x 4 30 1,
 nw 6 28 [U, U, I, I, N, N],
 nw 7 38 [N, U, N, B, B]]
def f15o1 : List IOper := [
 m 10 2,
 b 11 .lss (t 10) (i 0),
 m 12 11,
 g 12 false (m 13 2),
 g 12 false (f 14 5 3),
 g 12 false (l 15 14),
 g 12 false (n 16 5 15),
 g 12 false (b 17 .geq (t 13) (t 16)),
 op 18 (.pick (t 12) (v (.bool true)) (t 17))]
def f15o2 : List IOper := [
 la 19 6 3,
 la 20 1 4,
 bd 21 [N, U, N, B, B] [(0, 1, (t 20))],
 sn 6 6 19,
 sn 5 7 21]
def f15o3 : List IOper := [
 f 22 5 3,
 l 23 22,
 m 24 2,
 is 25 5 23 (t 24),
 la 26 5 25,
 nw 8 57 [U, U, I, B, N],
 sn 5 8 26]
def f15o4 : List IOper := [
 f 27 4 8,
 l 28 27,
 op 29 (.slL 4 (t 28) (some (i 1)) none none),
 m 9 29]
def f15o5 : List IOper := [
 f 30 3 8,
 l 31 30]
def f15o6 : List IOper := [
 f 32 4 3,
 l 33 32,
 op 34 (.appo 128 128 (v N) (t 33)),
 f 35 4 3,
 s 35 34]
def f15o7 : List IOper := [
 f 36 4 3,
 l 37 36,
 f 38 2 8,
 l 39 38,
 is 40 128 37 (t 39),
 op 41 (.slA 128 1 (t 40) none none none),
 la 42 1 4,
 m 43 9,
 c 44 42 [(t 42), (t 43)],
 op 45 (.cpy 1 (t 41) (t 44))]
def f15o8 : List IOper := [
 la 47 1 4,
 m 48 9,
 f 49 4 3,
 l 50 49,
 f 51 2 8,
 l 52 51,
 is 53 128 50 (t 52),
 m 54 9,
 c 55 44 [(t 54)],
 op 56 (.slA 128 1 (t 53) none (some (t 55)) none),
 op 57 (.b2s (t 56)),
 c 58 43 [(t 47), (t 48), (t 57)],
 m 46 58,
 e 59 46 0,
 e 60 46 1,
 s 4 59]
def f15o9 : List IOper := [
 f 61 5 3,
 l 62 61,
 m 63 2,
 m 64 2,
 op 65 (.slL 5 (t 62) none (some (t 63)) (some (t 64))),
 f 66 5 3,
 l 67 66,
 m 68 2,
 b 69 .add (t 68) (i 1),
 op 70 (.slL 5 (t 67) (some (t 69)) none none),
 ap 71 5 48 65 70,
 f 72 5 3,
 s 72 71]
def f15o10 : List IOper := [
 la 73 6 3,
 la 74 1 4,
 f 75 0 8,
 la 76 2 75,
 f 77 4 8,
 l 78 77,
 c 79 45 [(t 74), (t 76), (t 78)],
 bd 80 [N, U, N, B, B] [(0, 1, (t 79)), (3, 1, (v (.bool true))), (4, 1, (v (.bool true)))],
 sn 6 6 73,
 sn 5 7 80]
def f15 : IFn := ⟨(q (o f15o0) (q (q (o f15o1) (k 18 (q (.opsX f15o2 [(4, 6)]) R) K)) (q (o f15o3) (q (o f15o4) (q (q (o f15o5) (k 31 (q (o f15o6) (od f15o7)) (od f15o8))) (q (od f15o9) (q (od f15o10) R))))))), [.cell 6 6 true, .cell 7 5 true], 81⟩
def f16o0 : List IOper := [
 x 3 28 0,
 x 4 30 1,
 x 5 32 2,
 nw 6 43 [U, U, I, I, N, N, N, U, N, B, B]]
def f16o1 : List IOper := [
 la 8 6 3,
 la 9 1 4,
 bd 10 [N, U, N, B, B] [(0, 1, (t 9)), (4, 1, (v (.bool true)))],
 bd 11 [U, U, I, I, N, N, N, U, N, B, B] [(0, 6, (t 8)), (6, 5, (t 10))],
 nw 7 43 [U, U, I, I, N, N, N, U, N, B, B],
 sn 11 7 11]
def f16o2 : List IOper := [
 f 15 0 5,
 l 16 15,
 m 17 16,
 g 17 true (f 18 1 5),
 g 17 true (l 19 18),
 g 17 true (b 20 .eql (t 19) (i 48)),
 op 21 (.pick (t 17) (t 20) (v B)),
 m 14 21]
def f16o3 : List IOper := [
 f 22 0 3,
 f 23 0 22,
 l 24 23,
 f 25 6 7,
 f 26 1 25,
 s 26 24]
def f16o4 : List IOper := [
 f 28 0 5,
 l 29 28,
 m 30 29,
 g 30 true (f 31 1 5),
 g 30 true (l 32 31),
 g 30 true (b 33 .eql (t 32) (i 49)),
 op 34 (.pick (t 30) (t 33) (v B)),
 m 27 34]
def f16o5 : List IOper := [
 f 35 0 3,
 f 36 1 35,
 l 37 36,
 f 38 6 7,
 f 39 1 38,
 s 39 37]
def f16o6 : List IOper := [
 f 41 0 5,
 l 42 41,
 m 43 42,
 g 43 true (f 44 1 5),
 g 43 true (l 45 44),
 g 43 true (b 46 .eql (t 45) (i 51)),
 op 47 (.pick (t 43) (t 46) (v B)),
 m 40 47]
def f16o7 : List IOper := [
 f 48 3 3,
 l 49 48,
 cv 50 .u32 49,
 f 51 6 7,
 f 52 1 51,
 s 52 50]
def f16o8 : List IOper := [
 f 53 0 7,
 f 54 3 53,
 op0 (.store 1 (t 54) (i 0))]
def f16o9 : List IOper := [
 f 56 0 5,
 l 57 56,
 op 58 (.un .not (t 57)),
 m 59 58,
 g 59 true (f 60 1 5),
 g 59 true (l 61 60),
 g 59 true (b 62 .eql (t 61) (i 48)),
 op 63 (.pick (t 59) (t 62) (v B)),
 m 55 63]
def f16o10 : List IOper := [
 f 64 2 5,
 l 65 64,
 f 66 0 7,
 f 67 0 66,
 f 68 0 67,
 s 68 65]
def f16o11 : List IOper := [
 f 69 0 7,
 f 70 2 69,
 op0 (.store 1 (t 70) (i 0))]
def f16o12 : List IOper := [
 f 72 0 5,
 l 73 72,
 op 74 (.un .not (t 73)),
 m 75 74,
 g 75 true (f 76 1 5),
 g 75 true (l 77 76),
 g 75 true (b 78 .eql (t 77) (i 49)),
 op 79 (.pick (t 75) (t 78) (v B)),
 m 71 79]
def f16o13 : List IOper := [
 f 80 2 5,
 l 81 80,
 f 82 0 7,
 f 83 0 82,
 f 84 1 83,
 s 84 81]
def f16o14 : List IOper := [
 f 85 0 7,
 f 86 2 85,
 op0 (.store 1 (t 86) (i 0))]
def f16o15 : List IOper := [
 f 88 0 5,
 l 89 88,
 op 90 (.un .not (t 89)),
 m 91 90,
 g 91 true (f 92 1 5),
 g 91 true (l 93 92),
 g 91 true (b 94 .eql (t 93) (i 50)),
 op 95 (.pick (t 91) (t 94) (v B)),
 m 87 95]
def f16o16 : List IOper := [
 la 96 11 7,
 c 97 46 [(t 96)],
 sn 11 6 97]
def f16o17 : List IOper := [
 f 12 6 7,
 f 13 4 12,
 op0 (.store 1 (t 13) (v B))]
def f16o18 : List IOper := [
 la 98 11 7,
 sn 11 6 98]
def f16 : IFn := ⟨(q (o f16o0) (q (o f16o1) (q (bl 0 (q (o f16o2) (k 14 (o f16o3) (q (o f16o4) (k 27 (o f16o5) (q (o f16o6) (k 40 (q (o f16o7) (o f16o8)) (q (o f16o9) (k 55 (q (o f16o10) (o f16o11)) (q (o f16o12) (k 71 (q (o f16o13) (o f16o14)) (q (o f16o15) (k 87 (q (o f16o16) R) (o f16o17)))))))))))))) (q (o f16o18) R)))), [.cell 6 11 true], 99⟩
def f17o0 : List IOper := [
 x 3 28 0,
 x 4 30 1,
 nw 6 43 [U, U, I, I, N, N, N, U, N, B, B]]
def f17o1 : List IOper := [
 m 14 2,
 b 15 .lss (t 14) (i 0),
 m 16 15,
 g 16 false (m 17 2),
 g 16 false (f 18 5 3),
 g 16 false (l 19 18),
 g 16 false (n 20 5 19),
 g 16 false (b 21 .geq (t 17) (t 20)),
 op 22 (.pick (t 16) (v (.bool true)) (t 21))]
def f17o2 : List IOper := [
 la 23 6 3,
 la 24 1 4,
 bd 25 [N, U, N, B, B] [(0, 1, (t 24))],
 bd 26 [U, U, I, I, N, N, N, U, N, B, B] [(0, 6, (t 23)), (6, 5, (t 25))],
 sn 11 6 26]
def f17o3 : List IOper := [
 f 27 5 3,
 l 28 27,
 m 29 2,
 is 30 5 28 (t 29),
 la 31 5 30,
 nw 7 57 [U, U, I, B, N],
 sn 5 7 31]
def f17o4 : List IOper := [
 f 32 4 7,
 l 33 32,
 op 34 (.slL 4 (t 33) (some (i 1)) none none),
 m 8 34]
def f17o5 : List IOper := [
 la 35 6 3,
 nw 9 28 [U, U, I, I, N, N],
 sn 6 9 35]
def f17o6 : List IOper := [
 f 36 3 7,
 l 37 36]
def f17o7 : List IOper := [
 la 38 1 4,
 m 39 8,
 c 40 47 [(t 38), (t 39)],
 m 10 40]
def f17o8 : List IOper := [
 bs 41 128 [] [],
 f 42 4 3,
 l 43 42,
 op 44 (.appo 128 128 (t 41) (t 43)),
 f 45 4 9,
 s 45 44]
def f17o9 : List IOper := [
 mc 11 (i 0)]
def f17o10 : List IOper := [
 m 46 11,
 m 47 10,
 ns 48 47,
 b 49 .lss (t 46) (t 48)]
def f17o11 : List IOper := [
 f 52 4 9,
 l 53 52,
 f 54 2 7,
 l 55 54,
 m 56 11,
 m 57 10,
 m 58 11,
 op 59 (.ixS (t 57) (t 58)),
 is 60 128 53 (t 55),
 ia 61 128 1 60 (t 56),
 s 61 59]
def f17o12 : List IOper := [
 m 50 11,
 b 51 .add (t 50) (i 1),
 m 11 51]
def f17l13 : IC := (q (q (o f17o10) (k 49 K (ex 0))) (q (bl 1 (od f17o11)) (o f17o12)))
def f17o14 : List IOper := [
 mc 12 (v N)]
def f17o15 : List IOper := [
 mc 13 (i 0)]
def f17o16 : List IOper := [
 m 62 13,
 m 63 8,
 c 64 48 [(t 63)],
 b 65 .lss (t 62) (t 64)]
def f17o17 : List IOper := [
 m 68 12,
 f 69 4 3,
 l 70 69,
 f 71 2 7,
 l 72 71,
 m 73 13,
 is 74 128 70 (t 72),
 ia 75 128 1 74 (t 73),
 l 76 75,
 bs 77 1 [Y] [(0, 1, (t 76))],
 ap 78 1 1 68 77,
 m 12 78]
def f17o18 : List IOper := [
 m 66 13,
 b 67 .add (t 66) (i 1),
 m 13 67]
def f17l19 : IC := (q (q (o f17o16) (k 65 K (ex 2))) (q (bl 3 (o f17o17)) (o f17o18)))
def f17o20 : List IOper := [
 la 79 1 4,
 m 80 8,
 m 81 12,
 op 82 (.b2s (t 81)),
 c 83 49 [(t 79), (t 80), (t 82)],
 fd 84 0 1 true 83,
 s 4 84]
def f17o21 : List IOper := [
 bs 85 5 [] [],
 f 86 5 3,
 l 87 86,
 m 88 2,
 op 89 (.slL 5 (t 87) none (some (t 88)) none),
 ap 90 5 48 85 89,
 f 91 5 3,
 l 92 91,
 m 93 2,
 b 94 .add (t 93) (i 1),
 op 95 (.slL 5 (t 92) (some (t 94)) none none),
 ap 96 5 48 90 95,
 f 97 5 9,
 s 97 96]
def f17o22 : List IOper := [
 la 98 6 9,
 la 99 1 4,
 f 100 0 7,
 la 101 2 100,
 f 102 4 7,
 l 103 102,
 c 104 50 [(t 99), (t 101), (t 103)],
 bd 105 [N, U, N, B, B] [(0, 1, (t 104)), (3, 1, (v (.bool true))), (4, 1, (v (.bool true)))],
 bd 106 [U, U, I, I, N, N, N, U, N, B, B] [(0, 6, (t 98)), (6, 5, (t 105))],
 sn 11 6 106]
def f17 : IFn := ⟨(q (o f17o0) (q (q (o f17o1) (k 22 (q (o f17o2) R) K)) (q (o f17o3) (q (o f17o4) (q (o f17o5) (q (q (o f17o6) (k 37 (q (o f17o7) (q (o f17o8) (q (o f17o9) (bl 0 (lp f17l13))))) (q (o f17o14) (q (q (o f17o15) (bl 2 (lp f17l19))) (o f17o20))))) (q (od f17o21) (q (od f17o22) R)))))))), [.cell 6 11 true], 107⟩
def f18o0 : List IOper := [
 x 2 28 0,
 x 3 28 1,
 mc 4 (v B)]
def f18o1 : List IOper := [
 la 5 6 2,
 c 6 33 [(t 5)],
 op 7 (.b2s (t 6)),
 la 8 6 3,
 c 9 33 [(t 8)],
 op 10 (.b2s (t 9)),
 b 11 .eql (t 7) (t 10),
 m 4 11]
def f18 : IFn := ⟨(q (o f18o0) (q (od f18o1) R)), [.t 4], 12⟩
def f19o0 : List IOper := [
 x 2 38 0,
 x 3 38 1,
 mc 4 (v B)]
def f19o1 : List IOper := [
 f 6 0 2,
 la 7 1 6,
 f 8 0 3,
 la 9 1 8,
 c 10 25 [(t 7), (t 9)],
 m 5 10]
def f19o2 : List IOper := [
 m 11 5,
 m 12 11,
 g 12 true (f 13 1 2),
 g 12 true (l 14 13),
 g 12 true (f 15 1 3),
 g 12 true (l 16 15),
 g 12 true (b 17 .eql (t 14) (t 16)),
 op 18 (.pick (t 12) (t 17) (v B)),
 m 19 18,
 g 19 true (f 20 2 2),
 g 19 true (l 21 20),
 g 19 true (n 22 1 21),
 g 19 true (f 23 2 3),
 g 19 true (l 24 23),
 g 19 true (n 25 1 24),
 g 19 true (b 26 .eql (t 22) (t 25)),
 op 27 (.pick (t 19) (t 26) (v B)),
 m 28 27,
 g 28 true (f 29 3 2),
 g 28 true (l 30 29),
 g 28 true (f 31 3 3),
 g 28 true (l 32 31),
 g 28 true (op 33 (.eq false 1 (t 30) (t 32))),
 op 34 (.pick (t 28) (t 33) (v B)),
 m 35 34,
 g 35 true (f 36 4 2),
 g 35 true (l 37 36),
 g 35 true (f 38 4 3),
 g 35 true (l 39 38),
 g 35 true (op 40 (.eq false 1 (t 37) (t 39))),
 op 41 (.pick (t 35) (t 40) (v B)),
 m 4 41]
def f19 : IFn := ⟨(q (o f19o0) (q (o f19o1) (q (o f19o2) R))), [.t 4], 42⟩
def f20o0 : List IOper := [
 x 2 28 0,
 x 3 30 1,
 mc 4 (v B)]
def f20o1 : List IOper := [
 la 5 6 2,
 la 6 1 3,
 c 7 9 [(t 5), (t 6)],
 m 8 7,
 g 8 true (la 9 1 3),
 g 8 true (c 10 10 [(t 9)]),
 op 11 (.pick (t 8) (t 10) (v B)),
 m 12 11,
 g 12 true (la 13 6 2),
 g 12 true (la 14 1 3),
 g 12 true (c 15 12 [(t 13), (t 14)]),
 op 16 (.pick (t 12) (t 15) (v B)),
 m 4 16]
def f20 : IFn := ⟨(q (o f20o0) (q (o f20o1) R)), [.t 4], 17⟩
def f21o0 : List IOper := [
 nw 2 28 [U, U, I, I, N, N],
 mc 3 (i 0)]
def f21o1 : List IOper := [
 m 4 0,
 n 5 128 4,
 b 6 .gtr (t 5) (i 64)]
def f21o2 : List IOper := [
 bd 7 [U, U, I, I, N, N] [],
 sn 6 2 7,
 mc 3 (i 2)]
def f21o3 : List IOper := [
 m 8 0,
 op 9 (.app 128 128 (v N) (t 8)),
 bd 10 [U, U, I, I, N, N] [(4, 1, (t 9))],
 sn 6 2 10,
 mc 3 (i 0)]
def f21 : IFn := ⟨(q (o f21o0) (q (q (o f21o1) (k 6 (q (o f21o2) R) K)) (q (o f21o3) R))), [.cell 2 6 true, .t 3], 11⟩
def f22o0 : List IOper := [
 x 4 30 0,
 x 5 30 1,
 x 6 24 2,
 mc 8 (v B)]
def f22o1 : List IOper := [
 f 11 0 4,
 l 12 11,
 n 13 128 12,
 f 14 0 5,
 l 15 14,
 n 16 128 15,
 b 17 .neq (t 13) (t 16)]
def f22o2 : List IOper := [
 mc 8 (v B)]
def f22o3 : List IOper := [
 mc 9 (i 0)]
def f22o4 : List IOper := [
 m 18 9,
 f 19 0 4,
 l 20 19,
 n 21 128 20,
 b 22 .lss (t 18) (t 21)]
def f22o5 : List IOper := [
 mc 10 (i 0)]
def f22o6 : List IOper := [
 m 25 10,
 b 26 .lss (t 25) (i 128)]
def f22o7 : List IOper := [
 f 29 0 4,
 l 30 29,
 m 31 9,
 m 32 10,
 is 33 128 30 (t 31),
 ia 34 128 1 33 (t 32),
 l 35 34,
 f 36 0 5,
 l 37 36,
 m 38 9,
 m 39 10,
 is 40 128 37 (t 38),
 ia 41 128 1 40 (t 39),
 l 42 41,
 b 43 .neq (t 35) (t 42),
 m 44 43,
 g 44 true (m 45 9),
 g 44 true (b 46 .mul (i 128) (t 45)),
 g 44 true (m 47 10),
 g 44 true (b 48 .add (t 46) (t 47)),
 g 44 true (la 49 2 6),
 g 44 true (m 50 3),
 g 44 true (c 51 51 [(t 48), (t 49), (t 50)]),
 g 44 true (op 52 (.un .not (t 51))),
 op 53 (.pick (t 44) (t 52) (v B))]
def f22o8 : List IOper := [
 mc 8 (v B)]
def f22o9 : List IOper := [
 m 27 10,
 b 28 .add (t 27) (i 1),
 m 10 28]
def f22l10 : IC := (q (q (o f22o6) (k 26 K (ex 2))) (q (bl 3 (q (od f22o7) (k 53 (q (o f22o8) R) K))) (o f22o9)))
def f22o11 : List IOper := [
 m 23 9,
 b 24 .add (t 23) (i 1),
 m 9 24]
def f22l12 : IC := (q (q (o f22o4) (k 22 K (ex 0))) (q (bl 1 (q (o f22o5) (bl 2 (lp f22l10)))) (o f22o11)))
def f22o13 : List IOper := [
 mc 8 (v (.bool true))]
def f22 : IFn := ⟨(q (o f22o0) (q (q (o f22o1) (k 17 (q (o f22o2) R) K)) (q (q (o f22o3) (bl 0 (lp f22l12))) (q (o f22o13) R)))), [.t 8], 54⟩
def f23o0 : List IOper := [
 x 2 30 0,
 x 3 24 1,
 mc 4 (i 0)]
def f23o1 : List IOper := [
 f 5 1 3,
 l 6 5,
 b 7 .neq (t 6) (w 1),
 m 8 7,
 g 8 true (f 9 1 3),
 g 8 true (l 10 9),
 g 8 true (b 11 .neq (t 10) (w 2)),
 op 12 (.pick (t 8) (t 11) (v B)),
 m 13 12,
 g 13 true (f 14 1 3),
 g 13 true (l 15 14),
 g 13 true (b 16 .neq (t 15) (w 4)),
 op 17 (.pick (t 13) (t 16) (v B)),
 m 18 17,
 g 18 true (f 19 1 3),
 g 18 true (l 20 19),
 g 18 true (b 21 .neq (t 20) (w 8)),
 op 22 (.pick (t 18) (t 21) (v B)),
 m 23 22,
 g 23 false (f 24 0 3),
 g 23 false (l 25 24),
 g 23 false (b 26 .rem (t 25) (w 16)),
 g 23 false (b 27 .neq (t 26) (w 0)),
 op 28 (.pick (t 23) (v (.bool true)) (t 27)),
 m 29 28,
 g 29 false (f 30 0 3),
 g 29 false (l 31 30),
 g 29 false (cv 32 .i64 31),
 g 29 false (f 33 1 3),
 g 29 false (l 34 33),
 g 29 false (cv 35 .i64 34),
 g 29 false (b 36 .mul (i 16) (t 35)),
 g 29 false (b 37 .add (t 32) (t 36)),
 g 29 false (la 38 1 2),
 g 29 false (c 39 52 [(t 38)]),
 g 29 false (b 40 .gtr (t 37) (t 39)),
 op 41 (.pick (t 29) (v (.bool true)) (t 40))]
def f23o2 : List IOper := [
 mc 4 (i 160)]
def f23o3 : List IOper := [
 mc 4 (i 0)]
def f23 : IFn := ⟨(q (o f23o0) (q (q (od f23o1) (k 41 (q (o f23o2) R) K)) (q (o f23o3) R))), [.t 4], 42⟩
def f24o0 : List IOper := [
 x 2 57 0,
 x 3 57 1,
 mc 4 (v B)]
def f24o1 : List IOper := [
 f 14 2 2,
 l 15 14,
 f 16 2 3,
 l 17 16,
 b 18 .eql (t 15) (t 17)]
def f24o2 : List IOper := [
 mc 4 (v B)]
def f24o3 : List IOper := [
 f 19 0 2,
 f 20 0 19,
 l 21 20,
 cv 22 .i64 21,
 f 23 0 2,
 f 24 1 23,
 l 25 24,
 cv 26 .i64 25,
 b 27 .mul (i 16) (t 26),
 bd 28 [I, I, I, B] [(1, 1, (t 22)), (2, 1, (t 27))],
 bs 29 4 [I, I, I, B] [(0, 4, (t 28))],
 m 5 29]
def f24o4 : List IOper := [
 mc 6 (i 0)]
def f24o5 : List IOper := [
 m 30 6,
 f 31 4 2,
 l 32 31,
 n 33 4 32,
 b 34 .lss (t 30) (t 33)]
def f24o6 : List IOper := [
 m 37 5,
 f 38 4 2,
 l 39 38,
 m 40 6,
 is 41 4 39 (t 40),
 la 42 4 41,
 bs 43 4 [I, I, I, B] [(0, 4, (t 42))],
 ap 44 4 32 37 43,
 m 5 44]
def f24o7 : List IOper := [
 m 35 6,
 b 36 .add (t 35) (i 1),
 m 6 36]
def f24l8 : IC := (q (q (o f24o5) (k 34 K (ex 0))) (q (bl 1 (o f24o6)) (o f24o7)))
def f24o9 : List IOper := [
 m 45 5,
 n 46 4 45,
 m 7 46]
def f24o10 : List IOper := [
 mc 8 (i 0)]
def f24o11 : List IOper := [
 m 47 8,
 f 48 4 3,
 l 49 48,
 n 50 4 49,
 b 51 .lss (t 47) (t 50)]
def f24o12 : List IOper := [
 m 54 5,
 f 55 4 3,
 l 56 55,
 m 57 8,
 is 58 4 56 (t 57),
 la 59 4 58,
 bs 60 4 [I, I, I, B] [(0, 4, (t 59))],
 ap 61 4 32 54 60,
 m 5 61]
def f24o13 : List IOper := [
 m 52 8,
 b 53 .add (t 52) (i 1),
 m 8 53]
def f24l14 : IC := (q (q (o f24o11) (k 51 K (ex 2))) (q (bl 3 (o f24o12)) (o f24o13)))
def f24o15 : List IOper := [
 f 62 0 3,
 la 63 2 62,
 f 64 0 2,
 la 65 2 64,
 op 66 (.eqA true [0, 0] (t 63) (t 65))]
def f24o16 : List IOper := [
 mc 4 (v B)]
def f24o17 : List IOper := [
 mc 9 (i 0)]
def f24o18 : List IOper := [
 m 67 9,
 m 68 5,
 n 69 4 68,
 b 70 .lss (t 67) (t 69)]
def f24o19 : List IOper := [
 mc 10 (i 0)]
def f24o20 : List IOper := [
 m 73 10,
 m 74 9,
 b 75 .lss (t 73) (t 74)]
def f24o21 : List IOper := [
 m 78 5,
 m 79 9,
 is 80 4 78 (t 79),
 f 81 1 80,
 l 82 81,
 m 83 5,
 m 84 10,
 is 85 4 83 (t 84),
 f 86 1 85,
 l 87 86,
 m 88 5,
 m 89 10,
 is 90 4 88 (t 89),
 f 91 2 90,
 l 92 91,
 b 93 .add (t 87) (t 92),
 b 94 .lss (t 82) (t 93),
 m 95 94,
 g 95 true (m 96 5),
 g 95 true (m 97 10),
 g 95 true (is 98 4 96 (t 97)),
 g 95 true (f 99 1 98),
 g 95 true (l 100 99),
 g 95 true (m 101 5),
 g 95 true (m 102 9),
 g 95 true (is 103 4 101 (t 102)),
 g 95 true (f 104 1 103),
 g 95 true (l 105 104),
 g 95 true (m 106 5),
 g 95 true (m 107 9),
 g 95 true (is 108 4 106 (t 107)),
 g 95 true (f 109 2 108),
 g 95 true (l 110 109),
 g 95 true (b 111 .add (t 105) (t 110)),
 g 95 true (b 112 .lss (t 100) (t 111)),
 op 113 (.pick (t 95) (t 112) (v B)),
 m 11 113]
def f24o22 : List IOper := [
 m 114 11,
 m 115 114,
 g 115 true (m 116 9),
 g 115 true (m 117 7),
 g 115 true (b 118 .geq (t 116) (t 117)),
 g 115 true (m 119 118),
 g 119 true (m 120 10),
 g 119 true (m 121 7),
 g 119 true (b 122 .lss (t 120) (t 121)),
 g 115 true (op 123 (.pick (t 119) (t 122) (v B))),
 g 115 true (m 124 123),
 g 124 false (m 125 10),
 g 124 false (b 126 .eql (t 125) (i 0)),
 g 115 true (op 127 (.pick (t 124) (v (.bool true)) (t 126))),
 op 128 (.pick (t 115) (t 127) (v B))]
def f24o23 : List IOper := [
 mc 4 (v B)]
def f24o24 : List IOper := [
 m 76 10,
 b 77 .add (t 76) (i 1),
 m 10 77]
def f24l25 : IC := (q (q (o f24o20) (k 75 K (ex 6))) (q (bl 7 (q (od f24o21) (q (o f24o22) (k 128 (q (o f24o23) R) K)))) (o f24o24)))
def f24o26 : List IOper := [
 m 71 9,
 b 72 .add (t 71) (i 1),
 m 9 72]
def f24l27 : IC := (q (q (o f24o18) (k 70 K (ex 4))) (q (bl 5 (q (o f24o19) (bl 6 (lp f24l25)))) (o f24o26)))
def f24o28 : List IOper := [
 mc 12 (i 1)]
def f24o29 : List IOper := [
 m 129 12,
 m 130 7,
 b 131 .lss (t 129) (t 130)]
def f24o30 : List IOper := [
 m 134 7,
 m 13 134]
def f24o31 : List IOper := [
 m 135 13,
 m 136 5,
 n 137 4 136,
 b 138 .lss (t 135) (t 137)]
def f24o32 : List IOper := [
 m 141 5,
 m 142 12,
 is 143 4 141 (t 142),
 f 144 0 143,
 l 145 144,
 m 146 5,
 m 147 13,
 is 148 4 146 (t 147),
 f 149 0 148,
 l 150 149,
 b 151 .eql (t 145) (t 150)]
def f24o33 : List IOper := [
 mc 4 (v B)]
def f24o34 : List IOper := [
 m 139 13,
 b 140 .add (t 139) (i 1),
 m 13 140]
def f24l35 : IC := (q (q (o f24o31) (k 138 K (ex 10))) (q (bl 11 (q (od f24o32) (k 151 (q (o f24o33) R) K))) (o f24o34)))
def f24o36 : List IOper := [
 m 132 12,
 b 133 .add (t 132) (i 1),
 m 12 133]
def f24l37 : IC := (q (q (o f24o29) (k 131 K (ex 8))) (q (bl 9 (q (o f24o30) (bl 10 (lp f24l35)))) (o f24o36)))
def f24o38 : List IOper := [
 mc 4 (v (.bool true))]
def f24 : IFn := ⟨(q (o f24o0) (q (q (o f24o1) (k 18 (q (o f24o2) R) K)) (q (o f24o3) (q (q (o f24o4) (bl 0 (lp f24l8))) (q (o f24o9) (q (q (o f24o10) (bl 2 (lp f24l14))) (q (q (o f24o15) (k 66 (q (o f24o16) R) K)) (q (q (o f24o17) (bl 4 (lp f24l27))) (q (q (o f24o28) (bl 8 (lp f24l37))) (q (o f24o38) R)))))))))), [.t 4], 152⟩
def f25o0 : List IOper := [
 x 2 30 0,
 x 3 30 1,
 mc 4 (v B)]
def f25o1 : List IOper := [
 la 5 1 2,
 la 6 1 3,
 c 7 53 [(t 5), (t 6)],
 n 8 1 7,
 b 9 .eql (t 8) (i 0),
 m 4 9]
def f25 : IFn := ⟨(q (o f25o0) (q (o f25o1) R)), [.t 4], 10⟩
def f26o0 : List IOper := [
 nw 2 30 [N],
 mc 3 (i 0)]
def f26o1 : List IOper := [
 m 4 0,
 b 5 .lss (t 4) (i 1),
 m 6 5,
 g 6 false (m 7 0),
 g 6 false (b 8 .gtr (t 7) (i 64)),
 op 9 (.pick (t 6) (v (.bool true)) (t 8))]
def f26o2 : List IOper := [
 bd 10 [N] [],
 s 2 10,
 mc 3 (i 1)]
def f26o3 : List IOper := [
 m 11 0,
 op 12 (.mks false 128 128 (List.replicate 128 Y) (t 11) (t 11)),
 bd 13 [N] [(0, 1, (t 12))],
 s 2 13,
 mc 3 (i 0)]
def f26 : IFn := ⟨(q (o f26o0) (q (q (o f26o1) (k 9 (q (o f26o2) R) K)) (q (o f26o3) R))), [.cell 2 1 true, .t 3], 14⟩
def f27o0 : List IOper := [
 x 3 30 0,
 nw 6 30 [N]]
def f27o1 : List IOper := [
 mc 7 (i 0)]
def f27o2 : List IOper := [
 m 8 7,
 m 9 2,
 n 10 1 9,
 b 11 .lss (t 8) (t 10)]
def f27o3 : List IOper := [
 la 15 1 3,
 m 16 1,
 m 17 7,
 b 18 .mul (i 4) (t 17),
 b 19 .add (t 16) (t 18),
 m 20 2,
 m 21 7,
 is 22 1 20 (t 21),
 l 23 22,
 bd 24 [I, I, U] [(0, 1, (t 19)), (1, 1, (i 4)), (2, 1, (t 23))],
 c 25 54 [(t 15), (t 24)],
 m 14 25,
 e 26 14 0,
 e 27 14 1,
 s 3 26]
def f27o4 : List IOper := [
 m 12 7,
 b 13 .add (t 12) (i 1),
 m 7 13]
def f27l5 : IC := (q (q (o f27o2) (k 11 K (ex 0))) (q (bl 1 (od f27o3)) (o f27o4)))
def f27o6 : List IOper := [
 la 28 1 3,
 s 6 28]
def f27 : IFn := ⟨(q (o f27o0) (q (q (o f27o1) (bl 0 (lp f27l5))) (q (o f27o6) R))), [.cell 6 1 true], 29⟩
def f28o0 : List IOper := [
 x 3 30 0,
 nw 6 30 [N],
 mc 7 (v B)]
def f28o1 : List IOper := [
 m 9 1,
 b 10 .lss (t 9) (i 0),
 m 11 10,
 g 11 false (m 12 1),
 g 11 false (la 13 1 3),
 g 11 false (c 14 55 [(t 13)]),
 g 11 false (b 15 .gtr (t 12) (t 14)),
 op 16 (.pick (t 11) (v (.bool true)) (t 15)),
 m 17 16,
 g 17 false (m 18 2),
 g 17 false (ns 19 18),
 g 17 false (la 20 1 3),
 g 17 false (c 21 55 [(t 20)]),
 g 17 false (m 22 1),
 g 17 false (b 23 .sub (t 21) (t 22)),
 g 17 false (b 24 .gtr (t 19) (t 23)),
 op 25 (.pick (t 17) (v (.bool true)) (t 24))]
def f28o2 : List IOper := [
 la 26 1 3,
 s 6 26,
 mc 7 (v B)]
def f28o3 : List IOper := [
 f 27 0 3,
 l 28 27,
 op 29 (.callp 2 56 [(t 28)]),
 bd 30 [N] [(0, 1, (t 29))],
 nw 8 111 [N],
 s 8 30]
def f28o4 : List IOper := [
 la 31 1 8,
 m 32 1,
 m 33 2,
 op 34 (.s2b (t 33)),
 op 35 (.calls 57 [(t 31), (t 32), (t 34)])]
def f28o5 : List IOper := [
 f 36 0 8,
 l 37 36,
 bd 38 [N] [(0, 1, (t 37))],
 s 6 38,
 mc 7 (v (.bool true))]
def f28 : IFn := ⟨(q (o f28o0) (q (q (o f28o1) (k 25 (q (o f28o2) R) K)) (q (o f28o3) (q (o f28o4) (q (o f28o5) R))))), [.cell 6 1 true, .t 7], 39⟩
def f29o0 : List IOper := [
 x 3 30 0,
 mc 6 (v E),
 mc 7 (v B)]
def f29o1 : List IOper := [
 m 12 1,
 b 13 .lss (t 12) (i 0),
 m 14 13,
 g 14 false (m 15 2),
 g 14 false (b 16 .lss (t 15) (i 0)),
 op 17 (.pick (t 14) (v (.bool true)) (t 16)),
 m 18 17,
 g 18 false (m 19 1),
 g 18 false (la 20 1 3),
 g 18 false (c 21 55 [(t 20)]),
 g 18 false (b 22 .gtr (t 19) (t 21)),
 op 23 (.pick (t 18) (v (.bool true)) (t 22)),
 m 24 23,
 g 24 false (m 25 2),
 g 24 false (la 26 1 3),
 g 24 false (c 27 55 [(t 26)]),
 g 24 false (m 28 1),
 g 24 false (b 29 .sub (t 27) (t 28)),
 g 24 false (b 30 .gtr (t 25) (t 29)),
 op 31 (.pick (t 24) (v (.bool true)) (t 30))]
def f29o2 : List IOper := [
 mc 6 (v E),
 mc 7 (v B)]
def f29o3 : List IOper := [
 m 32 2,
 op 33 (.mks false 1 1 [Y] (i 0) (t 32)),
 m 8 33]
def f29o4 : List IOper := [
 m 34 8,
 n 35 1 34,
 m 36 2,
 b 37 .lss (t 35) (t 36)]
def f29o5 : List IOper := [
 m 38 1,
 m 39 8,
 n 40 1 39,
 b 41 .add (t 38) (t 40),
 m 9 41]
def f29o6 : List IOper := [
 f 42 0 3,
 l 43 42,
 m 44 9,
 b 45 .quo (t 44) (i 128),
 is 46 128 43 (t 45),
 la 47 128 46,
 nw 10 59 (List.replicate 128 Y),
 sn 128 10 47]
def f29o7 : List IOper := [
 m 48 9,
 b 49 .rem (t 48) (i 128),
 op 50 (.slA 128 1 (t 10) (some (t 49)) none none),
 m 11 50]
def f29o8 : List IOper := [
 m 51 8,
 m 52 11,
 m 53 11,
 n 54 1 53,
 m 55 2,
 m 56 8,
 n 57 1 56,
 b 58 .sub (t 55) (t 57),
 op 59 (.mn false [(t 54), (t 58)]),
 op 60 (.slL 1 (t 52) none (some (t 59)) none),
 ap 61 1 1 51 60,
 m 8 61]
def f29l9 : IC := (q (q (o f29o4) (k 37 K (ex 0))) (bl 1 (q (o f29o5) (q (o f29o6) (q (o f29o7) (o f29o8))))))
def f29o10 : List IOper := [
 m 62 8,
 op 63 (.b2s (t 62)),
 m 6 63,
 mc 7 (v (.bool true))]
def f29 : IFn := ⟨(q (o f29o0) (q (q (o f29o1) (k 31 (q (o f29o2) R) K)) (q (o f29o3) (q (bl 0 (lp f29l9)) (q (o f29o10) R))))), [.t 6, .t 7], 64⟩
def f30o0 : List IOper := [
 nw 2 28 [U, U, I, I, N, N],
 mc 3 (i 0)]
def f30o1 : List IOper := [
 m 12 0,
 c 13 58 [(t 12)],
 m 11 13,
 e 14 11 0,
 e 15 11 1,
 e 16 11 2,
 m 4 14,
 m 5 15,
 m 6 16]
def f30o2 : List IOper := [
 m 17 6,
 b 18 .neq (t 17) (i 0)]
def f30o3 : List IOper := [
 bd 19 [U, U, I, I, N, N] [],
 sn 6 2 19,
 mc 3 (i 11)]
def f30o4 : List IOper := [
 m 20 4,
 bd 21 [N, B] [(0, 1, (t 20))],
 x 22 117 21,
 m 7 22]
def f30o5 : List IOper := [
 m 23 7,
 op 24 (.calls 59 [(t 23)]),
 m 25 7,
 op 26 (.calls 60 [(t 25), (i 8)]),
 m 27 7,
 op 28 (.calls 60 [(t 27), (i 165)]),
 bd 29 [U, U, I, I, N, N] [(0, 2, (t 24)), (2, 1, (t 26)), (3, 1, (t 28))],
 nw 8 28 [U, U, I, I, N, N],
 sn 6 8 29]
def f30o6 : List IOper := [
 m 30 7,
 op 31 (.calls 60 [(t 30), (i 64)]),
 m 32 7,
 op 33 (.calls 60 [(t 32), (i 8)]),
 m 9 31,
 m 10 33]
def f30o7 : List IOper := [
 m 34 10,
 mc 35 (i 0)]
def f30o8 : List IOper := [
 b 36 .lss (t 35) (t 34)]
def f30o9 : List IOper := [
 f 37 5 8,
 l 38 37,
 m 39 7,
 op 40 (.calls 61 [(t 39)]),
 bs 41 5 [U, U, I, B, N] [(0, 5, (t 40))],
 ap 42 5 48 38 41,
 f 43 5 8,
 s 43 42]
def f30o10 : List IOper := [
 b 44 .add (t 35) (i 1),
 m 35 44]
def f30l11 : IC := (q (o f30o8) (q (k 36 K (ex 0)) (q (bl 1 (.opsC f30o9 [] [(3, 37)])) (o f30o10))))
def f30o12 : List IOper := [
 m 45 7,
 op 46 (.nchk (t 45)),
 f 47 1 46,
 l 48 47,
 m 49 48,
 g 49 false (m 50 7),
 g 49 false (op 51 (.nchk (t 50))),
 g 49 false (f 52 0 51),
 g 49 false (l 53 52),
 g 49 false (n 54 1 53),
 g 49 false (b 55 .gtr (t 54) (i 0)),
 op 56 (.pick (t 49) (v (.bool true)) (t 55)),
 m 57 56,
 g 57 false (m 58 0),
 g 57 false (n 59 1 58),
 g 57 false (m 60 5),
 g 57 false (m 61 9),
 g 57 false (b 62 .mul (t 61) (i 128)),
 g 57 false (b 63 .add (t 60) (t 62)),
 g 57 false (b 64 .neq (t 59) (t 63)),
 op 65 (.pick (t 57) (v (.bool true)) (t 64))]
def f30o13 : List IOper := [
 bd 66 [U, U, I, I, N, N] [],
 sn 6 2 66,
 mc 3 (i 11)]
def f30o14 : List IOper := [
 m 67 9,
 mc 68 (i 0)]
def f30o15 : List IOper := [
 b 69 .lss (t 68) (t 67)]
def f30o16 : List IOper := [
 f 70 4 8,
 l 71 70,
 m 72 0,
 m 73 5,
 m 74 5,
 b 75 .add (t 74) (i 128),
 op 76 (.slL 1 (t 72) (some (t 73)) (some (t 75)) none),
 op 77 (.s2a 128 1 (t 76)),
 la 78 128 77,
 bs 79 128 (List.replicate 128 Y) [(0, 128, (t 78))],
 ap 80 128 128 71 79,
 f 81 4 8,
 s 81 80]
def f30o17 : List IOper := [
 m 82 5,
 b 83 .add (t 82) (i 128),
 m 5 83]
def f30o18 : List IOper := [
 b 84 .add (t 68) (i 1),
 m 68 84]
def f30l19 : IC := (q (o f30o15) (q (k 69 K (ex 2)) (q (bl 3 (q (od f30o16) (o f30o17))) (o f30o18))))
def f30o20 : List IOper := [
 la 85 6 8,
 op 86 (.mks false 128 128 (List.replicate 128 Y) (i 64) (i 64)),
 bd 87 [N] [(0, 1, (t 86))],
 c 88 13 [(t 85), (t 87)],
 op 89 (.un .not (t 88))]
def f30o21 : List IOper := [
 bd 90 [U, U, I, I, N, N] [],
 sn 6 2 90,
 mc 3 (i 11)]
def f30o22 : List IOper := [
 la 91 6 8,
 sn 6 2 91,
 mc 3 (i 0)]
def f30 : IFn := ⟨(q (o f30o0) (q (o f30o1) (q (q (o f30o2) (k 18 (q (o f30o3) R) K)) (q (o f30o4) (q (o f30o5) (q (o f30o6) (q (q (o f30o7) (bl 0 (lp f30l11))) (q (q (o f30o12) (k 65 (q (o f30o13) R) K)) (q (q (o f30o14) (bl 2 (lp f30l19))) (q (q (od f30o20) (k 89 (q (o f30o21) R) K)) (q (o f30o22) R))))))))))), [.cell 2 6 true, .t 3], 92⟩
def f31o0 : List IOper := [
 nw 2 75 [U, U, I, I, N, N, I]]
def f31o1 : List IOper := [
 bd 19 [U, U, I, I, N, N, I] [(6, 1, (i 11))],
 nw 3 75 [U, U, I, I, N, N, I],
 sn 7 3 19]
def f31o2 : List IOper := [
 m 21 0,
 c 22 62 [(t 21)],
 m 20 22,
 e 23 20 0,
 e 24 20 1,
 e 25 20 2,
 m 4 23,
 m 5 24,
 m 6 25]
def f31o3 : List IOper := [
 m 26 6,
 b 27 .neq (t 26) (i 0),
 m 28 27,
 g 28 false (m 29 4),
 g 28 false (n 30 1 29),
 g 28 false (b 31 .lss (t 30) (i 6)),
 op 32 (.pick (t 28) (v (.bool true)) (t 31))]
def f31o4 : List IOper := [
 la 33 7 3,
 sn 7 2 33]
def f31o5 : List IOper := [
 mc 7 (i 0)]
def f31o6 : List IOper := [
 m 34 7,
 m 35 4,
 n 36 1 35,
 b 37 .lss (t 34) (t 36)]
def f31o7 : List IOper := [
 m 40 4,
 m 41 7,
 is 42 1 40 (t 41),
 l 43 42,
 b 44 .lss (t 43) (i 0),
 m 45 44,
 g 45 false (m 46 4),
 g 45 false (m 47 7),
 g 45 false (is 48 1 46 (t 47)),
 g 45 false (l 49 48),
 g 45 false (b 50 .gtr (t 49) (i 4294967295)),
 op 51 (.pick (t 45) (v (.bool true)) (t 50))]
def f31o8 : List IOper := [
 la 52 7 3,
 sn 7 2 52]
def f31o9 : List IOper := [
 m 38 7,
 b 39 .add (t 38) (i 1),
 m 7 39]
def f31l10 : IC := (q (q (o f31o6) (k 37 K (ex 0))) (q (bl 1 (q (o f31o7) (k 51 (q (o f31o8) R) K))) (o f31o9)))
def f31o11 : List IOper := [
 m 53 4,
 is 54 1 53 (i 0),
 l 55 54,
 cv 56 .u32 55,
 m 57 4,
 is 58 1 57 (i 1),
 l 59 58,
 cv 60 .u32 59,
 bd 61 [U, U] [(0, 1, (t 56)), (1, 1, (t 60))],
 m 62 4,
 is 63 1 62 (i 2),
 l 64 63,
 m 65 4,
 is 66 1 65 (i 3),
 l 67 66,
 bd 68 [U, U, I, I, N, N] [(0, 2, (t 61)), (2, 1, (t 64)), (3, 1, (t 67))],
 nw 8 28 [U, U, I, I, N, N],
 sn 6 8 68]
def f31o12 : List IOper := [
 m 69 4,
 is 70 1 69 (i 4),
 l 71 70,
 m 9 71]
def f31o13 : List IOper := [
 m 72 4,
 is 73 1 72 (i 5),
 l 74 73,
 m 10 74]
def f31o14 : List IOper := [
 m 75 4,
 op 76 (.slL 1 (t 75) (some (i 6)) none none),
 m 4 76]
def f31o15 : List IOper := [
 mc 11 (i 0)]
def f31o16 : List IOper := [
 m 77 11,
 m 78 10,
 b 79 .lss (t 77) (t 78)]
def f31o17 : List IOper := [
 m 82 4,
 n 83 1 82,
 b 84 .lss (t 83) (i 5),
 m 85 84,
 g 85 false (m 86 4),
 g 85 false (is 87 1 86 (i 3)),
 g 85 false (l 88 87),
 g 85 false (b 89 .gtr (t 88) (i 1)),
 op 90 (.pick (t 85) (v (.bool true)) (t 89)),
 m 91 90,
 g 91 false (m 92 4),
 g 91 false (n 93 1 92),
 g 91 false (m 94 4),
 g 91 false (is 95 1 94 (i 4)),
 g 91 false (l 96 95),
 g 91 false (b 97 .mul (i 4) (t 96)),
 g 91 false (b 98 .add (i 5) (t 97)),
 g 91 false (b 99 .lss (t 93) (t 98)),
 op 100 (.pick (t 91) (v (.bool true)) (t 99))]
def f31o18 : List IOper := [
 la 101 7 3,
 sn 7 2 101]
def f31o19 : List IOper := [
 m 102 4,
 is 103 1 102 (i 0),
 l 104 103,
 cv 105 .u32 104,
 m 106 4,
 is 107 1 106 (i 1),
 l 108 107,
 cv 109 .u32 108,
 bd 110 [U, U] [(0, 1, (t 105)), (1, 1, (t 109))],
 m 111 4,
 is 112 1 111 (i 2),
 l 113 112,
 m 114 4,
 is 115 1 114 (i 3),
 l 116 115,
 b 117 .eql (t 116) (i 1),
 bd 118 [U, U, I, B, N] [(0, 2, (t 110)), (2, 1, (t 113)), (3, 1, (t 117))],
 nw 12 57 [U, U, I, B, N],
 sn 5 12 118]
def f31o20 : List IOper := [
 m 119 4,
 is 120 1 119 (i 4),
 l 121 120,
 m 13 121]
def f31o21 : List IOper := [
 m 122 4,
 op 123 (.slL 1 (t 122) (some (i 5)) none none),
 m 4 123]
def f31o22 : List IOper := [
 mc 14 (i 0)]
def f31o23 : List IOper := [
 m 124 14,
 m 125 13,
 b 126 .lss (t 124) (t 125)]
def f31o24 : List IOper := [
 m 129 4,
 is 130 1 129 (i 3),
 l 131 130,
 b 132 .gtr (t 131) (i 1)]
def f31o25 : List IOper := [
 la 133 7 3,
 sn 7 2 133]
def f31o26 : List IOper := [
 f 134 4 12,
 l 135 134,
 m 136 4,
 is 137 1 136 (i 0),
 l 138 137,
 m 139 4,
 is 140 1 139 (i 1),
 l 141 140,
 m 142 4,
 is 143 1 142 (i 2),
 l 144 143,
 m 145 4,
 is 146 1 145 (i 3),
 l 147 146,
 b 148 .eql (t 147) (i 1),
 bd 149 [I, I, I, B] [(0, 1, (t 138)), (1, 1, (t 141)), (2, 1, (t 144)), (3, 1, (t 148))],
 bs 150 4 [I, I, I, B] [(0, 4, (t 149))],
 ap 151 4 32 135 150,
 f 152 4 12,
 s 152 151]
def f31o27 : List IOper := [
 m 153 4,
 op 154 (.slL 1 (t 153) (some (i 4)) none none),
 m 4 154]
def f31o28 : List IOper := [
 m 127 14,
 b 128 .add (t 127) (i 1),
 m 14 128]
def f31l29 : IC := (q (q (o f31o23) (k 126 K (ex 4))) (q (bl 5 (q (q (o f31o24) (k 132 (q (o f31o25) R) K)) (q (od f31o26) (o f31o27)))) (o f31o28)))
def f31o30 : List IOper := [
 f 155 5 8,
 l 156 155,
 la 157 5 12,
 bs 158 5 [U, U, I, B, N] [(0, 5, (t 157))],
 ap 159 5 48 156 158,
 f 160 5 8,
 s 160 159]
def f31o31 : List IOper := [
 m 80 11,
 b 81 .add (t 80) (i 1),
 m 11 81]
def f31l32 : IC := (q (q (o f31o16) (k 79 K (ex 2))) (q (bl 3 (q (q (o f31o17) (k 100 (q (o f31o18) R) K)) (q (od f31o19) (q (o f31o20) (q (o f31o21) (q (q (o f31o22) (bl 4 (lp f31l29))) (o f31o30))))))) (o f31o31)))
def f31o33 : List IOper := [
 m 161 4,
 n 162 1 161,
 b 163 .gtr (t 162) (i 0),
 m 164 163,
 g 164 false (m 165 9),
 g 164 false (b 166 .gtr (t 165) (i 64)),
 op 167 (.pick (t 164) (v (.bool true)) (t 166)),
 m 168 167,
 g 168 false (m 169 0),
 g 168 false (n 170 1 169),
 g 168 false (m 171 5),
 g 168 false (m 172 9),
 g 168 false (b 173 .mul (i 128) (t 172)),
 g 168 false (b 174 .add (t 171) (t 173)),
 g 168 false (b 175 .neq (t 170) (t 174)),
 op 176 (.pick (t 168) (v (.bool true)) (t 175))]
def f31o34 : List IOper := [
 la 177 7 3,
 sn 7 2 177]
def f31o35 : List IOper := [
 mc 15 (i 0)]
def f31o36 : List IOper := [
 m 178 15,
 m 179 9,
 b 180 .lss (t 178) (t 179)]
def f31o37 : List IOper := [
 bd 183 (List.replicate 128 Y) [],
 nw 16 59 (List.replicate 128 Y),
 sn 128 16 183]
def f31o38 : List IOper := [
 mc 17 (i 0)]
def f31o39 : List IOper := [
 m 184 17,
 b 185 .lss (t 184) (i 128)]
def f31o40 : List IOper := [
 m 188 17,
 m 189 0,
 m 190 5,
 m 191 15,
 b 192 .mul (i 128) (t 191),
 b 193 .add (t 190) (t 192),
 m 194 17,
 b 195 .add (t 193) (t 194),
 is 196 1 189 (t 195),
 l 197 196,
 ia 198 128 1 16 (t 188),
 s 198 197]
def f31o41 : List IOper := [
 m 186 17,
 b 187 .add (t 186) (i 1),
 m 17 187]
def f31l42 : IC := (q (q (o f31o39) (k 185 K (ex 8))) (q (bl 9 (o f31o40)) (o f31o41)))
def f31o43 : List IOper := [
 f 199 4 8,
 l 200 199,
 la 201 128 16,
 bs 202 128 (List.replicate 128 Y) [(0, 128, (t 201))],
 ap 203 128 128 200 202,
 f 204 4 8,
 s 204 203]
def f31o44 : List IOper := [
 m 181 15,
 b 182 .add (t 181) (i 1),
 m 15 182]
def f31l45 : IC := (q (q (o f31o36) (k 180 K (ex 6))) (q (bl 7 (q (o f31o37) (q (q (o f31o38) (bl 8 (lp f31l42))) (o f31o43)))) (o f31o44)))
def f31o46 : List IOper := [
 la 205 6 8,
 op 206 (.mks false 128 128 (List.replicate 128 Y) (i 64) (i 64)),
 bd 207 [N] [(0, 1, (t 206))],
 c 208 12 [(t 205), (t 207)],
 m 18 208]
def f31o47 : List IOper := [
 m 209 18,
 op 210 (.un .not (t 209))]
def f31o48 : List IOper := [
 la 211 7 3,
 sn 7 2 211]
def f31o49 : List IOper := [
 la 212 6 8,
 bd 213 [U, U, I, I, N, N, I] [(0, 6, (t 212))],
 sn 7 2 213]
def f31 : IFn := ⟨(q (o f31o0) (q (o f31o1) (q (o f31o2) (q (q (o f31o3) (k 32 (q (o f31o4) R) K)) (q (q (o f31o5) (bl 0 (lp f31l10))) (q (od f31o11) (q (o f31o12) (q (o f31o13) (q (o f31o14) (q (q (o f31o15) (bl 2 (lp f31l32))) (q (q (o f31o33) (k 176 (q (o f31o34) R) K)) (q (q (o f31o35) (bl 6 (lp f31l45))) (q (od f31o46) (q (q (o f31o47) (k 210 (q (o f31o48) R) K)) (q (o f31o49) R))))))))))))))), [.cell 2 7 true], 214⟩
def f32o0 : List IOper := [
 x 1 28 0,
 mc 2 (v N)]
def f32o1 : List IOper := [
 f 11 0 1,
 f 12 0 11,
 l 13 12,
 cv 14 .i64 13,
 f 15 0 1,
 f 16 1 15,
 l 17 16,
 cv 18 .i64 17,
 f 19 2 1,
 l 20 19,
 f 21 3 1,
 l 22 21,
 f 23 4 1,
 l 24 23,
 n 25 128 24,
 f 26 5 1,
 l 27 26,
 n 28 5 27,
 bs 29 1 [I, I, I, I, I, I] [(0, 1, (t 14)), (1, 1, (t 18)), (2, 1, (t 20)), (3, 1, (t 22)), (4, 1, (t 25)), (5, 1, (t 28))],
 m 3 29]
def f32o2 : List IOper := [
 f 30 5 1,
 l 31 30,
 n 32 5 31,
 mc 33 (i 0)]
def f32o3 : List IOper := [
 b 34 .lss (t 33) (t 32)]
def f32o4 : List IOper := [
 is 35 5 31 (t 33),
 la 36 5 35,
 nw 5 57 [U, U, I, B, N],
 sn 5 5 36]
def f32o5 : List IOper := [
 m 37 3,
 f 38 0 5,
 f 39 0 38,
 l 40 39,
 cv 41 .i64 40,
 f 42 0 5,
 f 43 1 42,
 l 44 43,
 cv 45 .i64 44,
 f 46 2 5,
 l 47 46,
 f 48 3 5,
 l 49 48,
 c 50 63 [(t 49)],
 f 51 4 5,
 l 52 51,
 n 53 4 52,
 bs 54 1 [I, I, I, I, I] [(0, 1, (t 41)), (1, 1, (t 45)), (2, 1, (t 47)), (3, 1, (t 50)), (4, 1, (t 53))],
 ap 55 1 8 37 54,
 m 3 55]
def f32o6 : List IOper := [
 f 56 4 5,
 l 57 56,
 n 58 4 57,
 mc 59 (i 0)]
def f32o7 : List IOper := [
 b 60 .lss (t 59) (t 58)]
def f32o8 : List IOper := [
 is 61 4 57 (t 59),
 la 62 4 61,
 nw 7 103 [I, I, I, B],
 sn 4 7 62]
def f32o9 : List IOper := [
 m 63 3,
 f 64 0 7,
 l 65 64,
 f 66 1 7,
 l 67 66,
 f 68 2 7,
 l 69 68,
 f 70 3 7,
 l 71 70,
 c 72 63 [(t 71)],
 bs 73 1 [I, I, I, I] [(0, 1, (t 65)), (1, 1, (t 67)), (2, 1, (t 69)), (3, 1, (t 72))],
 ap 74 1 8 63 73,
 m 3 74]
def f32o10 : List IOper := [
 b 75 .add (t 59) (i 1),
 m 59 75]
def f32l11 : IC := (q (o f32o7) (q (k 60 K (ex 2)) (q (bl 3 (q (o f32o8) (od f32o9))) (o f32o10))))
def f32o12 : List IOper := [
 b 76 .add (t 33) (i 1),
 m 33 76]
def f32l13 : IC := (q (o f32o3) (q (k 34 K (ex 0)) (q (bl 1 (q (o f32o4) (q (od f32o5) (q (o f32o6) (bl 2 (lp f32l11)))))) (o f32o12))))
def f32o14 : List IOper := [
 m 77 3,
 op 78 (.callp 1 64 [(t 77)]),
 m 8 78]
def f32o15 : List IOper := [
 f 79 4 1,
 l 80 79,
 n 81 128 80,
 mc 82 (i 0)]
def f32o16 : List IOper := [
 b 83 .lss (t 82) (t 81)]
def f32o17 : List IOper := [
 is 84 128 80 (t 82),
 la 85 128 84,
 nw 10 59 (List.replicate 128 Y),
 sn 128 10 85]
def f32o18 : List IOper := [
 m 86 8,
 op 87 (.slA 128 1 (t 10) none none none),
 ap 88 1 1 86 87,
 m 8 88]
def f32o19 : List IOper := [
 b 89 .add (t 82) (i 1),
 m 82 89]
def f32l20 : IC := (q (o f32o16) (q (k 83 K (ex 4)) (q (bl 5 (q (o f32o17) (o f32o18))) (o f32o19))))
def f32o21 : List IOper := [
 m 90 8,
 m 2 90]
def f32 : IFn := ⟨(q (o f32o0) (q (o f32o1) (q (q (o f32o2) (bl 0 (lp f32l13))) (q (o f32o14) (q (q (o f32o15) (bl 4 (lp f32l20))) (q (o f32o21) R)))))), [.t 2], 91⟩
def f33o0 : List IOper := [
 x 1 28 0,
 mc 2 (v N)]
def f33o1 : List IOper := [
 f 10 0 1,
 f 11 0 10,
 l 12 11,
 cv 13 .i64 12,
 f 14 0 1,
 f 15 1 14,
 l 16 15,
 cv 17 .i64 16,
 f 18 2 1,
 l 19 18,
 f 20 3 1,
 l 21 20,
 f 22 4 1,
 l 23 22,
 n 24 128 23,
 f 25 5 1,
 l 26 25,
 n 27 5 26,
 bs 28 1 [I, I, I, I, I, I] [(0, 1, (t 13)), (1, 1, (t 17)), (2, 1, (t 19)), (3, 1, (t 21)), (4, 1, (t 24)), (5, 1, (t 27))],
 m 3 28]
def f33o2 : List IOper := [
 mc 4 (i 0)]
def f33o3 : List IOper := [
 m 29 4,
 f 30 5 1,
 l 31 30,
 n 32 5 31,
 b 33 .lss (t 29) (t 32)]
def f33o4 : List IOper := [
 f 36 5 1,
 l 37 36,
 m 38 4,
 is 39 5 37 (t 38),
 la 40 5 39,
 nw 5 57 [U, U, I, B, N],
 sn 5 5 40]
def f33o5 : List IOper := [
 m 41 3,
 f 42 0 5,
 f 43 0 42,
 l 44 43,
 cv 45 .i64 44,
 f 46 0 5,
 f 47 1 46,
 l 48 47,
 cv 49 .i64 48,
 f 50 2 5,
 l 51 50,
 f 52 3 5,
 l 53 52,
 c 54 65 [(t 53)],
 f 55 4 5,
 l 56 55,
 n 57 4 56,
 bs 58 1 [I, I, I, I, I] [(0, 1, (t 45)), (1, 1, (t 49)), (2, 1, (t 51)), (3, 1, (t 54)), (4, 1, (t 57))],
 ap 59 1 8 41 58,
 m 3 59]
def f33o6 : List IOper := [
 mc 6 (i 0)]
def f33o7 : List IOper := [
 m 60 6,
 f 61 4 5,
 l 62 61,
 n 63 4 62,
 b 64 .lss (t 60) (t 63)]
def f33o8 : List IOper := [
 m 67 3,
 f 68 4 5,
 l 69 68,
 m 70 6,
 is 71 4 69 (t 70),
 f 72 0 71,
 l 73 72,
 f 74 4 5,
 l 75 74,
 m 76 6,
 is 77 4 75 (t 76),
 f 78 1 77,
 l 79 78,
 f 80 4 5,
 l 81 80,
 m 82 6,
 is 83 4 81 (t 82),
 f 84 2 83,
 l 85 84,
 f 86 4 5,
 l 87 86,
 m 88 6,
 is 89 4 87 (t 88),
 f 90 3 89,
 l 91 90,
 c 92 65 [(t 91)],
 bs 93 1 [I, I, I, I] [(0, 1, (t 73)), (1, 1, (t 79)), (2, 1, (t 85)), (3, 1, (t 92))],
 ap 94 1 8 67 93,
 m 3 94]
def f33o9 : List IOper := [
 m 65 6,
 b 66 .add (t 65) (i 1),
 m 6 66]
def f33l10 : IC := (q (q (o f33o7) (k 64 K (ex 2))) (q (bl 3 (od f33o8)) (o f33o9)))
def f33o11 : List IOper := [
 m 34 4,
 b 35 .add (t 34) (i 1),
 m 4 35]
def f33l12 : IC := (q (q (o f33o3) (k 33 K (ex 0))) (q (bl 1 (q (o f33o4) (q (od f33o5) (q (o f33o6) (bl 2 (lp f33l10)))))) (o f33o11)))
def f33o13 : List IOper := [
 m 95 3,
 op 96 (.callp 1 66 [(t 95)]),
 m 7 96]
def f33o14 : List IOper := [
 mc 8 (i 0)]
def f33o15 : List IOper := [
 m 97 8,
 f 98 4 1,
 l 99 98,
 n 100 128 99,
 b 101 .lss (t 97) (t 100)]
def f33o16 : List IOper := [
 mc 9 (i 0)]
def f33o17 : List IOper := [
 m 104 9,
 b 105 .lss (t 104) (i 128)]
def f33o18 : List IOper := [
 m 108 7,
 f 109 4 1,
 l 110 109,
 m 111 8,
 m 112 9,
 is 113 128 110 (t 111),
 ia 114 128 1 113 (t 112),
 l 115 114,
 bs 116 1 [Y] [(0, 1, (t 115))],
 ap 117 1 1 108 116,
 m 7 117]
def f33o19 : List IOper := [
 m 106 9,
 b 107 .add (t 106) (i 1),
 m 9 107]
def f33l20 : IC := (q (q (o f33o17) (k 105 K (ex 6))) (q (bl 7 (o f33o18)) (o f33o19)))
def f33o21 : List IOper := [
 m 102 8,
 b 103 .add (t 102) (i 1),
 m 8 103]
def f33l22 : IC := (q (q (o f33o15) (k 101 K (ex 4))) (q (bl 5 (q (o f33o16) (bl 6 (lp f33l20)))) (o f33o21)))
def f33o23 : List IOper := [
 m 118 7,
 m 2 118]
def f33 : IFn := ⟨(q (o f33o0) (q (o f33o1) (q (q (o f33o2) (bl 0 (lp f33l12))) (q (o f33o13) (q (q (o f33o14) (bl 4 (lp f33l22))) (q (o f33o23) R)))))), [.t 2], 119⟩
def f34o0 : List IOper := [
 nw 0 28 [U, U, I, I, N, N],
 nw 1 30 [N],
 mc 2 (v B)]
def f34o1 : List IOper := [
 c 10 26 [(i 8)],
 m 9 10,
 e 11 9 0,
 e 12 9 1,
 nw 3 30 [N],
 s 3 11,
 m 4 12]
def f34o2 : List IOper := [
 bd 14 (List.replicate 128 Y) [],
 bd 15 (List.replicate 128 Y) [(0, 1, (y 97)), (1, 1, (y 98)), (2, 1, (y 99)), (3, 1, (y 100))],
 bs 16 128 (List.replicate 256 Y) [(0, 128, (t 14)), (128, 128, (t 15))],
 c 17 21 [(t 16)],
 m 13 17,
 e 18 13 0,
 e 19 13 1,
 nw 5 28 [U, U, I, I, N, N],
 sn 6 5 18,
 m 6 19]
def f34o3 : List IOper := [
 m 20 4,
 b 21 .neq (t 20) (i 0),
 m 22 21,
 g 22 false (m 23 6),
 g 22 false (b 24 .neq (t 23) (i 0)),
 op 25 (.pick (t 22) (v (.bool true)) (t 24))]
def f34o4 : List IOper := [
 la 26 6 5,
 la 27 1 3,
 sn 6 0 26,
 s 1 27,
 mc 2 (v B)]
def f34o5 : List IOper := [
 la 28 1 3,
 bs 29 1 [U, U, U, U, U, U, U, U] [(0, 1, (w 512)), (1, 1, (w 8)), (2, 1, (w 258)), (3, 1, (w 1)), (4, 1, (w 600)), (5, 1, (w 3)), (6, 1, (w 1)), (7, 1, (w 1))],
 c 30 27 [(t 28), (i 256), (t 29)],
 s 3 30]
def f34o6 : List IOper := [
 la 31 1 3,
 bs 32 1 [U, U] [(0, 1, (w 1)), (1, 1, (w 1))],
 c 33 27 [(t 31), (i 512), (t 32)],
 s 3 33]
def f34o7 : List IOper := [
 la 35 6 5,
 la 36 1 3,
 bd 37 [B, I, U] [(1, 1, (i 48)), (2, 1, (w 256))],
 c 38 14 [(t 35), (t 36), (t 37)],
 m 34 38,
 e 39 34 0,
 e 40 34 1,
 nw 7 38 [N, U, N, B, B],
 sn 6 5 39,
 sn 5 7 40]
def f34o8 : List IOper := [
 la 42 6 5,
 la 43 1 3,
 bd 44 [B, I, U] [(1, 1, (i 49)), (2, 1, (w 4))],
 c 45 14 [(t 42), (t 43), (t 44)],
 m 41 45,
 e 46 41 0,
 e 47 41 1,
 nw 8 38 [N, U, N, B, B],
 sn 6 5 46,
 sn 5 8 47]
def f34o9 : List IOper := [
 la 48 6 5,
 la 49 1 3,
 f 50 4 7,
 l 51 50,
 m 52 51,
 g 52 true (f 53 4 8),
 g 52 true (l 54 53),
 op 55 (.pick (t 52) (t 54) (v B)),
 m 56 55,
 g 56 true (la 57 6 5),
 g 56 true (la 58 1 3),
 g 56 true (c 59 13 [(t 57), (t 58)]),
 op 60 (.pick (t 56) (t 59) (v B)),
 sn 6 0 48,
 s 1 49,
 m 2 60]
def f34 : IFn := ⟨(q (o f34o0) (q (o f34o1) (q (o f34o2) (q (q (o f34o3) (k 25 (q (.opsX f34o4 [(3, 0)]) R) K)) (q (o f34o5) (q (o f34o6) (q (o f34o7) (q (o f34o8) (q (.opsX f34o9 [(3, 0)]) R))))))))), [.cell 0 6 true, .cell 1 1 true, .t 2], 61⟩
def f35o0 : List IOper := [
 x 3 30 0,
 mc 6 (w 0),
 mc 7 (v B)]
def f35o1 : List IOper := [
 la 9 1 3,
 m 10 1,
 m 11 2,
 c 12 67 [(t 9), (t 10), (t 11)],
 op 13 (.un .not (t 12))]
def f35o2 : List IOper := [
 mc 6 (w 0),
 mc 7 (v B)]
def f35o3 : List IOper := [
 f 14 0 3,
 l 15 14,
 m 16 1,
 b 17 .quo (t 16) (i 128),
 is 18 128 15 (t 17),
 m 19 1,
 b 20 .rem (t 19) (i 128),
 op 21 (.slA 128 1 (t 18) (some (t 20)) none none),
 m 8 21]
def f35o4 : List IOper := [
 m 22 2,
 b 23 .eql (t 22) (i 1)]
def f35o5 : List IOper := [
 m 24 8,
 is 25 1 24 (i 0),
 l 26 25,
 cv 27 .u32 26,
 m 6 27,
 mc 7 (v (.bool true))]
def f35o6 : List IOper := [
 m 28 8,
 is 29 1 28 (i 0),
 l 30 29,
 cv 31 .u32 30,
 m 32 8,
 is 33 1 32 (i 1),
 l 34 33,
 cv 35 .u32 34,
 b 36 .shl (t 35) (v (.int .u64 8)),
 b 37 .or (t 31) (t 36),
 m 38 8,
 is 39 1 38 (i 2),
 l 40 39,
 cv 41 .u32 40,
 b 42 .shl (t 41) (v (.int .u64 16)),
 b 43 .or (t 37) (t 42),
 m 44 8,
 is 45 1 44 (i 3),
 l 46 45,
 cv 47 .u32 46,
 b 48 .shl (t 47) (v (.int .u64 24)),
 b 49 .or (t 43) (t 48),
 m 6 49,
 mc 7 (v (.bool true))]
def f35 : IFn := ⟨(q (o f35o0) (q (q (o f35o1) (k 13 (q (o f35o2) R) K)) (q (o f35o3) (q (q (o f35o4) (k 23 (q (o f35o5) R) K)) (q (od f35o6) R))))), [.t 6, .t 7], 50⟩
def f36o0 : List IOper := [
 x 3 57 0,
 x 4 30 1,
 mc 6 (v B)]
def f36o1 : List IOper := [
 la 10 1 4,
 f 11 0 3,
 la 12 2 11,
 c 13 23 [(t 10), (t 12)],
 b 14 .neq (t 13) (i 0),
 m 15 14,
 g 15 false (f 16 2 3),
 g 15 false (l 17 16),
 g 15 false (b 18 .lss (t 17) (i 0)),
 op 19 (.pick (t 15) (v (.bool true)) (t 18)),
 m 20 19,
 g 20 false (f 21 2 3),
 g 20 false (l 22 21),
 g 20 false (m 23 2),
 g 20 false (b 24 .geq (t 22) (t 23)),
 op 25 (.pick (t 20) (v (.bool true)) (t 24)),
 m 26 25,
 g 26 false (f 27 4 3),
 g 26 false (l 28 27),
 g 26 false (n 29 4 28),
 g 26 false (b 30 .lss (t 29) (i 2)),
 op 31 (.pick (t 26) (v (.bool true)) (t 30)),
 m 32 31,
 g 32 false (f 33 4 3),
 g 32 false (l 34 33),
 g 32 false (n 35 4 34),
 g 32 false (b 36 .gtr (t 35) (i 4)),
 op 37 (.pick (t 32) (v (.bool true)) (t 36))]
def f36o2 : List IOper := [
 mc 6 (v B)]
def f36o3 : List IOper := [
 mc 7 (i 0)]
def f36o4 : List IOper := [
 m 38 7,
 f 39 4 3,
 l 40 39,
 n 41 4 40,
 b 42 .lss (t 38) (t 41)]
def f36o5 : List IOper := [
 f 45 4 3,
 l 46 45,
 m 47 7,
 is 48 4 46 (t 47),
 la 49 4 48,
 nw 8 103 [I, I, I, B],
 sn 4 8 49]
def f36o6 : List IOper := [
 f 50 0 8,
 l 51 50,
 b 52 .lss (t 51) (i 0),
 m 53 52,
 g 53 false (f 54 0 8),
 g 53 false (l 55 54),
 g 53 false (f 56 0 3),
 g 53 false (f 57 1 56),
 g 53 false (l 58 57),
 g 53 false (cv 59 .i64 58),
 g 53 false (b 60 .geq (t 55) (t 59)),
 op 61 (.pick (t 53) (v (.bool true)) (t 60)),
 m 62 61,
 g 62 false (f 63 2 8),
 g 62 false (l 64 63),
 g 62 false (b 65 .lss (t 64) (i 1)),
 op 66 (.pick (t 62) (v (.bool true)) (t 65)),
 m 67 66,
 g 67 false (f 68 2 8),
 g 67 false (l 69 68),
 g 67 false (b 70 .gtr (t 69) (i 512)),
 op 71 (.pick (t 67) (v (.bool true)) (t 70)),
 m 72 71,
 g 72 false (f 73 1 8),
 g 72 false (l 74 73),
 g 72 false (b 75 .lss (t 74) (i 0)),
 op 76 (.pick (t 72) (v (.bool true)) (t 75)),
 m 77 76,
 g 77 false (f 78 1 8),
 g 77 false (l 79 78),
 g 77 false (la 80 1 4),
 g 77 false (c 81 52 [(t 80)]),
 g 77 false (f 82 2 8),
 g 77 false (l 83 82),
 g 77 false (b 84 .sub (t 81) (t 83)),
 g 77 false (b 85 .gtr (t 79) (t 84)),
 op 86 (.pick (t 77) (v (.bool true)) (t 85))]
def f36o7 : List IOper := [
 mc 6 (v B)]
def f36o8 : List IOper := [
 mc 9 (i 0)]
def f36o9 : List IOper := [
 m 87 9,
 m 88 7,
 b 89 .lss (t 87) (t 88)]
def f36o10 : List IOper := [
 f 92 4 3,
 l 93 92,
 m 94 9,
 is 95 4 93 (t 94),
 f 96 0 95,
 l 97 96,
 f 98 0 8,
 l 99 98,
 b 100 .eql (t 97) (t 99)]
def f36o11 : List IOper := [
 mc 6 (v B)]
def f36o12 : List IOper := [
 m 90 9,
 b 91 .add (t 90) (i 1),
 m 9 91]
def f36l13 : IC := (q (q (o f36o9) (k 89 K (ex 2))) (q (bl 3 (q (od f36o10) (k 100 (q (o f36o11) R) K))) (o f36o12)))
def f36o14 : List IOper := [
 m 43 7,
 b 44 .add (t 43) (i 1),
 m 7 44]
def f36l15 : IC := (q (q (o f36o4) (k 42 K (ex 0))) (q (bl 1 (q (o f36o5) (q (q (od f36o6) (k 86 (q (o f36o7) R) K)) (q (o f36o8) (bl 2 (lp f36l13)))))) (o f36o14)))
def f36o16 : List IOper := [
 f 101 4 3,
 l 102 101,
 is 103 4 102 (i 0),
 f 104 3 103,
 l 105 104,
 op 106 (.un .not (t 105)),
 m 107 106,
 g 107 true (f 108 4 3),
 g 107 true (l 109 108),
 g 107 true (is 110 4 109 (i 0)),
 g 107 true (f 111 2 110),
 g 107 true (l 112 111),
 g 107 true (b 113 .eql (t 112) (i 8)),
 op 114 (.pick (t 107) (t 113) (v B)),
 m 115 114,
 g 115 true (f 116 4 3),
 g 115 true (l 117 116),
 g 115 true (op 118 (.slL 4 (t 117) (some (i 1)) none none)),
 g 115 true (f 119 3 3),
 g 115 true (l 120 119),
 g 115 true (c 121 68 [(t 118), (t 120)]),
 g 115 true (b 122 .eql (t 121) (i 0)),
 op 123 (.pick (t 115) (t 122) (v B)),
 m 6 123]
def f36 : IFn := ⟨(q (o f36o0) (q (q (o f36o1) (k 37 (q (o f36o2) R) K)) (q (q (o f36o3) (bl 0 (lp f36l15))) (q (od f36o16) R)))), [.t 6], 124⟩
def f37o0 : List IOper := [
 mc 2 (v B)]
def f37o1 : List IOper := [
 m 3 0,
 b 4 .eql (t 3) (w 1),
 m 5 4,
 g 5 false (m 6 0),
 g 5 false (b 7 .eql (t 6) (w 2)),
 op 8 (.pick (t 5) (v (.bool true)) (t 7)),
 m 9 8,
 g 9 false (m 10 0),
 g 9 false (b 11 .eql (t 10) (w 4)),
 op 12 (.pick (t 9) (v (.bool true)) (t 11)),
 m 13 12,
 g 13 false (m 14 0),
 g 13 false (b 15 .eql (t 14) (w 8)),
 op 16 (.pick (t 13) (v (.bool true)) (t 15)),
 m 2 16]
def f37 : IFn := ⟨(q (o f37o0) (q (o f37o1) R)), [.t 2], 17⟩
def f38o0 : List IOper := [
 x 3 57 0,
 x 4 30 1,
 mc 6 (v B)]
def f38o1 : List IOper := [
 la 11 1 4,
 f 12 0 3,
 la 13 2 12,
 c 14 69 [(t 11), (t 13)],
 b 15 .neq (t 14) (i 0),
 m 16 15,
 g 16 false (f 17 2 3),
 g 16 false (l 18 17),
 g 16 false (b 19 .lss (t 18) (i 0)),
 op 20 (.pick (t 16) (v (.bool true)) (t 19)),
 m 21 20,
 g 21 false (f 22 2 3),
 g 21 false (l 23 22),
 g 21 false (m 24 2),
 g 21 false (b 25 .geq (t 23) (t 24)),
 op 26 (.pick (t 21) (v (.bool true)) (t 25)),
 m 27 26,
 g 27 false (f 28 4 3),
 g 27 false (l 29 28),
 g 27 false (n 30 4 29),
 g 27 false (b 31 .lss (t 30) (i 2)),
 op 32 (.pick (t 27) (v (.bool true)) (t 31)),
 m 33 32,
 g 33 false (f 34 4 3),
 g 33 false (l 35 34),
 g 33 false (n 36 4 35),
 g 33 false (b 37 .gtr (t 36) (i 4)),
 op 38 (.pick (t 33) (v (.bool true)) (t 37))]
def f38o2 : List IOper := [
 mc 6 (v B)]
def f38o3 : List IOper := [
 op 39 (.mkm),
 m 7 39]
def f38o4 : List IOper := [
 f 40 4 3,
 l 41 40,
 n 42 4 41,
 mc 43 (i 0)]
def f38o5 : List IOper := [
 b 44 .lss (t 43) (t 42)]
def f38o6 : List IOper := [
 is 45 4 41 (t 43),
 la 46 4 45,
 nw 9 103 [I, I, I, B],
 sn 4 9 46]
def f38o7 : List IOper := [
 f 47 0 9,
 l 48 47,
 b 49 .lss (t 48) (i 0),
 m 50 49,
 g 50 false (f 51 0 9),
 g 50 false (l 52 51),
 g 50 false (f 53 0 3),
 g 50 false (f 54 1 53),
 g 50 false (l 55 54),
 g 50 false (cv 56 .i64 55),
 g 50 false (b 57 .geq (t 52) (t 56)),
 op 58 (.pick (t 50) (v (.bool true)) (t 57)),
 m 59 58,
 g 59 false (m 60 7),
 g 59 false (f 61 0 9),
 g 59 false (l 62 61),
 g 59 false (op 63 (.mget 0 false B (t 60) (t 62))),
 op 64 (.pick (t 59) (v (.bool true)) (t 63)),
 m 65 64,
 g 65 false (f 66 2 9),
 g 65 false (l 67 66),
 g 65 false (b 68 .lss (t 67) (i 1)),
 op 69 (.pick (t 65) (v (.bool true)) (t 68)),
 m 70 69,
 g 70 false (f 71 2 9),
 g 70 false (l 72 71),
 g 70 false (b 73 .gtr (t 72) (i 512)),
 op 74 (.pick (t 70) (v (.bool true)) (t 73)),
 m 75 74,
 g 75 false (f 76 1 9),
 g 75 false (l 77 76),
 g 75 false (b 78 .lss (t 77) (i 0)),
 op 79 (.pick (t 75) (v (.bool true)) (t 78)),
 m 80 79,
 g 80 false (f 81 1 9),
 g 80 false (l 82 81),
 g 80 false (la 83 1 4),
 g 80 false (c 84 55 [(t 83)]),
 g 80 false (f 85 2 9),
 g 80 false (l 86 85),
 g 80 false (b 87 .sub (t 84) (t 86)),
 g 80 false (b 88 .gtr (t 82) (t 87)),
 op 89 (.pick (t 80) (v (.bool true)) (t 88))]
def f38o8 : List IOper := [
 mc 6 (v B)]
def f38o9 : List IOper := [
 m 90 7,
 f 91 0 9,
 l 92 91,
 op0 (.mupd 0 (t 90) (t 92) (v (.bool true)))]
def f38o10 : List IOper := [
 b 93 .add (t 43) (i 1),
 m 43 93]
def f38l11 : IC := (q (o f38o5) (q (k 44 K (ex 0)) (q (bl 1 (q (o f38o6) (q (q (od f38o7) (k 89 (q (o f38o8) R) K)) (o f38o9)))) (o f38o10))))
def f38o12 : List IOper := [
 f 94 4 3,
 l 95 94,
 is 96 4 95 (i 0),
 la 97 4 96,
 nw 10 103 [I, I, I, B],
 sn 4 10 97]
def f38o13 : List IOper := [
 f 98 3 10,
 l 99 98,
 op 100 (.un .not (t 99)),
 m 101 100,
 g 101 true (f 102 2 10),
 g 101 true (l 103 102),
 g 101 true (b 104 .eql (t 103) (i 8)),
 op 105 (.pick (t 101) (t 104) (v B)),
 m 106 105,
 g 106 true (f 107 4 3),
 g 106 true (l 108 107),
 g 106 true (op 109 (.slL 4 (t 108) (some (i 1)) none none)),
 g 106 true (f 110 3 3),
 g 106 true (l 111 110),
 g 106 true (c 112 70 [(t 109), (t 111)]),
 g 106 true (b 113 .eql (t 112) (i 0)),
 op 114 (.pick (t 106) (t 113) (v B)),
 m 6 114]
def f38 : IFn := ⟨(q (o f38o0) (q (q (o f38o1) (k 38 (q (o f38o2) R) K)) (q (o f38o3) (q (q (o f38o4) (bl 0 (lp f38l11))) (q (o f38o12) (q (od f38o13) R)))))), [.t 6], 115⟩
def f39o0 : List IOper := [
 m 4 0,
 m 5 0,
 m 6 1,
 op 7 (.nchk (t 4)),
 f 8 5 7,
 f 9 0 8,
 f 10 0 9,
 s 10 6,
 op 11 (.nchk (t 5)),
 f 12 5 11,
 f 13 2 12,
 op0 (.store 1 (t 13) (i 0))]
def f39 : IFn := ⟨(o f39o0), [], 14⟩
def f40o0 : List IOper := [
 m 4 0,
 m 5 0,
 m 6 1,
 op 7 (.nchk (t 4)),
 f 8 5 7,
 f 9 0 8,
 f 10 1 9,
 s 10 6,
 op 11 (.nchk (t 5)),
 f 12 5 11,
 f 13 2 12,
 op0 (.store 1 (t 13) (i 0))]
def f40 : IFn := ⟨(o f40o0), [], 14⟩
def f41o0 : List IOper := [
 m 11 0,
 op 12 (.nchk (t 11)),
 f 13 0 12,
 f 14 0 13,
 la 15 1 14,
 m 16 0,
 op 17 (.nchk (t 16)),
 f 18 5 17,
 f 19 0 18,
 la 20 2 19,
 c 21 69 [(t 15), (t 20)],
 m 4 21]
def f41o1 : List IOper := [
 m 22 4,
 b 23 .neq (t 22) (i 0)]
def f41o2 : List IOper := [
 m 24 0,
 m 25 4,
 op 26 (.nchk (t 24)),
 f 27 5 26,
 f 28 3 27,
 s 28 25]
def f41o3 : List IOper := [
 m 29 0,
 op 30 (.nchk (t 29)),
 f 31 5 30,
 f 32 0 31,
 f 33 1 32,
 l 34 33,
 mc 35 (w 0)]
def f41o4 : List IOper := [
 b 36 .lss (t 35) (t 34)]
def f41o5 : List IOper := [
 m 38 0,
 op 39 (.nchk (t 38)),
 f 40 0 39,
 f 41 0 40,
 la 42 1 41,
 m 43 0,
 op 44 (.nchk (t 43)),
 f 45 5 44,
 f 46 0 45,
 la 47 2 46,
 m 48 0,
 op 49 (.nchk (t 48)),
 f 50 5 49,
 f 51 2 50,
 l 52 51,
 c 53 71 [(t 42), (t 47), (t 52)],
 m 37 53,
 e 54 37 0,
 e 55 37 1,
 m 5 54,
 m 6 55]
def f41o6 : List IOper := [
 m 56 6,
 op 57 (.un .not (t 56)),
 m 58 57,
 g 58 false (m 59 0),
 g 58 false (op 60 (.nchk (t 59))),
 g 58 false (f 61 5 60),
 g 58 false (f 62 5 61),
 g 58 false (l 63 62),
 g 58 false (n 64 5 63),
 g 58 false (b 65 .geq (t 64) (i 8)),
 op 66 (.pick (t 58) (v (.bool true)) (t 65))]
def f41o7 : List IOper := [
 m 67 0,
 m 68 5,
 b 69 .add (t 68) (i 1),
 m 70 0,
 op 71 (.nchk (t 70)),
 f 72 5 71,
 f 73 0 72,
 f 74 1 73,
 l 75 74,
 cv 76 .i64 75,
 b 77 .rem (t 69) (t 76),
 op 78 (.nchk (t 67)),
 f 79 5 78,
 f 80 2 79,
 s 80 77]
def f41o8 : List IOper := [
 m 82 0,
 op 83 (.nchk (t 82)),
 f 84 0 83,
 f 85 0 84,
 la 86 1 85,
 m 87 0,
 op 88 (.nchk (t 87)),
 f 89 5 88,
 f 90 0 89,
 la 91 2 90,
 m 92 5,
 c 93 72 [(t 86), (t 91), (t 92)],
 m 81 93,
 e 94 81 0,
 e 95 81 1,
 e 96 81 2,
 nw 7 30 [N],
 s 7 94,
 m 8 95,
 m 9 96]
def f41o9 : List IOper := [
 m 97 0,
 la 98 1 7,
 op 99 (.nchk (t 97)),
 f 100 0 99,
 f 101 0 100,
 s 101 98]
def f41o10 : List IOper := [
 m 102 9,
 b 103 .neq (t 102) (i 0)]
def f41o11 : List IOper := [
 m 104 0,
 m 105 0,
 m 106 9,
 op 107 (.nchk (t 104)),
 f 108 5 107,
 f 109 3 108,
 s 109 106,
 op 110 (.nchk (t 105)),
 f 111 0 110,
 f 112 3 111,
 op0 (.store 1 (t 112) (v (.bool true)))]
def f41o12 : List IOper := [
 m 114 0,
 m 115 8,
 op 116 (.calls 73 [(t 114), (t 115)]),
 m 113 116,
 e 117 113 0,
 e 118 113 1,
 nw 10 57 [U, U, I, B, N],
 sn 5 10 117,
 m 9 118]
def f41o13 : List IOper := [
 m 119 9,
 b 120 .neq (t 119) (i 0)]
def f41o14 : List IOper := [
 m 121 0,
 m 122 5,
 m 123 9,
 op 124 (.calls 74 [(t 121), (t 122), (t 123)])]
def f41o15 : List IOper := [
 m 125 0,
 m 126 0,
 op 127 (.nchk (t 126)),
 f 128 5 127,
 f 129 5 128,
 l 130 129,
 m 131 0,
 op 132 (.nchk (t 131)),
 f 133 5 132,
 f 134 5 133,
 l 135 134,
 n 136 5 135,
 m 137 0,
 op 138 (.nchk (t 137)),
 f 139 5 138,
 f 140 5 139,
 l 141 140,
 n 142 5 141,
 op 143 (.slL 5 (t 130) none (some (t 136)) (some (t 142))),
 la 144 5 10,
 bs 145 5 [U, U, I, B, N] [(0, 5, (t 144))],
 ap 146 5 48 143 145,
 op 147 (.nchk (t 125)),
 f 148 5 147,
 f 149 5 148,
 s 149 146]
def f41o16 : List IOper := [
 b 150 .add (t 35) (w 1),
 m 35 150]
def f41l17 : IC := (q (o f41o4) (q (k 36 K (ex 0)) (q (bl 1 (q (od f41o5) (q (q (o f41o6) (k 66 (ex 0) K)) (q (o f41o7) (q (od f41o8) (q (o f41o9) (q (q (o f41o10) (k 103 (q (o f41o11) (ex 1)) K)) (q (o f41o12) (q (q (o f41o13) (k 120 (q (o f41o14) (ex 1)) K)) (od f41o15)))))))))) (o f41o16))))
def f41 : IFn := ⟨(q (q (od f41o0) (q (o f41o1) (k 23 (q (o f41o2) R) K))) (q K (q (o f41o3) (bl 0 (lp f41l17))))), [], 151⟩
def f43o0 : List IOper := [
 x 3 30 0,
 nw 6 30 [N],
 mc 7 (i 0)]
def f43o1 : List IOper := [
 mc 8 (i 0)]
def f43o2 : List IOper := [
 m 12 1,
 n 13 4 12,
 mc 14 (i 0)]
def f43o3 : List IOper := [
 b 15 .lss (t 14) (t 13)]
def f43o4 : List IOper := [
 is 16 4 12 (t 14),
 la 17 4 16,
 nw 10 103 [I, I, I, B],
 sn 4 10 17]
def f43o5 : List IOper := [
 f 18 2 10,
 l 19 18,
 m 20 2,
 ns 21 20,
 m 22 8,
 b 23 .sub (t 21) (t 22),
 op 24 (.mn false [(t 19), (t 23)]),
 m 11 24]
def f43o6 : List IOper := [
 f 25 3 10,
 l 26 25]
def f43o7 : List IOper := [
 la 28 1 3,
 f 29 1 10,
 l 30 29,
 m 31 2,
 m 32 8,
 m 33 8,
 m 34 11,
 b 35 .add (t 33) (t 34),
 op 36 (.slS (t 31) (some (t 32)) (some (t 35))),
 c 37 28 [(t 28), (t 30), (t 36)],
 m 27 37,
 e 38 27 0,
 e 39 27 1,
 s 3 38]
def f43o8 : List IOper := [
 m 40 8,
 m 41 11,
 b 42 .add (t 40) (t 41),
 m 8 42]
def f43o9 : List IOper := [
 b 43 .add (t 14) (i 1),
 m 14 43]
def f43l10 : IC := (q (o f43o3) (q (k 15 K (ex 0)) (q (bl 1 (q (o f43o4) (q (o f43o5) (q (o f43o6) (k 26 (q (od f43o7) (o f43o8)) K))))) (o f43o9))))
def f43o11 : List IOper := [
 la 44 1 3,
 m 45 8,
 s 6 44,
 m 7 45]
def f43 : IFn := ⟨(q (o f43o0) (q (o f43o1) (q (q (o f43o2) (bl 0 (lp f43l10))) (q (o f43o11) R)))), [.cell 6 1 true, .t 7], 46⟩
def f44o0 : List IOper := [
 mc 2 (i 0)]
def f44o1 : List IOper := [
 mc 3 (i 0)]
def f44o2 : List IOper := [
 m 6 0,
 n 7 4 6,
 mc 8 (i 0)]
def f44o3 : List IOper := [
 b 9 .lss (t 8) (t 7)]
def f44o4 : List IOper := [
 is 10 4 6 (t 8),
 la 11 4 10,
 nw 5 103 [I, I, I, B],
 sn 4 5 11]
def f44o5 : List IOper := [
 f 12 3 5,
 l 13 12]
def f44o6 : List IOper := [
 m 14 3,
 f 15 2 5,
 l 16 15,
 b 17 .add (t 14) (t 16),
 m 3 17]
def f44o7 : List IOper := [
 b 18 .add (t 8) (i 1),
 m 8 18]
def f44l8 : IC := (q (o f44o3) (q (k 9 K (ex 0)) (q (bl 1 (q (o f44o4) (q (o f44o5) (k 13 (o f44o6) K)))) (o f44o7))))
def f44o9 : List IOper := [
 m 19 3,
 m 2 19]
def f44 : IFn := ⟨(q (o f44o0) (q (o f44o1) (q (q (o f44o2) (bl 0 (lp f44l8))) (q (o f44o9) R)))), [.t 2], 20⟩
def f45o0 : List IOper := [
 x 3 30 0,
 x 4 24 1,
 nw 6 30 [N]]
def f45o1 : List IOper := [
 m 9 2,
 n 10 4 9,
 mc 11 (i 0)]
def f45o2 : List IOper := [
 b 12 .lss (t 11) (t 10)]
def f45o3 : List IOper := [
 is 13 4 9 (t 11),
 la 14 4 13,
 nw 8 103 [I, I, I, B],
 sn 4 8 14]
def f45o4 : List IOper := [
 la 15 1 3,
 la 16 2 4,
 f 17 0 8,
 l 18 17,
 bs 19 1 [I] [(0, 1, (t 18))],
 c 20 77 [(t 15), (t 16), (i 3), (t 19)],
 s 3 20]
def f45o5 : List IOper := [
 b 21 .add (t 11) (i 1),
 m 11 21]
def f45l6 : IC := (q (o f45o2) (q (k 12 K (ex 0)) (q (bl 1 (q (o f45o3) (o f45o4))) (o f45o5))))
def f45o7 : List IOper := [
 la 22 1 3,
 s 6 22]
def f45 : IFn := ⟨(q (o f45o0) (q (q (o f45o1) (bl 0 (lp f45l6))) (q (o f45o7) R))), [.cell 6 1 true], 23⟩
def f46o0 : List IOper := [
 x 1 43 0,
 nw 2 43 [U, U, I, I, N, N, N, U, N, B, B]]
def f46o1 : List IOper := [
 f 8 6 1,
 f 9 0 8,
 la 10 1 9,
 f 11 0 1,
 f 12 0 11,
 la 13 2 12,
 c 14 23 [(t 10), (t 13)],
 m 3 14]
def f46o2 : List IOper := [
 m 15 3,
 b 16 .neq (t 15) (i 0)]
def f46o3 : List IOper := [
 m 17 3,
 f 18 0 1,
 f 19 3 18,
 s 19 17]
def f46o4 : List IOper := [
 la 20 11 1,
 sn 11 2 20]
def f46o5 : List IOper := [
 f 21 0 1,
 f 22 0 21,
 f 23 1 22,
 l 24 23,
 cv 25 .i64 24,
 m 4 25]
def f46o6 : List IOper := [
 mc 5 (i 0)]
def f46o7 : List IOper := [
 m 26 5,
 m 27 4,
 b 28 .lss (t 26) (t 27)]
def f46o8 : List IOper := [
 f 31 6 1,
 f 32 0 31,
 la 33 1 32,
 f 34 0 1,
 f 35 0 34,
 la 36 2 35,
 f 37 0 1,
 f 38 2 37,
 l 39 38,
 c 40 78 [(t 33), (t 36), (t 39)],
 nw 6 144 [I, B],
 sn 2 6 40]
def f46o9 : List IOper := [
 f 41 1 6,
 l 42 41,
 op 43 (.un .not (t 42)),
 m 44 43,
 g 44 false (f 45 0 1),
 g 44 false (f 46 5 45),
 g 44 false (l 47 46),
 g 44 false (n 48 5 47),
 g 44 false (b 49 .geq (t 48) (i 8)),
 op 50 (.pick (t 44) (v (.bool true)) (t 49))]
def f46o10 : List IOper := [
 la 51 11 1,
 sn 11 2 51]
def f46o11 : List IOper := [
 f 52 0 6,
 l 53 52,
 b 54 .add (t 53) (i 1),
 m 55 4,
 b 56 .rem (t 54) (t 55),
 f 57 0 1,
 f 58 2 57,
 s 58 56]
def f46o12 : List IOper := [
 f 59 6 1,
 f 60 0 59,
 la 61 1 60,
 f 62 0 1,
 f 63 0 62,
 la 64 2 63,
 f 65 0 6,
 l 66 65,
 c 67 79 [(t 61), (t 64), (t 66)],
 nw 7 147 [N, N, I],
 sn 3 7 67]
def f46o13 : List IOper := [
 f 68 0 7,
 la 69 1 68,
 f 70 6 1,
 f 71 0 70,
 s 71 69]
def f46o14 : List IOper := [
 f 72 2 7,
 l 73 72,
 b 74 .neq (t 73) (i 0)]
def f46o15 : List IOper := [
 f 75 2 7,
 l 76 75,
 f 77 0 1,
 f 78 3 77,
 s 78 76]
def f46o16 : List IOper := [
 f 79 6 1,
 f 80 3 79,
 op0 (.store 1 (t 80) (v (.bool true)))]
def f46o17 : List IOper := [
 la 81 11 1,
 f 82 0 6,
 l 83 82,
 f 84 1 7,
 l 85 84,
 c 86 80 [(t 81), (t 83), (t 85)],
 sn 11 1 86]
def f46o18 : List IOper := [
 m 29 5,
 b 30 .add (t 29) (i 1),
 m 5 30]
def f46l19 : IC := (q (q (o f46o7) (k 28 K (ex 0))) (q (bl 1 (q (o f46o8) (q (q (o f46o9) (k 50 (q (o f46o10) R) K)) (q (o f46o11) (q (o f46o12) (q (o f46o13) (q (o f46o14) (k 74 (q (o f46o15) (o f46o16)) (o f46o17))))))))) (o f46o18)))
def f46o20 : List IOper := [
 la 87 11 1,
 sn 11 2 87]
def f46 : IFn := ⟨(q (o f46o0) (q (o f46o1) (q (q (o f46o2) (k 16 (q (o f46o3) (q (o f46o4) R)) K)) (q (o f46o5) (q (q (o f46o6) (bl 0 (lp f46l19))) (q (o f46o20) R)))))), [.cell 2 11 true], 88⟩
def f47o0 : List IOper := [
 x 2 30 0,
 mc 4 (v E)]
def f47o1 : List IOper := [
 mc 5 (v E)]
def f47o2 : List IOper := [
 mc 6 (i 0)]
def f47o3 : List IOper := [
 m 7 6,
 m 8 1,
 n 9 4 8,
 b 10 .lss (t 7) (t 9)]
def f47o4 : List IOper := [
 m 13 1,
 m 14 6,
 is 15 4 13 (t 14),
 f 16 3 15,
 l 17 16,
 op 18 (.un .not (t 17))]
def f47o5 : List IOper := [
 m 19 5,
 la 20 1 2,
 m 21 1,
 m 22 6,
 is 23 4 21 (t 22),
 f 24 1 23,
 l 25 24,
 m 26 1,
 m 27 6,
 is 28 4 26 (t 27),
 f 29 2 28,
 l 30 29,
 c 31 81 [(t 20), (t 25), (t 30)],
 fd 32 0 1 false 31,
 b 33 .add (t 19) (t 32),
 m 5 33]
def f47o6 : List IOper := [
 m 11 6,
 b 12 .add (t 11) (i 1),
 m 6 12]
def f47l7 : IC := (q (q (o f47o3) (k 10 K (ex 0))) (q (bl 1 (q (o f47o4) (k 18 (od f47o5) K))) (o f47o6)))
def f47o8 : List IOper := [
 m 34 5,
 m 4 34]
def f47 : IFn := ⟨(q (o f47o0) (q (o f47o1) (q (q (o f47o2) (bl 0 (lp f47l7))) (q (o f47o8) R)))), [.t 4], 35⟩
def f48o0 : List IOper := [
 mc 2 (i 0)]
def f48o1 : List IOper := [
 mc 3 (i 0)]
def f48o2 : List IOper := [
 mc 4 (i 0)]
def f48o3 : List IOper := [
 m 5 4,
 m 6 0,
 n 7 4 6,
 b 8 .lss (t 5) (t 7)]
def f48o4 : List IOper := [
 m 11 0,
 m 12 4,
 is 13 4 11 (t 12),
 f 14 3 13,
 l 15 14]
def f48o5 : List IOper := [
 m 16 3,
 m 17 0,
 m 18 4,
 is 19 4 17 (t 18),
 f 20 2 19,
 l 21 20,
 b 22 .add (t 16) (t 21),
 m 3 22]
def f48o6 : List IOper := [
 m 9 4,
 b 10 .add (t 9) (i 1),
 m 4 10]
def f48l7 : IC := (q (q (o f48o3) (k 8 K (ex 0))) (q (bl 1 (q (o f48o4) (k 15 (o f48o5) K))) (o f48o6)))
def f48o8 : List IOper := [
 m 23 3,
 m 2 23]
def f48 : IFn := ⟨(q (o f48o0) (q (o f48o1) (q (q (o f48o2) (bl 0 (lp f48l7))) (q (o f48o8) R)))), [.t 2], 24⟩
def f49o0 : List IOper := [
 x 3 30 0,
 nw 6 98 [N, I]]
def f49o1 : List IOper := [
 mc 7 (i 0)]
def f49o2 : List IOper := [
 mc 8 (i 0)]
def f49o3 : List IOper := [
 m 10 8,
 m 11 1,
 n 12 4 11,
 b 13 .lss (t 10) (t 12)]
def f49o4 : List IOper := [
 m 16 1,
 m 17 8,
 is 18 4 16 (t 17),
 f 19 3 18,
 l 20 19]
def f49o5 : List IOper := [
 m 21 1,
 m 22 8,
 is 23 4 21 (t 22),
 f 24 2 23,
 l 25 24,
 m 26 2,
 ns 27 26,
 m 28 7,
 b 29 .sub (t 27) (t 28),
 op 30 (.mn false [(t 25), (t 29)]),
 m 9 30]
def f49o6 : List IOper := [
 la 31 1 3,
 m 32 1,
 m 33 8,
 is 34 4 32 (t 33),
 f 35 1 34,
 l 36 35,
 m 37 2,
 m 38 7,
 m 39 7,
 m 40 9,
 b 41 .add (t 39) (t 40),
 op 42 (.slS (t 37) (some (t 38)) (some (t 41))),
 c 43 82 [(t 31), (t 36), (t 42)],
 fd 44 0 1 true 43,
 s 3 44]
def f49o7 : List IOper := [
 m 45 7,
 m 46 9,
 b 47 .add (t 45) (t 46),
 m 7 47]
def f49o8 : List IOper := [
 m 14 8,
 b 15 .add (t 14) (i 1),
 m 8 15]
def f49l9 : IC := (q (q (o f49o3) (k 13 K (ex 0))) (q (bl 1 (q (o f49o4) (k 20 (q (o f49o5) (q (od f49o6) (o f49o7))) K))) (o f49o8)))
def f49o10 : List IOper := [
 la 48 1 3,
 m 49 7,
 bd 50 [N, I] [(0, 1, (t 48)), (1, 1, (t 49))],
 sn 2 6 50]
def f49 : IFn := ⟨(q (o f49o0) (q (o f49o1) (q (q (o f49o2) (bl 0 (lp f49l9))) (q (o f49o10) R)))), [.cell 6 2 true], 51⟩
def f50o0 : List IOper := [
 x 3 30 0,
 x 4 24 1,
 nw 6 30 [N]]
def f50o1 : List IOper := [
 la 7 1 3,
 la 8 2 4,
 m 9 2,
 c 10 83 [(t 7), (t 8), (t 9), (i 3)],
 s 6 10]
def f50 : IFn := ⟨(q (o f50o0) (q (o f50o1) R)), [.cell 6 1 true], 11⟩
def f51o0 : List IOper := [
 x 4 24 1,
 mc 6 (v B)]
def f51o1 : List IOper := [
 m 8 0,
 f 9 0 4,
 l 10 9,
 cv 11 .i64 10,
 b 12 .geq (t 8) (t 11),
 m 13 12,
 g 13 true (m 14 0),
 g 13 true (f 15 0 4),
 g 13 true (l 16 15),
 g 13 true (cv 17 .i64 16),
 g 13 true (f 18 1 4),
 g 13 true (l 19 18),
 g 13 true (cv 20 .i64 19),
 g 13 true (b 21 .mul (i 16) (t 20)),
 g 13 true (b 22 .add (t 17) (t 21)),
 g 13 true (b 23 .lss (t 14) (t 22)),
 op 24 (.pick (t 13) (t 23) (v B))]
def f51o2 : List IOper := [
 mc 6 (v (.bool true))]
def f51o3 : List IOper := [
 mc 7 (i 0)]
def f51o4 : List IOper := [
 m 25 7,
 m 26 2,
 n 27 4 26,
 b 28 .lss (t 25) (t 27)]
def f51o5 : List IOper := [
 m 31 2,
 m 32 7,
 is 33 4 31 (t 32),
 f 34 3 33,
 l 35 34,
 m 36 35,
 g 36 true (m 37 0),
 g 36 true (m 38 2),
 g 36 true (m 39 7),
 g 36 true (is 40 4 38 (t 39)),
 g 36 true (f 41 1 40),
 g 36 true (l 42 41),
 g 36 true (b 43 .geq (t 37) (t 42)),
 op 44 (.pick (t 36) (t 43) (v B)),
 m 45 44,
 g 45 true (m 46 0),
 g 45 true (m 47 2),
 g 45 true (m 48 7),
 g 45 true (is 49 4 47 (t 48)),
 g 45 true (f 50 1 49),
 g 45 true (l 51 50),
 g 45 true (m 52 2),
 g 45 true (m 53 7),
 g 45 true (is 54 4 52 (t 53)),
 g 45 true (f 55 2 54),
 g 45 true (l 56 55),
 g 45 true (b 57 .add (t 51) (t 56)),
 g 45 true (b 58 .lss (t 46) (t 57)),
 op 59 (.pick (t 45) (t 58) (v B))]
def f51o6 : List IOper := [
 mc 6 (v (.bool true))]
def f51o7 : List IOper := [
 m 29 7,
 b 30 .add (t 29) (i 1),
 m 7 30]
def f51l8 : IC := (q (q (o f51o4) (k 28 K (ex 0))) (q (bl 1 (q (od f51o5) (k 59 (q (o f51o6) R) K))) (o f51o7)))
def f51o9 : List IOper := [
 mc 6 (v B)]
def f51 : IFn := ⟨(q (o f51o0) (q (q (o f51o1) (k 24 (q (o f51o2) R) K)) (q (q (o f51o3) (bl 0 (lp f51l8))) (q (o f51o9) R)))), [.t 6], 60⟩
def f52o0 : List IOper := [
 x 1 30 0,
 mc 2 (i 0)]
def f52o1 : List IOper := [
 f 3 0 1,
 l 4 3,
 n 5 128 4,
 b 6 .mul (t 5) (i 128),
 m 2 6]
def f52 : IFn := ⟨(q (o f52o0) (q (o f52o1) R)), [.t 2], 7⟩
def f53o0 : List IOper := [
 x 2 30 0,
 x 3 30 1,
 mc 4 (v N)]
def f53o1 : List IOper := [
 mc 5 (v N)]
def f53o2 : List IOper := [
 mc 6 (i 0)]
def f53o3 : List IOper := [
 m 7 6,
 f 8 0 2,
 l 9 8,
 n 10 128 9,
 f 11 0 3,
 l 12 11,
 n 13 128 12,
 op 14 (.mn true [(t 10), (t 13)]),
 b 15 .lss (t 7) (t 14)]
def f53o4 : List IOper := [
 m 18 6,
 f 19 0 2,
 l 20 19,
 n 21 128 20,
 b 22 .geq (t 18) (t 21),
 m 23 22,
 g 23 false (m 24 6),
 g 23 false (f 25 0 3),
 g 23 false (l 26 25),
 g 23 false (n 27 128 26),
 g 23 false (b 28 .geq (t 24) (t 27)),
 op 29 (.pick (t 23) (v (.bool true)) (t 28)),
 m 30 29,
 g 30 false (f 31 0 2),
 g 30 false (l 32 31),
 g 30 false (m 33 6),
 g 30 false (is 34 128 32 (t 33)),
 g 30 false (la 35 128 34),
 g 30 false (f 36 0 3),
 g 30 false (l 37 36),
 g 30 false (m 38 6),
 g 30 false (is 39 128 37 (t 38)),
 g 30 false (la 40 128 39),
 g 30 false (op 41 (.eqA true [0, 0, 0, 0, 0, 0, 0, 0, 0, 0, 0, 0, 0, 0, 0, 0, 0, 0, 0, 0, 0, 0, 0, 0, 0, 0, 0, 0, 0, 0, 0, 0, 0, 0, 0, 0, 0, 0, 0, 0, 0, 0, 0, 0, 0, 0, 0, 0, 0, 0, 0, 0, 0, 0, 0, 0, 0, 0, 0, 0, 0, 0, 0, 0, 0, 0, 0, 0, 0, 0, 0, 0, 0, 0, 0, 0, 0, 0, 0, 0, 0, 0, 0, 0, 0, 0, 0, 0, 0, 0, 0, 0, 0, 0, 0, 0, 0, 0, 0, 0, 0, 0, 0, 0, 0, 0, 0, 0, 0, 0, 0, 0, 0, 0, 0, 0, 0, 0, 0, 0, 0, 0, 0, 0, 0, 0, 0, 0] (t 35) (t 40))),
 op 42 (.pick (t 30) (v (.bool true)) (t 41))]
def f53o5 : List IOper := [
 m 43 5,
 m 44 6,
 bs 45 1 [I] [(0, 1, (t 44))],
 ap 46 1 8 43 45,
 m 5 46]
def f53o6 : List IOper := [
 m 16 6,
 b 17 .add (t 16) (i 1),
 m 6 17]
def f53l7 : IC := (q (q (o f53o3) (k 15 K (ex 0))) (q (bl 1 (q (od f53o4) (k 42 (o f53o5) K))) (o f53o6)))
def f53o8 : List IOper := [
 m 47 5,
 m 4 47]
def f53 : IFn := ⟨(q (o f53o0) (q (o f53o1) (q (q (o f53o2) (bl 0 (lp f53l7))) (q (o f53o8) R)))), [.t 4], 48⟩
def f54o0 : List IOper := [
 x 2 30 0,
 x 3 108 1,
 nw 4 30 [N],
 mc 5 (v B)]
def f54o1 : List IOper := [
 la 6 1 2,
 la 7 3 3,
 bs 8 3 [I, I, U] [(0, 3, (t 7))],
 c 9 84 [(t 6), (t 8)],
 e 10 9 0,
 e 11 9 1,
 s 4 10,
 m 5 11]
def f54 : IFn := ⟨(q (o f54o0) (q (o f54o1) R)), [.cell 4 1 true, .t 5], 12⟩
def f55o0 : List IOper := [
 x 1 30 0,
 mc 2 (i 0)]
def f55o1 : List IOper := [
 f 3 0 1,
 l 4 3,
 n 5 128 4,
 b 6 .mul (t 5) (i 128),
 m 2 6]
def f55 : IFn := ⟨(q (o f55o0) (q (o f55o1) R)), [.t 2], 7⟩
def f56o0 : List IOper := [
 mc 2 (v N)]
def f56o1 : List IOper := [
 m 3 0,
 op 4 (.eq false 5 (t 3) (v N))]
def f56o2 : List IOper := [
 mc 2 (v N)]
def f56o3 : List IOper := [
 bs 5 128 [] [],
 m 6 0,
 ap 7 128 128 5 6,
 m 2 7]
def f56 : IFn := ⟨(q (o f56o0) (q (q (o f56o1) (k 4 (q (o f56o2) R) K)) (q (o f56o3) R))), [.t 2], 8⟩
def f57o0 : List IOper := [
 x 3 111 0]
def f57o1 : List IOper := [
 m 7 2,
 n 8 1 7,
 b 9 .gtr (t 8) (i 0)]
def f57o2 : List IOper := [
 f 10 0 3,
 l 11 10,
 m 12 1,
 b 13 .quo (t 12) (i 128),
 is 14 128 11 (t 13),
 m 15 1,
 b 16 .rem (t 15) (i 128),
 op 17 (.slA 128 1 (t 14) (some (t 16)) none none),
 m 18 2,
 op 19 (.cpy 1 (t 17) (t 18)),
 m 6 19]
def f57o3 : List IOper := [
 m 20 1,
 m 21 6,
 b 22 .add (t 20) (t 21),
 m 23 2,
 m 24 6,
 op 25 (.slL 1 (t 23) (some (t 24)) none none),
 m 1 22,
 m 2 25]
def f57l4 : IC := (q (q (o f57o1) (k 9 K (ex 0))) (bl 1 (q (o f57o2) (od f57o3))))
def f57 : IFn := ⟨(q (o f57o0) (bl 0 (lp f57l4))), [], 26⟩
def f58o0 : List IOper := [
 mc 2 (v N),
 mc 3 (i 0),
 mc 4 (i 0)]
def f58o1 : List IOper := [
 m 5 0,
 op 6 (.calls 85 [(t 5), (i 1), (v (.fn 86 [] []))]),
 e 7 6 0,
 e 8 6 1,
 e 9 6 2,
 m 2 7,
 m 3 8,
 m 4 9]
def f58 : IFn := ⟨(q (o f58o0) (q (o f58o1) R)), [.t 2, .t 3, .t 4], 10⟩
def f59o0 : List IOper := [
 nw 2 24 [U, U]]
def f59o1 : List IOper := [
 m 4 0,
 op 5 (.calls 60 [(t 4), (i 4294967295)]),
 m 3 5]
def f59o2 : List IOper := [
 m 6 3,
 cv 7 .u32 6,
 m 8 0,
 op 9 (.calls 60 [(t 8), (i 4294967295)]),
 cv 10 .u32 9,
 bd 11 [U, U] [(0, 1, (t 7)), (1, 1, (t 10))],
 sn 2 2 11]
def f59 : IFn := ⟨(q (o f59o0) (q (o f59o1) (q (o f59o2) R))), [.cell 2 2 true], 12⟩
def f60o0 : List IOper := [
 mc 4 (i 0)]
def f60o1 : List IOper := [
 m 6 0,
 op 7 (.nchk (t 6)),
 f 8 0 7,
 l 9 8,
 n 10 1 9,
 b 11 .eql (t 10) (i 0),
 m 12 11,
 g 12 false (m 13 0),
 g 12 false (op 14 (.nchk (t 13))),
 g 12 false (f 15 0 14),
 g 12 false (l 16 15),
 g 12 false (is 17 1 16 (i 0)),
 g 12 false (l 18 17),
 g 12 false (b 19 .lss (t 18) (i 0)),
 op 20 (.pick (t 12) (v (.bool true)) (t 19)),
 m 21 20,
 g 21 false (m 22 0),
 g 21 false (op 23 (.nchk (t 22))),
 g 21 false (f 24 0 23),
 g 21 false (l 25 24),
 g 21 false (is 26 1 25 (i 0)),
 g 21 false (l 27 26),
 g 21 false (m 28 1),
 g 21 false (b 29 .gtr (t 27) (t 28)),
 op 30 (.pick (t 21) (v (.bool true)) (t 29))]
def f60o2 : List IOper := [
 m 31 0,
 op 32 (.nchk (t 31)),
 f 33 1 32,
 op0 (.store 1 (t 33) (v (.bool true)))]
def f60o3 : List IOper := [
 mc 4 (i 0)]
def f60o4 : List IOper := [
 m 34 0,
 op 35 (.nchk (t 34)),
 f 36 0 35,
 l 37 36,
 is 38 1 37 (i 0),
 l 39 38,
 m 5 39]
def f60o5 : List IOper := [
 m 40 0,
 m 41 0,
 op 42 (.nchk (t 41)),
 f 43 0 42,
 l 44 43,
 op 45 (.slL 1 (t 44) (some (i 1)) none none),
 op 46 (.nchk (t 40)),
 f 47 0 46,
 s 47 45]
def f60o6 : List IOper := [
 m 48 5,
 m 4 48]
def f60 : IFn := ⟨(q (o f60o0) (q (q (o f60o1) (k 30 (q (o f60o2) (q (o f60o3) R)) K)) (q (o f60o4) (q (o f60o5) (q (o f60o6) R))))), [.t 4], 49⟩
def f61o0 : List IOper := [
 nw 2 57 [U, U, I, B, N]]
def f61o1 : List IOper := [
 m 5 0,
 op 6 (.calls 59 [(t 5)]),
 m 7 0,
 op 8 (.calls 60 [(t 7), (i 64)]),
 m 9 0,
 op 10 (.calls 60 [(t 9), (i 1)]),
 b 11 .eql (t 10) (i 1),
 bd 12 [U, U, I, B, N] [(0, 2, (t 6)), (2, 1, (t 8)), (3, 1, (t 11))],
 nw 3 57 [U, U, I, B, N],
 sn 5 3 12]
def f61o2 : List IOper := [
 m 13 0,
 op 14 (.calls 60 [(t 13), (i 4)]),
 mc 15 (i 0)]
def f61o3 : List IOper := [
 b 16 .lss (t 15) (t 14)]
def f61o4 : List IOper := [
 m 17 0,
 op 18 (.calls 60 [(t 17), (i 8)]),
 m 19 0,
 op 20 (.calls 60 [(t 19), (i 8192)]),
 m 21 0,
 op 22 (.calls 60 [(t 21), (i 512)]),
 bd 23 [I, I, I, B] [(0, 1, (t 18)), (1, 1, (t 20)), (2, 1, (t 22))],
 nw 4 103 [I, I, I, B],
 sn 4 4 23]
def f61o5 : List IOper := [
 m 24 0,
 op 25 (.calls 60 [(t 24), (i 1)]),
 b 26 .eql (t 25) (i 1),
 f 27 3 4,
 s 27 26]
def f61o6 : List IOper := [
 f 28 4 3,
 l 29 28,
 la 30 4 4,
 bs 31 4 [I, I, I, B] [(0, 4, (t 30))],
 ap 32 4 32 29 31,
 f 33 4 3,
 s 33 32]
def f61o7 : List IOper := [
 b 34 .add (t 15) (i 1),
 m 15 34]
def f61l8 : IC := (q (o f61o3) (q (k 16 K (ex 0)) (q (bl 1 (q (o f61o4) (q (o f61o5) (o f61o6)))) (o f61o7))))
def f61o9 : List IOper := [
 la 35 5 3,
 sn 5 2 35]
def f61 : IFn := ⟨(q (o f61o0) (q (o f61o1) (q (q (o f61o2) (bl 0 (lp f61l8))) (q (o f61o9) R)))), [.cell 2 5 true], 36⟩
def f62o0 : List IOper := [
 mc 2 (v N),
 mc 3 (i 0),
 mc 4 (i 0)]
def f62o1 : List IOper := [
 m 14 0,
 c 15 87 [(t 14), (i 1)],
 m 13 15,
 e 16 13 0,
 e 17 13 1,
 e 18 13 2,
 m 5 16,
 m 6 17,
 m 7 18]
def f62o2 : List IOper := [
 m 19 7,
 b 20 .neq (t 19) (i 0)]
def f62o3 : List IOper := [
 m 21 7,
 mc 2 (v N),
 mc 3 (i 0),
 m 4 21]
def f62o4 : List IOper := [
 mc 8 (v N)]
def f62o5 : List IOper := [
 mc 9 (i 0)]
def f62o6 : List IOper := [
 m 22 9,
 m 23 5,
 b 24 .lss (t 22) (t 23)]
def f62o7 : List IOper := [
 m 28 0,
 m 29 6,
 op 30 (.slL 1 (t 28) (some (t 29)) none none),
 c 31 88 [(t 30)],
 m 27 31,
 e 32 27 0,
 e 33 27 1,
 e 34 27 2,
 m 10 32,
 m 11 33,
 m 12 34]
def f62o8 : List IOper := [
 m 35 12,
 b 36 .neq (t 35) (i 0)]
def f62o9 : List IOper := [
 m 37 12,
 mc 2 (v N),
 mc 3 (i 0),
 m 4 37]
def f62o10 : List IOper := [
 m 38 8,
 m 39 10,
 bs 40 1 [I] [(0, 1, (t 39))],
 ap 41 1 8 38 40,
 m 8 41]
def f62o11 : List IOper := [
 m 42 6,
 m 43 11,
 b 44 .add (t 42) (t 43),
 m 6 44]
def f62o12 : List IOper := [
 m 25 9,
 b 26 .add (t 25) (i 1),
 m 9 26]
def f62l13 : IC := (q (q (o f62o6) (k 24 K (ex 0))) (q (bl 1 (q (o f62o7) (q (q (o f62o8) (k 36 (q (o f62o9) R) K)) (q (o f62o10) (o f62o11))))) (o f62o12)))
def f62o14 : List IOper := [
 m 45 8,
 m 46 6,
 m 2 45,
 m 3 46,
 mc 4 (i 0)]
def f62 : IFn := ⟨(q (o f62o0) (q (o f62o1) (q (q (o f62o2) (k 20 (q (o f62o3) R) K)) (q (o f62o4) (q (q (o f62o5) (bl 0 (lp f62l13))) (q (o f62o14) R)))))), [.t 2, .t 3, .t 4], 47⟩
def f63o0 : List IOper := [
 mc 2 (i 0)]
def f63o1 : List IOper := [
 m 3 0]
def f63o2 : List IOper := [
 mc 2 (i 1)]
def f63o3 : List IOper := [
 mc 2 (i 0)]
def f63 : IFn := ⟨(q (o f63o0) (q (q (o f63o1) (k 3 (q (o f63o2) R) K)) (q (o f63o3) R))), [.t 2], 4⟩
def f64o0 : List IOper := [
 mc 2 (v N)]
def f64o1 : List IOper := [
 m 3 0,
 op 4 (.calls 89 [(t 3), (v (.fn 90 [] []))]),
 m 2 4]
def f64 : IFn := ⟨(q (o f64o0) (q (o f64o1) R)), [.t 2], 5⟩
def f65o0 : List IOper := [
 mc 2 (i 0)]
def f65o1 : List IOper := [
 m 3 0]
def f65o2 : List IOper := [
 mc 2 (i 1)]
def f65o3 : List IOper := [
 mc 2 (i 0)]
def f65 : IFn := ⟨(q (o f65o0) (q (q (o f65o1) (k 3 (q (o f65o2) R) K)) (q (o f65o3) R))), [.t 2], 4⟩
def f66o0 : List IOper := [
 mc 2 (v N)]
def f66o1 : List IOper := [
 m 5 0,
 n 6 1 5,
 op 7 (.callp 1 91 [(t 6)]),
 m 3 7]
def f66o2 : List IOper := [
 mc 4 (i 0)]
def f66o3 : List IOper := [
 m 8 4,
 m 9 0,
 n 10 1 9,
 b 11 .lss (t 8) (t 10)]
def f66o4 : List IOper := [
 m 14 3,
 m 15 0,
 m 16 4,
 is 17 1 15 (t 16),
 l 18 17,
 c 19 91 [(t 18)],
 ap 20 1 1 14 19,
 m 3 20]
def f66o5 : List IOper := [
 m 12 4,
 b 13 .add (t 12) (i 1),
 m 4 13]
def f66l6 : IC := (q (q (o f66o3) (k 11 K (ex 0))) (q (bl 1 (o f66o4)) (o f66o5)))
def f66o7 : List IOper := [
 m 21 3,
 m 2 21]
def f66 : IFn := ⟨(q (o f66o0) (q (o f66o1) (q (q (o f66o2) (bl 0 (lp f66l6))) (q (o f66o7) R)))), [.t 2], 22⟩
def f67o0 : List IOper := [
 x 3 30 0,
 mc 6 (v B)]
def f67o1 : List IOper := [
 m 7 2,
 b 8 .eql (t 7) (i 1),
 m 9 8,
 g 9 false (m 10 2),
 g 9 false (b 11 .eql (t 10) (i 4)),
 op 12 (.pick (t 9) (v (.bool true)) (t 11)),
 m 13 12,
 g 13 true (m 14 1),
 g 13 true (b 15 .geq (t 14) (i 0)),
 op 16 (.pick (t 13) (t 15) (v B)),
 m 17 16,
 g 17 true (m 18 1),
 g 17 true (m 19 2),
 g 17 true (b 20 .rem (t 18) (t 19)),
 g 17 true (b 21 .eql (t 20) (i 0)),
 op 22 (.pick (t 17) (t 21) (v B)),
 m 23 22,
 g 23 true (m 24 1),
 g 23 true (la 25 1 3),
 g 23 true (c 26 55 [(t 25)]),
 g 23 true (m 27 2),
 g 23 true (b 28 .sub (t 26) (t 27)),
 g 23 true (b 29 .leq (t 24) (t 28)),
 op 30 (.pick (t 23) (t 29) (v B)),
 m 6 30]
def f67 : IFn := ⟨(q (o f67o0) (q (o f67o1) R)), [.t 6], 31⟩
def f68o0 : List IOper := [
 mc 4 (i 0)]
def f68o1 : List IOper := [
 mc 5 (i 0)]
def f68o2 : List IOper := [
 mc 6 (i 0)]
def f68o3 : List IOper := [
 m 8 6,
 m 9 0,
 n 10 4 9,
 b 11 .lss (t 8) (t 10)]
def f68o4 : List IOper := [
 m 14 5,
 m 15 0,
 m 16 6,
 is 17 4 15 (t 16),
 f 18 2 17,
 l 19 18,
 b 20 .add (t 14) (t 19),
 m 5 20]
def f68o5 : List IOper := [
 m 12 6,
 b 13 .add (t 12) (i 1),
 m 6 13]
def f68l6 : IC := (q (q (o f68o3) (k 11 K (ex 0))) (q (bl 1 (o f68o4)) (o f68o5)))
def f68o7 : List IOper := [
 m 21 0,
 n 22 4 21,
 b 23 .eql (t 22) (i 0),
 m 24 23,
 g 24 false (m 25 5),
 g 24 false (b 26 .gtr (t 25) (i 128)),
 op 27 (.pick (t 24) (v (.bool true)) (t 26))]
def f68o8 : List IOper := [
 mc 4 (i 161)]
def f68o9 : List IOper := [
 mc 7 (i 0)]
def f68o10 : List IOper := [
 m 28 7,
 m 29 0,
 n 30 4 29,
 b 31 .lss (t 28) (t 30)]
def f68o11 : List IOper := [
 m 34 0,
 m 35 7,
 is 36 4 34 (t 35),
 f 37 3 36,
 l 38 37,
 m 39 1,
 op 40 (.eq false 1 (t 38) (t 39))]
def f68o12 : List IOper := [
 mc 4 (i 164)]
def f68o13 : List IOper := [
 m 32 7,
 b 33 .add (t 32) (i 1),
 m 7 33]
def f68l14 : IC := (q (q (o f68o10) (k 31 K (ex 2))) (q (bl 3 (q (o f68o11) (k 40 (q (o f68o12) R) K))) (o f68o13)))
def f68o15 : List IOper := [
 mc 4 (i 0)]
def f68 : IFn := ⟨(q (o f68o0) (q (o f68o1) (q (q (o f68o2) (bl 0 (lp f68l6))) (q (q (o f68o7) (k 27 (q (o f68o8) R) K)) (q (q (o f68o9) (bl 2 (lp f68l14))) (q (o f68o15) R)))))), [.t 4], 41⟩
def f69o0 : List IOper := [
 x 2 30 0,
 x 3 24 1,
 mc 4 (i 0)]
def f69o1 : List IOper := [
 f 5 1 3,
 l 6 5]
def f69o2 : List IOper := [
 b 8 .eql (t 6) (w 1),
 m 7 8]
def f69o3 : List IOper := [
 b 9 .eql (t 6) (w 2),
 m 7 9]
def f69o4 : List IOper := [
 b 10 .eql (t 6) (w 4),
 m 7 10]
def f69o5 : List IOper := [
 b 11 .eql (t 6) (w 8),
 m 7 11]
def f69o6 : List IOper := [
 f 12 0 3,
 l 13 12,
 b 14 .rem (t 13) (w 16),
 b 15 .eql (t 14) (w 0),
 m 16 15,
 g 16 true (f 17 0 3),
 g 16 true (l 18 17),
 g 16 true (cv 19 .i64 18),
 g 16 true (f 20 1 3),
 g 16 true (l 21 20),
 g 16 true (cv 22 .i64 21),
 g 16 true (b 23 .mul (i 16) (t 22)),
 g 16 true (b 24 .add (t 19) (t 23)),
 g 16 true (la 25 1 2),
 g 16 true (c 26 55 [(t 25)]),
 g 16 true (b 27 .leq (t 24) (t 26)),
 op 28 (.pick (t 16) (t 27) (v B))]
def f69o7 : List IOper := [
 mc 4 (i 0)]
def f69o8 : List IOper := [
 mc 4 (i 160)]
def f69 : IFn := ⟨(q (o f69o0) (q (q (o f69o1) (bl 0 (q (q (o f69o2) (k 7 K (q (o f69o3) (k 7 K (q (o f69o4) (k 7 K (o f69o5))))))) (k 7 (q (od f69o6) (k 28 (q (o f69o7) R) K)) K)))) (q (o f69o8) R))), [.t 4], 29⟩
def f70o0 : List IOper := [
 mc 4 (i 0)]
def f70o1 : List IOper := [
 mc 5 (i 0)]
def f70o2 : List IOper := [
 m 10 0,
 n 11 4 10,
 mc 12 (i 0)]
def f70o3 : List IOper := [
 b 13 .lss (t 12) (t 11)]
def f70o4 : List IOper := [
 is 14 4 10 (t 12),
 la 15 4 14,
 nw 7 103 [I, I, I, B],
 sn 4 7 15]
def f70o5 : List IOper := [
 m 16 5,
 f 17 2 7,
 l 18 17,
 b 19 .add (t 16) (t 18),
 m 5 19]
def f70o6 : List IOper := [
 b 20 .add (t 12) (i 1),
 m 12 20]
def f70l7 : IC := (q (o f70o3) (q (k 13 K (ex 0)) (q (bl 1 (q (o f70o4) (o f70o5))) (o f70o6))))
def f70o8 : List IOper := [
 m 21 5,
 b 22 .lss (t 21) (i 1),
 m 23 22,
 g 23 false (m 24 5),
 g 23 false (b 25 .gtr (t 24) (i 128)),
 op 26 (.pick (t 23) (v (.bool true)) (t 25))]
def f70o9 : List IOper := [
 mc 4 (i 161)]
def f70o10 : List IOper := [
 m 27 0,
 n 28 4 27,
 mc 29 (i 0)]
def f70o11 : List IOper := [
 b 30 .lss (t 29) (t 28)]
def f70o12 : List IOper := [
 is 31 4 27 (t 29),
 la 32 4 31,
 nw 9 103 [I, I, I, B],
 sn 4 9 32]
def f70o13 : List IOper := [
 f 33 3 9,
 l 34 33,
 m 35 1,
 op 36 (.eq false 1 (t 34) (t 35))]
def f70o14 : List IOper := [
 mc 4 (i 164)]
def f70o15 : List IOper := [
 b 37 .add (t 29) (i 1),
 m 29 37]
def f70l16 : IC := (q (o f70o11) (q (k 30 K (ex 2)) (q (bl 3 (q (o f70o12) (q (o f70o13) (k 36 (q (o f70o14) R) K)))) (o f70o15))))
def f70o17 : List IOper := [
 mc 4 (i 0)]
def f70 : IFn := ⟨(q (o f70o0) (q (o f70o1) (q (q (o f70o2) (bl 0 (lp f70l7))) (q (q (o f70o8) (k 26 (q (o f70o9) R) K)) (q (q (o f70o10) (bl 2 (lp f70l16))) (q (o f70o17) R)))))), [.t 4], 38⟩
def f71o0 : List IOper := [
 x 3 30 0,
 x 4 24 1,
 mc 6 (i 0),
 mc 7 (v B)]
def f71o1 : List IOper := [
 f 10 1 4,
 l 11 10,
 cv 12 .i64 11,
 mc 13 (i 0)]
def f71o2 : List IOper := [
 b 14 .lss (t 13) (t 12)]
def f71o3 : List IOper := [
 m 15 13,
 m 8 15]
def f71o4 : List IOper := [
 m 16 2,
 m 17 8,
 b 18 .add (t 16) (t 17),
 f 19 1 4,
 l 20 19,
 cv 21 .i64 20,
 b 22 .rem (t 18) (t 21),
 m 9 22]
def f71o5 : List IOper := [
 la 23 1 3,
 la 24 2 4,
 m 25 9,
 c 26 92 [(t 23), (t 24), (t 25)],
 fd 27 5 1 false 26,
 b 28 .eql (t 27) (w 1)]
def f71o6 : List IOper := [
 m 29 9,
 m 6 29,
 mc 7 (v (.bool true))]
def f71o7 : List IOper := [
 b 30 .add (t 13) (i 1),
 m 13 30]
def f71l8 : IC := (q (o f71o2) (q (k 14 K (ex 0)) (q (bl 1 (q (o f71o3) (q (o f71o4) (q (o f71o5) (k 28 (q (o f71o6) R) K))))) (o f71o7))))
def f71o9 : List IOper := [
 mc 6 (i 0),
 mc 7 (v B)]
def f71 : IFn := ⟨(q (o f71o0) (q (q (o f71o1) (bl 0 (lp f71l8))) (q (o f71o9) R))), [.t 6, .t 7], 31⟩
def f72o0 : List IOper := [
 x 3 30 0,
 x 4 24 1,
 nw 6 30 [N],
 mc 7 (v N),
 mc 8 (i 0)]
def f72o1 : List IOper := [
 mc 9 (v N)]
def f72o2 : List IOper := [
 op 17 (.mks false 1 8 [I] (i 0) (i 4)),
 m 10 17]
def f72o3 : List IOper := [
 m 18 2,
 mc 11 (v B),
 m 12 18,
 mc 13 (i 0)]
def f72o4 : List IOper := [
 la 19 1 3,
 la 20 2 4,
 m 21 12,
 c 22 92 [(t 19), (t 20), (t 21)],
 nw 14 166 [I, I, I, B, U, U],
 sn 6 14 22]
def f72o5 : List IOper := [
 m 23 10,
 n 24 1 23,
 mc 25 (i 0)]
def f72o6 : List IOper := [
 b 26 .lss (t 25) (t 24)]
def f72o7 : List IOper := [
 is 27 1 23 (t 25),
 l 28 27,
 m 16 28]
def f72o8 : List IOper := [
 m 29 16,
 m 30 12,
 b 31 .eql (t 29) (t 30)]
def f72o9 : List IOper := [
 mc 13 (i 163)]
def f72o10 : List IOper := [
 b 32 .add (t 25) (i 1),
 m 25 32]
def f72l11 : IC := (q (o f72o6) (q (k 26 K (ex 2)) (q (bl 3 (q (o f72o7) (q (o f72o8) (k 31 (q (o f72o9) (ex 0)) K)))) (o f72o10))))
def f72o12 : List IOper := [
 m 34 10,
 n 35 1 34,
 b 36 .eql (t 35) (i 4),
 m 33 36]
def f72o13 : List IOper := [
 mc 13 (i 163)]
def f72o14 : List IOper := [
 f 38 5 14,
 l 39 38,
 b 40 .neq (t 39) (w 1),
 m 37 40]
def f72o15 : List IOper := [
 mc 13 (i 165)]
def f72o16 : List IOper := [
 f 42 0 14,
 f 43 2 42,
 l 44 43,
 b 45 .lss (t 44) (i 1),
 m 46 45,
 g 46 false (f 47 0 14),
 g 46 false (f 48 2 47),
 g 46 false (l 49 48),
 g 46 false (b 50 .gtr (t 49) (i 512)),
 op 51 (.pick (t 46) (v (.bool true)) (t 50)),
 m 52 51,
 g 52 false (f 53 0 14),
 g 52 false (f 54 1 53),
 g 52 false (l 55 54),
 g 52 false (f 56 0 14),
 g 52 false (f 57 2 56),
 g 52 false (l 58 57),
 g 52 false (b 59 .add (t 55) (t 58)),
 g 52 false (la 60 1 3),
 g 52 false (c 61 55 [(t 60)]),
 g 52 false (b 62 .gtr (t 59) (t 61)),
 op 63 (.pick (t 52) (v (.bool true)) (t 62)),
 m 41 63]
def f72o17 : List IOper := [
 mc 13 (i 161)]
def f72o18 : List IOper := [
 la 65 6 14,
 c 66 93 [(t 65)],
 op 67 (.un .not (t 66)),
 m 68 67,
 g 68 false (m 69 11),
 g 68 false (m 70 69),
 g 70 true (f 71 0 14),
 g 70 true (f 72 3 71),
 g 70 true (l 73 72),
 g 70 true (op 74 (.un .not (t 73))),
 g 68 false (op 75 (.pick (t 70) (t 74) (v B))),
 op 76 (.pick (t 68) (v (.bool true)) (t 75)),
 m 64 76]
def f72o19 : List IOper := [
 mc 13 (i 164)]
def f72o20 : List IOper := [
 la 78 6 14,
 c 79 94 [(t 78)],
 m 80 79,
 g 80 true (la 81 6 14),
 g 80 true (c 82 95 [(t 81)]),
 g 80 true (f 83 1 4),
 g 80 true (l 84 83),
 g 80 true (cv 85 .i64 84),
 g 80 true (b 86 .geq (t 82) (t 85)),
 op 87 (.pick (t 80) (t 86) (v B)),
 m 77 87]
def f72o21 : List IOper := [
 mc 13 (i 162)]
def f72o22 : List IOper := [
 m 88 13,
 b 89 .neq (t 88) (i 0)]
def f72o23 : List IOper := [
 m 90 10,
 m 91 12,
 bs 92 1 [I] [(0, 1, (t 91))],
 ap 93 1 8 90 92,
 m 94 9,
 f 95 0 14,
 la 96 4 95,
 bs 97 4 [I, I, I, B] [(0, 4, (t 96))],
 ap 98 4 32 94 97,
 m 99 11,
 m 100 99,
 g 100 false (f 101 0 14),
 g 100 false (f 102 3 101),
 g 100 false (l 103 102),
 op 104 (.pick (t 100) (v (.bool true)) (t 103)),
 m 10 93,
 m 9 98,
 m 11 104]
def f72o24 : List IOper := [
 la 105 6 14,
 c 106 94 [(t 105)],
 op 107 (.un .not (t 106))]
def f72o25 : List IOper := [
 la 108 1 3,
 la 109 2 4,
 m 110 10,
 c 111 77 [(t 108), (t 109), (i 2), (t 110)],
 m 112 9,
 s 6 111,
 m 7 112,
 mc 8 (i 0)]
def f72o26 : List IOper := [
 la 113 6 14,
 c 114 95 [(t 113)],
 m 12 114]
def f72l27 : IC := (bl 1 (q (o f72o4) (q (q (o f72o5) (bl 2 (lp f72l11))) (q (bl 4 (q (o f72o12) (k 33 (o f72o13) (q (o f72o14) (k 37 (o f72o15) (q (od f72o16) (k 41 (o f72o17) (q (o f72o18) (k 64 (o f72o19) (q (od f72o20) (k 77 (o f72o21) K))))))))))) (q (q (o f72o22) (k 89 (ex 0) K)) (q (od f72o23) (q (q (o f72o24) (k 107 (q (o f72o25) R) K)) (o f72o26))))))))
def f72o28 : List IOper := [
 la 115 1 3,
 la 116 2 4,
 m 117 2,
 c 118 92 [(t 115), (t 116), (t 117)],
 fd 119 5 1 false 118,
 b 120 .eql (t 119) (w 1)]
def f72o29 : List IOper := [
 la 121 1 3,
 la 122 2 4,
 m 123 2,
 m 124 13,
 c 125 96 [(t 121), (t 122), (t 123), (t 124)],
 s 3 125]
def f72o30 : List IOper := [
 la 126 1 3,
 m 127 13,
 s 6 126,
 mc 7 (v N),
 m 8 127]
def f72 : IFn := ⟨(q (o f72o0) (q (o f72o1) (q (o f72o2) (q (o f72o3) (q K (q (bl 0 (lp f72l27)) (q (q (o f72o28) (k 120 (o f72o29) K)) (q (o f72o30) R)))))))), [.cell 6 1 true, .t 7, .t 8], 128⟩
def f73o0 : List IOper := [
 nw 4 57 [U, U, I, B, N],
 mc 5 (i 0)]
def f73o1 : List IOper := [
 m 10 1,
 is 11 4 10 (i 0),
 la 12 4 11,
 nw 6 103 [I, I, I, B],
 sn 4 6 12]
def f73o2 : List IOper := [
 f 13 2 6,
 l 14 13,
 b 15 .neq (t 14) (i 8),
 m 16 15,
 g 16 false (f 17 3 6),
 g 16 false (l 18 17),
 op 19 (.pick (t 16) (v (.bool true)) (t 18))]
def f73o3 : List IOper := [
 bd 20 [U, U, I, B, N] [],
 sn 5 4 20,
 mc 5 (i 161)]
def f73o4 : List IOper := [
 m 21 0,
 op 22 (.nchk (t 21)),
 f 23 0 22,
 f 24 0 23,
 la 25 1 24,
 f 26 1 6,
 l 27 26,
 c 28 97 [(t 25), (t 27)],
 m 29 0,
 op 30 (.nchk (t 29)),
 f 31 0 30,
 f 32 0 31,
 la 33 1 32,
 f 34 1 6,
 l 35 34,
 b 36 .add (t 35) (i 4),
 c 37 97 [(t 33), (t 36)],
 m 7 28,
 m 8 37]
def f73o5 : List IOper := [
 m 38 7,
 m 39 0,
 op 40 (.nchk (t 39)),
 f 41 5 40,
 f 42 4 41,
 l 43 42,
 n 44 128 43,
 cv 45 .u32 44,
 b 46 .geq (t 38) (t 45),
 m 47 46,
 g 47 false (m 48 8),
 g 47 false (b 49 .neq (t 48) (w 1)),
 g 47 false (m 50 49),
 g 50 true (m 51 8),
 g 50 true (b 52 .neq (t 51) (w 2)),
 g 47 false (op 53 (.pick (t 50) (t 52) (v B))),
 op 54 (.pick (t 47) (v (.bool true)) (t 53))]
def f73o6 : List IOper := [
 bd 55 [U, U, I, B, N] [],
 sn 5 4 55,
 mc 5 (i 161)]
def f73o7 : List IOper := [
 m 56 0,
 op 57 (.nchk (t 56)),
 f 58 5 57,
 f 59 0 58,
 la 60 2 59,
 m 61 7,
 cv 62 .i64 61,
 m 63 8,
 b 64 .eql (t 63) (w 2),
 m 65 1,
 bd 66 [U, U, I, B, N] [(0, 2, (t 60)), (2, 1, (t 62)), (3, 1, (t 64)), (4, 1, (t 65))],
 nw 9 57 [U, U, I, B, N],
 sn 5 9 66]
def f73o8 : List IOper := [
 la 67 5 9,
 m 68 1,
 op 69 (.slL 4 (t 68) (some (i 1)) none none),
 f 70 3 9,
 l 71 70,
 c 72 70 [(t 69), (t 71)],
 sn 5 4 67,
 m 5 72]
def f73 : IFn := ⟨(q (o f73o0) (q (o f73o1) (q (q (o f73o2) (k 19 (q (o f73o3) R) K)) (q (od f73o4) (q (q (o f73o5) (k 54 (q (o f73o6) R) K)) (q (o f73o7) (q (od f73o8) R))))))), [.cell 4 5 true, .t 5], 73⟩
def f74o0 : List IOper := [
 m 6 0,
 m 7 0,
 op 8 (.nchk (t 7)),
 f 9 0 8,
 f 10 0 9,
 la 11 1 10,
 m 12 0,
 op 13 (.nchk (t 12)),
 f 14 5 13,
 f 15 0 14,
 la 16 2 15,
 m 17 1,
 m 18 2,
 c 19 96 [(t 11), (t 16), (t 17), (t 18)],
 op 20 (.nchk (t 6)),
 f 21 0 20,
 f 22 0 21,
 s 22 19]
def f74o1 : List IOper := [
 m 23 0,
 m 24 0,
 m 25 2,
 op 26 (.nchk (t 23)),
 f 27 5 26,
 f 28 3 27,
 s 28 25,
 op 29 (.nchk (t 24)),
 f 30 0 29,
 f 31 3 30,
 op0 (.store 1 (t 31) (v (.bool true)))]
def f74 : IFn := ⟨(q (od f74o0) (o f74o1)), [], 32⟩
def f77o0 : List IOper := [
 x 4 30 0,
 x 5 24 1,
 nw 8 30 [N]]
def f77o1 : List IOper := [
 m 11 3,
 n 12 1 11,
 mc 13 (i 0)]
def f77o2 : List IOper := [
 b 14 .lss (t 13) (t 12)]
def f77o3 : List IOper := [
 is 15 1 11 (t 13),
 l 16 15,
 m 10 16]
def f77o4 : List IOper := [
 la 18 1 4,
 la 19 2 5,
 m 20 10,
 c 21 99 [(t 19), (t 20), (i 3)],
 m 22 2,
 cv 23 .u32 22,
 bd 24 [I, I, U] [(0, 1, (t 21)), (1, 1, (i 4)), (2, 1, (t 23))],
 c 25 54 [(t 18), (t 24)],
 m 17 25,
 e 26 17 0,
 e 27 17 1,
 s 4 26]
def f77o5 : List IOper := [
 b 28 .add (t 13) (i 1),
 m 13 28]
def f77l6 : IC := (q (o f77o2) (q (k 14 K (ex 0)) (q (bl 1 (q (o f77o3) (od f77o4))) (o f77o5))))
def f77o7 : List IOper := [
 la 29 1 4,
 s 8 29]
def f77 : IFn := ⟨(q (o f77o0) (q (q (o f77o1) (bl 0 (lp f77l6))) (q (o f77o7) R))), [.cell 8 1 true], 30⟩
def f78o0 : List IOper := [
 x 3 30 0,
 x 4 24 1,
 nw 6 144 [I, B]]
def f78o1 : List IOper := [
 f 9 1 4,
 l 10 9,
 cv 11 .i64 10,
 m 7 11]
def f78o2 : List IOper := [
 mc 8 (i 0)]
def f78o3 : List IOper := [
 m 12 8,
 m 13 7,
 b 14 .lss (t 12) (t 13)]
def f78o4 : List IOper := [
 la 17 1 3,
 la 18 2 4,
 m 19 2,
 m 20 8,
 b 21 .add (t 19) (t 20),
 m 22 7,
 b 23 .rem (t 21) (t 22),
 c 24 100 [(t 17), (t 18), (t 23), (i 3)],
 b 25 .eql (t 24) (i 1)]
def f78o5 : List IOper := [
 m 26 2,
 m 27 8,
 b 28 .add (t 26) (t 27),
 m 29 7,
 b 30 .rem (t 28) (t 29),
 bd 31 [I, B] [(0, 1, (t 30)), (1, 1, (v (.bool true)))],
 sn 2 6 31]
def f78o6 : List IOper := [
 m 15 8,
 b 16 .add (t 15) (i 1),
 m 8 16]
def f78l7 : IC := (q (q (o f78o3) (k 14 K (ex 0))) (q (bl 1 (q (od f78o4) (k 25 (q (o f78o5) R) K))) (o f78o6)))
def f78o8 : List IOper := [
 bd 32 [I, B] [],
 sn 2 6 32]
def f78 : IFn := ⟨(q (o f78o0) (q (o f78o1) (q (q (o f78o2) (bl 0 (lp f78l7))) (q (o f78o8) R)))), [.cell 6 2 true], 33⟩
def f79o0 : List IOper := [
 x 3 30 0,
 x 4 24 1,
 nw 6 147 [N, N, I]]
def f79o1 : List IOper := [
 mc 7 (v N)]
def f79o2 : List IOper := [
 m 11 2,
 m 8 11]
def f79o3 : List IOper := [
 la 12 1 3,
 la 13 2 4,
 m 14 7,
 m 15 8,
 c 16 101 [(t 12), (t 13), (t 14), (t 15)],
 m 9 16]
def f79o4 : List IOper := [
 m 17 9,
 b 18 .neq (t 17) (i 0)]
def f79o5 : List IOper := [
 la 19 1 3,
 la 20 2 4,
 m 21 2,
 c 22 100 [(t 19), (t 20), (t 21), (i 3)],
 b 23 .eql (t 22) (i 1)]
def f79o6 : List IOper := [
 la 24 1 3,
 la 25 2 4,
 m 26 2,
 m 27 9,
 b 28 .sub (t 27) (i 160),
 b 29 .add (i 4) (t 28),
 c 30 102 [(t 24), (t 25), (t 26), (t 29)],
 s 3 30]
def f79o7 : List IOper := [
 la 31 1 3,
 m 32 9,
 bd 33 [N, N, I] [(0, 1, (t 31)), (2, 1, (t 32))],
 sn 3 6 33]
def f79o8 : List IOper := [
 la 34 1 3,
 la 35 2 4,
 m 36 8,
 c 37 100 [(t 34), (t 35), (t 36), (i 2)],
 m 10 37]
def f79o9 : List IOper := [
 m 38 7,
 m 39 8,
 la 40 1 3,
 la 41 2 4,
 m 42 8,
 c 43 100 [(t 40), (t 41), (t 42), (i 0)],
 la 44 1 3,
 la 45 2 4,
 m 46 8,
 c 47 100 [(t 44), (t 45), (t 46), (i 1)],
 m 48 10,
 b 49 .rem (t 48) (i 2),
 b 50 .eql (t 49) (i 1),
 bd 51 [I, I, I, B] [(0, 1, (t 39)), (1, 1, (t 43)), (2, 1, (t 47)), (3, 1, (t 50))],
 bs 52 4 [I, I, I, B] [(0, 4, (t 51))],
 ap 53 4 32 38 52,
 m 7 53]
def f79o10 : List IOper := [
 m 54 10,
 b 55 .quo (t 54) (i 2),
 b 56 .rem (t 55) (i 2),
 b 57 .eql (t 56) (i 0)]
def f79o11 : List IOper := [
 la 58 1 3,
 la 59 2 4,
 m 60 7,
 c 61 83 [(t 58), (t 59), (t 60), (i 2)],
 m 62 7,
 bd 63 [N, N, I] [(0, 1, (t 61)), (1, 1, (t 62))],
 sn 3 6 63]
def f79o12 : List IOper := [
 m 64 10,
 b 65 .quo (t 64) (i 256),
 b 66 .rem (t 65) (i 256),
 m 8 66]
def f79l13 : IC := (bl 1 (q (o f79o3) (q (q (o f79o4) (k 18 (q (q (o f79o5) (k 23 (o f79o6) K)) (q (o f79o7) R)) K)) (q (o f79o8) (q (od f79o9) (q (q (o f79o10) (k 57 (q (o f79o11) R) K)) (o f79o12)))))))
def f79 : IFn := ⟨(q (o f79o0) (q (o f79o1) (q (o f79o2) (bl 0 (lp f79l13))))), [.cell 6 3 true], 67⟩
def f80o0 : List IOper := [
 x 3 43 0,
 nw 6 43 [U, U, I, I, N, N, N, U, N, B, B]]
def f80o1 : List IOper := [
 m 10 2,
 is 11 4 10 (i 0),
 f 12 2 11,
 l 13 12,
 b 14 .neq (t 13) (i 8),
 m 15 14,
 g 15 false (m 16 2),
 g 15 false (is 17 4 16 (i 0)),
 g 15 false (f 18 3 17),
 g 15 false (l 19 18),
 op 20 (.pick (t 15) (v (.bool true)) (t 19))]
def f80o2 : List IOper := [
 la 21 11 3,
 m 22 1,
 c 23 103 [(t 21), (t 22), (i 161)],
 sn 11 6 23]
def f80o3 : List IOper := [
 f 24 6 3,
 f 25 0 24,
 la 26 1 25,
 m 27 2,
 is 28 4 27 (i 0),
 f 29 1 28,
 l 30 29,
 c 31 104 [(t 26), (t 30)],
 m 7 31]
def f80o4 : List IOper := [
 f 32 6 3,
 f 33 0 32,
 la 34 1 33,
 m 35 2,
 is 36 4 35 (i 0),
 f 37 1 36,
 l 38 37,
 b 39 .add (t 38) (i 4),
 c 40 104 [(t 34), (t 39)],
 m 8 40]
def f80o5 : List IOper := [
 m 41 7,
 f 42 0 3,
 f 43 4 42,
 l 44 43,
 n 45 128 44,
 b 46 .geq (t 41) (t 45),
 m 47 46,
 g 47 false (m 48 8),
 g 47 false (b 49 .neq (t 48) (i 1)),
 g 47 false (m 50 49),
 g 50 true (m 51 8),
 g 50 true (b 52 .neq (t 51) (i 2)),
 g 47 false (op 53 (.pick (t 50) (t 52) (v B))),
 op 54 (.pick (t 47) (v (.bool true)) (t 53))]
def f80o6 : List IOper := [
 la 55 11 3,
 m 56 1,
 c 57 103 [(t 55), (t 56), (i 161)],
 sn 11 6 57]
def f80o7 : List IOper := [
 m 58 2,
 op 59 (.slL 4 (t 58) (some (i 1)) none none),
 m 60 8,
 b 61 .eql (t 60) (i 2),
 c 62 68 [(t 59), (t 61)],
 m 9 62]
def f80o8 : List IOper := [
 m 63 9,
 b 64 .neq (t 63) (i 0)]
def f80o9 : List IOper := [
 la 65 11 3,
 m 66 1,
 m 67 9,
 c 68 103 [(t 65), (t 66), (t 67)],
 sn 11 6 68]
def f80o10 : List IOper := [
 bs 69 5 [] [],
 f 70 0 3,
 f 71 5 70,
 l 72 71,
 ap 73 5 48 69 72,
 f 74 0 3,
 f 75 0 74,
 la 76 2 75,
 m 77 7,
 m 78 8,
 b 79 .eql (t 78) (i 2),
 m 80 2,
 bd 81 [U, U, I, B, N] [(0, 2, (t 76)), (2, 1, (t 77)), (3, 1, (t 79)), (4, 1, (t 80))],
 bs 82 5 [U, U, I, B, N] [(0, 5, (t 81))],
 ap 83 5 48 73 82,
 f 84 0 3,
 f 85 5 84,
 s 85 83]
def f80o11 : List IOper := [
 la 86 11 3,
 sn 11 6 86]
def f80 : IFn := ⟨(q (o f80o0) (q (q (o f80o1) (k 20 (q (o f80o2) R) K)) (q (od f80o3) (q (od f80o4) (q (q (o f80o5) (k 54 (q (o f80o6) R) K)) (q (o f80o7) (q (q (o f80o8) (k 64 (q (o f80o9) R) K)) (q (od f80o10) (q (o f80o11) R))))))))), [.cell 6 11 true], 87⟩
def f81o0 : List IOper := [
 x 3 30 0,
 nw 6 151 [E, B]]
def f81o1 : List IOper := [
 m 9 1,
 b 10 .lss (t 9) (i 0),
 m 11 10,
 g 11 false (m 12 2),
 g 11 false (b 13 .lss (t 12) (i 0)),
 op 14 (.pick (t 11) (v (.bool true)) (t 13)),
 m 15 14,
 g 15 false (m 16 1),
 g 15 false (la 17 1 3),
 g 15 false (c 18 52 [(t 17)]),
 g 15 false (b 19 .gtr (t 16) (t 18)),
 op 20 (.pick (t 15) (v (.bool true)) (t 19)),
 m 21 20,
 g 21 false (m 22 2),
 g 21 false (la 23 1 3),
 g 21 false (c 24 52 [(t 23)]),
 g 21 false (m 25 1),
 g 21 false (b 26 .sub (t 24) (t 25)),
 g 21 false (b 27 .gtr (t 22) (t 26)),
 op 28 (.pick (t 21) (v (.bool true)) (t 27))]
def f81o2 : List IOper := [
 bd 29 [E, B] [],
 sn 2 6 29]
def f81o3 : List IOper := [
 mc 7 (v N)]
def f81o4 : List IOper := [
 mc 8 (i 0)]
def f81o5 : List IOper := [
 m 30 8,
 m 31 2,
 b 32 .lss (t 30) (t 31)]
def f81o6 : List IOper := [
 m 35 7,
 la 36 1 3,
 m 37 1,
 m 38 8,
 b 39 .add (t 37) (t 38),
 c 40 105 [(t 36), (t 39)],
 bs 41 1 [Y] [(0, 1, (t 40))],
 ap 42 1 1 35 41,
 m 7 42]
def f81o7 : List IOper := [
 m 33 8,
 b 34 .add (t 33) (i 1),
 m 8 34]
def f81l8 : IC := (q (q (o f81o5) (k 32 K (ex 0))) (q (bl 1 (o f81o6)) (o f81o7)))
def f81o9 : List IOper := [
 m 43 7,
 op 44 (.b2s (t 43)),
 bd 45 [E, B] [(0, 1, (t 44)), (1, 1, (v (.bool true)))],
 sn 2 6 45]
def f81 : IFn := ⟨(q (o f81o0) (q (q (o f81o1) (k 28 (q (o f81o2) R) K)) (q (o f81o3) (q (q (o f81o4) (bl 0 (lp f81l8))) (q (o f81o9) R))))), [.cell 6 2 true], 46⟩
def f82o0 : List IOper := [
 x 3 30 0,
 nw 6 154 [N, B]]
def f82o1 : List IOper := [
 m 9 1,
 b 10 .lss (t 9) (i 0),
 m 11 10,
 g 11 false (m 12 1),
 g 11 false (la 13 1 3),
 g 11 false (c 14 52 [(t 13)]),
 g 11 false (b 15 .gtr (t 12) (t 14)),
 op 16 (.pick (t 11) (v (.bool true)) (t 15)),
 m 17 16,
 g 17 false (m 18 2),
 g 17 false (ns 19 18),
 g 17 false (la 20 1 3),
 g 17 false (c 21 52 [(t 20)]),
 g 17 false (m 22 1),
 g 17 false (b 23 .sub (t 21) (t 22)),
 g 17 false (b 24 .gtr (t 19) (t 23)),
 op 25 (.pick (t 17) (v (.bool true)) (t 24))]
def f82o2 : List IOper := [
 la 26 1 3,
 bd 27 [N, B] [(0, 1, (t 26))],
 sn 2 6 27]
def f82o3 : List IOper := [
 la 28 1 3,
 op 29 (.callp 2 106 [(t 28)]),
 nw 7 30 [N],
 s 7 29]
def f82o4 : List IOper := [
 mc 8 (i 0)]
def f82o5 : List IOper := [
 m 30 8,
 m 31 2,
 ns 32 31,
 b 33 .lss (t 30) (t 32)]
def f82o6 : List IOper := [
 f 36 0 7,
 l 37 36,
 m 38 1,
 m 39 8,
 b 40 .add (t 38) (t 39),
 b 41 .quo (t 40) (i 128),
 m 42 1,
 m 43 8,
 b 44 .add (t 42) (t 43),
 b 45 .rem (t 44) (i 128),
 m 46 2,
 m 47 8,
 op 48 (.ixS (t 46) (t 47)),
 is 49 128 37 (t 41),
 ia 50 128 1 49 (t 45),
 s 50 48]
def f82o7 : List IOper := [
 m 34 8,
 b 35 .add (t 34) (i 1),
 m 8 35]
def f82l8 : IC := (q (q (o f82o5) (k 33 K (ex 0))) (q (bl 1 (od f82o6)) (o f82o7)))
def f82o9 : List IOper := [
 la 51 1 7,
 bd 52 [N, B] [(0, 1, (t 51)), (1, 1, (v (.bool true)))],
 sn 2 6 52]
def f82 : IFn := ⟨(q (o f82o0) (q (q (o f82o1) (k 25 (q (o f82o2) R) K)) (q (o f82o3) (q (q (o f82o4) (bl 0 (lp f82l8))) (q (o f82o9) R))))), [.cell 6 2 true], 53⟩
def f83o0 : List IOper := [
 x 4 30 0,
 x 5 24 1,
 nw 8 30 [N]]
def f83o1 : List IOper := [
 mc 9 (i 0)]
def f83o2 : List IOper := [
 m 10 9,
 m 11 2,
 n 12 4 11,
 b 13 .lss (t 10) (t 12)]
def f83o3 : List IOper := [
 la 16 1 4,
 la 17 2 5,
 m 18 2,
 m 19 9,
 is 20 4 18 (t 19),
 f 21 0 20,
 l 22 21,
 m 23 3,
 c 24 102 [(t 16), (t 17), (t 22), (t 23)],
 s 4 24]
def f83o4 : List IOper := [
 m 14 9,
 b 15 .add (t 14) (i 1),
 m 9 15]
def f83l5 : IC := (q (q (o f83o2) (k 13 K (ex 0))) (q (bl 1 (od f83o3)) (o f83o4)))
def f83o6 : List IOper := [
 la 25 1 4,
 s 8 25]
def f83 : IFn := ⟨(q (o f83o0) (q (q (o f83o1) (bl 0 (lp f83l5))) (q (o f83o6) R))), [.cell 8 1 true], 26⟩
def f84o0 : List IOper := [
 x 2 30 0,
 nw 4 30 [N],
 mc 5 (v B)]
def f84o1 : List IOper := [
 f 10 0 2,
 l 11 10,
 op 12 (.callp 2 56 [(t 11)]),
 bd 13 [N] [(0, 1, (t 12))],
 nw 6 111 [N],
 s 6 13]
def f84o2 : List IOper := [
 la 14 1 6,
 op 15 (.mkf 107 [(t 14)] []),
 m 7 15]
def f84o3 : List IOper := [
 m 16 1,
 n 17 3 16,
 mc 18 (i 0)]
def f84o4 : List IOper := [
 b 19 .lss (t 18) (t 17)]
def f84o5 : List IOper := [
 is 20 3 16 (t 18),
 la 21 3 20,
 nw 9 108 [I, I, U],
 sn 3 9 21]
def f84o6 : List IOper := [
 m 22 7,
 la 23 3 9,
 op 24 (.callv (t 22) [(t 23)]),
 op 25 (.un .not (t 24))]
def f84o7 : List IOper := [
 la 26 1 2,
 s 4 26,
 mc 5 (v B)]
def f84o8 : List IOper := [
 b 27 .add (t 18) (i 1),
 m 18 27]
def f84l9 : IC := (q (o f84o4) (q (k 19 K (ex 0)) (q (bl 1 (q (o f84o5) (q (o f84o6) (k 25 (q (o f84o7) R) K)))) (o f84o8))))
def f84o10 : List IOper := [
 f 28 0 6,
 l 29 28,
 bd 30 [N] [(0, 1, (t 29))],
 s 4 30,
 mc 5 (v (.bool true))]
def f84 : IFn := ⟨(q (o f84o0) (q (o f84o1) (q (o f84o2) (q (q (o f84o3) (bl 0 (lp f84l9))) (q (o f84o10) R))))), [.cell 4 1 true, .t 5], 31⟩
def f85o0 : List IOper := [
 mc 6 (v N),
 mc 7 (i 0),
 mc 8 (i 0)]
def f85o1 : List IOper := [
 m 17 0,
 m 18 1,
 c 19 108 [(t 17), (t 18)],
 m 16 19,
 e 20 16 0,
 e 21 16 1,
 e 22 16 2,
 m 9 20,
 m 10 21,
 m 11 22]
def f85o2 : List IOper := [
 m 23 11,
 b 24 .neq (t 23) (i 0)]
def f85o3 : List IOper := [
 m 25 11,
 mc 6 (v N),
 mc 7 (i 0),
 m 8 25]
def f85o4 : List IOper := [
 mc 12 (v N)]
def f85o5 : List IOper := [
 m 26 9,
 mc 27 (i 0)]
def f85o6 : List IOper := [
 b 28 .lss (t 27) (t 26)]
def f85o7 : List IOper := [
 m 30 2,
 m 31 0,
 m 32 10,
 op 33 (.slL 1 (t 31) (some (t 32)) none none),
 op 34 (.callv (t 30) [(t 33)]),
 m 29 34,
 e 35 29 0,
 e 36 29 1,
 e 37 29 2,
 m 13 35,
 m 14 36,
 m 15 37]
def f85o8 : List IOper := [
 m 38 15,
 b 39 .neq (t 38) (i 0)]
def f85o9 : List IOper := [
 m 40 15,
 mc 6 (v N),
 mc 7 (i 0),
 m 8 40]
def f85o10 : List IOper := [
 m 41 12,
 m 42 13,
 bs 43 1 [I] [(0, 1, (t 42))],
 ap 44 1 8 41 43,
 m 45 10,
 m 46 14,
 b 47 .add (t 45) (t 46),
 m 12 44,
 m 10 47]
def f85o11 : List IOper := [
 b 48 .add (t 27) (i 1),
 m 27 48]
def f85l12 : IC := (q (o f85o6) (q (k 28 K (ex 0)) (q (bl 1 (q (o f85o7) (q (q (o f85o8) (k 39 (q (o f85o9) R) K)) (o f85o10)))) (o f85o11))))
def f85o13 : List IOper := [
 m 49 12,
 m 50 10,
 m 6 49,
 m 7 50,
 mc 8 (i 0)]
def f85 : IFn := ⟨(q (o f85o0) (q (o f85o1) (q (q (o f85o2) (k 24 (q (o f85o3) R) K)) (q (o f85o4) (q (q (o f85o5) (bl 0 (lp f85l12))) (q (o f85o13) R)))))), [.t 6, .t 7, .t 8], 51⟩
def f86o0 : List IOper := [
 mc 2 (i 0),
 mc 3 (i 0),
 mc 4 (i 0)]
def f86o1 : List IOper := [
 mc 5 (v (.int .u64 0))]
def f86o2 : List IOper := [
 mc 6 (i 0)]
def f86o3 : List IOper := [
 m 9 0,
 n 10 1 9,
 mc 11 (i 0)]
def f86o4 : List IOper := [
 b 12 .lss (t 11) (t 10)]
def f86o5 : List IOper := [
 m 13 11,
 is 14 1 9 (t 11),
 l 15 14,
 m 7 13,
 m 8 15]
def f86o6 : List IOper := [
 m 25 7,
 b 26 .eql (t 25) (i 9),
 m 27 26,
 g 27 true (m 28 8),
 g 27 true (b 29 .gtr (t 28) (y 1)),
 op 30 (.pick (t 27) (t 29) (v B)),
 m 24 30]
def f86o7 : List IOper := [
 m 31 7,
 b 32 .gtr (t 31) (i 0),
 m 33 32,
 g 33 true (m 34 8),
 g 33 true (b 35 .eql (t 34) (y 0)),
 op 36 (.pick (t 33) (t 35) (v B)),
 m 24 36]
def f86o8 : List IOper := [
 mc 2 (i 0),
 mc 3 (i 0),
 mc 4 (i 11)]
def f86o9 : List IOper := [
 m 16 5,
 m 17 8,
 b 18 .and (t 17) (y 127),
 cv 19 .u64 18,
 m 20 7,
 b 21 .mul (i 7) (t 20),
 b 22 .shl (t 19) (t 21),
 b 23 .or (t 16) (t 22),
 m 5 23]
def f86o10 : List IOper := [
 m 37 8,
 b 38 .lss (t 37) (y 128)]
def f86o11 : List IOper := [
 m 39 7,
 b 40 .add (t 39) (i 1),
 m 6 40]
def f86o12 : List IOper := [
 b 41 .add (t 11) (i 1),
 m 11 41]
def f86l13 : IC := (q (o f86o4) (q (k 12 K (ex 0)) (q (bl 1 (q (o f86o5) (q (bl 2 (q (q (o f86o6) (k 24 K (o f86o7))) (k 24 (q (o f86o8) R) (o f86o9)))) (q (o f86o10) (k 38 (q (o f86o11) (ex 0)) K))))) (o f86o12))))
def f86o14 : List IOper := [
 m 42 6,
 b 43 .eql (t 42) (i 0)]
def f86o15 : List IOper := [
 mc 2 (i 0),
 mc 3 (i 0),
 mc 4 (i 10)]
def f86o16 : List IOper := [
 m 44 5,
 b 45 .shr (t 44) (v (.int .u64 1)),
 cv 46 .i64 45,
 m 47 5,
 b 48 .and (t 47) (v (.int .u64 1)),
 cv 49 .i64 48,
 op 50 (.un .neg (t 49)),
 b 51 .xor (t 46) (t 50),
 m 52 6,
 m 2 51,
 m 3 52,
 mc 4 (i 0)]
def f86 : IFn := ⟨(q (o f86o0) (q (o f86o1) (q (o f86o2) (q K (q (q (o f86o3) (bl 0 (lp f86l13))) (q (q (o f86o14) (k 43 (q (o f86o15) R) K)) (q (o f86o16) R))))))), [.t 2, .t 3, .t 4], 53⟩
def f87o0 : List IOper := [
 mc 4 (i 0),
 mc 5 (i 0),
 mc 6 (i 0)]
def f87o1 : List IOper := [
 m 11 0,
 c 12 88 [(t 11)],
 m 10 12,
 e 13 10 0,
 e 14 10 1,
 e 15 10 2,
 m 7 13,
 m 8 14,
 m 9 15]
def f87o2 : List IOper := [
 m 16 9,
 b 17 .neq (t 16) (i 0)]
def f87o3 : List IOper := [
 m 18 9,
 mc 4 (i 0),
 mc 5 (i 0),
 m 6 18]
def f87o4 : List IOper := [
 m 19 7,
 b 20 .lss (t 19) (i 0)]
def f87o5 : List IOper := [
 mc 4 (i 0),
 mc 5 (i 0),
 mc 6 (i 11)]
def f87o6 : List IOper := [
 m 21 7,
 m 22 0,
 n 23 1 22,
 m 24 8,
 b 25 .sub (t 23) (t 24),
 m 26 1,
 b 27 .quo (t 25) (t 26),
 b 28 .gtr (t 21) (t 27)]
def f87o7 : List IOper := [
 mc 4 (i 0),
 mc 5 (i 0),
 mc 6 (i 10)]
def f87o8 : List IOper := [
 m 29 7,
 m 30 8,
 m 4 29,
 m 5 30,
 mc 6 (i 0)]
def f87 : IFn := ⟨(q (o f87o0) (q (o f87o1) (q (q (o f87o2) (k 17 (q (o f87o3) R) K)) (q (q (o f87o4) (k 20 (q (o f87o5) R) K)) (q (q (o f87o6) (k 28 (q (o f87o7) R) K)) (q (o f87o8) R)))))), [.t 4, .t 5, .t 6], 31⟩
def f88o0 : List IOper := [
 mc 2 (i 0),
 mc 3 (i 0),
 mc 4 (i 0)]
def f88o1 : List IOper := [
 mc 5 (i 0)]
def f88o2 : List IOper := [
 m 8 5,
 m 9 0,
 n 10 1 9,
 b 11 .lss (t 8) (t 10),
 m 12 11,
 g 12 true (m 13 5),
 g 12 true (b 14 .lss (t 13) (i 10)),
 op 15 (.pick (t 12) (t 14) (v B)),
 m 16 15,
 g 16 true (m 17 0),
 g 16 true (m 18 5),
 g 16 true (is 19 1 17 (t 18)),
 g 16 true (l 20 19),
 g 16 true (b 21 .geq (t 20) (y 128)),
 op 22 (.pick (t 16) (t 21) (v B))]
def f88o3 : List IOper := [
 m 23 5,
 b 24 .add (t 23) (i 1),
 m 5 24]
def f88l4 : IC := (q (q (o f88o2) (k 22 K (ex 0))) (bl 1 (o f88o3)))
def f88o5 : List IOper := [
 m 25 5,
 b 26 .eql (t 25) (i 10)]
def f88o6 : List IOper := [
 mc 2 (i 0),
 mc 3 (i 0),
 mc 4 (i 11)]
def f88o7 : List IOper := [
 m 27 5,
 m 28 0,
 n 29 1 28,
 b 30 .eql (t 27) (t 29)]
def f88o8 : List IOper := [
 mc 2 (i 0),
 mc 3 (i 0),
 mc 4 (i 10)]
def f88o9 : List IOper := [
 m 31 5,
 b 32 .eql (t 31) (i 9),
 m 33 32,
 g 33 true (m 34 0),
 g 33 true (m 35 5),
 g 33 true (is 36 1 34 (t 35)),
 g 33 true (l 37 36),
 g 33 true (b 38 .gtr (t 37) (y 1)),
 op 39 (.pick (t 33) (t 38) (v B)),
 m 40 39,
 g 40 false (m 41 5),
 g 40 false (b 42 .gtr (t 41) (i 0)),
 g 40 false (m 43 42),
 g 43 true (m 44 0),
 g 43 true (m 45 5),
 g 43 true (is 46 1 44 (t 45)),
 g 43 true (l 47 46),
 g 43 true (b 48 .eql (t 47) (y 0)),
 g 40 false (op 49 (.pick (t 43) (t 48) (v B))),
 op 50 (.pick (t 40) (v (.bool true)) (t 49))]
def f88o10 : List IOper := [
 mc 2 (i 0),
 mc 3 (i 0),
 mc 4 (i 11)]
def f88o11 : List IOper := [
 mc 6 (v (.int .u64 0))]
def f88o12 : List IOper := [
 m 51 5,
 m 7 51]
def f88o13 : List IOper := [
 m 52 7,
 b 53 .geq (t 52) (i 0)]
def f88o14 : List IOper := [
 m 56 6,
 b 57 .mul (t 56) (v (.int .u64 128)),
 m 58 0,
 m 59 7,
 is 60 1 58 (t 59),
 l 61 60,
 b 62 .rem (t 61) (y 128),
 cv 63 .u64 62,
 b 64 .add (t 57) (t 63),
 m 6 64]
def f88o15 : List IOper := [
 m 54 7,
 b 55 .sub (t 54) (i 1),
 m 7 55]
def f88l16 : IC := (q (q (o f88o13) (k 53 K (ex 2))) (q (bl 3 (o f88o14)) (o f88o15)))
def f88o17 : List IOper := [
 m 65 6,
 b 66 .rem (t 65) (v (.int .u64 2)),
 b 67 .eql (t 66) (v (.int .u64 1))]
def f88o18 : List IOper := [
 m 68 6,
 b 69 .quo (t 68) (v (.int .u64 2)),
 cv 70 .i64 69,
 b 71 .sub (i (-1)) (t 70),
 m 72 5,
 b 73 .add (t 72) (i 1),
 m 2 71,
 m 3 73,
 mc 4 (i 0)]
def f88o19 : List IOper := [
 m 74 6,
 b 75 .quo (t 74) (v (.int .u64 2)),
 cv 76 .i64 75,
 m 77 5,
 b 78 .add (t 77) (i 1),
 m 2 76,
 m 3 78,
 mc 4 (i 0)]
def f88 : IFn := ⟨(q (o f88o0) (q (o f88o1) (q (bl 0 (lp f88l4)) (q (q (o f88o5) (k 26 (q (o f88o6) R) K)) (q (q (o f88o7) (k 30 (q (o f88o8) R) K)) (q (q (o f88o9) (k 50 (q (o f88o10) R) K)) (q (o f88o11) (q (q (o f88o12) (bl 2 (lp f88l16))) (q (q (o f88o17) (k 67 (q (o f88o18) R) K)) (q (o f88o19) R)))))))))), [.t 2, .t 3, .t 4], 79⟩
def f89o0 : List IOper := [
 mc 4 (v N)]
def f89o1 : List IOper := [
 m 8 0,
 n 9 1 8,
 op 10 (.callp 1 90 [(t 9)]),
 m 5 10]
def f89o2 : List IOper := [
 m 11 0,
 n 12 1 11,
 mc 13 (i 0)]
def f89o3 : List IOper := [
 b 14 .lss (t 13) (t 12)]
def f89o4 : List IOper := [
 is 15 1 11 (t 13),
 l 16 15,
 m 7 16]
def f89o5 : List IOper := [
 m 17 5,
 m 18 1,
 m 19 7,
 op 20 (.callv (t 18) [(t 19)]),
 ap 21 1 1 17 20,
 m 5 21]
def f89o6 : List IOper := [
 b 22 .add (t 13) (i 1),
 m 13 22]
def f89l7 : IC := (q (o f89o3) (q (k 14 K (ex 0)) (q (bl 1 (q (o f89o4) (o f89o5))) (o f89o6))))
def f89o8 : List IOper := [
 m 23 5,
 m 4 23]
def f89 : IFn := ⟨(q (o f89o0) (q (o f89o1) (q (q (o f89o2) (bl 0 (lp f89l7))) (q (o f89o8) R)))), [.t 4], 24⟩
def f90o0 : List IOper := [
 mc 2 (v N)]
def f90o1 : List IOper := [
 m 5 0,
 cv 6 .u64 5,
 b 7 .shl (t 6) (v (.int .u64 1)),
 m 8 0,
 b 9 .shr (t 8) (v (.int .u64 63)),
 cv 10 .u64 9,
 b 11 .xor (t 7) (t 10),
 m 3 11]
def f90o2 : List IOper := [
 mc 4 (v N)]
def f90o3 : List IOper := [
 m 12 3,
 b 13 .gtr (t 12) (v (.int .u64 127))]
def f90o4 : List IOper := [
 m 16 4,
 m 17 3,
 cv 18 .u8 17,
 b 19 .or (t 18) (y 128),
 bs 20 1 [Y] [(0, 1, (t 19))],
 ap 21 1 1 16 20,
 m 4 21]
def f90o5 : List IOper := [
 m 14 3,
 b 15 .shr (t 14) (v (.int .u64 7)),
 m 3 15]
def f90l6 : IC := (q (q (o f90o3) (k 13 K (ex 0))) (q (bl 1 (o f90o4)) (o f90o5)))
def f90o7 : List IOper := [
 m 22 4,
 m 23 3,
 cv 24 .u8 23,
 bs 25 1 [Y] [(0, 1, (t 24))],
 ap 26 1 1 22 25,
 m 2 26]
def f90 : IFn := ⟨(q (o f90o0) (q (o f90o1) (q (o f90o2) (q (bl 0 (lp f90l6)) (q (o f90o7) R))))), [.t 2], 27⟩
def f91o0 : List IOper := [
 mc 2 (v N)]
def f91o1 : List IOper := [
 m 5 0,
 cv 6 .u64 5,
 b 7 .mul (t 6) (v (.int .u64 2)),
 m 3 7]
def f91o2 : List IOper := [
 m 8 0,
 b 9 .lss (t 8) (i 0)]
def f91o3 : List IOper := [
 m 10 0,
 b 11 .sub (i (-1)) (t 10),
 cv 12 .u64 11,
 b 13 .mul (t 12) (v (.int .u64 2)),
 b 14 .add (t 13) (v (.int .u64 1)),
 m 3 14]
def f91o4 : List IOper := [
 mc 4 (v N)]
def f91o5 : List IOper := [
 m 15 3,
 b 16 .geq (t 15) (v (.int .u64 128))]
def f91o6 : List IOper := [
 m 17 4,
 m 18 3,
 b 19 .rem (t 18) (v (.int .u64 128)),
 cv 20 .u8 19,
 b 21 .add (t 20) (y 128),
 bs 22 1 [Y] [(0, 1, (t 21))],
 ap 23 1 1 17 22,
 m 4 23]
def f91o7 : List IOper := [
 m 24 3,
 b 25 .quo (t 24) (v (.int .u64 128)),
 m 3 25]
def f91l8 : IC := (q (q (o f91o5) (k 16 K (ex 0))) (bl 1 (q (o f91o6) (o f91o7))))
def f91o9 : List IOper := [
 m 26 4,
 m 27 3,
 cv 28 .u8 27,
 bs 29 1 [Y] [(0, 1, (t 28))],
 ap 30 1 1 26 29,
 m 2 30]
def f91 : IFn := ⟨(q (o f91o0) (q (o f91o1) (q (q (o f91o2) (k 9 (o f91o3) K)) (q (o f91o4) (q (bl 0 (lp f91l8)) (q (o f91o9) R)))))), [.t 2], 31⟩
def f92o0 : List IOper := [
 x 3 30 0,
 x 4 24 1,
 nw 6 166 [I, I, I, B, U, U]]
def f92o1 : List IOper := [
 nw 7 182 [U, U, U, U]]
def f92o2 : List IOper := [
 mc 9 (i 0)]
def f92o3 : List IOper := [
 b 10 .lss (t 9) (i 4)]
def f92o4 : List IOper := [
 m 11 9,
 m 8 11]
def f92o5 : List IOper := [
 m 13 8,
 la 14 1 3,
 la 15 2 4,
 m 16 2,
 m 17 8,
 c 18 99 [(t 15), (t 16), (t 17)],
 c 19 35 [(t 14), (t 18), (i 4)],
 m 12 19,
 e 20 12 0,
 e 21 12 1,
 ia 22 4 1 7 (t 13),
 s 22 20]
def f92o6 : List IOper := [
 b 23 .add (t 9) (i 1),
 m 9 23]
def f92l7 : IC := (q (o f92o3) (q (k 10 K (ex 0)) (q (bl 1 (q (o f92o4) (od f92o5))) (o f92o6))))
def f92o8 : List IOper := [
 m 24 2,
 ia 25 4 1 7 (i 0),
 l 26 25,
 cv 27 .i64 26,
 ia 28 4 1 7 (i 1),
 l 29 28,
 cv 30 .i64 29,
 ia 31 4 1 7 (i 2),
 l 32 31,
 b 33 .and (t 32) (w 1),
 b 34 .neq (t 33) (w 0),
 bd 35 [I, I, I, B] [(0, 1, (t 24)), (1, 1, (t 27)), (2, 1, (t 30)), (3, 1, (t 34))],
 ia 36 4 1 7 (i 2),
 l 37 36,
 ia 38 4 1 7 (i 3),
 l 39 38,
 bd 40 [I, I, I, B, U, U] [(0, 4, (t 35)), (4, 1, (t 37)), (5, 1, (t 39))],
 sn 6 6 40]
def f92 : IFn := ⟨(q (o f92o0) (q (o f92o1) (q (q (o f92o2) (bl 0 (lp f92l7))) (q (o f92o8) R)))), [.cell 6 6 true], 41⟩
def f93o0 : List IOper := [
 x 1 166 0,
 mc 2 (v B)]
def f93o1 : List IOper := [
 f 3 4 1,
 l 4 3,
 b 5 .andNot (t 4) (w 65283),
 b 6 .eql (t 5) (w 0),
 m 7 6,
 g 7 true (la 8 6 1),
 g 7 true (c 9 94 [(t 8)]),
 g 7 true (m 10 9),
 g 10 false (la 11 6 1),
 g 10 false (c 12 95 [(t 11)]),
 g 10 false (b 13 .eql (t 12) (i 0)),
 g 7 true (op 14 (.pick (t 10) (v (.bool true)) (t 13))),
 op 15 (.pick (t 7) (t 14) (v B)),
 m 2 15]
def f93 : IFn := ⟨(q (o f93o0) (q (o f93o1) R)), [.t 2], 16⟩
def f94o0 : List IOper := [
 x 1 166 0,
 mc 2 (v B)]
def f94o1 : List IOper := [
 f 3 4 1,
 l 4 3,
 b 5 .and (t 4) (w 2),
 b 6 .neq (t 5) (w 0),
 m 2 6]
def f94 : IFn := ⟨(q (o f94o0) (q (o f94o1) R)), [.t 2], 7⟩
def f95o0 : List IOper := [
 x 1 166 0,
 mc 2 (i 0)]
def f95o1 : List IOper := [
 f 3 4 1,
 l 4 3,
 b 5 .shr (t 4) (v (.int .u64 8)),
 b 6 .and (t 5) (w 255),
 cv 7 .i64 6,
 m 2 7]
def f95 : IFn := ⟨(q (o f95o0) (q (o f95o1) R)), [.t 2], 8⟩
def f96o0 : List IOper := [
 x 4 30 0,
 x 5 24 1,
 nw 8 30 [N]]
def f96o1 : List IOper := [
 m 9 3,
 b 10 .lss (t 9) (i 160),
 m 11 10,
 g 11 false (m 12 3),
 g 11 false (b 13 .gtr (t 12) (i 165)),
 op 14 (.pick (t 11) (v (.bool true)) (t 13))]
def f96o2 : List IOper := [
 la 15 1 4,
 s 8 15]
def f96o3 : List IOper := [
 la 16 1 4,
 la 17 2 5,
 m 18 3,
 b 19 .sub (t 18) (i 160),
 b 20 .add (i 4) (t 19),
 m 21 2,
 bs 22 1 [I] [(0, 1, (t 21))],
 c 23 77 [(t 16), (t 17), (t 20), (t 22)],
 s 8 23]
def f96 : IFn := ⟨(q (o f96o0) (q (q (o f96o1) (k 14 (q (o f96o2) R) K)) (q (o f96o3) R))), [.cell 8 1 true], 24⟩
def f97o0 : List IOper := [
 x 2 30 0,
 mc 4 (w 0)]
def f97o1 : List IOper := [
 la 8 1 2,
 m 9 1,
 c 10 29 [(t 8), (t 9), (i 4)],
 m 7 10,
 e 11 7 0,
 e 12 7 1,
 m 5 11,
 m 6 12]
def f97o2 : List IOper := [
 m 13 5,
 op 14 (.ixS (t 13) (i 0)),
 cv 15 .u32 14,
 m 16 5,
 op 17 (.ixS (t 16) (i 1)),
 cv 18 .u32 17,
 b 19 .shl (t 18) (v (.int .u64 8)),
 b 20 .or (t 15) (t 19),
 m 21 5,
 op 22 (.ixS (t 21) (i 2)),
 cv 23 .u32 22,
 b 24 .shl (t 23) (v (.int .u64 16)),
 b 25 .or (t 20) (t 24),
 m 26 5,
 op 27 (.ixS (t 26) (i 3)),
 cv 28 .u32 27,
 b 29 .shl (t 28) (v (.int .u64 24)),
 b 30 .or (t 25) (t 29),
 m 4 30]
def f97 : IFn := ⟨(q (o f97o0) (q (o f97o1) (q (od f97o2) R))), [.t 4], 31⟩
def f99o0 : List IOper := [
 x 3 24 0,
 mc 6 (i 0)]
def f99o1 : List IOper := [
 f 7 0 3,
 l 8 7,
 cv 9 .i64 8,
 m 10 1,
 b 11 .mul (i 16) (t 10),
 b 12 .add (t 9) (t 11),
 m 13 2,
 b 14 .mul (i 4) (t 13),
 b 15 .add (t 12) (t 14),
 m 6 15]
def f99 : IFn := ⟨(q (o f99o0) (q (o f99o1) R)), [.t 6], 16⟩
def f100o0 : List IOper := [
 x 4 30 0,
 x 5 24 1,
 mc 8 (i 0)]
def f100o1 : List IOper := [
 la 9 1 4,
 f 10 0 5,
 l 11 10,
 cv 12 .i64 11,
 m 13 2,
 b 14 .mul (i 16) (t 13),
 b 15 .add (t 12) (t 14),
 m 16 3,
 b 17 .mul (i 4) (t 16),
 b 18 .add (t 15) (t 17),
 c 19 110 [(t 9), (t 18), (i 4)],
 fd 20 0 1 false 19,
 cv 21 .i64 20,
 m 8 21]
def f100 : IFn := ⟨(q (o f100o0) (q (o f100o1) R)), [.t 8], 22⟩
def f101o0 : List IOper := [
 x 4 30 0,
 x 5 24 1,
 mc 8 (i 0)]
def f101o1 : List IOper := [
 la 14 1 4,
 la 15 2 5,
 m 16 3,
 c 17 100 [(t 14), (t 15), (t 16), (i 0)],
 m 9 17]
def f101o2 : List IOper := [
 la 18 1 4,
 la 19 2 5,
 m 20 3,
 c 21 100 [(t 18), (t 19), (t 20), (i 1)],
 m 10 21]
def f101o3 : List IOper := [
 la 22 1 4,
 la 23 2 5,
 m 24 3,
 c 25 100 [(t 22), (t 23), (t 24), (i 2)],
 m 11 25]
def f101o4 : List IOper := [
 m 26 11,
 b 27 .quo (t 26) (i 256),
 b 28 .rem (t 27) (i 256),
 m 12 28]
def f101o5 : List IOper := [
 m 29 11,
 b 30 .quo (t 29) (i 2),
 b 31 .rem (t 30) (i 2),
 b 32 .eql (t 31) (i 1),
 m 13 32]
def f101o6 : List IOper := [
 m 34 2,
 m 35 3,
 c 36 111 [(t 34), (t 35)],
 m 37 36,
 g 37 false (m 38 2),
 g 37 false (n 39 4 38),
 g 37 false (b 40 .geq (t 39) (i 4)),
 op 41 (.pick (t 37) (v (.bool true)) (t 40)),
 m 33 41]
def f101o7 : List IOper := [
 mc 8 (i 163)]
def f101o8 : List IOper := [
 la 43 1 4,
 la 44 2 5,
 m 45 3,
 c 46 100 [(t 43), (t 44), (t 45), (i 3)],
 b 47 .neq (t 46) (i 1),
 m 42 47]
def f101o9 : List IOper := [
 mc 8 (i 165)]
def f101o10 : List IOper := [
 m 49 10,
 b 50 .lss (t 49) (i 1),
 m 51 50,
 g 51 false (m 52 10),
 g 51 false (b 53 .gtr (t 52) (i 512)),
 op 54 (.pick (t 51) (v (.bool true)) (t 53)),
 m 55 54,
 g 55 false (m 56 9),
 g 55 false (m 57 10),
 g 55 false (b 58 .add (t 56) (t 57)),
 g 55 false (la 59 1 4),
 g 55 false (c 60 52 [(t 59)]),
 g 55 false (b 61 .gtr (t 58) (t 60)),
 op 62 (.pick (t 55) (v (.bool true)) (t 61)),
 m 48 62]
def f101o11 : List IOper := [
 mc 8 (i 161)]
def f101o12 : List IOper := [
 m 64 11,
 b 65 .quo (t 64) (i 4),
 b 66 .rem (t 65) (i 64),
 b 67 .neq (t 66) (i 0),
 m 68 67,
 g 68 false (m 69 11),
 g 68 false (b 70 .quo (t 69) (i 65536)),
 g 68 false (b 71 .neq (t 70) (i 0)),
 op 72 (.pick (t 68) (v (.bool true)) (t 71)),
 m 73 72,
 g 73 false (m 74 13),
 g 73 false (op 75 (.un .not (t 74))),
 g 73 false (m 76 75),
 g 76 true (m 77 12),
 g 76 true (b 78 .neq (t 77) (i 0)),
 g 73 false (op 79 (.pick (t 76) (t 78) (v B))),
 op 80 (.pick (t 73) (v (.bool true)) (t 79)),
 m 81 80,
 g 81 false (m 82 11),
 g 81 false (b 83 .rem (t 82) (i 2)),
 g 81 false (b 84 .eql (t 83) (i 0)),
 g 81 false (m 85 84),
 g 85 true (m 86 2),
 g 85 true (c 87 112 [(t 86)]),
 g 81 false (op 88 (.pick (t 85) (t 87) (v B))),
 op 89 (.pick (t 81) (v (.bool true)) (t 88)),
 m 63 89]
def f101o13 : List IOper := [
 mc 8 (i 164)]
def f101o14 : List IOper := [
 m 91 13,
 m 92 91,
 g 92 true (m 93 12),
 g 92 true (f 94 1 5),
 g 92 true (l 95 94),
 g 92 true (cv 96 .i64 95),
 g 92 true (b 97 .geq (t 93) (t 96)),
 op 98 (.pick (t 92) (t 97) (v B)),
 m 90 98]
def f101o15 : List IOper := [
 mc 8 (i 162)]
def f101o16 : List IOper := [
 mc 8 (i 0)]
def f101 : IFn := ⟨(q (o f101o0) (q (o f101o1) (q (o f101o2) (q (o f101o3) (q (o f101o4) (q (o f101o5) (q (bl 0 (q (o f101o6) (k 33 (q (o f101o7) R) (q (o f101o8) (k 42 (q (o f101o9) R) (q (o f101o10) (k 48 (q (o f101o11) R) (q (o f101o12) (k 63 (q (o f101o13) R) (q (o f101o14) (k 90 (q (o f101o15) R) K))))))))))) (q (o f101o16) R)))))))), [.t 8], 99⟩
def f102o0 : List IOper := [
 x 4 30 0,
 x 5 24 1,
 nw 8 30 [N]]
def f102o1 : List IOper := [
 la 9 1 4,
 f 10 0 5,
 l 11 10,
 cv 12 .i64 11,
 m 13 2,
 b 14 .mul (i 16) (t 13),
 b 15 .add (t 12) (t 14),
 b 16 .add (t 15) (i 12),
 m 17 3,
 cv 18 .u32 17,
 bd 19 [I, I, U] [(0, 1, (t 16)), (1, 1, (i 4)), (2, 1, (t 18))],
 c 20 113 [(t 9), (t 19)],
 fd 21 0 1 true 20,
 s 8 21]
def f102 : IFn := ⟨(q (o f102o0) (q (o f102o1) R)), [.cell 8 1 true], 22⟩
def f103o0 : List IOper := [
 x 3 43 0,
 nw 6 43 [U, U, I, I, N, N, N, U, N, B, B]]
def f103o1 : List IOper := [
 f 7 6 3,
 f 8 0 7,
 la 9 1 8,
 f 10 0 3,
 f 11 0 10,
 la 12 2 11,
 m 13 1,
 m 14 2,
 c 15 114 [(t 9), (t 12), (t 13), (t 14)],
 f 16 6 3,
 f 17 0 16,
 s 17 15]
def f103o2 : List IOper := [
 m 18 2,
 f 19 0 3,
 f 20 3 19,
 s 20 18]
def f103o3 : List IOper := [
 f 21 6 3,
 f 22 3 21,
 op0 (.store 1 (t 22) (v (.bool true)))]
def f103o4 : List IOper := [
 la 23 11 3,
 sn 11 6 23]
def f103 : IFn := ⟨(q (o f103o0) (q (o f103o1) (q (o f103o2) (q (o f103o3) (q (o f103o4) R))))), [.cell 6 11 true], 24⟩
def f104o0 : List IOper := [
 x 2 30 0,
 mc 4 (i 0)]
def f104o1 : List IOper := [
 la 6 1 2,
 m 7 1,
 c 8 81 [(t 6), (t 7), (i 4)],
 fd 9 0 1 false 8,
 m 5 9]
def f104o2 : List IOper := [
 m 10 5,
 op 11 (.ixS (t 10) (i 0)),
 cv 12 .i64 11,
 m 13 5,
 op 14 (.ixS (t 13) (i 1)),
 cv 15 .i64 14,
 b 16 .mul (i 256) (t 15),
 b 17 .add (t 12) (t 16),
 m 18 5,
 op 19 (.ixS (t 18) (i 2)),
 cv 20 .i64 19,
 b 21 .mul (i 65536) (t 20),
 b 22 .add (t 17) (t 21),
 m 23 5,
 op 24 (.ixS (t 23) (i 3)),
 cv 25 .i64 24,
 b 26 .mul (i 16777216) (t 25),
 b 27 .add (t 22) (t 26),
 m 4 27]
def f104 : IFn := ⟨(q (o f104o0) (q (o f104o1) (q (od f104o2) R))), [.t 4], 28⟩
def f105o0 : List IOper := [
 x 2 30 0,
 mc 4 (y 0)]
def f105o1 : List IOper := [
 f 5 0 2,
 l 6 5,
 m 7 1,
 b 8 .quo (t 7) (i 128),
 m 9 1,
 b 10 .rem (t 9) (i 128),
 is 11 128 6 (t 8),
 ia 12 128 1 11 (t 10),
 l 13 12,
 m 4 13]
def f105 : IFn := ⟨(q (o f105o0) (q (o f105o1) R)), [.t 4], 14⟩
def f106o0 : List IOper := [
 x 1 30 0,
 nw 2 30 [N]]
def f106o1 : List IOper := [
 bs 3 128 [] [],
 f 4 0 1,
 l 5 4,
 ap 6 128 128 3 5,
 bd 7 [N] [(0, 1, (t 6))],
 s 2 7]
def f106 : IFn := ⟨(q (o f106o0) (q (o f106o1) R)), [.cell 2 1 true], 8⟩
def f107o0 : List IOper := [
 x 2 111 0,
 x 3 108 1,
 mc 4 (v B)]
def f107o1 : List IOper := [
 f 6 0 2,
 l 7 6,
 bd 8 [N] [(0, 1, (t 7))],
 f 9 0 3,
 l 10 9,
 f 11 1 3,
 l 12 11,
 op 13 (.calln 67 [(t 8), (t 10), (t 12)]),
 op 14 (.un .not (t 13))]
def f107o2 : List IOper := [
 mc 4 (v B)]
def f107o3 : List IOper := [
 f 15 2 3,
 l 16 15,
 m 5 16]
def f107o4 : List IOper := [
 la 17 1 2,
 f 18 0 3,
 l 19 18,
 m 20 5,
 cv 21 .u8 20,
 m 22 5,
 b 23 .shr (t 22) (v (.int .u64 8)),
 cv 24 .u8 23,
 m 25 5,
 b 26 .shr (t 25) (v (.int .u64 16)),
 cv 27 .u8 26,
 m 28 5,
 b 29 .shr (t 28) (v (.int .u64 24)),
 cv 30 .u8 29,
 bs 31 1 [Y, Y, Y, Y] [(0, 1, (t 21)), (1, 1, (t 24)), (2, 1, (t 27)), (3, 1, (t 30))],
 f 32 1 3,
 l 33 32,
 op 34 (.slL 1 (t 31) none (some (t 33)) none),
 op 35 (.calls 57 [(t 17), (t 19), (t 34)])]
def f107o5 : List IOper := [
 mc 4 (v (.bool true))]
def f107 : IFn := ⟨(q (o f107o0) (q (q (o f107o1) (k 14 (q (o f107o2) R) K)) (q (o f107o3) (q (od f107o4) (q (o f107o5) R))))), [.t 4], 36⟩
def f108o0 : List IOper := [
 mc 4 (i 0),
 mc 5 (i 0),
 mc 6 (i 0)]
def f108o1 : List IOper := [
 m 11 0,
 c 12 86 [(t 11)],
 m 10 12,
 e 13 10 0,
 e 14 10 1,
 e 15 10 2,
 m 7 13,
 m 8 14,
 m 9 15]
def f108o2 : List IOper := [
 m 17 9,
 b 18 .neq (t 17) (i 0),
 m 16 18]
def f108o3 : List IOper := [
 m 19 9,
 mc 4 (i 0),
 mc 5 (i 0),
 m 6 19]
def f108o4 : List IOper := [
 m 21 7,
 b 22 .lss (t 21) (i 0),
 m 20 22]
def f108o5 : List IOper := [
 mc 4 (i 0),
 mc 5 (i 0),
 mc 6 (i 11)]
def f108o6 : List IOper := [
 m 24 7,
 m 25 0,
 n 26 1 25,
 m 27 8,
 b 28 .sub (t 26) (t 27),
 m 29 1,
 b 30 .quo (t 28) (t 29),
 b 31 .gtr (t 24) (t 30),
 m 23 31]
def f108o7 : List IOper := [
 mc 4 (i 0),
 mc 5 (i 0),
 mc 6 (i 10)]
def f108o8 : List IOper := [
 m 32 7,
 m 33 8,
 m 4 32,
 m 5 33,
 mc 6 (i 0)]
def f108 : IFn := ⟨(q (o f108o0) (q (o f108o1) (q (bl 0 (q (o f108o2) (k 16 (q (o f108o3) R) (q (o f108o4) (k 20 (q (o f108o5) R) (q (o f108o6) (k 23 (q (o f108o7) R) K))))))) (q (o f108o8) R)))), [.t 4, .t 5, .t 6], 34⟩
def f110o0 : List IOper := [
 x 3 30 0,
 nw 6 186 [U, B]]
def f110o1 : List IOper := [
 la 10 1 3,
 m 11 1,
 m 12 2,
 c 13 115 [(t 10), (t 11), (t 12)],
 m 7 13]
def f110o2 : List IOper := [
 m 14 7,
 op 15 (.un .not (t 14))]
def f110o3 : List IOper := [
 bd 16 [U, B] [],
 sn 2 6 16]
def f110o4 : List IOper := [
 mc 8 (w 0)]
def f110o5 : List IOper := [
 m 17 2,
 b 18 .sub (t 17) (i 1),
 m 9 18]
def f110o6 : List IOper := [
 m 19 9,
 b 20 .geq (t 19) (i 0)]
def f110o7 : List IOper := [
 m 23 8,
 b 24 .shl (t 23) (v (.int .u64 8)),
 la 25 1 3,
 m 26 1,
 m 27 9,
 b 28 .add (t 26) (t 27),
 c 29 105 [(t 25), (t 28)],
 cv 30 .u32 29,
 b 31 .or (t 24) (t 30),
 m 8 31]
def f110o8 : List IOper := [
 m 21 9,
 b 22 .sub (t 21) (i 1),
 m 9 22]
def f110l9 : IC := (q (q (o f110o6) (k 20 K (ex 0))) (q (bl 1 (o f110o7)) (o f110o8)))
def f110o10 : List IOper := [
 m 32 8,
 bd 33 [U, B] [(0, 1, (t 32)), (1, 1, (v (.bool true)))],
 sn 2 6 33]
def f110 : IFn := ⟨(q (o f110o0) (q (o f110o1) (q (q (o f110o2) (k 15 (q (o f110o3) R) K)) (q (o f110o4) (q (q (o f110o5) (bl 0 (lp f110l9))) (q (o f110o10) R)))))), [.cell 6 2 true], 34⟩
def f111o0 : List IOper := [
 mc 4 (v B)]
def f111o1 : List IOper := [
 mc 5 (i 0)]
def f111o2 : List IOper := [
 m 6 5,
 m 7 0,
 n 8 4 7,
 b 9 .lss (t 6) (t 8)]
def f111o3 : List IOper := [
 m 12 0,
 m 13 5,
 is 14 4 12 (t 13),
 f 15 0 14,
 l 16 15,
 m 17 1,
 b 18 .eql (t 16) (t 17)]
def f111o4 : List IOper := [
 mc 4 (v (.bool true))]
def f111o5 : List IOper := [
 m 10 5,
 b 11 .add (t 10) (i 1),
 m 5 11]
def f111l6 : IC := (q (q (o f111o2) (k 9 K (ex 0))) (q (bl 1 (q (o f111o3) (k 18 (q (o f111o4) R) K))) (o f111o5)))
def f111o7 : List IOper := [
 mc 4 (v B)]
def f111 : IFn := ⟨(q (o f111o0) (q (q (o f111o1) (bl 0 (lp f111l6))) (q (o f111o7) R))), [.t 4], 19⟩
def f112o0 : List IOper := [
 mc 2 (v B)]
def f112o1 : List IOper := [
 mc 3 (i 0)]
def f112o2 : List IOper := [
 m 4 3,
 m 5 0,
 n 6 4 5,
 b 7 .lss (t 4) (t 6)]
def f112o3 : List IOper := [
 m 10 0,
 m 11 3,
 is 12 4 10 (t 11),
 f 13 3 12,
 l 14 13]
def f112o4 : List IOper := [
 mc 2 (v (.bool true))]
def f112o5 : List IOper := [
 m 8 3,
 b 9 .add (t 8) (i 1),
 m 3 9]
def f112l6 : IC := (q (q (o f112o2) (k 7 K (ex 0))) (q (bl 1 (q (o f112o3) (k 14 (q (o f112o4) R) K))) (o f112o5)))
def f112o7 : List IOper := [
 mc 2 (v B)]
def f112 : IFn := ⟨(q (o f112o0) (q (q (o f112o1) (bl 0 (lp f112l6))) (q (o f112o7) R))), [.t 2], 15⟩
def f113o0 : List IOper := [
 x 2 30 0,
 x 3 108 1,
 nw 4 154 [N, B]]
def f113o1 : List IOper := [
 la 8 1 2,
 f 9 0 3,
 l 10 9,
 f 11 1 3,
 l 12 11,
 c 13 115 [(t 8), (t 10), (t 12)],
 m 5 13]
def f113o2 : List IOper := [
 m 14 5,
 op 15 (.un .not (t 14))]
def f113o3 : List IOper := [
 la 16 1 2,
 bd 17 [N, B] [(0, 1, (t 16))],
 sn 2 4 17]
def f113o4 : List IOper := [
 la 18 1 2,
 op 19 (.callp 2 106 [(t 18)]),
 nw 6 30 [N],
 s 6 19]
def f113o5 : List IOper := [
 mc 7 (i 0)]
def f113o6 : List IOper := [
 m 20 7,
 f 21 1 3,
 l 22 21,
 b 23 .lss (t 20) (t 22)]
def f113o7 : List IOper := [
 f 26 0 6,
 l 27 26,
 f 28 0 3,
 l 29 28,
 m 30 7,
 b 31 .add (t 29) (t 30),
 b 32 .quo (t 31) (i 128),
 f 33 0 3,
 l 34 33,
 m 35 7,
 b 36 .add (t 34) (t 35),
 b 37 .rem (t 36) (i 128),
 f 38 2 3,
 l 39 38,
 m 40 7,
 b 41 .mul (i 8) (t 40),
 b 42 .shr (t 39) (t 41),
 cv 43 .u8 42,
 is 44 128 27 (t 32),
 ia 45 128 1 44 (t 37),
 s 45 43]
def f113o8 : List IOper := [
 m 24 7,
 b 25 .add (t 24) (i 1),
 m 7 25]
def f113l9 : IC := (q (q (o f113o6) (k 23 K (ex 0))) (q (bl 1 (od f113o7)) (o f113o8)))
def f113o10 : List IOper := [
 la 46 1 6,
 bd 47 [N, B] [(0, 1, (t 46)), (1, 1, (v (.bool true)))],
 sn 2 4 47]
def f113 : IFn := ⟨(q (o f113o0) (q (o f113o1) (q (q (o f113o2) (k 15 (q (o f113o3) R) K)) (q (o f113o4) (q (q (o f113o5) (bl 0 (lp f113l9))) (q (o f113o10) R)))))), [.cell 4 2 true], 48⟩
def f114o0 : List IOper := [
 x 4 30 0,
 x 5 24 1,
 nw 8 30 [N]]
def f114o1 : List IOper := [
 m 9 3,
 b 10 .lss (t 9) (i 160),
 m 11 10,
 g 11 false (m 12 3),
 g 11 false (b 13 .gtr (t 12) (i 165)),
 op 14 (.pick (t 11) (v (.bool true)) (t 13))]
def f114o2 : List IOper := [
 la 15 1 4,
 s 8 15]
def f114o3 : List IOper := [
 la 16 1 4,
 la 17 2 5,
 m 18 2,
 m 19 3,
 b 20 .sub (t 19) (i 160),
 b 21 .add (i 4) (t 20),
 c 22 102 [(t 16), (t 17), (t 18), (t 21)],
 s 8 22]
def f114 : IFn := ⟨(q (o f114o0) (q (q (o f114o1) (k 14 (q (o f114o2) R) K)) (q (o f114o3) R))), [.cell 8 1 true], 23⟩
def f115o0 : List IOper := [
 x 3 30 0,
 mc 6 (v B)]
def f115o1 : List IOper := [
 m 7 2,
 b 8 .neq (t 7) (i 1),
 m 9 8,
 g 9 true (m 10 2),
 g 9 true (b 11 .neq (t 10) (i 4)),
 op 12 (.pick (t 9) (t 11) (v B))]
def f115o2 : List IOper := [
 mc 6 (v B)]
def f115o3 : List IOper := [
 m 13 1,
 b 14 .geq (t 13) (i 0),
 m 15 14,
 g 15 true (m 16 1),
 g 15 true (m 17 2),
 g 15 true (b 18 .rem (t 16) (t 17)),
 g 15 true (b 19 .eql (t 18) (i 0)),
 op 20 (.pick (t 15) (t 19) (v B)),
 m 21 20,
 g 21 true (m 22 1),
 g 21 true (la 23 1 3),
 g 21 true (c 24 52 [(t 23)]),
 g 21 true (m 25 2),
 g 21 true (b 26 .sub (t 24) (t 25)),
 g 21 true (b 27 .leq (t 22) (t 26)),
 op 28 (.pick (t 21) (t 27) (v B)),
 m 6 28]
def f115 : IFn := ⟨(q (o f115o0) (q (q (o f115o1) (k 12 (q (o f115o2) R) K)) (q (o f115o3) R))), [.t 6], 29⟩
end
noncomputable def prims : FuncId → Option Prim := fun f => if f = 42 then some (pGather (evCall FN0 20000)) else none
noncomputable def FN : FuncId → Option FnDef := FNof Try.prog hint prims
theorem fn3 : FN 3 = some (.code f3) := by kernel_rfl
theorem fn4 : FN 4 = some (.code f4) := by kernel_rfl
theorem fn5 : FN 5 = some (.code f5) := by kernel_rfl
theorem fn6 : FN 6 = some (.code f6) := by kernel_rfl
theorem fn7 : FN 7 = some (.code f7) := by kernel_rfl
theorem fn8 : FN 8 = some (.code f8) := by kernel_rfl
theorem fn9 : FN 9 = some (.code f9) := by kernel_rfl
theorem fn10 : FN 10 = some (.code f10) := by kernel_rfl
theorem fn11 : FN 11 = some (.code f11) := by kernel_rfl
theorem fn12 : FN 12 = some (.code f12) := by kernel_rfl
theorem fn13 : FN 13 = some (.code f13) := by kernel_rfl
theorem fn14 : FN 14 = some (.code f14) := by kernel_rfl
theorem fn15 : FN 15 = some (.code f15) := by kernel_rfl
theorem fn16 : FN 16 = some (.code f16) := by kernel_rfl
theorem fn17 : FN 17 = some (.code f17) := by kernel_rfl
theorem fn18 : FN 18 = some (.code f18) := by kernel_rfl
theorem fn19 : FN 19 = some (.code f19) := by kernel_rfl
theorem fn20 : FN 20 = some (.code f20) := by kernel_rfl
theorem fn21 : FN 21 = some (.code f21) := by kernel_rfl
theorem fn22 : FN 22 = some (.code f22) := by kernel_rfl
theorem fn23 : FN 23 = some (.code f23) := by kernel_rfl
theorem fn24 : FN 24 = some (.code f24) := by kernel_rfl
theorem fn25 : FN 25 = some (.code f25) := by kernel_rfl
theorem fn26 : FN 26 = some (.code f26) := by kernel_rfl
theorem fn27 : FN 27 = some (.code f27) := by kernel_rfl
theorem fn28 : FN 28 = some (.code f28) := by kernel_rfl
theorem fn29 : FN 29 = some (.code f29) := by kernel_rfl
theorem fn30 : FN 30 = some (.code f30) := by kernel_rfl
theorem fn31 : FN 31 = some (.code f31) := by kernel_rfl
theorem fn32 : FN 32 = some (.code f32) := by kernel_rfl
theorem fn33 : FN 33 = some (.code f33) := by kernel_rfl
theorem fn34 : FN 34 = some (.code f34) := by kernel_rfl
theorem fn35 : FN 35 = some (.code f35) := by kernel_rfl
theorem fn36 : FN 36 = some (.code f36) := by kernel_rfl
theorem fn37 : FN 37 = some (.code f37) := by kernel_rfl
theorem fn38 : FN 38 = some (.code f38) := by kernel_rfl
theorem fn39 : FN 39 = some (.code f39) := by kernel_rfl
theorem fn40 : FN 40 = some (.code f40) := by kernel_rfl
theorem fn41 : FN 41 = some (.code f41) := by kernel_rfl
theorem fn43 : FN 43 = some (.code f43) := by kernel_rfl
theorem fn44 : FN 44 = some (.code f44) := by kernel_rfl
theorem fn45 : FN 45 = some (.code f45) := by kernel_rfl
theorem fn46 : FN 46 = some (.code f46) := by kernel_rfl
theorem fn47 : FN 47 = some (.code f47) := by kernel_rfl
theorem fn48 : FN 48 = some (.code f48) := by kernel_rfl
theorem fn49 : FN 49 = some (.code f49) := by kernel_rfl
theorem fn50 : FN 50 = some (.code f50) := by kernel_rfl
theorem fn51 : FN 51 = some (.code f51) := by kernel_rfl
theorem fn52 : FN 52 = some (.code f52) := by kernel_rfl
theorem fn53 : FN 53 = some (.code f53) := by kernel_rfl
theorem fn54 : FN 54 = some (.code f54) := by kernel_rfl
theorem fn55 : FN 55 = some (.code f55) := by kernel_rfl
theorem fn56 : FN 56 = some (.code f56) := by kernel_rfl
theorem fn57 : FN 57 = some (.code f57) := by kernel_rfl
theorem fn58 : FN 58 = some (.code f58) := by kernel_rfl
theorem fn59 : FN 59 = some (.code f59) := by kernel_rfl
theorem fn60 : FN 60 = some (.code f60) := by kernel_rfl
theorem fn61 : FN 61 = some (.code f61) := by kernel_rfl
theorem fn62 : FN 62 = some (.code f62) := by kernel_rfl
theorem fn63 : FN 63 = some (.code f63) := by kernel_rfl
theorem fn64 : FN 64 = some (.code f64) := by kernel_rfl
theorem fn65 : FN 65 = some (.code f65) := by kernel_rfl
theorem fn66 : FN 66 = some (.code f66) := by kernel_rfl
theorem fn67 : FN 67 = some (.code f67) := by kernel_rfl
theorem fn68 : FN 68 = some (.code f68) := by kernel_rfl
theorem fn69 : FN 69 = some (.code f69) := by kernel_rfl
theorem fn70 : FN 70 = some (.code f70) := by kernel_rfl
theorem fn71 : FN 71 = some (.code f71) := by kernel_rfl
theorem fn72 : FN 72 = some (.code f72) := by kernel_rfl
theorem fn73 : FN 73 = some (.code f73) := by kernel_rfl
theorem fn74 : FN 74 = some (.code f74) := by kernel_rfl
theorem fn77 : FN 77 = some (.code f77) := by kernel_rfl
theorem fn78 : FN 78 = some (.code f78) := by kernel_rfl
theorem fn79 : FN 79 = some (.code f79) := by kernel_rfl
theorem fn80 : FN 80 = some (.code f80) := by kernel_rfl
theorem fn81 : FN 81 = some (.code f81) := by kernel_rfl
theorem fn82 : FN 82 = some (.code f82) := by kernel_rfl
theorem fn83 : FN 83 = some (.code f83) := by kernel_rfl
theorem fn84 : FN 84 = some (.code f84) := by kernel_rfl
theorem fn85 : FN 85 = some (.code f85) := by kernel_rfl
theorem fn86 : FN 86 = some (.code f86) := by kernel_rfl
theorem fn87 : FN 87 = some (.code f87) := by kernel_rfl
theorem fn88 : FN 88 = some (.code f88) := by kernel_rfl
theorem fn89 : FN 89 = some (.code f89) := by kernel_rfl
theorem fn90 : FN 90 = some (.code f90) := by kernel_rfl
theorem fn91 : FN 91 = some (.code f91) := by kernel_rfl
theorem fn92 : FN 92 = some (.code f92) := by kernel_rfl
theorem fn93 : FN 93 = some (.code f93) := by kernel_rfl
theorem fn94 : FN 94 = some (.code f94) := by kernel_rfl
theorem fn95 : FN 95 = some (.code f95) := by kernel_rfl
theorem fn96 : FN 96 = some (.code f96) := by kernel_rfl
theorem fn97 : FN 97 = some (.code f97) := by kernel_rfl
theorem fn99 : FN 99 = some (.code f99) := by kernel_rfl
theorem fn100 : FN 100 = some (.code f100) := by kernel_rfl
theorem fn101 : FN 101 = some (.code f101) := by kernel_rfl
theorem fn102 : FN 102 = some (.code f102) := by kernel_rfl
theorem fn103 : FN 103 = some (.code f103) := by kernel_rfl
theorem fn104 : FN 104 = some (.code f104) := by kernel_rfl
theorem fn105 : FN 105 = some (.code f105) := by kernel_rfl
theorem fn106 : FN 106 = some (.code f106) := by kernel_rfl
theorem fn107 : FN 107 = some (.code f107) := by kernel_rfl
theorem fn108 : FN 108 = some (.code f108) := by kernel_rfl
theorem fn110 : FN 110 = some (.code f110) := by kernel_rfl
theorem fn111 : FN 111 = some (.code f111) := by kernel_rfl
theorem fn112 : FN 112 = some (.code f112) := by kernel_rfl
theorem fn113 : FN 113 = some (.code f113) := by kernel_rfl
theorem fn114 : FN 114 = some (.code f114) := by kernel_rfl
theorem fn115 : FN 115 = some (.code f115) := by kernel_rfl
def FNl : FuncId → Option FnDef
  | 3 => some (.code f3)
  | 4 => some (.code f4)
  | 5 => some (.code f5)
  | 6 => some (.code f6)
  | 7 => some (.code f7)
  | 8 => some (.code f8)
  | 9 => some (.code f9)
  | 10 => some (.code f10)
  | 11 => some (.code f11)
  | 12 => some (.code f12)
  | 13 => some (.code f13)
  | 14 => some (.code f14)
  | 15 => some (.code f15)
  | 16 => some (.code f16)
  | 17 => some (.code f17)
  | 18 => some (.code f18)
  | 19 => some (.code f19)
  | 20 => some (.code f20)
  | 21 => some (.code f21)
  | 22 => some (.code f22)
  | 23 => some (.code f23)
  | 24 => some (.code f24)
  | 25 => some (.code f25)
  | 26 => some (.code f26)
  | 27 => some (.code f27)
  | 28 => some (.code f28)
  | 29 => some (.code f29)
  | 30 => some (.code f30)
  | 31 => some (.code f31)
  | 32 => some (.code f32)
  | 33 => some (.code f33)
  | 34 => some (.code f34)
  | 35 => some (.code f35)
  | 36 => some (.code f36)
  | 37 => some (.code f37)
  | 38 => some (.code f38)
  | 39 => some (.code f39)
  | 40 => some (.code f40)
  | 41 => some (.code f41)
  | 43 => some (.code f43)
  | 44 => some (.code f44)
  | 45 => some (.code f45)
  | 46 => some (.code f46)
  | 47 => some (.code f47)
  | 48 => some (.code f48)
  | 49 => some (.code f49)
  | 50 => some (.code f50)
  | 51 => some (.code f51)
  | 52 => some (.code f52)
  | 53 => some (.code f53)
  | 54 => some (.code f54)
  | 55 => some (.code f55)
  | 56 => some (.code f56)
  | 57 => some (.code f57)
  | 58 => some (.code f58)
  | 59 => some (.code f59)
  | 60 => some (.code f60)
  | 61 => some (.code f61)
  | 62 => some (.code f62)
  | 63 => some (.code f63)
  | 64 => some (.code f64)
  | 65 => some (.code f65)
  | 66 => some (.code f66)
  | 67 => some (.code f67)
  | 68 => some (.code f68)
  | 69 => some (.code f69)
  | 70 => some (.code f70)
  | 71 => some (.code f71)
  | 72 => some (.code f72)
  | 73 => some (.code f73)
  | 74 => some (.code f74)
  | 77 => some (.code f77)
  | 78 => some (.code f78)
  | 79 => some (.code f79)
  | 80 => some (.code f80)
  | 81 => some (.code f81)
  | 82 => some (.code f82)
  | 83 => some (.code f83)
  | 84 => some (.code f84)
  | 85 => some (.code f85)
  | 86 => some (.code f86)
  | 87 => some (.code f87)
  | 88 => some (.code f88)
  | 89 => some (.code f89)
  | 90 => some (.code f90)
  | 91 => some (.code f91)
  | 92 => some (.code f92)
  | 93 => some (.code f93)
  | 94 => some (.code f94)
  | 95 => some (.code f95)
  | 96 => some (.code f96)
  | 97 => some (.code f97)
  | 99 => some (.code f99)
  | 100 => some (.code f100)
  | 101 => some (.code f101)
  | 102 => some (.code f102)
  | 103 => some (.code f103)
  | 104 => some (.code f104)
  | 105 => some (.code f105)
  | 106 => some (.code f106)
  | 107 => some (.code f107)
  | 108 => some (.code f108)
  | 110 => some (.code f110)
  | 111 => some (.code f111)
  | 112 => some (.code f112)
  | 113 => some (.code f113)
  | 114 => some (.code f114)
  | 115 => some (.code f115)
  | _ => none
theorem FNl_le (f : FuncId) (d : FnDef) (h : FNl f = some d) : FN f = some d := by
  unfold FNl at h
  split at h <;> simp only [Option.some.injEq, reduceCtorEq] at h <;> subst h
  · exact fn3
  · exact fn4
  · exact fn5
  · exact fn6
  · exact fn7
  · exact fn8
  · exact fn9
  · exact fn10
  · exact fn11
  · exact fn12
  · exact fn13
  · exact fn14
  · exact fn15
  · exact fn16
  · exact fn17
  · exact fn18
  · exact fn19
  · exact fn20
  · exact fn21
  · exact fn22
  · exact fn23
  · exact fn24
  · exact fn25
  · exact fn26
  · exact fn27
  · exact fn28
  · exact fn29
  · exact fn30
  · exact fn31
  · exact fn32
  · exact fn33
  · exact fn34
  · exact fn35
  · exact fn36
  · exact fn37
  · exact fn38
  · exact fn39
  · exact fn40
  · exact fn41
  · exact fn43
  · exact fn44
  · exact fn45
  · exact fn46
  · exact fn47
  · exact fn48
  · exact fn49
  · exact fn50
  · exact fn51
  · exact fn52
  · exact fn53
  · exact fn54
  · exact fn55
  · exact fn56
  · exact fn57
  · exact fn58
  · exact fn59
  · exact fn60
  · exact fn61
  · exact fn62
  · exact fn63
  · exact fn64
  · exact fn65
  · exact fn66
  · exact fn67
  · exact fn68
  · exact fn69
  · exact fn70
  · exact fn71
  · exact fn72
  · exact fn73
  · exact fn74
  · exact fn77
  · exact fn78
  · exact fn79
  · exact fn80
  · exact fn81
  · exact fn82
  · exact fn83
  · exact fn84
  · exact fn85
  · exact fn86
  · exact fn87
  · exact fn88
  · exact fn89
  · exact fn90
  · exact fn91
  · exact fn92
  · exact fn93
  · exact fn94
  · exact fn95
  · exact fn96
  · exact fn97
  · exact fn99
  · exact fn100
  · exact fn101
  · exact fn102
  · exact fn103
  · exact fn104
  · exact fn105
  · exact fn106
  · exact fn107
  · exact fn108
  · exact fn110
  · exact fn111
  · exact fn112
  · exact fn113
  · exact fn114
  · exact fn115
end Go.Proofs.Ythplidagfcdibaa
