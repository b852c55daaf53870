/- Part 4 of the texts on which proofs about this seat rest: each says what it proves at its own head. No condition. -/
import Derived.Test.YtaeoaakblilfeaaM3
import Derived.KernelRfl
set_option linter.unusedVariables false
set_option linter.unusedSimpArgs false
/- The resolved functions of this seat, as printed (wip/abs/Print.lean), and the table of them. No condition. -/
namespace Go.Proofs.Ytaeoaakblilfeaa
open Go.Abs
section
open Go.O
def f3o0 : List IOper := [
 x 4 26 0,
 x 5 29 1,
 x 6 31 2,
 mc 8 (v B)]
def f3o1 : List IOper := [
 la 15 1 5,
 c 16 8 [(t 15)],
 op 17 (.un .not (t 16)),
 m 18 17,
 g 18 false (m 19 3),
 g 18 false (ns 20 19),
 g 18 false (b 21 .gtr (t 20) (i 600)),
 op 22 (.pick (t 18) (v (.bool true)) (t 21))]
def f3o2 : List IOper := [
 c 23 9 [],
 m 8 23]
def f3o3 : List IOper := [
 la 24 8 4,
 c 25 10 [(t 24)],
 la 26 8 4,
 c 27 11 [(t 26)],
 op 28 (.eq true 1 (t 25) (t 27)),
 m 29 28,
 g 29 false (la 30 8 4),
 g 29 false (c 31 12 [(t 30)]),
 g 29 false (op 32 (.b2s (t 31))),
 g 29 false (la 33 8 4),
 g 29 false (c 34 13 [(t 33)]),
 g 29 false (op 35 (.b2s (t 34))),
 g 29 false (b 36 .neq (t 32) (t 35)),
 op 37 (.pick (t 29) (v (.bool true)) (t 36))]
def f3o4 : List IOper := [
 mc 8 (v B)]
def f3o5 : List IOper := [
 la 38 8 4,
 c 39 11 [(t 38)],
 op 40 (.un .not (t 39))]
def f3o6 : List IOper := [
 c 41 9 [],
 m 8 41]
def f3o7 : List IOper := [
 la 43 8 4,
 la 44 1 5,
 la 45 3 6,
 c 46 14 [(t 43), (t 44), (t 45)],
 m 42 46,
 e 47 42 0,
 e 48 42 1,
 nw 9 26 [U, U, U, U, I, I, I, I],
 nw 10 39 [N, U, N, B, B],
 sn 8 9 47,
 sn 5 10 48]
def f3o8 : List IOper := [
 la 50 8 4,
 la 51 1 5,
 m 52 3,
 c 53 15 [(t 50), (t 51), (t 52)],
 m 49 53,
 e 54 49 0,
 e 55 49 1,
 nw 11 26 [U, U, U, U, I, I, I, I],
 nw 12 39 [N, U, N, B, B],
 sn 8 11 54,
 sn 5 12 55]
def f3o9 : List IOper := [
 la 56 8 4,
 la 57 1 5,
 la 58 3 6,
 c 59 16 [(t 56), (t 57), (t 58)],
 nw 13 44 [U, U, U, U, I, I, I, I, N, U, N, B, B],
 sn 13 13 59]
def f3o10 : List IOper := [
 la 60 8 4,
 la 61 1 5,
 m 62 3,
 c 63 17 [(t 60), (t 61), (t 62)],
 nw 14 44 [U, U, U, U, I, I, I, I, N, U, N, B, B],
 sn 13 14 63]
def f3o11 : List IOper := [
 c 64 9 [],
 m 65 64,
 g 65 true (la 66 8 9),
 g 65 true (f 67 0 13),
 g 65 true (la 68 8 67),
 g 65 true (op 69 (.eqA false [0, 0, 0, 0, 0, 0, 0, 0] (t 66) (t 68))),
 op 70 (.pick (t 65) (t 69) (v B)),
 m 71 70,
 g 71 true (la 72 5 10),
 g 71 true (f 73 8 13),
 g 71 true (la 74 5 73),
 g 71 true (c 75 18 [(t 72), (t 74)]),
 op 76 (.pick (t 71) (t 75) (v B)),
 m 77 76,
 g 77 true (la 78 8 11),
 g 77 true (f 79 0 14),
 g 77 true (la 80 8 79),
 g 77 true (op 81 (.eqA false [0, 0, 0, 0, 0, 0, 0, 0] (t 78) (t 80))),
 op 82 (.pick (t 77) (t 81) (v B)),
 m 83 82,
 g 83 true (la 84 5 12),
 g 83 true (f 85 8 14),
 g 83 true (la 86 5 85),
 g 83 true (c 87 18 [(t 84), (t 86)]),
 op 88 (.pick (t 83) (t 87) (v B)),
 m 8 88]
def f3 : IFn := ⟨(q (o f3o0) (q (q (o f3o1) (k 22 (q (o f3o2) R) K)) (q (q (od f3o3) (k 37 (q (o f3o4) R) K)) (q (q (o f3o5) (k 40 (q (o f3o6) R) K)) (q (o f3o7) (q (o f3o8) (q (o f3o9) (q (o f3o10) (q (o f3o11) R))))))))), [.t 8], 89⟩
def f4o0 : List IOper := [
 x 2 26 0,
 mc 4 (v B)]
def f4o1 : List IOper := [
 m 10 1,
 n 11 1 10,
 b 12 .gtr (t 11) (i 300)]
def f4o2 : List IOper := [
 c 13 9 [],
 m 4 13]
def f4o3 : List IOper := [
 m 15 1,
 c 16 19 [(t 15)],
 m 14 16,
 e 17 14 0,
 e 18 14 1,
 nw 5 26 [U, U, U, U, I, I, I, I],
 sn 8 5 17,
 m 6 18]
def f4o4 : List IOper := [
 m 19 1,
 c 20 20 [(t 19)],
 nw 7 53 [U, U, U, U, I, I, I, I, I],
 sn 9 7 20]
def f4o5 : List IOper := [
 la 22 8 2,
 c 23 12 [(t 22)],
 c 24 19 [(t 23)],
 m 21 24,
 e 25 21 0,
 e 26 21 1,
 nw 8 26 [U, U, U, U, I, I, I, I],
 sn 8 8 25,
 m 9 26]
def f4o6 : List IOper := [
 la 27 8 5,
 f 28 0 7,
 la 29 8 28,
 op 30 (.eqA true [0, 0, 0, 0, 0, 0, 0, 0] (t 27) (t 29)),
 m 31 30,
 g 31 false (m 32 6),
 g 31 false (f 33 8 7),
 g 31 false (l 34 33),
 g 31 false (b 35 .neq (t 32) (t 34)),
 op 36 (.pick (t 31) (v (.bool true)) (t 35)),
 m 37 36,
 g 37 false (m 38 6),
 g 37 false (b 39 .eql (t 38) (i 0)),
 g 37 false (m 40 39),
 g 40 true (la 41 8 5),
 g 40 true (c 42 12 [(t 41)]),
 g 40 true (op 43 (.b2s (t 42))),
 g 40 true (m 44 1),
 g 40 true (op 45 (.b2s (t 44))),
 g 40 true (b 46 .neq (t 43) (t 45)),
 g 37 false (op 47 (.pick (t 40) (t 46) (v B))),
 op 48 (.pick (t 37) (v (.bool true)) (t 47))]
def f4o7 : List IOper := [
 mc 4 (v B)]
def f4o8 : List IOper := [
 la 49 8 2,
 c 50 11 [(t 49)],
 op 51 (.un .not (t 50))]
def f4o9 : List IOper := [
 c 52 9 [],
 m 53 52,
 g 53 true (m 54 9),
 g 53 true (b 55 .eql (t 54) (i 3)),
 op 56 (.pick (t 53) (t 55) (v B)),
 m 4 56]
def f4o10 : List IOper := [
 c 57 9 [],
 m 58 57,
 g 58 true (m 59 9),
 g 58 true (b 60 .eql (t 59) (i 0)),
 op 61 (.pick (t 58) (t 60) (v B)),
 m 62 61,
 g 62 true (la 63 8 8),
 g 62 true (la 64 8 2),
 g 62 true (op 65 (.eqA false [0, 0, 0, 0, 0, 0, 0, 0] (t 63) (t 64))),
 op 66 (.pick (t 62) (t 65) (v B)),
 m 4 66]
def f4 : IFn := ⟨(q (o f4o0) (q (q (o f4o1) (k 12 (q (o f4o2) R) K)) (q (o f4o3) (q (o f4o4) (q (o f4o5) (q (q (od f4o6) (k 48 (q (o f4o7) R) K)) (q (q (o f4o8) (k 51 (q (o f4o9) R) K)) (q (o f4o10) R)))))))), [.t 4], 67⟩
def f5o0 : List IOper := [
 x 4 26 0,
 x 5 29 1,
 x 6 31 2,
 mc 8 (v B)]
def f5o1 : List IOper := [
 la 18 1 5,
 c 19 8 [(t 18)],
 op 20 (.un .not (t 19)),
 m 21 20,
 g 21 false (la 22 8 4),
 g 21 false (c 23 11 [(t 22)]),
 g 21 false (op 24 (.un .not (t 23))),
 op 25 (.pick (t 21) (v (.bool true)) (t 24)),
 m 26 25,
 g 26 false (m 27 3),
 g 26 false (ns 28 27),
 g 26 false (b 29 .gtr (t 28) (i 600)),
 op 30 (.pick (t 26) (v (.bool true)) (t 29))]
def f5o2 : List IOper := [
 c 31 9 [],
 m 8 31]
def f5o3 : List IOper := [
 la 33 8 4,
 la 34 1 5,
 la 35 3 6,
 c 36 14 [(t 33), (t 34), (t 35)],
 m 32 36,
 e 37 32 0,
 e 38 32 1,
 nw 9 26 [U, U, U, U, I, I, I, I],
 nw 10 39 [N, U, N, B, B],
 sn 8 9 37,
 sn 5 10 38]
def f5o4 : List IOper := [
 la 40 8 4,
 la 41 1 5,
 m 42 3,
 c 43 15 [(t 40), (t 41), (t 42)],
 m 39 43,
 e 44 39 0,
 e 45 39 1,
 nw 11 26 [U, U, U, U, I, I, I, I],
 nw 12 39 [N, U, N, B, B],
 sn 8 11 44,
 sn 5 12 45]
def f5o5 : List IOper := [
 f 46 0 10,
 f 47 0 46,
 l 48 47,
 n 49 128 48,
 f 50 0 5,
 l 51 50,
 n 52 128 51,
 b 53 .neq (t 49) (t 52),
 m 54 53,
 g 54 false (f 55 0 12),
 g 54 false (f 56 0 55),
 g 54 false (l 57 56),
 g 54 false (n 58 128 57),
 g 54 false (f 59 0 5),
 g 54 false (l 60 59),
 g 54 false (n 61 128 60),
 g 54 false (b 62 .neq (t 58) (t 61)),
 op 63 (.pick (t 54) (v (.bool true)) (t 62)),
 m 64 63,
 g 64 false (f 65 2 10),
 g 64 false (l 66 65),
 g 64 false (n 67 1 66),
 g 64 false (b 68 .gtr (t 67) (i 8)),
 op 69 (.pick (t 64) (v (.bool true)) (t 68)),
 m 70 69,
 g 70 false (f 71 2 12),
 g 70 false (l 72 71),
 g 70 false (n 73 1 72),
 g 70 false (b 74 .gtr (t 73) (i 0)),
 op 75 (.pick (t 70) (v (.bool true)) (t 74))]
def f5o6 : List IOper := [
 mc 8 (v B)]
def f5o7 : List IOper := [
 mc 13 (i 0)]
def f5o8 : List IOper := [
 m 76 13,
 f 77 2 10,
 l 78 77,
 n 79 1 78,
 b 80 .lss (t 76) (t 79)]
def f5o9 : List IOper := [
 f 83 2 10,
 l 84 83,
 m 85 13,
 is 86 1 84 (t 85),
 l 87 86,
 ns 88 87,
 b 89 .lss (t 88) (i 1),
 m 90 89,
 g 90 false (f 91 2 10),
 g 90 false (l 92 91),
 g 90 false (m 93 13),
 g 90 false (is 94 1 92 (t 93)),
 g 90 false (l 95 94),
 g 90 false (ns 96 95),
 g 90 false (b 97 .gtr (t 96) (i 512)),
 op 98 (.pick (t 90) (v (.bool true)) (t 97))]
def f5o10 : List IOper := [
 mc 8 (v B)]
def f5o11 : List IOper := [
 m 81 13,
 b 82 .add (t 81) (i 1),
 m 13 82]
def f5l12 : IC := (q (q (o f5o8) (k 80 K (ex 0))) (q (bl 1 (q (o f5o9) (k 98 (q (o f5o10) R) K))) (o f5o11)))
def f5o13 : List IOper := [
 la 99 1 5,
 f 100 0 4,
 la 101 2 100,
 c 102 21 [(t 99), (t 101)],
 b 103 .eql (t 102) (i 0),
 m 14 103]
def f5o14 : List IOper := [
 la 104 1 5,
 f 105 2 4,
 la 106 2 105,
 c 107 21 [(t 104), (t 106)],
 b 108 .eql (t 107) (i 0),
 m 15 108]
def f5o15 : List IOper := [
 f 109 2 10,
 l 110 109,
 n 111 1 110,
 b 112 .gtr (t 111) (i 0),
 m 113 112,
 g 113 true (m 114 14),
 g 113 true (op 115 (.un .not (t 114))),
 g 113 true (m 116 115),
 g 116 false (f 117 2 10),
 g 116 false (l 118 117),
 g 116 false (n 119 1 118),
 g 116 false (f 120 0 4),
 g 116 false (f 121 1 120),
 g 116 false (l 122 121),
 g 116 false (cv 123 .i64 122),
 g 116 false (b 124 .gtr (t 119) (t 123)),
 g 113 true (op 125 (.pick (t 116) (v (.bool true)) (t 124))),
 op 126 (.pick (t 113) (t 125) (v B)),
 m 127 126,
 g 127 false (f 128 4 12),
 g 127 false (l 129 128),
 g 127 false (m 130 129),
 g 130 true (m 131 15),
 g 130 true (op 132 (.un .not (t 131))),
 g 127 false (op 133 (.pick (t 130) (t 132) (v B))),
 op 134 (.pick (t 127) (v (.bool true)) (t 133))]
def f5o16 : List IOper := [
 mc 8 (v B)]
def f5o17 : List IOper := [
 mc 16 (i 0)]
def f5o18 : List IOper := [
 m 135 16,
 f 136 0 5,
 l 137 136,
 n 138 128 137,
 b 139 .mul (t 138) (i 128),
 b 140 .lss (t 135) (t 139)]
def f5o19 : List IOper := [
 la 143 1 5,
 m 144 16,
 c 145 22 [(t 143), (t 144)],
 m 17 145]
def f5o20 : List IOper := [
 m 146 17,
 f 147 0 10,
 la 148 1 147,
 m 149 16,
 c 150 22 [(t 148), (t 149)],
 b 151 .neq (t 146) (t 150),
 m 152 151,
 g 152 true (m 153 14),
 g 152 true (op 154 (.un .not (t 153))),
 g 152 true (m 155 154),
 g 155 false (f 156 0 4),
 g 155 false (la 157 2 156),
 g 155 false (m 158 16),
 g 155 false (c 159 23 [(t 157), (t 158)]),
 g 155 false (op 160 (.un .not (t 159))),
 g 152 true (op 161 (.pick (t 155) (v (.bool true)) (t 160))),
 g 152 true (m 162 161),
 g 162 false (m 163 16),
 g 162 false (f 164 0 4),
 g 162 false (f 165 0 164),
 g 162 false (l 166 165),
 g 162 false (cv 167 .i64 166),
 g 162 false (b 168 .sub (t 163) (t 167)),
 g 162 false (b 169 .rem (t 168) (i 16)),
 g 162 false (b 170 .lss (t 169) (i 12)),
 g 152 true (op 171 (.pick (t 162) (v (.bool true)) (t 170))),
 op 172 (.pick (t 152) (t 171) (v B))]
def f5o21 : List IOper := [
 mc 8 (v B)]
def f5o22 : List IOper := [
 m 173 17,
 f 174 0 12,
 la 175 1 174,
 m 176 16,
 c 177 22 [(t 175), (t 176)],
 b 178 .neq (t 173) (t 177),
 m 179 178,
 g 179 true (m 180 15),
 g 179 true (op 181 (.un .not (t 180))),
 g 179 true (m 182 181),
 g 182 false (f 183 2 4),
 g 182 false (la 184 2 183),
 g 182 false (m 185 16),
 g 182 false (c 186 23 [(t 184), (t 185)]),
 g 182 false (op 187 (.un .not (t 186))),
 g 182 false (m 188 187),
 g 188 true (la 189 1 5),
 g 188 true (f 190 2 4),
 g 188 true (la 191 2 190),
 g 188 true (m 192 16),
 g 188 true (c 193 24 [(t 189), (t 191), (t 192)]),
 g 188 true (op 194 (.un .not (t 193))),
 g 182 false (op 195 (.pick (t 188) (t 194) (v B))),
 g 179 true (op 196 (.pick (t 182) (v (.bool true)) (t 195))),
 op 197 (.pick (t 179) (t 196) (v B))]
def f5o23 : List IOper := [
 mc 8 (v B)]
def f5o24 : List IOper := [
 m 141 16,
 b 142 .add (t 141) (i 1),
 m 16 142]
def f5l25 : IC := (q (q (o f5o18) (k 140 K (ex 2))) (q (bl 3 (q (o f5o19) (q (q (o f5o20) (k 172 (q (o f5o21) R) K)) (q (o f5o22) (k 197 (q (o f5o23) R) K))))) (o f5o24)))
def f5o26 : List IOper := [
 c 198 9 [],
 m 8 198]
def f5 : IFn := ⟨(q (o f5o0) (q (q (o f5o1) (k 30 (q (o f5o2) R) K)) (q (o f5o3) (q (o f5o4) (q (q (o f5o5) (k 75 (q (o f5o6) R) K)) (q (q (o f5o7) (bl 0 (lp f5l12))) (q (o f5o13) (q (o f5o14) (q (q (o f5o15) (k 134 (q (o f5o16) R) K)) (q (q (o f5o17) (bl 2 (lp f5l25))) (q (o f5o26) R))))))))))), [.t 8], 199⟩
def f6o0 : List IOper := [
 mc 8 (v B)]
def f6o1 : List IOper := [
 m 27 0,
 ns 28 27,
 b 29 .lss (t 28) (i 1),
 m 30 29,
 g 30 false (m 31 0),
 g 30 false (ns 32 31),
 g 30 false (b 33 .gtr (t 32) (i 512)),
 op 34 (.pick (t 30) (v (.bool true)) (t 33))]
def f6o2 : List IOper := [
 c 35 9 [],
 m 8 35]
def f6o3 : List IOper := [
 m 36 1,
 cv 37 .i64 36,
 m 38 0,
 ns 39 38,
 b 40 .sub (i 1792) (t 39),
 b 41 .add (t 40) (i 1),
 b 42 .rem (t 37) (t 41),
 b 43 .add (i 256) (t 42),
 m 9 43]
def f6o4 : List IOper := [
 m 44 2,
 cv 45 .i64 44,
 m 46 0,
 ns 47 46,
 b 48 .sub (i 1792) (t 47),
 b 49 .add (t 48) (i 1),
 b 50 .rem (t 45) (t 49),
 b 51 .add (i 256) (t 50),
 m 10 51]
def f6o5 : List IOper := [
 m 52 3,
 cv 53 .i64 52,
 b 54 .rem (t 53) (i 4),
 b 55 .shl (i 1) (t 54),
 m 11 55]
def f6o6 : List IOper := [
 op 56 (.mks false 128 128 (List.replicate 128 Y) (i 16) (i 16)),
 bd 57 [N] [(0, 1, (t 56))],
 m 58 9,
 cv 59 .u32 58,
 m 60 0,
 ns 61 60,
 cv 62 .u32 61,
 bs 63 1 [U, U, U, U] [(0, 1, (t 59)), (1, 1, (t 62)), (2, 1, (w 0)), (3, 1, (w 1))],
 c 64 25 [(t 57), (i 0), (t 63)],
 nw 12 29 [N],
 s 12 64]
def f6o7 : List IOper := [
 la 65 1 12,
 m 66 10,
 cv 67 .u32 66,
 m 68 0,
 ns 69 68,
 cv 70 .u32 69,
 bs 71 1 [U, U, U, U] [(0, 1, (t 67)), (1, 1, (t 70)), (2, 1, (w 1)), (3, 1, (w 1))],
 c 72 25 [(t 65), (i 128), (t 71)],
 s 12 72]
def f6o8 : List IOper := [
 la 73 1 12,
 m 74 9,
 m 75 0,
 c 76 26 [(t 73), (t 74), (t 75)],
 nw 13 64 [N, B],
 sn 2 13 76]
def f6o9 : List IOper := [
 m 77 11,
 cv 78 .u32 77,
 bd 79 [U, U] [(0, 1, (w 0)), (1, 1, (t 78))],
 m 80 11,
 cv 81 .u32 80,
 bd 82 [U, U] [(0, 1, (w 128)), (1, 1, (t 81))],
 bd 83 [U, U, U, U, I, I, I, I] [(0, 2, (t 79)), (2, 2, (t 82))],
 nw 14 26 [U, U, U, U, I, I, I, I],
 sn 8 14 83]
def f6o10 : List IOper := [
 la 85 8 14,
 f 86 0 13,
 la 87 1 86,
 bd 88 [B, I, U] [(1, 1, (i 68))],
 c 89 14 [(t 85), (t 87), (t 88)],
 m 84 89,
 e 90 84 0,
 e 91 84 1,
 nw 15 26 [U, U, U, U, I, I, I, I],
 nw 16 39 [N, U, N, B, B],
 sn 8 15 90,
 sn 5 16 91]
def f6o11 : List IOper := [
 f 92 4 16,
 l 93 92,
 op 94 (.un .not (t 93)),
 m 95 94,
 g 95 false (f 96 2 16),
 g 95 false (l 97 96),
 g 95 false (n 98 1 97),
 g 95 false (b 99 .neq (t 98) (i 1)),
 op 100 (.pick (t 95) (v (.bool true)) (t 99)),
 m 101 100,
 g 101 false (f 102 2 16),
 g 101 false (l 103 102),
 g 101 false (is 104 1 103 (i 0)),
 g 101 false (l 105 104),
 g 101 false (m 106 0),
 g 101 false (b 107 .neq (t 105) (t 106)),
 op 108 (.pick (t 101) (v (.bool true)) (t 107)),
 m 109 108,
 g 109 false (f 110 6 15),
 g 109 false (l 111 110),
 g 109 false (b 112 .neq (t 111) (i 0)),
 op 113 (.pick (t 109) (v (.bool true)) (t 112))]
def f6o12 : List IOper := [
 mc 8 (v B)]
def f6o13 : List IOper := [
 la 115 8 15,
 f 116 0 16,
 la 117 1 116,
 f 118 2 16,
 l 119 118,
 is 120 1 119 (i 0),
 l 121 120,
 c 122 15 [(t 115), (t 117), (t 121)],
 m 114 122,
 e 123 114 0,
 e 124 114 1,
 nw 17 26 [U, U, U, U, I, I, I, I],
 nw 18 39 [N, U, N, B, B],
 sn 8 17 123,
 sn 5 18 124]
def f6o14 : List IOper := [
 la 126 8 17,
 f 127 0 18,
 la 128 1 127,
 m 129 0,
 c 130 15 [(t 126), (t 128), (t 129)],
 m 125 130,
 e 131 125 0,
 e 132 125 1,
 nw 19 26 [U, U, U, U, I, I, I, I],
 nw 20 39 [N, U, N, B, B],
 sn 8 19 131,
 sn 5 20 132]
def f6o15 : List IOper := [
 f 134 0 18,
 la 135 1 134,
 m 136 10,
 m 137 0,
 ns 138 137,
 c 139 27 [(t 135), (t 136), (t 138)],
 m 133 139,
 e 140 133 0,
 e 141 133 1,
 m 21 140,
 m 22 141]
def f6o16 : List IOper := [
 f 143 0 18,
 la 144 1 143,
 c 145 28 [(t 144), (i 132), (i 4)],
 m 142 145,
 e 146 142 0,
 e 147 142 1,
 m 23 146,
 m 24 147]
def f6o17 : List IOper := [
 la 149 8 19,
 f 150 0 18,
 la 151 1 150,
 bd 152 [B, I, U] [(1, 1, (i 68))],
 c 153 14 [(t 149), (t 151), (t 152)],
 m 148 153,
 e 154 148 0,
 e 155 148 1,
 nw 25 26 [U, U, U, U, I, I, I, I],
 nw 26 39 [N, U, N, B, B],
 sn 8 25 154,
 sn 5 26 155]
def f6o18 : List IOper := [
 c 156 9 [],
 m 157 156,
 g 157 true (f 158 4 18),
 g 157 true (l 159 158),
 op 160 (.pick (t 157) (t 159) (v B)),
 m 161 160,
 g 161 true (m 162 22),
 op 163 (.pick (t 161) (t 162) (v B)),
 m 164 163,
 g 164 true (m 165 21),
 g 164 true (m 166 0),
 g 164 true (b 167 .eql (t 165) (t 166)),
 op 168 (.pick (t 164) (t 167) (v B)),
 m 169 168,
 g 169 true (m 170 23),
 g 169 true (cv 171 .i64 170),
 g 169 true (m 172 0),
 g 169 true (ns 173 172),
 g 169 true (b 174 .eql (t 171) (t 173)),
 op 175 (.pick (t 169) (t 174) (v B)),
 m 176 175,
 g 176 true (f 177 4 20),
 g 176 true (l 178 177),
 g 176 true (op 179 (.un .not (t 178))),
 op 180 (.pick (t 176) (t 179) (v B)),
 m 181 180,
 g 181 true (f 182 7 19),
 g 181 true (l 183 182),
 g 181 true (b 184 .eql (t 183) (i 1)),
 op 185 (.pick (t 181) (t 184) (v B)),
 m 186 185,
 g 186 true (f 187 2 26),
 g 186 true (l 188 187),
 g 186 true (n 189 1 188),
 g 186 true (b 190 .eql (t 189) (i 0)),
 op 191 (.pick (t 186) (t 190) (v B)),
 m 8 191]
def f6 : IFn := ⟨(q (o f6o0) (q (q (o f6o1) (k 34 (q (o f6o2) R) K)) (q (o f6o3) (q (o f6o4) (q (o f6o5) (q (o f6o6) (q (o f6o7) (q (o f6o8) (q (o f6o9) (q (o f6o10) (q (q (o f6o11) (k 113 (q (o f6o12) R) K)) (q (od f6o13) (q (o f6o14) (q (o f6o15) (q (o f6o16) (q (o f6o17) (q (o f6o18) R))))))))))))))))), [.t 8], 192⟩
def f7o0 : List IOper := [
 x 3 26 0,
 x 4 29 1,
 mc 6 (v B)]
def f7o1 : List IOper := [
 la 17 1 4,
 c 18 8 [(t 17)],
 op 19 (.un .not (t 18)),
 m 20 19,
 g 20 false (la 21 8 3),
 g 20 false (c 22 11 [(t 21)]),
 g 20 false (op 23 (.un .not (t 22))),
 op 24 (.pick (t 20) (v (.bool true)) (t 23)),
 m 25 24,
 g 25 false (m 26 2),
 g 25 false (n 27 1 26),
 g 25 false (b 28 .gtr (t 27) (i 20)),
 op 29 (.pick (t 25) (v (.bool true)) (t 28)),
 m 30 29,
 g 30 false (f 31 7 3),
 g 30 false (l 32 31),
 g 30 false (b 33 .gtr (t 32) (i 1099511627756)),
 op 34 (.pick (t 30) (v (.bool true)) (t 33))]
def f7o2 : List IOper := [
 c 35 9 [],
 m 6 35]
def f7o3 : List IOper := [
 la 36 8 3,
 nw 7 26 [U, U, U, U, I, I, I, I],
 sn 8 7 36]
def f7o4 : List IOper := [
 la 37 1 4,
 nw 8 29 [N],
 s 8 37]
def f7o5 : List IOper := [
 mc 9 (i 0)]
def f7o6 : List IOper := [
 mc 10 (i 0)]
def f7o7 : List IOper := [
 m 38 10,
 m 39 2,
 n 40 1 39,
 b 41 .lss (t 38) (t 40)]
def f7o8 : List IOper := [
 m 44 2,
 m 45 10,
 is 46 1 44 (t 45),
 l 47 46,
 ns 48 47,
 b 49 .gtr (t 48) (i 600)]
def f7o9 : List IOper := [
 c 50 9 [],
 m 6 50]
def f7o10 : List IOper := [
 la 52 8 7,
 la 53 1 8,
 m 54 2,
 m 55 10,
 is 56 1 54 (t 55),
 l 57 56,
 c 58 15 [(t 52), (t 53), (t 57)],
 m 51 58,
 e 59 51 0,
 e 60 51 1,
 nw 11 26 [U, U, U, U, I, I, I, I],
 nw 12 39 [N, U, N, B, B],
 sn 8 11 59,
 sn 5 12 60]
def f7o11 : List IOper := [
 f 61 4 12,
 l 62 61]
def f7o12 : List IOper := [
 m 63 9,
 b 64 .add (t 63) (i 1),
 m 9 64]
def f7o13 : List IOper := [
 f 65 4 12,
 l 66 65,
 m 67 66,
 g 67 true (f 68 6 11),
 g 67 true (l 69 68),
 g 67 true (f 70 6 7),
 g 67 true (l 71 70),
 g 67 true (b 72 .neq (t 69) (t 71)),
 g 67 true (m 73 72),
 g 73 false (f 74 3 12),
 g 73 false (l 75 74),
 g 73 false (op 76 (.un .not (t 75))),
 g 67 true (op 77 (.pick (t 73) (v (.bool true)) (t 76))),
 op 78 (.pick (t 67) (t 77) (v B)),
 m 79 78,
 g 79 false (la 80 8 11),
 g 79 false (c 81 10 [(t 80)]),
 g 79 false (op 82 (.un .not (t 81))),
 op 83 (.pick (t 79) (v (.bool true)) (t 82)),
 m 84 83,
 g 84 false (f 85 0 12),
 g 84 false (f 86 0 85),
 g 84 false (l 87 86),
 g 84 false (n 88 128 87),
 g 84 false (f 89 0 4),
 g 84 false (l 90 89),
 g 84 false (n 91 128 90),
 g 84 false (b 92 .neq (t 88) (t 91)),
 op 93 (.pick (t 84) (v (.bool true)) (t 92))]
def f7o14 : List IOper := [
 mc 6 (v B)]
def f7o15 : List IOper := [
 la 94 8 11,
 sn 8 7 94]
def f7o16 : List IOper := [
 f 95 0 12,
 la 96 1 95,
 s 8 96]
def f7o17 : List IOper := [
 m 42 10,
 b 43 .add (t 42) (i 1),
 m 10 43]
def f7l18 : IC := (q (q (o f7o7) (k 41 K (ex 0))) (q (bl 1 (q (q (o f7o8) (k 49 (q (o f7o9) R) K)) (q (od f7o10) (q (q (o f7o11) (k 62 (o f7o12) K)) (q (q (o f7o13) (k 93 (q (o f7o14) R) K)) (q (o f7o15) (o f7o16))))))) (o f7o17)))
def f7o19 : List IOper := [
 la 98 8 7,
 la 99 1 8,
 bd 100 [B, I, U] [(0, 1, (v (.bool true))), (1, 1, (i 69))],
 c 101 14 [(t 98), (t 99), (t 100)],
 m 97 101,
 e 102 97 0,
 e 103 97 1,
 nw 13 26 [U, U, U, U, I, I, I, I],
 nw 14 39 [N, U, N, B, B],
 sn 8 13 102,
 sn 5 14 103]
def f7o20 : List IOper := [
 la 105 8 13,
 f 106 0 14,
 la 107 1 106,
 bd 108 [B, I, U] [(0, 1, (v (.bool true))), (1, 1, (i 69))],
 c 109 14 [(t 105), (t 107), (t 108)],
 m 104 109,
 e 110 104 0,
 e 111 104 1,
 nw 15 26 [U, U, U, U, I, I, I, I],
 nw 16 39 [N, U, N, B, B],
 sn 8 15 110,
 sn 5 16 111]
def f7o21 : List IOper := [
 c 112 9 [],
 m 113 112,
 g 113 true (m 114 9),
 g 113 true (f 115 7 7),
 g 113 true (l 116 115),
 g 113 true (b 117 .add (t 114) (t 116)),
 g 113 true (f 118 7 3),
 g 113 true (l 119 118),
 g 113 true (b 120 .sub (t 117) (t 119)),
 g 113 true (m 121 2),
 g 113 true (n 122 1 121),
 g 113 true (b 123 .eql (t 120) (t 122)),
 op 124 (.pick (t 113) (t 123) (v B)),
 m 125 124,
 g 125 true (f 126 1 14),
 g 125 true (l 127 126),
 g 125 true (cv 128 .i64 127),
 g 125 true (f 129 6 7),
 g 125 true (l 130 129),
 g 125 true (b 131 .eql (t 128) (t 130)),
 op 132 (.pick (t 125) (t 131) (v B)),
 m 133 132,
 g 133 true (f 134 1 16),
 g 133 true (l 135 134),
 g 133 true (b 136 .eql (t 135) (w 0)),
 op 137 (.pick (t 133) (t 136) (v B)),
 m 138 137,
 g 138 true (f 139 4 14),
 g 138 true (l 140 139),
 op 141 (.pick (t 138) (t 140) (v B)),
 m 142 141,
 g 142 true (f 143 4 16),
 g 142 true (l 144 143),
 op 145 (.pick (t 142) (t 144) (v B)),
 m 6 145]
def f7 : IFn := ⟨(q (o f7o0) (q (q (o f7o1) (k 34 (q (o f7o2) R) K)) (q (o f7o3) (q (o f7o4) (q (o f7o5) (q (q (o f7o6) (bl 0 (lp f7l18))) (q (o f7o19) (q (o f7o20) (q (o f7o21) R))))))))), [.t 6], 146⟩
def f8o0 : List IOper := [
 x 1 29 0,
 mc 2 (v B)]
def f8o1 : List IOper := [
 f 3 0 1,
 l 4 3,
 n 5 128 4,
 b 6 .geq (t 5) (i 1),
 m 7 6,
 g 7 true (f 8 0 1),
 g 7 true (l 9 8),
 g 7 true (n 10 128 9),
 g 7 true (b 11 .leq (t 10) (i 64)),
 op 12 (.pick (t 7) (t 11) (v B)),
 m 2 12]
def f8 : IFn := ⟨(q (o f8o0) (q (o f8o1) R)), [.t 2], 13⟩
def f9o0 : List IOper := [
 mc 0 (v B)]
def f9o1 : List IOper := [
 c 28 29 [],
 m 27 28,
 e 29 27 0,
 e 30 27 1,
 nw 1 26 [U, U, U, U, I, I, I, I],
 nw 2 29 [N],
 sn 8 1 29,
 s 2 30]
def f9o2 : List IOper := [
 la 32 8 1,
 la 33 1 2,
 bd 34 [B, I, U] [(1, 1, (i 68))],
 c 35 14 [(t 32), (t 33), (t 34)],
 m 31 35,
 e 36 31 0,
 e 37 31 1,
 nw 3 26 [U, U, U, U, I, I, I, I],
 nw 4 39 [N, U, N, B, B],
 sn 8 3 36,
 sn 5 4 37]
def f9o3 : List IOper := [
 la 39 8 3,
 f 40 0 4,
 la 41 1 40,
 c 42 15 [(t 39), (t 41), (v (.str [104, 101, 108, 108, 111]))],
 m 38 42,
 e 43 38 0,
 e 44 38 1,
 nw 5 26 [U, U, U, U, I, I, I, I],
 nw 6 39 [N, U, N, B, B],
 sn 8 5 43,
 sn 5 6 44]
def f9o4 : List IOper := [
 la 46 8 5,
 f 47 0 6,
 la 48 1 47,
 c 49 15 [(t 46), (t 48), (v (.str [120]))],
 m 45 49,
 e 50 45 0,
 e 51 45 1,
 nw 7 26 [U, U, U, U, I, I, I, I],
 nw 8 39 [N, U, N, B, B],
 sn 8 7 50,
 sn 5 8 51]
def f9o5 : List IOper := [
 la 53 8 3,
 f 54 0 4,
 la 55 1 54,
 c 56 15 [(t 53), (t 55), (v (.str [108, 111, 110, 103, 101, 114]))],
 m 52 56,
 e 57 52 0,
 e 58 52 1,
 nw 9 26 [U, U, U, U, I, I, I, I],
 nw 10 39 [N, U, N, B, B],
 sn 8 9 57,
 sn 5 10 58]
def f9o6 : List IOper := [
 la 59 8 1,
 nw 11 26 [U, U, U, U, I, I, I, I],
 sn 8 11 59]
def f9o7 : List IOper := [
 f 60 0 11,
 f 61 0 60,
 op0 (.store 1 (t 61) (w 8))]
def f9o8 : List IOper := [
 la 63 8 11,
 la 64 1 2,
 bd 65 [B, I, U] [(1, 1, (i 68))],
 c 66 14 [(t 63), (t 64), (t 65)],
 m 62 66,
 e 67 62 0,
 e 68 62 1,
 nw 12 26 [U, U, U, U, I, I, I, I],
 nw 13 39 [N, U, N, B, B],
 sn 8 12 67,
 sn 5 13 68]
def f9o9 : List IOper := [
 f 70 0 6,
 la 71 1 70,
 c 72 27 [(t 71), (i 640), (i 5)],
 m 69 72,
 e 73 69 0,
 e 74 69 1,
 m 14 73,
 m 15 74]
def f9o10 : List IOper := [
 f 76 0 4,
 la 77 1 76,
 c 78 28 [(t 77), (i 268), (i 4)],
 m 75 78,
 e 79 75 0,
 e 80 75 1,
 m 16 79,
 m 17 80]
def f9o11 : List IOper := [
 f 82 0 6,
 la 83 1 82,
 c 84 28 [(t 83), (i 404), (i 4)],
 m 81 84,
 e 85 81 0,
 e 86 81 1,
 m 18 85,
 m 19 86]
def f9o12 : List IOper := [
 f 88 0 6,
 la 89 1 88,
 c 90 28 [(t 89), (i 412), (i 4)],
 m 87 90,
 e 91 87 0,
 e 92 87 1,
 m 20 91,
 m 21 92]
def f9o13 : List IOper := [
 la 94 8 9,
 c 95 12 [(t 94)],
 c 96 19 [(t 95)],
 m 93 96,
 e 97 93 0,
 e 98 93 1,
 nw 22 26 [U, U, U, U, I, I, I, I],
 sn 8 22 97,
 m 23 98]
def f9o14 : List IOper := [
 f 99 4 4,
 l 100 99,
 m 101 100,
 g 101 true (f 102 3 4),
 g 101 true (l 103 102),
 op 104 (.pick (t 101) (t 103) (v B)),
 m 105 104,
 g 105 true (f 106 2 4),
 g 105 true (l 107 106),
 g 105 true (n 108 1 107),
 g 105 true (b 109 .eql (t 108) (i 1)),
 op 110 (.pick (t 105) (t 109) (v B)),
 m 111 110,
 g 111 true (f 112 2 4),
 g 111 true (l 113 112),
 g 111 true (is 114 1 113 (i 0)),
 g 111 true (l 115 114),
 g 111 true (b 116 .eql (t 115) (v (.str [97, 98, 99]))),
 op 117 (.pick (t 111) (t 116) (v B)),
 m 118 117,
 g 118 true (f 119 4 3),
 g 118 true (l 120 119),
 g 118 true (b 121 .eql (t 120) (i 1)),
 op 122 (.pick (t 118) (t 121) (v B)),
 m 123 122,
 g 123 true (m 124 16),
 g 123 true (b 125 .eql (t 124) (w 3)),
 op 126 (.pick (t 123) (t 125) (v B)),
 m 24 126]
def f9o15 : List IOper := [
 f 127 4 6,
 l 128 127,
 m 129 128,
 g 129 true (f 130 3 6),
 g 129 true (l 131 130),
 op 132 (.pick (t 129) (t 131) (v B)),
 m 133 132,
 g 133 true (f 134 5 5),
 g 133 true (l 135 134),
 g 133 true (b 136 .eql (t 135) (i 0)),
 op 137 (.pick (t 133) (t 136) (v B)),
 m 138 137,
 g 138 true (m 139 14),
 g 138 true (b 140 .eql (t 139) (v (.str [104, 101, 108, 108, 111]))),
 op 141 (.pick (t 138) (t 140) (v B)),
 m 142 141,
 g 142 true (m 143 18),
 g 142 true (b 144 .eql (t 143) (w 5)),
 op 145 (.pick (t 142) (t 144) (v B)),
 m 146 145,
 g 146 true (m 147 20),
 g 146 true (b 148 .eql (t 147) (w 3)),
 op 149 (.pick (t 146) (t 148) (v B)),
 m 25 149]
def f9o16 : List IOper := [
 f 150 4 8,
 l 151 150,
 op 152 (.un .not (t 151)),
 m 153 152,
 g 153 true (f 154 3 8),
 g 153 true (l 155 154),
 g 153 true (op 156 (.un .not (t 155))),
 op 157 (.pick (t 153) (t 156) (v B)),
 m 158 157,
 g 158 true (f 159 7 7),
 g 158 true (l 160 159),
 g 158 true (b 161 .eql (t 160) (i 1)),
 op 162 (.pick (t 158) (t 161) (v B)),
 m 163 162,
 g 163 true (f 164 4 10),
 g 163 true (l 165 164),
 g 163 true (op 166 (.un .not (t 165))),
 op 167 (.pick (t 163) (t 166) (v B)),
 m 168 167,
 g 168 true (f 169 3 10),
 g 168 true (l 170 169),
 op 171 (.pick (t 168) (t 170) (v B)),
 m 172 171,
 g 172 true (f 173 7 9),
 g 172 true (l 174 173),
 g 172 true (b 175 .eql (t 174) (i 1)),
 op 176 (.pick (t 172) (t 175) (v B)),
 m 177 176,
 g 177 true (f 178 6 9),
 g 177 true (l 179 178),
 g 177 true (b 180 .eql (t 179) (i 161)),
 op 181 (.pick (t 177) (t 180) (v B)),
 m 182 181,
 g 182 true (f 183 6 12),
 g 182 true (l 184 183),
 g 182 true (b 185 .eql (t 184) (i 160)),
 op 186 (.pick (t 182) (t 185) (v B)),
 m 187 186,
 g 187 true (f 188 3 13),
 g 187 true (l 189 188),
 g 187 true (op 190 (.un .not (t 189))),
 op 191 (.pick (t 187) (t 190) (v B)),
 m 192 191,
 g 192 true (f 193 4 13),
 g 192 true (l 194 193),
 op 195 (.pick (t 192) (t 194) (v B)),
 m 26 195]
def f9o17 : List IOper := [
 m 196 24,
 m 197 196,
 g 197 true (m 198 25),
 op 199 (.pick (t 197) (t 198) (v B)),
 m 200 199,
 g 200 true (m 201 26),
 op 202 (.pick (t 200) (t 201) (v B)),
 m 203 202,
 g 203 true (m 204 23),
 g 203 true (b 205 .eql (t 204) (i 0)),
 op 206 (.pick (t 203) (t 205) (v B)),
 m 207 206,
 g 207 true (la 208 8 22),
 g 207 true (la 209 8 9),
 g 207 true (op 210 (.eqA false [0, 0, 0, 0, 0, 0, 0, 0] (t 208) (t 209))),
 op 211 (.pick (t 207) (t 210) (v B)),
 m 212 211,
 g 212 true (la 213 8 9),
 g 212 true (c 214 10 [(t 213)]),
 op 215 (.pick (t 212) (t 214) (v B)),
 m 0 215]
def f9 : IFn := ⟨(q (o f9o0) (q (o f9o1) (q (o f9o2) (q (o f9o3) (q (o f9o4) (q (o f9o5) (q (o f9o6) (q (o f9o7) (q (o f9o8) (q (o f9o9) (q (o f9o10) (q (o f9o11) (q (o f9o12) (q (o f9o13) (q (o f9o14) (q (o f9o15) (q (o f9o16) (q (o f9o17) R)))))))))))))))))), [.t 0], 216⟩
def f10o0 : List IOper := [
 x 1 26 0,
 mc 2 (v B)]
def f10o1 : List IOper := [
 f 4 6 1,
 l 5 4,
 b 6 .eql (t 5) (i 0),
 m 7 6,
 g 7 false (f 8 6 1),
 g 7 false (l 9 8),
 g 7 false (b 10 .geq (t 9) (i 160)),
 g 7 false (m 11 10),
 g 11 true (f 12 6 1),
 g 11 true (l 13 12),
 g 11 true (b 14 .leq (t 13) (i 165)),
 g 7 false (op 15 (.pick (t 11) (t 14) (v B))),
 op 16 (.pick (t 7) (v (.bool true)) (t 15)),
 m 3 16]
def f10o2 : List IOper := [
 m 17 3,
 m 18 17,
 g 18 true (f 19 0 1),
 g 18 true (la 20 2 19),
 g 18 true (f 21 4 1),
 g 18 true (l 22 21),
 g 18 true (c 23 30 [(t 20), (t 22)]),
 op 24 (.pick (t 18) (t 23) (v B)),
 m 25 24,
 g 25 true (f 26 2 1),
 g 25 true (la 27 2 26),
 g 25 true (f 28 5 1),
 g 25 true (l 29 28),
 g 25 true (c 30 30 [(t 27), (t 29)]),
 op 31 (.pick (t 25) (t 30) (v B)),
 m 32 31,
 g 32 true (f 33 7 1),
 g 32 true (l 34 33),
 g 32 true (b 35 .geq (t 34) (i 0)),
 op 36 (.pick (t 32) (t 35) (v B)),
 m 37 36,
 g 37 true (f 38 7 1),
 g 37 true (l 39 38),
 g 37 true (b 40 .leq (t 39) (i 1099511627776)),
 op 41 (.pick (t 37) (t 40) (v B)),
 m 2 41]
def f10 : IFn := ⟨(q (o f10o0) (q (o f10o1) (q (o f10o2) R))), [.t 2], 42⟩
def f11o0 : List IOper := [
 x 1 26 0,
 mc 2 (v B)]
def f11o1 : List IOper := [
 f 3 0 1,
 la 4 2 3,
 f 5 4 1,
 l 6 5,
 c 7 31 [(t 4), (t 6)],
 op 8 (.un .not (t 7)),
 m 9 8,
 g 9 false (f 10 2 1),
 g 9 false (la 11 2 10),
 g 9 false (f 12 5 1),
 g 9 false (l 13 12),
 g 9 false (c 14 31 [(t 11), (t 13)]),
 g 9 false (op 15 (.un .not (t 14))),
 op 16 (.pick (t 9) (v (.bool true)) (t 15)),
 m 17 16,
 g 17 false (f 18 7 1),
 g 17 false (l 19 18),
 g 17 false (b 20 .lss (t 19) (i 0)),
 op 21 (.pick (t 17) (v (.bool true)) (t 20)),
 m 22 21,
 g 22 false (f 23 7 1),
 g 22 false (l 24 23),
 g 22 false (b 25 .gtr (t 24) (i 1099511627776)),
 op 26 (.pick (t 22) (v (.bool true)) (t 25))]
def f11o2 : List IOper := [
 mc 2 (v B)]
def f11o3 : List IOper := [
 f 27 6 1,
 l 28 27,
 b 29 .eql (t 28) (i 0),
 m 30 29,
 g 30 false (f 31 6 1),
 g 30 false (l 32 31),
 g 30 false (b 33 .geq (t 32) (i 160)),
 g 30 false (m 34 33),
 g 34 true (f 35 6 1),
 g 34 true (l 36 35),
 g 34 true (b 37 .leq (t 36) (i 165)),
 g 30 false (op 38 (.pick (t 34) (t 37) (v B))),
 op 39 (.pick (t 30) (v (.bool true)) (t 38)),
 m 2 39]
def f11 : IFn := ⟨(q (o f11o0) (q (q (o f11o1) (k 26 (q (o f11o2) R) K)) (q (o f11o3) R))), [.t 2], 40⟩
def f12o0 : List IOper := [
 x 1 26 0,
 mc 2 (v N)]
def f12o1 : List IOper := [
 f 3 0 1,
 f 4 0 3,
 l 5 4,
 cv 6 .i64 5,
 f 7 0 1,
 f 8 1 7,
 l 9 8,
 cv 10 .i64 9,
 f 11 2 1,
 f 12 0 11,
 l 13 12,
 cv 14 .i64 13,
 f 15 2 1,
 f 16 1 15,
 l 17 16,
 cv 18 .i64 17,
 f 19 4 1,
 l 20 19,
 f 21 5 1,
 l 22 21,
 f 23 6 1,
 l 24 23,
 f 25 7 1,
 l 26 25,
 bs 27 1 [I, I, I, I, I, I, I, I] [(0, 1, (t 6)), (1, 1, (t 10)), (2, 1, (t 14)), (3, 1, (t 18)), (4, 1, (t 20)), (5, 1, (t 22)), (6, 1, (t 24)), (7, 1, (t 26))],
 c 28 32 [(t 27)],
 m 2 28]
def f12 : IFn := ⟨(q (o f12o0) (q (o f12o1) R)), [.t 2], 29⟩
def f13o0 : List IOper := [
 x 1 26 0,
 mc 2 (v N)]
def f13o1 : List IOper := [
 f 3 0 1,
 f 4 0 3,
 l 5 4,
 cv 6 .i64 5,
 f 7 0 1,
 f 8 1 7,
 l 9 8,
 cv 10 .i64 9,
 f 11 2 1,
 f 12 0 11,
 l 13 12,
 cv 14 .i64 13,
 f 15 2 1,
 f 16 1 15,
 l 17 16,
 cv 18 .i64 17,
 f 19 4 1,
 l 20 19,
 f 21 5 1,
 l 22 21,
 f 23 6 1,
 l 24 23,
 f 25 7 1,
 l 26 25,
 bs 27 1 [I, I, I, I, I, I, I, I] [(0, 1, (t 6)), (1, 1, (t 10)), (2, 1, (t 14)), (3, 1, (t 18)), (4, 1, (t 20)), (5, 1, (t 22)), (6, 1, (t 24)), (7, 1, (t 26))],
 c 28 33 [(t 27)],
 m 2 28]
def f13 : IFn := ⟨(q (o f13o0) (q (o f13o1) R)), [.t 2], 29⟩
def f14o0 : List IOper := [
 x 3 26 0,
 x 4 29 1,
 x 5 31 2,
 nw 6 26 [U, U, U, U, I, I, I, I],
 nw 7 39 [N, U, N, B, B]]
def f14o1 : List IOper := [
 la 9 1 4,
 bd 10 [N, U, N, B, B] [(0, 1, (t 9)), (4, 1, (v (.bool true)))],
 la 11 8 3,
 bd 12 [N, U, N, B, B, U, U, U, U, I, I, I, I] [(0, 5, (t 10)), (5, 8, (t 11))],
 x 13 78 12,
 m 8 13]
def f14o2 : List IOper := [
 f 14 0 5,
 l 15 14]
def f14o3 : List IOper := [
 m 16 8,
 f 17 1 5,
 l 18 17,
 op 19 (.calls 34 [(t 16), (t 18)])]
def f14o4 : List IOper := [
 m 20 8,
 f 21 1 5,
 l 22 21,
 f 23 2 5,
 l 24 23,
 op 25 (.calls 35 [(t 20), (t 22), (t 24)])]
def f14o5 : List IOper := [
 m 26 8,
 op 27 (.nchk (t 26)),
 f 28 5 27,
 la 29 8 28,
 m 30 8,
 op 31 (.nchk (t 30)),
 f 32 0 31,
 la 33 5 32,
 sn 8 6 29,
 sn 5 7 33]
def f14 : IFn := ⟨(q (o f14o0) (q (o f14o1) (q (q (o f14o2) (k 15 (o f14o3) (o f14o4))) (q (.opsX f14o5 [(32, 6)]) R)))), [.cell 6 8 true, .cell 7 5 true], 34⟩
def f15o0 : List IOper := [
 x 3 26 0,
 x 4 29 1,
 x 5 9 2,
 nw 6 26 [U, U, U, U, I, I, I, I],
 nw 7 39 [N, U, N, B, B]]
def f15o1 : List IOper := [
 la 10 1 4,
 bd 11 [N, U, N, B, B] [(0, 1, (t 10))],
 la 12 8 3,
 bd 13 [N, U, N, B, B, U, U, U, U, I, I, I, I] [(0, 5, (t 11)), (5, 8, (t 12))],
 x 14 78 13,
 nw 8 76 [.nilp],
 s 8 14]
def f15o2 : List IOper := [
 l 15 5,
 b 16 .neq (t 15) (v E),
 m 17 16,
 g 17 true (l 18 5),
 g 17 true (ns 19 18),
 g 17 true (b 20 .leq (t 19) (i 512)),
 op 21 (.pick (t 17) (t 20) (v B))]
def f15o3 : List IOper := [
 l 22 8,
 f 23 2 3,
 la 24 2 23,
 l 25 8,
 op 26 (.nchk (t 25)),
 f 27 5 26,
 f 28 5 27,
 op 29 (.calls 36 [(t 22), (t 24), (t 28)])]
def f15o4 : List IOper := [
 nw 9 87 [I, N, I],
 sn 3 9 30]
def f15o5 : List IOper := [
 l 31 8,
 la 32 3 9,
 l 33 5,
 op 34 (.calls 37 [(t 31), (t 32), (t 33)])]
def f15a6 : IC := (o f15o4)
def f15y6 : IC := (bl 1 (q (o f15o5) (ex 0)))
def f15o7 : List IOper := [
 l 35 8,
 op 36 (.nchk (t 35)),
 f 37 0 36,
 f 38 4 37,
 l 39 38,
 op 40 (.un .not (t 39))]
def f15o8 : List IOper := [
 l 41 8,
 l 42 8,
 op 43 (.nchk (t 42)),
 f 44 5 43,
 f 45 7 44,
 l 46 45,
 b 47 .add (t 46) (i 1),
 op 48 (.mn false [(t 47), (i 1099511627776)]),
 op 49 (.nchk (t 41)),
 f 50 5 49,
 f 51 7 50,
 s 51 48]
def f15o9 : List IOper := [
 l 52 8,
 op 53 (.nchk (t 52)),
 f 54 5 53,
 la 55 8 54,
 l 56 8,
 op 57 (.nchk (t 56)),
 f 58 0 57,
 la 59 5 58,
 sn 8 6 55,
 sn 5 7 59]
def f15 : IFn := ⟨(q (o f15o0) (q (o f15o1) (q (q (o f15o2) (k 21 (q (od f15o3) (bl 0 (.rangeF (t 29) [30] f15a6 f15y6))) K)) (q (q (o f15o7) (k 40 (od f15o8) K)) (q (.opsX f15o9 [(8, 6), (58, 6)]) R))))), [.cell 6 8 true, .cell 7 5 true], 60⟩
def f16o0 : List IOper := [
 x 3 26 0,
 x 4 29 1,
 x 5 31 2,
 nw 6 44 [U, U, U, U, I, I, I, I, N, U, N, B, B]]
def f16o1 : List IOper := [
 la 8 8 3,
 la 9 1 4,
 bd 10 [N, U, N, B, B] [(0, 1, (t 9)), (4, 1, (v (.bool true)))],
 bd 11 [U, U, U, U, I, I, I, I, N, U, N, B, B] [(0, 8, (t 8)), (8, 5, (t 10))],
 nw 7 44 [U, U, U, U, I, I, I, I, N, U, N, B, B],
 sn 13 7 11]
def f16o2 : List IOper := [
 f 12 0 5,
 l 13 12]
def f16o3 : List IOper := [
 f 14 1 5,
 l 15 14]
def f16o4 : List IOper := [
 b 19 .eql (t 15) (i 64),
 m 18 19]
def f16o5 : List IOper := [
 f 20 0 3,
 f 21 0 20,
 l 22 21,
 f 23 8 7,
 f 24 1 23,
 s 24 22]
def f16o6 : List IOper := [
 b 26 .eql (t 15) (i 65),
 m 25 26]
def f16o7 : List IOper := [
 f 27 0 3,
 f 28 1 27,
 l 29 28,
 f 30 8 7,
 f 31 1 30,
 s 31 29]
def f16o8 : List IOper := [
 b 33 .eql (t 15) (i 66),
 m 32 33]
def f16o9 : List IOper := [
 f 34 2 3,
 f 35 0 34,
 l 36 35,
 f 37 8 7,
 f 38 1 37,
 s 38 36]
def f16o10 : List IOper := [
 b 40 .eql (t 15) (i 67),
 m 39 40]
def f16o11 : List IOper := [
 f 41 2 3,
 f 42 1 41,
 l 43 42,
 f 44 8 7,
 f 45 1 44,
 s 45 43]
def f16o12 : List IOper := [
 b 47 .eql (t 15) (i 69),
 m 46 47]
def f16o13 : List IOper := [
 f 48 6 3,
 l 49 48,
 cv 50 .u32 49,
 f 51 8 7,
 f 52 1 51,
 s 52 50]
def f16o14 : List IOper := [
 f 53 0 7,
 f 54 6 53,
 op0 (.store 1 (t 54) (i 0))]
def f16o15 : List IOper := [
 b 56 .eql (t 15) (i 70),
 m 55 56]
def f16o16 : List IOper := [
 f 57 7 3,
 l 58 57,
 cv 59 .u32 58,
 f 60 8 7,
 f 61 1 60,
 s 61 59]
def f16o17 : List IOper := [
 f 16 8 7,
 f 17 4 16,
 op0 (.store 1 (t 17) (v B))]
def f16o18 : List IOper := [
 la 62 13 7,
 sn 13 6 62]
def f16o19 : List IOper := [
 f 63 1 5,
 l 64 63]
def f16o20 : List IOper := [
 b 68 .eql (t 64) (i 64),
 m 67 68]
def f16o21 : List IOper := [
 f 69 2 5,
 l 70 69,
 f 71 0 7,
 f 72 0 71,
 f 73 0 72,
 s 73 70]
def f16o22 : List IOper := [
 f 74 0 7,
 f 75 4 74,
 op0 (.store 1 (t 75) (i 0))]
def f16o23 : List IOper := [
 b 77 .eql (t 64) (i 65),
 m 76 77]
def f16o24 : List IOper := [
 f 78 2 5,
 l 79 78,
 f 80 0 7,
 f 81 0 80,
 f 82 1 81,
 s 82 79]
def f16o25 : List IOper := [
 f 83 0 7,
 f 84 4 83,
 op0 (.store 1 (t 84) (i 0))]
def f16o26 : List IOper := [
 b 86 .eql (t 64) (i 66),
 m 85 86]
def f16o27 : List IOper := [
 f 87 2 5,
 l 88 87,
 f 89 0 7,
 f 90 2 89,
 f 91 0 90,
 s 91 88]
def f16o28 : List IOper := [
 f 92 0 7,
 f 93 5 92,
 op0 (.store 1 (t 93) (i 0))]
def f16o29 : List IOper := [
 b 95 .eql (t 64) (i 67),
 m 94 95]
def f16o30 : List IOper := [
 f 96 2 5,
 l 97 96,
 f 98 0 7,
 f 99 2 98,
 f 100 1 99,
 s 100 97]
def f16o31 : List IOper := [
 f 101 0 7,
 f 102 5 101,
 op0 (.store 1 (t 102) (i 0))]
def f16o32 : List IOper := [
 b 104 .eql (t 64) (i 68),
 m 103 104]
def f16o33 : List IOper := [
 la 105 13 7,
 c 106 38 [(t 105)],
 sn 13 6 106]
def f16o34 : List IOper := [
 f 65 8 7,
 f 66 4 65,
 op0 (.store 1 (t 66) (v B))]
def f16o35 : List IOper := [
 la 107 13 7,
 sn 13 6 107]
def f16 : IFn := ⟨(q (o f16o0) (q (o f16o1) (q (q (o f16o2) (k 13 (q (q (o f16o3) (bl 0 (q (o f16o4) (k 18 (o f16o5) (q (o f16o6) (k 25 (o f16o7) (q (o f16o8) (k 32 (o f16o9) (q (o f16o10) (k 39 (o f16o11) (q (o f16o12) (k 46 (q (o f16o13) (o f16o14)) (q (o f16o15) (k 55 (o f16o16) (o f16o17))))))))))))))) (q (o f16o18) R)) K)) (q (q (o f16o19) (bl 1 (q (o f16o20) (k 67 (q (o f16o21) (o f16o22)) (q (o f16o23) (k 76 (q (o f16o24) (o f16o25)) (q (o f16o26) (k 85 (q (o f16o27) (o f16o28)) (q (o f16o29) (k 94 (q (o f16o30) (o f16o31)) (q (o f16o32) (k 103 (q (o f16o33) R) (o f16o34))))))))))))) (q (o f16o35) R))))), [.cell 6 13 true], 108⟩
def f17o0 : List IOper := [
 x 3 26 0,
 x 4 29 1,
 nw 6 44 [U, U, U, U, I, I, I, I, N, U, N, B, B]]
def f17o1 : List IOper := [
 la 14 8 3,
 la 15 1 4,
 bd 16 [N, U, N, B, B] [(0, 1, (t 15))],
 bd 17 [U, U, U, U, I, I, I, I, N, U, N, B, B] [(0, 8, (t 14)), (8, 5, (t 16))],
 nw 7 44 [U, U, U, U, I, I, I, I, N, U, N, B, B],
 sn 13 7 17]
def f17o2 : List IOper := [
 m 18 2,
 ns 19 18,
 b 20 .eql (t 19) (i 0),
 m 21 20,
 g 21 false (m 22 2),
 g 21 false (ns 23 22),
 g 21 false (b 24 .gtr (t 23) (i 512)),
 op 25 (.pick (t 21) (v (.bool true)) (t 24))]
def f17o3 : List IOper := [
 la 26 13 7,
 c 27 39 [(t 26), (i 0)],
 sn 13 6 27]
def f17o4 : List IOper := [
 la 28 1 4,
 f 29 2 3,
 la 30 2 29,
 c 31 21 [(t 28), (t 30)],
 m 8 31]
def f17o5 : List IOper := [
 m 32 8,
 b 33 .neq (t 32) (i 0)]
def f17o6 : List IOper := [
 la 34 13 7,
 m 35 8,
 c 36 39 [(t 34), (t 35)],
 sn 13 6 36]
def f17o7 : List IOper := [
 la 37 1 4,
 f 38 2 3,
 la 39 2 38,
 f 40 5 3,
 l 41 40,
 c 42 40 [(t 37), (t 39), (t 41)],
 nw 9 92 [I, B],
 sn 2 9 42]
def f17o8 : List IOper := [
 f 43 1 9,
 l 44 43,
 op 45 (.un .not (t 44))]
def f17o9 : List IOper := [
 la 46 13 7,
 c 47 39 [(t 46), (i 0)],
 sn 13 6 47]
def f17o10 : List IOper := [
 f 48 8 7,
 f 49 3 48,
 op0 (.store 1 (t 49) (v (.bool true)))]
def f17o11 : List IOper := [
 f 50 0 9,
 l 51 50,
 b 52 .add (t 51) (i 1),
 f 53 2 3,
 f 54 1 53,
 l 55 54,
 cv 56 .i64 55,
 b 57 .rem (t 52) (t 56),
 f 58 0 7,
 f 59 5 58,
 s 59 57]
def f17o12 : List IOper := [
 la 60 1 4,
 f 61 2 3,
 la 62 2 61,
 f 63 0 9,
 l 64 63,
 c 65 41 [(t 60), (t 62), (t 64)],
 nw 10 95 [N, N, I],
 sn 3 10 65]
def f17o13 : List IOper := [
 f 66 0 10,
 la 67 1 66,
 f 68 8 7,
 f 69 0 68,
 s 69 67]
def f17o14 : List IOper := [
 f 70 2 10,
 l 71 70,
 b 72 .neq (t 71) (i 0)]
def f17o15 : List IOper := [
 la 73 13 7,
 f 74 2 10,
 l 75 74,
 c 76 39 [(t 73), (t 75)],
 sn 13 6 76]
def f17o16 : List IOper := [
 f 77 1 10,
 l 78 77,
 m 79 2,
 ns 80 79,
 c 81 42 [(t 78), (v (.bool true)), (t 80), (i 1048576)],
 m 11 81]
def f17o17 : List IOper := [
 m 82 11,
 b 83 .neq (t 82) (i 0)]
def f17o18 : List IOper := [
 f 84 8 7,
 f 85 0 84,
 la 86 1 85,
 f 87 2 3,
 la 88 2 87,
 f 89 0 9,
 l 90 89,
 m 91 11,
 c 92 43 [(t 86), (t 88), (t 90), (t 91)],
 f 93 8 7,
 f 94 0 93,
 s 94 92]
def f17o19 : List IOper := [
 la 95 13 7,
 m 96 11,
 c 97 39 [(t 95), (t 96)],
 sn 13 6 97]
def f17o20 : List IOper := [
 f 98 8 7,
 f 99 0 98,
 la 100 1 99,
 f 101 1 10,
 l 102 101,
 m 103 2,
 c 104 44 [(t 100), (t 102), (t 103)],
 nw 12 100 [N, I],
 sn 2 12 104]
def f17o21 : List IOper := [
 f 105 0 12,
 la 106 1 105,
 f 107 2 3,
 la 108 2 107,
 f 109 1 10,
 l 110 109,
 c 111 45 [(t 106), (t 108), (t 110)],
 f 112 8 7,
 f 113 0 112,
 s 113 111]
def f17o22 : List IOper := [
 f 114 8 7,
 f 115 0 114,
 la 116 1 115,
 f 117 2 3,
 f 118 0 117,
 l 119 118,
 cv 120 .i64 119,
 f 121 0 9,
 l 122 121,
 b 123 .mul (i 16) (t 122),
 b 124 .add (t 120) (t 123),
 b 125 .add (t 124) (i 4),
 m 126 2,
 ns 127 126,
 cv 128 .u32 127,
 bd 129 [I, I, U] [(0, 1, (t 125)), (1, 1, (i 4)), (2, 1, (t 128))],
 c 130 46 [(t 116), (t 129)],
 nw 13 64 [N, B],
 sn 2 13 130]
def f17o23 : List IOper := [
 f 131 0 13,
 la 132 1 131,
 f 133 8 7,
 f 134 0 133,
 s 134 132]
def f17o24 : List IOper := [
 f 135 8 7,
 f 136 4 135,
 op0 (.store 1 (t 136) (v (.bool true)))]
def f17o25 : List IOper := [
 la 137 13 7,
 sn 13 6 137]
def f17 : IFn := ⟨(q (o f17o0) (q (o f17o1) (q (q (o f17o2) (k 25 (q (o f17o3) R) K)) (q (o f17o4) (q (q (o f17o5) (k 33 (q (o f17o6) R) K)) (q (o f17o7) (q (q (o f17o8) (k 45 (q (o f17o9) R) K)) (q (o f17o10) (q (o f17o11) (q (o f17o12) (q (o f17o13) (q (q (o f17o14) (k 72 (q (o f17o15) R) K)) (q (o f17o16) (q (q (o f17o17) (k 83 (q (o f17o18) (q (o f17o19) R)) K)) (q (o f17o20) (q (o f17o21) (q (o f17o22) (q (o f17o23) (q (o f17o24) (q (o f17o25) R)))))))))))))))))))), [.cell 6 13 true], 138⟩
def f18o0 : List IOper := [
 x 2 39 0,
 x 3 39 1,
 mc 4 (v B)]
def f18o1 : List IOper := [
 f 6 1 2,
 l 7 6,
 f 8 1 3,
 l 9 8,
 b 10 .neq (t 7) (t 9),
 m 11 10,
 g 11 false (f 12 3 2),
 g 11 false (l 13 12),
 g 11 false (f 14 3 3),
 g 11 false (l 15 14),
 g 11 false (op 16 (.eq true 1 (t 13) (t 15))),
 op 17 (.pick (t 11) (v (.bool true)) (t 16)),
 m 18 17,
 g 18 false (f 19 4 2),
 g 18 false (l 20 19),
 g 18 false (f 21 4 3),
 g 18 false (l 22 21),
 g 18 false (op 23 (.eq true 1 (t 20) (t 22))),
 op 24 (.pick (t 18) (v (.bool true)) (t 23)),
 m 25 24,
 g 25 false (f 26 2 2),
 g 25 false (l 27 26),
 g 25 false (n 28 1 27),
 g 25 false (f 29 2 3),
 g 25 false (l 30 29),
 g 25 false (n 31 1 30),
 g 25 false (b 32 .neq (t 28) (t 31)),
 op 33 (.pick (t 25) (v (.bool true)) (t 32))]
def f18o2 : List IOper := [
 mc 4 (v B)]
def f18o3 : List IOper := [
 mc 5 (i 0)]
def f18o4 : List IOper := [
 m 34 5,
 f 35 2 2,
 l 36 35,
 n 37 1 36,
 b 38 .lss (t 34) (t 37)]
def f18o5 : List IOper := [
 f 41 2 2,
 l 42 41,
 m 43 5,
 is 44 1 42 (t 43),
 l 45 44,
 f 46 2 3,
 l 47 46,
 m 48 5,
 is 49 1 47 (t 48),
 l 50 49,
 b 51 .neq (t 45) (t 50)]
def f18o6 : List IOper := [
 mc 4 (v B)]
def f18o7 : List IOper := [
 m 39 5,
 b 40 .add (t 39) (i 1),
 m 5 40]
def f18l8 : IC := (q (q (o f18o4) (k 38 K (ex 0))) (q (bl 1 (q (od f18o5) (k 51 (q (o f18o6) R) K))) (o f18o7)))
def f18o9 : List IOper := [
 f 52 0 2,
 la 53 1 52,
 f 54 0 3,
 la 55 1 54,
 c 56 47 [(t 53), (t 55)],
 m 4 56]
def f18 : IFn := ⟨(q (o f18o0) (q (q (o f18o1) (k 33 (q (o f18o2) R) K)) (q (q (o f18o3) (bl 0 (lp f18l8))) (q (o f18o9) R)))), [.t 4], 57⟩
def f19o0 : List IOper := [
 nw 2 26 [U, U, U, U, I, I, I, I],
 mc 3 (i 0)]
def f19o1 : List IOper := [
 m 13 0,
 c 14 48 [(t 13)],
 m 12 14,
 e 15 12 0,
 e 16 12 1,
 e 17 12 2,
 m 4 15,
 m 5 16,
 m 6 17]
def f19o2 : List IOper := [
 m 18 6,
 b 19 .neq (t 18) (i 0)]
def f19o3 : List IOper := [
 bd 20 [U, U, U, U, I, I, I, I] [],
 m 21 6,
 sn 8 2 20,
 m 3 21]
def f19o4 : List IOper := [
 m 22 5,
 m 23 0,
 n 24 1 23,
 b 25 .neq (t 22) (t 24),
 m 26 25,
 g 26 false (m 27 4),
 g 26 false (n 28 1 27),
 g 26 false (b 29 .neq (t 28) (i 8)),
 op 30 (.pick (t 26) (v (.bool true)) (t 29))]
def f19o5 : List IOper := [
 bd 31 [U, U, U, U, I, I, I, I] [],
 sn 8 2 31,
 mc 3 (i 11)]
def f19o6 : List IOper := [
 m 32 4,
 op 33 (.slL 1 (t 32) none (some (i 4)) none),
 n 34 1 33,
 mc 35 (i 0)]
def f19o7 : List IOper := [
 b 36 .lss (t 35) (t 34)]
def f19o8 : List IOper := [
 is 37 1 33 (t 35),
 l 38 37,
 m 8 38]
def f19o9 : List IOper := [
 m 39 8,
 b 40 .lss (t 39) (i 0),
 m 41 40,
 g 41 false (m 42 8),
 g 41 false (b 43 .geq (t 42) (i 4294967296)),
 op 44 (.pick (t 41) (v (.bool true)) (t 43))]
def f19o10 : List IOper := [
 bd 45 [U, U, U, U, I, I, I, I] [],
 sn 8 2 45,
 mc 3 (i 11)]
def f19o11 : List IOper := [
 b 46 .add (t 35) (i 1),
 m 35 46]
def f19l12 : IC := (q (o f19o7) (q (k 36 K (ex 0)) (q (bl 1 (q (o f19o8) (q (o f19o9) (k 44 (q (o f19o10) R) K)))) (o f19o11))))
def f19o13 : List IOper := [
 m 47 4,
 is 48 1 47 (i 0),
 l 49 48,
 cv 50 .u32 49,
 m 51 4,
 is 52 1 51 (i 1),
 l 53 52,
 cv 54 .u32 53,
 bd 55 [U, U] [(0, 1, (t 50)), (1, 1, (t 54))],
 m 56 4,
 is 57 1 56 (i 2),
 l 58 57,
 cv 59 .u32 58,
 m 60 4,
 is 61 1 60 (i 3),
 l 62 61,
 cv 63 .u32 62,
 bd 64 [U, U] [(0, 1, (t 59)), (1, 1, (t 63))],
 nw 9 24 [U, U],
 nw 10 24 [U, U],
 sn 2 9 55,
 sn 2 10 64]
def f19o14 : List IOper := [
 la 65 2 9,
 la 66 2 10,
 m 67 4,
 is 68 1 67 (i 4),
 l 69 68,
 m 70 4,
 is 71 1 70 (i 5),
 l 72 71,
 m 73 4,
 is 74 1 73 (i 6),
 l 75 74,
 m 76 4,
 is 77 1 76 (i 7),
 l 78 77,
 bd 79 [U, U, U, U, I, I, I, I] [(0, 2, (t 65)), (2, 2, (t 66)), (4, 1, (t 69)), (5, 1, (t 72)), (6, 1, (t 75)), (7, 1, (t 78))],
 nw 11 26 [U, U, U, U, I, I, I, I],
 sn 8 11 79]
def f19o15 : List IOper := [
 la 80 8 11,
 c 81 10 [(t 80)],
 op 82 (.un .not (t 81))]
def f19o16 : List IOper := [
 bd 83 [U, U, U, U, I, I, I, I] [],
 sn 8 2 83,
 mc 3 (i 3)]
def f19o17 : List IOper := [
 la 84 8 11,
 sn 8 2 84,
 mc 3 (i 0)]
def f19 : IFn := ⟨(q (o f19o0) (q (o f19o1) (q (q (o f19o2) (k 19 (q (o f19o3) R) K)) (q (q (o f19o4) (k 30 (q (o f19o5) R) K)) (q (q (o f19o6) (bl 0 (lp f19l12))) (q (.opsX f19o13 [(57, 9), (61, 9)]) (q (od f19o14) (q (q (o f19o15) (k 82 (q (o f19o16) R) K)) (q (o f19o17) R))))))))), [.cell 2 8 true, .t 3], 85⟩
def f20o0 : List IOper := [
 nw 2 53 [U, U, U, U, I, I, I, I, I]]
def f20o1 : List IOper := [
 m 10 0,
 c 11 49 [(t 10)],
 m 9 11,
 e 12 9 0,
 e 13 9 1,
 e 14 9 2,
 m 3 12,
 m 4 13,
 m 5 14]
def f20o2 : List IOper := [
 m 15 5,
 b 16 .neq (t 15) (i 0)]
def f20o3 : List IOper := [
 m 17 5,
 bd 18 [U, U, U, U, I, I, I, I, I] [(8, 1, (t 17))],
 sn 9 2 18]
def f20o4 : List IOper := [
 m 19 4,
 m 20 0,
 n 21 1 20,
 b 22 .neq (t 19) (t 21),
 m 23 22,
 g 23 false (m 24 3),
 g 23 false (n 25 1 24),
 g 23 false (b 26 .neq (t 25) (i 8)),
 op 27 (.pick (t 23) (v (.bool true)) (t 26))]
def f20o5 : List IOper := [
 bd 28 [U, U, U, U, I, I, I, I, I] [(8, 1, (i 11))],
 sn 9 2 28]
def f20o6 : List IOper := [
 mc 6 (i 0)]
def f20o7 : List IOper := [
 m 29 6,
 b 30 .lss (t 29) (i 4)]
def f20o8 : List IOper := [
 m 33 3,
 m 34 6,
 is 35 1 33 (t 34),
 l 36 35,
 b 37 .lss (t 36) (i 0),
 m 38 37,
 g 38 false (m 39 3),
 g 38 false (m 40 6),
 g 38 false (is 41 1 39 (t 40)),
 g 38 false (l 42 41),
 g 38 false (b 43 .geq (t 42) (i 4294967296)),
 op 44 (.pick (t 38) (v (.bool true)) (t 43))]
def f20o9 : List IOper := [
 bd 45 [U, U, U, U, I, I, I, I, I] [(8, 1, (i 11))],
 sn 9 2 45]
def f20o10 : List IOper := [
 m 31 6,
 b 32 .add (t 31) (i 1),
 m 6 32]
def f20l11 : IC := (q (q (o f20o7) (k 30 K (ex 0))) (q (bl 1 (q (o f20o8) (k 44 (q (o f20o9) R) K))) (o f20o10)))
def f20o12 : List IOper := [
 m 46 3,
 is 47 1 46 (i 0),
 l 48 47,
 cv 49 .u32 48,
 m 50 3,
 is 51 1 50 (i 1),
 l 52 51,
 cv 53 .u32 52,
 bd 54 [U, U] [(0, 1, (t 49)), (1, 1, (t 53))],
 m 55 3,
 is 56 1 55 (i 2),
 l 57 56,
 cv 58 .u32 57,
 m 59 3,
 is 60 1 59 (i 3),
 l 61 60,
 cv 62 .u32 61,
 bd 63 [U, U] [(0, 1, (t 58)), (1, 1, (t 62))],
 m 64 3,
 is 65 1 64 (i 4),
 l 66 65,
 m 67 3,
 is 68 1 67 (i 5),
 l 69 68,
 m 70 3,
 is 71 1 70 (i 6),
 l 72 71,
 m 73 3,
 is 74 1 73 (i 7),
 l 75 74,
 bd 76 [U, U, U, U, I, I, I, I] [(0, 2, (t 54)), (2, 2, (t 63)), (4, 1, (t 66)), (5, 1, (t 69)), (6, 1, (t 72)), (7, 1, (t 75))],
 nw 7 26 [U, U, U, U, I, I, I, I],
 sn 8 7 76]
def f20o13 : List IOper := [
 la 77 8 7,
 c 78 11 [(t 77)],
 m 8 78]
def f20o14 : List IOper := [
 m 79 8,
 op 80 (.un .not (t 79))]
def f20o15 : List IOper := [
 bd 81 [U, U, U, U, I, I, I, I, I] [(8, 1, (i 3))],
 sn 9 2 81]
def f20o16 : List IOper := [
 la 82 8 7,
 bd 83 [U, U, U, U, I, I, I, I, I] [(0, 8, (t 82))],
 sn 9 2 83]
def f20 : IFn := ⟨(q (o f20o0) (q (o f20o1) (q (q (o f20o2) (k 16 (q (o f20o3) R) K)) (q (q (o f20o4) (k 27 (q (o f20o5) R) K)) (q (q (o f20o6) (bl 0 (lp f20l11))) (q (od f20o12) (q (o f20o13) (q (q (o f20o14) (k 80 (q (o f20o15) R) K)) (q (o f20o16) R))))))))), [.cell 2 9 true], 84⟩
def f21o0 : List IOper := [
 x 2 29 0,
 x 3 24 1,
 mc 4 (i 0)]
def f21o1 : List IOper := [
 f 5 1 3,
 l 6 5,
 b 7 .neq (t 6) (w 1),
 m 8 7,
 g 8 true (f 9 1 3),
 g 8 true (l 10 9),
 g 8 true (b 11 .neq (t 10) (w 2)),
 op 12 (.pick (t 8) (t 11) (v B)),
 m 13 12,
 g 13 true (f 14 1 3),
 g 13 true (l 15 14),
 g 13 true (b 16 .neq (t 15) (w 4)),
 op 17 (.pick (t 13) (t 16) (v B)),
 m 18 17,
 g 18 true (f 19 1 3),
 g 18 true (l 20 19),
 g 18 true (b 21 .neq (t 20) (w 8)),
 op 22 (.pick (t 18) (t 21) (v B)),
 m 23 22,
 g 23 false (f 24 0 3),
 g 23 false (l 25 24),
 g 23 false (b 26 .rem (t 25) (w 16)),
 g 23 false (b 27 .neq (t 26) (w 0)),
 op 28 (.pick (t 23) (v (.bool true)) (t 27)),
 m 29 28,
 g 29 false (f 30 0 3),
 g 29 false (l 31 30),
 g 29 false (cv 32 .i64 31),
 g 29 false (f 33 1 3),
 g 29 false (l 34 33),
 g 29 false (cv 35 .i64 34),
 g 29 false (b 36 .mul (i 16) (t 35)),
 g 29 false (b 37 .add (t 32) (t 36)),
 g 29 false (la 38 1 2),
 g 29 false (c 39 50 [(t 38)]),
 g 29 false (b 40 .gtr (t 37) (t 39)),
 op 41 (.pick (t 29) (v (.bool true)) (t 40))]
def f21o2 : List IOper := [
 mc 4 (i 160)]
def f21o3 : List IOper := [
 mc 4 (i 0)]
def f21 : IFn := ⟨(q (o f21o0) (q (q (od f21o1) (k 41 (q (o f21o2) R) K)) (q (o f21o3) R))), [.t 4], 42⟩
def f22o0 : List IOper := [
 x 2 29 0,
 mc 4 (y 0)]
def f22o1 : List IOper := [
 f 5 0 2,
 l 6 5,
 m 7 1,
 b 8 .quo (t 7) (i 128),
 m 9 1,
 b 10 .rem (t 9) (i 128),
 is 11 128 6 (t 8),
 ia 12 128 1 11 (t 10),
 l 13 12,
 m 4 13]
def f22 : IFn := ⟨(q (o f22o0) (q (o f22o1) R)), [.t 4], 14⟩
def f23o0 : List IOper := [
 x 2 24 0,
 mc 4 (v B)]
def f23o1 : List IOper := [
 m 5 1,
 f 6 0 2,
 l 7 6,
 cv 8 .i64 7,
 b 9 .geq (t 5) (t 8),
 m 10 9,
 g 10 true (m 11 1),
 g 10 true (f 12 0 2),
 g 10 true (l 13 12),
 g 10 true (cv 14 .i64 13),
 g 10 true (f 15 1 2),
 g 10 true (l 16 15),
 g 10 true (cv 17 .i64 16),
 g 10 true (b 18 .mul (i 16) (t 17)),
 g 10 true (b 19 .add (t 14) (t 18)),
 g 10 true (b 20 .lss (t 11) (t 19)),
 op 21 (.pick (t 10) (t 20) (v B)),
 m 4 21]
def f23 : IFn := ⟨(q (o f23o0) (q (o f23o1) R)), [.t 4], 22⟩
def f24o0 : List IOper := [
 x 3 29 0,
 x 4 24 1,
 mc 6 (v B)]
def f24o1 : List IOper := [
 mc 7 (i 0)]
def f24o2 : List IOper := [
 m 11 7,
 f 12 1 4,
 l 13 12,
 cv 14 .i64 13,
 b 15 .lss (t 11) (t 14),
 m 16 15,
 g 16 true (m 17 7),
 g 16 true (b 18 .lss (t 17) (i 8)),
 op 19 (.pick (t 16) (t 18) (v B))]
def f24o3 : List IOper := [
 la 22 1 3,
 f 23 0 4,
 l 24 23,
 cv 25 .i64 24,
 m 26 7,
 b 27 .mul (i 16) (t 26),
 b 28 .add (t 25) (t 27),
 c 29 51 [(t 22), (t 28), (i 4)],
 nw 8 113 [U, B],
 sn 2 8 29]
def f24o4 : List IOper := [
 la 30 1 3,
 f 31 0 4,
 l 32 31,
 cv 33 .i64 32,
 m 34 7,
 b 35 .mul (i 16) (t 34),
 b 36 .add (t 33) (t 35),
 b 37 .add (t 36) (i 4),
 c 38 51 [(t 30), (t 37), (i 4)],
 nw 9 113 [U, B],
 sn 2 9 38]
def f24o5 : List IOper := [
 la 39 1 3,
 f 40 0 4,
 l 41 40,
 cv 42 .i64 41,
 m 43 7,
 b 44 .mul (i 16) (t 43),
 b 45 .add (t 42) (t 44),
 b 46 .add (t 45) (i 8),
 c 47 51 [(t 39), (t 46), (i 4)],
 nw 10 113 [U, B],
 sn 2 10 47]
def f24o6 : List IOper := [
 f 48 0 10,
 l 49 48,
 b 50 .rem (t 49) (w 2),
 b 51 .eql (t 50) (w 1),
 m 52 51,
 g 52 true (m 53 2),
 g 52 true (f 54 0 8),
 g 52 true (l 55 54),
 g 52 true (cv 56 .i64 55),
 g 52 true (b 57 .geq (t 53) (t 56)),
 op 58 (.pick (t 52) (t 57) (v B)),
 m 59 58,
 g 59 true (m 60 2),
 g 59 true (f 61 0 8),
 g 59 true (l 62 61),
 g 59 true (cv 63 .i64 62),
 g 59 true (f 64 0 9),
 g 59 true (l 65 64),
 g 59 true (cv 66 .i64 65),
 g 59 true (b 67 .add (t 63) (t 66)),
 g 59 true (b 68 .lss (t 60) (t 67)),
 op 69 (.pick (t 59) (t 68) (v B))]
def f24o7 : List IOper := [
 mc 6 (v (.bool true))]
def f24o8 : List IOper := [
 m 20 7,
 b 21 .add (t 20) (i 1),
 m 7 21]
def f24l9 : IC := (q (q (o f24o2) (k 19 K (ex 0))) (q (bl 1 (q (o f24o3) (q (o f24o4) (q (o f24o5) (q (o f24o6) (k 69 (q (o f24o7) R) K)))))) (o f24o8)))
def f24o10 : List IOper := [
 mc 6 (v B)]
def f24 : IFn := ⟨(q (o f24o0) (q (q (o f24o1) (bl 0 (lp f24l9))) (q (o f24o10) R))), [.t 6], 70⟩
def f25o0 : List IOper := [
 x 3 29 0,
 nw 6 29 [N]]
def f25o1 : List IOper := [
 mc 7 (i 0)]
def f25o2 : List IOper := [
 m 9 7,
 m 10 2,
 n 11 1 10,
 b 12 .lss (t 9) (t 11)]
def f25o3 : List IOper := [
 la 15 1 3,
 m 16 1,
 m 17 7,
 b 18 .mul (i 4) (t 17),
 b 19 .add (t 16) (t 18),
 m 20 2,
 m 21 7,
 is 22 1 20 (t 21),
 l 23 22,
 bd 24 [I, I, U] [(0, 1, (t 19)), (1, 1, (i 4)), (2, 1, (t 23))],
 c 25 46 [(t 15), (t 24)],
 nw 8 64 [N, B],
 sn 2 8 25]
def f25o4 : List IOper := [
 f 26 0 8,
 la 27 1 26,
 s 3 27]
def f25o5 : List IOper := [
 m 13 7,
 b 14 .add (t 13) (i 1),
 m 7 14]
def f25l6 : IC := (q (q (o f25o2) (k 12 K (ex 0))) (q (bl 1 (q (od f25o3) (o f25o4))) (o f25o5)))
def f25o7 : List IOper := [
 la 28 1 3,
 s 6 28]
def f25 : IFn := ⟨(q (o f25o0) (q (q (o f25o1) (bl 0 (lp f25l6))) (q (o f25o7) R))), [.cell 6 1 true], 29⟩
def f26o0 : List IOper := [
 x 3 29 0,
 nw 6 64 [N, B]]
def f26o1 : List IOper := [
 m 9 1,
 b 10 .lss (t 9) (i 0),
 m 11 10,
 g 11 false (m 12 1),
 g 11 false (la 13 1 3),
 g 11 false (c 14 50 [(t 13)]),
 g 11 false (b 15 .gtr (t 12) (t 14)),
 op 16 (.pick (t 11) (v (.bool true)) (t 15)),
 m 17 16,
 g 17 false (m 18 2),
 g 17 false (ns 19 18),
 g 17 false (la 20 1 3),
 g 17 false (c 21 50 [(t 20)]),
 g 17 false (m 22 1),
 g 17 false (b 23 .sub (t 21) (t 22)),
 g 17 false (b 24 .gtr (t 19) (t 23)),
 op 25 (.pick (t 17) (v (.bool true)) (t 24))]
def f26o2 : List IOper := [
 la 26 1 3,
 bd 27 [N, B] [(0, 1, (t 26))],
 sn 2 6 27]
def f26o3 : List IOper := [
 la 28 1 3,
 op 29 (.callp 2 52 [(t 28)]),
 nw 7 29 [N],
 s 7 29]
def f26o4 : List IOper := [
 mc 8 (i 0)]
def f26o5 : List IOper := [
 m 30 8,
 m 31 2,
 ns 32 31,
 b 33 .lss (t 30) (t 32)]
def f26o6 : List IOper := [
 f 36 0 7,
 l 37 36,
 m 38 1,
 m 39 8,
 b 40 .add (t 38) (t 39),
 b 41 .quo (t 40) (i 128),
 m 42 1,
 m 43 8,
 b 44 .add (t 42) (t 43),
 b 45 .rem (t 44) (i 128),
 m 46 2,
 m 47 8,
 op 48 (.ixS (t 46) (t 47)),
 is 49 128 37 (t 41),
 ia 50 128 1 49 (t 45),
 s 50 48]
def f26o7 : List IOper := [
 m 34 8,
 b 35 .add (t 34) (i 1),
 m 8 35]
def f26l8 : IC := (q (q (o f26o5) (k 33 K (ex 0))) (q (bl 1 (od f26o6)) (o f26o7)))
def f26o9 : List IOper := [
 la 51 1 7,
 bd 52 [N, B] [(0, 1, (t 51)), (1, 1, (v (.bool true)))],
 sn 2 6 52]
def f26 : IFn := ⟨(q (o f26o0) (q (q (o f26o1) (k 25 (q (o f26o2) R) K)) (q (o f26o3) (q (q (o f26o4) (bl 0 (lp f26l8))) (q (o f26o9) R))))), [.cell 6 2 true], 53⟩
def f27o0 : List IOper := [
 x 3 29 0,
 mc 6 (v E),
 mc 7 (v B)]
def f27o1 : List IOper := [
 m 12 1,
 b 13 .lss (t 12) (i 0),
 m 14 13,
 g 14 false (m 15 2),
 g 14 false (b 16 .lss (t 15) (i 0)),
 op 17 (.pick (t 14) (v (.bool true)) (t 16)),
 m 18 17,
 g 18 false (m 19 1),
 g 18 false (la 20 1 3),
 g 18 false (c 21 53 [(t 20)]),
 g 18 false (b 22 .gtr (t 19) (t 21)),
 op 23 (.pick (t 18) (v (.bool true)) (t 22)),
 m 24 23,
 g 24 false (m 25 2),
 g 24 false (la 26 1 3),
 g 24 false (c 27 53 [(t 26)]),
 g 24 false (m 28 1),
 g 24 false (b 29 .sub (t 27) (t 28)),
 g 24 false (b 30 .gtr (t 25) (t 29)),
 op 31 (.pick (t 24) (v (.bool true)) (t 30))]
def f27o2 : List IOper := [
 mc 6 (v E),
 mc 7 (v B)]
def f27o3 : List IOper := [
 m 32 2,
 op 33 (.mks false 1 1 [Y] (i 0) (t 32)),
 m 8 33]
def f27o4 : List IOper := [
 m 34 8,
 n 35 1 34,
 m 36 2,
 b 37 .lss (t 35) (t 36)]
def f27o5 : List IOper := [
 m 38 1,
 m 39 8,
 n 40 1 39,
 b 41 .add (t 38) (t 40),
 m 9 41]
def f27o6 : List IOper := [
 f 42 0 3,
 l 43 42,
 m 44 9,
 b 45 .quo (t 44) (i 128),
 is 46 128 43 (t 45),
 la 47 128 46,
 nw 10 111 (List.replicate 128 Y),
 sn 128 10 47]
def f27o7 : List IOper := [
 m 48 9,
 b 49 .rem (t 48) (i 128),
 op 50 (.slA 128 1 (t 10) (some (t 49)) none none),
 m 11 50]
def f27o8 : List IOper := [
 m 51 8,
 m 52 11,
 m 53 11,
 n 54 1 53,
 m 55 2,
 m 56 8,
 n 57 1 56,
 b 58 .sub (t 55) (t 57),
 op 59 (.mn false [(t 54), (t 58)]),
 op 60 (.slL 1 (t 52) none (some (t 59)) none),
 ap 61 1 1 51 60,
 m 8 61]
def f27l9 : IC := (q (q (o f27o4) (k 37 K (ex 0))) (bl 1 (q (o f27o5) (q (o f27o6) (q (o f27o7) (o f27o8))))))
def f27o10 : List IOper := [
 m 62 8,
 op 63 (.b2s (t 62)),
 m 6 63,
 mc 7 (v (.bool true))]
def f27 : IFn := ⟨(q (o f27o0) (q (q (o f27o1) (k 31 (q (o f27o2) R) K)) (q (o f27o3) (q (bl 0 (lp f27l9)) (q (o f27o10) R))))), [.t 6, .t 7], 64⟩
def f28o0 : List IOper := [
 x 3 29 0,
 mc 6 (w 0),
 mc 7 (v B)]
def f28o1 : List IOper := [
 la 9 1 3,
 m 10 1,
 m 11 2,
 c 12 54 [(t 9), (t 10), (t 11)],
 op 13 (.un .not (t 12))]
def f28o2 : List IOper := [
 mc 6 (w 0),
 mc 7 (v B)]
def f28o3 : List IOper := [
 f 14 0 3,
 l 15 14,
 m 16 1,
 b 17 .quo (t 16) (i 128),
 is 18 128 15 (t 17),
 m 19 1,
 b 20 .rem (t 19) (i 128),
 op 21 (.slA 128 1 (t 18) (some (t 20)) none none),
 m 8 21]
def f28o4 : List IOper := [
 m 22 2,
 b 23 .eql (t 22) (i 1)]
def f28o5 : List IOper := [
 m 24 8,
 is 25 1 24 (i 0),
 l 26 25,
 cv 27 .u32 26,
 m 6 27,
 mc 7 (v (.bool true))]
def f28o6 : List IOper := [
 m 28 8,
 is 29 1 28 (i 0),
 l 30 29,
 cv 31 .u32 30,
 m 32 8,
 is 33 1 32 (i 1),
 l 34 33,
 cv 35 .u32 34,
 b 36 .shl (t 35) (v (.int .u64 8)),
 b 37 .or (t 31) (t 36),
 m 38 8,
 is 39 1 38 (i 2),
 l 40 39,
 cv 41 .u32 40,
 b 42 .shl (t 41) (v (.int .u64 16)),
 b 43 .or (t 37) (t 42),
 m 44 8,
 is 45 1 44 (i 3),
 l 46 45,
 cv 47 .u32 46,
 b 48 .shl (t 47) (v (.int .u64 24)),
 b 49 .or (t 43) (t 48),
 m 6 49,
 mc 7 (v (.bool true))]
def f28 : IFn := ⟨(q (o f28o0) (q (q (o f28o1) (k 13 (q (o f28o2) R) K)) (q (o f28o3) (q (q (o f28o4) (k 23 (q (o f28o5) R) K)) (q (od f28o6) R))))), [.t 6, .t 7], 50⟩
def f29o0 : List IOper := [
 nw 0 26 [U, U, U, U, I, I, I, I],
 nw 1 29 [N]]
def f29o1 : List IOper := [
 op 4 (.mks false 128 128 (List.replicate 128 Y) (i 8) (i 8)),
 bd 5 [N] [(0, 1, (t 4))],
 bs 6 1 [U, U, U, U] [(0, 1, (w 512)), (1, 1, (w 3)), (2, 1, (w 0)), (3, 1, (w 1))],
 c 7 25 [(t 5), (i 256), (t 6)],
 nw 2 29 [N],
 s 2 7]
def f29o2 : List IOper := [
 la 8 1 2,
 bs 9 1 [U, U, U, U] [(0, 1, (w 640)), (1, 1, (w 5)), (2, 1, (w 1)), (3, 1, (w 1))],
 c 10 25 [(t 8), (i 400), (t 9)],
 s 2 10]
def f29o3 : List IOper := [
 la 11 1 2,
 c 12 26 [(t 11), (i 512), (v (.str [97, 98, 99]))],
 nw 3 64 [N, B],
 sn 2 3 12]
def f29o4 : List IOper := [
 bd 13 [U, U] [(0, 1, (w 256)), (1, 1, (w 2))],
 bd 14 [U, U] [(0, 1, (w 384)), (1, 1, (w 2))],
 bd 15 [U, U, U, U, I, I, I, I] [(0, 2, (t 13)), (2, 2, (t 14))],
 f 16 0 3,
 la 17 1 16,
 sn 8 0 15,
 s 1 17]
def f29 : IFn := ⟨(q (o f29o0) (q (o f29o1) (q (o f29o2) (q (o f29o3) (q (.opsX f29o4 [(16, 0)]) R))))), [.cell 0 8 true, .cell 1 1 true], 18⟩
def f30o0 : List IOper := [
 x 2 24 0,
 mc 4 (v B)]
def f30o1 : List IOper := [
 f 5 1 2,
 l 6 5]
def f30o2 : List IOper := [
 b 8 .eql (t 6) (w 1),
 m 7 8]
def f30o3 : List IOper := [
 b 10 .eql (t 6) (w 2),
 m 9 10]
def f30o4 : List IOper := [
 b 12 .eql (t 6) (w 4),
 m 11 12]
def f30o5 : List IOper := [
 b 14 .eql (t 6) (w 8),
 m 13 14]
def f30o6 : List IOper := [
 m 15 1,
 b 16 .geq (t 15) (i 0),
 m 17 16,
 g 17 true (m 18 1),
 g 17 true (f 19 1 2),
 g 17 true (l 20 19),
 g 17 true (cv 21 .i64 20),
 g 17 true (b 22 .lss (t 18) (t 21)),
 op 23 (.pick (t 17) (t 22) (v B)),
 m 4 23]
def f30o7 : List IOper := [
 m 24 1,
 b 25 .eql (t 24) (i 0),
 m 4 25]
def f30 : IFn := ⟨(q (o f30o0) (q (q (o f30o1) (bl 0 (q (bl 4 (bl 3 (bl 2 (bl 1 (q (q (q (o f30o2) (k 7 (ex 1) K)) (q (q (o f30o3) (k 9 (ex 2) K)) (q (q (o f30o4) (k 11 (ex 3) K)) (q (o f30o5) (k 13 (ex 4) K))))) (ex 0)))))) (q (q (o f30o6) R) (ex 0))))) (q (o f30o7) R))), [.t 4], 26⟩
def f31o0 : List IOper := [
 x 2 24 0,
 mc 4 (v B)]
def f31o1 : List IOper := [
 f 5 1 2,
 l 6 5,
 b 7 .eql (t 6) (w 1),
 m 8 7,
 g 8 false (f 9 1 2),
 g 8 false (l 10 9),
 g 8 false (b 11 .eql (t 10) (w 2)),
 op 12 (.pick (t 8) (v (.bool true)) (t 11)),
 m 13 12,
 g 13 false (f 14 1 2),
 g 13 false (l 15 14),
 g 13 false (b 16 .eql (t 15) (w 4)),
 op 17 (.pick (t 13) (v (.bool true)) (t 16)),
 m 18 17,
 g 18 false (f 19 1 2),
 g 18 false (l 20 19),
 g 18 false (b 21 .eql (t 20) (w 8)),
 op 22 (.pick (t 18) (v (.bool true)) (t 21))]
def f31o2 : List IOper := [
 m 23 1,
 b 24 .geq (t 23) (i 0),
 m 25 24,
 g 25 true (m 26 1),
 g 25 true (f 27 1 2),
 g 25 true (l 28 27),
 g 25 true (cv 29 .i64 28),
 g 25 true (b 30 .lss (t 26) (t 29)),
 op 31 (.pick (t 25) (t 30) (v B)),
 m 4 31]
def f31o3 : List IOper := [
 m 32 1,
 b 33 .eql (t 32) (i 0),
 m 4 33]
def f31 : IFn := ⟨(q (o f31o0) (q (q (o f31o1) (k 22 (q (o f31o2) R) K)) (q (o f31o3) R))), [.t 4], 34⟩
def f32o0 : List IOper := [
 mc 2 (v N)]
def f32o1 : List IOper := [
 m 3 0,
 op 4 (.calls 55 [(t 3), (v (.fn 56 [] []))]),
 m 2 4]
def f32 : IFn := ⟨(q (o f32o0) (q (o f32o1) R)), [.t 2], 5⟩
def f33o0 : List IOper := [
 mc 2 (v N)]
def f33o1 : List IOper := [
 m 5 0,
 n 6 1 5,
 op 7 (.callp 1 57 [(t 6)]),
 m 3 7]
def f33o2 : List IOper := [
 mc 4 (i 0)]
def f33o3 : List IOper := [
 m 8 4,
 m 9 0,
 n 10 1 9,
 b 11 .lss (t 8) (t 10)]
def f33o4 : List IOper := [
 m 14 3,
 m 15 0,
 m 16 4,
 is 17 1 15 (t 16),
 l 18 17,
 c 19 57 [(t 18)],
 ap 20 1 1 14 19,
 m 3 20]
def f33o5 : List IOper := [
 m 12 4,
 b 13 .add (t 12) (i 1),
 m 4 13]
def f33l6 : IC := (q (q (o f33o3) (k 11 K (ex 0))) (q (bl 1 (o f33o4)) (o f33o5)))
def f33o7 : List IOper := [
 m 21 3,
 m 2 21]
def f33 : IFn := ⟨(q (o f33o0) (q (o f33o1) (q (q (o f33o2) (bl 0 (lp f33l6))) (q (o f33o7) R)))), [.t 2], 22⟩
def f34o0 : List IOper := [
 m 4 1]
def f34o1 : List IOper := [
 b 10 .eql (t 4) (i 64),
 m 9 10]
def f34o2 : List IOper := [
 m 11 0,
 m 12 0,
 op 13 (.nchk (t 12)),
 f 14 5 13,
 f 15 0 14,
 f 16 0 15,
 l 17 16,
 op 18 (.nchk (t 11)),
 f 19 0 18,
 f 20 1 19,
 s 20 17]
def f34o3 : List IOper := [
 b 22 .eql (t 4) (i 65),
 m 21 22]
def f34o4 : List IOper := [
 m 23 0,
 m 24 0,
 op 25 (.nchk (t 24)),
 f 26 5 25,
 f 27 0 26,
 f 28 1 27,
 l 29 28,
 op 30 (.nchk (t 23)),
 f 31 0 30,
 f 32 1 31,
 s 32 29]
def f34o5 : List IOper := [
 b 34 .eql (t 4) (i 66),
 m 33 34]
def f34o6 : List IOper := [
 m 35 0,
 m 36 0,
 op 37 (.nchk (t 36)),
 f 38 5 37,
 f 39 2 38,
 f 40 0 39,
 l 41 40,
 op 42 (.nchk (t 35)),
 f 43 0 42,
 f 44 1 43,
 s 44 41]
def f34o7 : List IOper := [
 b 46 .eql (t 4) (i 67),
 m 45 46]
def f34o8 : List IOper := [
 m 47 0,
 m 48 0,
 op 49 (.nchk (t 48)),
 f 50 5 49,
 f 51 2 50,
 f 52 1 51,
 l 53 52,
 op 54 (.nchk (t 47)),
 f 55 0 54,
 f 56 1 55,
 s 56 53]
def f34o9 : List IOper := [
 b 58 .eql (t 4) (i 69),
 m 57 58]
def f34o10 : List IOper := [
 m 59 0,
 m 60 0,
 m 61 0,
 op 62 (.nchk (t 61)),
 f 63 5 62,
 f 64 6 63,
 l 65 64,
 cv 66 .u32 65,
 op 67 (.nchk (t 59)),
 f 68 0 67,
 f 69 1 68,
 s 69 66,
 op 70 (.nchk (t 60)),
 f 71 5 70,
 f 72 6 71,
 op0 (.store 1 (t 72) (i 0))]
def f34o11 : List IOper := [
 b 74 .eql (t 4) (i 70),
 m 73 74]
def f34o12 : List IOper := [
 m 75 0,
 m 76 0,
 op 77 (.nchk (t 76)),
 f 78 5 77,
 f 79 7 78,
 l 80 79,
 cv 81 .u32 80,
 op 82 (.nchk (t 75)),
 f 83 0 82,
 f 84 1 83,
 s 84 81]
def f34o13 : List IOper := [
 m 5 0,
 op 6 (.nchk (t 5)),
 f 7 0 6,
 f 8 4 7,
 op0 (.store 1 (t 8) (v B))]
def f34 : IFn := ⟨(q (o f34o0) (bl 0 (q (o f34o1) (k 9 (o f34o2) (q (o f34o3) (k 21 (o f34o4) (q (o f34o5) (k 33 (o f34o6) (q (o f34o7) (k 45 (o f34o8) (q (o f34o9) (k 57 (o f34o10) (q (o f34o11) (k 73 (o f34o12) (o f34o13))))))))))))))), [], 85⟩
def f35o0 : List IOper := [
 m 6 1]
def f35o1 : List IOper := [
 b 12 .eql (t 6) (i 64),
 m 11 12]
def f35o2 : List IOper := [
 m 13 0,
 m 14 0,
 m 15 2,
 op 16 (.nchk (t 13)),
 f 17 5 16,
 f 18 0 17,
 f 19 0 18,
 s 19 15,
 op 20 (.nchk (t 14)),
 f 21 5 20,
 f 22 4 21,
 op0 (.store 1 (t 22) (i 0))]
def f35o3 : List IOper := [
 b 24 .eql (t 6) (i 65),
 m 23 24]
def f35o4 : List IOper := [
 m 25 0,
 m 26 0,
 m 27 2,
 op 28 (.nchk (t 25)),
 f 29 5 28,
 f 30 0 29,
 f 31 1 30,
 s 31 27,
 op 32 (.nchk (t 26)),
 f 33 5 32,
 f 34 4 33,
 op0 (.store 1 (t 34) (i 0))]
def f35o5 : List IOper := [
 b 36 .eql (t 6) (i 66),
 m 35 36]
def f35o6 : List IOper := [
 m 37 0,
 m 38 0,
 m 39 2,
 op 40 (.nchk (t 37)),
 f 41 5 40,
 f 42 2 41,
 f 43 0 42,
 s 43 39,
 op 44 (.nchk (t 38)),
 f 45 5 44,
 f 46 5 45,
 op0 (.store 1 (t 46) (i 0))]
def f35o7 : List IOper := [
 b 48 .eql (t 6) (i 67),
 m 47 48]
def f35o8 : List IOper := [
 m 49 0,
 m 50 0,
 m 51 2,
 op 52 (.nchk (t 49)),
 f 53 5 52,
 f 54 2 53,
 f 55 1 54,
 s 55 51,
 op 56 (.nchk (t 50)),
 f 57 5 56,
 f 58 5 57,
 op0 (.store 1 (t 58) (i 0))]
def f35o9 : List IOper := [
 b 60 .eql (t 6) (i 68),
 m 59 60]
def f35o10 : List IOper := [
 m 61 0,
 op 62 (.calls 58 [(t 61)])]
def f35o11 : List IOper := [
 m 7 0,
 op 8 (.nchk (t 7)),
 f 9 0 8,
 f 10 4 9,
 op0 (.store 1 (t 10) (v B))]
def f35 : IFn := ⟨(q (o f35o0) (bl 0 (q (o f35o1) (k 11 (o f35o2) (q (o f35o3) (k 23 (o f35o4) (q (o f35o5) (k 35 (o f35o6) (q (o f35o7) (k 47 (o f35o8) (q (o f35o9) (k 59 (o f35o10) (o f35o11))))))))))))), [], 63⟩
def f36o0 : List IOper := [
 x 3 76 0,
 x 4 24 1,
 x 5 84 2,
 mc 6 (v .nilfn)]
def f36o1 : List IOper := [
 op 7 (.mkf 59 [] [(t 3), (t 4), (t 5)]),
 m 6 7]
def f36 : IFn := ⟨(q (o f36o0) (q (o f36o1) R)), [.t 6], 8⟩
def f37o0 : List IOper := [
 x 4 87 1]
def f37o1 : List IOper := [
 f 8 2 4,
 l 9 8,
 b 10 .neq (t 9) (i 0)]
def f37o2 : List IOper := [
 f 11 1 4,
 l 12 11,
 m 13 2,
 ns 14 13,
 c 15 64 [(t 12), (v (.bool true)), (t 14), (i 1048576)],
 m 6 15]
def f37o3 : List IOper := [
 m 16 6,
 b 17 .neq (t 16) (i 0)]
def f37o4 : List IOper := [
 m 18 0,
 m 19 0,
 op 20 (.nchk (t 19)),
 f 21 5 20,
 f 22 2 21,
 la 23 2 22,
 f 24 0 4,
 l 25 24,
 m 26 6,
 op 27 (.calls 65 [(t 18), (t 23), (t 25), (t 26)])]
def f37o5 : List IOper := [
 m 29 0,
 m 30 0,
 op 31 (.nchk (t 30)),
 f 32 0 31,
 f 33 0 32,
 la 34 1 33,
 f 35 1 4,
 l 36 35,
 m 37 2,
 c 38 66 [(t 34), (t 36), (t 37)],
 m 28 38,
 e 39 28 0,
 e 40 28 1,
 op 41 (.nchk (t 29)),
 f 42 0 41,
 f 43 0 42,
 s 43 39]
def f37o6 : List IOper := [
 m 44 0,
 m 45 0,
 op 46 (.nchk (t 45)),
 f 47 0 46,
 f 48 0 47,
 la 49 1 48,
 m 50 0,
 op 51 (.nchk (t 50)),
 f 52 5 51,
 f 53 2 52,
 la 54 2 53,
 f 55 1 4,
 l 56 55,
 c 57 67 [(t 49), (t 54), (t 56)],
 op 58 (.nchk (t 44)),
 f 59 0 58,
 f 60 0 59,
 s 60 57]
def f37o7 : List IOper := [
 m 61 0,
 op 62 (.nchk (t 61)),
 f 63 5 62,
 f 64 2 63,
 f 65 0 64,
 l 66 65,
 cv 67 .i64 66,
 f 68 0 4,
 l 69 68,
 b 70 .mul (i 16) (t 69),
 b 71 .add (t 67) (t 70),
 b 72 .add (t 71) (i 4),
 m 7 72]
def f37o8 : List IOper := [
 m 74 0,
 m 75 0,
 op 76 (.nchk (t 75)),
 f 77 0 76,
 f 78 0 77,
 la 79 1 78,
 m 80 7,
 m 81 2,
 ns 82 81,
 cv 83 .u32 82,
 bd 84 [I, I, U] [(0, 1, (t 80)), (1, 1, (i 4)), (2, 1, (t 83))],
 c 85 68 [(t 79), (t 84)],
 m 73 85,
 e 86 73 0,
 e 87 73 1,
 op 88 (.nchk (t 74)),
 f 89 0 88,
 f 90 0 89,
 s 90 86]
def f37o9 : List IOper := [
 m 91 0,
 op 92 (.nchk (t 91)),
 f 93 0 92,
 f 94 4 93,
 op0 (.store 1 (t 94) (v (.bool true)))]
def f37 : IFn := ⟨(q (o f37o0) (q (q (o f37o1) (k 10 R K)) (q (q (o f37o2) (q (o f37o3) (k 17 (q (od f37o4) R) K))) (q (od f37o5) (q (od f37o6) (q (od f37o7) (q (o f37o8) (o f37o9)))))))), [], 95⟩
def f38o0 : List IOper := [
 x 1 44 0,
 nw 2 44 [U, U, U, U, I, I, I, I, N, U, N, B, B]]
def f38o1 : List IOper := [
 f 8 8 1,
 f 9 0 8,
 la 10 1 9,
 f 11 0 1,
 f 12 0 11,
 la 13 2 12,
 c 14 21 [(t 10), (t 13)],
 m 3 14]
def f38o2 : List IOper := [
 m 15 3,
 b 16 .neq (t 15) (i 0)]
def f38o3 : List IOper := [
 m 17 3,
 f 18 0 1,
 f 19 6 18,
 s 19 17]
def f38o4 : List IOper := [
 la 20 13 1,
 sn 13 2 20]
def f38o5 : List IOper := [
 mc 4 (i 0)]
def f38o6 : List IOper := [
 m 21 4,
 f 22 0 1,
 f 23 0 22,
 f 24 1 23,
 l 25 24,
 cv 26 .i64 25,
 b 27 .lss (t 21) (t 26)]
def f38o7 : List IOper := [
 f 30 8 1,
 f 31 0 30,
 la 32 1 31,
 f 33 0 1,
 f 34 0 33,
 la 35 2 34,
 f 36 0 1,
 f 37 4 36,
 l 38 37,
 c 39 40 [(t 32), (t 35), (t 38)],
 nw 5 92 [I, B],
 sn 2 5 39]
def f38o8 : List IOper := [
 f 40 1 5,
 l 41 40,
 op 42 (.un .not (t 41))]
def f38o9 : List IOper := [
 la 43 13 1,
 sn 13 2 43]
def f38o10 : List IOper := [
 f 44 8 1,
 f 45 3 44,
 op0 (.store 1 (t 45) (v (.bool true)))]
def f38o11 : List IOper := [
 f 46 0 5,
 l 47 46,
 b 48 .add (t 47) (i 1),
 f 49 0 1,
 f 50 0 49,
 f 51 1 50,
 l 52 51,
 cv 53 .i64 52,
 b 54 .rem (t 48) (t 53),
 f 55 0 1,
 f 56 4 55,
 s 56 54]
def f38o12 : List IOper := [
 f 57 8 1,
 f 58 0 57,
 la 59 1 58,
 f 60 0 1,
 f 61 0 60,
 la 62 2 61,
 f 63 0 5,
 l 64 63,
 c 65 41 [(t 59), (t 62), (t 64)],
 nw 6 95 [N, N, I],
 sn 3 6 65]
def f38o13 : List IOper := [
 f 66 0 6,
 la 67 1 66,
 f 68 8 1,
 f 69 0 68,
 s 69 67]
def f38o14 : List IOper := [
 f 70 2 6,
 l 71 70,
 b 72 .neq (t 71) (i 0)]
def f38o15 : List IOper := [
 f 73 2 6,
 l 74 73,
 f 75 0 1,
 f 76 6 75,
 s 76 74]
def f38o16 : List IOper := [
 f 77 1 6,
 l 78 77,
 c 79 42 [(t 78), (v B), (i 0), (i 512)],
 m 7 79]
def f38o17 : List IOper := [
 m 80 7,
 b 81 .neq (t 80) (i 0)]
def f38o18 : List IOper := [
 m 82 7,
 f 83 0 1,
 f 84 6 83,
 s 84 82]
def f38o19 : List IOper := [
 f 85 8 1,
 f 86 0 85,
 la 87 1 86,
 f 88 0 1,
 f 89 0 88,
 la 90 2 89,
 f 91 0 5,
 l 92 91,
 m 93 7,
 c 94 43 [(t 87), (t 90), (t 92), (t 93)],
 f 95 8 1,
 f 96 0 95,
 s 96 94]
def f38o20 : List IOper := [
 bs 97 1 [] [],
 f 98 8 1,
 f 99 2 98,
 l 100 99,
 ap 101 1 16 97 100,
 f 102 8 1,
 f 103 0 102,
 la 104 1 103,
 f 105 1 6,
 l 106 105,
 c 107 69 [(t 104), (t 106)],
 bs 108 1 [E] [(0, 1, (t 107))],
 ap 109 1 16 101 108,
 f 110 8 1,
 f 111 2 110,
 s 111 109]
def f38o21 : List IOper := [
 f 112 8 1,
 f 113 0 112,
 la 114 1 113,
 f 115 0 1,
 f 116 0 115,
 la 117 2 116,
 f 118 1 6,
 l 119 118,
 c 120 45 [(t 114), (t 117), (t 119)],
 f 121 8 1,
 f 122 0 121,
 s 122 120]
def f38o22 : List IOper := [
 m 28 4,
 b 29 .add (t 28) (i 1),
 m 4 29]
def f38l23 : IC := (q (q (o f38o6) (k 27 K (ex 0))) (q (bl 1 (q (o f38o7) (q (q (o f38o8) (k 42 (q (o f38o9) R) K)) (q (o f38o10) (q (o f38o11) (q (o f38o12) (q (o f38o13) (q (q (o f38o14) (k 72 (q (o f38o15) (ex 1)) K)) (q (o f38o16) (q (q (o f38o17) (k 81 (q (o f38o18) (q (o f38o19) (ex 1))) K)) (q (od f38o20) (o f38o21)))))))))))) (o f38o22)))
def f38o24 : List IOper := [
 la 123 13 1,
 sn 13 2 123]
def f38 : IFn := ⟨(q (o f38o0) (q (o f38o1) (q (q (o f38o2) (k 16 (q (o f38o3) (q (o f38o4) R)) K)) (q (q (o f38o5) (bl 0 (lp f38l23))) (q (o f38o24) R))))), [.cell 2 13 true], 124⟩
def f39o0 : List IOper := [
 x 2 44 0,
 nw 4 44 [U, U, U, U, I, I, I, I, N, U, N, B, B]]
def f39o1 : List IOper := [
 f 5 0 2,
 f 6 7 5,
 l 7 6,
 b 8 .add (t 7) (i 1),
 op 9 (.mn false [(t 8), (i 1099511627776)]),
 f 10 0 2,
 f 11 7 10,
 s 11 9]
def f39o2 : List IOper := [
 m 12 1,
 b 13 .neq (t 12) (i 0)]
def f39o3 : List IOper := [
 m 14 1,
 f 15 0 2,
 f 16 6 15,
 s 16 14]
def f39o4 : List IOper := [
 la 17 13 2,
 sn 13 4 17]
def f39 : IFn := ⟨(q (o f39o0) (q (o f39o1) (q (q (o f39o2) (k 13 (o f39o3) K)) (q (o f39o4) R)))), [.cell 4 13 true], 18⟩
def f40o0 : List IOper := [
 x 3 29 0,
 x 4 24 1,
 nw 6 92 [I, B]]
def f40o1 : List IOper := [
 f 9 1 4,
 l 10 9,
 cv 11 .i64 10,
 m 7 11]
def f40o2 : List IOper := [
 mc 8 (i 0)]
def f40o3 : List IOper := [
 m 12 8,
 m 13 7,
 b 14 .lss (t 12) (t 13)]
def f40o4 : List IOper := [
 la 17 1 3,
 la 18 2 4,
 m 19 2,
 m 20 8,
 b 21 .add (t 19) (t 20),
 m 22 7,
 b 23 .rem (t 21) (t 22),
 c 24 70 [(t 17), (t 18), (t 23), (i 3)],
 b 25 .eql (t 24) (i 1)]
def f40o5 : List IOper := [
 m 26 2,
 m 27 8,
 b 28 .add (t 26) (t 27),
 m 29 7,
 b 30 .rem (t 28) (t 29),
 bd 31 [I, B] [(0, 1, (t 30)), (1, 1, (v (.bool true)))],
 sn 2 6 31]
def f40o6 : List IOper := [
 m 15 8,
 b 16 .add (t 15) (i 1),
 m 8 16]
def f40l7 : IC := (q (q (o f40o3) (k 14 K (ex 0))) (q (bl 1 (q (od f40o4) (k 25 (q (o f40o5) R) K))) (o f40o6)))
def f40o8 : List IOper := [
 bd 32 [I, B] [],
 sn 2 6 32]
def f40 : IFn := ⟨(q (o f40o0) (q (o f40o1) (q (q (o f40o2) (bl 0 (lp f40l7))) (q (o f40o8) R)))), [.cell 6 2 true], 33⟩
def f41o0 : List IOper := [
 x 3 29 0,
 x 4 24 1,
 nw 6 95 [N, N, I]]
def f41o1 : List IOper := [
 mc 7 (v N)]
def f41o2 : List IOper := [
 m 11 2,
 m 8 11]
def f41o3 : List IOper := [
 la 12 1 3,
 la 13 2 4,
 m 14 7,
 m 15 8,
 c 16 71 [(t 12), (t 13), (t 14), (t 15)],
 m 9 16]
def f41o4 : List IOper := [
 m 17 9,
 b 18 .neq (t 17) (i 0)]
def f41o5 : List IOper := [
 la 19 1 3,
 la 20 2 4,
 m 21 2,
 c 22 70 [(t 19), (t 20), (t 21), (i 3)],
 b 23 .eql (t 22) (i 1)]
def f41o6 : List IOper := [
 la 24 1 3,
 la 25 2 4,
 m 26 2,
 m 27 9,
 b 28 .sub (t 27) (i 160),
 b 29 .add (i 4) (t 28),
 c 30 72 [(t 24), (t 25), (t 26), (t 29)],
 s 3 30]
def f41o7 : List IOper := [
 la 31 1 3,
 m 32 9,
 bd 33 [N, N, I] [(0, 1, (t 31)), (2, 1, (t 32))],
 sn 3 6 33]
def f41o8 : List IOper := [
 la 34 1 3,
 la 35 2 4,
 m 36 8,
 c 37 70 [(t 34), (t 35), (t 36), (i 2)],
 m 10 37]
def f41o9 : List IOper := [
 m 38 7,
 m 39 8,
 la 40 1 3,
 la 41 2 4,
 m 42 8,
 c 43 70 [(t 40), (t 41), (t 42), (i 0)],
 la 44 1 3,
 la 45 2 4,
 m 46 8,
 c 47 70 [(t 44), (t 45), (t 46), (i 1)],
 m 48 10,
 b 49 .rem (t 48) (i 2),
 b 50 .eql (t 49) (i 1),
 bd 51 [I, I, I, B] [(0, 1, (t 39)), (1, 1, (t 43)), (2, 1, (t 47)), (3, 1, (t 50))],
 bs 52 4 [I, I, I, B] [(0, 4, (t 51))],
 ap 53 4 32 38 52,
 m 7 53]
def f41o10 : List IOper := [
 m 54 10,
 b 55 .quo (t 54) (i 2),
 b 56 .rem (t 55) (i 2),
 b 57 .eql (t 56) (i 0)]
def f41o11 : List IOper := [
 la 58 1 3,
 la 59 2 4,
 m 60 7,
 c 61 73 [(t 58), (t 59), (t 60), (i 2)],
 m 62 7,
 bd 63 [N, N, I] [(0, 1, (t 61)), (1, 1, (t 62))],
 sn 3 6 63]
def f41o12 : List IOper := [
 m 64 10,
 b 65 .quo (t 64) (i 256),
 b 66 .rem (t 65) (i 256),
 m 8 66]
def f41l13 : IC := (bl 1 (q (o f41o3) (q (q (o f41o4) (k 18 (q (q (o f41o5) (k 23 (o f41o6) K)) (q (o f41o7) R)) K)) (q (o f41o8) (q (od f41o9) (q (q (o f41o10) (k 57 (q (o f41o11) R) K)) (o f41o12)))))))
def f41 : IFn := ⟨(q (o f41o0) (q (o f41o1) (q (o f41o2) (bl 0 (lp f41l13))))), [.cell 6 3 true], 67⟩
def f42o0 : List IOper := [
 mc 8 (i 0)]
def f42o1 : List IOper := [
 mc 9 (i 0)]
def f42o2 : List IOper := [
 mc 10 (i 0)]
def f42o3 : List IOper := [
 m 11 10,
 m 12 0,
 n 13 4 12,
 b 14 .lss (t 11) (t 13)]
def f42o4 : List IOper := [
 m 17 0,
 m 18 10,
 is 19 4 17 (t 18),
 f 20 3 19,
 l 21 20,
 m 22 1,
 op 23 (.eq true 1 (t 21) (t 22))]
def f42o5 : List IOper := [
 mc 8 (i 164)]
def f42o6 : List IOper := [
 m 24 9,
 m 25 0,
 m 26 10,
 is 27 4 25 (t 26),
 f 28 2 27,
 l 29 28,
 b 30 .add (t 24) (t 29),
 m 9 30]
def f42o7 : List IOper := [
 m 15 10,
 b 16 .add (t 15) (i 1),
 m 10 16]
def f42l8 : IC := (q (q (o f42o3) (k 14 K (ex 0))) (q (bl 1 (q (q (o f42o4) (k 23 (q (o f42o5) R) K)) (o f42o6))) (o f42o7)))
def f42o9 : List IOper := [
 m 31 9,
 m 32 2,
 b 33 .lss (t 31) (t 32),
 m 34 33,
 g 34 false (m 35 9),
 g 34 false (m 36 3),
 g 34 false (b 37 .gtr (t 35) (t 36)),
 op 38 (.pick (t 34) (v (.bool true)) (t 37))]
def f42o10 : List IOper := [
 mc 8 (i 161)]
def f42o11 : List IOper := [
 mc 8 (i 0)]
def f42 : IFn := ⟨(q (o f42o0) (q (o f42o1) (q (q (o f42o2) (bl 0 (lp f42l8))) (q (q (o f42o9) (k 38 (q (o f42o10) R) K)) (q (o f42o11) R))))), [.t 8], 39⟩
def f43o0 : List IOper := [
 x 4 29 0,
 x 5 24 1,
 nw 8 29 [N]]
def f43o1 : List IOper := [
 m 9 3,
 b 10 .lss (t 9) (i 160),
 m 11 10,
 g 11 false (m 12 3),
 g 11 false (b 13 .gtr (t 12) (i 165)),
 op 14 (.pick (t 11) (v (.bool true)) (t 13))]
def f43o2 : List IOper := [
 la 15 1 4,
 s 8 15]
def f43o3 : List IOper := [
 la 16 1 4,
 la 17 2 5,
 m 18 2,
 m 19 3,
 b 20 .sub (t 19) (i 160),
 b 21 .add (i 4) (t 20),
 c 22 72 [(t 16), (t 17), (t 18), (t 21)],
 s 8 22]
def f43 : IFn := ⟨(q (o f43o0) (q (q (o f43o1) (k 14 (q (o f43o2) R) K)) (q (o f43o3) R))), [.cell 8 1 true], 23⟩
def f44o0 : List IOper := [
 x 3 29 0,
 nw 6 100 [N, I]]
def f44o1 : List IOper := [
 mc 7 (i 0)]
def f44o2 : List IOper := [
 mc 8 (i 0)]
def f44o3 : List IOper := [
 m 10 8,
 m 11 1,
 n 12 4 11,
 b 13 .lss (t 10) (t 12)]
def f44o4 : List IOper := [
 m 16 1,
 m 17 8,
 is 18 4 16 (t 17),
 f 19 3 18,
 l 20 19]
def f44o5 : List IOper := [
 m 21 1,
 m 22 8,
 is 23 4 21 (t 22),
 f 24 2 23,
 l 25 24,
 m 26 2,
 ns 27 26,
 m 28 7,
 b 29 .sub (t 27) (t 28),
 op 30 (.mn false [(t 25), (t 29)]),
 m 9 30]
def f44o6 : List IOper := [
 la 31 1 3,
 m 32 1,
 m 33 8,
 is 34 4 32 (t 33),
 f 35 1 34,
 l 36 35,
 m 37 2,
 m 38 7,
 m 39 7,
 m 40 9,
 b 41 .add (t 39) (t 40),
 op 42 (.slS (t 37) (some (t 38)) (some (t 41))),
 c 43 26 [(t 31), (t 36), (t 42)],
 fd 44 0 1 true 43,
 s 3 44]
def f44o7 : List IOper := [
 m 45 7,
 m 46 9,
 b 47 .add (t 45) (t 46),
 m 7 47]
def f44o8 : List IOper := [
 m 14 8,
 b 15 .add (t 14) (i 1),
 m 8 15]
def f44l9 : IC := (q (q (o f44o3) (k 13 K (ex 0))) (q (bl 1 (q (o f44o4) (k 20 (q (o f44o5) (q (od f44o6) (o f44o7))) K))) (o f44o8)))
def f44o10 : List IOper := [
 la 48 1 3,
 m 49 7,
 bd 50 [N, I] [(0, 1, (t 48)), (1, 1, (t 49))],
 sn 2 6 50]
def f44 : IFn := ⟨(q (o f44o0) (q (o f44o1) (q (q (o f44o2) (bl 0 (lp f44l9))) (q (o f44o10) R)))), [.cell 6 2 true], 51⟩
def f45o0 : List IOper := [
 x 3 29 0,
 x 4 24 1,
 nw 6 29 [N]]
def f45o1 : List IOper := [
 la 7 1 3,
 la 8 2 4,
 m 9 2,
 c 10 73 [(t 7), (t 8), (t 9), (i 3)],
 s 6 10]
def f45 : IFn := ⟨(q (o f45o0) (q (o f45o1) R)), [.cell 6 1 true], 11⟩
def f46o0 : List IOper := [
 x 2 29 0,
 x 3 105 1,
 nw 4 64 [N, B]]
def f46o1 : List IOper := [
 la 8 1 2,
 f 9 0 3,
 l 10 9,
 f 11 1 3,
 l 12 11,
 c 13 74 [(t 8), (t 10), (t 12)],
 m 5 13]
def f46o2 : List IOper := [
 m 14 5,
 op 15 (.un .not (t 14))]
def f46o3 : List IOper := [
 la 16 1 2,
 bd 17 [N, B] [(0, 1, (t 16))],
 sn 2 4 17]
def f46o4 : List IOper := [
 la 18 1 2,
 op 19 (.callp 2 52 [(t 18)]),
 nw 6 29 [N],
 s 6 19]
def f46o5 : List IOper := [
 mc 7 (i 0)]
def f46o6 : List IOper := [
 m 20 7,
 f 21 1 3,
 l 22 21,
 b 23 .lss (t 20) (t 22)]
def f46o7 : List IOper := [
 f 26 0 6,
 l 27 26,
 f 28 0 3,
 l 29 28,
 m 30 7,
 b 31 .add (t 29) (t 30),
 b 32 .quo (t 31) (i 128),
 f 33 0 3,
 l 34 33,
 m 35 7,
 b 36 .add (t 34) (t 35),
 b 37 .rem (t 36) (i 128),
 f 38 2 3,
 l 39 38,
 m 40 7,
 b 41 .mul (i 8) (t 40),
 b 42 .shr (t 39) (t 41),
 cv 43 .u8 42,
 is 44 128 27 (t 32),
 ia 45 128 1 44 (t 37),
 s 45 43]
def f46o8 : List IOper := [
 m 24 7,
 b 25 .add (t 24) (i 1),
 m 7 25]
def f46l9 : IC := (q (q (o f46o6) (k 23 K (ex 0))) (q (bl 1 (od f46o7)) (o f46o8)))
def f46o10 : List IOper := [
 la 46 1 6,
 bd 47 [N, B] [(0, 1, (t 46)), (1, 1, (v (.bool true)))],
 sn 2 4 47]
def f46 : IFn := ⟨(q (o f46o0) (q (o f46o1) (q (q (o f46o2) (k 15 (q (o f46o3) R) K)) (q (o f46o4) (q (q (o f46o5) (bl 0 (lp f46l9))) (q (o f46o10) R)))))), [.cell 4 2 true], 48⟩
def f47o0 : List IOper := [
 x 2 29 0,
 x 3 29 1,
 mc 4 (v B)]
def f47o1 : List IOper := [
 la 5 1 2,
 la 6 1 3,
 c 7 75 [(t 5), (t 6)],
 n 8 1 7,
 b 9 .eql (t 8) (i 0),
 m 4 9]
def f47 : IFn := ⟨(q (o f47o0) (q (o f47o1) R)), [.t 4], 10⟩
def f48o0 : List IOper := [
 mc 2 (v N),
 mc 3 (i 0),
 mc 4 (i 0)]
def f48o1 : List IOper := [
 m 5 0,
 op 6 (.calls 76 [(t 5), (i 1), (v (.fn 77 [] []))]),
 e 7 6 0,
 e 8 6 1,
 e 9 6 2,
 m 2 7,
 m 3 8,
 m 4 9]
def f48 : IFn := ⟨(q (o f48o0) (q (o f48o1) R)), [.t 2, .t 3, .t 4], 10⟩
def f49o0 : List IOper := [
 mc 2 (v N),
 mc 3 (i 0),
 mc 4 (i 0)]
def f49o1 : List IOper := [
 m 14 0,
 c 15 78 [(t 14), (i 1)],
 m 13 15,
 e 16 13 0,
 e 17 13 1,
 e 18 13 2,
 m 5 16,
 m 6 17,
 m 7 18]
def f49o2 : List IOper := [
 m 19 7,
 b 20 .neq (t 19) (i 0)]
def f49o3 : List IOper := [
 m 21 7,
 mc 2 (v N),
 mc 3 (i 0),
 m 4 21]
def f49o4 : List IOper := [
 mc 8 (v N)]
def f49o5 : List IOper := [
 mc 9 (i 0)]
def f49o6 : List IOper := [
 m 22 9,
 m 23 5,
 b 24 .lss (t 22) (t 23)]
def f49o7 : List IOper := [
 m 28 0,
 m 29 6,
 op 30 (.slL 1 (t 28) (some (t 29)) none none),
 c 31 79 [(t 30)],
 m 27 31,
 e 32 27 0,
 e 33 27 1,
 e 34 27 2,
 m 10 32,
 m 11 33,
 m 12 34]
def f49o8 : List IOper := [
 m 35 12,
 b 36 .neq (t 35) (i 0)]
def f49o9 : List IOper := [
 m 37 12,
 mc 2 (v N),
 mc 3 (i 0),
 m 4 37]
def f49o10 : List IOper := [
 m 38 8,
 m 39 10,
 bs 40 1 [I] [(0, 1, (t 39))],
 ap 41 1 8 38 40,
 m 8 41]
def f49o11 : List IOper := [
 m 42 6,
 m 43 11,
 b 44 .add (t 42) (t 43),
 m 6 44]
def f49o12 : List IOper := [
 m 25 9,
 b 26 .add (t 25) (i 1),
 m 9 26]
def f49l13 : IC := (q (q (o f49o6) (k 24 K (ex 0))) (q (bl 1 (q (o f49o7) (q (q (o f49o8) (k 36 (q (o f49o9) R) K)) (q (o f49o10) (o f49o11))))) (o f49o12)))
def f49o14 : List IOper := [
 m 45 8,
 m 46 6,
 m 2 45,
 m 3 46,
 mc 4 (i 0)]
def f49 : IFn := ⟨(q (o f49o0) (q (o f49o1) (q (q (o f49o2) (k 20 (q (o f49o3) R) K)) (q (o f49o4) (q (q (o f49o5) (bl 0 (lp f49l13))) (q (o f49o14) R)))))), [.t 2, .t 3, .t 4], 47⟩
def f50o0 : List IOper := [
 x 1 29 0,
 mc 2 (i 0)]
def f50o1 : List IOper := [
 f 3 0 1,
 l 4 3,
 n 5 128 4,
 b 6 .mul (t 5) (i 128),
 m 2 6]
def f50 : IFn := ⟨(q (o f50o0) (q (o f50o1) R)), [.t 2], 7⟩
def f51o0 : List IOper := [
 x 3 29 0,
 nw 6 113 [U, B]]
def f51o1 : List IOper := [
 la 10 1 3,
 m 11 1,
 m 12 2,
 c 13 74 [(t 10), (t 11), (t 12)],
 m 7 13]
def f51o2 : List IOper := [
 m 14 7,
 op 15 (.un .not (t 14))]
def f51o3 : List IOper := [
 bd 16 [U, B] [],
 sn 2 6 16]
def f51o4 : List IOper := [
 mc 8 (w 0)]
def f51o5 : List IOper := [
 m 17 2,
 b 18 .sub (t 17) (i 1),
 m 9 18]
def f51o6 : List IOper := [
 m 19 9,
 b 20 .geq (t 19) (i 0)]
def f51o7 : List IOper := [
 m 23 8,
 b 24 .shl (t 23) (v (.int .u64 8)),
 la 25 1 3,
 m 26 1,
 m 27 9,
 b 28 .add (t 26) (t 27),
 c 29 22 [(t 25), (t 28)],
 cv 30 .u32 29,
 b 31 .or (t 24) (t 30),
 m 8 31]
def f51o8 : List IOper := [
 m 21 9,
 b 22 .sub (t 21) (i 1),
 m 9 22]
def f51l9 : IC := (q (q (o f51o6) (k 20 K (ex 0))) (q (bl 1 (o f51o7)) (o f51o8)))
def f51o10 : List IOper := [
 m 32 8,
 bd 33 [U, B] [(0, 1, (t 32)), (1, 1, (v (.bool true)))],
 sn 2 6 33]
def f51 : IFn := ⟨(q (o f51o0) (q (o f51o1) (q (q (o f51o2) (k 15 (q (o f51o3) R) K)) (q (o f51o4) (q (q (o f51o5) (bl 0 (lp f51l9))) (q (o f51o10) R)))))), [.cell 6 2 true], 34⟩
def f52o0 : List IOper := [
 x 1 29 0,
 nw 2 29 [N]]
def f52o1 : List IOper := [
 bs 3 128 [] [],
 f 4 0 1,
 l 5 4,
 ap 6 128 128 3 5,
 bd 7 [N] [(0, 1, (t 6))],
 s 2 7]
def f52 : IFn := ⟨(q (o f52o0) (q (o f52o1) R)), [.cell 2 1 true], 8⟩
def f53o0 : List IOper := [
 x 1 29 0,
 mc 2 (i 0)]
def f53o1 : List IOper := [
 f 3 0 1,
 l 4 3,
 n 5 128 4,
 b 6 .mul (t 5) (i 128),
 m 2 6]
def f53 : IFn := ⟨(q (o f53o0) (q (o f53o1) R)), [.t 2], 7⟩
def f54o0 : List IOper := [
 x 3 29 0,
 mc 6 (v B)]
def f54o1 : List IOper := [
 m 7 2,
 b 8 .eql (t 7) (i 1),
 m 9 8,
 g 9 false (m 10 2),
 g 9 false (b 11 .eql (t 10) (i 4)),
 op 12 (.pick (t 9) (v (.bool true)) (t 11)),
 m 13 12,
 g 13 true (m 14 1),
 g 13 true (b 15 .geq (t 14) (i 0)),
 op 16 (.pick (t 13) (t 15) (v B)),
 m 17 16,
 g 17 true (m 18 1),
 g 17 true (m 19 2),
 g 17 true (b 20 .rem (t 18) (t 19)),
 g 17 true (b 21 .eql (t 20) (i 0)),
 op 22 (.pick (t 17) (t 21) (v B)),
 m 23 22,
 g 23 true (m 24 1),
 g 23 true (la 25 1 3),
 g 23 true (c 26 53 [(t 25)]),
 g 23 true (m 27 2),
 g 23 true (b 28 .sub (t 26) (t 27)),
 g 23 true (b 29 .leq (t 24) (t 28)),
 op 30 (.pick (t 23) (t 29) (v B)),
 m 6 30]
def f54 : IFn := ⟨(q (o f54o0) (q (o f54o1) R)), [.t 6], 31⟩
def f55o0 : List IOper := [
 mc 4 (v N)]
def f55o1 : List IOper := [
 m 8 0,
 n 9 1 8,
 op 10 (.callp 1 56 [(t 9)]),
 m 5 10]
def f55o2 : List IOper := [
 m 11 0,
 n 12 1 11,
 mc 13 (i 0)]
def f55o3 : List IOper := [
 b 14 .lss (t 13) (t 12)]
def f55o4 : List IOper := [
 is 15 1 11 (t 13),
 l 16 15,
 m 7 16]
def f55o5 : List IOper := [
 m 17 5,
 m 18 1,
 m 19 7,
 op 20 (.callv (t 18) [(t 19)]),
 ap 21 1 1 17 20,
 m 5 21]
def f55o6 : List IOper := [
 b 22 .add (t 13) (i 1),
 m 13 22]
def f55l7 : IC := (q (o f55o3) (q (k 14 K (ex 0)) (q (bl 1 (q (o f55o4) (o f55o5))) (o f55o6))))
def f55o8 : List IOper := [
 m 23 5,
 m 4 23]
def f55 : IFn := ⟨(q (o f55o0) (q (o f55o1) (q (q (o f55o2) (bl 0 (lp f55l7))) (q (o f55o8) R)))), [.t 4], 24⟩
def f56o0 : List IOper := [
 mc 2 (v N)]
def f56o1 : List IOper := [
 m 5 0,
 cv 6 .u64 5,
 b 7 .shl (t 6) (v (.int .u64 1)),
 m 8 0,
 b 9 .shr (t 8) (v (.int .u64 63)),
 cv 10 .u64 9,
 b 11 .xor (t 7) (t 10),
 m 3 11]
def f56o2 : List IOper := [
 mc 4 (v N)]
def f56o3 : List IOper := [
 m 12 3,
 b 13 .gtr (t 12) (v (.int .u64 127))]
def f56o4 : List IOper := [
 m 16 4,
 m 17 3,
 cv 18 .u8 17,
 b 19 .or (t 18) (y 128),
 bs 20 1 [Y] [(0, 1, (t 19))],
 ap 21 1 1 16 20,
 m 4 21]
def f56o5 : List IOper := [
 m 14 3,
 b 15 .shr (t 14) (v (.int .u64 7)),
 m 3 15]
def f56l6 : IC := (q (q (o f56o3) (k 13 K (ex 0))) (q (bl 1 (o f56o4)) (o f56o5)))
def f56o7 : List IOper := [
 m 22 4,
 m 23 3,
 cv 24 .u8 23,
 bs 25 1 [Y] [(0, 1, (t 24))],
 ap 26 1 1 22 25,
 m 2 26]
def f56 : IFn := ⟨(q (o f56o0) (q (o f56o1) (q (o f56o2) (q (bl 0 (lp f56l6)) (q (o f56o7) R))))), [.t 2], 27⟩
def f57o0 : List IOper := [
 mc 2 (v N)]
def f57o1 : List IOper := [
 m 5 0,
 cv 6 .u64 5,
 b 7 .mul (t 6) (v (.int .u64 2)),
 m 3 7]
def f57o2 : List IOper := [
 m 8 0,
 b 9 .lss (t 8) (i 0)]
def f57o3 : List IOper := [
 m 10 0,
 b 11 .sub (i (-1)) (t 10),
 cv 12 .u64 11,
 b 13 .mul (t 12) (v (.int .u64 2)),
 b 14 .add (t 13) (v (.int .u64 1)),
 m 3 14]
def f57o4 : List IOper := [
 mc 4 (v N)]
def f57o5 : List IOper := [
 m 15 3,
 b 16 .geq (t 15) (v (.int .u64 128))]
def f57o6 : List IOper := [
 m 17 4,
 m 18 3,
 b 19 .rem (t 18) (v (.int .u64 128)),
 cv 20 .u8 19,
 b 21 .add (t 20) (y 128),
 bs 22 1 [Y] [(0, 1, (t 21))],
 ap 23 1 1 17 22,
 m 4 23]
def f57o7 : List IOper := [
 m 24 3,
 b 25 .quo (t 24) (v (.int .u64 128)),
 m 3 25]
def f57l8 : IC := (q (q (o f57o5) (k 16 K (ex 0))) (bl 1 (q (o f57o6) (o f57o7))))
def f57o9 : List IOper := [
 m 26 4,
 m 27 3,
 cv 28 .u8 27,
 bs 29 1 [Y] [(0, 1, (t 28))],
 ap 30 1 1 26 29,
 m 2 30]
def f57 : IFn := ⟨(q (o f57o0) (q (o f57o1) (q (q (o f57o2) (k 9 (o f57o3) K)) (q (o f57o4) (q (bl 0 (lp f57l8)) (q (o f57o9) R)))))), [.t 2], 31⟩
def f58o0 : List IOper := [
 x 1 76 0]
def f58o1 : List IOper := [
 l 4 1,
 l 5 1,
 op 6 (.nchk (t 5)),
 f 7 5 6,
 f 8 0 7,
 la 9 2 8,
 l 10 1,
 op 11 (.nchk (t 10)),
 f 12 5 11,
 f 13 4 12,
 op 14 (.calls 36 [(t 4), (t 9), (t 13)])]
def f58o2 : List IOper := [
 nw 2 87 [I, N, I],
 sn 3 2 15]
def f58o3 : List IOper := [
 f 16 2 2,
 l 17 16,
 b 18 .neq (t 17) (i 0)]
def f58o4 : List IOper := [
 f 19 1 2,
 l 20 19,
 c 21 64 [(t 20), (v B), (i 0), (i 512)],
 m 3 21]
def f58o5 : List IOper := [
 m 22 3,
 b 23 .neq (t 22) (i 0)]
def f58o6 : List IOper := [
 l 24 1,
 l 25 1,
 op 26 (.nchk (t 25)),
 f 27 5 26,
 f 28 0 27,
 la 29 2 28,
 f 30 0 2,
 l 31 30,
 m 32 3,
 op 33 (.calls 65 [(t 24), (t 29), (t 31), (t 32)])]
def f58o7 : List IOper := [
 l 34 1,
 l 35 1,
 op 36 (.nchk (t 35)),
 f 37 0 36,
 f 38 2 37,
 l 39 38,
 l 40 1,
 op 41 (.nchk (t 40)),
 f 42 0 41,
 f 43 0 42,
 la 44 1 43,
 f 45 1 2,
 l 46 45,
 c 47 80 [(t 44), (t 46)],
 bs 48 1 [E] [(0, 1, (t 47))],
 ap 49 1 16 39 48,
 op 50 (.nchk (t 34)),
 f 51 0 50,
 f 52 2 51,
 s 52 49]
def f58o8 : List IOper := [
 l 53 1,
 l 54 1,
 op 55 (.nchk (t 54)),
 f 56 0 55,
 f 57 0 56,
 la 58 1 57,
 l 59 1,
 op 60 (.nchk (t 59)),
 f 61 5 60,
 f 62 0 61,
 la 63 2 62,
 f 64 1 2,
 l 65 64,
 c 66 67 [(t 58), (t 63), (t 65)],
 op 67 (.nchk (t 53)),
 f 68 0 67,
 f 69 0 68,
 s 69 66]
def f58a9 : IC := (o f58o2)
def f58y9 : IC := (bl 1 (q (q (o f58o3) (k 18 (ex 1) K)) (q (q (o f58o4) (q (o f58o5) (k 23 (q (od f58o6) (ex 1)) K))) (q (od f58o7) (od f58o8)))))
def f58 : IFn := ⟨(q (o f58o0) (q (od f58o1) (bl 0 (.rangeF (t 14) [15] f58a9 f58y9)))), [], 70⟩
def f59o0 : List IOper := [
 l 11 1,
 op 12 (.nchk (t 11)),
 f 13 0 12,
 f 14 0 13,
 la 15 1 14,
 la 16 2 2,
 c 17 60 [(t 15), (t 16)],
 m 5 17]
def f59o1 : List IOper := [
 m 18 5,
 b 19 .neq (t 18) (i 0)]
def f59o2 : List IOper := [
 l 20 1,
 m 21 5,
 op 22 (.calls 61 [(t 20), (t 21)])]
def f59o3 : List IOper := [
 f 23 1 2,
 l 24 23,
 mc 25 (w 0)]
def f59o4 : List IOper := [
 b 26 .lss (t 25) (t 24)]
def f59o5 : List IOper := [
 l 28 1,
 op 29 (.nchk (t 28)),
 f 30 0 29,
 f 31 0 30,
 la 32 1 31,
 la 33 2 2,
 l 34 3,
 op 35 (.nchk (t 34)),
 l 36 35,
 c 37 62 [(t 32), (t 33), (t 36)],
 m 27 37,
 e 38 27 0,
 e 39 27 1,
 m 6 38,
 m 7 39]
def f59o6 : List IOper := [
 m 40 7,
 op 41 (.un .not (t 40))]
def f59o7 : List IOper := [
 l 42 1,
 op 43 (.nchk (t 42)),
 f 44 0 43,
 f 45 3 44,
 op0 (.store 1 (t 45) (v (.bool true)))]
def f59o8 : List IOper := [
 l 46 3,
 m 47 6,
 b 48 .add (t 47) (i 1),
 f 49 1 2,
 l 50 49,
 cv 51 .i64 50,
 b 52 .rem (t 48) (t 51),
 op 53 (.nchk (t 46)),
 s 53 52]
def f59o9 : List IOper := [
 l 55 1,
 op 56 (.nchk (t 55)),
 f 57 0 56,
 f 58 0 57,
 la 59 1 58,
 la 60 2 2,
 m 61 6,
 c 62 63 [(t 59), (t 60), (t 61)],
 m 54 62,
 e 63 54 0,
 e 64 54 1,
 e 65 54 2,
 nw 8 29 [N],
 s 8 63,
 m 9 64,
 m 10 65]
def f59o10 : List IOper := [
 l 66 1,
 la 67 1 8,
 op 68 (.nchk (t 66)),
 f 69 0 68,
 f 70 0 69,
 s 70 67]
def f59o11 : List IOper := [
 m 71 10,
 b 72 .neq (t 71) (i 0)]
def f59o12 : List IOper := [
 l 73 1,
 m 74 10,
 op 75 (.calls 61 [(t 73), (t 74)])]
def f59o13 : List IOper := [
 m 76 0,
 m 77 6,
 m 78 9,
 m 79 10,
 bd 80 [I, N, I] [(0, 1, (t 77)), (1, 1, (t 78)), (2, 1, (t 79))],
 op 81 (.callv (t 76) [(t 80)]),
 op 82 (.un .not (t 81))]
def f59o14 : List IOper := [
 b 83 .add (t 25) (w 1),
 m 25 83]
def f59l15 : IC := (q (o f59o4) (q (k 26 K (ex 0)) (q (bl 1 (q (od f59o5) (q (q (o f59o6) (k 41 R K)) (q (o f59o7) (q (od f59o8) (q (od f59o9) (q (o f59o10) (q (q (o f59o11) (k 72 (o f59o12) K)) (q (o f59o13) (k 82 R K)))))))))) (o f59o14))))
def f59 : IFn := ⟨(q (q (od f59o0) (q (o f59o1) (k 19 (q (o f59o2) R) K))) (q (o f59o3) (bl 0 (lp f59l15)))), [], 84⟩
def f60o0 : List IOper := [
 x 2 29 0,
 x 3 24 1,
 mc 4 (i 0)]
def f60o1 : List IOper := [
 f 5 1 3,
 l 6 5]
def f60o2 : List IOper := [
 b 8 .eql (t 6) (w 1),
 m 7 8]
def f60o3 : List IOper := [
 b 9 .eql (t 6) (w 2),
 m 7 9]
def f60o4 : List IOper := [
 b 10 .eql (t 6) (w 4),
 m 7 10]
def f60o5 : List IOper := [
 b 11 .eql (t 6) (w 8),
 m 7 11]
def f60o6 : List IOper := [
 f 12 0 3,
 l 13 12,
 b 14 .rem (t 13) (w 16),
 b 15 .eql (t 14) (w 0),
 m 16 15,
 g 16 true (f 17 0 3),
 g 16 true (l 18 17),
 g 16 true (cv 19 .i64 18),
 g 16 true (f 20 1 3),
 g 16 true (l 21 20),
 g 16 true (cv 22 .i64 21),
 g 16 true (b 23 .mul (i 16) (t 22)),
 g 16 true (b 24 .add (t 19) (t 23)),
 g 16 true (la 25 1 2),
 g 16 true (c 26 53 [(t 25)]),
 g 16 true (b 27 .leq (t 24) (t 26)),
 op 28 (.pick (t 16) (t 27) (v B))]
def f60o7 : List IOper := [
 mc 4 (i 0)]
def f60o8 : List IOper := [
 mc 4 (i 160)]
def f60 : IFn := ⟨(q (o f60o0) (q (q (o f60o1) (bl 0 (q (q (o f60o2) (k 7 K (q (o f60o3) (k 7 K (q (o f60o4) (k 7 K (o f60o5))))))) (k 7 (q (od f60o6) (k 28 (q (o f60o7) R) K)) K)))) (q (o f60o8) R))), [.t 4], 29⟩
def f61o0 : List IOper := [
 m 4 0,
 m 5 1,
 op 6 (.nchk (t 4)),
 f 7 5 6,
 f 8 6 7,
 s 8 5]
def f61 : IFn := ⟨(o f61o0), [], 9⟩
def f62o0 : List IOper := [
 x 3 29 0,
 x 4 24 1,
 mc 6 (i 0),
 mc 7 (v B)]
def f62o1 : List IOper := [
 f 10 1 4,
 l 11 10,
 cv 12 .i64 11,
 mc 13 (i 0)]
def f62o2 : List IOper := [
 b 14 .lss (t 13) (t 12)]
def f62o3 : List IOper := [
 m 15 13,
 m 8 15]
def f62o4 : List IOper := [
 m 16 2,
 m 17 8,
 b 18 .add (t 16) (t 17),
 f 19 1 4,
 l 20 19,
 cv 21 .i64 20,
 b 22 .rem (t 18) (t 21),
 m 9 22]
def f62o5 : List IOper := [
 la 23 1 3,
 la 24 2 4,
 m 25 9,
 c 26 81 [(t 23), (t 24), (t 25)],
 fd 27 5 1 false 26,
 b 28 .eql (t 27) (w 1)]
def f62o6 : List IOper := [
 m 29 9,
 m 6 29,
 mc 7 (v (.bool true))]
def f62o7 : List IOper := [
 b 30 .add (t 13) (i 1),
 m 13 30]
def f62l8 : IC := (q (o f62o2) (q (k 14 K (ex 0)) (q (bl 1 (q (o f62o3) (q (o f62o4) (q (o f62o5) (k 28 (q (o f62o6) R) K))))) (o f62o7))))
def f62o9 : List IOper := [
 mc 6 (i 0),
 mc 7 (v B)]
def f62 : IFn := ⟨(q (o f62o0) (q (q (o f62o1) (bl 0 (lp f62l8))) (q (o f62o9) R))), [.t 6, .t 7], 31⟩
def f63o0 : List IOper := [
 x 3 29 0,
 x 4 24 1,
 nw 6 29 [N],
 mc 7 (v N),
 mc 8 (i 0)]
def f63o1 : List IOper := [
 mc 9 (v N)]
def f63o2 : List IOper := [
 op 17 (.mks false 1 8 [I] (i 0) (i 4)),
 m 10 17]
def f63o3 : List IOper := [
 m 18 2,
 mc 11 (v B),
 m 12 18,
 mc 13 (i 0)]
def f63o4 : List IOper := [
 la 19 1 3,
 la 20 2 4,
 m 21 12,
 c 22 81 [(t 19), (t 20), (t 21)],
 nw 14 145 [I, I, I, B, U, U],
 sn 6 14 22]
def f63o5 : List IOper := [
 m 23 10,
 n 24 1 23,
 mc 25 (i 0)]
def f63o6 : List IOper := [
 b 26 .lss (t 25) (t 24)]
def f63o7 : List IOper := [
 is 27 1 23 (t 25),
 l 28 27,
 m 16 28]
def f63o8 : List IOper := [
 m 29 16,
 m 30 12,
 b 31 .eql (t 29) (t 30)]
def f63o9 : List IOper := [
 mc 13 (i 163)]
def f63o10 : List IOper := [
 b 32 .add (t 25) (i 1),
 m 25 32]
def f63l11 : IC := (q (o f63o6) (q (k 26 K (ex 2)) (q (bl 3 (q (o f63o7) (q (o f63o8) (k 31 (q (o f63o9) (ex 0)) K)))) (o f63o10))))
def f63o12 : List IOper := [
 m 34 10,
 n 35 1 34,
 b 36 .eql (t 35) (i 4),
 m 33 36]
def f63o13 : List IOper := [
 mc 13 (i 163)]
def f63o14 : List IOper := [
 f 38 5 14,
 l 39 38,
 b 40 .neq (t 39) (w 1),
 m 37 40]
def f63o15 : List IOper := [
 mc 13 (i 165)]
def f63o16 : List IOper := [
 f 42 0 14,
 f 43 2 42,
 l 44 43,
 b 45 .lss (t 44) (i 1),
 m 46 45,
 g 46 false (f 47 0 14),
 g 46 false (f 48 2 47),
 g 46 false (l 49 48),
 g 46 false (b 50 .gtr (t 49) (i 512)),
 op 51 (.pick (t 46) (v (.bool true)) (t 50)),
 m 52 51,
 g 52 false (f 53 0 14),
 g 52 false (f 54 1 53),
 g 52 false (l 55 54),
 g 52 false (f 56 0 14),
 g 52 false (f 57 2 56),
 g 52 false (l 58 57),
 g 52 false (b 59 .add (t 55) (t 58)),
 g 52 false (la 60 1 3),
 g 52 false (c 61 53 [(t 60)]),
 g 52 false (b 62 .gtr (t 59) (t 61)),
 op 63 (.pick (t 52) (v (.bool true)) (t 62)),
 m 41 63]
def f63o17 : List IOper := [
 mc 13 (i 161)]
def f63o18 : List IOper := [
 la 65 6 14,
 c 66 82 [(t 65)],
 op 67 (.un .not (t 66)),
 m 68 67,
 g 68 false (m 69 11),
 g 68 false (m 70 69),
 g 70 true (f 71 0 14),
 g 70 true (f 72 3 71),
 g 70 true (l 73 72),
 g 70 true (op 74 (.un .not (t 73))),
 g 68 false (op 75 (.pick (t 70) (t 74) (v B))),
 op 76 (.pick (t 68) (v (.bool true)) (t 75)),
 m 64 76]
def f63o19 : List IOper := [
 mc 13 (i 164)]
def f63o20 : List IOper := [
 la 78 6 14,
 c 79 83 [(t 78)],
 m 80 79,
 g 80 true (la 81 6 14),
 g 80 true (c 82 84 [(t 81)]),
 g 80 true (f 83 1 4),
 g 80 true (l 84 83),
 g 80 true (cv 85 .i64 84),
 g 80 true (b 86 .geq (t 82) (t 85)),
 op 87 (.pick (t 80) (t 86) (v B)),
 m 77 87]
def f63o21 : List IOper := [
 mc 13 (i 162)]
def f63o22 : List IOper := [
 m 88 13,
 b 89 .neq (t 88) (i 0)]
def f63o23 : List IOper := [
 m 90 10,
 m 91 12,
 bs 92 1 [I] [(0, 1, (t 91))],
 ap 93 1 8 90 92,
 m 94 9,
 f 95 0 14,
 la 96 4 95,
 bs 97 4 [I, I, I, B] [(0, 4, (t 96))],
 ap 98 4 32 94 97,
 m 99 11,
 m 100 99,
 g 100 false (f 101 0 14),
 g 100 false (f 102 3 101),
 g 100 false (l 103 102),
 op 104 (.pick (t 100) (v (.bool true)) (t 103)),
 m 10 93,
 m 9 98,
 m 11 104]
def f63o24 : List IOper := [
 la 105 6 14,
 c 106 83 [(t 105)],
 op 107 (.un .not (t 106))]
def f63o25 : List IOper := [
 la 108 1 3,
 la 109 2 4,
 m 110 10,
 c 111 85 [(t 108), (t 109), (i 2), (t 110)],
 m 112 9,
 s 6 111,
 m 7 112,
 mc 8 (i 0)]
def f63o26 : List IOper := [
 la 113 6 14,
 c 114 84 [(t 113)],
 m 12 114]
def f63l27 : IC := (bl 1 (q (o f63o4) (q (q (o f63o5) (bl 2 (lp f63l11))) (q (bl 4 (q (o f63o12) (k 33 (o f63o13) (q (o f63o14) (k 37 (o f63o15) (q (od f63o16) (k 41 (o f63o17) (q (o f63o18) (k 64 (o f63o19) (q (od f63o20) (k 77 (o f63o21) K))))))))))) (q (q (o f63o22) (k 89 (ex 0) K)) (q (od f63o23) (q (q (o f63o24) (k 107 (q (o f63o25) R) K)) (o f63o26))))))))
def f63o28 : List IOper := [
 la 115 1 3,
 la 116 2 4,
 m 117 2,
 c 118 81 [(t 115), (t 116), (t 117)],
 fd 119 5 1 false 118,
 b 120 .eql (t 119) (w 1)]
def f63o29 : List IOper := [
 la 121 1 3,
 la 122 2 4,
 m 123 2,
 m 124 13,
 c 125 86 [(t 121), (t 122), (t 123), (t 124)],
 s 3 125]
def f63o30 : List IOper := [
 la 126 1 3,
 m 127 13,
 s 6 126,
 mc 7 (v N),
 m 8 127]
def f63 : IFn := ⟨(q (o f63o0) (q (o f63o1) (q (o f63o2) (q (o f63o3) (q K (q (bl 0 (lp f63l27)) (q (q (o f63o28) (k 120 (o f63o29) K)) (q (o f63o30) R)))))))), [.cell 6 1 true, .t 7, .t 8], 128⟩
def f64o0 : List IOper := [
 mc 8 (i 0)]
def f64o1 : List IOper := [
 mc 9 (i 0)]
def f64o2 : List IOper := [
 m 12 0,
 n 13 4 12,
 mc 14 (i 0)]
def f64o3 : List IOper := [
 b 15 .lss (t 14) (t 13)]
def f64o4 : List IOper := [
 is 16 4 12 (t 14),
 la 17 4 16,
 nw 11 136 [I, I, I, B],
 sn 4 11 17]
def f64o5 : List IOper := [
 f 18 3 11,
 l 19 18,
 m 20 1,
 op 21 (.eq true 1 (t 19) (t 20))]
def f64o6 : List IOper := [
 mc 8 (i 164)]
def f64o7 : List IOper := [
 m 22 9,
 f 23 2 11,
 l 24 23,
 b 25 .add (t 22) (t 24),
 m 9 25]
def f64o8 : List IOper := [
 b 26 .add (t 14) (i 1),
 m 14 26]
def f64l9 : IC := (q (o f64o3) (q (k 15 K (ex 0)) (q (bl 1 (q (o f64o4) (q (q (o f64o5) (k 21 (q (o f64o6) R) K)) (o f64o7)))) (o f64o8))))
def f64o10 : List IOper := [
 m 27 9,
 m 28 2,
 b 29 .lss (t 27) (t 28),
 m 30 29,
 g 30 false (m 31 9),
 g 30 false (m 32 3),
 g 30 false (b 33 .gtr (t 31) (t 32)),
 op 34 (.pick (t 30) (v (.bool true)) (t 33))]
def f64o11 : List IOper := [
 mc 8 (i 161)]
def f64o12 : List IOper := [
 mc 8 (i 0)]
def f64 : IFn := ⟨(q (o f64o0) (q (o f64o1) (q (q (o f64o2) (bl 0 (lp f64l9))) (q (q (o f64o10) (k 34 (q (o f64o11) R) K)) (q (o f64o12) R))))), [.t 8], 35⟩
def f65o0 : List IOper := [
 x 5 24 1]
def f65o1 : List IOper := [
 m 8 0,
 m 9 0,
 op 10 (.nchk (t 9)),
 f 11 0 10,
 f 12 0 11,
 la 13 1 12,
 la 14 2 5,
 m 15 2,
 m 16 3,
 c 17 86 [(t 13), (t 14), (t 15), (t 16)],
 op 18 (.nchk (t 8)),
 f 19 0 18,
 f 20 0 19,
 s 20 17]
def f65o2 : List IOper := [
 m 21 0,
 m 22 3,
 op 23 (.calls 61 [(t 21), (t 22)])]
def f65 : IFn := ⟨(q (o f65o0) (q (od f65o1) (o f65o2))), [], 24⟩
def f66o0 : List IOper := [
 x 3 29 0,
 nw 6 29 [N],
 mc 7 (i 0)]
def f66o1 : List IOper := [
 mc 8 (i 0)]
def f66o2 : List IOper := [
 m 12 1,
 n 13 4 12,
 mc 14 (i 0)]
def f66o3 : List IOper := [
 b 15 .lss (t 14) (t 13)]
def f66o4 : List IOper := [
 is 16 4 12 (t 14),
 la 17 4 16,
 nw 10 136 [I, I, I, B],
 sn 4 10 17]
def f66o5 : List IOper := [
 f 18 2 10,
 l 19 18,
 m 20 2,
 ns 21 20,
 m 22 8,
 b 23 .sub (t 21) (t 22),
 op 24 (.mn false [(t 19), (t 23)]),
 m 11 24]
def f66o6 : List IOper := [
 f 25 3 10,
 l 26 25]
def f66o7 : List IOper := [
 la 28 1 3,
 f 29 1 10,
 l 30 29,
 m 31 2,
 m 32 8,
 m 33 8,
 m 34 11,
 b 35 .add (t 33) (t 34),
 op 36 (.slS (t 31) (some (t 32)) (some (t 35))),
 c 37 87 [(t 28), (t 30), (t 36)],
 m 27 37,
 e 38 27 0,
 e 39 27 1,
 s 3 38]
def f66o8 : List IOper := [
 m 40 8,
 m 41 11,
 b 42 .add (t 40) (t 41),
 m 8 42]
def f66o9 : List IOper := [
 b 43 .add (t 14) (i 1),
 m 14 43]
def f66l10 : IC := (q (o f66o3) (q (k 15 K (ex 0)) (q (bl 1 (q (o f66o4) (q (o f66o5) (q (o f66o6) (k 26 (q (od f66o7) (o f66o8)) K))))) (o f66o9))))
def f66o11 : List IOper := [
 la 44 1 3,
 m 45 8,
 s 6 44,
 m 7 45]
def f66 : IFn := ⟨(q (o f66o0) (q (o f66o1) (q (q (o f66o2) (bl 0 (lp f66l10))) (q (o f66o11) R)))), [.cell 6 1 true, .t 7], 46⟩
def f67o0 : List IOper := [
 x 3 29 0,
 x 4 24 1,
 nw 6 29 [N]]
def f67o1 : List IOper := [
 m 9 2,
 n 10 4 9,
 mc 11 (i 0)]
def f67o2 : List IOper := [
 b 12 .lss (t 11) (t 10)]
def f67o3 : List IOper := [
 is 13 4 9 (t 11),
 la 14 4 13,
 nw 8 136 [I, I, I, B],
 sn 4 8 14]
def f67o4 : List IOper := [
 la 15 1 3,
 la 16 2 4,
 f 17 0 8,
 l 18 17,
 bs 19 1 [I] [(0, 1, (t 18))],
 c 20 85 [(t 15), (t 16), (i 3), (t 19)],
 s 3 20]
def f67o5 : List IOper := [
 b 21 .add (t 11) (i 1),
 m 11 21]
def f67l6 : IC := (q (o f67o2) (q (k 12 K (ex 0)) (q (bl 1 (q (o f67o3) (o f67o4))) (o f67o5))))
def f67o7 : List IOper := [
 la 22 1 3,
 s 6 22]
def f67 : IFn := ⟨(q (o f67o0) (q (q (o f67o1) (bl 0 (lp f67l6))) (q (o f67o7) R))), [.cell 6 1 true], 23⟩
def f68o0 : List IOper := [
 x 2 29 0,
 x 3 105 1,
 nw 4 29 [N],
 mc 5 (v B)]
def f68o1 : List IOper := [
 la 6 1 2,
 la 7 3 3,
 bs 8 3 [I, I, U] [(0, 3, (t 7))],
 c 9 88 [(t 6), (t 8)],
 e 10 9 0,
 e 11 9 1,
 s 4 10,
 m 5 11]
def f68 : IFn := ⟨(q (o f68o0) (q (o f68o1) R)), [.cell 4 1 true, .t 5], 12⟩
def f69o0 : List IOper := [
 x 2 29 0,
 mc 4 (v E)]
def f69o1 : List IOper := [
 mc 5 (v E)]
def f69o2 : List IOper := [
 mc 6 (i 0)]
def f69o3 : List IOper := [
 m 7 6,
 m 8 1,
 n 9 4 8,
 b 10 .lss (t 7) (t 9)]
def f69o4 : List IOper := [
 m 13 1,
 m 14 6,
 is 15 4 13 (t 14),
 f 16 3 15,
 l 17 16,
 op 18 (.un .not (t 17))]
def f69o5 : List IOper := [
 m 19 5,
 la 20 1 2,
 m 21 1,
 m 22 6,
 is 23 4 21 (t 22),
 f 24 1 23,
 l 25 24,
 m 26 1,
 m 27 6,
 is 28 4 26 (t 27),
 f 29 2 28,
 l 30 29,
 c 31 89 [(t 20), (t 25), (t 30)],
 fd 32 0 1 false 31,
 b 33 .add (t 19) (t 32),
 m 5 33]
def f69o6 : List IOper := [
 m 11 6,
 b 12 .add (t 11) (i 1),
 m 6 12]
def f69l7 : IC := (q (q (o f69o3) (k 10 K (ex 0))) (q (bl 1 (q (o f69o4) (k 18 (od f69o5) K))) (o f69o6)))
def f69o8 : List IOper := [
 m 34 5,
 m 4 34]
def f69 : IFn := ⟨(q (o f69o0) (q (o f69o1) (q (q (o f69o2) (bl 0 (lp f69l7))) (q (o f69o8) R)))), [.t 4], 35⟩
def f70o0 : List IOper := [
 x 4 29 0,
 x 5 24 1,
 mc 8 (i 0)]
def f70o1 : List IOper := [
 la 9 1 4,
 f 10 0 5,
 l 11 10,
 cv 12 .i64 11,
 m 13 2,
 b 14 .mul (i 16) (t 13),
 b 15 .add (t 12) (t 14),
 m 16 3,
 b 17 .mul (i 4) (t 16),
 b 18 .add (t 15) (t 17),
 c 19 51 [(t 9), (t 18), (i 4)],
 fd 20 0 1 false 19,
 cv 21 .i64 20,
 m 8 21]
def f70 : IFn := ⟨(q (o f70o0) (q (o f70o1) R)), [.t 8], 22⟩
def f71o0 : List IOper := [
 x 4 29 0,
 x 5 24 1,
 mc 8 (i 0)]
def f71o1 : List IOper := [
 la 14 1 4,
 la 15 2 5,
 m 16 3,
 c 17 70 [(t 14), (t 15), (t 16), (i 0)],
 m 9 17]
def f71o2 : List IOper := [
 la 18 1 4,
 la 19 2 5,
 m 20 3,
 c 21 70 [(t 18), (t 19), (t 20), (i 1)],
 m 10 21]
def f71o3 : List IOper := [
 la 22 1 4,
 la 23 2 5,
 m 24 3,
 c 25 70 [(t 22), (t 23), (t 24), (i 2)],
 m 11 25]
def f71o4 : List IOper := [
 m 26 11,
 b 27 .quo (t 26) (i 256),
 b 28 .rem (t 27) (i 256),
 m 12 28]
def f71o5 : List IOper := [
 m 29 11,
 b 30 .quo (t 29) (i 2),
 b 31 .rem (t 30) (i 2),
 b 32 .eql (t 31) (i 1),
 m 13 32]
def f71o6 : List IOper := [
 m 34 2,
 m 35 3,
 c 36 90 [(t 34), (t 35)],
 m 37 36,
 g 37 false (m 38 2),
 g 37 false (n 39 4 38),
 g 37 false (b 40 .geq (t 39) (i 4)),
 op 41 (.pick (t 37) (v (.bool true)) (t 40)),
 m 33 41]
def f71o7 : List IOper := [
 mc 8 (i 163)]
def f71o8 : List IOper := [
 la 43 1 4,
 la 44 2 5,
 m 45 3,
 c 46 70 [(t 43), (t 44), (t 45), (i 3)],
 b 47 .neq (t 46) (i 1),
 m 42 47]
def f71o9 : List IOper := [
 mc 8 (i 165)]
def f71o10 : List IOper := [
 m 49 10,
 b 50 .lss (t 49) (i 1),
 m 51 50,
 g 51 false (m 52 10),
 g 51 false (b 53 .gtr (t 52) (i 512)),
 op 54 (.pick (t 51) (v (.bool true)) (t 53)),
 m 55 54,
 g 55 false (m 56 9),
 g 55 false (m 57 10),
 g 55 false (b 58 .add (t 56) (t 57)),
 g 55 false (la 59 1 4),
 g 55 false (c 60 50 [(t 59)]),
 g 55 false (b 61 .gtr (t 58) (t 60)),
 op 62 (.pick (t 55) (v (.bool true)) (t 61)),
 m 48 62]
def f71o11 : List IOper := [
 mc 8 (i 161)]
def f71o12 : List IOper := [
 m 64 11,
 b 65 .quo (t 64) (i 4),
 b 66 .rem (t 65) (i 64),
 b 67 .neq (t 66) (i 0),
 m 68 67,
 g 68 false (m 69 11),
 g 68 false (b 70 .quo (t 69) (i 65536)),
 g 68 false (b 71 .neq (t 70) (i 0)),
 op 72 (.pick (t 68) (v (.bool true)) (t 71)),
 m 73 72,
 g 73 false (m 74 13),
 g 73 false (op 75 (.un .not (t 74))),
 g 73 false (m 76 75),
 g 76 true (m 77 12),
 g 76 true (b 78 .neq (t 77) (i 0)),
 g 73 false (op 79 (.pick (t 76) (t 78) (v B))),
 op 80 (.pick (t 73) (v (.bool true)) (t 79)),
 m 81 80,
 g 81 false (m 82 11),
 g 81 false (b 83 .rem (t 82) (i 2)),
 g 81 false (b 84 .eql (t 83) (i 0)),
 g 81 false (m 85 84),
 g 85 true (m 86 2),
 g 85 true (c 87 91 [(t 86)]),
 g 81 false (op 88 (.pick (t 85) (t 87) (v B))),
 op 89 (.pick (t 81) (v (.bool true)) (t 88)),
 m 63 89]
def f71o13 : List IOper := [
 mc 8 (i 164)]
def f71o14 : List IOper := [
 m 91 13,
 m 92 91,
 g 92 true (m 93 12),
 g 92 true (f 94 1 5),
 g 92 true (l 95 94),
 g 92 true (cv 96 .i64 95),
 g 92 true (b 97 .geq (t 93) (t 96)),
 op 98 (.pick (t 92) (t 97) (v B)),
 m 90 98]
def f71o15 : List IOper := [
 mc 8 (i 162)]
def f71o16 : List IOper := [
 mc 8 (i 0)]
def f71 : IFn := ⟨(q (o f71o0) (q (o f71o1) (q (o f71o2) (q (o f71o3) (q (o f71o4) (q (o f71o5) (q (bl 0 (q (o f71o6) (k 33 (q (o f71o7) R) (q (o f71o8) (k 42 (q (o f71o9) R) (q (o f71o10) (k 48 (q (o f71o11) R) (q (o f71o12) (k 63 (q (o f71o13) R) (q (o f71o14) (k 90 (q (o f71o15) R) K))))))))))) (q (o f71o16) R)))))))), [.t 8], 99⟩
def f72o0 : List IOper := [
 x 4 29 0,
 x 5 24 1,
 nw 8 29 [N]]
def f72o1 : List IOper := [
 la 9 1 4,
 f 10 0 5,
 l 11 10,
 cv 12 .i64 11,
 m 13 2,
 b 14 .mul (i 16) (t 13),
 b 15 .add (t 12) (t 14),
 b 16 .add (t 15) (i 12),
 m 17 3,
 cv 18 .u32 17,
 bd 19 [I, I, U] [(0, 1, (t 16)), (1, 1, (i 4)), (2, 1, (t 18))],
 c 20 46 [(t 9), (t 19)],
 fd 21 0 1 true 20,
 s 8 21]
def f72 : IFn := ⟨(q (o f72o0) (q (o f72o1) R)), [.cell 8 1 true], 22⟩
def f73o0 : List IOper := [
 x 4 29 0,
 x 5 24 1,
 nw 8 29 [N]]
def f73o1 : List IOper := [
 mc 9 (i 0)]
def f73o2 : List IOper := [
 m 10 9,
 m 11 2,
 n 12 4 11,
 b 13 .lss (t 10) (t 12)]
def f73o3 : List IOper := [
 la 16 1 4,
 la 17 2 5,
 m 18 2,
 m 19 9,
 is 20 4 18 (t 19),
 f 21 0 20,
 l 22 21,
 m 23 3,
 c 24 72 [(t 16), (t 17), (t 22), (t 23)],
 s 4 24]
def f73o4 : List IOper := [
 m 14 9,
 b 15 .add (t 14) (i 1),
 m 9 15]
def f73l5 : IC := (q (q (o f73o2) (k 13 K (ex 0))) (q (bl 1 (od f73o3)) (o f73o4)))
def f73o6 : List IOper := [
 la 25 1 4,
 s 8 25]
def f73 : IFn := ⟨(q (o f73o0) (q (q (o f73o1) (bl 0 (lp f73l5))) (q (o f73o6) R))), [.cell 8 1 true], 26⟩
def f74o0 : List IOper := [
 x 3 29 0,
 mc 6 (v B)]
def f74o1 : List IOper := [
 m 7 2,
 b 8 .neq (t 7) (i 1),
 m 9 8,
 g 9 true (m 10 2),
 g 9 true (b 11 .neq (t 10) (i 4)),
 op 12 (.pick (t 9) (t 11) (v B))]
def f74o2 : List IOper := [
 mc 6 (v B)]
def f74o3 : List IOper := [
 m 13 1,
 b 14 .geq (t 13) (i 0),
 m 15 14,
 g 15 true (m 16 1),
 g 15 true (m 17 2),
 g 15 true (b 18 .rem (t 16) (t 17)),
 g 15 true (b 19 .eql (t 18) (i 0)),
 op 20 (.pick (t 15) (t 19) (v B)),
 m 21 20,
 g 21 true (m 22 1),
 g 21 true (la 23 1 3),
 g 21 true (c 24 50 [(t 23)]),
 g 21 true (m 25 2),
 g 21 true (b 26 .sub (t 24) (t 25)),
 g 21 true (b 27 .leq (t 22) (t 26)),
 op 28 (.pick (t 21) (t 27) (v B)),
 m 6 28]
def f74 : IFn := ⟨(q (o f74o0) (q (q (o f74o1) (k 12 (q (o f74o2) R) K)) (q (o f74o3) R))), [.t 6], 29⟩
def f75o0 : List IOper := [
 x 2 29 0,
 x 3 29 1,
 mc 4 (v N)]
def f75o1 : List IOper := [
 mc 5 (v N)]
def f75o2 : List IOper := [
 mc 6 (i 0)]
def f75o3 : List IOper := [
 m 7 6,
 f 8 0 2,
 l 9 8,
 n 10 128 9,
 f 11 0 3,
 l 12 11,
 n 13 128 12,
 op 14 (.mn true [(t 10), (t 13)]),
 b 15 .lss (t 7) (t 14)]
def f75o4 : List IOper := [
 m 18 6,
 f 19 0 2,
 l 20 19,
 n 21 128 20,
 b 22 .geq (t 18) (t 21),
 m 23 22,
 g 23 false (m 24 6),
 g 23 false (f 25 0 3),
 g 23 false (l 26 25),
 g 23 false (n 27 128 26),
 g 23 false (b 28 .geq (t 24) (t 27)),
 op 29 (.pick (t 23) (v (.bool true)) (t 28)),
 m 30 29,
 g 30 false (f 31 0 2),
 g 30 false (l 32 31),
 g 30 false (m 33 6),
 g 30 false (is 34 128 32 (t 33)),
 g 30 false (la 35 128 34),
 g 30 false (f 36 0 3),
 g 30 false (l 37 36),
 g 30 false (m 38 6),
 g 30 false (is 39 128 37 (t 38)),
 g 30 false (la 40 128 39),
 g 30 false (op 41 (.eqA true [0, 0, 0, 0, 0, 0, 0, 0, 0, 0, 0, 0, 0, 0, 0, 0, 0, 0, 0, 0, 0, 0, 0, 0, 0, 0, 0, 0, 0, 0, 0, 0, 0, 0, 0, 0, 0, 0, 0, 0, 0, 0, 0, 0, 0, 0, 0, 0, 0, 0, 0, 0, 0, 0, 0, 0, 0, 0, 0, 0, 0, 0, 0, 0, 0, 0, 0, 0, 0, 0, 0, 0, 0, 0, 0, 0, 0, 0, 0, 0, 0, 0, 0, 0, 0, 0, 0, 0, 0, 0, 0, 0, 0, 0, 0, 0, 0, 0, 0, 0, 0, 0, 0, 0, 0, 0, 0, 0, 0, 0, 0, 0, 0, 0, 0, 0, 0, 0, 0, 0, 0, 0, 0, 0, 0, 0, 0, 0] (t 35) (t 40))),
 op 42 (.pick (t 30) (v (.bool true)) (t 41))]
def f75o5 : List IOper := [
 m 43 5,
 m 44 6,
 bs 45 1 [I] [(0, 1, (t 44))],
 ap 46 1 8 43 45,
 m 5 46]
def f75o6 : List IOper := [
 m 16 6,
 b 17 .add (t 16) (i 1),
 m 6 17]
def f75l7 : IC := (q (q (o f75o3) (k 15 K (ex 0))) (q (bl 1 (q (od f75o4) (k 42 (o f75o5) K))) (o f75o6)))
def f75o8 : List IOper := [
 m 47 5,
 m 4 47]
def f75 : IFn := ⟨(q (o f75o0) (q (o f75o1) (q (q (o f75o2) (bl 0 (lp f75l7))) (q (o f75o8) R)))), [.t 4], 48⟩
def f76o0 : List IOper := [
 mc 6 (v N),
 mc 7 (i 0),
 mc 8 (i 0)]
def f76o1 : List IOper := [
 m 17 0,
 m 18 1,
 c 19 92 [(t 17), (t 18)],
 m 16 19,
 e 20 16 0,
 e 21 16 1,
 e 22 16 2,
 m 9 20,
 m 10 21,
 m 11 22]
def f76o2 : List IOper := [
 m 23 11,
 b 24 .neq (t 23) (i 0)]
def f76o3 : List IOper := [
 m 25 11,
 mc 6 (v N),
 mc 7 (i 0),
 m 8 25]
def f76o4 : List IOper := [
 mc 12 (v N)]
def f76o5 : List IOper := [
 m 26 9,
 mc 27 (i 0)]
def f76o6 : List IOper := [
 b 28 .lss (t 27) (t 26)]
def f76o7 : List IOper := [
 m 30 2,
 m 31 0,
 m 32 10,
 op 33 (.slL 1 (t 31) (some (t 32)) none none),
 op 34 (.callv (t 30) [(t 33)]),
 m 29 34,
 e 35 29 0,
 e 36 29 1,
 e 37 29 2,
 m 13 35,
 m 14 36,
 m 15 37]
def f76o8 : List IOper := [
 m 38 15,
 b 39 .neq (t 38) (i 0)]
def f76o9 : List IOper := [
 m 40 15,
 mc 6 (v N),
 mc 7 (i 0),
 m 8 40]
def f76o10 : List IOper := [
 m 41 12,
 m 42 13,
 bs 43 1 [I] [(0, 1, (t 42))],
 ap 44 1 8 41 43,
 m 45 10,
 m 46 14,
 b 47 .add (t 45) (t 46),
 m 12 44,
 m 10 47]
def f76o11 : List IOper := [
 b 48 .add (t 27) (i 1),
 m 27 48]
def f76l12 : IC := (q (o f76o6) (q (k 28 K (ex 0)) (q (bl 1 (q (o f76o7) (q (q (o f76o8) (k 39 (q (o f76o9) R) K)) (o f76o10)))) (o f76o11))))
def f76o13 : List IOper := [
 m 49 12,
 m 50 10,
 m 6 49,
 m 7 50,
 mc 8 (i 0)]
def f76 : IFn := ⟨(q (o f76o0) (q (o f76o1) (q (q (o f76o2) (k 24 (q (o f76o3) R) K)) (q (o f76o4) (q (q (o f76o5) (bl 0 (lp f76l12))) (q (o f76o13) R)))))), [.t 6, .t 7, .t 8], 51⟩
def f77o0 : List IOper := [
 mc 2 (i 0),
 mc 3 (i 0),
 mc 4 (i 0)]
def f77o1 : List IOper := [
 mc 5 (v (.int .u64 0))]
def f77o2 : List IOper := [
 mc 6 (i 0)]
def f77o3 : List IOper := [
 m 9 0,
 n 10 1 9,
 mc 11 (i 0)]
def f77o4 : List IOper := [
 b 12 .lss (t 11) (t 10)]
def f77o5 : List IOper := [
 m 13 11,
 is 14 1 9 (t 11),
 l 15 14,
 m 7 13,
 m 8 15]
def f77o6 : List IOper := [
 m 25 7,
 b 26 .eql (t 25) (i 9),
 m 27 26,
 g 27 true (m 28 8),
 g 27 true (b 29 .gtr (t 28) (y 1)),
 op 30 (.pick (t 27) (t 29) (v B)),
 m 24 30]
def f77o7 : List IOper := [
 m 31 7,
 b 32 .gtr (t 31) (i 0),
 m 33 32,
 g 33 true (m 34 8),
 g 33 true (b 35 .eql (t 34) (y 0)),
 op 36 (.pick (t 33) (t 35) (v B)),
 m 24 36]
def f77o8 : List IOper := [
 mc 2 (i 0),
 mc 3 (i 0),
 mc 4 (i 11)]
def f77o9 : List IOper := [
 m 16 5,
 m 17 8,
 b 18 .and (t 17) (y 127),
 cv 19 .u64 18,
 m 20 7,
 b 21 .mul (i 7) (t 20),
 b 22 .shl (t 19) (t 21),
 b 23 .or (t 16) (t 22),
 m 5 23]
def f77o10 : List IOper := [
 m 37 8,
 b 38 .lss (t 37) (y 128)]
def f77o11 : List IOper := [
 m 39 7,
 b 40 .add (t 39) (i 1),
 m 6 40]
def f77o12 : List IOper := [
 b 41 .add (t 11) (i 1),
 m 11 41]
def f77l13 : IC := (q (o f77o4) (q (k 12 K (ex 0)) (q (bl 1 (q (o f77o5) (q (bl 2 (q (q (o f77o6) (k 24 K (o f77o7))) (k 24 (q (o f77o8) R) (o f77o9)))) (q (o f77o10) (k 38 (q (o f77o11) (ex 0)) K))))) (o f77o12))))
def f77o14 : List IOper := [
 m 42 6,
 b 43 .eql (t 42) (i 0)]
def f77o15 : List IOper := [
 mc 2 (i 0),
 mc 3 (i 0),
 mc 4 (i 10)]
def f77o16 : List IOper := [
 m 44 5,
 b 45 .shr (t 44) (v (.int .u64 1)),
 cv 46 .i64 45,
 m 47 5,
 b 48 .and (t 47) (v (.int .u64 1)),
 cv 49 .i64 48,
 op 50 (.un .neg (t 49)),
 b 51 .xor (t 46) (t 50),
 m 52 6,
 m 2 51,
 m 3 52,
 mc 4 (i 0)]
def f77 : IFn := ⟨(q (o f77o0) (q (o f77o1) (q (o f77o2) (q K (q (q (o f77o3) (bl 0 (lp f77l13))) (q (q (o f77o14) (k 43 (q (o f77o15) R) K)) (q (o f77o16) R))))))), [.t 2, .t 3, .t 4], 53⟩
def f78o0 : List IOper := [
 mc 4 (i 0),
 mc 5 (i 0),
 mc 6 (i 0)]
def f78o1 : List IOper := [
 m 11 0,
 c 12 79 [(t 11)],
 m 10 12,
 e 13 10 0,
 e 14 10 1,
 e 15 10 2,
 m 7 13,
 m 8 14,
 m 9 15]
def f78o2 : List IOper := [
 m 16 9,
 b 17 .neq (t 16) (i 0)]
def f78o3 : List IOper := [
 m 18 9,
 mc 4 (i 0),
 mc 5 (i 0),
 m 6 18]
def f78o4 : List IOper := [
 m 19 7,
 b 20 .lss (t 19) (i 0)]
def f78o5 : List IOper := [
 mc 4 (i 0),
 mc 5 (i 0),
 mc 6 (i 11)]
def f78o6 : List IOper := [
 m 21 7,
 m 22 0,
 n 23 1 22,
 m 24 8,
 b 25 .sub (t 23) (t 24),
 m 26 1,
 b 27 .quo (t 25) (t 26),
 b 28 .gtr (t 21) (t 27)]
def f78o7 : List IOper := [
 mc 4 (i 0),
 mc 5 (i 0),
 mc 6 (i 10)]
def f78o8 : List IOper := [
 m 29 7,
 m 30 8,
 m 4 29,
 m 5 30,
 mc 6 (i 0)]
def f78 : IFn := ⟨(q (o f78o0) (q (o f78o1) (q (q (o f78o2) (k 17 (q (o f78o3) R) K)) (q (q (o f78o4) (k 20 (q (o f78o5) R) K)) (q (q (o f78o6) (k 28 (q (o f78o7) R) K)) (q (o f78o8) R)))))), [.t 4, .t 5, .t 6], 31⟩
def f79o0 : List IOper := [
 mc 2 (i 0),
 mc 3 (i 0),
 mc 4 (i 0)]
def f79o1 : List IOper := [
 mc 5 (i 0)]
def f79o2 : List IOper := [
 m 8 5,
 m 9 0,
 n 10 1 9,
 b 11 .lss (t 8) (t 10),
 m 12 11,
 g 12 true (m 13 5),
 g 12 true (b 14 .lss (t 13) (i 10)),
 op 15 (.pick (t 12) (t 14) (v B)),
 m 16 15,
 g 16 true (m 17 0),
 g 16 true (m 18 5),
 g 16 true (is 19 1 17 (t 18)),
 g 16 true (l 20 19),
 g 16 true (b 21 .geq (t 20) (y 128)),
 op 22 (.pick (t 16) (t 21) (v B))]
def f79o3 : List IOper := [
 m 23 5,
 b 24 .add (t 23) (i 1),
 m 5 24]
def f79l4 : IC := (q (q (o f79o2) (k 22 K (ex 0))) (bl 1 (o f79o3)))
def f79o5 : List IOper := [
 m 25 5,
 b 26 .eql (t 25) (i 10)]
def f79o6 : List IOper := [
 mc 2 (i 0),
 mc 3 (i 0),
 mc 4 (i 11)]
def f79o7 : List IOper := [
 m 27 5,
 m 28 0,
 n 29 1 28,
 b 30 .eql (t 27) (t 29)]
def f79o8 : List IOper := [
 mc 2 (i 0),
 mc 3 (i 0),
 mc 4 (i 10)]
def f79o9 : List IOper := [
 m 31 5,
 b 32 .eql (t 31) (i 9),
 m 33 32,
 g 33 true (m 34 0),
 g 33 true (m 35 5),
 g 33 true (is 36 1 34 (t 35)),
 g 33 true (l 37 36),
 g 33 true (b 38 .gtr (t 37) (y 1)),
 op 39 (.pick (t 33) (t 38) (v B)),
 m 40 39,
 g 40 false (m 41 5),
 g 40 false (b 42 .gtr (t 41) (i 0)),
 g 40 false (m 43 42),
 g 43 true (m 44 0),
 g 43 true (m 45 5),
 g 43 true (is 46 1 44 (t 45)),
 g 43 true (l 47 46),
 g 43 true (b 48 .eql (t 47) (y 0)),
 g 40 false (op 49 (.pick (t 43) (t 48) (v B))),
 op 50 (.pick (t 40) (v (.bool true)) (t 49))]
def f79o10 : List IOper := [
 mc 2 (i 0),
 mc 3 (i 0),
 mc 4 (i 11)]
def f79o11 : List IOper := [
 mc 6 (v (.int .u64 0))]
def f79o12 : List IOper := [
 m 51 5,
 m 7 51]
def f79o13 : List IOper := [
 m 52 7,
 b 53 .geq (t 52) (i 0)]
def f79o14 : List IOper := [
 m 56 6,
 b 57 .mul (t 56) (v (.int .u64 128)),
 m 58 0,
 m 59 7,
 is 60 1 58 (t 59),
 l 61 60,
 b 62 .rem (t 61) (y 128),
 cv 63 .u64 62,
 b 64 .add (t 57) (t 63),
 m 6 64]
def f79o15 : List IOper := [
 m 54 7,
 b 55 .sub (t 54) (i 1),
 m 7 55]
def f79l16 : IC := (q (q (o f79o13) (k 53 K (ex 2))) (q (bl 3 (o f79o14)) (o f79o15)))
def f79o17 : List IOper := [
 m 65 6,
 b 66 .rem (t 65) (v (.int .u64 2)),
 b 67 .eql (t 66) (v (.int .u64 1))]
def f79o18 : List IOper := [
 m 68 6,
 b 69 .quo (t 68) (v (.int .u64 2)),
 cv 70 .i64 69,
 b 71 .sub (i (-1)) (t 70),
 m 72 5,
 b 73 .add (t 72) (i 1),
 m 2 71,
 m 3 73,
 mc 4 (i 0)]
def f79o19 : List IOper := [
 m 74 6,
 b 75 .quo (t 74) (v (.int .u64 2)),
 cv 76 .i64 75,
 m 77 5,
 b 78 .add (t 77) (i 1),
 m 2 76,
 m 3 78,
 mc 4 (i 0)]
def f79 : IFn := ⟨(q (o f79o0) (q (o f79o1) (q (bl 0 (lp f79l4)) (q (q (o f79o5) (k 26 (q (o f79o6) R) K)) (q (q (o f79o7) (k 30 (q (o f79o8) R) K)) (q (q (o f79o9) (k 50 (q (o f79o10) R) K)) (q (o f79o11) (q (q (o f79o12) (bl 2 (lp f79l16))) (q (q (o f79o17) (k 67 (q (o f79o18) R) K)) (q (o f79o19) R)))))))))), [.t 2, .t 3, .t 4], 79⟩
def f81o0 : List IOper := [
 x 3 29 0,
 x 4 24 1,
 nw 6 145 [I, I, I, B, U, U]]
def f81o1 : List IOper := [
 nw 7 165 [U, U, U, U]]
def f81o2 : List IOper := [
 mc 9 (i 0)]
def f81o3 : List IOper := [
 b 10 .lss (t 9) (i 4)]
def f81o4 : List IOper := [
 m 11 9,
 m 8 11]
def f81o5 : List IOper := [
 m 13 8,
 la 14 1 3,
 la 15 2 4,
 m 16 2,
 m 17 8,
 c 18 95 [(t 15), (t 16), (t 17)],
 c 19 28 [(t 14), (t 18), (i 4)],
 m 12 19,
 e 20 12 0,
 e 21 12 1,
 ia 22 4 1 7 (t 13),
 s 22 20]
def f81o6 : List IOper := [
 b 23 .add (t 9) (i 1),
 m 9 23]
def f81l7 : IC := (q (o f81o3) (q (k 10 K (ex 0)) (q (bl 1 (q (o f81o4) (od f81o5))) (o f81o6))))
def f81o8 : List IOper := [
 m 24 2,
 ia 25 4 1 7 (i 0),
 l 26 25,
 cv 27 .i64 26,
 ia 28 4 1 7 (i 1),
 l 29 28,
 cv 30 .i64 29,
 ia 31 4 1 7 (i 2),
 l 32 31,
 b 33 .and (t 32) (w 1),
 b 34 .neq (t 33) (w 0),
 bd 35 [I, I, I, B] [(0, 1, (t 24)), (1, 1, (t 27)), (2, 1, (t 30)), (3, 1, (t 34))],
 ia 36 4 1 7 (i 2),
 l 37 36,
 ia 38 4 1 7 (i 3),
 l 39 38,
 bd 40 [I, I, I, B, U, U] [(0, 4, (t 35)), (4, 1, (t 37)), (5, 1, (t 39))],
 sn 6 6 40]
def f81 : IFn := ⟨(q (o f81o0) (q (o f81o1) (q (q (o f81o2) (bl 0 (lp f81l7))) (q (o f81o8) R)))), [.cell 6 6 true], 41⟩
def f82o0 : List IOper := [
 x 1 145 0,
 mc 2 (v B)]
def f82o1 : List IOper := [
 f 3 4 1,
 l 4 3,
 b 5 .andNot (t 4) (w 65283),
 b 6 .eql (t 5) (w 0),
 m 7 6,
 g 7 true (la 8 6 1),
 g 7 true (c 9 83 [(t 8)]),
 g 7 true (m 10 9),
 g 10 false (la 11 6 1),
 g 10 false (c 12 84 [(t 11)]),
 g 10 false (b 13 .eql (t 12) (i 0)),
 g 7 true (op 14 (.pick (t 10) (v (.bool true)) (t 13))),
 op 15 (.pick (t 7) (t 14) (v B)),
 m 2 15]
def f82 : IFn := ⟨(q (o f82o0) (q (o f82o1) R)), [.t 2], 16⟩
def f83o0 : List IOper := [
 x 1 145 0,
 mc 2 (v B)]
def f83o1 : List IOper := [
 f 3 4 1,
 l 4 3,
 b 5 .and (t 4) (w 2),
 b 6 .neq (t 5) (w 0),
 m 2 6]
def f83 : IFn := ⟨(q (o f83o0) (q (o f83o1) R)), [.t 2], 7⟩
def f84o0 : List IOper := [
 x 1 145 0,
 mc 2 (i 0)]
def f84o1 : List IOper := [
 f 3 4 1,
 l 4 3,
 b 5 .shr (t 4) (v (.int .u64 8)),
 b 6 .and (t 5) (w 255),
 cv 7 .i64 6,
 m 2 7]
def f84 : IFn := ⟨(q (o f84o0) (q (o f84o1) R)), [.t 2], 8⟩
def f85o0 : List IOper := [
 x 4 29 0,
 x 5 24 1,
 nw 8 29 [N]]
def f85o1 : List IOper := [
 m 11 3,
 n 12 1 11,
 mc 13 (i 0)]
def f85o2 : List IOper := [
 b 14 .lss (t 13) (t 12)]
def f85o3 : List IOper := [
 is 15 1 11 (t 13),
 l 16 15,
 m 10 16]
def f85o4 : List IOper := [
 la 18 1 4,
 la 19 2 5,
 m 20 10,
 c 21 95 [(t 19), (t 20), (i 3)],
 m 22 2,
 cv 23 .u32 22,
 bd 24 [I, I, U] [(0, 1, (t 21)), (1, 1, (i 4)), (2, 1, (t 23))],
 c 25 68 [(t 18), (t 24)],
 m 17 25,
 e 26 17 0,
 e 27 17 1,
 s 4 26]
def f85o5 : List IOper := [
 b 28 .add (t 13) (i 1),
 m 13 28]
def f85l6 : IC := (q (o f85o2) (q (k 14 K (ex 0)) (q (bl 1 (q (o f85o3) (od f85o4))) (o f85o5))))
def f85o7 : List IOper := [
 la 29 1 4,
 s 8 29]
def f85 : IFn := ⟨(q (o f85o0) (q (q (o f85o1) (bl 0 (lp f85l6))) (q (o f85o7) R))), [.cell 8 1 true], 30⟩
def f86o0 : List IOper := [
 x 4 29 0,
 x 5 24 1,
 nw 8 29 [N]]
def f86o1 : List IOper := [
 m 9 3,
 b 10 .lss (t 9) (i 160),
 m 11 10,
 g 11 false (m 12 3),
 g 11 false (b 13 .gtr (t 12) (i 165)),
 op 14 (.pick (t 11) (v (.bool true)) (t 13))]
def f86o2 : List IOper := [
 la 15 1 4,
 s 8 15]
def f86o3 : List IOper := [
 la 16 1 4,
 la 17 2 5,
 m 18 3,
 b 19 .sub (t 18) (i 160),
 b 20 .add (i 4) (t 19),
 m 21 2,
 bs 22 1 [I] [(0, 1, (t 21))],
 c 23 85 [(t 16), (t 17), (t 20), (t 22)],
 s 8 23]
def f86 : IFn := ⟨(q (o f86o0) (q (q (o f86o1) (k 14 (q (o f86o2) R) K)) (q (o f86o3) R))), [.cell 8 1 true], 24⟩
def f87o0 : List IOper := [
 x 3 29 0,
 nw 6 29 [N],
 mc 7 (v B)]
def f87o1 : List IOper := [
 m 9 1,
 b 10 .lss (t 9) (i 0),
 m 11 10,
 g 11 false (m 12 1),
 g 11 false (la 13 1 3),
 g 11 false (c 14 53 [(t 13)]),
 g 11 false (b 15 .gtr (t 12) (t 14)),
 op 16 (.pick (t 11) (v (.bool true)) (t 15)),
 m 17 16,
 g 17 false (m 18 2),
 g 17 false (ns 19 18),
 g 17 false (la 20 1 3),
 g 17 false (c 21 53 [(t 20)]),
 g 17 false (m 22 1),
 g 17 false (b 23 .sub (t 21) (t 22)),
 g 17 false (b 24 .gtr (t 19) (t 23)),
 op 25 (.pick (t 17) (v (.bool true)) (t 24))]
def f87o2 : List IOper := [
 la 26 1 3,
 s 6 26,
 mc 7 (v B)]
def f87o3 : List IOper := [
 f 27 0 3,
 l 28 27,
 op 29 (.callp 2 96 [(t 28)]),
 bd 30 [N] [(0, 1, (t 29))],
 nw 8 169 [N],
 s 8 30]
def f87o4 : List IOper := [
 la 31 1 8,
 m 32 1,
 m 33 2,
 op 34 (.s2b (t 33)),
 op 35 (.calls 97 [(t 31), (t 32), (t 34)])]
def f87o5 : List IOper := [
 f 36 0 8,
 l 37 36,
 bd 38 [N] [(0, 1, (t 37))],
 s 6 38,
 mc 7 (v (.bool true))]
def f87 : IFn := ⟨(q (o f87o0) (q (q (o f87o1) (k 25 (q (o f87o2) R) K)) (q (o f87o3) (q (o f87o4) (q (o f87o5) R))))), [.cell 6 1 true, .t 7], 39⟩
def f88o0 : List IOper := [
 x 2 29 0,
 nw 4 29 [N],
 mc 5 (v B)]
def f88o1 : List IOper := [
 f 10 0 2,
 l 11 10,
 op 12 (.callp 2 96 [(t 11)]),
 bd 13 [N] [(0, 1, (t 12))],
 nw 6 169 [N],
 s 6 13]
def f88o2 : List IOper := [
 la 14 1 6,
 op 15 (.mkf 98 [(t 14)] []),
 m 7 15]
def f88o3 : List IOper := [
 m 16 1,
 n 17 3 16,
 mc 18 (i 0)]
def f88o4 : List IOper := [
 b 19 .lss (t 18) (t 17)]
def f88o5 : List IOper := [
 is 20 3 16 (t 18),
 la 21 3 20,
 nw 9 105 [I, I, U],
 sn 3 9 21]
def f88o6 : List IOper := [
 m 22 7,
 la 23 3 9,
 op 24 (.callv (t 22) [(t 23)]),
 op 25 (.un .not (t 24))]
def f88o7 : List IOper := [
 la 26 1 2,
 s 4 26,
 mc 5 (v B)]
def f88o8 : List IOper := [
 b 27 .add (t 18) (i 1),
 m 18 27]
def f88l9 : IC := (q (o f88o4) (q (k 19 K (ex 0)) (q (bl 1 (q (o f88o5) (q (o f88o6) (k 25 (q (o f88o7) R) K)))) (o f88o8))))
def f88o10 : List IOper := [
 f 28 0 6,
 l 29 28,
 bd 30 [N] [(0, 1, (t 29))],
 s 4 30,
 mc 5 (v (.bool true))]
def f88 : IFn := ⟨(q (o f88o0) (q (o f88o1) (q (o f88o2) (q (q (o f88o3) (bl 0 (lp f88l9))) (q (o f88o10) R))))), [.cell 4 1 true, .t 5], 31⟩
def f89o0 : List IOper := [
 x 3 29 0,
 nw 6 153 [E, B]]
def f89o1 : List IOper := [
 m 9 1,
 b 10 .lss (t 9) (i 0),
 m 11 10,
 g 11 false (m 12 2),
 g 11 false (b 13 .lss (t 12) (i 0)),
 op 14 (.pick (t 11) (v (.bool true)) (t 13)),
 m 15 14,
 g 15 false (m 16 1),
 g 15 false (la 17 1 3),
 g 15 false (c 18 50 [(t 17)]),
 g 15 false (b 19 .gtr (t 16) (t 18)),
 op 20 (.pick (t 15) (v (.bool true)) (t 19)),
 m 21 20,
 g 21 false (m 22 2),
 g 21 false (la 23 1 3),
 g 21 false (c 24 50 [(t 23)]),
 g 21 false (m 25 1),
 g 21 false (b 26 .sub (t 24) (t 25)),
 g 21 false (b 27 .gtr (t 22) (t 26)),
 op 28 (.pick (t 21) (v (.bool true)) (t 27))]
def f89o2 : List IOper := [
 bd 29 [E, B] [],
 sn 2 6 29]
def f89o3 : List IOper := [
 mc 7 (v N)]
def f89o4 : List IOper := [
 mc 8 (i 0)]
def f89o5 : List IOper := [
 m 30 8,
 m 31 2,
 b 32 .lss (t 30) (t 31)]
def f89o6 : List IOper := [
 m 35 7,
 la 36 1 3,
 m 37 1,
 m 38 8,
 b 39 .add (t 37) (t 38),
 c 40 22 [(t 36), (t 39)],
 bs 41 1 [Y] [(0, 1, (t 40))],
 ap 42 1 1 35 41,
 m 7 42]
def f89o7 : List IOper := [
 m 33 8,
 b 34 .add (t 33) (i 1),
 m 8 34]
def f89l8 : IC := (q (q (o f89o5) (k 32 K (ex 0))) (q (bl 1 (o f89o6)) (o f89o7)))
def f89o9 : List IOper := [
 m 43 7,
 op 44 (.b2s (t 43)),
 bd 45 [E, B] [(0, 1, (t 44)), (1, 1, (v (.bool true)))],
 sn 2 6 45]
def f89 : IFn := ⟨(q (o f89o0) (q (q (o f89o1) (k 28 (q (o f89o2) R) K)) (q (o f89o3) (q (q (o f89o4) (bl 0 (lp f89l8))) (q (o f89o9) R))))), [.cell 6 2 true], 46⟩
def f90o0 : List IOper := [
 mc 4 (v B)]
def f90o1 : List IOper := [
 mc 5 (i 0)]
def f90o2 : List IOper := [
 m 6 5,
 m 7 0,
 n 8 4 7,
 b 9 .lss (t 6) (t 8)]
def f90o3 : List IOper := [
 m 12 0,
 m 13 5,
 is 14 4 12 (t 13),
 f 15 0 14,
 l 16 15,
 m 17 1,
 b 18 .eql (t 16) (t 17)]
def f90o4 : List IOper := [
 mc 4 (v (.bool true))]
def f90o5 : List IOper := [
 m 10 5,
 b 11 .add (t 10) (i 1),
 m 5 11]
def f90l6 : IC := (q (q (o f90o2) (k 9 K (ex 0))) (q (bl 1 (q (o f90o3) (k 18 (q (o f90o4) R) K))) (o f90o5)))
def f90o7 : List IOper := [
 mc 4 (v B)]
def f90 : IFn := ⟨(q (o f90o0) (q (q (o f90o1) (bl 0 (lp f90l6))) (q (o f90o7) R))), [.t 4], 19⟩
def f91o0 : List IOper := [
 mc 2 (v B)]
def f91o1 : List IOper := [
 mc 3 (i 0)]
def f91o2 : List IOper := [
 m 4 3,
 m 5 0,
 n 6 4 5,
 b 7 .lss (t 4) (t 6)]
def f91o3 : List IOper := [
 m 10 0,
 m 11 3,
 is 12 4 10 (t 11),
 f 13 3 12,
 l 14 13]
def f91o4 : List IOper := [
 mc 2 (v (.bool true))]
def f91o5 : List IOper := [
 m 8 3,
 b 9 .add (t 8) (i 1),
 m 3 9]
def f91l6 : IC := (q (q (o f91o2) (k 7 K (ex 0))) (q (bl 1 (q (o f91o3) (k 14 (q (o f91o4) R) K))) (o f91o5)))
def f91o7 : List IOper := [
 mc 2 (v B)]
def f91 : IFn := ⟨(q (o f91o0) (q (q (o f91o1) (bl 0 (lp f91l6))) (q (o f91o7) R))), [.t 2], 15⟩
def f92o0 : List IOper := [
 mc 4 (i 0),
 mc 5 (i 0),
 mc 6 (i 0)]
def f92o1 : List IOper := [
 m 11 0,
 c 12 77 [(t 11)],
 m 10 12,
 e 13 10 0,
 e 14 10 1,
 e 15 10 2,
 m 7 13,
 m 8 14,
 m 9 15]
def f92o2 : List IOper := [
 m 17 9,
 b 18 .neq (t 17) (i 0),
 m 16 18]
def f92o3 : List IOper := [
 m 19 9,
 mc 4 (i 0),
 mc 5 (i 0),
 m 6 19]
def f92o4 : List IOper := [
 m 21 7,
 b 22 .lss (t 21) (i 0),
 m 20 22]
def f92o5 : List IOper := [
 mc 4 (i 0),
 mc 5 (i 0),
 mc 6 (i 11)]
def f92o6 : List IOper := [
 m 24 7,
 m 25 0,
 n 26 1 25,
 m 27 8,
 b 28 .sub (t 26) (t 27),
 m 29 1,
 b 30 .quo (t 28) (t 29),
 b 31 .gtr (t 24) (t 30),
 m 23 31]
def f92o7 : List IOper := [
 mc 4 (i 0),
 mc 5 (i 0),
 mc 6 (i 10)]
def f92o8 : List IOper := [
 m 32 7,
 m 33 8,
 m 4 32,
 m 5 33,
 mc 6 (i 0)]
def f92 : IFn := ⟨(q (o f92o0) (q (o f92o1) (q (bl 0 (q (o f92o2) (k 16 (q (o f92o3) R) (q (o f92o4) (k 20 (q (o f92o5) R) (q (o f92o6) (k 23 (q (o f92o7) R) K))))))) (q (o f92o8) R)))), [.t 4, .t 5, .t 6], 34⟩
def f95o0 : List IOper := [
 x 3 24 0,
 mc 6 (i 0)]
def f95o1 : List IOper := [
 f 7 0 3,
 l 8 7,
 cv 9 .i64 8,
 m 10 1,
 b 11 .mul (i 16) (t 10),
 b 12 .add (t 9) (t 11),
 m 13 2,
 b 14 .mul (i 4) (t 13),
 b 15 .add (t 12) (t 14),
 m 6 15]
def f95 : IFn := ⟨(q (o f95o0) (q (o f95o1) R)), [.t 6], 16⟩
def f96o0 : List IOper := [
 mc 2 (v N)]
def f96o1 : List IOper := [
 m 3 0,
 op 4 (.eq false 5 (t 3) (v N))]
def f96o2 : List IOper := [
 mc 2 (v N)]
def f96o3 : List IOper := [
 bs 5 128 [] [],
 m 6 0,
 ap 7 128 128 5 6,
 m 2 7]
def f96 : IFn := ⟨(q (o f96o0) (q (q (o f96o1) (k 4 (q (o f96o2) R) K)) (q (o f96o3) R))), [.t 2], 8⟩
def f97o0 : List IOper := [
 x 3 169 0]
def f97o1 : List IOper := [
 m 7 2,
 n 8 1 7,
 b 9 .gtr (t 8) (i 0)]
def f97o2 : List IOper := [
 f 10 0 3,
 l 11 10,
 m 12 1,
 b 13 .quo (t 12) (i 128),
 is 14 128 11 (t 13),
 m 15 1,
 b 16 .rem (t 15) (i 128),
 op 17 (.slA 128 1 (t 14) (some (t 16)) none none),
 m 18 2,
 op 19 (.cpy 1 (t 17) (t 18)),
 m 6 19]
def f97o3 : List IOper := [
 m 20 1,
 m 21 6,
 b 22 .add (t 20) (t 21),
 m 23 2,
 m 24 6,
 op 25 (.slL 1 (t 23) (some (t 24)) none none),
 m 1 22,
 m 2 25]
def f97l4 : IC := (q (q (o f97o1) (k 9 K (ex 0))) (bl 1 (q (o f97o2) (od f97o3))))
def f97 : IFn := ⟨(q (o f97o0) (bl 0 (lp f97l4))), [], 26⟩
def f98o0 : List IOper := [
 x 2 169 0,
 x 3 105 1,
 mc 4 (v B)]
def f98o1 : List IOper := [
 f 6 0 2,
 l 7 6,
 bd 8 [N] [(0, 1, (t 7))],
 f 9 0 3,
 l 10 9,
 f 11 1 3,
 l 12 11,
 op 13 (.calln 54 [(t 8), (t 10), (t 12)]),
 op 14 (.un .not (t 13))]
def f98o2 : List IOper := [
 mc 4 (v B)]
def f98o3 : List IOper := [
 f 15 2 3,
 l 16 15,
 m 5 16]
def f98o4 : List IOper := [
 la 17 1 2,
 f 18 0 3,
 l 19 18,
 m 20 5,
 cv 21 .u8 20,
 m 22 5,
 b 23 .shr (t 22) (v (.int .u64 8)),
 cv 24 .u8 23,
 m 25 5,
 b 26 .shr (t 25) (v (.int .u64 16)),
 cv 27 .u8 26,
 m 28 5,
 b 29 .shr (t 28) (v (.int .u64 24)),
 cv 30 .u8 29,
 bs 31 1 [Y, Y, Y, Y] [(0, 1, (t 21)), (1, 1, (t 24)), (2, 1, (t 27)), (3, 1, (t 30))],
 f 32 1 3,
 l 33 32,
 op 34 (.slL 1 (t 31) none (some (t 33)) none),
 op 35 (.calls 97 [(t 17), (t 19), (t 34)])]
def f98o5 : List IOper := [
 mc 4 (v (.bool true))]
def f98 : IFn := ⟨(q (o f98o0) (q (q (o f98o1) (k 14 (q (o f98o2) R) K)) (q (o f98o3) (q (od f98o4) (q (o f98o5) R))))), [.t 4], 36⟩
end
noncomputable def prims : FuncId → Option Prim := fun f => if f = 80 then some (pGather (evCall FN0 20000)) else none
theorem fz53 : FN0 53 = some (.code f53) := by kernel_rfl
theorem fz27 : FN0 27 = some (.code f27) := by kernel_rfl
noncomputable def FN : FuncId → Option FnDef := FNof Try.prog hint prims
theorem fn80 : FN 80 = some (.prim (pGather (evCall FN0 20000))) := by kernel_rfl
theorem fn3 : FN 3 = some (.code f3) := by kernel_rfl
theorem fn4 : FN 4 = some (.code f4) := by kernel_rfl
theorem fn5 : FN 5 = some (.code f5) := by kernel_rfl
theorem fn6 : FN 6 = some (.code f6) := by kernel_rfl
theorem fn7 : FN 7 = some (.code f7) := by kernel_rfl
theorem fn8 : FN 8 = some (.code f8) := by kernel_rfl
theorem fn9 : FN 9 = some (.code f9) := by kernel_rfl
theorem fn10 : FN 10 = some (.code f10) := by kernel_rfl
theorem fn11 : FN 11 = some (.code f11) := by kernel_rfl
theorem fn12 : FN 12 = some (.code f12) := by kernel_rfl
theorem fn13 : FN 13 = some (.code f13) := by kernel_rfl
theorem fn14 : FN 14 = some (.code f14) := by kernel_rfl
theorem fn15 : FN 15 = some (.code f15) := by kernel_rfl
theorem fn16 : FN 16 = some (.code f16) := by kernel_rfl
theorem fn17 : FN 17 = some (.code f17) := by kernel_rfl
theorem fn18 : FN 18 = some (.code f18) := by kernel_rfl
theorem fn19 : FN 19 = some (.code f19) := by kernel_rfl
theorem fn20 : FN 20 = some (.code f20) := by kernel_rfl
theorem fn21 : FN 21 = some (.code f21) := by kernel_rfl
theorem fn22 : FN 22 = some (.code f22) := by kernel_rfl
theorem fn23 : FN 23 = some (.code f23) := by kernel_rfl
theorem fn24 : FN 24 = some (.code f24) := by kernel_rfl
theorem fn25 : FN 25 = some (.code f25) := by kernel_rfl
theorem fn26 : FN 26 = some (.code f26) := by kernel_rfl
theorem fn27 : FN 27 = some (.code f27) := by kernel_rfl
theorem fn28 : FN 28 = some (.code f28) := by kernel_rfl
theorem fn29 : FN 29 = some (.code f29) := by kernel_rfl
theorem fn30 : FN 30 = some (.code f30) := by kernel_rfl
theorem fn31 : FN 31 = some (.code f31) := by kernel_rfl
theorem fn32 : FN 32 = some (.code f32) := by kernel_rfl
theorem fn33 : FN 33 = some (.code f33) := by kernel_rfl
theorem fn34 : FN 34 = some (.code f34) := by kernel_rfl
theorem fn35 : FN 35 = some (.code f35) := by kernel_rfl
theorem fn36 : FN 36 = some (.code f36) := by kernel_rfl
theorem fn37 : FN 37 = some (.code f37) := by kernel_rfl
theorem fn38 : FN 38 = some (.code f38) := by kernel_rfl
theorem fn39 : FN 39 = some (.code f39) := by kernel_rfl
theorem fn40 : FN 40 = some (.code f40) := by kernel_rfl
theorem fn41 : FN 41 = some (.code f41) := by kernel_rfl
theorem fn42 : FN 42 = some (.code f42) := by kernel_rfl
theorem fn43 : FN 43 = some (.code f43) := by kernel_rfl
theorem fn44 : FN 44 = some (.code f44) := by kernel_rfl
theorem fn45 : FN 45 = some (.code f45) := by kernel_rfl
theorem fn46 : FN 46 = some (.code f46) := by kernel_rfl
theorem fn47 : FN 47 = some (.code f47) := by kernel_rfl
theorem fn48 : FN 48 = some (.code f48) := by kernel_rfl
theorem fn49 : FN 49 = some (.code f49) := by kernel_rfl
theorem fn50 : FN 50 = some (.code f50) := by kernel_rfl
theorem fn51 : FN 51 = some (.code f51) := by kernel_rfl
theorem fn52 : FN 52 = some (.code f52) := by kernel_rfl
theorem fn53 : FN 53 = some (.code f53) := by kernel_rfl
theorem fn54 : FN 54 = some (.code f54) := by kernel_rfl
theorem fn55 : FN 55 = some (.code f55) := by kernel_rfl
theorem fn56 : FN 56 = some (.code f56) := by kernel_rfl
theorem fn57 : FN 57 = some (.code f57) := by kernel_rfl
theorem fn58 : FN 58 = some (.code f58) := by kernel_rfl
theorem fn59 : FN 59 = some (.code f59) := by kernel_rfl
theorem fn60 : FN 60 = some (.code f60) := by kernel_rfl
theorem fn61 : FN 61 = some (.code f61) := by kernel_rfl
theorem fn62 : FN 62 = some (.code f62) := by kernel_rfl
theorem fn63 : FN 63 = some (.code f63) := by kernel_rfl
theorem fn64 : FN 64 = some (.code f64) := by kernel_rfl
theorem fn65 : FN 65 = some (.code f65) := by kernel_rfl
theorem fn66 : FN 66 = some (.code f66) := by kernel_rfl
theorem fn67 : FN 67 = some (.code f67) := by kernel_rfl
theorem fn68 : FN 68 = some (.code f68) := by kernel_rfl
theorem fn69 : FN 69 = some (.code f69) := by kernel_rfl
theorem fn70 : FN 70 = some (.code f70) := by kernel_rfl
theorem fn71 : FN 71 = some (.code f71) := by kernel_rfl
theorem fn72 : FN 72 = some (.code f72) := by kernel_rfl
theorem fn73 : FN 73 = some (.code f73) := by kernel_rfl
theorem fn74 : FN 74 = some (.code f74) := by kernel_rfl
theorem fn75 : FN 75 = some (.code f75) := by kernel_rfl
theorem fn76 : FN 76 = some (.code f76) := by kernel_rfl
theorem fn77 : FN 77 = some (.code f77) := by kernel_rfl
theorem fn78 : FN 78 = some (.code f78) := by kernel_rfl
theorem fn79 : FN 79 = some (.code f79) := by kernel_rfl
theorem fn81 : FN 81 = some (.code f81) := by kernel_rfl
theorem fn82 : FN 82 = some (.code f82) := by kernel_rfl
theorem fn83 : FN 83 = some (.code f83) := by kernel_rfl
theorem fn84 : FN 84 = some (.code f84) := by kernel_rfl
theorem fn85 : FN 85 = some (.code f85) := by kernel_rfl
theorem fn86 : FN 86 = some (.code f86) := by kernel_rfl
theorem fn87 : FN 87 = some (.code f87) := by kernel_rfl
theorem fn88 : FN 88 = some (.code f88) := by kernel_rfl
theorem fn89 : FN 89 = some (.code f89) := by kernel_rfl
theorem fn90 : FN 90 = some (.code f90) := by kernel_rfl
theorem fn91 : FN 91 = some (.code f91) := by kernel_rfl
theorem fn92 : FN 92 = some (.code f92) := by kernel_rfl
theorem fn95 : FN 95 = some (.code f95) := by kernel_rfl
theorem fn96 : FN 96 = some (.code f96) := by kernel_rfl
theorem fn97 : FN 97 = some (.code f97) := by kernel_rfl
theorem fn98 : FN 98 = some (.code f98) := by kernel_rfl
def FNl : FuncId → Option FnDef
  | 3 => some (.code f3)
  | 4 => some (.code f4)
  | 5 => some (.code f5)
  | 6 => some (.code f6)
  | 7 => some (.code f7)
  | 8 => some (.code f8)
  | 9 => some (.code f9)
  | 10 => some (.code f10)
  | 11 => some (.code f11)
  | 12 => some (.code f12)
  | 13 => some (.code f13)
  | 14 => some (.code f14)
  | 15 => some (.code f15)
  | 16 => some (.code f16)
  | 17 => some (.code f17)
  | 18 => some (.code f18)
  | 19 => some (.code f19)
  | 20 => some (.code f20)
  | 21 => some (.code f21)
  | 22 => some (.code f22)
  | 23 => some (.code f23)
  | 24 => some (.code f24)
  | 25 => some (.code f25)
  | 26 => some (.code f26)
  | 27 => some (.code f27)
  | 28 => some (.code f28)
  | 29 => some (.code f29)
  | 30 => some (.code f30)
  | 31 => some (.code f31)
  | 32 => some (.code f32)
  | 33 => some (.code f33)
  | 34 => some (.code f34)
  | 35 => some (.code f35)
  | 36 => some (.code f36)
  | 37 => some (.code f37)
  | 38 => some (.code f38)
  | 39 => some (.code f39)
  | 40 => some (.code f40)
  | 41 => some (.code f41)
  | 42 => some (.code f42)
  | 43 => some (.code f43)
  | 44 => some (.code f44)
  | 45 => some (.code f45)
  | 46 => some (.code f46)
  | 47 => some (.code f47)
  | 48 => some (.code f48)
  | 49 => some (.code f49)
  | 50 => some (.code f50)
  | 51 => some (.code f51)
  | 52 => some (.code f52)
  | 53 => some (.code f53)
  | 54 => some (.code f54)
  | 55 => some (.code f55)
  | 56 => some (.code f56)
  | 57 => some (.code f57)
  | 58 => some (.code f58)
  | 59 => some (.code f59)
  | 60 => some (.code f60)
  | 61 => some (.code f61)
  | 62 => some (.code f62)
  | 63 => some (.code f63)
  | 64 => some (.code f64)
  | 65 => some (.code f65)
  | 66 => some (.code f66)
  | 67 => some (.code f67)
  | 68 => some (.code f68)
  | 69 => some (.code f69)
  | 70 => some (.code f70)
  | 71 => some (.code f71)
  | 72 => some (.code f72)
  | 73 => some (.code f73)
  | 74 => some (.code f74)
  | 75 => some (.code f75)
  | 76 => some (.code f76)
  | 77 => some (.code f77)
  | 78 => some (.code f78)
  | 79 => some (.code f79)
  | 81 => some (.code f81)
  | 82 => some (.code f82)
  | 83 => some (.code f83)
  | 84 => some (.code f84)
  | 85 => some (.code f85)
  | 86 => some (.code f86)
  | 87 => some (.code f87)
  | 88 => some (.code f88)
  | 89 => some (.code f89)
  | 90 => some (.code f90)
  | 91 => some (.code f91)
  | 92 => some (.code f92)
  | 95 => some (.code f95)
  | 96 => some (.code f96)
  | 97 => some (.code f97)
  | 98 => some (.code f98)
  | _ => none
theorem FNl_le (f : FuncId) (d : FnDef) (h : FNl f = some d) : FN f = some d := by
  unfold FNl at h
  split at h <;> simp only [Option.some.injEq, reduceCtorEq] at h <;> subst h
  · exact fn3
  · exact fn4
  · exact fn5
  · exact fn6
  · exact fn7
  · exact fn8
  · exact fn9
  · exact fn10
  · exact fn11
  · exact fn12
  · exact fn13
  · exact fn14
  · exact fn15
  · exact fn16
  · exact fn17
  · exact fn18
  · exact fn19
  · exact fn20
  · exact fn21
  · exact fn22
  · exact fn23
  · exact fn24
  · exact fn25
  · exact fn26
  · exact fn27
  · exact fn28
  · exact fn29
  · exact fn30
  · exact fn31
  · exact fn32
  · exact fn33
  · exact fn34
  · exact fn35
  · exact fn36
  · exact fn37
  · exact fn38
  · exact fn39
  · exact fn40
  · exact fn41
  · exact fn42
  · exact fn43
  · exact fn44
  · exact fn45
  · exact fn46
  · exact fn47
  · exact fn48
  · exact fn49
  · exact fn50
  · exact fn51
  · exact fn52
  · exact fn53
  · exact fn54
  · exact fn55
  · exact fn56
  · exact fn57
  · exact fn58
  · exact fn59
  · exact fn60
  · exact fn61
  · exact fn62
  · exact fn63
  · exact fn64
  · exact fn65
  · exact fn66
  · exact fn67
  · exact fn68
  · exact fn69
  · exact fn70
  · exact fn71
  · exact fn72
  · exact fn73
  · exact fn74
  · exact fn75
  · exact fn76
  · exact fn77
  · exact fn78
  · exact fn79
  · exact fn81
  · exact fn82
  · exact fn83
  · exact fn84
  · exact fn85
  · exact fn86
  · exact fn87
  · exact fn88
  · exact fn89
  · exact fn90
  · exact fn91
  · exact fn92
  · exact fn95
  · exact fn96
  · exact fn97
  · exact fn98
end Go.Proofs.Ytaeoaakblilfeaa
