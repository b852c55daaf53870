/- Part 6 of the texts on which proofs about this seat rest: each says what it proves at its own head. No condition. -/
import Derived.Test.YtaeoaakblilfeaaM5
set_option linter.unusedVariables false
set_option linter.unusedSimpArgs false
/- What is wrong with a descriptor that follows others. Condition: the memory is valid, the ring is there. -/
namespace Go.Proofs.Ytaeoaakblilfeaa
open Go.Abs
variable {k : Nat}
def errN (inn len st at_ sz size fl s wrt : Nat) : Nat :=
  if inn = 1 ∨ 4 ≤ len then 163 else
  if st ≠ 1 then 165 else
  if sz < 1 ∨ 512 < sz ∨ size < at_ + sz then 161 else
  if fl / 4 % 64 ≠ 0 ∨ fl / 65536 ≠ 0 ∨ (fl / 2 % 2 ≠ 1 ∧ fl / 256 % 256 ≠ 0) ∨ (fl % 2 = 0 ∧ wrt = 1) then 164 else
  if fl / 2 % 2 = 1 ∧ s ≤ fl / 256 % 256 then 162 else 0
def bn (x : Bool) : Nat := if x then 1 else 0
def errAt (bs : List UInt8) (b s : Nat) (js : List Nat) (i : Nat) : Nat :=
  errN (bn (decide (i ∈ js))) js.length (dw bs b i 3) (dw bs b i 0) (dw bs b i 1) bs.length (dw bs b i 2) s (bn (js.any (wr bs b)))
theorem dw_lt (bs : List UInt8) (b i j : Nat) : dw bs b i j < 4294967296 := word_lt _ _
set_option maxRecDepth 100000 in
set_option maxHeartbeats 4000000 in
theorem s71 {bs : List UInt8} {b s i : Nat} {js : List Nat} (h : RV bs b s) (hi : i < s) (hn : js.length ≤ 4) : Calls0 (evCall FN (k + 12)) 71 [memV bs, ringV b s, csl 4 (partsV bs b js), .int .i64 i] (.int .i64 (errAt bs b s js i)) := by
  have hl := h.m.le
  have hs := h.hs
  have hle := h.le
  have hb16 := h.hb
  have c0 : Calls0 (evCall FN (k + 11)) 70 [memV bs, ringV b s, .int .i64 i, .int .i64 ((0 : Nat) : Int)] (.int .i64 (dw bs b i 0)) := (s70 (k := 0) h hi (by omega)).fuel (by omega)
  have c1 : Calls0 (evCall FN (k + 11)) 70 [memV bs, ringV b s, .int .i64 i, .int .i64 ((1 : Nat) : Int)] (.int .i64 (dw bs b i 1)) := (s70 (k := 0) h hi (by omega)).fuel (by omega)
  have c2 : Calls0 (evCall FN (k + 11)) 70 [memV bs, ringV b s, .int .i64 i, .int .i64 ((2 : Nat) : Int)] (.int .i64 (dw bs b i 2)) := (s70 (k := 0) h hi (by omega)).fuel (by omega)
  have c3 : Calls0 (evCall FN (k + 11)) 70 [memV bs, ringV b s, .int .i64 i, .int .i64 ((3 : Nat) : Int)] (.int .i64 (dw bs b i 3)) := (s70 (k := 0) h hi (by omega)).fuel (by omega)
  have c50 : Calls0 (evCall FN (k + 11)) 50 [memV bs] (.int .i64 bs.length) := (s50 (k := 0) h.m).fuel (by omega)
  have c90 : Calls0 (evCall FN (k + 11)) 90 [csl 4 (partsV bs b js), .int .i64 i] (.bool (decide (i ∈ js))) := (s90 (k := 0) (by omega)).fuel (by omega)
  have c91 : Calls0 (evCall FN (k + 11)) 91 [csl 4 (partsV bs b js)] (.bool (js.any (wr bs b))) := (s91 (k := 0) (by omega)).fuel (by omega)
  have hfl := parts_flat bs b js
  have w0 := dw_lt bs b i 0; have w1 := dw_lt bs b i 1; have w2 := dw_lt bs b i 2; have w3 := dw_lt bs b i 3
  have hlen := parts_div bs b js
  have hws : IntKind.i64.wrap (s : Int) = s := w64 (by omega) (by omega)
  unfold errAt
  generalize decide (i ∈ js) = inn at *
  generalize js.any (wr bs b) = wrt at *
  generalize dw bs b i 0 = d0 at *
  generalize dw bs b i 1 = d1 at *
  generalize dw bs b i 2 = d2 at *
  generalize dw bs b i 3 = d3 at *
  cases inn <;> cases wrt
  all_goals
    refine q_call0 fn71 fun T H E lv => ?_
    repeat' (first | refine stM ?_ | intro E | (refine stS ?_ ?_ <;> intro hc) | refine stB ?_ | (refine stG ?_ ?_ <;> intro hc))
    all_goals
      refine q_ret (.inr rfl) rfl rfl rfl rfl ?_ rfl
      show AV.int _ _ = AV.int _ _
      refine congrArg (AV.int .i64) ?_
      have hb1 : bn true = 1 := rfl
      have hb0 : bn false = 0 := rfl
      unfold errN
      (repeat' split) <;> omega
end Go.Proofs.Ytaeoaakblilfeaa
