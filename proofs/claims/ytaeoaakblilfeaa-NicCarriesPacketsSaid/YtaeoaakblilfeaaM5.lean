/- Part 5 of the texts on which proofs about this seat rest: each says what it proves at its own head. No condition. -/
import Derived.Test.YtaeoaakblilfeaaM4
set_option linter.unusedVariables false
set_option linter.unusedSimpArgs false
/- Arithmetic of words, and how a memory and a ring lie in cells. No condition. -/
namespace Go.Proofs.Ytaeoaakblilfeaa
open Go.Abs
theorem inB_nat {j m : Nat} (h : j < m) : inB (j : Int) m = some j := by rw [inB_of (by omega) (by omega)]; exact congrArg some (Int.toNat_natCast _)
theorem asB_nat {j m : Nat} (h : j ≤ m) : asB (j : Int) m = some j := by rw [asB_of (by omega) (by omega)]; exact congrArg some (Int.toNat_natCast _)
theorem ofInt_nat (n : Nat) (h : n < 4294967296) : (BitVec.ofInt 32 (n : Int)).toNat = n := by
  simp only [BitVec.toNat_ofInt]
  omega
theorem shl_u32 {b s : Nat} {kk : IntKind} {r : Int} (hs : s < 32) (h : b * 2 ^ s < 4294967296) (hr : r = ((b * 2 ^ s : Nat) : Int)) : evBin .shl (.int .u32 b) (.int kk s) = some (.int .u32 r) := by
  subst hr
  have hm : min ((s : Int)).toNat IntKind.u32.bits = s := by
    have : IntKind.u32.bits = 32 := rfl
    rw [this]; simp; omega
  have hneg : ¬ ((s : Int) < 0) := by omega
  simp only [evBin, evShift, true_or, if_true, hneg, if_false, hm]
  have : ((b : Int) * 2 ^ s) = ((b * 2 ^ s : Nat) : Int) := by simp
  rw [this, w32 (by omega) (by omega)]
theorem or_u32 {x y s : Nat} {r : Int} (hx : x < 2 ^ s) (h : x + y * 2 ^ s < 4294967296) (hr : r = ((x + y * 2 ^ s : Nat) : Int)) : evBin .or (.int .u32 x) (.int .u32 ((y * 2 ^ s : Nat) : Int)) = some (.int .u32 r) := by
  subst hr
  have h1 : (BitVec.ofInt IntKind.u32.bits (x : Int) ||| BitVec.ofInt IntKind.u32.bits ((y * 2 ^ s : Nat) : Int)).toNat = x + y * 2 ^ s := by
    show (BitVec.ofInt 32 (x : Int) ||| BitVec.ofInt 32 ((y * 2 ^ s : Nat) : Int)).toNat = _
    rw [BitVec.toNat_or, ofInt_nat x (by omega), ofInt_nat (y * 2 ^ s) (by omega), Nat.or_comm, Nat.mul_comm y, ← Nat.two_pow_add_eq_or_of_lt hx]
    omega
  simp only [evBin, reduceCtorEq, or_self, if_false, if_true, evInt, h1]
  rw [w32 (by omega) (by omega)]
def memV (bs : List UInt8) : AV := .agg [csl 128 (bs.map ofB)]
def ringV (b s : Nat) : AV := .agg [.int .u32 b, .int .u32 s]
def VM (bs : List UInt8) : Prop := ∃ p, 1 ≤ p ∧ p ≤ 64 ∧ bs.length = 128 * p
theorem VM.le {bs : List UInt8} (h : VM bs) : bs.length ≤ 8192 ∧ bs.length % 128 = 0 ∧ 128 ≤ bs.length := by
  obtain ⟨p, h1, h2, h3⟩ := h; omega
def bt (bs : List UInt8) (i : Nat) : Nat := (bs.getD i 0).toNat
def word (bs : List UInt8) (i : Nat) : Nat := bt bs i + bt bs (i + 1) * 2 ^ 8 + bt bs (i + 2) * 2 ^ 16 + bt bs (i + 3) * 2 ^ 24
theorem bt_lt (bs : List UInt8) (i : Nat) : bt bs i < 256 := UInt8.toNat_lt _
theorem word_lt (bs : List UInt8) (i : Nat) : word bs i < 4294967296 := by
  have h0 := bt_lt bs i; have h1 := bt_lt bs (i + 1); have h2 := bt_lt bs (i + 2); have h3 := bt_lt bs (i + 3)
  unfold word; omega
theorem ofB_bt {bs : List UInt8} {i : Nat} (h : i < bs.length) : (bs.map ofB)[i]? = some (.int .u8 (bt bs i)) := by
  simp [ofB, bt, List.getD_eq_getElem?_getD, h]
end Go.Proofs.Ytaeoaakblilfeaa

/- What the functions of the memory come to. No condition. -/
namespace Go.Proofs.Ytaeoaakblilfeaa
open Go.Abs
variable {k : Nat}
set_option maxRecDepth 100000 in
theorem s53 {bs : List UInt8} (h : VM bs) : Calls0 (evCall FN (k + 1)) 53 [memV bs] (.int .i64 bs.length) := by
  have hl := h.le
  refine q_call0 fn53 fun T H E lv => ?_
  repeat (first | refine stN ?_ | intro E)
  refine q_ret (.inr rfl) rfl rfl rfl rfl ?_ rfl
  show AV.int _ _ = _
  rw [List.length_map, w64 (by omega) (by omega)]
  congr 1; omega
set_option maxRecDepth 100000 in
theorem s50 {bs : List UInt8} (h : VM bs) : Calls0 (evCall FN (k + 1)) 50 [memV bs] (.int .i64 bs.length) := by
  have hl := h.le
  refine q_call0 fn50 fun T H E lv => ?_
  repeat (first | refine stN ?_ | intro E)
  refine q_ret (.inr rfl) rfl rfl rfl rfl ?_ rfl
  show AV.int _ _ = _
  rw [List.length_map, w64 (by omega) (by omega)]
  congr 1; omega
set_option maxRecDepth 100000 in
theorem s54 {bs : List UInt8} {a : Nat} (h : VM bs) (ha : a % 4 = 0) (hb : a + 4 ≤ bs.length) : Calls0 (evCall FN (k + 2)) 54 [memV bs, .int .i64 a, .int .i64 4] (.bool true) := by
  have hl := h.le
  have c53 := s53 (k := k) h
  have f1 : evBin .geq (.int .i64 (a : Int)) (.int .i64 0) = some (.bool true) := geq_t (by omega)
  have f2 : evBin .rem (.int .i64 (a : Int)) (.int .i64 4) = some (.int .i64 0) := rem_w (by omega) (by omega) (by omega)
  have f3 : evBin .sub (.int .i64 (bs.length : Int)) (.int .i64 4) = some (.int .i64 ((bs.length : Int) - 4)) := sub_w rfl (by omega) (by omega)
  have f4 : evBin .leq (.int .i64 (a : Int)) (.int .i64 ((bs.length : Int) - 4)) = some (.bool true) := leq_t (by omega)
  refine q_call0 fn54 fun T H E lv => ?_
  repeat (first | refine stN ?_ | intro E)
  exact q_ret (.inr rfl) rfl rfl rfl rfl rfl rfl
set_option maxRecDepth 100000 in
theorem s74 {bs : List UInt8} {a : Nat} (h : VM bs) (ha : a % 4 = 0) (hb : a + 4 ≤ bs.length) : Calls0 (evCall FN (k + 2)) 74 [memV bs, .int .i64 a, .int .i64 4] (.bool true) := by
  have hl := h.le
  have c50 := s50 (k := k) h
  have f1 : evBin .geq (.int .i64 (a : Int)) (.int .i64 0) = some (.bool true) := geq_t (by omega)
  have f2 : evBin .rem (.int .i64 (a : Int)) (.int .i64 4) = some (.int .i64 0) := rem_w (by omega) (by omega) (by omega)
  have f3 : evBin .sub (.int .i64 (bs.length : Int)) (.int .i64 4) = some (.int .i64 ((bs.length : Int) - 4)) := sub_w rfl (by omega) (by omega)
  have f4 : evBin .leq (.int .i64 (a : Int)) (.int .i64 ((bs.length : Int) - 4)) = some (.bool true) := leq_t (by omega)
  refine q_call0 fn74 fun T H E lv => ?_
  repeat (first | refine stN ?_ | intro E)
  exact q_ret (.inr rfl) rfl rfl rfl rfl rfl rfl
set_option maxRecDepth 100000 in
theorem s22 {bs : List UInt8} {a : Nat} (h : VM bs) (hb : a < bs.length) : Calls0 (evCall FN (k + 1)) 22 [memV bs, .int .i64 a] (.int .u8 (bt bs a)) := by
  have hl := h.le
  have f1 : evBin .quo (.int .i64 (a : Int)) (.int .i64 128) = some (.int .i64 ((a / 128 : Nat) : Int)) := quo_w (by omega) (by omega) (by omega) (by omega)
  have f2 : evBin .rem (.int .i64 (a : Int)) (.int .i64 128) = some (.int .i64 ((a % 128 : Nat) : Int)) := rem_w (by omega) (by omega) (by omega)
  have f3 : inB ((a / 128 : Nat) : Int) ((bs.map ofB).length / 128) = some (a / 128) := inB_nat (by rw [List.length_map]; omega)
  have f4 : inB ((a % 128 : Nat) : Int) 128 = some (a % 128) := inB_nat (by omega)
  have f5 : rd (bs.map ofB) (a / 128 * 128 + a % 128 * 1) 1 false = some (.int .u8 (bt bs a)) := by
    rw [show a / 128 * 128 + a % 128 * 1 = a by omega]
    simp only [rd, ofB_bt hb, Bool.false_eq_true, if_false]; rfl
  refine q_call0 fn22 fun T H E lv => ?_
  repeat (first | refine stN ?_ | intro E)
  exact q_ret (.inr rfl) rfl rfl rfl rfl rfl rfl
set_option maxRecDepth 100000 in
theorem s28 {bs : List UInt8} {a : Nat} (h : VM bs) (ha : a % 4 = 0) (hb : a + 4 ≤ bs.length) : Calls0 (evCall FN (k + 3)) 28 [memV bs, .int .i64 a, .int .i64 4] (.tup [.int .u32 (word bs a), .bool true]) := by
  have hl := h.le
  have c54 := s54 (k := k) h ha hb
  have f1 : evBin .quo (.int .i64 (a : Int)) (.int .i64 128) = some (.int .i64 ((a / 128 : Nat) : Int)) := quo_w (by omega) (by omega) (by omega) (by omega)
  have f2 : evBin .rem (.int .i64 (a : Int)) (.int .i64 128) = some (.int .i64 ((a % 128 : Nat) : Int)) := rem_w (by omega) (by omega) (by omega)
  have f3 : inB ((a / 128 : Nat) : Int) ((bs.map ofB).length / 128) = some (a / 128) := inB_nat (by rw [List.length_map]; omega)
  have f4 : asB ((a % 128 : Nat) : Int) 128 = some (a % 128) := asB_nat (by omega)
  have f5 : a % 128 ≠ 128 := by omega
  have f6 : a / 128 * 128 + 128 * 1 ≤ (bs.map ofB).length := by rw [List.length_map]; omega
  have hY : (((bs.map ofB).take (a / 128 * 128 + 128 * 1)).drop (a / 128 * 128 + a % 128 * 1)).length = 128 - a % 128 := by
    rw [List.length_drop, List.length_take, List.length_map]; omega
  have g0 : inB 0 ((((bs.map ofB).take (a / 128 * 128 + 128 * 1)).drop (a / 128 * 128 + a % 128 * 1)).length / 1) = some 0 := inB_nat (j := 0) (by rw [hY]; omega)
  have g1 : inB 1 ((((bs.map ofB).take (a / 128 * 128 + 128 * 1)).drop (a / 128 * 128 + a % 128 * 1)).length / 1) = some 1 := inB_nat (j := 1) (by rw [hY]; omega)
  have g2 : inB 2 ((((bs.map ofB).take (a / 128 * 128 + 128 * 1)).drop (a / 128 * 128 + a % 128 * 1)).length / 1) = some 2 := inB_nat (j := 2) (by rw [hY]; omega)
  have g3 : inB 3 ((((bs.map ofB).take (a / 128 * 128 + 128 * 1)).drop (a / 128 * 128 + a % 128 * 1)).length / 1) = some 3 := inB_nat (j := 3) (by rw [hY]; omega)
  have hr : ∀ j, j < 4 → rd (((bs.map ofB).take (a / 128 * 128 + 128 * 1)).drop (a / 128 * 128 + a % 128 * 1)) j 1 false = some (.int .u8 (bt bs (a + j))) := by
    intro j hj
    simp only [rd, Bool.false_eq_true, if_false]
    rw [List.getElem?_drop, List.getElem?_take_of_lt (by omega), show a / 128 * 128 + a % 128 * 1 + j = a + j by omega, ofB_bt (by omega)]
    rfl
  have r0 := hr (0 * 1) (by omega)
  have r1 := hr (1 * 1) (by omega)
  have r2 := hr (2 * 1) (by omega)
  have r3 := hr (3 * 1) (by omega)
  clear hr
  have b0 := bt_lt bs (a + 0 * 1); have b1 := bt_lt bs (a + 1 * 1); have b2 := bt_lt bs (a + 2 * 1); have b3 := bt_lt bs (a + 3 * 1)
  have w0 : IntKind.u32.wrap ((bt bs (a + 0 * 1) : Nat) : Int) = (bt bs (a + 0 * 1) : Nat) := w32 (by omega) (by omega)
  have w1 : IntKind.u32.wrap ((bt bs (a + 1 * 1) : Nat) : Int) = (bt bs (a + 1 * 1) : Nat) := w32 (by omega) (by omega)
  have w2 : IntKind.u32.wrap ((bt bs (a + 2 * 1) : Nat) : Int) = (bt bs (a + 2 * 1) : Nat) := w32 (by omega) (by omega)
  have w3 : IntKind.u32.wrap ((bt bs (a + 3 * 1) : Nat) : Int) = (bt bs (a + 3 * 1) : Nat) := w32 (by omega) (by omega)
  have h1 : evBin .shl (.int .u32 (bt bs (a + 1 * 1) : Nat)) (.int .u64 8) = some (.int .u32 ((bt bs (a + 1 * 1) * 2 ^ 8 : Nat) : Int)) := shl_u32 (s := 8) (by omega) (by omega) rfl
  have h2 : evBin .shl (.int .u32 (bt bs (a + 2 * 1) : Nat)) (.int .u64 16) = some (.int .u32 ((bt bs (a + 2 * 1) * 2 ^ 16 : Nat) : Int)) := shl_u32 (s := 16) (by omega) (by omega) rfl
  have h3 : evBin .shl (.int .u32 (bt bs (a + 3 * 1) : Nat)) (.int .u64 24) = some (.int .u32 ((bt bs (a + 3 * 1) * 2 ^ 24 : Nat) : Int)) := shl_u32 (s := 24) (by omega) (by omega) rfl
  have o1 : evBin .or (.int .u32 (bt bs (a + 0 * 1) : Nat)) (.int .u32 ((bt bs (a + 1 * 1) * 2 ^ 8 : Nat) : Int)) = some (.int .u32 ((bt bs (a + 0 * 1) + bt bs (a + 1 * 1) * 2 ^ 8 : Nat) : Int)) := or_u32 (by omega) (by omega) rfl
  have o2 : evBin .or (.int .u32 ((bt bs (a + 0 * 1) + bt bs (a + 1 * 1) * 2 ^ 8 : Nat) : Int)) (.int .u32 ((bt bs (a + 2 * 1) * 2 ^ 16 : Nat) : Int)) = some (.int .u32 ((bt bs (a + 0 * 1) + bt bs (a + 1 * 1) * 2 ^ 8 + bt bs (a + 2 * 1) * 2 ^ 16 : Nat) : Int)) := or_u32 (by omega) (by omega) rfl
  have o3 : evBin .or (.int .u32 ((bt bs (a + 0 * 1) + bt bs (a + 1 * 1) * 2 ^ 8 + bt bs (a + 2 * 1) * 2 ^ 16 : Nat) : Int)) (.int .u32 ((bt bs (a + 3 * 1) * 2 ^ 24 : Nat) : Int)) = some (.int .u32 (word bs a)) := or_u32 (by omega) (by omega) rfl
  refine q_call0 fn28 fun T H E lv => ?_
  repeat (first | refine stN ?_ | intro E)
  exact q_ret (.inr rfl) rfl rfl rfl rfl rfl rfl
end Go.Proofs.Ytaeoaakblilfeaa

/- What a descriptor is read as. Condition: the memory is valid, the ring is there. -/
namespace Go.Proofs.Ytaeoaakblilfeaa
open Go.Abs
variable {k : Nat}
structure RV (bs : List UInt8) (b s : Nat) : Prop where
  m : VM bs
  hs : s = 1 ∨ s = 2 ∨ s = 4 ∨ s = 8
  hb : b % 16 = 0
  le : b + 16 * s ≤ bs.length
set_option maxRecDepth 100000 in
theorem s95 {b s i j : Nat} (hb : b < 8192) (hi : i < 256) (hj : j < 4) : Calls0 (evCall FN (k + 1)) 95 [ringV b s, .int .i64 i, .int .i64 j] (.int .i64 ((b + 16 * i + 4 * j : Nat) : Int)) := by
  have f0 : IntKind.i64.wrap (b : Int) = b := w64 (by omega) (by omega)
  have f1 : evBin .mul (.int .i64 16) (.int .i64 (i : Int)) = some (.int .i64 ((16 * i : Nat) : Int)) := mul_w (by omega) (by omega) (by omega)
  have f2 : evBin .add (.int .i64 (b : Int)) (.int .i64 ((16 * i : Nat) : Int)) = some (.int .i64 ((b + 16 * i : Nat) : Int)) := add_w (by omega) (by omega) (by omega)
  have f3 : evBin .mul (.int .i64 4) (.int .i64 (j : Int)) = some (.int .i64 ((4 * j : Nat) : Int)) := mul_w (by omega) (by omega) (by omega)
  have f4 : evBin .add (.int .i64 ((b + 16 * i : Nat) : Int)) (.int .i64 ((4 * j : Nat) : Int)) = some (.int .i64 ((b + 16 * i + 4 * j : Nat) : Int)) := add_w (by omega) (by omega) (by omega)
  refine q_call0 fn95 fun T H E lv => ?_
  repeat (first | refine stN ?_ | intro E)
  exact q_ret (.inr rfl) rfl rfl rfl rfl rfl rfl
def dw (bs : List UInt8) (b i j : Nat) : Nat := word bs (b + 16 * i + 4 * j)
theorem and1_u32 {f : Nat} (h : f < 4294967296) : evBin .and (.int .u32 f) (.int .u32 1) = some (.int .u32 ((f % 2 : Nat) : Int)) := by
  have h1 : (BitVec.ofInt IntKind.u32.bits (f : Int) &&& BitVec.ofInt IntKind.u32.bits 1).toNat = f % 2 := by
    show (BitVec.ofInt 32 (f : Int) &&& BitVec.ofInt 32 ((1 : Nat) : Int)).toNat = _
    rw [BitVec.toNat_and, ofInt_nat f h, ofInt_nat 1 (by omega), Nat.and_one_is_mod]
  simp only [evBin, reduceCtorEq, or_self, if_false, if_true, evInt, h1]
  rw [w32 (by omega) (by omega)]
def descV (bs : List UInt8) (b i : Nat) : AV := .agg [.int .i64 i, .int .i64 (dw bs b i 0), .int .i64 (dw bs b i 1), .bool (((dw bs b i 2 % 2 : Nat) : Int) != 0), .int .u32 (dw bs b i 2), .int .u32 (dw bs b i 3)]
set_option maxRecDepth 100000 in
theorem s81 {bs : List UInt8} {b s i : Nat} (h : RV bs b s) (hi : i < s) : Calls0 (evCall FN (k + 8)) 81 [memV bs, ringV b s, .int .i64 i] (descV bs b i) := by
  have hl := h.m.le
  have hs := h.hs
  have hle := h.le
  have hb16 := h.hb
  have p0 : Calls0 (evCall FN (k + 7)) 95 [ringV b s, .int .i64 i, .int .i64 ((0 : Nat) : Int)] (.int .i64 ((b + 16 * i + 4 * 0 : Nat) : Int)) := (s95 (k := 0) (by omega) (by omega) (by omega)).fuel (by omega)
  have p1 : Calls0 (evCall FN (k + 7)) 95 [ringV b s, .int .i64 i, .int .i64 ((1 : Nat) : Int)] (.int .i64 ((b + 16 * i + 4 * 1 : Nat) : Int)) := (s95 (k := 0) (by omega) (by omega) (by omega)).fuel (by omega)
  have p2 : Calls0 (evCall FN (k + 7)) 95 [ringV b s, .int .i64 i, .int .i64 ((2 : Nat) : Int)] (.int .i64 ((b + 16 * i + 4 * 2 : Nat) : Int)) := (s95 (k := 0) (by omega) (by omega) (by omega)).fuel (by omega)
  have p3 : Calls0 (evCall FN (k + 7)) 95 [ringV b s, .int .i64 i, .int .i64 ((3 : Nat) : Int)] (.int .i64 ((b + 16 * i + 4 * 3 : Nat) : Int)) := (s95 (k := 0) (by omega) (by omega) (by omega)).fuel (by omega)
  have l0 : Calls0 (evCall FN (k + 7)) 28 [memV bs, .int .i64 ((b + 16 * i + 4 * 0 : Nat) : Int), .int .i64 4] (.tup [.int .u32 (dw bs b i 0), .bool true]) := (s28 (k := 0) h.m (by omega) (by omega)).fuel (by omega)
  have l1 : Calls0 (evCall FN (k + 7)) 28 [memV bs, .int .i64 ((b + 16 * i + 4 * 1 : Nat) : Int), .int .i64 4] (.tup [.int .u32 (dw bs b i 1), .bool true]) := (s28 (k := 0) h.m (by omega) (by omega)).fuel (by omega)
  have l2 : Calls0 (evCall FN (k + 7)) 28 [memV bs, .int .i64 ((b + 16 * i + 4 * 2 : Nat) : Int), .int .i64 4] (.tup [.int .u32 (dw bs b i 2), .bool true]) := (s28 (k := 0) h.m (by omega) (by omega)).fuel (by omega)
  have l3 : Calls0 (evCall FN (k + 7)) 28 [memV bs, .int .i64 ((b + 16 * i + 4 * 3 : Nat) : Int), .int .i64 4] (.tup [.int .u32 (dw bs b i 3), .bool true]) := (s28 (k := 0) h.m (by omega) (by omega)).fuel (by omega)
  have q0 := word_lt bs (b + 16 * i + 4 * 0); have q1 := word_lt bs (b + 16 * i + 4 * 1); have q2 := word_lt bs (b + 16 * i + 4 * 2)
  have w0 : IntKind.i64.wrap ((dw bs b i 0 : Nat) : Int) = (dw bs b i 0 : Nat) := w64 (by omega) (by unfold dw; omega)
  have w1 : IntKind.i64.wrap ((dw bs b i 1 : Nat) : Int) = (dw bs b i 1 : Nat) := w64 (by omega) (by unfold dw; omega)
  have a1 : evBin .and (.int .u32 (dw bs b i 2 : Nat)) (.int .u32 1) = some (.int .u32 ((dw bs b i 2 % 2 : Nat) : Int)) := and1_u32 (by unfold dw; omega)
  refine q_call0 fn81 fun T H E lv => ?_
  repeat (first | refine stN ?_ | intro E)
  refine q_loop (α := Nat) (LInv.mk (fun j => j ≤ 4) (fun j => 4 - j) (fun j => [(9, .int .i64 (j : Int)), (3, .ref 0 0), (4, .ref 1 0), (2, .int .i64 i), (6, .ref 2 0), (7, .ref 3 0)])
    (fun j => [(0, [csl 128 (bs.map ofB)]), (1, [.int .u32 b, .int .u32 s]), (2, [.int .i64 0, .int .i64 0, .int .i64 0, .bool false, .int .u32 0, .int .u32 0]),
      (3, [.int .u32 (if 0 < j then (dw bs b i 0 : Int) else 0), .int .u32 (if 1 < j then (dw bs b i 1 : Int) else 0), .int .u32 (if 2 < j then (dw bs b i 2 : Int) else 0), .int .u32 (if 3 < j then (dw bs b i 3 : Int) else 0)])]))
    (fun _ _ c => c = 4) 0 (show 0 ≤ 4 by omega) rfl (show 4 - 0 < k + 7 by omega) ⟨rfl, rfl, rfl, rfl, rfl, rfl, trivial⟩ ⟨rfl, rfl, rfl, rfl, trivial⟩ ?_
  rintro j lv c T H E hP rfl hμ
  have hj : j = 0 ∨ j = 1 ∨ j = 2 ∨ j = 3 ∨ j = 4 := by have : j ≤ 4 := hP; omega
  clear hP hμ
  rcases hj with rfl | rfl | rfl | rfl | rfl
  · repeat (first | refine stN ?_ | intro E)
    exact n_again 1 (show 1 ≤ 4 by omega) rfl (show 4 - 1 < 4 - 0 by omega) ⟨rfl, rfl, rfl, rfl, rfl, rfl, trivial⟩ ⟨⟨rfl, rfl⟩, ⟨rfl, rfl⟩, ⟨rfl, rfl⟩, ⟨rfl, rfl⟩, trivial⟩
  · repeat (first | refine stN ?_ | intro E)
    exact n_again 2 (show 2 ≤ 4 by omega) rfl (show 4 - 2 < 4 - 1 by omega) ⟨rfl, rfl, rfl, rfl, rfl, rfl, trivial⟩ ⟨⟨rfl, rfl⟩, ⟨rfl, rfl⟩, ⟨rfl, rfl⟩, ⟨rfl, rfl⟩, trivial⟩
  · repeat (first | refine stN ?_ | intro E)
    exact n_again 3 (show 3 ≤ 4 by omega) rfl (show 4 - 3 < 4 - 2 by omega) ⟨rfl, rfl, rfl, rfl, rfl, rfl, trivial⟩ ⟨⟨rfl, rfl⟩, ⟨rfl, rfl⟩, ⟨rfl, rfl⟩, ⟨rfl, rfl⟩, trivial⟩
  · repeat (first | refine stN ?_ | intro E)
    exact n_again 4 (show 4 ≤ 4 by omega) rfl (show 4 - 4 < 4 - 3 by omega) ⟨rfl, rfl, rfl, rfl, rfl, rfl, trivial⟩ ⟨⟨rfl, rfl⟩, ⟨rfl, rfl⟩, ⟨rfl, rfl⟩, ⟨rfl, rfl⟩, trivial⟩
  · repeat (first | refine stN ?_ | intro E)
    apply n_exit
    apply b_exit
    simp only [Nat.reduceLT, if_true]
    repeat (first | refine stN ?_ | intro E)
    exact q_ret (.inr rfl) rfl rfl rfl rfl rfl rfl
end Go.Proofs.Ytaeoaakblilfeaa

/- The reference's words. Condition: the memory is valid, the ring is there. -/
namespace Go.Proofs.Ytaeoaakblilfeaa
open Go.Abs
variable {k : Nat}
theorem or_u32' {x y s : Nat} {r : Int} (hx : x < 2 ^ s) (h : x + y * 2 ^ s < 4294967296) (hr : r = ((y * 2 ^ s + x : Nat) : Int)) : evBin .or (.int .u32 ((y * 2 ^ s : Nat) : Int)) (.int .u32 x) = some (.int .u32 r) := by
  subst hr
  have h1 : (BitVec.ofInt IntKind.u32.bits ((y * 2 ^ s : Nat) : Int) ||| BitVec.ofInt IntKind.u32.bits (x : Int)).toNat = y * 2 ^ s + x := by
    show (BitVec.ofInt 32 ((y * 2 ^ s : Nat) : Int) ||| BitVec.ofInt 32 (x : Int)).toNat = _
    rw [BitVec.toNat_or, ofInt_nat x (by omega), ofInt_nat (y * 2 ^ s) (by omega), Nat.mul_comm y, ← Nat.two_pow_add_eq_or_of_lt hx]
  simp only [evBin, reduceCtorEq, or_self, if_false, if_true, evInt, h1]
  rw [w32 (by omega) (by omega)]
def hiw (bs : List UInt8) (a : Nat) : Nat → Nat
  | 0 => 0
  | j + 1 => hiw bs a j * 2 ^ 8 + bt bs (a + (3 - j))
theorem hiw_lt (bs : List UInt8) (a : Nat) : hiw bs a 1 < 2 ^ 8 ∧ hiw bs a 2 < 2 ^ 16 ∧ hiw bs a 3 < 2 ^ 24 ∧ hiw bs a 4 = word bs a := by
  have h0 := bt_lt bs (a + (3 - 0)); have h1 := bt_lt bs (a + (3 - 1)); have h2 := bt_lt bs (a + (3 - 2)); have h3 := bt_lt bs (a + (3 - 3))
  simp only [hiw, word]
  refine ⟨by omega, by omega, by omega, ?_⟩
  simp only [Nat.sub_zero, Nat.reduceSub, Nat.add_zero]
  omega
set_option maxRecDepth 100000 in
theorem s51 {bs : List UInt8} {a : Nat} (h : VM bs) (ha : a % 4 = 0) (hb : a + 4 ≤ bs.length) : Calls0 (evCall FN (k + 8)) 51 [memV bs, .int .i64 a, .int .i64 4] (.agg [.int .u32 (word bs a), .bool true]) := by
  have hl := h.le
  have c74 : Calls0 (evCall FN (k + 7)) 74 [memV bs, .int .i64 a, .int .i64 4] (.bool true) := (s74 (k := 0) h ha hb).fuel (by omega)
  have e0 : Calls0 (evCall FN (k + 7)) 22 [memV bs, .int .i64 ((a + 3 : Nat) : Int)] (.int .u8 (bt bs (a + (3 - 0)))) := (s22 (k := 0) h (by omega)).fuel (by omega)
  have e1 : Calls0 (evCall FN (k + 7)) 22 [memV bs, .int .i64 ((a + 2 : Nat) : Int)] (.int .u8 (bt bs (a + (3 - 1)))) := (s22 (k := 0) h (by omega)).fuel (by omega)
  have e2 : Calls0 (evCall FN (k + 7)) 22 [memV bs, .int .i64 ((a + 1 : Nat) : Int)] (.int .u8 (bt bs (a + (3 - 2)))) := (s22 (k := 0) h (by omega)).fuel (by omega)
  have e3 : Calls0 (evCall FN (k + 7)) 22 [memV bs, .int .i64 ((a + 0 : Nat) : Int)] (.int .u8 (bt bs (a + (3 - 3)))) := (s22 (k := 0) h (by omega)).fuel (by omega)
  have g0 : evBin .add (.int .i64 (a : Int)) (.int .i64 3) = some (.int .i64 ((a + 3 : Nat) : Int)) := add_w (by omega) (by omega) (by omega)
  have g1 : evBin .add (.int .i64 (a : Int)) (.int .i64 2) = some (.int .i64 ((a + 2 : Nat) : Int)) := add_w (by omega) (by omega) (by omega)
  have g2 : evBin .add (.int .i64 (a : Int)) (.int .i64 1) = some (.int .i64 ((a + 1 : Nat) : Int)) := add_w (by omega) (by omega) (by omega)
  have g3 : evBin .add (.int .i64 (a : Int)) (.int .i64 0) = some (.int .i64 ((a + 0 : Nat) : Int)) := add_w (by omega) (by omega) (by omega)
  have m0 : evBin .sub (.int .i64 4) (.int .i64 1) = some (.int .i64 3) := sub_w rfl (by omega) (by omega)
  have m1 : evBin .sub (.int .i64 3) (.int .i64 1) = some (.int .i64 2) := sub_w rfl (by omega) (by omega)
  have m2 : evBin .sub (.int .i64 2) (.int .i64 1) = some (.int .i64 1) := sub_w rfl (by omega) (by omega)
  have m3 : evBin .sub (.int .i64 1) (.int .i64 1) = some (.int .i64 0) := sub_w rfl (by omega) (by omega)
  have m4 : evBin .sub (.int .i64 0) (.int .i64 1) = some (.int .i64 (-1)) := sub_w rfl (by omega) (by omega)
  have b0 := bt_lt bs (a + (3 - 0)); have b1 := bt_lt bs (a + (3 - 1)); have b2 := bt_lt bs (a + (3 - 2)); have b3 := bt_lt bs (a + (3 - 3))
  obtain ⟨x1, x2, x3, x4⟩ := hiw_lt bs a
  have w0 : IntKind.u32.wrap ((bt bs (a + (3 - 0)) : Nat) : Int) = (bt bs (a + (3 - 0)) : Nat) := w32 (by omega) (by omega)
  have w1 : IntKind.u32.wrap ((bt bs (a + (3 - 1)) : Nat) : Int) = (bt bs (a + (3 - 1)) : Nat) := w32 (by omega) (by omega)
  have w2 : IntKind.u32.wrap ((bt bs (a + (3 - 2)) : Nat) : Int) = (bt bs (a + (3 - 2)) : Nat) := w32 (by omega) (by omega)
  have w3 : IntKind.u32.wrap ((bt bs (a + (3 - 3)) : Nat) : Int) = (bt bs (a + (3 - 3)) : Nat) := w32 (by omega) (by omega)
  have l0 : evBin .shl (.int .u32 ((hiw bs a 0 : Nat) : Int)) (.int .u64 8) = some (.int .u32 ((hiw bs a 0 * 2 ^ 8 : Nat) : Int)) := shl_u32 (s := 8) (by omega) (by simp [hiw]) rfl
  have l1 : evBin .shl (.int .u32 ((hiw bs a 1 : Nat) : Int)) (.int .u64 8) = some (.int .u32 ((hiw bs a 1 * 2 ^ 8 : Nat) : Int)) := shl_u32 (s := 8) (by omega) (by omega) rfl
  have l2 : evBin .shl (.int .u32 ((hiw bs a 2 : Nat) : Int)) (.int .u64 8) = some (.int .u32 ((hiw bs a 2 * 2 ^ 8 : Nat) : Int)) := shl_u32 (s := 8) (by omega) (by omega) rfl
  have l3 : evBin .shl (.int .u32 ((hiw bs a 3 : Nat) : Int)) (.int .u64 8) = some (.int .u32 ((hiw bs a 3 * 2 ^ 8 : Nat) : Int)) := shl_u32 (s := 8) (by omega) (by omega) rfl
  have o0 : evBin .or (.int .u32 ((hiw bs a 0 * 2 ^ 8 : Nat) : Int)) (.int .u32 (bt bs (a + (3 - 0)) : Nat)) = some (.int .u32 ((hiw bs a 1 : Nat) : Int)) := or_u32' (by omega) (by have : hiw bs a 0 = 0 := rfl; rw [this]; omega) rfl
  have o1 : evBin .or (.int .u32 ((hiw bs a 1 * 2 ^ 8 : Nat) : Int)) (.int .u32 (bt bs (a + (3 - 1)) : Nat)) = some (.int .u32 ((hiw bs a 2 : Nat) : Int)) := or_u32' (by omega) (by omega) rfl
  have o2 : evBin .or (.int .u32 ((hiw bs a 2 * 2 ^ 8 : Nat) : Int)) (.int .u32 (bt bs (a + (3 - 2)) : Nat)) = some (.int .u32 ((hiw bs a 3 : Nat) : Int)) := or_u32' (by omega) (by omega) rfl
  have o3 : evBin .or (.int .u32 ((hiw bs a 3 * 2 ^ 8 : Nat) : Int)) (.int .u32 (bt bs (a + (3 - 3)) : Nat)) = some (.int .u32 ((hiw bs a 4 : Nat) : Int)) := or_u32' (by omega) (by omega) rfl
  refine q_call0 fn51 fun T H E lv => ?_
  repeat (first | refine stN ?_ | intro E)
  refine q_loop (α := Nat × Int) (LInv.mk (fun p => p.1 ≤ 4 ∧ p.2 = 3 - p.1) (fun p => 4 - p.1) (fun p => [(9, .int .i64 p.2), (3, .ref 0 0), (1, .int .i64 a), (2, .int .i64 4), (6, .ref 1 0), (8, .int .u32 ((hiw bs a p.1 : Nat) : Int))])
    (fun _ => [(0, [csl 128 (bs.map ofB)]), (1, [.int .u32 0, .bool false])]))
    (fun _ _ c => c = 4) (0, 3) (show 0 ≤ 4 ∧ (3 : Int) = 3 - (0 : Nat) by omega) rfl (show 4 - 0 < k + 7 by omega) ⟨rfl, rfl, rfl, rfl, rfl, rfl, trivial⟩ ⟨rfl, rfl, trivial⟩ ?_
  rintro ⟨j, i⟩ lv c T H E hP rfl hμ
  have hP : j ≤ 4 ∧ i = 3 - j := hP
  have hj : (j = 0 ∧ i = 3) ∨ (j = 1 ∧ i = 2) ∨ (j = 2 ∧ i = 1) ∨ (j = 3 ∧ i = 0) ∨ (j = 4 ∧ i = -1) := by omega
  clear hP hμ
  rcases hj with ⟨rfl, rfl⟩ | ⟨rfl, rfl⟩ | ⟨rfl, rfl⟩ | ⟨rfl, rfl⟩ | ⟨rfl, rfl⟩ <;> dsimp only
  · repeat (first | refine stN ?_ | intro E)
    exact n_again (1, 2) (show 1 ≤ 4 ∧ (2 : Int) = 3 - (1 : Nat) by omega) rfl (show 4 - 1 < 4 - 0 by omega) ⟨rfl, rfl, rfl, rfl, rfl, rfl, trivial⟩ ⟨⟨rfl, rfl⟩, ⟨rfl, rfl⟩, trivial⟩
  · repeat (first | refine stN ?_ | intro E)
    exact n_again (2, 1) (show 2 ≤ 4 ∧ (1 : Int) = 3 - (2 : Nat) by omega) rfl (show 4 - 2 < 4 - 1 by omega) ⟨rfl, rfl, rfl, rfl, rfl, rfl, trivial⟩ ⟨⟨rfl, rfl⟩, ⟨rfl, rfl⟩, trivial⟩
  · repeat (first | refine stN ?_ | intro E)
    exact n_again (3, 0) (show 3 ≤ 4 ∧ (0 : Int) = 3 - (3 : Nat) by omega) rfl (show 4 - 3 < 4 - 2 by omega) ⟨rfl, rfl, rfl, rfl, rfl, rfl, trivial⟩ ⟨⟨rfl, rfl⟩, ⟨rfl, rfl⟩, trivial⟩
  · repeat (first | refine stN ?_ | intro E)
    exact n_again (4, -1) (show 4 ≤ 4 ∧ (-1 : Int) = 3 - (4 : Nat) by omega) rfl (show 4 - 4 < 4 - 3 by omega) ⟨rfl, rfl, rfl, rfl, rfl, rfl, trivial⟩ ⟨⟨rfl, rfl⟩, ⟨rfl, rfl⟩, trivial⟩
  · repeat (first | refine stN ?_ | intro E)
    apply n_exit
    apply b_exit
    repeat (first | refine stN ?_ | intro E)
    rw [x4]
    exact q_ret (.inr rfl) rfl rfl rfl rfl rfl rfl
set_option maxRecDepth 100000 in
theorem s70 {bs : List UInt8} {b s i j : Nat} (h : RV bs b s) (hi : i < s) (hj : j < 4) : Calls0 (evCall FN (k + 9)) 70 [memV bs, ringV b s, .int .i64 i, .int .i64 j] (.int .i64 (dw bs b i j)) := by
  have hl := h.m.le
  have hs := h.hs
  have hle := h.le
  have hb16 := h.hb
  have c51 : Calls0 (evCall FN (k + 8)) 51 [memV bs, .int .i64 ((b + 16 * i + 4 * j : Nat) : Int), .int .i64 4] (.agg [.int .u32 (dw bs b i j), .bool true]) := s51 h.m (by omega) (by omega)
  have f0 : IntKind.i64.wrap (b : Int) = b := w64 (by omega) (by omega)
  have f1 : evBin .mul (.int .i64 16) (.int .i64 (i : Int)) = some (.int .i64 ((16 * i : Nat) : Int)) := mul_w (by omega) (by omega) (by omega)
  have f2 : evBin .add (.int .i64 (b : Int)) (.int .i64 ((16 * i : Nat) : Int)) = some (.int .i64 ((b + 16 * i : Nat) : Int)) := add_w (by omega) (by omega) (by omega)
  have f3 : evBin .mul (.int .i64 4) (.int .i64 (j : Int)) = some (.int .i64 ((4 * j : Nat) : Int)) := mul_w (by omega) (by omega) (by omega)
  have f4 : evBin .add (.int .i64 ((b + 16 * i : Nat) : Int)) (.int .i64 ((4 * j : Nat) : Int)) = some (.int .i64 ((b + 16 * i + 4 * j : Nat) : Int)) := add_w (by omega) (by omega) (by omega)
  have hw := word_lt bs (b + 16 * i + 4 * j)
  have f5 : IntKind.i64.wrap ((dw bs b i j : Nat) : Int) = (dw bs b i j : Nat) := w64 (by omega) (by unfold dw; omega)
  refine q_call0 fn70 fun T H E lv => ?_
  repeat (first | refine stN ?_ | intro E)
  exact q_ret (.inr rfl) rfl rfl rfl rfl rfl rfl
end Go.Proofs.Ytaeoaakblilfeaa

/- Bytes are put into pages that are written in place: the method 'put', at the two places from which it is called. Condition: the bytes fit. -/
namespace Go.Proofs.Ytaeoaakblilfeaa
open Go.Abs
variable {k : Nat}
def putB (bs : List UInt8) (a : Nat) (ys : List UInt8) : List UInt8 := bs.take a ++ ys ++ bs.drop (a + ys.length)
theorem putB_length {bs ys : List UInt8} {a : Nat} (h : a + ys.length ≤ bs.length) : (putB bs a ys).length = bs.length := by
  simp only [putB, List.length_append, List.length_take, List.length_drop]; omega
theorem putB_nil (bs : List UInt8) (a : Nat) : putB bs a [] = bs := by simp [putB]
theorem putB_put {bs : List UInt8} {a m : Nat} {ys : List UInt8} (h : a + ys.length ≤ bs.length) (hm : m ≤ ys.length) : putB (putB bs a (ys.take m)) (a + m) (ys.drop m) = putB bs a ys := by
  have hl : (ys.take m).length = m := by rw [List.length_take]; omega
  have h1 : (bs.take a).length = a := by rw [List.length_take]; omega
  simp only [putB, hl]
  have e1 : (bs.take a ++ ys.take m ++ bs.drop (a + m)).take (a + m) = bs.take a ++ ys.take m := by
    rw [List.take_append_of_le_length (by rw [List.length_append, h1, hl]; omega), List.take_of_length_le (by rw [List.length_append, h1, hl]; omega)]
  have e2 : (bs.take a ++ ys.take m ++ bs.drop (a + m)).drop (a + m + (ys.drop m).length) = bs.drop (a + ys.length) := by
    rw [List.drop_append, List.length_append, h1, hl, List.drop_eq_nil_of_le (by rw [List.length_append, h1, hl]; omega), List.nil_append, List.drop_drop, List.length_drop]
    congr 1; omega
  rw [e1, e2]
  simp only [List.append_assoc]
  rw [← List.append_assoc (ys.take m), List.take_append_drop]
theorem splice_ofB (bs ys : List UInt8) (a : Nat) : splice (bs.map ofB) a (ys.map ofB) = (putB bs a ys).map ofB := by
  simp [splice, putB, List.map_take, List.map_drop]
def GB (br s0 : Nat) (ys : List UInt8) : Prop := (br = 1 ∧ s0 = csz 1 (ys.map ofB)) ∨ (br = 3 ∧ s0 = 1) ∨ (br = 4 ∧ s0 = 1)
theorem GB.len {br s0 : Nat} {ys : List UInt8} (h : GB br s0 ys) : s0 = 1 ∨ ys.map ofB = [] := by
  rcases h with ⟨_, rfl⟩ | ⟨_, rfl⟩ | ⟨_, rfl⟩
  · exact csz_ok _ _
  · exact .inl rfl
  · exact .inl rfl
set_option maxRecDepth 100000 in
theorem s97_4 {bs ys : List UInt8} {a br s0 L c : Nat} {os : List (Nat × List AV)} {H : Hp} {E : Nat → Option TypeId} {lv : Nat → Bool} (hle : a + ys.length ≤ bs.length) (hL : bs.length = 128 * L) (hmax : bs.length ≤ 8192) (hbr : GB br s0 ys) (ho : lkO os 2 = some (bs.map ofB)) :
    Writes (evCall FN (k + 10000)) 97 [.agg [.osl 2 0 L 128], .int .i64 a, .sl br s0 (ys.map ofB)] os H 4 lv c E (.tup []) 2 ((putB bs a ys).map ofB) := by
  refine q_writes (by omega) (under_ofB _ _) fn97 fun T => ?_
  repeat (first | refine stN ?_ | intro E)
  refine q_loopR (α := Nat × List UInt8 × List UInt8 × Nat × Nat)
    (LInv.mk (fun p => p.1 + p.2.1.length ≤ bs.length ∧ p.2.2.1.length = bs.length ∧ GB p.2.2.2.1 p.2.2.2.2 p.2.1 ∧ putB p.2.2.1 p.1 p.2.1 = putB bs a ys) (fun p => p.2.1.length)
      (fun p => [(1, .int .i64 (p.1 : Int)), (2, .sl p.2.2.2.1 p.2.2.2.2 (p.2.1.map ofB)), (3, .ref 4 0)]) (fun p => [(4, [.osl 2 0 L 128]), (2, p.2.2.1.map ofB)]))
    (Same 4 2 (objs os H)) (a, ys, bs, br, s0) ⟨hle, rfl, hbr, rfl⟩ ((Same.refl _ _ _).upd (.inr (Nat.le_refl _))) (show ys.length < k + 9999 by omega) ⟨rfl, rfl, rfl, trivial⟩ ⟨rfl, ho, trivial⟩ ?_
  rintro ⟨a', ys', bs', br', s0'⟩ T H' E' hP hR hμ
  obtain ⟨p1, p2, p3, p4⟩ : a' + ys'.length ≤ bs.length ∧ bs'.length = bs.length ∧ GB br' s0' ys' ∧ putB bs' a' ys' = putB bs a ys := hP
  have hlen := p3.len
  dsimp only at hR hμ ⊢
  by_cases hy : ys' = []
  · subst hy
    have f1 : evBin .gtr (.int .i64 ((((List.map ofB []).length / 1 : Nat) : Int))) (.int .i64 0) = some (.bool false) := gtr_f (by simp)
    repeat (first | refine stN ?_ | intro E)
    apply r_exit'
    apply b_exit
    refine q_rets (.inl rfl) rfl rfl rfl rfl rfl ⟨rfl, _, rfl, ?_, ?_⟩
    · rw [← p4, putB_nil]; exact lkO_objs rfl
    · exact hR
  · have hpos : 0 < ys'.length := List.length_pos_iff.2 hy
    have f1 : evBin .gtr (.int .i64 (((ys'.map ofB).length / 1 : Nat) : Int)) (.int .i64 0) = some (.bool true) := gtr_t (by rw [List.length_map]; omega)
    have f2 : evBin .quo (.int .i64 (a' : Int)) (.int .i64 128) = some (.int .i64 ((a' / 128 : Nat) : Int)) := quo_w (by omega) (by omega) (by omega) (by omega)
    have f3 : evBin .rem (.int .i64 (a' : Int)) (.int .i64 128) = some (.int .i64 ((a' % 128 : Nat) : Int)) := rem_w (by omega) (by omega) (by omega)
    have f4 : inB ((a' / 128 : Nat) : Int) L = some (a' / 128) := inB_nat (by omega)
    have f5 : asB ((a' % 128 : Nat) : Int) 128 = some (a' % 128) := asB_nat (by omega)
    have f6 : a' % 128 ≠ 128 := by omega
    obtain ⟨m, hm⟩ : ∃ m, m = min ((ys'.map ofB).length / 1) (128 - a' % 128) := ⟨_, rfl⟩
    have hm1 : 1 ≤ m ∧ m ≤ ys'.length := by rw [hm, List.length_map]; omega
    have f7 : evBin .add (.int .i64 (a' : Int)) (.int .i64 (m : Int)) = some (.int .i64 ((a' + m : Nat) : Int)) := add_w (by omega) (by omega) (by omega)
    have f8 : asB (m : Int) ((ys'.map ofB).length / 1) = some m := asB_nat (by rw [List.length_map]; omega)
    have hcell : splice (bs'.map ofB) (0 + a' / 128 * 128 + a' % 128 * 1) ((ys'.map ofB).take (m * 1)) = (putB bs' a' (ys'.take m)).map ofB := by
      rw [show 0 + a' / 128 * 128 + a' % 128 * 1 = a' by omega, Nat.mul_one, ← List.map_take, splice_ofB]
    have hdrop : ((ys'.map ofB).take ((ys'.map ofB).length / 1 * 1)).drop (m * 1) = (ys'.drop m).map ofB := by
      rw [Nat.div_one, Nat.mul_one, Nat.mul_one, List.take_length, List.map_drop]
    have q1 : a' + m + (ys'.drop m).length ≤ bs.length := by rw [List.length_drop]; omega
    have q2 : (putB bs' a' (ys'.take m)).length = bs.length := by rw [putB_length (by rw [List.length_take]; omega), p2]
    have q3 : putB (putB bs' a' (ys'.take m)) (a' + m) (ys'.drop m) = putB bs a ys := by rw [putB_put (by omega) hm1.2, p4]
    have q4 : (ys'.drop m).length < ys'.length := by rw [List.length_drop]; omega
    repeat (first | refine stN ?_ | intro E)
    refine p_cpy rfl rfl (fun H => if_pos hlen) rfl (by omega) (by rw [List.length_map]; omega) ?_
    rw [← hm, hcell]
    repeat (first | refine stN ?_ | intro E)
    rcases p3 with ⟨rfl, rfl⟩ | ⟨rfl, rfl⟩ | ⟨rfl, rfl⟩
    · refine p_slL_rest rfl ((csz_ok _ _).imp id fun h => ⟨h, by omega⟩) rfl f8 (.inl rfl) ?_
      rw [hdrop]
      repeat (first | refine stN ?_ | intro E)
      exact r_again (a' + m, ys'.drop m, putB bs' a' (ys'.take m), 1, csz 1 ((ys'.drop m).map ofB)) ⟨q1, q2, .inl ⟨rfl, rfl⟩, q3⟩ (((hR.upd (.inl rfl)).keep (by omega))) q4 ⟨rfl, rfl, rfl, trivial⟩ ⟨⟨rfl, rfl⟩, ⟨rfl, under_ofB _ _⟩, trivial⟩
    · refine p_slL3_lo rfl rfl f8 ?_
      rw [hdrop]
      repeat (first | refine stN ?_ | intro E)
      exact r_again (a' + m, ys'.drop m, putB bs' a' (ys'.take m), 3, 1) ⟨q1, q2, .inr (.inl ⟨rfl, rfl⟩), q3⟩ (((hR.upd (.inl rfl)).keep (by omega))) q4 ⟨rfl, rfl, rfl, trivial⟩ ⟨⟨rfl, rfl⟩, ⟨rfl, under_ofB _ _⟩, trivial⟩
    · refine p_slL_rest rfl (.inl rfl) rfl f8 (.inr ⟨by omega, by omega, by omega⟩) ?_
      rw [hdrop]
      repeat (first | refine stN ?_ | intro E)
      exact r_again (a' + m, ys'.drop m, putB bs' a' (ys'.take m), 1, csz 1 ((ys'.drop m).map ofB)) ⟨q1, q2, .inl ⟨rfl, rfl⟩, q3⟩ (((hR.upd (.inl rfl)).keep (by omega))) q4 ⟨rfl, rfl, rfl, trivial⟩ ⟨⟨rfl, rfl⟩, ⟨rfl, under_ofB _ _⟩, trivial⟩
set_option maxRecDepth 100000 in
theorem s97_7 {bs ys : List UInt8} {a br s0 L c : Nat} {os : List (Nat × List AV)} {H : Hp} {E : Nat → Option TypeId} {lv : Nat → Bool} (hle : a + ys.length ≤ bs.length) (hL : bs.length = 128 * L) (hmax : bs.length ≤ 8192) (hbr : GB br s0 ys) (ho : lkO os 2 = some (bs.map ofB)) :
    Writes (evCall FN (k + 10000)) 97 [.agg [.osl 2 0 L 128], .int .i64 a, .sl br s0 (ys.map ofB)] os H 7 lv c E (.tup []) 2 ((putB bs a ys).map ofB) := by
  refine q_writes (by omega) (under_ofB _ _) fn97 fun T => ?_
  repeat (first | refine stN ?_ | intro E)
  refine q_loopR (α := Nat × List UInt8 × List UInt8 × Nat × Nat)
    (LInv.mk (fun p => p.1 + p.2.1.length ≤ bs.length ∧ p.2.2.1.length = bs.length ∧ GB p.2.2.2.1 p.2.2.2.2 p.2.1 ∧ putB p.2.2.1 p.1 p.2.1 = putB bs a ys) (fun p => p.2.1.length)
      (fun p => [(1, .int .i64 (p.1 : Int)), (2, .sl p.2.2.2.1 p.2.2.2.2 (p.2.1.map ofB)), (3, .ref 7 0)]) (fun p => [(7, [.osl 2 0 L 128]), (2, p.2.2.1.map ofB)]))
    (Same 7 2 (objs os H)) (a, ys, bs, br, s0) ⟨hle, rfl, hbr, rfl⟩ ((Same.refl _ _ _).upd (.inr (Nat.le_refl _))) (show ys.length < k + 9999 by omega) ⟨rfl, rfl, rfl, trivial⟩ ⟨rfl, ho, trivial⟩ ?_
  rintro ⟨a', ys', bs', br', s0'⟩ T H' E' hP hR hμ
  obtain ⟨p1, p2, p3, p4⟩ : a' + ys'.length ≤ bs.length ∧ bs'.length = bs.length ∧ GB br' s0' ys' ∧ putB bs' a' ys' = putB bs a ys := hP
  have hlen := p3.len
  dsimp only at hR hμ ⊢
  by_cases hy : ys' = []
  · subst hy
    have f1 : evBin .gtr (.int .i64 ((((List.map ofB []).length / 1 : Nat) : Int))) (.int .i64 0) = some (.bool false) := gtr_f (by simp)
    repeat (first | refine stN ?_ | intro E)
    apply r_exit'
    apply b_exit
    refine q_rets (.inl rfl) rfl rfl rfl rfl rfl ⟨rfl, _, rfl, ?_, ?_⟩
    · rw [← p4, putB_nil]; exact lkO_objs rfl
    · exact hR
  · have hpos : 0 < ys'.length := List.length_pos_iff.2 hy
    have f1 : evBin .gtr (.int .i64 (((ys'.map ofB).length / 1 : Nat) : Int)) (.int .i64 0) = some (.bool true) := gtr_t (by rw [List.length_map]; omega)
    have f2 : evBin .quo (.int .i64 (a' : Int)) (.int .i64 128) = some (.int .i64 ((a' / 128 : Nat) : Int)) := quo_w (by omega) (by omega) (by omega) (by omega)
    have f3 : evBin .rem (.int .i64 (a' : Int)) (.int .i64 128) = some (.int .i64 ((a' % 128 : Nat) : Int)) := rem_w (by omega) (by omega) (by omega)
    have f4 : inB ((a' / 128 : Nat) : Int) L = some (a' / 128) := inB_nat (by omega)
    have f5 : asB ((a' % 128 : Nat) : Int) 128 = some (a' % 128) := asB_nat (by omega)
    have f6 : a' % 128 ≠ 128 := by omega
    obtain ⟨m, hm⟩ : ∃ m, m = min ((ys'.map ofB).length / 1) (128 - a' % 128) := ⟨_, rfl⟩
    have hm1 : 1 ≤ m ∧ m ≤ ys'.length := by rw [hm, List.length_map]; omega
    have f7 : evBin .add (.int .i64 (a' : Int)) (.int .i64 (m : Int)) = some (.int .i64 ((a' + m : Nat) : Int)) := add_w (by omega) (by omega) (by omega)
    have f8 : asB (m : Int) ((ys'.map ofB).length / 1) = some m := asB_nat (by rw [List.length_map]; omega)
    have hcell : splice (bs'.map ofB) (0 + a' / 128 * 128 + a' % 128 * 1) ((ys'.map ofB).take (m * 1)) = (putB bs' a' (ys'.take m)).map ofB := by
      rw [show 0 + a' / 128 * 128 + a' % 128 * 1 = a' by omega, Nat.mul_one, ← List.map_take, splice_ofB]
    have hdrop : ((ys'.map ofB).take ((ys'.map ofB).length / 1 * 1)).drop (m * 1) = (ys'.drop m).map ofB := by
      rw [Nat.div_one, Nat.mul_one, Nat.mul_one, List.take_length, List.map_drop]
    have q1 : a' + m + (ys'.drop m).length ≤ bs.length := by rw [List.length_drop]; omega
    have q2 : (putB bs' a' (ys'.take m)).length = bs.length := by rw [putB_length (by rw [List.length_take]; omega), p2]
    have q3 : putB (putB bs' a' (ys'.take m)) (a' + m) (ys'.drop m) = putB bs a ys := by rw [putB_put (by omega) hm1.2, p4]
    have q4 : (ys'.drop m).length < ys'.length := by rw [List.length_drop]; omega
    repeat (first | refine stN ?_ | intro E)
    refine p_cpy rfl rfl (fun H => if_pos hlen) rfl (by omega) (by rw [List.length_map]; omega) ?_
    rw [← hm, hcell]
    repeat (first | refine stN ?_ | intro E)
    rcases p3 with ⟨rfl, rfl⟩ | ⟨rfl, rfl⟩ | ⟨rfl, rfl⟩
    · refine p_slL_rest rfl ((csz_ok _ _).imp id fun h => ⟨h, by omega⟩) rfl f8 (.inl rfl) ?_
      rw [hdrop]
      repeat (first | refine stN ?_ | intro E)
      exact r_again (a' + m, ys'.drop m, putB bs' a' (ys'.take m), 1, csz 1 ((ys'.drop m).map ofB)) ⟨q1, q2, .inl ⟨rfl, rfl⟩, q3⟩ (((hR.upd (.inl rfl)).keep (by omega))) q4 ⟨rfl, rfl, rfl, trivial⟩ ⟨⟨rfl, rfl⟩, ⟨rfl, under_ofB _ _⟩, trivial⟩
    · refine p_slL3_lo rfl rfl f8 ?_
      rw [hdrop]
      repeat (first | refine stN ?_ | intro E)
      exact r_again (a' + m, ys'.drop m, putB bs' a' (ys'.take m), 3, 1) ⟨q1, q2, .inr (.inl ⟨rfl, rfl⟩), q3⟩ (((hR.upd (.inl rfl)).keep (by omega))) q4 ⟨rfl, rfl, rfl, trivial⟩ ⟨⟨rfl, rfl⟩, ⟨rfl, under_ofB _ _⟩, trivial⟩
    · refine p_slL_rest rfl (.inl rfl) rfl f8 (.inr ⟨by omega, by omega, by omega⟩) ?_
      rw [hdrop]
      repeat (first | refine stN ?_ | intro E)
      exact r_again (a' + m, ys'.drop m, putB bs' a' (ys'.take m), 1, csz 1 ((ys'.drop m).map ofB)) ⟨q1, q2, .inl ⟨rfl, rfl⟩, q3⟩ (((hR.upd (.inl rfl)).keep (by omega))) q4 ⟨rfl, rfl, rfl, trivial⟩ ⟨⟨rfl, rfl⟩, ⟨rfl, under_ofB _ _⟩, trivial⟩
end Go.Proofs.Ytaeoaakblilfeaa

/- A word is stored into a memory that is being changed. Condition: the place is there. -/
namespace Go.Proofs.Ytaeoaakblilfeaa
open Go.Abs
variable {k : Nat}
def le4 (w : Nat) : List UInt8 := [UInt8.ofNat (w % 256), UInt8.ofNat (w / 2 ^ 8 % 256), UInt8.ofNat (w / 2 ^ 16 % 256), UInt8.ofNat (w / 2 ^ 24 % 256)]
theorem ofB_le (n : Nat) (h : n < 256) : ofB (UInt8.ofNat n) = .int .u8 n := by
  simp only [ofB, AV.int.injEq, true_and]
  rw [UInt8.toNat_ofNat']; congr 1; omega
theorem le4_map (w : Nat) : (le4 w).map ofB = [.int .u8 ((w % 256 : Nat) : Int), .int .u8 ((w / 2 ^ 8 % 256 : Nat) : Int), .int .u8 ((w / 2 ^ 16 % 256 : Nat) : Int), .int .u8 ((w / 2 ^ 24 % 256 : Nat) : Int)] := by
  simp only [le4, List.map_cons, List.map_nil]
  rw [ofB_le _ (by omega), ofB_le _ (by omega), ofB_le _ (by omega), ofB_le _ (by omega)]
theorem flat_ofB (bs : List UInt8) : flatL (bs.map ofB) = true := by
  induction bs with
  | nil => rfl
  | cons b bs ih => simp only [List.map_cons, flatL, ih, Bool.and_true]; rfl
theorem canon_ofB (bs : List UInt8) : (bs.map ofB).map canonCell = bs.map ofB := by
  rw [List.map_map]; rfl
theorem snap_draft {os : List (Nat × List AV)} {id L : Nat} {bs : List UInt8} (ho : lkO os id = some (bs.map ofB)) (hL : bs.length = 128 * L) : Snap os (.agg [.osl id 0 L 128]) (memV bs) := by
  intro H
  have hn : L * 128 = (bs.map ofB).length := by rw [List.length_map]; omega
  refine ⟨?_, ?_⟩
  · simp only [leaves, AV.cells, List.all_cons, List.all_nil, Bool.and_true, snapOk, lkO_objs ho, List.drop_zero, hn, List.take_length, flat_ofB, Nat.zero_add, Nat.le_refl, decide_true]
  · simp only [mapLeaf, List.map_cons, List.map_nil, snapCell, lkO_objs ho, List.drop_zero, hn, List.take_length, canon_ofB]
    rfl
theorem le4_sl (w : Nat) : mkSl (if 4 = [AV.int IntKind.u8 ((w % 256 : Nat) : Int), AV.int IntKind.u8 ((w / 2 ^ 8 % 256 : Nat) : Int), AV.int IntKind.u8 ((w / 2 ^ 16 % 256 : Nat) : Int), AV.int IntKind.u8 ((w / 2 ^ 24 % 256 : Nat) : Int)].length / 1 then 3 else 1) 1 (List.drop (0 * 1) (List.take (4 * 1) [AV.int IntKind.u8 ((w % 256 : Nat) : Int), AV.int IntKind.u8 ((w / 2 ^ 8 % 256 : Nat) : Int), AV.int IntKind.u8 ((w / 2 ^ 16 % 256 : Nat) : Int), AV.int IntKind.u8 ((w / 2 ^ 24 % 256 : Nat) : Int)])) = .sl 3 1 ((le4 w).map ofB) := by
  rw [le4_map]; simp [mkSl]
set_option maxRecDepth 100000 in
theorem s98 {bs : List UInt8} {a w L c : Nat} {os : List (Nat × List AV)} {H : Hp} {E : Nat → Option TypeId} {lv : Nat → Bool} (hv : VM bs) (hL : bs.length = 128 * L) (ha : a % 4 = 0) (hb : a + 4 ≤ bs.length) (hw : w < 4294967296) (ho : lkO os 2 = some (bs.map ofB)) :
    Writes (evCall FN (k + 10001)) 98 [.agg [.osl 2 0 L 128], .agg [.int .i64 a, .int .i64 4, .int .u32 w]] os H 5 lv c E (.bool true) 2 ((putB bs a (le4 w)).map ofB) := by
  have hl := hv.le
  have c54 : evP (evCall FN (k + 10000)) 54 [memV bs, .int .i64 a, .int .i64 4] = some (.bool true) := evP_of ((s54 (k := 0) hv ha hb).fuel (by omega)) rfl
  have g1 : evBin .shr (.int .u32 (w : Int)) (.int .u64 8) = some (.int .u32 ((w / 2 ^ 8 : Nat) : Int)) := shr_l (by decide)
  have g2 : evBin .shr (.int .u32 (w : Int)) (.int .u64 16) = some (.int .u32 ((w / 2 ^ 16 : Nat) : Int)) := shr_l (by decide)
  have g3 : evBin .shr (.int .u32 (w : Int)) (.int .u64 24) = some (.int .u32 ((w / 2 ^ 24 : Nat) : Int)) := shr_l (by decide)
  refine q_writes (by omega) (under_ofB _ _) fn98 fun T => ?_
  repeat (first | refine stN ?_ | intro E)
  apply p_calln (ws := [memV bs, .int .i64 a, .int .i64 4])
  · exact rfl
  · exact ⟨snap_draft ho hL, fun _ => ⟨rfl, rfl⟩, fun _ => ⟨rfl, rfl⟩, trivial⟩
  · exact c54
  · rfl
  repeat (first | refine stN ?_ | intro E)
  rw [le4_sl]
  apply p_writesR
  · exact rfl
  · exact fun H E => s97_7 (k := k) (bs := bs) (L := L) (by simp only [le4, List.length_cons, List.length_nil]; omega) hL (by omega) (.inr (.inl ⟨rfl, rfl⟩)) ho
  intro H' h1 h2
  repeat (first | refine stN ?_ | intro E)
  refine q_rets (.inr rfl) rfl rfl rfl rfl rfl ⟨rfl, _, rfl, h1, ?_⟩
  exact Same.after (((Same.refl _ _ _).upd (.inr (by omega))).upd (.inr (by omega))) (by omega : 5 ≤ 7) h2
end Go.Proofs.Ytaeoaakblilfeaa

/- A word is stored into a copy of a memory, and the rest is as it was. Condition: the memory is valid, the place is there. -/
namespace Go.Proofs.Ytaeoaakblilfeaa
open Go.Abs
variable {k : Nat}
theorem scal_ofB (bs : List UInt8) : (bs.map ofB).all AV.scalar = true := by
  rw [List.all_map, List.all_eq_true]; intro x _; rfl
set_option maxRecDepth 100000 in
theorem s96 {bs : List UInt8} (h : VM bs) : evP (evCall FN (k + 1)) 96 [csl 128 (bs.map ofB)] = some (.sl 2 128 (bs.map ofB)) := by
  have hl := h.le
  have hfl := flat_ofB bs
  refine q_evP fn96 rfl fun T H E lv => ?_
  repeat (first | refine stN ?_ | intro E)
  apply p_eq (r := false)
  · exact rfl
  · exact rfl
  · cases bs with
    | nil => simp at hl
    | cons => rfl
  repeat (first | refine stN ?_ | intro E)
  apply p_app
  · exact rfl
  · exact .inl rfl
  · exact rfl
  · exact fun H => if_pos (csz_ok _ _)
  · exact ⟨by omega, by omega⟩
  · simp only [List.length_nil, List.length_map, room]; omega
  · exact .inr (.inl rfl)
  · intro e; rw [List.map_eq_nil_iff] at e; subst e; simp at hl
  intro lv' h1 h2
  repeat (first | refine stN ?_ | intro E)
  refine q_rets (.inr rfl) rfl rfl rfl rfl rfl ?_
  show ownCell true lv' (.sl 4 128 (List.map ofB bs)) = _
  simp [ownCell, h1]
theorem fin_osl {os : List (Nat × List AV)} {H : Hp} {id L : Nat} {bs : List UInt8} (ho : lkO os id = some (bs.map ofB)) (hL : bs.length = 128 * L) : finOk (objs os H) 0 (.osl id 0 L 128) = true ∧ finCell (objs os H) 0 (.osl id 0 L 128) = csl 128 (bs.map ofB) := by
  have hn : L * 128 = (bs.map ofB).length := by rw [List.length_map]; omega
  refine ⟨?_, ?_⟩
  · simp only [finOk, lkO_objs ho, List.drop_zero, hn, List.take_length, flat_ofB, Nat.zero_add, Nat.le_refl, decide_true, Bool.and_true, Bool.or_true]
  · simp only [finCell, lkO_objs ho, List.drop_zero, hn, List.take_length, canon_ofB, Nat.not_lt_zero, if_false]
set_option maxRecDepth 100000 in
theorem s88 {bs : List UInt8} {a w : Nat} (h : VM bs) (ha : a % 4 = 0) (hb : a + 4 ≤ bs.length) (hw : w < 4294967296) : Calls0 (evCall FN (k + 10010)) 88 [memV bs, csl 3 [.int .i64 a, .int .i64 4, .int .u32 w]] (.tup [memV (putB bs a (le4 w)), .bool true]) := by
  have hl := h.le
  have c96 : evP (evCall FN (k + 10009)) 96 [csl 128 (bs.map ofB)] = some (.sl 2 128 (bs.map ofB)) := s96 h
  refine q_call0 fn88 fun T H E lv => ?_
  repeat (first | refine stN ?_ | intro E)
  apply p_call2
  · exact rfl
  · exact rfl
  · exact c96
  · exact rfl
  · exact rfl
  · exact rfl
  · exact scal_ofB _
  · omega
  intro E
  rw [show mapLeaf (adoptCell 2 (0 + 1 + 1) 4) (AV.sl 2 128 (bs.map ofB)) = .osl 2 0 ((bs.map ofB).length / 128) 128 from rfl]
  repeat (first | refine stN ?_ | intro E)
  rw [show ([AV.int IntKind.i64 a, AV.int IntKind.i64 4, AV.int IntKind.u32 w].length / 3) = 1 from by simp]
  have hLn : bs.length = 128 * ((bs.map ofB).length / 128) := by rw [List.length_map]; omega
  obtain ⟨L, hL⟩ : ∃ L, L = (bs.map ofB).length / 128 := ⟨_, rfl⟩
  rw [← hL] at hLn ⊢
  refine q_loop (α := Nat × List UInt8) (LInv.mk (fun p => (p.1 = 0 ∧ p.2 = bs) ∨ (p.1 = 1 ∧ p.2 = putB bs a (le4 w))) (fun p => 1 - p.1)
    (fun p => [(18, .int .i64 (p.1 : Int)), (17, .int .i64 ((1 : Nat) : Int)), (16, csl 3 [.int .i64 a, .int .i64 4, .int .u32 w]), (7, .fn 98 [.agg [.osl 2 0 L 128]] []), (6, .ref 3 0), (4, .ref 1 0), (2, .ref 0 0)])
    (fun p => [(3, [.osl 2 0 L 128]), (2, p.2.map ofB), (1, [.sl 0 0 []]), (0, [csl 128 (bs.map ofB)])]))
    (fun _ _ c => c = 4) (0, bs) (.inl ⟨rfl, rfl⟩) rfl (show 1 - 0 < k + 10009 by omega) ⟨rfl, rfl, rfl, rfl, rfl, rfl, rfl, trivial⟩ ⟨rfl, rfl, rfl, rfl, trivial⟩ ?_
  rintro ⟨j, cs⟩ lv c T H E hP rfl hμ
  have hP : (j = 0 ∧ cs = bs) ∨ (j = 1 ∧ cs = putB bs a (le4 w)) := hP
  clear hμ
  rcases hP with ⟨rfl, rfl⟩ | ⟨rfl, rfl⟩ <;> dsimp only
  · repeat (first | refine stN ?_ | intro E)
    apply p_callvR (os' := [(2, (putB cs a (le4 w)).map ofB), (4, [.int .i64 a, .int .i64 4, .int .u32 w]), (3, [.osl 2 0 L 128]), (1, [.sl 0 0 []]), (0, [csl 128 (cs.map ofB)])])
    · exact rfl
    · exact rfl
    · exact fun H E => s98 (k := k + 8) h hLn ha hb hw rfl
    · exact ⟨.inl ⟨rfl, rfl⟩, .inr ⟨rfl, rfl, rfl, rfl⟩, .inr ⟨rfl, rfl, rfl, rfl⟩, .inr ⟨rfl, rfl, rfl, rfl⟩, .inr ⟨rfl, rfl, rfl, rfl⟩, trivial⟩
    intro H
    repeat (first | refine stN ?_ | intro E)
    exact n_again (1, putB cs a (le4 w)) (.inr ⟨rfl, rfl⟩) rfl (show 1 - 1 < 1 - 0 by omega) ⟨rfl, rfl, rfl, rfl, rfl, rfl, rfl, trivial⟩ ⟨⟨rfl, rfl⟩, ⟨rfl, under_ofB _ _⟩, ⟨rfl, rfl⟩, ⟨rfl, rfl⟩, trivial⟩
  · repeat (first | refine stN ?_ | intro E)
    apply n_exit
    apply b_exit
    repeat (first | refine stN ?_ | intro E)
    have hn : (putB bs a (le4 w)).length = 128 * L := by rw [putB_length (by simp only [le4, List.length_cons, List.length_nil]; omega), hLn]
    have hf := fun H => fin_osl (os := [(1, [.osl 2 0 L 128]), (3, [.osl 2 0 L 128]), (2, (putB bs a (le4 w)).map ofB), (1, [.sl 0 0 []]), (0, [csl 128 (bs.map ofB)])]) (H := H) (id := 2) rfl hn
    refine q_ret (.inr rfl) rfl rfl ?_ ?_ ?_ rfl
    · show (finOk _ 0 (.osl 2 0 L 128) && (finOk _ 0 (.bool true) && true)) = true
      rw [(hf _).1]; rfl
    · show AV.under 0 (.tup [.agg [finCell _ 0 (.osl 2 0 L 128)], .bool true]) = true
      rw [(hf _).2]; rfl
    · show mapLeaf canonCell (.tup [.agg [finCell _ 0 (.osl 2 0 L 128)], .bool true]) = _
      rw [(hf _).2]; rfl
set_option maxRecDepth 100000 in
theorem s68 {bs : List UInt8} {a w : Nat} (h : VM bs) (ha : a % 4 = 0) (hb : a + 4 ≤ bs.length) (hw : w < 4294967296) : Calls0 (evCall FN (k + 10011)) 68 [memV bs, .agg [.int .i64 a, .int .i64 4, .int .u32 w]] (.tup [memV (putB bs a (le4 w)), .bool true]) := by
  have c88 : Calls0 (evCall FN (k + 10010)) 88 [memV bs, csl 3 [.int .i64 a, .int .i64 4, .int .u32 w]] (.tup [memV (putB bs a (le4 w)), .bool true]) := s88 h ha hb hw
  refine q_call0 fn68 fun T H E lv => ?_
  repeat (first | refine stN ?_ | intro E)
  exact q_ret (.inr rfl) rfl rfl rfl rfl rfl rfl
end Go.Proofs.Ytaeoaakblilfeaa

/- Statuses are marked. Condition: the memory is valid, the ring is there, the indices are of the ring. -/
namespace Go.Proofs.Ytaeoaakblilfeaa
open Go.Abs
variable {k : Nat}
def mark1 (b w : Nat) (bs : List UInt8) (i : Nat) : List UInt8 := putB bs (b + 16 * i + 12) (le4 w)
def markB (bs : List UInt8) (b w : Nat) (js : List Nat) : List UInt8 := js.foldl (mark1 b w) bs
theorem le4_length (w : Nat) : (le4 w).length = 4 := rfl
theorem mark1_length {b w i : Nat} {bs : List UInt8} (h : b + 16 * i + 16 ≤ bs.length) : (mark1 b w bs i).length = bs.length := putB_length (by rw [le4_length]; omega)
theorem RV.mark1 {bs : List UInt8} {b s w i : Nat} (h : RV bs b s) (hi : i < s) : RV (mark1 b w bs i) b s := by
  have hl := h.le
  have e : (Proofs.Ytaeoaakblilfeaa.mark1 b w bs i).length = bs.length := mark1_length (by omega)
  obtain ⟨p, h1, h2, h3⟩ := h.m
  exact ⟨⟨p, h1, h2, by rw [e, h3]⟩, h.hs, h.hb, by rw [e]; exact h.le⟩
theorem RV.markB {b s w : Nat} : ∀ {js : List Nat} {bs : List UInt8}, RV bs b s → (∀ j ∈ js, j < s) → RV (markB bs b w js) b s
  | [], _, h, _ => h
  | j :: js, _, h, hj => (h.mark1 (hj j (by simp))).markB fun i hi => hj i (by simp [hi])
theorem markB_take {bs : List UInt8} {b w j i : Nat} {js : List Nat} (h : js[j]? = some i) : markB bs b w (js.take (j + 1)) = mark1 b w (markB bs b w (js.take j)) i := by
  rw [List.take_add_one, h]
  simp [markB, List.foldl_append]
def intsV (js : List Nat) : List AV := js.map fun j => .int .i64 (j : Nat)
theorem rd_ints {js : List Nat} {j i : Nat} (h : js[j]? = some i) : rd (intsV js) (j * 1) 1 false = some (.int .i64 i) := by
  simp only [rd, intsV, Nat.mul_one, Bool.false_eq_true, if_false, List.getElem?_map, h, Option.map_some]; rfl
theorem ints_length (js : List Nat) : (intsV js).length = js.length := by simp [intsV]
theorem ints_flat (js : List Nat) : flatL (intsV js) = true := by
  induction js with
  | nil => rfl
  | cons j js ih => simp only [intsV, List.map_cons, flatL] at ih ⊢; rw [ih]; rfl
set_option maxRecDepth 100000 in
theorem s85 {bs : List UInt8} {b s w : Nat} {js : List Nat} (h : RV bs b s) (hj : ∀ j ∈ js, j < s) (hw : w < 4294967296) (hn : js.length ≤ 100) : Calls0 (evCall FN (k + 10200)) 85 [memV bs, ringV b s, .int .i64 w, csl 1 (intsV js)] (memV (markB bs b w js)) := by
  have hl := h.m.le
  have hs := h.hs
  have hle := h.le
  have hb16 := h.hb
  have hfl := ints_flat js
  refine q_call0 fn85 fun T H E lv => ?_
  repeat (first | refine stN ?_ | intro E)
  rw [ints_length, Nat.div_one]
  refine q_loop (α := Nat) (LInv.mk (fun j => j ≤ js.length) (fun j => js.length - j)
    (fun j => [(13, .int .i64 (j : Int)), (12, .int .i64 (js.length : Int)), (11, csl 1 (intsV js)), (8, .ref 2 0), (5, .ref 1 0), (4, .ref 0 0), (2, .int .i64 w)])
    (fun j => [(2, [.sl 0 0 []]), (1, [.int .u32 b, .int .u32 s]), (0, [csl 128 ((markB bs b w (js.take j)).map ofB)])]))
    (fun _ _ c => c = 4) 0 (Nat.zero_le _) rfl (show js.length - 0 < k + 10199 by omega) ⟨rfl, rfl, rfl, rfl, rfl, rfl, rfl, trivial⟩ ⟨rfl, rfl, rfl, trivial⟩ ?_
  rintro j lv c T H E hP rfl hμ
  have hP : j ≤ js.length := hP
  clear hμ
  dsimp only
  rcases Nat.lt_or_ge j js.length with hlt | hge
  · obtain ⟨i, hi⟩ : ∃ i, js[j]? = some i := ⟨_, List.getElem?_eq_getElem hlt⟩
    have his : i < s := hj i (List.mem_of_getElem? hi)
    have hr := rd_ints hi
    have gi : inB (j : Int) ((intsV js).length / 1) = some j := inB_n (by rw [ints_length]; omega)
    have hV : RV (markB bs b w (js.take j)) b s := h.markB fun x hx => hj x (List.mem_of_mem_take hx)
    have hV' := hV.le
    have c95 : Calls0 (evCall FN (k + 10199)) 95 [ringV b s, .int .i64 i, .int .i64 ((3 : Nat) : Int)] (.int .i64 ((b + 16 * i + 4 * 3 : Nat) : Int)) := (s95 (k := 0) (by omega) (by omega) (by omega)).fuel (by omega)
    have c68 : Calls0 (evCall FN (k + 10199)) 68 [memV (markB bs b w (js.take j)), .agg [.int .i64 ((b + 16 * i + 4 * 3 : Nat) : Int), .int .i64 4, .int .u32 w]] (.tup [memV (mark1 b w (markB bs b w (js.take j)) i), .bool true]) := (s68 (k := 0) hV.m (by omega) (by omega) hw).fuel (by omega)
    repeat (first | refine stN ?_ | intro E)
    exact n_again (j + 1) (show j + 1 ≤ js.length by omega) rfl (show js.length - (j + 1) < js.length - j by omega) ⟨rfl, rfl, rfl, rfl, rfl, rfl, rfl, trivial⟩ ⟨⟨rfl, rfl⟩, ⟨rfl, rfl⟩, ⟨by rw [markB_take hi]; rfl, rfl⟩, trivial⟩
  · repeat (first | refine stN ?_ | intro E)
    apply n_exit
    apply b_exit
    repeat (first | refine stN ?_ | intro E)
    rw [List.take_of_length_le hge]
    exact q_ret (.inr rfl) rfl rfl rfl rfl rfl rfl
end Go.Proofs.Ytaeoaakblilfeaa

/- The reference's store, and its marks. Condition: the memory is valid, the place is there. -/
namespace Go.Proofs.Ytaeoaakblilfeaa
open Go.Abs
variable {k : Nat}
theorem setS_map : ∀ {bs : List UInt8} {o : Nat} {u : UInt8}, o < bs.length → setS (bs.map ofB) o (ofB u) = some ((bs.set o u).map ofB)
  | b :: bs, 0, u, _ => rfl
  | b :: bs, o + 1, u, h => by
    have := setS_map (bs := bs) (o := o) (u := u) (by simpa using h)
    simp only [List.map_cons, setS, this, List.set_cons_succ]
theorem putB_get {bs ys : List UInt8} {a : Nat} (h : a + ys.length ≤ bs.length) (j : Nat) : (putB bs a ys)[j]? = if j < a then bs[j]? else if j < a + ys.length then ys[j - a]? else bs[j]? := by
  have l3 : (bs.take a).length = a := by rw [List.length_take]; omega
  unfold putB
  split
  · next h1 => rw [List.append_assoc, List.getElem?_append_left (by omega), List.getElem?_take_of_lt h1]
  · next h1 =>
    rw [List.append_assoc, List.getElem?_append_right (by omega), l3]
    split
    · next h2 => rw [List.getElem?_append_left (by omega)]
    · next h2 =>
      rw [List.getElem?_append_right (by omega), List.getElem?_drop]
      congr 1; omega
theorem putB_succ {bs ys : List UInt8} {a i : Nat} {u : UInt8} (h : a + ys.length ≤ bs.length) (hi : ys[i]? = some u) : (putB bs a (ys.take i)).set (a + i) u = putB bs a (ys.take (i + 1)) := by
  have hi' : i < ys.length := (List.getElem?_eq_some_iff.1 hi).1
  have l1 : (ys.take i).length = i := by rw [List.length_take]; omega
  have l2 : (ys.take (i + 1)).length = i + 1 := by rw [List.length_take]; omega
  have l4 : (putB bs a (ys.take i)).length = bs.length := putB_length (by omega)
  apply List.ext_getElem?
  intro j
  rw [List.getElem?_set, putB_get (by omega), putB_get (by omega), l1, l2, l4]
  by_cases h1 : a + i = j
  · subst h1
    rw [if_pos rfl, if_pos (by omega), if_neg (by omega), if_pos (by omega), List.getElem?_take_of_lt (by omega), show a + i - a = i by omega, hi]
  · rw [if_neg h1]
    by_cases h2 : j < a
    · rw [if_pos h2, if_pos h2]
    · rw [if_neg h2, if_neg h2]
      by_cases h3 : j < a + i
      · rw [if_pos h3, if_pos (by omega), List.getElem?_take_of_lt (by omega), List.getElem?_take_of_lt (by omega)]
      · rw [if_neg h3, if_neg (by omega)]
theorem le4_get (w i : Nat) (h : i < 4) : (le4 w)[i]? = some (UInt8.ofNat (w / 2 ^ (8 * i) % 256)) := by
  have : i = 0 ∨ i = 1 ∨ i = 2 ∨ i = 3 := by omega
  rcases this with rfl | rfl | rfl | rfl <;> simp [le4]
set_option maxRecDepth 100000 in
theorem s52 {bs : List UInt8} (h : VM bs) : evP (evCall FN (k + 1)) 52 [memV bs] = some (.agg [.sl 2 128 (bs.map ofB)]) := by
  have hl := h.le
  have hfl := flat_ofB bs
  refine q_evP fn52 rfl fun T H E lv => ?_
  repeat (first | refine stN ?_ | intro E)
  apply p_app
  · exact rfl
  · exact .inl rfl
  · exact rfl
  · exact fun H => if_pos (csz_ok _ _)
  · exact ⟨by omega, by omega⟩
  · simp only [List.length_nil, List.length_map, room]; omega
  · exact .inr (.inl rfl)
  · intro e; rw [List.map_eq_nil_iff] at e; subst e; simp at hl
  intro lv' h1 h2
  repeat (first | refine stN ?_ | intro E)
  refine q_rets (.inr rfl) rfl rfl rfl rfl rfl ?_
  show AV.agg [ownCell true lv' (.sl 4 128 (List.map ofB bs))] = _
  simp [ownCell, h1]
set_option maxRecDepth 100000 in
theorem s46 {bs : List UInt8} {a w : Nat} (h : VM bs) (ha : a % 4 = 0) (hb : a + 4 ≤ bs.length) (hw : w < 4294967296) : Calls0 (evCall FN (k + 10)) 46 [memV bs, .agg [.int .i64 a, .int .i64 4, .int .u32 w]] (.agg [csl 128 ((putB bs a (le4 w)).map ofB), .bool true]) := by
  have hl := h.le
  have c74 : Calls0 (evCall FN (k + 9)) 74 [memV bs, .int .i64 a, .int .i64 4] (.bool true) := (s74 (k := 0) h ha hb).fuel (by omega)
  have c52 : evP (evCall FN (k + 9)) 52 [memV bs] = some (.agg [.sl 2 128 (bs.map ofB)]) := s52 h
  refine q_call0 fn46 fun T H E lv => ?_
  repeat (first | refine stN ?_ | intro E)
  apply p_call2
  · exact rfl
  · exact rfl
  · exact c52
  · exact rfl
  · exact rfl
  · exact rfl
  · exact scal_ofB _
  · omega
  intro E
  rw [show mapLeaf (adoptCell 2 (0 + 1 + 1 + 1) 4) (AV.agg [AV.sl 2 128 (bs.map ofB)]) = .agg [.osl 3 0 ((bs.map ofB).length / 128) 128] from rfl]
  repeat (first | refine stN ?_ | intro E)
  have hLn : bs.length = 128 * ((bs.map ofB).length / 128) := by rw [List.length_map]; omega
  obtain ⟨L, hL⟩ : ∃ L, L = (bs.map ofB).length / 128 := ⟨_, rfl⟩
  rw [← hL] at hLn ⊢
  have hst : ∀ i, i < 4 → putS ((putB bs a ((le4 w).take i)).map ofB) (0 + (a + i) / 128 * 128 + (a + i) % 128 * 1) 1 (.int .u8 ((w / 2 ^ (8 * i) % 256 : Nat) : Int)) = some ((putB bs a ((le4 w).take (i + 1))).map ofB) := by
    intro i hi
    have e : (le4 w).length = 4 := rfl
    rw [show 0 + (a + i) / 128 * 128 + (a + i) % 128 * 1 = a + i by omega, ← ofB_le _ (by omega), ← putB_succ (by omega) (le4_get w i hi)]
    exact setS_map (by rw [putB_length (by rw [List.length_take]; omega)]; omega)
  have t0 := hst 0 (by omega); have t1 := hst 1 (by omega); have t2 := hst 2 (by omega); have t3 := hst 3 (by omega)
  clear hst
  have q0 : evBin .shr (.int .u32 (w : Int)) (.int .i64 ((8 * 0 : Nat) : Int)) = some (.int .u32 ((w / 2 ^ (8 * 0) : Nat) : Int)) := shr_n (by decide)
  have q1 : evBin .shr (.int .u32 (w : Int)) (.int .i64 ((8 * 1 : Nat) : Int)) = some (.int .u32 ((w / 2 ^ (8 * 1) : Nat) : Int)) := shr_n (by decide)
  have q2 : evBin .shr (.int .u32 (w : Int)) (.int .i64 ((8 * 2 : Nat) : Int)) = some (.int .u32 ((w / 2 ^ (8 * 2) : Nat) : Int)) := shr_n (by decide)
  have q3 : evBin .shr (.int .u32 (w : Int)) (.int .i64 ((8 * 3 : Nat) : Int)) = some (.int .u32 ((w / 2 ^ (8 * 3) : Nat) : Int)) := shr_n (by decide)
  refine q_loop (α := Nat) (LInv.mk (fun i => i ≤ 4) (fun i => 4 - i)
    (fun i => [(7, .int .i64 (i : Int)), (6, .ref 4 0), (4, .ref 2 0), (3, .ref 1 0), (2, .ref 0 0)])
    (fun i => [(4, [.osl 3 0 L 128]), (3, (putB bs a ((le4 w).take i)).map ofB), (2, [.sl 0 0 [], .bool false]), (1, [.int .i64 a, .int .i64 4, .int .u32 w]), (0, [csl 128 (bs.map ofB)])]))
    (fun _ _ c => c = 4) 0 (show 0 ≤ 4 by omega) rfl (show 4 - 0 < k + 9 by omega) ⟨rfl, rfl, rfl, rfl, rfl, trivial⟩ ⟨rfl, by rw [List.take_zero, putB_nil]; rfl, rfl, rfl, rfl, trivial⟩ ?_
  rintro i lv c T H E hP rfl hμ
  have hj : i = 0 ∨ i = 1 ∨ i = 2 ∨ i = 3 ∨ i = 4 := by have : i ≤ 4 := hP; omega
  clear hP hμ
  rcases hj with rfl | rfl | rfl | rfl | rfl <;> dsimp only
  · repeat (first | refine stN ?_ | intro E)
    exact n_again 1 (show 1 ≤ 4 by omega) rfl (show 4 - 1 < 4 - 0 by omega) ⟨rfl, rfl, rfl, rfl, rfl, trivial⟩ ⟨⟨rfl, rfl⟩, ⟨rfl, under_ofB _ _⟩, ⟨rfl, rfl⟩, ⟨rfl, rfl⟩, ⟨rfl, rfl⟩, trivial⟩
  · repeat (first | refine stN ?_ | intro E)
    exact n_again 2 (show 2 ≤ 4 by omega) rfl (show 4 - 2 < 4 - 1 by omega) ⟨rfl, rfl, rfl, rfl, rfl, trivial⟩ ⟨⟨rfl, rfl⟩, ⟨rfl, under_ofB _ _⟩, ⟨rfl, rfl⟩, ⟨rfl, rfl⟩, ⟨rfl, rfl⟩, trivial⟩
  · repeat (first | refine stN ?_ | intro E)
    exact n_again 3 (show 3 ≤ 4 by omega) rfl (show 4 - 3 < 4 - 2 by omega) ⟨rfl, rfl, rfl, rfl, rfl, trivial⟩ ⟨⟨rfl, rfl⟩, ⟨rfl, under_ofB _ _⟩, ⟨rfl, rfl⟩, ⟨rfl, rfl⟩, ⟨rfl, rfl⟩, trivial⟩
  · repeat (first | refine stN ?_ | intro E)
    exact n_again 4 (show 4 ≤ 4 by omega) rfl (show 4 - 4 < 4 - 3 by omega) ⟨rfl, rfl, rfl, rfl, rfl, trivial⟩ ⟨⟨rfl, rfl⟩, ⟨rfl, under_ofB _ _⟩, ⟨rfl, rfl⟩, ⟨rfl, rfl⟩, ⟨rfl, rfl⟩, trivial⟩
  · have e4 : (le4 w).take 4 = le4 w := rfl
    rw [e4]
    repeat (first | refine stN ?_ | intro E)
    apply n_exit
    apply b_exit
    repeat (first | refine stN ?_ | intro E)
    have hn : (putB bs a (le4 w)).length = 128 * L := by rw [putB_length (by simp only [le4, List.length_cons, List.length_nil]; omega), hLn]
    have hf := fun os H ho => fin_osl (os := os) (H := H) (id := 3) ho hn
    refine q_ret (.inr rfl) rfl rfl ?_ ?_ ?_ rfl
    · show (finOk _ 0 (.osl 3 0 L 128) && (finOk _ 0 (.bool true) && true)) = true
      rw [(hf _ _ rfl).1]; rfl
    · show AV.under 0 (.agg [finCell _ 0 (.osl 3 0 L 128), .bool true]) = true
      rw [(hf _ _ rfl).2]; rfl
    · show mapLeaf canonCell (.agg [finCell _ 0 (.osl 3 0 L 128), .bool true]) = _
      rw [(hf _ _ rfl).2]; rfl
end Go.Proofs.Ytaeoaakblilfeaa

/- What is wrong with a descriptor. Condition: the memory is valid, the ring is there. -/
namespace Go.Proofs.Ytaeoaakblilfeaa
open Go.Abs
variable {k : Nat}
def wr (bs : List UInt8) (b i : Nat) : Bool := decide (dw bs b i 2 % 2 = 1)
def partV (bs : List UInt8) (b i : Nat) : List AV := [.int .i64 i, .int .i64 (dw bs b i 0), .int .i64 (dw bs b i 1), .bool (wr bs b i)]
def partsV (bs : List UInt8) (b : Nat) (js : List Nat) : List AV := js.flatMap (partV bs b)
theorem partV_length (bs : List UInt8) (b i : Nat) : (partV bs b i).length = 4 := rfl
theorem parts_length (bs : List UInt8) (b : Nat) : ∀ (js : List Nat), (partsV bs b js).length = js.length * 4
  | [] => rfl
  | j :: js => by
    have := parts_length bs b js
    simp only [partsV, List.flatMap_cons, List.length_append, partV_length, List.length_cons] at this ⊢
    omega
theorem parts_div (bs : List UInt8) (b : Nat) (js : List Nat) : (partsV bs b js).length / 4 = js.length := by rw [parts_length]; omega
theorem parts_get {bs : List UInt8} {b t i : Nat} (ht : t < 4) : ∀ {js : List Nat} {j : Nat}, js[j]? = some i → (partsV bs b js)[j * 4 + t]? = (partV bs b i)[t]?
  | [], j, h => by simp at h
  | x :: js, 0, h => by
    simp only [List.getElem?_cons_zero, Option.some.injEq] at h
    subst h
    simp only [partsV, List.flatMap_cons]
    rw [List.getElem?_append_left (by rw [partV_length]; omega)]
    congr 1; omega
  | x :: js, j + 1, h => by
    have ih := parts_get (bs := bs) (b := b) ht (js := js) (j := j) (by simpa using h)
    simp only [partsV, List.flatMap_cons] at ih ⊢
    rw [List.getElem?_append_right (by rw [partV_length]; omega), partV_length, ← ih]
    congr 1; omega
theorem rd_part0 {bs : List UInt8} {b j i : Nat} {js : List Nat} (h : js[j]? = some i) : rd (partsV bs b js) (j * 4 + 0) 1 false = some (.int .i64 i) := by
  simp only [rd, Bool.false_eq_true, if_false, parts_get (t := 0) (by omega) h]; rfl
theorem rd_part3 {bs : List UInt8} {b j i : Nat} {js : List Nat} (h : js[j]? = some i) : rd (partsV bs b js) (j * 4 + 3) 1 false = some (.bool (wr bs b i)) := by
  simp only [rd, Bool.false_eq_true, if_false, parts_get (t := 3) (by omega) h]; rfl
theorem parts_flat (bs : List UInt8) (b : Nat) : ∀ (js : List Nat), flatL (partsV bs b js) = true
  | [] => rfl
  | j :: js => by
    have ih := parts_flat bs b js
    simp only [partsV, List.flatMap_cons, partV, List.cons_append, List.nil_append, flatL, AV.flat, Bool.true_and] at ih ⊢
    exact ih
set_option maxRecDepth 100000 in
theorem s90 {bs : List UInt8} {b i : Nat} {js : List Nat} (hn : js.length ≤ 8) : Calls0 (evCall FN (k + 10)) 90 [csl 4 (partsV bs b js), .int .i64 i] (.bool (decide (i ∈ js))) := by
  refine q_call0 fn90 fun T H E lv => ?_
  repeat (first | refine stN ?_ | intro E)
  refine q_loop (α := Nat) (LInv.mk (fun j => j ≤ js.length ∧ i ∉ js.take j) (fun j => js.length - j)
    (fun j => [(5, .int .i64 (j : Int)), (4, .bool false), (0, csl 4 (partsV bs b js)), (1, .int .i64 i)]) (fun j => []))
    (fun _ _ c => c = 4) 0 ⟨Nat.zero_le _, by simp⟩ rfl (show js.length - 0 < k + 9 by omega) ⟨rfl, rfl, rfl, rfl, trivial⟩ trivial ?_
  rintro j lv c T H E ⟨hP, hni⟩ rfl hμ
  have hP : j ≤ js.length := hP
  have hni : i ∉ js.take j := hni
  clear hμ
  dsimp only
  rcases Nat.lt_or_ge j js.length with hlt | hge
  · obtain ⟨x, hx⟩ : ∃ x, js[j]? = some x := ⟨_, List.getElem?_eq_getElem hlt⟩
    have hr := rd_part0 (bs := bs) (b := b) hx
    have gi : inB (j : Int) ((partsV bs b js).length / 4) = some j := inB_n (by rw [parts_div]; omega)
    have gl : evBin .lss (.int .i64 (j : Int)) (.int .i64 (((partsV bs b js).length / 4 : Nat) : Int)) = some (.bool true) := lss_t (by rw [parts_div]; omega)
    by_cases he : x = i
    · have hd : decide (i ∈ js) = true := by rw [decide_eq_true_eq, ← he]; exact List.mem_of_getElem? hx
      repeat (first | refine stN ?_ | intro E)
      apply n_ret
      repeat (first | refine stN ?_ | intro E)
      rw [hd]
      exact q_ret (.inr rfl) rfl rfl rfl rfl rfl rfl
    · repeat (first | refine stN ?_ | intro E)
      refine n_again (j + 1) ⟨by omega, ?_⟩ rfl (show js.length - (j + 1) < js.length - j by omega) ⟨rfl, rfl, rfl, rfl, trivial⟩ trivial
      rw [List.take_add_one, hx]
      simp only [Option.toList_some, List.mem_append, List.mem_singleton]
      rintro (h | h)
      · exact hni h
      · exact he h.symm
  · have gl : evBin .lss (.int .i64 (j : Int)) (.int .i64 (((partsV bs b js).length / 4 : Nat) : Int)) = some (.bool false) := lss_f (by rw [parts_div]; omega)
    rw [List.take_of_length_le hge] at hni
    have hd : decide (i ∈ js) = false := by rw [decide_eq_false_iff_not]; exact hni
    repeat (first | refine stN ?_ | intro E)
    apply n_exit
    apply b_exit
    repeat (first | refine stN ?_ | intro E)
    rw [hd]
    exact q_ret (.inr rfl) rfl rfl rfl rfl rfl rfl
set_option maxRecDepth 100000 in
theorem s91 {bs : List UInt8} {b : Nat} {js : List Nat} (hn : js.length ≤ 8) : Calls0 (evCall FN (k + 10)) 91 [csl 4 (partsV bs b js)] (.bool (js.any (wr bs b))) := by
  refine q_call0 fn91 fun T H E lv => ?_
  repeat (first | refine stN ?_ | intro E)
  refine q_loop (α := Nat) (LInv.mk (fun j => j ≤ js.length ∧ (js.take j).any (wr bs b) = false) (fun j => js.length - j)
    (fun j => [(3, .int .i64 (j : Int)), (2, .bool false), (0, csl 4 (partsV bs b js))]) (fun j => []))
    (fun _ _ c => c = 4) 0 ⟨Nat.zero_le _, by simp⟩ rfl (show js.length - 0 < k + 9 by omega) ⟨rfl, rfl, rfl, trivial⟩ trivial ?_
  rintro j lv c T H E ⟨hP, hni⟩ rfl hμ
  have hP : j ≤ js.length := hP
  have hni : (js.take j).any (wr bs b) = false := hni
  clear hμ
  dsimp only
  rcases Nat.lt_or_ge j js.length with hlt | hge
  · obtain ⟨x, hx⟩ : ∃ x, js[j]? = some x := ⟨_, List.getElem?_eq_getElem hlt⟩
    have hr := rd_part3 (bs := bs) (b := b) hx
    have gi : inB (j : Int) ((partsV bs b js).length / 4) = some j := inB_n (by rw [parts_div]; omega)
    have gl : evBin .lss (.int .i64 (j : Int)) (.int .i64 (((partsV bs b js).length / 4 : Nat) : Int)) = some (.bool true) := lss_t (by rw [parts_div]; omega)
    cases he : wr bs b x
    · rw [he] at hr
      repeat (first | refine stN ?_ | intro E)
      refine n_again (j + 1) ⟨by omega, ?_⟩ rfl (show js.length - (j + 1) < js.length - j by omega) ⟨rfl, rfl, rfl, trivial⟩ trivial
      rw [List.take_add_one, hx]
      simp [hni, he]
    · have hd : js.any (wr bs b) = true := List.any_eq_true.2 ⟨x, List.mem_of_getElem? hx, he⟩
      rw [he] at hr
      repeat (first | refine stN ?_ | intro E)
      apply n_ret
      repeat (first | refine stN ?_ | intro E)
      rw [hd]
      exact q_ret (.inr rfl) rfl rfl rfl rfl rfl rfl
  · have gl : evBin .lss (.int .i64 (j : Int)) (.int .i64 (((partsV bs b js).length / 4 : Nat) : Int)) = some (.bool false) := lss_f (by rw [parts_div]; omega)
    rw [List.take_of_length_le hge] at hni
    repeat (first | refine stN ?_ | intro E)
    apply n_exit
    apply b_exit
    repeat (first | refine stN ?_ | intro E)
    rw [hni]
    exact q_ret (.inr rfl) rfl rfl rfl rfl rfl rfl
end Go.Proofs.Ytaeoaakblilfeaa
