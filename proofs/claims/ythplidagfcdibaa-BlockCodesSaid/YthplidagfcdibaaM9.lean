/- Part 9 of the texts on which proofs about this seat rest: each says what it proves at its own head. No condition. -/
import Derived.Test.YthplidagfcdibaaM8
set_option linter.unusedVariables false
set_option linter.unusedSimpArgs false
/- Take, Fail with any error, Finish: what they come to. Condition: the memory is valid, the ring is there, the indices are of the ring. -/
namespace Go.Proofs.Ythplidagfcdibaa
open Go.Abs
variable {k : Nat}
end Go.Proofs.Ythplidagfcdibaa

/- First: what it comes to, and the reference's. Condition: the memory is valid, the ring is there. -/
namespace Go.Proofs.Ythplidagfcdibaa
open Go.Abs
variable {k : Nat}
end Go.Proofs.Ythplidagfcdibaa

/- What is valid, and what is there. Condition: the numbers of the ring are words. -/
namespace Go.Proofs.Ythplidagfcdibaa
open Go.Abs
variable {k : Nat}
set_option maxRecDepth 100000 in
theorem s10t {bs : List UInt8} (h : VM bs) : Calls0 (evCall FN (k + 1)) 10 [memV bs] (.bool true) := by
  have hl := h.le
  have hd : (bs.map ofB).length / 128 = bs.length / 128 := by rw [List.length_map]
  refine q_call0 fn10 fun T H E lv => ?_
  repeat (first | refine stN ?_ | intro E)
  exact q_ret (.inr rfl) rfl rfl rfl rfl rfl rfl
set_option maxRecDepth 100000 in
theorem s10f {bs : List UInt8} {p : Nat} (hp : bs.length = 128 * p) (h : p = 0 ∨ 64 < p) : Calls0 (evCall FN (k + 1)) 10 [memV bs] (.bool false) := by
  have hd : (bs.map ofB).length / 128 = p := by rw [List.length_map]; omega
  refine q_call0 fn10 fun T H E lv => ?_
  rcases h with h | h
  · repeat (first | refine stN ?_ | intro E)
    exact q_ret (.inr rfl) rfl rfl rfl rfl rfl rfl
  · repeat (first | refine stN ?_ | intro E)
    exact q_ret (.inr rfl) rfl rfl rfl rfl rfl rfl
def chkN (n b s : Nat) : Nat := if (s = 1 ∨ s = 2 ∨ s = 4 ∨ s = 8) ∧ b % 16 = 0 ∧ b + 16 * s ≤ n then 0 else 160
theorem rem_u32 (b : Nat) : evBin .rem (.int .u32 (b : Int)) (.int .u32 16) = some (.int .u32 ((b % 16 : Nat) : Int)) := by
  simp only [evBin, reduceCtorEq, or_self, if_false, if_true, evInt]
  rw [if_neg (by decide), Int.tmod_eq_emod_of_nonneg (by omega)]
  simp
set_option maxRecDepth 100000 in
theorem s69 {bs : List UInt8} {b s : Nat} (h : VM bs) (hb : b < 4294967296) (hs : s < 4294967296) : Calls0 (evCall FN (k + 2)) 69 [memV bs, ringV b s] (.int .i64 (chkN bs.length b s)) := by
  have hl := h.le
  have gr := rem_u32 b
  have c55 : Calls0 (evCall FN (k + 1)) 55 [memV bs] (.int .i64 bs.length) := s55 h
  refine q_call0 fn69 fun T H E lv => ?_
  repeat' (first | refine stM ?_ | intro E | (refine stS ?_ ?_ <;> intro hc) | refine stB ?_ | (refine stG ?_ ?_ <;> intro hc))
  all_goals
    refine q_ret (.inr rfl) rfl rfl rfl rfl ?_ rfl
    refine congrArg (AV.int .i64) ?_
    unfold chkN
    split <;> omega
set_option maxRecDepth 100000 in
theorem s23 {bs : List UInt8} {b s : Nat} (h : VM bs) (hb : b < 4294967296) (hs : s < 4294967296) : Calls0 (evCall FN (k + 2)) 23 [memV bs, ringV b s] (.int .i64 (chkN bs.length b s)) := by
  have hl := h.le
  have gr := rem_u32 b
  have c52 : Calls0 (evCall FN (k + 1)) 52 [memV bs] (.int .i64 bs.length) := s52 h
  refine q_call0 fn23 fun T H E lv => ?_
  repeat' (first | refine stM ?_ | intro E | (refine stS ?_ ?_ <;> intro hc) | refine stB ?_ | (refine stG ?_ ?_ <;> intro hc))
  all_goals
    refine q_ret (.inr rfl) rfl rfl rfl rfl ?_ rfl
    refine congrArg (AV.int .i64) ?_
    unfold chkN
    split <;> omega
end Go.Proofs.Ythplidagfcdibaa

/- The same lists, and the same memories, are found to be the same. Condition: the memory is valid. -/
namespace Go.Proofs.Ythplidagfcdibaa
open Go.Abs
variable {k : Nat}
end Go.Proofs.Ythplidagfcdibaa

/- Parts cs a list, what covers a byte, and 'apart'. Conditions: the memories are valid and cs long; the parts' ends are numbers. -/
namespace Go.Proofs.Ythplidagfcdibaa
open Go.Abs
variable {k : Nat}
structure Pt where
  i : Nat
  a : Nat
  n : Nat
  w : Bool
theorem any_take {α : Type} {l : List α} {f : α → Bool} {i : Nat} {p : α} (h : l[i]? = some p) : (l.take (i + 1)).any f = ((l.take i).any f || f p) := by
  rw [List.take_add_one, h]; simp
end Go.Proofs.Ythplidagfcdibaa

/- Bytes are written, and scattered over parts, by the program. Condition: the memory is valid, the places are there. -/
namespace Go.Proofs.Ythplidagfcdibaa
open Go.Abs
variable {k : Nat}
theorem foldl_take {α β : Type} {f : β → α → β} {x : β} {l : List α} {i : Nat} {p : α} (h : l[i]? = some p) : (l.take (i + 1)).foldl f x = f ((l.take i).foldl f x) p := by
  rw [List.take_add_one, h, List.foldl_append]; rfl
end Go.Proofs.Ythplidagfcdibaa

/- Bytes are written, and scattered over parts, by the reference; the room of parts. Condition: the memory is valid, the places are there. -/
namespace Go.Proofs.Ythplidagfcdibaa
open Go.Abs
variable {k : Nat}
end Go.Proofs.Ythplidagfcdibaa

/- What marks and scattered bytes change, and what is known of a request that is taken. No condition but that the places are there. -/
namespace Go.Proofs.Ythplidagfcdibaa
open Go.Abs
def st (b j : Nat) : Pt := ⟨0, b + 16 * j + 12, 4, false⟩
end Go.Proofs.Ythplidagfcdibaa

/- Bytes are read: by the program, whatever table it is looked up in, and by the reference. Condition: the memory is valid, the bytes are there. -/
namespace Go.Proofs.Ythplidagfcdibaa
open Go.Abs
variable {k : Nat} {X : FuncId → Option FnDef}
end Go.Proofs.Ythplidagfcdibaa

/- What the parts that are read bring: by the program, by the reference. Condition: the memory is valid, the parts that are read lie in it. -/
namespace Go.Proofs.Ythplidagfcdibaa
open Go.Abs
variable {k : Nat}
end Go.Proofs.Ythplidagfcdibaa

/- Arithmetic of 64-bit words and of bytes; calls of function values. No condition. -/
namespace Go.Proofs.Ythplidagfcdibaa
open Go.Abs
theorem src_csl (H : Hp) (sz : Nat) (xs : List AV) : src H sz (csl sz xs) = some xs := by
  cases xs with
  | nil => exact if_pos (.inr rfl)
  | cons x xs => exact if_pos (.inl rfl)
theorem p_callvS {F : CallF} {l : List IOper} {s : List (Nat × AV)} {os : List (Nat × List AV)} {T : Nat → AV} {H : Hp} {E : Nat → Option TypeId} {n c d : Nat} {lv : Nat → Bool} {Q : St → Prop} {f : FuncId} {x : X} {xs : List X} {fs args : List AV} {R : AV} {H' : Hp} {n' c' : Nat} {lv' : Nat → Bool} (hf : evL s x = some (.fn f fs [])) (ha : evsS s xs = some args) (hc : F f (fs ++ args) ⟨objs os H, n, lv, c⟩ E = some (R, ⟨H', n', lv', c'⟩))
    (k : WpO F l ⟨slots ((d, R) :: s) T, H', E, n', lv', c'⟩ Q) : WpO F (⟨some d, .callv x xs, none⟩ :: l) ⟨slots s T, objs os H, E, n, lv, c⟩ Q := by
  refine o_step (S1 := ⟨putT (slots s T) (some d) R, H', E, n', lv', c'⟩) ?_ k
  simp only [evStep, wants, isCall, evCallOp, evL_ev hf, evL_all (evsS_eq ha), List.append_nil, hc, if_true]
theorem wp_imp {F : CallF} {k : Nat} {c : IC} {S : St} {Q Q' : Ex → St → Prop} (h : Wp F k c S Q) (hq : ∀ e S, Q e S → Q' e S) : Wp F k c S Q' := by
  obtain ⟨e, S', h1, h2⟩ := h.ex
  exact ⟨e, S', h1, hq e S' h2⟩
theorem rets_imp {fn : IFn} {n : Nat} {P P' : AV → Hs → Prop} {e : Ex} {S : St} (h : RetS fn n P e S) (hp : ∀ r hs, P r hs → P' r hs) : RetS fn n P' e S := by
  obtain ⟨h1, r, hs, h2, h3⟩ := h
  exact ⟨h1, r, hs, h2, hp r hs h3⟩
theorem ofInt64 (n : Nat) (h : n < 18446744073709551616) : (BitVec.ofInt 64 (n : Int)).toNat = n := by
  simp only [BitVec.toNat_ofInt]
  omega
theorem ofInt8 (n : Nat) (h : n < 256) : (BitVec.ofInt 8 (n : Int)).toNat = n := by
  simp only [BitVec.toNat_ofInt]
  omega
theorem wu64' (n : Int) : IntKind.u64.wrap n = n % 18446744073709551616 := by
  have e1 : (2 ^ IntKind.u64.bits : Int) = 18446744073709551616 := by decide +kernel
  have hs : IntKind.u64.signed = false := rfl
  unfold IntKind.wrap
  simp only [e1, hs, Bool.false_and, Bool.false_eq_true, if_false]
theorem shl_u64 {b s r : Nat} {kk : IntKind} (hs : s < 64) (hr : b * 2 ^ s % 18446744073709551616 = r) : evBin .shl (.int .u64 b) (.int kk s) = some (.int .u64 r) := by
  subst hr
  have hm : min ((s : Int)).toNat IntKind.u64.bits = s := by
    have : IntKind.u64.bits = 64 := rfl
    rw [this]; simp; omega
  have hneg : ¬ ((s : Int) < 0) := by omega
  simp only [evBin, evShift, true_or, if_true, hneg, if_false, hm]
  have : ((b : Int) * 2 ^ s) = ((b * 2 ^ s : Nat) : Int) := by simp
  rw [this, wu64']
  rfl
theorem xor_u64 {x y r : Nat} (hx : x < 18446744073709551616) (hy : y < 18446744073709551616) (hr : x ^^^ y = r) : evBin .xor (.int .u64 x) (.int .u64 y) = some (.int .u64 r) := by
  have h1 : (BitVec.ofInt IntKind.u64.bits (x : Int) ^^^ BitVec.ofInt IntKind.u64.bits (y : Int)).toNat = x ^^^ y := by
    show (BitVec.ofInt 64 (x : Int) ^^^ BitVec.ofInt 64 (y : Int)).toNat = _
    rw [BitVec.toNat_xor, ofInt64 x hx, ofInt64 y hy]
  have h2 : x ^^^ y < 2 ^ 64 := Nat.xor_lt_two_pow (by omega) (by omega)
  have e2 : (2 : Nat) ^ 64 = 18446744073709551616 := by decide +kernel
  simp only [evBin, reduceCtorEq, or_self, if_false, if_true, evInt, h1]
  rw [wu64 (by omega) (by omega), hr]
theorem or_u64 {x y s : Nat} (hx : x < 2 ^ s) (h : x + y * 2 ^ s < 18446744073709551616) : evBin .or (.int .u64 x) (.int .u64 ((y * 2 ^ s : Nat) : Int)) = some (.int .u64 ((x + y * 2 ^ s : Nat) : Int)) := by
  have h1 : (BitVec.ofInt IntKind.u64.bits (x : Int) ||| BitVec.ofInt IntKind.u64.bits ((y * 2 ^ s : Nat) : Int)).toNat = x + y * 2 ^ s := by
    show (BitVec.ofInt 64 (x : Int) ||| BitVec.ofInt 64 ((y * 2 ^ s : Nat) : Int)).toNat = _
    rw [BitVec.toNat_or, ofInt64 x (by omega), ofInt64 (y * 2 ^ s) (by omega), Nat.or_comm, Nat.mul_comm y, ← Nat.two_pow_add_eq_or_of_lt hx]
    omega
  simp only [evBin, reduceCtorEq, or_self, if_false, if_true, evInt, h1]
  rw [wu64 (by omega) (by omega)]
theorem and1_u64 {x : Nat} (hx : x < 18446744073709551616) : evBin .and (.int .u64 x) (.int .u64 1) = some (.int .u64 ((x % 2 : Nat) : Int)) := by
  have h1 : (BitVec.ofInt IntKind.u64.bits (x : Int) &&& BitVec.ofInt IntKind.u64.bits (1 : Int)).toNat = x % 2 := by
    show (BitVec.ofInt 64 (x : Int) &&& BitVec.ofInt 64 ((1 : Nat) : Int)).toNat = _
    rw [BitVec.toNat_and, ofInt64 x hx, ofInt64 1 (by omega), Nat.and_one_is_mod]
  simp only [evBin, reduceCtorEq, or_self, if_false, if_true, evInt, h1]
  rw [wu64 (by omega) (by omega)]
theorem and127_u8 {x : Nat} (hx : x < 256) : evBin .and (.int .u8 x) (.int .u8 127) = some (.int .u8 ((x % 128 : Nat) : Int)) := by
  have h1 : (BitVec.ofInt IntKind.u8.bits (x : Int) &&& BitVec.ofInt IntKind.u8.bits (127 : Int)).toNat = x % 128 := by
    show (BitVec.ofInt 8 (x : Int) &&& BitVec.ofInt 8 ((127 : Nat) : Int)).toNat = _
    rw [BitVec.toNat_and, ofInt8 x hx, ofInt8 127 (by omega)]
    exact Nat.and_two_pow_sub_one_eq_mod x 7
  simp only [evBin, reduceCtorEq, or_self, if_false, if_true, evInt, h1]
  rw [w8n]; congr 3; omega
theorem or128_u8 {x : Nat} (hx : x < 256) : evBin .or (.int .u8 x) (.int .u8 128) = some (.int .u8 ((x % 128 + 128 : Nat) : Int)) := by
  have h0 : ∀ x : Fin 256, x.val ||| 128 = x.val % 128 + 128 := by decide +kernel
  have h1 : (BitVec.ofInt IntKind.u8.bits (x : Int) ||| BitVec.ofInt IntKind.u8.bits (128 : Int)).toNat = x % 128 + 128 := by
    show (BitVec.ofInt 8 (x : Int) ||| BitVec.ofInt 8 ((128 : Nat) : Int)).toNat = _
    rw [BitVec.toNat_or, ofInt8 x hx, ofInt8 128 (by omega)]
    exact h0 ⟨x, hx⟩
  simp only [evBin, reduceCtorEq, or_self, if_false, if_true, evInt, h1]
  rw [w8n]; congr 3; omega
theorem ones_xor {x : Nat} (hx : x < 18446744073709551616) : x ^^^ 18446744073709551615 = 18446744073709551615 - x := by
  have h := BitVec.toNat_not (x := BitVec.ofNat 64 x)
  have e : (~~~ BitVec.ofNat 64 x) = BitVec.ofNat 64 x ^^^ BitVec.allOnes 64 := BitVec.xor_allOnes.symm
  have e1 : (BitVec.ofNat 64 x).toNat = x := by simp; omega
  have e2 : (BitVec.allOnes 64).toNat = 18446744073709551615 := by decide +kernel
  rw [e, BitVec.toNat_xor, e1, e2] at h
  rw [h]
end Go.Proofs.Ythplidagfcdibaa
