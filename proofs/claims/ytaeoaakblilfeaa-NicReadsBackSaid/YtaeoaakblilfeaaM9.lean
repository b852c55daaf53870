/- Part 9 of the texts on which proofs about this seat rest: each says what it proves at its own head. No condition. -/
import Derived.Test.YtaeoaakblilfeaaM8
set_option linter.unusedVariables false
set_option linter.unusedSimpArgs false
/- Take, Fail with any error, Finish: what they come to. Condition: the memory is valid, the ring is there, the indices are of the ring. -/
namespace Go.Proofs.Ytaeoaakblilfeaa
open Go.Abs
variable {k : Nat}
end Go.Proofs.Ytaeoaakblilfeaa

/- First: what it comes to, and the reference's. Condition: the memory is valid, the ring is there. -/
namespace Go.Proofs.Ytaeoaakblilfeaa
open Go.Abs
variable {k : Nat}
end Go.Proofs.Ytaeoaakblilfeaa

/- What is valid, and what is there. Condition: the numbers of the ring are words. -/
namespace Go.Proofs.Ytaeoaakblilfeaa
open Go.Abs
variable {k : Nat}
end Go.Proofs.Ytaeoaakblilfeaa

/- Parts cs a list, what covers a byte, and 'apart'. Conditions: the memories are valid and cs long; the parts' ends are numbers. -/
namespace Go.Proofs.Ytaeoaakblilfeaa
open Go.Abs
variable {k : Nat}
structure Pt where
  i : Nat
  a : Nat
  n : Nat
  w : Bool
end Go.Proofs.Ytaeoaakblilfeaa

/- Bytes are written, and scattered over parts, by the program. Condition: the memory is valid, the places are there. -/
namespace Go.Proofs.Ytaeoaakblilfeaa
open Go.Abs
variable {k : Nat}
end Go.Proofs.Ytaeoaakblilfeaa

/- Bytes are written, and scattered over parts, by the reference; the room of parts. Condition: the memory is valid, the places are there. -/
namespace Go.Proofs.Ytaeoaakblilfeaa
open Go.Abs
variable {k : Nat}
end Go.Proofs.Ytaeoaakblilfeaa

/- What marks and scattered bytes change, and what is known of a request that is taken. No condition but that the places are there. -/
namespace Go.Proofs.Ytaeoaakblilfeaa
open Go.Abs
def st (b j : Nat) : Pt := ⟨0, b + 16 * j + 12, 4, false⟩
structure WOK (bs : List UInt8) (b s : Nat) (js : List Nat) : Prop where
  len : js.length ≤ 4
  one : ∀ j ∈ js, j < s ∧ dw bs b j 3 = 1 ∧ 1 ≤ dw bs b j 1 ∧ dw bs b j 1 ≤ 512 ∧ dw bs b j 0 + dw bs b j 1 ≤ bs.length
  nd : js.Nodup
  ord : js.Pairwise fun x y => wr bs b x = true → wr bs b y = true
theorem WOK.snoc {bs : List UInt8} {b s i : Nat} {js : List Nat} (h : WOK bs b s js) (hi : i < s) (he : errAt bs b s js i = 0) : WOK bs b s (js ++ [i]) := by
  obtain ⟨e1, e2, e3, e4, e5, e6, _⟩ := errAt_ok he
  refine ⟨by rw [List.length_append, List.length_singleton]; omega, fun j hj => ?_, ?_, ?_⟩
  · rcases List.mem_append.1 hj with hh | hh
    · exact h.one j hh
    · rw [List.mem_singleton] at hh; subst hh; exact ⟨hi, e3, e4, e5, e6⟩
  · rw [List.nodup_append]
    exact ⟨h.nd, by simp, fun x hx y hy => by rw [List.mem_singleton] at hy; subst hy; exact fun hxy => e1 (hxy ▸ hx)⟩
  · rw [List.pairwise_append]
    refine ⟨h.ord, by simp, fun x hx y hy hw => ?_⟩
    rw [List.mem_singleton] at hy; subst hy
    have ha : js.any (wr bs b) = true := List.any_eq_true.2 ⟨x, hx, hw⟩
    unfold errAt errN at he
    rw [ha] at he
    have hb1 : bn true = 1 := rfl
    simp only [wr, decide_eq_true_eq]
    split at he <;> try omega
    split at he <;> try omega
    split at he <;> try omega
    split at he <;> omega
end Go.Proofs.Ytaeoaakblilfeaa

/- Bytes are read: by the program, whatever table it is looked up in, and by the reference. Condition: the memory is valid, the bytes are there. -/
namespace Go.Proofs.Ytaeoaakblilfeaa
open Go.Abs
variable {k : Nat} {X : FuncId → Option FnDef}
end Go.Proofs.Ytaeoaakblilfeaa

/- What the parts that are read bring: by the program, by the reference. Condition: the memory is valid, the parts that are read lie in it. -/
namespace Go.Proofs.Ytaeoaakblilfeaa
open Go.Abs
variable {k : Nat}
end Go.Proofs.Ytaeoaakblilfeaa

/- Arithmetic of 64-bit words and of bytes; calls of function values. No condition. -/
namespace Go.Proofs.Ytaeoaakblilfeaa
open Go.Abs
theorem p_callvS {F : CallF} {l : List IOper} {s : List (Nat × AV)} {os : List (Nat × List AV)} {T : Nat → AV} {H : Hp} {E : Nat → Option TypeId} {n c d : Nat} {lv : Nat → Bool} {Q : St → Prop} {f : FuncId} {x : X} {xs : List X} {fs args : List AV} {R : AV} {H' : Hp} {n' c' : Nat} {lv' : Nat → Bool} (hf : evL s x = some (.fn f fs [])) (ha : evsS s xs = some args) (hc : F f (fs ++ args) ⟨objs os H, n, lv, c⟩ E = some (R, ⟨H', n', lv', c'⟩))
    (k : WpO F l ⟨slots ((d, R) :: s) T, H', E, n', lv', c'⟩ Q) : WpO F (⟨some d, .callv x xs, none⟩ :: l) ⟨slots s T, objs os H, E, n, lv, c⟩ Q := by
  refine o_step (S1 := ⟨putT (slots s T) (some d) R, H', E, n', lv', c'⟩) ?_ k
  simp only [evStep, wants, isCall, evCallOp, evL_ev hf, evL_all (evsS_eq ha), List.append_nil, hc, if_true]
theorem wp_imp {F : CallF} {k : Nat} {c : IC} {S : St} {Q Q' : Ex → St → Prop} (h : Wp F k c S Q) (hq : ∀ e S, Q e S → Q' e S) : Wp F k c S Q' := by
  obtain ⟨e, S', h1, h2⟩ := h.ex
  exact ⟨e, S', h1, hq e S' h2⟩
theorem rets_imp {fn : IFn} {n : Nat} {P P' : AV → Hs → Prop} {e : Ex} {S : St} (h : RetS fn n P e S) (hp : ∀ r hs, P r hs → P' r hs) : RetS fn n P' e S := by
  obtain ⟨h1, r, hs, h2, h3⟩ := h
  exact ⟨h1, r, hs, h2, hp r hs h3⟩
theorem ofInt64 (n : Nat) (h : n < 18446744073709551616) : (BitVec.ofInt 64 (n : Int)).toNat = n := by
  simp only [BitVec.toNat_ofInt]
  omega
theorem ofInt8 (n : Nat) (h : n < 256) : (BitVec.ofInt 8 (n : Int)).toNat = n := by
  simp only [BitVec.toNat_ofInt]
  omega
theorem wu64' (n : Int) : IntKind.u64.wrap n = n % 18446744073709551616 := by
  have e1 : (2 ^ IntKind.u64.bits : Int) = 18446744073709551616 := by decide +kernel
  have hs : IntKind.u64.signed = false := rfl
  unfold IntKind.wrap
  simp only [e1, hs, Bool.false_and, Bool.false_eq_true, if_false]
theorem shl_u64 {b s r : Nat} {kk : IntKind} (hs : s < 64) (hr : b * 2 ^ s % 18446744073709551616 = r) : evBin .shl (.int .u64 b) (.int kk s) = some (.int .u64 r) := by
  subst hr
  have hm : min ((s : Int)).toNat IntKind.u64.bits = s := by
    have : IntKind.u64.bits = 64 := rfl
    rw [this]; simp; omega
  have hneg : ¬ ((s : Int) < 0) := by omega
  simp only [evBin, evShift, true_or, if_true, hneg, if_false, hm]
  have : ((b : Int) * 2 ^ s) = ((b * 2 ^ s : Nat) : Int) := by simp
  rw [this, wu64']
  rfl
theorem xor_u64 {x y r : Nat} (hx : x < 18446744073709551616) (hy : y < 18446744073709551616) (hr : x ^^^ y = r) : evBin .xor (.int .u64 x) (.int .u64 y) = some (.int .u64 r) := by
  have h1 : (BitVec.ofInt IntKind.u64.bits (x : Int) ^^^ BitVec.ofInt IntKind.u64.bits (y : Int)).toNat = x ^^^ y := by
    show (BitVec.ofInt 64 (x : Int) ^^^ BitVec.ofInt 64 (y : Int)).toNat = _
    rw [BitVec.toNat_xor, ofInt64 x hx, ofInt64 y hy]
  have h2 : x ^^^ y < 2 ^ 64 := Nat.xor_lt_two_pow (by omega) (by omega)
  have e2 : (2 : Nat) ^ 64 = 18446744073709551616 := by decide +kernel
  simp only [evBin, reduceCtorEq, or_self, if_false, if_true, evInt, h1]
  rw [wu64 (by omega) (by omega), hr]
theorem or_u64 {x y s : Nat} (hx : x < 2 ^ s) (h : x + y * 2 ^ s < 18446744073709551616) : evBin .or (.int .u64 x) (.int .u64 ((y * 2 ^ s : Nat) : Int)) = some (.int .u64 ((x + y * 2 ^ s : Nat) : Int)) := by
  have h1 : (BitVec.ofInt IntKind.u64.bits (x : Int) ||| BitVec.ofInt IntKind.u64.bits ((y * 2 ^ s : Nat) : Int)).toNat = x + y * 2 ^ s := by
    show (BitVec.ofInt 64 (x : Int) ||| BitVec.ofInt 64 ((y * 2 ^ s : Nat) : Int)).toNat = _
    rw [BitVec.toNat_or, ofInt64 x (by omega), ofInt64 (y * 2 ^ s) (by omega), Nat.or_comm, Nat.mul_comm y, ← Nat.two_pow_add_eq_or_of_lt hx]
    omega
  simp only [evBin, reduceCtorEq, or_self, if_false, if_true, evInt, h1]
  rw [wu64 (by omega) (by omega)]
theorem and1_u64 {x : Nat} (hx : x < 18446744073709551616) : evBin .and (.int .u64 x) (.int .u64 1) = some (.int .u64 ((x % 2 : Nat) : Int)) := by
  have h1 : (BitVec.ofInt IntKind.u64.bits (x : Int) &&& BitVec.ofInt IntKind.u64.bits (1 : Int)).toNat = x % 2 := by
    show (BitVec.ofInt 64 (x : Int) &&& BitVec.ofInt 64 ((1 : Nat) : Int)).toNat = _
    rw [BitVec.toNat_and, ofInt64 x hx, ofInt64 1 (by omega), Nat.and_one_is_mod]
  simp only [evBin, reduceCtorEq, or_self, if_false, if_true, evInt, h1]
  rw [wu64 (by omega) (by omega)]
theorem and127_u8 {x : Nat} (hx : x < 256) : evBin .and (.int .u8 x) (.int .u8 127) = some (.int .u8 ((x % 128 : Nat) : Int)) := by
  have h1 : (BitVec.ofInt IntKind.u8.bits (x : Int) &&& BitVec.ofInt IntKind.u8.bits (127 : Int)).toNat = x % 128 := by
    show (BitVec.ofInt 8 (x : Int) &&& BitVec.ofInt 8 ((127 : Nat) : Int)).toNat = _
    rw [BitVec.toNat_and, ofInt8 x hx, ofInt8 127 (by omega)]
    exact Nat.and_two_pow_sub_one_eq_mod x 7
  simp only [evBin, reduceCtorEq, or_self, if_false, if_true, evInt, h1]
  rw [w8n]; congr 3; omega
theorem or128_u8 {x : Nat} (hx : x < 256) : evBin .or (.int .u8 x) (.int .u8 128) = some (.int .u8 ((x % 128 + 128 : Nat) : Int)) := by
  have h0 : ∀ x : Fin 256, x.val ||| 128 = x.val % 128 + 128 := by decide +kernel
  have h1 : (BitVec.ofInt IntKind.u8.bits (x : Int) ||| BitVec.ofInt IntKind.u8.bits (128 : Int)).toNat = x % 128 + 128 := by
    show (BitVec.ofInt 8 (x : Int) ||| BitVec.ofInt 8 ((128 : Nat) : Int)).toNat = _
    rw [BitVec.toNat_or, ofInt8 x hx, ofInt8 128 (by omega)]
    exact h0 ⟨x, hx⟩
  simp only [evBin, reduceCtorEq, or_self, if_false, if_true, evInt, h1]
  rw [w8n]; congr 3; omega
theorem ones_xor {x : Nat} (hx : x < 18446744073709551616) : x ^^^ 18446744073709551615 = 18446744073709551615 - x := by
  have h := BitVec.toNat_not (x := BitVec.ofNat 64 x)
  have e : (~~~ BitVec.ofNat 64 x) = BitVec.ofNat 64 x ^^^ BitVec.allOnes 64 := BitVec.xor_allOnes.symm
  have e1 : (BitVec.ofNat 64 x).toNat = x := by simp; omega
  have e2 : (BitVec.allOnes 64).toNat = 18446744073709551615 := by decide +kernel
  rw [e, BitVec.toNat_xor, e1, e2] at h
  rw [h]
end Go.Proofs.Ytaeoaakblilfeaa

/- The encoding of an integer, and of a list of them, by the reference. Condition: the integers fit 64 bits. -/
namespace Go.Proofs.Ytaeoaakblilfeaa
open Go.Abs
variable {k : Nat}
def vlF : Nat → Nat → List UInt8
  | 0, _ => []
  | j + 1, z => if z < 128 then [UInt8.ofNat z] else UInt8.ofNat (z % 128 + 128) :: vlF j (z / 128)
def zz (n : Int) : Nat := if n < 0 then (-1 - n).toNat * 2 + 1 else n.toNat * 2
def encI (n : Int) : List UInt8 := vlF 10 (zz n)
def encL (l : List Int) : List UInt8 := encI l.length ++ l.flatMap encI
theorem vlF_len : ∀ (j z : Nat), (vlF j z).length ≤ j
  | 0, _ => Nat.le_refl _
  | j + 1, z => by
    unfold vlF
    split
    · simp
    · have := vlF_len j (z / 128)
      rw [List.length_cons]; omega
theorem vlF_ne {j z : Nat} : vlF (j + 1) z ≠ [] := by
  unfold vlF; split <;> simp
theorem encI_ne (n : Int) : encI n ≠ [] := vlF_ne
theorem encI_len (n : Int) : (encI n).length ≤ 10 := vlF_len _ _
def I64 (n : Int) : Prop := -9223372036854775808 ≤ n ∧ n < 9223372036854775808
def iV (l : List Int) : List AV := l.map fun n => .int .i64 n
theorem iV_get {l : List Int} {i : Nat} {n : Int} (h : l[i]? = some n) : rd (iV l) (i * 1) 1 false = some (.int .i64 n) := by
  simp only [rd, Bool.false_eq_true, if_false, Nat.mul_one, iV, List.getElem?_map, h, Option.map_some, AV.leaf, if_true]
theorem encT {l : List Int} {i : Nat} {n : Int} (h : l[i]? = some n) : (l.take (i + 1)).flatMap encI = (l.take i).flatMap encI ++ encI n := by
  rw [List.take_add_one, h, List.flatMap_append]; simp
theorem flat_encI (l : List Int) : (l.flatMap encI).length ≤ 10 * l.length := by
  induction l with
  | nil => simp
  | cons n l ih =>
    have := encI_len n
    simp only [List.flatMap_cons, List.length_append, List.length_cons]; omega
end Go.Proofs.Ytaeoaakblilfeaa
