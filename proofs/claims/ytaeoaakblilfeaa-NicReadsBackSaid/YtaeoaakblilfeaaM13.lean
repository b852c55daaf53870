/- Part 13 of the texts on which proofs about this seat rest: each says what it proves at its own head. No condition. -/
import Derived.Test.YtaeoaakblilfeaaM12
set_option linter.unusedVariables false
set_option linter.unusedSimpArgs false
/- An integer at the beginning of bytes is read, by the program. Condition: there are at most 100000 bytes. -/
namespace Go.Proofs.Ytaeoaakblilfeaa
open Go.Abs
variable {k : Nat}
theorem xor_i64_0 {a : Nat} (h : a < 9223372036854775808) : evBin .xor (.int .i64 (a : Int)) (.int .i64 0) = some (.int .i64 (a : Int)) := by
  have h1 : (BitVec.ofInt IntKind.i64.bits (a : Int) ^^^ BitVec.ofInt IntKind.i64.bits (0 : Int)).toNat = a := by
    show (BitVec.ofInt 64 (a : Int) ^^^ BitVec.ofInt 64 ((0 : Nat) : Int)).toNat = _
    rw [BitVec.toNat_xor, ofInt64 a (by omega), ofInt64 0 (by omega), Nat.xor_zero]
  simp only [evBin, reduceCtorEq, or_self, if_false, if_true, evInt, h1]
  rw [w64 (by omega) (by omega)]
theorem xor_i64_1 {a : Nat} (h : a < 9223372036854775808) : evBin .xor (.int .i64 (a : Int)) (.int .i64 (-1)) = some (.int .i64 (-1 - (a : Int))) := by
  have e0 : (BitVec.ofInt 64 (-1)).toNat = 18446744073709551615 := by decide +kernel
  have h1 : (BitVec.ofInt IntKind.i64.bits (a : Int) ^^^ BitVec.ofInt IntKind.i64.bits (-1 : Int)).toNat = 18446744073709551615 - a := by
    show (BitVec.ofInt 64 (a : Int) ^^^ BitVec.ofInt 64 (-1)).toNat = _
    rw [BitVec.toNat_xor, ofInt64 a (by omega), e0, ones_xor (by omega)]
  have e1 : (2 ^ IntKind.i64.bits : Int) = 18446744073709551616 := by decide +kernel
  have e2 : (2 ^ (IntKind.i64.bits - 1) : Int) = 9223372036854775808 := by decide +kernel
  have hs : IntKind.i64.signed = true := rfl
  simp only [evBin, reduceCtorEq, or_self, if_false, if_true, evInt, h1]
  unfold IntKind.wrap
  simp only [e1, e2, hs, Bool.true_and, decide_eq_true_eq]
  congr 2
  split <;> omega
theorem unz_ev {Z : Nat} (h : Z < 18446744073709551616) : evBin .xor (.int .i64 ((Z / 2 : Nat) : Int)) (.int .i64 (IntKind.i64.wrap (0 - ((Z % 2 : Nat) : Int)))) = some (.int .i64 (unz Z)) := by
  rcases Nat.mod_two_eq_zero_or_one Z with e | e
  · rw [e, w64 (by omega) (by omega), show (0 : Int) - ((0 : Nat) : Int) = 0 from rfl, xor_i64_0 (by omega)]
    unfold unz; rw [if_neg (by omega)]
  · rw [e, w64 (by omega) (by omega), show (0 : Int) - ((1 : Nat) : Int) = -1 from rfl, xor_i64_1 (by omega)]
    unfold unz; rw [if_pos e]
theorem rd_b1 {b : List UInt8} {i : Nat} (h : i < b.length) : rd (b.map ofB) (i * 1) 1 false = some (.int .u8 (bt b i : Nat)) := by
  simp only [rd, Bool.false_eq_true, if_false, Nat.mul_one, List.getElem?_map, List.getElem?_eq_getElem h, Option.map_some, ofB, AV.leaf, if_true]
  unfold bt
  rw [List.getD_eq_getElem?_getD, List.getElem?_eq_getElem h]; rfl
theorem bt_lt256 (b : List UInt8) (i : Nat) : bt b i < 256 := by
  unfold bt; exact UInt8.toNat_lt _
def trip (x : Int × Nat × Nat) : AV := .tup [.int .i64 x.1, .int .i64 x.2.1, .int .i64 x.2.2]
def Plain (lv : Nat → Bool) (c : Nat) (R r : AV) (hs : Hs) : Prop := r = R ∧ hs.n = 0 ∧ hs.lv = lv ∧ hs.c = c
theorem p128 (i : Nat) : 128 ^ i = 2 ^ (7 * i) := by rw [Nat.pow_mul]
set_option maxRecDepth 100000 in
set_option maxHeartbeats 4000000 in
theorem s77b {b : List UInt8} (hb : b.length ≤ 100000) {T : Nat → AV} {H : Hp} {E : Nat → Option TypeId} {lv : Nat → Bool} {c : Nat} : Wp (evCall FN (k + 99)) (k + 99) f77.body ⟨slots (argSlots 0 [csl 1 (b.map ofB)]) T, objs [] H, E, 0, lv, c⟩ (RetS f77 0 (Plain lv c (trip (getI b)))) := by
  have hlen : (b.map ofB).length / 1 = b.length := by simp
  repeat (first | refine stN ?_ | intro E)
  rw [hlen]
  refine q_loop (α := Nat) (LInv.mk (fun i => i ≤ b.length ∧ i ≤ 9 ∧ ∀ j, j < i → 128 ≤ bt b j) (fun i => 10 - i)
    (fun i => [(11, .int .i64 (i : Int)), (10, .int .i64 (b.length : Int)), (9, csl 1 (b.map ofB)), (6, .int .i64 0), (5, .int .u64 ((dz b i : Nat) : Int))]) (fun i => []))
    (fun _ lv' c' => lv' = lv ∧ c' = c) 0 ⟨Nat.zero_le _, by omega, fun j hj => absurd hj (Nat.not_lt_zero _)⟩ ⟨rfl, rfl⟩ (show 10 - 0 < k + 99 by omega) ⟨rfl, rfl, rfl, rfl, rfl, trivial⟩ trivial ?_
  rintro i lv1 c1 T H E ⟨hP, hi9, hall⟩ ⟨rfl, rfl⟩ hμ
  have hP : i ≤ b.length := hP
  have hi9 : i ≤ 9 := hi9
  have hall : ∀ j, j < i → 128 ≤ bt b j := hall
  clear hμ
  dsimp only
  rcases Nat.lt_or_ge i b.length with hi | hi
  · have gi : inB (i : Int) ((b.map ofB).length / 1) = some i := inB_n (by omega)
    have hr := rd_b1 hi
    have hx := bt_lt256 b i
    by_cases hA : i = 9 ∧ 1 < bt b i
    · have hg : getI b = (0, 0, 11) := by
        obtain ⟨h9, h1⟩ := hA
        unfold getI
        by_cases h10 : gk b = 10
        · rw [if_pos h10]
        · have hk : gk b = 9 := by
            by_cases hc : 128 ≤ bt b 9
            · exfalso
              apply h10
              refine gk_eq ⟨fun j hj => ?_, by omega, by omega, .inl rfl⟩
              by_cases e : j = 9
              · rw [e]; exact hc
              · exact hall j (by omega)
            · exact gk_eq ⟨fun j hj => hall j (by omega), by omega, by omega, .inr (.inr (by omega))⟩
          rw [if_neg h10, hk, if_neg (by omega), if_pos (.inl ⟨rfl, by rw [← h9]; exact h1⟩)]
      rw [hg]
      obtain ⟨h9, h1⟩ := hA
      generalize bt b i = x at *
      repeat (first | refine stN ?_ | intro E)
      apply n_ret
      repeat (first | refine stN ?_ | intro E)
      exact q_rets (.inr rfl) rfl rfl rfl rfl rfl ⟨rfl, rfl, rfl, rfl⟩
    by_cases hB : 0 < i ∧ bt b i = 0
    · have hg : getI b = (0, 0, 11) := by
        have hk : gk b = i := gk_eq ⟨hall, by omega, by omega, .inr (.inr (by omega))⟩
        unfold getI
        rw [hk, if_neg (by omega), if_neg (by omega), if_pos (.inr hB)]
      rw [hg]
      obtain ⟨h0, h1⟩ := hB
      rw [h1] at hr hA
      clear hall hg
      by_cases h9 : i = 9
      · repeat (first | refine stN ?_ | intro E)
        apply n_ret
        repeat (first | refine stN ?_ | intro E)
        exact q_rets (.inr rfl) rfl rfl rfl rfl rfl ⟨rfl, rfl, rfl, rfl⟩
      · repeat (first | refine stN ?_ | intro E)
        apply n_ret
        repeat (first | refine stN ?_ | intro E)
        exact q_rets (.inr rfl) rfl rfl rfl rfl rfl ⟨rfl, rfl, rfl, rfl⟩
    have hds := dz_succ hi
    have hdl := dz_lt (b := b) (i := i) hP
    rw [p128] at hds hdl
    have hfit : bt b i % 128 * 2 ^ (7 * i) ≤ 9223372036854775808 := by
      by_cases h9 : i = 9
      · have h1 : bt b i ≤ 1 := by omega
        have : bt b i % 128 * 2 ^ (7 * i) ≤ 1 * 2 ^ 63 := Nat.mul_le_mul (by omega) (by rw [h9]; exact Nat.le_refl _)
        have e : (2 : Nat) ^ 63 = 9223372036854775808 := by decide +kernel
        omega
      · have hm : 2 ^ (7 * i) ≤ 2 ^ 56 := Nat.pow_le_pow_right (by omega) (by omega)
        have : bt b i % 128 * 2 ^ (7 * i) ≤ 127 * 2 ^ 56 := Nat.mul_le_mul (by omega) hm
        have e : (2 : Nat) ^ 56 = 72057594037927936 := by decide +kernel
        omega
    have hp63 : 2 ^ (7 * i) ≤ 9223372036854775808 := by
      have hm : 2 ^ (7 * i) ≤ 2 ^ 63 := Nat.pow_le_pow_right (by omega) (by omega)
      have e : (2 : Nat) ^ 63 = 9223372036854775808 := by decide +kernel
      omega
    have hand := and127_u8 hx
    have hcv : IntKind.u64.wrap ((bt b i % 128 : Nat) : Int) = ((bt b i % 128 : Nat) : Int) := wu64 (by omega) (by omega)
    have hshl : evBin .shl (.int .u64 ((bt b i % 128 : Nat) : Int)) (.int .i64 ((7 * i : Nat) : Int)) = some (.int .u64 ((bt b i % 128 * 2 ^ (7 * i) : Nat) : Int)) := shl_u64 (by omega) (Nat.mod_eq_of_lt (by omega))
    have hor : evBin .or (.int .u64 ((dz b i : Nat) : Int)) (.int .u64 ((bt b i % 128 * 2 ^ (7 * i) : Nat) : Int)) = some (.int .u64 ((dz b (i + 1) : Nat) : Int)) := by
      rw [hds]; exact or_u64 hdl (by omega)
    have hZ : dz b (i + 1) < 18446744073709551616 := by omega
    have hall' : 128 ≤ bt b i → ∀ j, j < i + 1 → 128 ≤ bt b j := fun h j hj => by
      by_cases e : j = i
      · rw [e]; exact h
      · exact hall j (by omega)
    have hgk : bt b i < 128 → getI b = (unz (dz b (i + 1)), i + 1, 0) := fun hc => by
      have hk : gk b = i := gk_eq ⟨hall, by omega, by omega, .inr (.inr hc)⟩
      unfold getI
      rw [hk, if_neg (by omega), if_neg (by omega), if_neg (by omega)]
    clear hds hdl hfit hp63 hall
    generalize dz b i = z0 at *
    generalize hZZ : dz b (i + 1) = Z at *
    generalize bt b i % 128 * 2 ^ (7 * i) = M at *
    have hand : evBin .and (.int .u8 ((bt b i : Nat) : Int)) (.int .u8 127) = some (.int .u8 ((bt b i % 128 : Nat) : Int)) := hand
    generalize bt b i % 128 = y at *
    generalize bt b i = x at *
    by_cases hc : x < 128
    · rw [hgk hc]
      clear hgk hall'
      have h2 : evBin .shr (.int .u64 (Z : Int)) (.int .u64 1) = some (.int .u64 ((Z / 2 : Nat) : Int)) := shr_n (b := 1) (by decide)
      have h3 : IntKind.i64.wrap ((Z / 2 : Nat) : Int) = ((Z / 2 : Nat) : Int) := w64 (by omega) (by omega)
      have h4 := and1_u64 hZ
      have h5 : IntKind.i64.wrap ((Z % 2 : Nat) : Int) = ((Z % 2 : Nat) : Int) := w64 (by omega) (by omega)
      have h6 := unz_ev hZ
      unfold trip
      generalize unz Z = U at *
      rcases (show (i = 9 ∧ x = 1) ∨ (0 < i ∧ i ≠ 9 ∧ x ≠ 0) ∨ i = 0 by omega) with ⟨g1, g2⟩ | ⟨g1, g2, g3⟩ | g1
      all_goals
        repeat (first | refine stN ?_ | intro E)
        apply n_exit
        repeat (first | refine stN ?_ | intro E)
        exact q_rets (.inr rfl) rfl rfl rfl rfl rfl ⟨rfl, rfl, rfl, rfl⟩
    · have hn := hall' (by omega)
      clear hgk hall'
      rcases (show (0 < i ∧ i ≠ 9 ∧ x ≠ 0) ∨ i = 0 by omega) with ⟨g1, g2, g3⟩ | g1
      all_goals
        repeat (first | refine stN ?_ | intro E)
        exact n_again (i + 1) ⟨by omega, by omega, hn⟩ ⟨rfl, rfl⟩ (show 10 - (i + 1) < 10 - i by omega) ⟨rfl, rfl, rfl, rfl, by rw [hZZ]; rfl, trivial⟩ trivial
  · have hk : gk b = b.length := gk_eq ⟨fun j hj => hall j (by omega), Nat.le_refl _, by omega, .inr (.inl rfl)⟩
    have hg : getI b = (0, 0, 10) := by
      unfold getI
      rw [hk, if_neg (by omega), if_pos rfl]
    rw [hg]
    repeat (first | refine stN ?_ | intro E)
    apply n_exit
    repeat (first | refine stN ?_ | intro E)
    exact q_rets (.inr rfl) rfl rfl rfl rfl rfl ⟨rfl, rfl, rfl, rfl⟩
theorem s77 {b : List UInt8} (hb : b.length ≤ 100000) : Calls0 (evCall FN (k + 100)) 77 [csl 1 (b.map ofB)] (trip (getI b)) :=
  evP_call0 (q_evP (R := trip (getI b)) fn77 rfl fun T H E lv => wp_imp (s77b hb) fun e S hh => rets_imp hh fun r hs hf => by rw [hf.1]; rfl) rfl
theorem v77 {b : List UInt8} (hb : b.length ≤ 100000) {H : Hp} {E : Nat → Option TypeId} {lv : Nat → Bool} {c : Nat} : ∃ H', evCall FN (k + 100) 77 [csl 1 (b.map ofB)] ⟨H, 0, lv, c⟩ E = some (trip (getI b), ⟨H', 0, lv, c⟩) := by
  obtain ⟨r, ⟨H', n', lv', c'⟩, h1, rfl, h2, h3, h4⟩ := q_calls (os := []) (H := H) (E := E) (n := 0) (lv := lv) (c := c) (P := Plain lv c (trip (getI b))) fn77 fun T => s77b (k := k) hb
  have h2 : n' = 0 := h2
  have h3 : lv' = lv := h3
  have h4 : c' = c := h4
  subst h2 h3 h4
  exact ⟨H', h1⟩
end Go.Proofs.Ytaeoaakblilfeaa
