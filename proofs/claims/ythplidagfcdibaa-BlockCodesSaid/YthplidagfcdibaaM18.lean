/- Part 18 of the texts on which proofs about this seat rest: each says what it proves at its own head. No condition. -/
import Derived.Test.YthplidagfcdibaaM17
set_option linter.unusedVariables false
set_option linter.unusedSimpArgs false
/- An integer at the beginning of bytes is read, by the program. Condition: there are at most 100000 bytes. -/
namespace Go.Proofs.Ythplidagfcdibaa
open Go.Abs
variable {k : Nat}
theorem xor_i64_0 {a : Nat} (h : a < 9223372036854775808) : evBin .xor (.int .i64 (a : Int)) (.int .i64 0) = some (.int .i64 (a : Int)) := by
  have h1 : (BitVec.ofInt IntKind.i64.bits (a : Int) ^^^ BitVec.ofInt IntKind.i64.bits (0 : Int)).toNat = a := by
    show (BitVec.ofInt 64 (a : Int) ^^^ BitVec.ofInt 64 ((0 : Nat) : Int)).toNat = _
    rw [BitVec.toNat_xor, ofInt64 a (by omega), ofInt64 0 (by omega), Nat.xor_zero]
  simp only [evBin, reduceCtorEq, or_self, if_false, if_true, evInt, h1]
  rw [w64 (by omega) (by omega)]
theorem xor_i64_1 {a : Nat} (h : a < 9223372036854775808) : evBin .xor (.int .i64 (a : Int)) (.int .i64 (-1)) = some (.int .i64 (-1 - (a : Int))) := by
  have e0 : (BitVec.ofInt 64 (-1)).toNat = 18446744073709551615 := by decide +kernel
  have h1 : (BitVec.ofInt IntKind.i64.bits (a : Int) ^^^ BitVec.ofInt IntKind.i64.bits (-1 : Int)).toNat = 18446744073709551615 - a := by
    show (BitVec.ofInt 64 (a : Int) ^^^ BitVec.ofInt 64 (-1)).toNat = _
    rw [BitVec.toNat_xor, ofInt64 a (by omega), e0, ones_xor (by omega)]
  have e1 : (2 ^ IntKind.i64.bits : Int) = 18446744073709551616 := by decide +kernel
  have e2 : (2 ^ (IntKind.i64.bits - 1) : Int) = 9223372036854775808 := by decide +kernel
  have hs : IntKind.i64.signed = true := rfl
  simp only [evBin, reduceCtorEq, or_self, if_false, if_true, evInt, h1]
  unfold IntKind.wrap
  simp only [e1, e2, hs, Bool.true_and, decide_eq_true_eq]
  congr 2
  split <;> omega
theorem unz_ev {Z : Nat} (h : Z < 18446744073709551616) : evBin .xor (.int .i64 ((Z / 2 : Nat) : Int)) (.int .i64 (IntKind.i64.wrap (0 - ((Z % 2 : Nat) : Int)))) = some (.int .i64 (unz Z)) := by
  rcases Nat.mod_two_eq_zero_or_one Z with e | e
  · rw [e, w64 (by omega) (by omega), show (0 : Int) - ((0 : Nat) : Int) = 0 from rfl, xor_i64_0 (by omega)]
    unfold unz; rw [if_neg (by omega)]
  · rw [e, w64 (by omega) (by omega), show (0 : Int) - ((1 : Nat) : Int) = -1 from rfl, xor_i64_1 (by omega)]
    unfold unz; rw [if_pos e]
theorem rd_b1 {b : List UInt8} {i : Nat} (h : i < b.length) : rd (b.map ofB) (i * 1) 1 false = some (.int .u8 (bt b i : Nat)) := by
  simp only [rd, Bool.false_eq_true, if_false, Nat.mul_one, List.getElem?_map, List.getElem?_eq_getElem h, Option.map_some, ofB, AV.leaf, if_true]
  unfold bt
  rw [List.getD_eq_getElem?_getD, List.getElem?_eq_getElem h]; rfl
theorem bt_lt256 (b : List UInt8) (i : Nat) : bt b i < 256 := by
  unfold bt; exact UInt8.toNat_lt _
def trip (x : Int × Nat × Nat) : AV := .tup [.int .i64 x.1, .int .i64 x.2.1, .int .i64 x.2.2]
def Plain (lv : Nat → Bool) (c : Nat) (R r : AV) (hs : Hs) : Prop := r = R ∧ hs.n = 0 ∧ hs.lv = lv ∧ hs.c = c
theorem p128 (i : Nat) : 128 ^ i = 2 ^ (7 * i) := by rw [Nat.pow_mul]
set_option maxRecDepth 100000 in
set_option maxHeartbeats 4000000 in
theorem s86b {b : List UInt8} (hb : b.length ≤ 100000) {T : Nat → AV} {H : Hp} {E : Nat → Option TypeId} {lv : Nat → Bool} {c : Nat} : Wp (evCall FN (k + 99)) (k + 99) f86.body ⟨slots (argSlots 0 [csl 1 (b.map ofB)]) T, objs [] H, E, 0, lv, c⟩ (RetS f86 0 (Plain lv c (trip (getI b)))) := by
  have hlen : (b.map ofB).length / 1 = b.length := by simp
  repeat (first | refine stN ?_ | intro E)
  rw [hlen]
  refine q_loop (α := Nat) (LInv.mk (fun i => i ≤ b.length ∧ i ≤ 9 ∧ ∀ j, j < i → 128 ≤ bt b j) (fun i => 10 - i)
    (fun i => [(11, .int .i64 (i : Int)), (10, .int .i64 (b.length : Int)), (9, csl 1 (b.map ofB)), (6, .int .i64 0), (5, .int .u64 ((dz b i : Nat) : Int))]) (fun i => []))
    (fun _ lv' c' => lv' = lv ∧ c' = c) 0 ⟨Nat.zero_le _, by omega, fun j hj => absurd hj (Nat.not_lt_zero _)⟩ ⟨rfl, rfl⟩ (show 10 - 0 < k + 99 by omega) ⟨rfl, rfl, rfl, rfl, rfl, trivial⟩ trivial ?_
  rintro i lv1 c1 T H E ⟨hP, hi9, hall⟩ ⟨rfl, rfl⟩ hμ
  have hP : i ≤ b.length := hP
  have hi9 : i ≤ 9 := hi9
  have hall : ∀ j, j < i → 128 ≤ bt b j := hall
  clear hμ
  dsimp only
  rcases Nat.lt_or_ge i b.length with hi | hi
  · have gi : inB (i : Int) ((b.map ofB).length / 1) = some i := inB_n (by omega)
    have hr := rd_b1 hi
    have hx := bt_lt256 b i
    by_cases hA : i = 9 ∧ 1 < bt b i
    · have hg : getI b = (0, 0, 11) := by
        obtain ⟨h9, h1⟩ := hA
        unfold getI
        by_cases h10 : gk b = 10
        · rw [if_pos h10]
        · have hk : gk b = 9 := by
            by_cases hc : 128 ≤ bt b 9
            · exfalso
              apply h10
              refine gk_eq ⟨fun j hj => ?_, by omega, by omega, .inl rfl⟩
              by_cases e : j = 9
              · rw [e]; exact hc
              · exact hall j (by omega)
            · exact gk_eq ⟨fun j hj => hall j (by omega), by omega, by omega, .inr (.inr (by omega))⟩
          rw [if_neg h10, hk, if_neg (by omega), if_pos (.inl ⟨rfl, by rw [← h9]; exact h1⟩)]
      rw [hg]
      obtain ⟨h9, h1⟩ := hA
      generalize bt b i = x at *
      repeat (first | refine stN ?_ | intro E)
      apply n_ret
      repeat (first | refine stN ?_ | intro E)
      exact q_rets (.inr rfl) rfl rfl rfl rfl rfl ⟨rfl, rfl, rfl, rfl⟩
    by_cases hB : 0 < i ∧ bt b i = 0
    · have hg : getI b = (0, 0, 11) := by
        have hk : gk b = i := gk_eq ⟨hall, by omega, by omega, .inr (.inr (by omega))⟩
        unfold getI
        rw [hk, if_neg (by omega), if_neg (by omega), if_pos (.inr hB)]
      rw [hg]
      obtain ⟨h0, h1⟩ := hB
      rw [h1] at hr hA
      clear hall hg
      by_cases h9 : i = 9
      · repeat (first | refine stN ?_ | intro E)
        apply n_ret
        repeat (first | refine stN ?_ | intro E)
        exact q_rets (.inr rfl) rfl rfl rfl rfl rfl ⟨rfl, rfl, rfl, rfl⟩
      · repeat (first | refine stN ?_ | intro E)
        apply n_ret
        repeat (first | refine stN ?_ | intro E)
        exact q_rets (.inr rfl) rfl rfl rfl rfl rfl ⟨rfl, rfl, rfl, rfl⟩
    have hds := dz_succ hi
    have hdl := dz_lt (b := b) (i := i) hP
    rw [p128] at hds hdl
    have hfit : bt b i % 128 * 2 ^ (7 * i) ≤ 9223372036854775808 := by
      by_cases h9 : i = 9
      · have h1 : bt b i ≤ 1 := by omega
        have : bt b i % 128 * 2 ^ (7 * i) ≤ 1 * 2 ^ 63 := Nat.mul_le_mul (by omega) (by rw [h9]; exact Nat.le_refl _)
        have e : (2 : Nat) ^ 63 = 9223372036854775808 := by decide +kernel
        omega
      · have hm : 2 ^ (7 * i) ≤ 2 ^ 56 := Nat.pow_le_pow_right (by omega) (by omega)
        have : bt b i % 128 * 2 ^ (7 * i) ≤ 127 * 2 ^ 56 := Nat.mul_le_mul (by omega) hm
        have e : (2 : Nat) ^ 56 = 72057594037927936 := by decide +kernel
        omega
    have hp63 : 2 ^ (7 * i) ≤ 9223372036854775808 := by
      have hm : 2 ^ (7 * i) ≤ 2 ^ 63 := Nat.pow_le_pow_right (by omega) (by omega)
      have e : (2 : Nat) ^ 63 = 9223372036854775808 := by decide +kernel
      omega
    have hand := and127_u8 hx
    have hcv : IntKind.u64.wrap ((bt b i % 128 : Nat) : Int) = ((bt b i % 128 : Nat) : Int) := wu64 (by omega) (by omega)
    have hshl : evBin .shl (.int .u64 ((bt b i % 128 : Nat) : Int)) (.int .i64 ((7 * i : Nat) : Int)) = some (.int .u64 ((bt b i % 128 * 2 ^ (7 * i) : Nat) : Int)) := shl_u64 (by omega) (Nat.mod_eq_of_lt (by omega))
    have hor : evBin .or (.int .u64 ((dz b i : Nat) : Int)) (.int .u64 ((bt b i % 128 * 2 ^ (7 * i) : Nat) : Int)) = some (.int .u64 ((dz b (i + 1) : Nat) : Int)) := by
      rw [hds]; exact or_u64 hdl (by omega)
    have hZ : dz b (i + 1) < 18446744073709551616 := by omega
    have hall' : 128 ≤ bt b i → ∀ j, j < i + 1 → 128 ≤ bt b j := fun h j hj => by
      by_cases e : j = i
      · rw [e]; exact h
      · exact hall j (by omega)
    have hgk : bt b i < 128 → getI b = (unz (dz b (i + 1)), i + 1, 0) := fun hc => by
      have hk : gk b = i := gk_eq ⟨hall, by omega, by omega, .inr (.inr hc)⟩
      unfold getI
      rw [hk, if_neg (by omega), if_neg (by omega), if_neg (by omega)]
    clear hds hdl hfit hp63 hall
    generalize dz b i = z0 at *
    generalize hZZ : dz b (i + 1) = Z at *
    generalize bt b i % 128 * 2 ^ (7 * i) = M at *
    have hand : evBin .and (.int .u8 ((bt b i : Nat) : Int)) (.int .u8 127) = some (.int .u8 ((bt b i % 128 : Nat) : Int)) := hand
    generalize bt b i % 128 = y at *
    generalize bt b i = x at *
    by_cases hc : x < 128
    · rw [hgk hc]
      clear hgk hall'
      have h2 : evBin .shr (.int .u64 (Z : Int)) (.int .u64 1) = some (.int .u64 ((Z / 2 : Nat) : Int)) := shr_n (b := 1) (by decide)
      have h3 : IntKind.i64.wrap ((Z / 2 : Nat) : Int) = ((Z / 2 : Nat) : Int) := w64 (by omega) (by omega)
      have h4 := and1_u64 hZ
      have h5 : IntKind.i64.wrap ((Z % 2 : Nat) : Int) = ((Z % 2 : Nat) : Int) := w64 (by omega) (by omega)
      have h6 := unz_ev hZ
      unfold trip
      generalize unz Z = U at *
      rcases (show (i = 9 ∧ x = 1) ∨ (0 < i ∧ i ≠ 9 ∧ x ≠ 0) ∨ i = 0 by omega) with ⟨g1, g2⟩ | ⟨g1, g2, g3⟩ | g1
      all_goals
        repeat (first | refine stN ?_ | intro E)
        apply n_exit
        repeat (first | refine stN ?_ | intro E)
        exact q_rets (.inr rfl) rfl rfl rfl rfl rfl ⟨rfl, rfl, rfl, rfl⟩
    · have hn := hall' (by omega)
      clear hgk hall'
      rcases (show (0 < i ∧ i ≠ 9 ∧ x ≠ 0) ∨ i = 0 by omega) with ⟨g1, g2, g3⟩ | g1
      all_goals
        repeat (first | refine stN ?_ | intro E)
        exact n_again (i + 1) ⟨by omega, by omega, hn⟩ ⟨rfl, rfl⟩ (show 10 - (i + 1) < 10 - i by omega) ⟨rfl, rfl, rfl, rfl, by rw [hZZ]; rfl, trivial⟩ trivial
  · have hk : gk b = b.length := gk_eq ⟨fun j hj => hall j (by omega), Nat.le_refl _, by omega, .inr (.inl rfl)⟩
    have hg : getI b = (0, 0, 10) := by
      unfold getI
      rw [hk, if_neg (by omega), if_pos rfl]
    rw [hg]
    repeat (first | refine stN ?_ | intro E)
    apply n_exit
    repeat (first | refine stN ?_ | intro E)
    exact q_rets (.inr rfl) rfl rfl rfl rfl rfl ⟨rfl, rfl, rfl, rfl⟩
theorem s86 {b : List UInt8} (hb : b.length ≤ 100000) : Calls0 (evCall FN (k + 100)) 86 [csl 1 (b.map ofB)] (trip (getI b)) :=
  evP_call0 (q_evP (R := trip (getI b)) fn86 rfl fun T H E lv => wp_imp (s86b hb) fun e S hh => rets_imp hh fun r hs hf => by rw [hf.1]; rfl) rfl
theorem v77 {b : List UInt8} (hb : b.length ≤ 100000) {H : Hp} {E : Nat → Option TypeId} {lv : Nat → Bool} {c : Nat} : ∃ H', evCall FN (k + 100) 86 [csl 1 (b.map ofB)] ⟨H, 0, lv, c⟩ E = some (trip (getI b), ⟨H', 0, lv, c⟩) := by
  obtain ⟨r, ⟨H', n', lv', c'⟩, h1, rfl, h2, h3, h4⟩ := q_calls (os := []) (H := H) (E := E) (n := 0) (lv := lv) (c := c) (P := Plain lv c (trip (getI b))) fn86 fun T => s86b (k := k) hb
  have h2 : n' = 0 := h2
  have h3 : lv' = lv := h3
  have h4 : c' = c := h4
  subst h2 h3 h4
  exact ⟨H', h1⟩
end Go.Proofs.Ythplidagfcdibaa

/- An integer at the beginning of bytes is read, by the reference. Condition: there are at most 100000 bytes. -/
namespace Go.Proofs.Ythplidagfcdibaa
open Go.Abs
variable {k : Nat}
theorem rem_u8 (x : Nat) : evBin .rem (.int .u8 (x : Int)) (.int .u8 128) = some (.int .u8 ((x % 128 : Nat) : Int)) := rfl
theorem rem_u64 (x m : Nat) (h : 0 < m) : evBin .rem (.int .u64 (x : Int)) (.int .u64 (m : Int)) = some (.int .u64 ((x % m : Nat) : Int)) := by
  show (if (m : Int) = 0 then none else some (AV.int .u64 (Int.tmod (x : Int) (m : Int)))) = _
  rw [if_neg (by omega)]; rfl
theorem quo_u64 (x m : Nat) (h : 0 < m) (hx : x < 18446744073709551616) : evBin .quo (.int .u64 (x : Int)) (.int .u64 (m : Int)) = some (.int .u64 ((x / m : Nat) : Int)) := by
  show (if (m : Int) = 0 then none else some (AV.int .u64 (IntKind.u64.wrap (Int.tdiv (x : Int) (m : Int))))) = _
  have : x / m ≤ x := Nat.div_le_self _ _
  rw [if_neg (by omega), show Int.tdiv (x : Int) (m : Int) = ((x / m : Nat) : Int) from rfl]
  generalize x / m = q at this ⊢
  rw [wu64 (by omega) (by omega)]
theorem mul_u64 (x m : Nat) (h : x * m < 18446744073709551616) : evBin .mul (.int .u64 (x : Int)) (.int .u64 (m : Int)) = some (.int .u64 ((x * m : Nat) : Int)) := by
  show some (AV.int .u64 (IntKind.u64.wrap ((x : Int) * (m : Int)))) = _
  rw [← Int.natCast_mul, wu64 (by omega) (by omega)]
theorem add_u64 (x m : Nat) (h : x + m < 18446744073709551616) : evBin .add (.int .u64 (x : Int)) (.int .u64 (m : Int)) = some (.int .u64 ((x + m : Nat) : Int)) := by
  show some (AV.int .u64 (IntKind.u64.wrap ((x : Int) + (m : Int)))) = _
  rw [← Int.natCast_add, wu64 (by omega) (by omega)]
theorem getI_bound {b : List UInt8} {i : Nat} (hi : i < b.length) (hi9 : i ≤ 9) (h : ¬ (i = 9 ∧ 1 < bt b i)) (hc : bt b i < 128) : dz b (i + 1) < 18446744073709551616 := by
  rw [dz_succ hi]
  have h0 := dz_lt (b := b) (i := i) (by omega)
  by_cases h9 : i = 9
  · subst h9
    rw [p128_9] at h0 ⊢
    have : bt b 9 % 128 * 9223372036854775808 ≤ 1 * 9223372036854775808 := Nat.mul_le_mul_right _ (by omega)
    omega
  · have hm : 128 ^ i ≤ 128 ^ 8 := Nat.pow_le_pow_right (by omega) (by omega)
    have : bt b i % 128 * 128 ^ i ≤ 127 * 128 ^ 8 := Nat.mul_le_mul (by omega) hm
    have e8 : (128 : Nat) ^ 8 = 72057594037927936 := by decide +kernel
    rw [e8] at hm this
    omega
set_option maxRecDepth 100000 in
set_option maxHeartbeats 4000000 in
theorem s88 {b : List UInt8} (hb : b.length ≤ 100000) : Calls0 (evCall FN (k + 100)) 88 [csl 1 (b.map ofB)] (trip (getI b)) := by
  have hlen : (b.map ofB).length / 1 = b.length := by simp
  refine q_call0 fn88 fun T H E lv => ?_
  repeat (first | refine stN ?_ | intro E)
  refine q_loop (α := Nat) (LInv.mk (fun i => i ≤ b.length ∧ i ≤ 10 ∧ ∀ j, j < i → 128 ≤ bt b j) (fun i => 10 - i)
    (fun i => [(5, .int .i64 (i : Int)), (0, csl 1 (b.map ofB))]) (fun i => []))
    (fun _ _ c' => c' = 4) 0 ⟨Nat.zero_le _, by omega, fun j hj => absurd hj (Nat.not_lt_zero _)⟩ rfl (show 10 - 0 < k + 99 by omega) ⟨rfl, rfl, trivial⟩ trivial ?_
  rintro i lv c T H E ⟨hP, hi9, hall⟩ rfl hμ
  have hP : i ≤ b.length := hP
  have hi9 : i ≤ 10 := hi9
  have hall : ∀ j, j < i → 128 ≤ bt b j := hall
  clear hμ
  dsimp only
  have hx := bt_lt256 b i
  have gi : i < b.length → inB (i : Int) ((b.map ofB).length / 1) = some i := fun h => inB_n (by omega)
  have hr : i < b.length → rd (b.map ofB) (i * 1) 1 false = some (.int .u8 (bt b i : Nat)) := rd_b1
  by_cases hgo : i < b.length ∧ i < 10 ∧ 128 ≤ bt b i
  · obtain ⟨g1, g2, g3⟩ := hgo
    have gi := gi g1
    have hr := hr g1
    have hall' : ∀ j, j < i + 1 → 128 ≤ bt b j := fun j hj => by
      by_cases e : j = i
      · rw [e]; exact g3
      · exact hall j (by omega)
    generalize bt b i = x at hr g3
    repeat (first | refine stN ?_ | intro E)
    exact n_again (i + 1) ⟨by omega, by omega, hall'⟩ rfl (show 10 - (i + 1) < 10 - i by omega) ⟨rfl, rfl, trivial⟩ trivial
  · have hk : gk b = i := gk_eq ⟨hall, hP, hi9, by omega⟩
    have hG : getI b = if i = 10 then (0, 0, 11) else if i = b.length then (0, 0, 10) else if (i = 9 ∧ 1 < bt b i) ∨ (0 < i ∧ bt b i = 0) then (0, 0, 11) else (unz (dz b (i + 1)), i + 1, 0) := by
      unfold getI; rw [hk]
    by_cases h10 : i = 10
    · rw [hG, if_pos h10]
      clear hG hall hk hr
      by_cases hl : i < b.length
      · repeat (first | refine stN ?_ | intro E)
        apply n_exit
        repeat (first | refine stN ?_ | intro E)
        exact q_ret (.inr rfl) rfl rfl rfl rfl rfl rfl
      · repeat (first | refine stN ?_ | intro E)
        apply n_exit
        repeat (first | refine stN ?_ | intro E)
        exact q_ret (.inr rfl) rfl rfl rfl rfl rfl rfl
    rw [if_neg h10] at hG
    by_cases hle : i = b.length
    · rw [hG, if_pos hle]
      clear hG hall hk hr
      repeat (first | refine stN ?_ | intro E)
      apply n_exit
      repeat (first | refine stN ?_ | intro E)
      exact q_ret (.inr rfl) rfl rfl rfl rfl rfl rfl
    rw [if_neg hle] at hG
    have hi : i < b.length := by omega
    have gi := gi hi
    have hr := hr hi
    have hlt : bt b i < 128 := by omega
    by_cases hbad : (i = 9 ∧ 1 < bt b i) ∨ (0 < i ∧ bt b i = 0)
    · rw [hG, if_pos hbad]
      clear hG hall hk hgo
      generalize bt b i = x at *
      rcases (show (i = 9 ∧ 1 < x) ∨ (i = 9 ∧ x = 0) ∨ (0 < i ∧ i ≠ 9 ∧ x = 0) by omega) with ⟨g1, g2⟩ | ⟨g1, g2⟩ | ⟨g1, g2, g3⟩
      all_goals
        repeat (first | refine stN ?_ | intro E)
        apply n_exit
        repeat (first | refine stN ?_ | intro E)
        exact q_ret (.inr rfl) rfl rfl rfl rfl rfl rfl
    rw [if_neg hbad] at hG
    have hZ := getI_bound hi (by omega) (fun h => hbad (.inl h)) hlt
    rw [hG]
    unfold trip
    dsimp only
    generalize hZZ : dz b (i + 1) = Z at *
    clear hG hk hgo hall
    generalize hxx : bt b i = x at *
    rcases (show (i = 9 ∧ x = 1) ∨ (0 < i ∧ i ≠ 9 ∧ x ≠ 0) ∨ i = 0 by omega) with g1 | g1 | g1
    all_goals
      repeat (first | refine stN ?_ | intro E)
      apply n_exit
      repeat (first | refine stN ?_ | intro E)
      refine q_loop (α := Nat × Nat) (LInv.mk (fun p => p.1 ≤ i + 1 ∧ p.2 * 128 ^ p.1 + dz b p.1 = Z) (fun p => p.1)
        (fun p => [(7, .int .i64 ((p.1 : Int) - 1)), (6, .int .u64 (p.2 : Int)), (5, .int .i64 (i : Int)), (0, csl 1 (b.map ofB))]) (fun i => []))
        (fun _ _ c' => c' = 4) (i + 1, 0) ⟨Nat.le_refl _, by dsimp only; rw [Nat.zero_mul, Nat.zero_add]; exact hZZ⟩ rfl (show i + 1 < k + 99 by omega) ⟨by show _ = some (AV.int .i64 (((i + 1 : Nat) : Int) - 1)); rw [show (((i + 1 : Nat) : Int) - 1) = (i : Int) by omega]; rfl, rfl, rfl, rfl, trivial⟩ trivial ?_
      clear hr gi hx hbad g1 hlt
      rintro ⟨j, z⟩ lv c T H E ⟨hj, hz⟩ rfl hμ
      have hj : j ≤ i + 1 := hj
      have hz : z * 128 ^ j + dz b j = Z := hz
      clear hμ
      dsimp only
      cases j with
      | zero =>
        have hz : z = Z := by
          have e0 : dz b 0 = 0 := by unfold dz; rw [List.take_zero]; rfl
          rw [e0, Nat.pow_zero] at hz; omega
        subst hz
        rw [show ((0 : Nat) : Int) - 1 = -1 from rfl]
        have hm : evBin .rem (.int .u64 (z : Int)) (.int .u64 2) = some (.int .u64 ((z % 2 : Nat) : Int)) := rem_u64 z 2 (by omega)
        have hq : evBin .quo (.int .u64 (z : Int)) (.int .u64 2) = some (.int .u64 ((z / 2 : Nat) : Int)) := quo_u64 z 2 (by omega) hZ
        have h3 : IntKind.i64.wrap ((z / 2 : Nat) : Int) = ((z / 2 : Nat) : Int) := w64 (by omega) (by omega)
        have h4 : evBin .sub (.int .i64 (-1)) (.int .i64 ((z / 2 : Nat) : Int)) = some (.int .i64 (-1 - ((z / 2 : Nat) : Int))) := sub_w rfl (by omega) (by omega)
        rcases Nat.mod_two_eq_zero_or_one z with e | e
        · have hu : unz z = ((z / 2 : Nat) : Int) := if_neg (by omega)
          rw [hu]
          rw [e] at hm
          repeat (first | refine stN ?_ | intro E)
          apply n_exit
          repeat (first | refine stN ?_ | intro E)
          exact q_ret (.inr rfl) rfl rfl rfl rfl rfl rfl
        · have hu : unz z = -1 - ((z / 2 : Nat) : Int) := if_pos e
          rw [hu]
          rw [e] at hm
          repeat (first | refine stN ?_ | intro E)
          apply n_exit
          repeat (first | refine stN ?_ | intro E)
          exact q_ret (.inr rfl) rfl rfl rfl rfl rfl rfl
      | succ j =>
        have hjl : j < b.length := by omega
        have hds := dz_succ hjl
        have gi : inB (j : Int) ((b.map ofB).length / 1) = some j := inB_n (by omega)
        have hr := rd_b1 hjl
        have hx := bt_lt256 b j
        have hz2 : (z * 128 + bt b j % 128) * 128 ^ j + dz b j = Z := by
          rw [← hz, hds, Nat.pow_succ, Nat.add_mul, Nat.mul_assoc, Nat.mul_comm 128]; omega
        have h1 : 1 ≤ 128 ^ j := Nat.one_le_pow _ _ (by omega)
        have hzb : z * 128 + bt b j % 128 ≤ (z * 128 + bt b j % 128) * 128 ^ j := Nat.le_mul_of_pos_right _ h1
        have hm : evBin .mul (.int .u64 (z : Int)) (.int .u64 128) = some (.int .u64 ((z * 128 : Nat) : Int)) := mul_u64 z 128 (by omega)
        have hrm := rem_u8 (bt b j)
        have hcv : IntKind.u64.wrap ((bt b j % 128 : Nat) : Int) = ((bt b j % 128 : Nat) : Int) := wu64 (by omega) (by omega)
        have ha := add_u64 (z * 128) (bt b j % 128) (by omega)
        have hs : evBin .sub (.int .i64 (j : Int)) (.int .i64 1) = some (.int .i64 ((j : Int) - 1)) := sub_w rfl (by omega) (by omega)
        rw [show (((j + 1 : Nat) : Int) - 1) = (j : Int) by omega]
        clear hz hds hzb h1
        generalize hy : bt b j % 128 = y at *
        generalize bt b j = x at *
        repeat (first | refine stN ?_ | intro E)
        exact n_again (j, z * 128 + y) ⟨show j ≤ i + 1 by omega, hz2⟩ rfl (show j < j + 1 by omega) ⟨rfl, rfl, rfl, rfl, trivial⟩ trivial
end Go.Proofs.Ythplidagfcdibaa

/- The length of a list, by the program and by the reference. Condition: there are at most 100000 bytes. -/
namespace Go.Proofs.Ythplidagfcdibaa
open Go.Abs
variable {k : Nat}
def lenI (b : List UInt8) (least : Nat) : Nat × Nat × Nat :=
  if (getI b).2.2 ≠ 0 then (0, 0, (getI b).2.2)
  else if (getI b).1 < 0 then (0, 0, 11)
  else if (((b.length - (getI b).2.1) / least : Nat) : Int) < (getI b).1 then (0, 0, 10)
  else ((getI b).1.toNat, (getI b).2.1, 0)
def tripN (x : Nat × Nat × Nat) : AV := .tup [.int .i64 x.1, .int .i64 x.2.1, .int .i64 x.2.2]
theorem getI_use (b : List UInt8) : (getI b).2.1 ≤ b.length ∧ ((getI b).2.2 = 0 ∨ (getI b).2.2 = 10 ∨ (getI b).2.2 = 11) ∧ I64 (getI b).1 := by
  by_cases h : (getI b).2.2 = 0
  · obtain ⟨h1, h2, h3, h4, h5⟩ := getI_ok (b := b) (x := (getI b).1) (u := (getI b).2.1) (by rw [← h])
    exact ⟨h1, .inl h, h4⟩
  · unfold getI at h ⊢
    have hz : I64 0 := ⟨by omega, by omega⟩
    by_cases h1 : gk b = 10
    · rw [if_pos h1]; exact ⟨Nat.zero_le _, .inr (.inr rfl), hz⟩
    rw [if_neg h1] at h ⊢
    by_cases h2 : gk b = b.length
    · rw [if_pos h2]; exact ⟨Nat.zero_le _, .inr (.inl rfl), hz⟩
    rw [if_neg h2] at h ⊢
    by_cases h3 : (gk b = 9 ∧ 1 < bt b (gk b)) ∨ (0 < gk b ∧ bt b (gk b) = 0)
    · rw [if_pos h3]; exact ⟨Nat.zero_le _, .inr (.inr rfl), hz⟩
    · rw [if_neg h3] at h; exact absurd rfl h
set_option maxRecDepth 100000 in
set_option maxHeartbeats 2000000 in
theorem s87 {b : List UInt8} {least : Nat} (hb : b.length ≤ 100000) (hl : 1 ≤ least ∧ least ≤ 1000) : Calls0 (evCall FN (k + 200)) 87 [csl 1 (b.map ofB), .int .i64 least] (tripN (lenI b least)) := by
  have hlen : (b.map ofB).length / 1 = b.length := by simp
  have c88 : Calls0 (evCall FN (k + 199)) 88 [csl 1 (b.map ofB)] (trip (getI b)) := s88 (k := k + 99) hb
  obtain ⟨g1, g2, g3⟩ := getI_use b
  unfold lenI
  unfold trip at c88
  generalize getI b = G at *
  obtain ⟨n, u, e⟩ := G
  dsimp only at g1 g2 g3 c88 ⊢
  obtain ⟨g4, g5⟩ := g3
  refine q_call0 fn87 fun T H E lv => ?_
  by_cases he : e ≠ 0
  · rw [if_pos he]
    repeat (first | refine stN ?_ | intro E)
    exact q_ret (.inr rfl) rfl rfl rfl rfl rfl rfl
  rw [if_neg he]
  have he : e = 0 := by omega
  subst he
  by_cases hn : n < 0
  · rw [if_pos hn]
    repeat (first | refine stN ?_ | intro E)
    exact q_ret (.inr rfl) rfl rfl rfl rfl rfl rfl
  rw [if_neg hn]
  obtain ⟨m, rfl⟩ : ∃ m : Nat, n = m := ⟨n.toNat, by omega⟩
  have hd : (b.length - u) / least ≤ b.length - u := Nat.div_le_self _ _
  have hq : evBin .quo (.int .i64 (((b.map ofB).length / 1 - u : Nat) : Int)) (.int .i64 (least : Int)) = some (.int .i64 (((b.length - u) / least : Nat) : Int)) := by rw [hlen]; exact quo_nn (by omega)
  generalize (b.length - u) / least = D at *
  by_cases hm : (D : Int) < (m : Int)
  · rw [if_pos hm]
    repeat (first | refine stN ?_ | intro E)
    exact q_ret (.inr rfl) rfl rfl rfl rfl rfl rfl
  · rw [if_neg hm, Int.toNat_natCast]
    repeat (first | refine stN ?_ | intro E)
    exact q_ret (.inr rfl) rfl rfl rfl rfl rfl rfl
set_option maxRecDepth 100000 in
set_option maxHeartbeats 2000000 in
theorem s108 {b : List UInt8} {least : Nat} (hb : b.length ≤ 100000) (hl : 1 ≤ least ∧ least ≤ 1000) : Calls0 (evCall FN (k + 200)) 108 [csl 1 (b.map ofB), .int .i64 least] (tripN (lenI b least)) := by
  have hlen : (b.map ofB).length / 1 = b.length := by simp
  have c86 : Calls0 (evCall FN (k + 199)) 86 [csl 1 (b.map ofB)] (trip (getI b)) := s86 (k := k + 99) hb
  obtain ⟨g1, g2, g3⟩ := getI_use b
  unfold lenI
  unfold trip at c86
  generalize getI b = G at *
  obtain ⟨n, u, e⟩ := G
  dsimp only at g1 g2 g3 c86 ⊢
  obtain ⟨g4, g5⟩ := g3
  refine q_call0 fn108 fun T H E lv => ?_
  by_cases he : e ≠ 0
  · rw [if_pos he]
    repeat (first | refine stN ?_ | intro E)
    exact q_ret (.inr rfl) rfl rfl rfl rfl rfl rfl
  rw [if_neg he]
  have he : e = 0 := by omega
  subst he
  by_cases hn : n < 0
  · rw [if_pos hn]
    repeat (first | refine stN ?_ | intro E)
    exact q_ret (.inr rfl) rfl rfl rfl rfl rfl rfl
  rw [if_neg hn]
  obtain ⟨m, rfl⟩ : ∃ m : Nat, n = m := ⟨n.toNat, by omega⟩
  have hd : (b.length - u) / least ≤ b.length - u := Nat.div_le_self _ _
  have hq : evBin .quo (.int .i64 (((b.map ofB).length / 1 - u : Nat) : Int)) (.int .i64 (least : Int)) = some (.int .i64 (((b.length - u) / least : Nat) : Int)) := by rw [hlen]; exact quo_nn (by omega)
  generalize (b.length - u) / least = D at *
  by_cases hm : (D : Int) < (m : Int)
  · rw [if_pos hm]
    repeat (first | refine stN ?_ | intro E)
    exact q_ret (.inr rfl) rfl rfl rfl rfl rfl rfl
  · rw [if_neg hm, Int.toNat_natCast]
    repeat (first | refine stN ?_ | intro E)
    exact q_ret (.inr rfl) rfl rfl rfl rfl rfl rfl
end Go.Proofs.Ythplidagfcdibaa

/- A list of integers at the beginning of bytes is read, by the program and by the reference. Condition: there are at most 100000 bytes. -/
namespace Go.Proofs.Ythplidagfcdibaa
open Go.Abs
variable {k : Nat}
def getsF (b : List UInt8) : Nat → Nat → List Int → List Int × Nat × Nat
  | 0, a, acc => (acc, a, 0)
  | n + 1, a, acc => if (getI (b.drop a)).2.2 ≠ 0 then ([], 0, (getI (b.drop a)).2.2) else getsF b n (a + (getI (b.drop a)).2.1) (acc ++ [(getI (b.drop a)).1])
def getL (b : List UInt8) : List Int × Nat × Nat := if (lenI b 1).2.2 ≠ 0 then ([], 0, (lenI b 1).2.2) else getsF b (lenI b 1).1 (lenI b 1).2.1 []
def tripL (x : List Int × Nat × Nat) : AV := .tup [csl 1 (iV x.1), .int .i64 x.2.1, .int .i64 x.2.2]
theorem lenI_use (b : List UInt8) : (lenI b 1).2.1 ≤ b.length ∧ (lenI b 1).1 ≤ b.length ∧ (lenI b 1).2.2 ≤ 11 := by
  have h := getI_use b
  unfold lenI
  obtain ⟨g1, g2, g3, g4⟩ := h
  generalize getI b = G at *
  (repeat' split)
  · exact ⟨Nat.zero_le _, Nat.zero_le _, by dsimp only; omega⟩
  · exact ⟨Nat.zero_le _, Nat.zero_le _, by dsimp only; omega⟩
  · exact ⟨Nat.zero_le _, Nat.zero_le _, by dsimp only; omega⟩
  · next h1 h2 h3 =>
    rw [Nat.div_one] at h3
    exact ⟨g1, by dsimp only; omega, Nat.zero_le _⟩
theorem iV_snoc (l : List Int) (x : Int) : iV l ++ [.int .i64 x] = iV (l ++ [x]) := by simp [iV]
theorem iV_len (l : List Int) : (iV l).length = l.length := by unfold iV; simp
theorem drop_ofB (b : List UInt8) (a : Nat) : ((b.map ofB).take ((b.map ofB).length / 1 * 1)).drop (a * 1) = (b.drop a).map ofB := by
  rw [Nat.div_one, Nat.mul_one, Nat.mul_one, List.take_length, List.map_drop]
theorem la_fin {br z c : Nat} {lv : Nat → Bool} {xs : List AV} (h : LA 1 lv c br z xs) : canonCell (.sl br z xs) = csl 1 xs := by
  rcases h with ⟨rfl, rfl, rfl⟩ | ⟨h1, _, _, rfl⟩
  · rfl
  · exact if_neg (by omega)
set_option maxRecDepth 100000 in
set_option maxHeartbeats 4000000 in
theorem s62 {b : List UInt8} (hb : b.length ≤ 100000) : Calls0 (evCall FN (k + 100300)) 62 [csl 1 (b.map ofB)] (tripL (getL b)) := by
  have hlen : (b.map ofB).length / 1 = b.length := by simp
  have c87 : Calls0 (evCall FN (k + 100299)) 87 [csl 1 (b.map ofB), .int .i64 1] (tripN (lenI b 1)) := s87 (k := k + 100099) (least := 1) hb (by omega)
  obtain ⟨g1, g2, g3⟩ := lenI_use b
  unfold getL
  unfold tripN at c87
  generalize lenI b 1 = G at *
  obtain ⟨n, u, e⟩ := G
  dsimp only at g1 g2 g3 c87 ⊢
  refine q_call0 fn62 fun T H E lv => ?_
  by_cases he : e ≠ 0
  · rw [if_pos he]
    repeat (first | refine stN ?_ | intro E)
    exact q_ret (.inr rfl) rfl rfl rfl rfl rfl rfl
  rw [if_neg he]
  have he : e = 0 := by omega
  subst he
  generalize hR : getsF b n u [] = R
  repeat (first | refine stN ?_ | intro E)
  refine q_loop (α := Nat × Nat × List Int × Nat × Nat) (LInv.mk (fun p => p.1 ≤ n ∧ p.2.1 ≤ b.length ∧ p.2.2.1.length = p.1 ∧ getsF b (n - p.1) p.2.1 p.2.2.1 = R) (fun p => n - p.1)
    (fun p => [(9, .int .i64 (p.1 : Int)), (8, .sl p.2.2.2.1 p.2.2.2.2 (iV p.2.2.1)), (6, .int .i64 (p.2.1 : Int)), (5, .int .i64 (n : Int)), (0, csl 1 (b.map ofB))]) (fun p => []))
    (fun p lv c => 4 ≤ c ∧ LA 1 lv c p.2.2.2.1 p.2.2.2.2 (iV p.2.2.1)) (0, u, [], 0, 0) ⟨Nat.zero_le _, g1, rfl, hR⟩ ⟨Nat.le_refl _, LA.nil⟩ (show n - 0 < k + 100299 by omega) ⟨rfl, rfl, rfl, rfl, rfl, trivial⟩ trivial ?_
  clear hR
  rintro ⟨i, a, l, br, z⟩ lv c T H E ⟨hi, ha, hll, hR⟩ ⟨hc4, hL⟩ hμ
  dsimp only at hi ha hll hR hL ⊢
  obtain ⟨c', rfl⟩ : ∃ c', c = c' + 4 := ⟨c - 4, by omega⟩
  rcases Nat.lt_or_ge i n with hin | hin
  · rw [show n - i = (n - (i + 1)) + 1 by omega] at hR
    unfold getsF at hR
    have hdl : (b.drop a).length = b.length - a := List.length_drop
    have c88 : Calls0 (evCall FN (k + 100299)) 88 [csl 1 ((b.drop a).map ofB)] (trip (getI (b.drop a))) := s88 (k := k + 100199) (by omega)
    obtain ⟨g4, g5, g6⟩ := getI_use (b.drop a)
    unfold trip at c88
    have hdr := drop_ofB b a
    generalize getI (b.drop a) = G at *
    obtain ⟨x, w, e⟩ := G
    dsimp only at g4 g5 c88 hR
    have hcs : csz 1 (List.map ofB (b.drop a)) = csz 1 (List.map ofB (b.drop a)) := rfl
    repeat (first | refine stN ?_ | intro E)
    apply p_slL_lo
    · exact rfl
    · exact csz_ok _ _
    · exact rfl
    · exact asB_n (by omega)
    rw [hdr]
    by_cases he : e ≠ 0
    · rw [if_pos he] at hR
      subst hR
      repeat (first | refine stN ?_ | intro E)
      apply n_ret
      repeat (first | refine stN ?_ | intro E)
      exact q_ret (.inr rfl) rfl rfl rfl rfl rfl rfl
    · rw [if_neg he] at hR
      have he : e = 0 := by omega
      subst he
      repeat (first | refine stN ?_ | intro E)
      apply p_appL
      · exact rfl
      · exact rfl
      · exact rfl
      · exact hL
      · exact ⟨by omega, by omega⟩
      · rw [iV_len, room_val]; simp only [List.length_cons, List.length_nil]; omega
      intro lv' m1 m2
      rw [iV_snoc]
      repeat (first | refine stN ?_ | intro E)
      exact n_again (i + 1, a + w, l ++ [x], c' + 4, 1) ⟨show i + 1 ≤ n by omega, show a + w ≤ b.length by omega, by simp; omega, hR⟩ ⟨by omega, LA.mine (by omega) m1⟩ (show n - (i + 1) < n - i by omega) ⟨rfl, rfl, rfl, rfl, rfl, trivial⟩ trivial
  · rw [show n - i = 0 by omega] at hR
    unfold getsF at hR
    subst hR
    repeat (first | refine stN ?_ | intro E)
    apply n_exit
    repeat (first | refine stN ?_ | intro E)
    refine q_ret (.inr rfl) rfl rfl rfl rfl ?_ ?_
    · unfold tripL
      rw [← la_fin hL]; rfl
    · unfold tripL
      simp [AV.flat, flatL, csl]
end Go.Proofs.Ythplidagfcdibaa
