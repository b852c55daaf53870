/- Part 14 of the texts on which proofs about this seat rest: each says what it proves at its own head. No condition. -/
import Derived.Test.YtaeoaakblilfeaaM13
set_option linter.unusedVariables false
set_option linter.unusedSimpArgs false
/- An integer at the beginning of bytes is read, by the reference. Condition: there are at most 100000 bytes. -/
namespace Go.Proofs.Ytaeoaakblilfeaa
open Go.Abs
variable {k : Nat}
theorem rem_u8 (x : Nat) : evBin .rem (.int .u8 (x : Int)) (.int .u8 128) = some (.int .u8 ((x % 128 : Nat) : Int)) := rfl
theorem rem_u64 (x m : Nat) (h : 0 < m) : evBin .rem (.int .u64 (x : Int)) (.int .u64 (m : Int)) = some (.int .u64 ((x % m : Nat) : Int)) := by
  show (if (m : Int) = 0 then none else some (AV.int .u64 (Int.tmod (x : Int) (m : Int)))) = _
  rw [if_neg (by omega)]; rfl
theorem quo_u64 (x m : Nat) (h : 0 < m) (hx : x < 18446744073709551616) : evBin .quo (.int .u64 (x : Int)) (.int .u64 (m : Int)) = some (.int .u64 ((x / m : Nat) : Int)) := by
  show (if (m : Int) = 0 then none else some (AV.int .u64 (IntKind.u64.wrap (Int.tdiv (x : Int) (m : Int))))) = _
  have : x / m ≤ x := Nat.div_le_self _ _
  rw [if_neg (by omega), show Int.tdiv (x : Int) (m : Int) = ((x / m : Nat) : Int) from rfl]
  generalize x / m = q at this ⊢
  rw [wu64 (by omega) (by omega)]
theorem mul_u64 (x m : Nat) (h : x * m < 18446744073709551616) : evBin .mul (.int .u64 (x : Int)) (.int .u64 (m : Int)) = some (.int .u64 ((x * m : Nat) : Int)) := by
  show some (AV.int .u64 (IntKind.u64.wrap ((x : Int) * (m : Int)))) = _
  rw [← Int.natCast_mul, wu64 (by omega) (by omega)]
theorem add_u64 (x m : Nat) (h : x + m < 18446744073709551616) : evBin .add (.int .u64 (x : Int)) (.int .u64 (m : Int)) = some (.int .u64 ((x + m : Nat) : Int)) := by
  show some (AV.int .u64 (IntKind.u64.wrap ((x : Int) + (m : Int)))) = _
  rw [← Int.natCast_add, wu64 (by omega) (by omega)]
theorem getI_bound {b : List UInt8} {i : Nat} (hi : i < b.length) (hi9 : i ≤ 9) (h : ¬ (i = 9 ∧ 1 < bt b i)) (hc : bt b i < 128) : dz b (i + 1) < 18446744073709551616 := by
  rw [dz_succ hi]
  have h0 := dz_lt (b := b) (i := i) (by omega)
  by_cases h9 : i = 9
  · subst h9
    rw [p128_9] at h0 ⊢
    have : bt b 9 % 128 * 9223372036854775808 ≤ 1 * 9223372036854775808 := Nat.mul_le_mul_right _ (by omega)
    omega
  · have hm : 128 ^ i ≤ 128 ^ 8 := Nat.pow_le_pow_right (by omega) (by omega)
    have : bt b i % 128 * 128 ^ i ≤ 127 * 128 ^ 8 := Nat.mul_le_mul (by omega) hm
    have e8 : (128 : Nat) ^ 8 = 72057594037927936 := by decide +kernel
    rw [e8] at hm this
    omega
set_option maxRecDepth 100000 in
set_option maxHeartbeats 4000000 in
theorem s79 {b : List UInt8} (hb : b.length ≤ 100000) : Calls0 (evCall FN (k + 100)) 79 [csl 1 (b.map ofB)] (trip (getI b)) := by
  have hlen : (b.map ofB).length / 1 = b.length := by simp
  refine q_call0 fn79 fun T H E lv => ?_
  repeat (first | refine stN ?_ | intro E)
  refine q_loop (α := Nat) (LInv.mk (fun i => i ≤ b.length ∧ i ≤ 10 ∧ ∀ j, j < i → 128 ≤ bt b j) (fun i => 10 - i)
    (fun i => [(5, .int .i64 (i : Int)), (0, csl 1 (b.map ofB))]) (fun i => []))
    (fun _ _ c' => c' = 4) 0 ⟨Nat.zero_le _, by omega, fun j hj => absurd hj (Nat.not_lt_zero _)⟩ rfl (show 10 - 0 < k + 99 by omega) ⟨rfl, rfl, trivial⟩ trivial ?_
  rintro i lv c T H E ⟨hP, hi9, hall⟩ rfl hμ
  have hP : i ≤ b.length := hP
  have hi9 : i ≤ 10 := hi9
  have hall : ∀ j, j < i → 128 ≤ bt b j := hall
  clear hμ
  dsimp only
  have hx := bt_lt256 b i
  have gi : i < b.length → inB (i : Int) ((b.map ofB).length / 1) = some i := fun h => inB_n (by omega)
  have hr : i < b.length → rd (b.map ofB) (i * 1) 1 false = some (.int .u8 (bt b i : Nat)) := rd_b1
  by_cases hgo : i < b.length ∧ i < 10 ∧ 128 ≤ bt b i
  · obtain ⟨g1, g2, g3⟩ := hgo
    have gi := gi g1
    have hr := hr g1
    have hall' : ∀ j, j < i + 1 → 128 ≤ bt b j := fun j hj => by
      by_cases e : j = i
      · rw [e]; exact g3
      · exact hall j (by omega)
    generalize bt b i = x at hr g3
    repeat (first | refine stN ?_ | intro E)
    exact n_again (i + 1) ⟨by omega, by omega, hall'⟩ rfl (show 10 - (i + 1) < 10 - i by omega) ⟨rfl, rfl, trivial⟩ trivial
  · have hk : gk b = i := gk_eq ⟨hall, hP, hi9, by omega⟩
    have hG : getI b = if i = 10 then (0, 0, 11) else if i = b.length then (0, 0, 10) else if (i = 9 ∧ 1 < bt b i) ∨ (0 < i ∧ bt b i = 0) then (0, 0, 11) else (unz (dz b (i + 1)), i + 1, 0) := by
      unfold getI; rw [hk]
    by_cases h10 : i = 10
    · rw [hG, if_pos h10]
      clear hG hall hk hr
      by_cases hl : i < b.length
      · repeat (first | refine stN ?_ | intro E)
        apply n_exit
        repeat (first | refine stN ?_ | intro E)
        exact q_ret (.inr rfl) rfl rfl rfl rfl rfl rfl
      · repeat (first | refine stN ?_ | intro E)
        apply n_exit
        repeat (first | refine stN ?_ | intro E)
        exact q_ret (.inr rfl) rfl rfl rfl rfl rfl rfl
    rw [if_neg h10] at hG
    by_cases hle : i = b.length
    · rw [hG, if_pos hle]
      clear hG hall hk hr
      repeat (first | refine stN ?_ | intro E)
      apply n_exit
      repeat (first | refine stN ?_ | intro E)
      exact q_ret (.inr rfl) rfl rfl rfl rfl rfl rfl
    rw [if_neg hle] at hG
    have hi : i < b.length := by omega
    have gi := gi hi
    have hr := hr hi
    have hlt : bt b i < 128 := by omega
    by_cases hbad : (i = 9 ∧ 1 < bt b i) ∨ (0 < i ∧ bt b i = 0)
    · rw [hG, if_pos hbad]
      clear hG hall hk hgo
      generalize bt b i = x at *
      rcases (show (i = 9 ∧ 1 < x) ∨ (i = 9 ∧ x = 0) ∨ (0 < i ∧ i ≠ 9 ∧ x = 0) by omega) with ⟨g1, g2⟩ | ⟨g1, g2⟩ | ⟨g1, g2, g3⟩
      all_goals
        repeat (first | refine stN ?_ | intro E)
        apply n_exit
        repeat (first | refine stN ?_ | intro E)
        exact q_ret (.inr rfl) rfl rfl rfl rfl rfl rfl
    rw [if_neg hbad] at hG
    have hZ := getI_bound hi (by omega) (fun h => hbad (.inl h)) hlt
    rw [hG]
    unfold trip
    dsimp only
    generalize hZZ : dz b (i + 1) = Z at *
    clear hG hk hgo hall
    generalize hxx : bt b i = x at *
    rcases (show (i = 9 ∧ x = 1) ∨ (0 < i ∧ i ≠ 9 ∧ x ≠ 0) ∨ i = 0 by omega) with g1 | g1 | g1
    all_goals
      repeat (first | refine stN ?_ | intro E)
      apply n_exit
      repeat (first | refine stN ?_ | intro E)
      refine q_loop (α := Nat × Nat) (LInv.mk (fun p => p.1 ≤ i + 1 ∧ p.2 * 128 ^ p.1 + dz b p.1 = Z) (fun p => p.1)
        (fun p => [(7, .int .i64 ((p.1 : Int) - 1)), (6, .int .u64 (p.2 : Int)), (5, .int .i64 (i : Int)), (0, csl 1 (b.map ofB))]) (fun i => []))
        (fun _ _ c' => c' = 4) (i + 1, 0) ⟨Nat.le_refl _, by dsimp only; rw [Nat.zero_mul, Nat.zero_add]; exact hZZ⟩ rfl (show i + 1 < k + 99 by omega) ⟨by show _ = some (AV.int .i64 (((i + 1 : Nat) : Int) - 1)); rw [show (((i + 1 : Nat) : Int) - 1) = (i : Int) by omega]; rfl, rfl, rfl, rfl, trivial⟩ trivial ?_
      clear hr gi hx hbad g1 hlt
      rintro ⟨j, z⟩ lv c T H E ⟨hj, hz⟩ rfl hμ
      have hj : j ≤ i + 1 := hj
      have hz : z * 128 ^ j + dz b j = Z := hz
      clear hμ
      dsimp only
      cases j with
      | zero =>
        have hz : z = Z := by
          have e0 : dz b 0 = 0 := by unfold dz; rw [List.take_zero]; rfl
          rw [e0, Nat.pow_zero] at hz; omega
        subst hz
        rw [show ((0 : Nat) : Int) - 1 = -1 from rfl]
        have hm : evBin .rem (.int .u64 (z : Int)) (.int .u64 2) = some (.int .u64 ((z % 2 : Nat) : Int)) := rem_u64 z 2 (by omega)
        have hq : evBin .quo (.int .u64 (z : Int)) (.int .u64 2) = some (.int .u64 ((z / 2 : Nat) : Int)) := quo_u64 z 2 (by omega) hZ
        have h3 : IntKind.i64.wrap ((z / 2 : Nat) : Int) = ((z / 2 : Nat) : Int) := w64 (by omega) (by omega)
        have h4 : evBin .sub (.int .i64 (-1)) (.int .i64 ((z / 2 : Nat) : Int)) = some (.int .i64 (-1 - ((z / 2 : Nat) : Int))) := sub_w rfl (by omega) (by omega)
        rcases Nat.mod_two_eq_zero_or_one z with e | e
        · have hu : unz z = ((z / 2 : Nat) : Int) := if_neg (by omega)
          rw [hu]
          rw [e] at hm
          repeat (first | refine stN ?_ | intro E)
          apply n_exit
          repeat (first | refine stN ?_ | intro E)
          exact q_ret (.inr rfl) rfl rfl rfl rfl rfl rfl
        · have hu : unz z = -1 - ((z / 2 : Nat) : Int) := if_pos e
          rw [hu]
          rw [e] at hm
          repeat (first | refine stN ?_ | intro E)
          apply n_exit
          repeat (first | refine stN ?_ | intro E)
          exact q_ret (.inr rfl) rfl rfl rfl rfl rfl rfl
      | succ j =>
        have hjl : j < b.length := by omega
        have hds := dz_succ hjl
        have gi : inB (j : Int) ((b.map ofB).length / 1) = some j := inB_n (by omega)
        have hr := rd_b1 hjl
        have hx := bt_lt256 b j
        have hz2 : (z * 128 + bt b j % 128) * 128 ^ j + dz b j = Z := by
          rw [← hz, hds, Nat.pow_succ, Nat.add_mul, Nat.mul_assoc, Nat.mul_comm 128]; omega
        have h1 : 1 ≤ 128 ^ j := Nat.one_le_pow _ _ (by omega)
        have hzb : z * 128 + bt b j % 128 ≤ (z * 128 + bt b j % 128) * 128 ^ j := Nat.le_mul_of_pos_right _ h1
        have hm : evBin .mul (.int .u64 (z : Int)) (.int .u64 128) = some (.int .u64 ((z * 128 : Nat) : Int)) := mul_u64 z 128 (by omega)
        have hrm := rem_u8 (bt b j)
        have hcv : IntKind.u64.wrap ((bt b j % 128 : Nat) : Int) = ((bt b j % 128 : Nat) : Int) := wu64 (by omega) (by omega)
        have ha := add_u64 (z * 128) (bt b j % 128) (by omega)
        have hs : evBin .sub (.int .i64 (j : Int)) (.int .i64 1) = some (.int .i64 ((j : Int) - 1)) := sub_w rfl (by omega) (by omega)
        rw [show (((j + 1 : Nat) : Int) - 1) = (j : Int) by omega]
        clear hz hds hzb h1
        generalize hy : bt b j % 128 = y at *
        generalize bt b j = x at *
        repeat (first | refine stN ?_ | intro E)
        exact n_again (j, z * 128 + y) ⟨show j ≤ i + 1 by omega, hz2⟩ rfl (show j < j + 1 by omega) ⟨rfl, rfl, rfl, rfl, trivial⟩ trivial
end Go.Proofs.Ytaeoaakblilfeaa
