/- Part 35 of the texts on which proofs about this seat rest: each says what it proves at its own head. No condition. -/
import Derived.Test.YtaeoaakblilfeaaM34
set_option linter.unusedVariables false
set_option linter.unusedSimpArgs false
/- Whether a byte is in a ring, whether a descriptor names it: by the statements. Condition: the memory is valid, the ring is there. -/
namespace Go.Proofs.Ytaeoaakblilfeaa
open Go.Abs
variable {k : Nat}
set_option maxRecDepth 100000 in
theorem s23 {b s t : Nat} (hb : b < 4294967296) (hs : s < 4294967296) (ht : t < 4294967296) : Calls0 (evCall FN (k + 10)) 23 [ringV b s, .int .i64 t] (.bool (decide (b ≤ t ∧ t < b + 16 * s))) := by
  have w1 : IntKind.i64.wrap (b : Int) = b := w64 (by omega) (by omega)
  have w2 : IntKind.i64.wrap (s : Int) = s := w64 (by omega) (by omega)
  refine q_call0 fn23 fun T H E lv => ?_
  by_cases h1 : b ≤ t
  · by_cases h2 : t < b + 16 * s
    · rw [decide_eq_true ⟨h1, h2⟩]
      repeat (first | refine stN ?_ | intro E)
      exact q_ret (.inr rfl) rfl rfl rfl rfl rfl rfl
    · rw [decide_eq_false (fun h => h2 h.2)]
      repeat (first | refine stN ?_ | intro E)
      exact q_ret (.inr rfl) rfl rfl rfl rfl rfl rfl
  · rw [decide_eq_false (fun h => h1 h.1)]
    repeat (first | refine stN ?_ | intro E)
    exact q_ret (.inr rfl) rfl rfl rfl rfl rfl rfl
set_option maxRecDepth 100000 in
set_option maxHeartbeats 2000000 in
theorem s24t {m : List UInt8} {b s t : Nat} (h : RV m b s) (ht : t < 4294967296) (hn : Named m b s t) : Calls0 (evCall FN (k + 100)) 24 [memV m, ringV b s, .int .i64 t] (.bool true) := by
  have hle := h.le
  have hml := h.m.le
  have hs := h.hs
  have hb16 := h.hb
  have w1 : IntKind.i64.wrap (b : Int) = b := w64 (by omega) (by omega)
  have w2 : IntKind.i64.wrap (s : Int) = s := w64 (by omega) (by omega)
  refine q_call0 fn24 fun T H E lv => ?_
  repeat (first | refine stN ?_ | intro E)
  refine q_loop (α := Nat) (LInv.mk (fun i => i ≤ s ∧ ∀ j, j < i → ¬ (wr m b j = true ∧ dw m b j 0 ≤ t ∧ t < dw m b j 0 + dw m b j 1)) (fun i => s - i)
    (fun i => [(7, .int .i64 (i : Int)), (4, .ref 1 0), (3, .ref 0 0), (2, .int .i64 t)])
    (fun i => [(1, [.int .u32 b, .int .u32 s]), (0, [csl 128 (m.map ofB)])]))
    (fun _ _ c' => c' = 4) 0 ⟨Nat.zero_le _, fun j hj => absurd hj (Nat.not_lt_zero _)⟩ rfl (show s - 0 < k + 99 by omega) ⟨rfl, rfl, rfl, rfl, trivial⟩ ⟨rfl, rfl, trivial⟩ ?_
  rintro i lv c T H E ⟨hP, hno⟩ rfl hμ
  have hP : i ≤ s := hP
  have hno : ∀ j, j < i → ¬ (wr m b j = true ∧ dw m b j 0 ≤ t ∧ t < dw m b j 0 + dw m b j 1) := hno
  clear hμ
  dsimp only
  rcases Nat.lt_or_ge i s with hi | hi
  · have ca : Calls0 (evCall FN (k + 99)) 51 [memV m, .int .i64 ((b + 16 * i : Nat) : Int), .int .i64 4] (.agg [.int .u32 (dw m b i 0), .bool true]) := s51 (k := k + 91) h.m (by omega) (by omega)
    have cb : Calls0 (evCall FN (k + 99)) 51 [memV m, .int .i64 ((b + 16 * i + 4 : Nat) : Int), .int .i64 4] (.agg [.int .u32 (dw m b i 1), .bool true]) := s51 (k := k + 91) h.m (by omega) (by omega)
    have cc : Calls0 (evCall FN (k + 99)) 51 [memV m, .int .i64 ((b + 16 * i + 8 : Nat) : Int), .int .i64 4] (.agg [.int .u32 (dw m b i 2), .bool true]) := s51 (k := k + 91) h.m (by omega) (by omega)
    have l0 := dw_lt m b i 0
    have l1 := dw_lt m b i 1
    have l2 := dw_lt m b i 2
    have hwr : wr m b i = decide (dw m b i 2 % 2 = 1) := rfl
    have hnx : ∀ j, j < i + 1 → j = i ∨ j < i := fun j hj => by omega
    have hd : (dw m b i 2 % 2 = 1 ∧ dw m b i 0 ≤ t ∧ t < dw m b i 0 + dw m b i 1) ∨ ∀ j, j < i + 1 → ¬ (wr m b j = true ∧ dw m b j 0 ≤ t ∧ t < dw m b j 0 + dw m b j 1) := by
      by_cases hh : dw m b i 2 % 2 = 1 ∧ dw m b i 0 ≤ t ∧ t < dw m b i 0 + dw m b i 1
      · exact .inl hh
      · refine .inr fun j hj hc => ?_
        rcases hnx j hj with rfl | hj
        · rw [hwr, decide_eq_true_eq] at hc
          exact hh hc
        · exact hno j hj hc
    clear hwr hno
    have hrm : evBin .rem (.int .u32 (dw m b i 2 : Nat)) (.int .u32 2) = some (.int .u32 ((dw m b i 2 % 2 : Nat) : Int)) := rfl
    have w3 : IntKind.i64.wrap (dw m b i 0 : Int) = dw m b i 0 := w64 (by omega) (by omega)
    have w4 : IntKind.i64.wrap (dw m b i 1 : Int) = dw m b i 1 := w64 (by omega) (by omega)
    by_cases hh : dw m b i 2 % 2 = 1 ∧ dw m b i 0 ≤ t ∧ t < dw m b i 0 + dw m b i 1
    · clear hd
      obtain ⟨h1, h2, h3⟩ := hh
      generalize hf : dw m b i 2 % 2 = f at hrm h1
      generalize dw m b i 0 = x at ca w3 l0 h2 h3
      generalize dw m b i 1 = y at cb w4 l1 h3
      generalize dw m b i 2 = z at cc l2 hrm hf
      clear hf
      subst h1
      repeat (first | refine stN ?_ | intro E)
      apply n_ret
      repeat (first | refine stN ?_ | intro E)
      exact q_ret (.inr rfl) rfl rfl rfl rfl rfl rfl
    · have hnn := hd.resolve_left hh
      have hf2 := Nat.mod_two_eq_zero_or_one (dw m b i 2)
      clear hd
      generalize hf : dw m b i 2 % 2 = f at hrm hf2 hh
      generalize dw m b i 0 = x at ca w3 l0 hh
      generalize dw m b i 1 = y at cb w4 l1 hh
      generalize dw m b i 2 = z at cc l2 hrm hf
      have hx : f = 0 ∨ (f = 1 ∧ t < x) ∨ (f = 1 ∧ x ≤ t ∧ x + y ≤ t) := by omega
      clear hh hf2 hf
      rcases hx with rfl | ⟨rfl, h2⟩ | ⟨rfl, h2, h3⟩
      all_goals
        repeat (first | refine stN ?_ | intro E)
        exact n_again (i + 1) ⟨by omega, hnn⟩ rfl (show s - (i + 1) < s - i by omega) ⟨rfl, rfl, rfl, rfl, trivial⟩ ⟨⟨rfl, rfl⟩, ⟨rfl, rfl⟩, trivial⟩
  · obtain ⟨j, hj, hw⟩ := hn
    exact absurd hw (hno j (by omega))
end Go.Proofs.Ytaeoaakblilfeaa
