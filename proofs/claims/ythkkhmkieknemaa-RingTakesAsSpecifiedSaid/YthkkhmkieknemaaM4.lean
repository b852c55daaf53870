/- Part 4 of 4 of a proof that RingTakesAsSpecified returns true for every input. No condition. -/
import Derived.Test.YthkkhmkieknemaaM3
import Derived.Test.YthkkhmkieknemaaRows
import Derived.ProofKit
import Derived.OpenShut
set_option linter.unusedVariables false
set_option linter.unusedSimpArgs false
/- The flags of a descriptor. No condition but that they are words. -/
namespace Go.Proofs.Ythkkhmkieknemaa
open Go.Abs
variable {k : Nat}

theorem and_shl (f m i : Nat) : f &&& (m <<< i) = ((f >>> i) &&& m) <<< i := by
  apply Nat.eq_of_testBit_eq
  intro j
  rw [Nat.testBit_and, Nat.testBit_shiftLeft, Nat.testBit_shiftLeft, Nat.testBit_and, Nat.testBit_shiftRight]
  by_cases h : i ≤ j
  · rw [show i + (j - i) = j by omega]
    simp [h]
  · simp [h]

theorem mask_eq (f : Nat) (h : f < 4294967296) : (f &&& 4294902012 = 0) ↔ (f / 4 % 64 = 0 ∧ f / 65536 = 0) := by
  have e : (4294902012 : Nat) = (63 <<< 2) ||| (65535 <<< 16) := by decide
  rw [e, Nat.and_or_distrib_left, and_shl, and_shl, Nat.or_eq_zero_iff]
  have h1 : (f >>> 2) &&& 63 = f / 4 % 64 := by rw [Nat.shiftRight_eq_div_pow]; exact Nat.and_two_pow_sub_one_eq_mod _ 6
  have h2 : (f >>> 16) &&& 65535 = f / 65536 % 65536 := by rw [Nat.shiftRight_eq_div_pow]; exact Nat.and_two_pow_sub_one_eq_mod _ 16
  rw [h1, h2, Nat.shiftLeft_eq, Nat.shiftLeft_eq]
  omega

theorem andNot_fits {f : Nat} (h : f < 4294967296) : evBin .andNot (.int .u32 (f : Int)) (.int .u32 65283) = some (.int .u32 ((f &&& 4294902012 : Nat) : Int)) := by
  have h1 : (BitVec.ofInt IntKind.u32.bits (f : Int) &&& ~~~ BitVec.ofInt IntKind.u32.bits (65283 : Int)).toNat = f &&& 4294902012 := by
    show (BitVec.ofInt 32 (f : Int) &&& ~~~ BitVec.ofInt 32 (65283 : Int)).toNat = _
    rw [BitVec.toNat_and, ofInt_nat f h]
    rfl
  have : f &&& 4294902012 ≤ f := Nat.and_le_left
  simp only [evBin, reduceCtorEq, or_self, if_false, if_true, evInt, h1]
  rw [w32 (by omega) (by omega)]

theorem and2_u32 {f : Nat} (h : f < 4294967296) : evBin .and (.int .u32 (f : Int)) (.int .u32 2) = some (.int .u32 ((2 * (f / 2 % 2) : Nat) : Int)) := by
  have := and_u32 (a := f) (b := 2) h (by omega)
  rw [and_two] at this; exact this
theorem and255_u32 {f : Nat} (h : f < 4294967296) : evBin .and (.int .u32 (f : Int)) (.int .u32 255) = some (.int .u32 ((f % 256 : Nat) : Int)) := by
  have := and_u32 (a := f) (b := 255) h (by omega)
  rw [and_255] at this; exact this

/-- A descriptor of which the flags matter. -/
def dcV (i a z : Nat) (w : Bool) (f st : Nat) : AV := .agg [.int .i64 i, .int .i64 a, .int .i64 z, .bool w, .int .u32 f, .int .u32 st]

set_option maxRecDepth 100000 in
theorem s41 {i a z f st : Nat} {w : Bool} (hf : f < 4294967296) : Calls0 (evCall FN (k + 1)) 41 [dcV i a z w f st] (.bool (decide (f / 2 % 2 = 1))) := by
  have g := and2_u32 hf
  refine q_call0 fn41 fun T H E lv => ?_
  rcases Nat.mod_two_eq_zero_or_one (f / 2) with h | h
  · rw [show decide (f / 2 % 2 = 1) = false from by simp [h]]
    repeat (first | (apply o_nil; apply k_norm) | (apply p_mov; exact rfl) | (apply p_load; (iterate 4 exact rfl)) | (apply p_bin; exact rfl; exact rfl; (with_reducible assumption)) | (apply p_bin; exact rfl; exact rfl; (with_reducible exact neq_f (by omega))) | (apply p_fadd; exact rfl) | (apply p_box; exact rfl; exact rfl; intro E) | apply w_seq | apply w_ops | apply w_ret)
    exact q_ret (.inr rfl) rfl rfl rfl rfl rfl rfl
  · rw [show decide (f / 2 % 2 = 1) = true from by simp [h]]
    repeat (first | (apply o_nil; apply k_norm) | (apply p_mov; exact rfl) | (apply p_load; (iterate 4 exact rfl)) | (apply p_bin; exact rfl; exact rfl; (with_reducible assumption)) | (apply p_bin; exact rfl; exact rfl; (with_reducible exact neq_t (by omega))) | (apply p_fadd; exact rfl) | (apply p_box; exact rfl; exact rfl; intro E) | apply w_seq | apply w_ops | apply w_ret)
    exact q_ret (.inr rfl) rfl rfl rfl rfl rfl rfl

set_option maxRecDepth 100000 in
theorem s42 {i a z f st : Nat} {w : Bool} (hf : f < 4294967296) : Calls0 (evCall FN (k + 1)) 42 [dcV i a z w f st] (.int .i64 ((f / 256 % 256 : Nat) : Int)) := by
  have g0 : evBin .shr (.int .u32 (f : Int)) (.int .u64 8) = some (.int .u32 ((f / 256 : Nat) : Int)) := shr_l (m := 8) (by decide)
  have g := and255_u32 (f := f / 256) (by omega)
  refine q_call0 fn42 fun T H E lv => ?_
  repeat (first | (apply o_nil; apply k_norm) | (apply p_mov; exact rfl) | (apply p_load; (iterate 4 exact rfl)) | (apply p_bin; exact rfl; exact rfl; (with_reducible assumption)) | (apply p_fadd; exact rfl) | (apply p_box; exact rfl; exact rfl; intro E) | (apply p_convA; exact rfl; (with_reducible exact w64 (by omega) (by omega))) | apply w_seq | apply w_ops | apply w_ret)
  exact q_ret (.inr rfl) rfl rfl rfl rfl rfl rfl

/-- Whether the flags fit. -/
def fitB (f : Nat) : Bool := decide (f / 4 % 64 = 0 ∧ f / 65536 = 0 ∧ (f / 2 % 2 = 1 ∨ f / 256 % 256 = 0))

set_option maxRecDepth 100000 in
theorem s40 {i a z f st : Nat} {w : Bool} (hf : f < 4294967296) : Calls0 (evCall FN (k + 2)) 40 [dcV i a z w f st] (.bool (fitB f)) := by
  have c41 : Calls0 (evCall FN (k + 1)) 41 [dcV i a z w f st] (.bool (decide (f / 2 % 2 = 1))) := s41 hf
  have c42 : Calls0 (evCall FN (k + 1)) 42 [dcV i a z w f st] (.int .i64 ((f / 256 % 256 : Nat) : Int)) := s42 hf
  have g := andNot_fits hf
  have hm := mask_eq f hf
  refine q_call0 fn40 fun T H E lv => ?_
  unfold fitB
  by_cases h0 : f &&& 4294902012 = 0
  · have h1 := hm.1 h0
    rcases Nat.mod_two_eq_zero_or_one (f / 2) with h | h
    · rw [show decide (f / 2 % 2 = 1) = false from by simp [h]] at c41
      by_cases h2 : f / 256 % 256 = 0
      · rw [show decide _ = true from decide_eq_true (by omega)]
        repeat (first | (apply o_nil; apply k_norm) | (apply p_mov; exact rfl) | (apply p_load; (iterate 4 exact rfl)) | (apply p_bin; exact rfl; exact rfl; (with_reducible assumption)) | (apply p_bin; exact rfl; exact rfl; (with_reducible exact eql_t (by omega))) | (apply p_fadd; exact rfl) | (apply p_box; exact rfl; exact rfl; intro E) | (apply p_call; exact rfl; exact rfl; assumption) | (apply p_guard_yes; exact rfl) | (apply p_pick_true; exact rfl; exact rfl) | (apply p_pick_false; exact rfl; exact rfl) | apply w_seq | apply w_ops | apply w_ret)
        exact q_ret (.inr rfl) rfl rfl rfl rfl rfl rfl
      · rw [show decide _ = false from decide_eq_false (by omega)]
        repeat (first | (apply o_nil; apply k_norm) | (apply p_mov; exact rfl) | (apply p_load; (iterate 4 exact rfl)) | (apply p_bin; exact rfl; exact rfl; (with_reducible assumption)) | (apply p_bin; exact rfl; exact rfl; (with_reducible exact eql_t (by omega))) | (apply p_bin; exact rfl; exact rfl; (with_reducible exact eql_f (by omega))) | (apply p_fadd; exact rfl) | (apply p_box; exact rfl; exact rfl; intro E) | (apply p_call; exact rfl; exact rfl; assumption) | (apply p_guard_yes; exact rfl) | (apply p_pick_true; exact rfl; exact rfl) | (apply p_pick_false; exact rfl; exact rfl) | apply w_seq | apply w_ops | apply w_ret)
        exact q_ret (.inr rfl) rfl rfl rfl rfl rfl rfl
    · rw [show decide (f / 2 % 2 = 1) = true from by simp [h]] at c41
      rw [show decide _ = true from decide_eq_true (by omega)]
      repeat (first | (apply o_nil; apply k_norm) | (apply p_mov; exact rfl) | (apply p_load; (iterate 4 exact rfl)) | (apply p_bin; exact rfl; exact rfl; (with_reducible assumption)) | (apply p_bin; exact rfl; exact rfl; (with_reducible exact eql_t (by omega))) | (apply p_fadd; exact rfl) | (apply p_box; exact rfl; exact rfl; intro E) | (apply p_call; exact rfl; exact rfl; assumption) | (apply p_guard_yes; exact rfl) | (apply p_guard_no; exact rfl; exact rfl) | (apply p_pick_true; exact rfl; exact rfl) | apply w_seq | apply w_ops | apply w_ret)
      exact q_ret (.inr rfl) rfl rfl rfl rfl rfl rfl
  · have h1 : ¬ (f / 4 % 64 = 0 ∧ f / 65536 = 0) := fun h => h0 (hm.2 h)
    rw [show decide _ = false from decide_eq_false (by omega)]
    repeat (first | (apply o_nil; apply k_norm) | (apply p_mov; exact rfl) | (apply p_load; (iterate 4 exact rfl)) | (apply p_bin; exact rfl; exact rfl; (with_reducible assumption)) | (apply p_bin; exact rfl; exact rfl; (with_reducible exact eql_f (by omega))) | (apply p_fadd; exact rfl) | (apply p_box; exact rfl; exact rfl; intro E) | (apply p_guard_no; exact rfl; exact rfl) | (apply p_guard_skip; exact rfl) | (apply p_pick_false; exact rfl; exact rfl) | apply w_seq | apply w_ops | apply w_ret)
    exact q_ret (.inr rfl) rfl rfl rfl rfl rfl rfl

/-- A descriptor as it is loaded. -/
theorem s39' {bs : List UInt8} {b s i : Nat} (h : RV bs b s) (hi : i < s) : Calls0 (evCall FN (k + 8)) 39 [memV bs, ringV b s, .int .i64 i] (dcV i (dw bs b i 0) (dw bs b i 1) (wr bs b i) (dw bs b i 2) (dw bs b i 3)) := by
  have := s39 (k := k) h hi
  have e : ((((dw bs b i 2 % 2 : Nat) : Int)) != 0) = wr bs b i := by
    unfold wr
    rcases Nat.mod_two_eq_zero_or_one (dw bs b i 2) with h | h <;> rw [h] <;> rfl
  unfold descV at this
  rw [e] at this
  exact this

set_option maxRecDepth 100000 in
theorem s22 {bs : List UInt8} {b s i e : Nat} (h : RV bs b s) (hi : i < s) (he : 160 ≤ e ∧ e ≤ 165) : Calls0 (evCall FN (k + 10300)) 22 [memV bs, ringV b s, .int .i64 i, .int .i64 e] (memV (mark1 b (4 + (e - 160)) bs i)) := by
  have c43 : Calls0 (evCall FN (k + 10299)) 43 [memV bs, ringV b s, .int .i64 ((4 + (e - 160) : Nat) : Int), csl 1 (intsV [i])] (memV (markB bs b (4 + (e - 160)) [i])) := (s43 (k := 0) h (by simp [hi]) (by omega) (by simp)).fuel (by omega)
  refine q_call0 fn22 fun T H E lv => ?_
  repeat (first | (apply o_nil; apply k_norm) | (apply p_mov; exact rfl) | (apply p_load; (iterate 4 exact rfl)) | (apply p_bin; exact rfl; exact rfl; (with_reducible exact add_ln (by omega))) | (apply p_bin; exact rfl; exact rfl; (with_reducible exact sub_nl (by omega))) | (apply p_bin; exact rfl; exact rfl; (with_reducible exact lss_f (by omega))) | (apply p_bin; exact rfl; exact rfl; (with_reducible exact gtr_f (by omega))) | (apply p_box; exact rfl; exact rfl; intro E) | (apply p_new; intro E) | (apply p_store; (iterate 3 exact rfl); exact rfl; exact rfl; exact rfl) | (apply p_bsl; (iterate 4 exact rfl); (simp only [List.length_cons, List.length_nil]; exact rfl)) | (apply p_call; exact rfl; exact rfl; assumption) | (apply p_guard_yes; exact rfl) | (apply p_pick_false; exact rfl; exact rfl) | apply w_seq | apply w_ops | apply k_norm | apply w_ret | apply w_skip | (apply q_cond_false; exact rfl))
  exact q_ret (.inr rfl) rfl rfl rfl rfl rfl rfl

set_option maxRecDepth 100000 in
theorem s23 {bs : List UInt8} {b s i e : Nat} (h : RV bs b s) (hi : i < s) (he : 160 ≤ e ∧ e ≤ 165) : Calls0 (evCall FN (k + 10300)) 23 [memV bs, ringV b s, .int .i64 i, .int .i64 e] (memV (mark1 b (4 + (e - 160)) bs i)) := by
  have c46 : Calls0 (evCall FN (k + 10299)) 46 [memV bs, ringV b s, .int .i64 i, .int .i64 ((4 + (e - 160) : Nat) : Int)] (memV (mark1 b (4 + (e - 160)) bs i)) := (s46 (k := 0) h hi (by omega)).fuel (by omega)
  refine q_call0 fn23 fun T H E lv => ?_
  repeat (first | (apply o_nil; apply k_norm) | (apply p_mov; exact rfl) | (apply p_load; (iterate 4 exact rfl)) | (apply p_bin; exact rfl; exact rfl; (with_reducible exact add_ln (by omega))) | (apply p_bin; exact rfl; exact rfl; (with_reducible exact sub_nl (by omega))) | (apply p_bin; exact rfl; exact rfl; (with_reducible exact lss_f (by omega))) | (apply p_bin; exact rfl; exact rfl; (with_reducible exact gtr_f (by omega))) | (apply p_box; exact rfl; exact rfl; intro E) | (apply p_new; intro E) | (apply p_store; (iterate 3 exact rfl); exact rfl; exact rfl; exact rfl) | (apply p_call; exact rfl; exact rfl; assumption) | (apply p_guard_yes; exact rfl) | (apply p_pick_false; exact rfl; exact rfl) | apply w_seq | apply w_ops | apply k_norm | apply w_ret | apply w_skip | (apply q_cond_false; exact rfl))
  exact q_ret (.inr rfl) rfl rfl rfl rfl rfl rfl

end Go.Proofs.Ythkkhmkieknemaa

/- A request is read. Condition: the memory is valid, the ring is there, the index is of the ring. -/
namespace Go.Proofs.Ythkkhmkieknemaa
open Go.Abs
variable {k : Nat}

theorem bn_two (x : Nat) : bn (decide (x % 2 = 1)) = x % 2 := by
  rcases Nat.mod_two_eq_zero_or_one x with h | h <;> rw [h] <;> rfl

/-- The lists of a request that is being read, and their brands. -/
def LS (br1 br2 sz : Nat) (js : List Nat) (lv : Nat → Bool) (c : Nat) : Prop := 4 ≤ c ∧ (∃ q, br1 = q + 4 ∧ br1 < c ∧ lv br1 = true) ∧ ((br2 = 0 ∧ sz = 0 ∧ js = []) ∨ (∃ q, br2 = q + 4 ∧ br2 < c ∧ lv br2 = true ∧ sz = 4)) ∧ br1 ≠ br2

set_option maxRecDepth 100000 in
set_option maxHeartbeats 16000000 in
theorem take_loop {bs : List UInt8} {b s i : Nat} {sl : List (Nat × AV)} {os : List (Nat × List AV)} {T : Nat → AV} {H : Hp} {E : Nat → Option TypeId} {lv : Nat → Bool} {K : Ex → St → Prop} (h : RV bs b s) (hi : i < s) (hlv : lv 4 = true)
    (h1 : HoldsE sl [(10, .sl 4 1 []), (9, .sl 0 0 []), (11, .bool false), (12, .int .i64 i), (13, .int .i64 0), (2, .int .i64 i), (3, .ref 0 0), (4, .ref 1 0), (6, .ref 2 0)])
    (h2 : HoldsOE os [(2, [.sl 0 0 []]), (1, [.int .u32 b, .int .u32 s]), (0, [csl 128 (bs.map ofB)])])
    (kerr : ∀ e js n lv c T H E, walk bs b s 5 [] i = (js, e) → 161 ≤ e → e ≤ 165 → K (.exit 0) ⟨slots [(13, .int .i64 (e : Nat)), (2, .int .i64 i), (3, .ref 0 0), (4, .ref 1 0), (6, .ref 2 0)] T, objs [(2, [.sl 0 0 []]), (1, [.int .u32 b, .int .u32 s]), (0, [csl 128 (bs.map ofB)])] H, E, n, lv, c⟩)
    (kok : ∀ br js n lv c T H E, walk bs b s 5 [] i = (js, 0) → K .ret ⟨slots [(7, .sl (br + 4) 4 (partsV bs b js)), (8, .int .i64 0), (6, .ref 2 0)] T, objs [(2, [csl 128 ((markB bs b 2 js).map ofB)])] H, E, n, lv, c⟩) :
    Wp (evCall FN (k + 10399)) (k + 10399) (.loop f15l27) ⟨slots sl T, objs os H, E, 3, lv, 5⟩ K := by
  have hl := h.m.le
  have hs := h.hs
  have hle := h.le
  have hb16 := h.hb
  refine q_loop (α := Nat × List Nat × Nat × Nat × Nat × Nat) (LInv.mk (fun p => WP bs b s i p.1 p.2.1 p.2.2.1) (fun p => p.1)
    (fun p => [(10, .sl p.2.2.2.1 1 (intsV p.2.1)), (9, .sl p.2.2.2.2.1 p.2.2.2.2.2 (partsV bs b p.2.1)), (11, .bool (p.2.1.any (wr bs b))), (12, .int .i64 (p.2.2.1 : Int)), (13, .int .i64 0), (2, .int .i64 i), (3, .ref 0 0), (4, .ref 1 0), (6, .ref 2 0)])
    (fun p => [(2, [.sl 0 0 []]), (1, [.int .u32 b, .int .u32 s]), (0, [csl 128 (bs.map ofB)])]))
    (fun p lv c => LS p.2.2.2.1 p.2.2.2.2.1 p.2.2.2.2.2 p.2.1 lv c) (5, [], i, 4, 0, 0) ⟨rfl, by omega, hi, by simp, rfl⟩ ⟨by omega, ⟨0, rfl, Nat.lt_succ_self 4, hlv⟩, .inl ⟨rfl, rfl, rfl⟩, by simp⟩ (show 5 < k + 10399 by omega) h1 h2 ?_
  rintro ⟨f, js, cur, br1, br2, sz⟩ lv c T H E hP hB hμ
  have hW : WP bs b s i f js cur := hP
  have hL : LS br1 br2 sz js lv c := hB
  clear hP hB hμ h1 h2
  obtain ⟨hW1, hW2, hW3, hW4, hW5⟩ := id hW
  dsimp only
  have c39 : Calls0 (evCall FN (k + 10399)) 39 [memV bs, ringV b s, .int .i64 cur] (dcV cur (dw bs b cur 0) (dw bs b cur 1) (wr bs b cur) (dw bs b cur 2) (dw bs b cur 3)) := (s39' (k := 0) h hW3).fuel (by omega)
  have w0 := dw_lt bs b cur 0; have w1 := dw_lt bs b cur 1; have w2 := dw_lt bs b cur 2
  have c34 : Calls0 (evCall FN (k + 10399)) 34 [memV bs] (.int .i64 bs.length) := (s34 (k := 0) h.m).fuel (by omega)
  have c40 : Calls0 (evCall FN (k + 10399)) 40 [dcV cur (dw bs b cur 0) (dw bs b cur 1) (wr bs b cur) (dw bs b cur 2) (dw bs b cur 3)] (.bool (fitB (dw bs b cur 2))) := (s40 (k := 0) w2).fuel (by omega)
  have c41 : Calls0 (evCall FN (k + 10399)) 41 [dcV cur (dw bs b cur 0) (dw bs b cur 1) (wr bs b cur) (dw bs b cur 2) (dw bs b cur 3)] (.bool (decide (dw bs b cur 2 / 2 % 2 = 1))) := (s41 (k := 0) w2).fuel (by omega)
  have c42 : Calls0 (evCall FN (k + 10399)) 42 [dcV cur (dw bs b cur 0) (dw bs b cur 1) (wr bs b cur) (dw bs b cur 2) (dw bs b cur 3)] (.int .i64 ((dw bs b cur 2 / 256 % 256 : Nat) : Int)) := (s42 (k := 0) w2).fuel (by omega)
  have hws : IntKind.i64.wrap (s : Int) = s := w64 (by omega) (by omega)
  obtain ⟨hc4, ⟨q1, rfl, hq1, hq2⟩, hL2, hne⟩ := hL
  obtain ⟨c', rfl⟩ : ∃ c', c = c' + 4 := ⟨c - 4, by omega⟩
  repeat (first | (apply o_nil; (first | apply k_norm | apply b_norm | skip)) | (apply p_mov; exact rfl) | (apply p_load; (iterate 4 exact rfl)) | (apply p_bin; exact rfl; exact rfl; (first | (with_reducible first | assumption | exact add_nn (by omega) | exact add_nl (by omega) | exact add_ln (by omega) | exact sub_nn (by omega) | exact sub_nl (by omega) | exact sub_ln (by omega) | exact mul_nl (by omega) | exact mul_ln (by omega) | exact mul_nn (by omega) | exact quo_nl (by omega) | exact quo_nn (by omega) | exact rem_nl (by omega) | exact rem_nn (by omega) | exact shr_n (by omega) | exact shr_l (by omega) | exact lss_t (by omega) | exact lss_f (by omega) | exact leq_t (by omega) | exact leq_f (by omega) | exact gtr_t (by omega) | exact gtr_f (by omega) | exact geq_t (by omega) | exact geq_f (by omega) | exact eql_t (by omega) | exact eql_f (by omega) | exact neq_t (by omega) | exact neq_f (by omega)) | exact rfl)) | (apply p_fadd; exact rfl) | (apply p_box; exact rfl; exact rfl; intro E) | (apply p_new; intro E) | (apply p_store; (iterate 3 exact rfl); (first | with_reducible assumption | exact rfl); exact rfl; exact rfl) | (apply p_convA; exact rfl; (first | with_reducible assumption | with_reducible exact w64 (by omega) (by omega) | with_reducible exact w32 (by omega) (by omega) | with_reducible exact w8n _)) | (apply p_conv; exact rfl) | (apply p_len; exact rfl; (first | exact csz_ok _ _ | exact .inl rfl | assumption)) | (apply p_len_osl; exact rfl) | (apply p_lenS; exact rfl) | (apply p_ext; exact rfl; exact rfl) | (apply p_build; exact rfl; exact rfl) | (apply p_bsl; (iterate 4 exact rfl); (first | exact rfl | (simp only [List.length_cons, List.length_nil]; exact rfl))) | (apply p_un; exact rfl; exact rfl) | (apply p_call; exact rfl; exact rfl; (first | assumption)) | (apply p_iaS; exact rfl; exact rfl; (first | exact csz_ok _ _ | exact .inl rfl | assumption); (first | with_reducible assumption | with_reducible exact inB_n (by simp only [List.length_map, List.length_cons, List.length_nil]; omega) | with_reducible exact inB_n (by omega) | with_reducible exact inB_l (by simp only [List.length_map]; omega) | with_reducible exact inB_l (by omega) | exact rfl)) | (apply p_iaA; exact rfl; exact rfl; (first | with_reducible assumption | with_reducible exact inB_n (by simp only [List.length_map, List.length_cons, List.length_nil]; omega) | with_reducible exact inB_n (by omega) | with_reducible exact inB_l (by simp only [List.length_map]; omega) | with_reducible exact inB_l (by omega) | exact rfl)) | (apply p_iaA_pp; exact rfl; exact rfl; (first | with_reducible assumption | with_reducible exact inB_n (by simp only [List.length_map, List.length_cons, List.length_nil]; omega) | with_reducible exact inB_n (by omega) | with_reducible exact inB_l (by simp only [List.length_map]; omega) | with_reducible exact inB_l (by omega) | exact rfl)) | (apply p_load_pp; exact rfl; (first | with_reducible assumption | exact rfl)) | (apply p_fadd_pp; exact rfl) | (apply p_iaS_osl; exact rfl; exact rfl; (first | with_reducible assumption | with_reducible exact inB_n (by simp only [List.length_map, List.length_cons, List.length_nil]; omega) | with_reducible exact inB_n (by omega) | with_reducible exact inB_l (by simp only [List.length_map]; omega) | with_reducible exact inB_l (by omega) | exact rfl)) | (apply p_slA_ref_lo; exact rfl; exact rfl; (first | with_reducible assumption | with_reducible exact asB_n (by simp only [List.length_map]; omega) | with_reducible exact asB_n (by omega) | with_reducible exact asB_l (by omega)); (first | with_reducible assumption | omega)) | (apply p_slA_pp_lo; exact rfl; exact rfl; (first | with_reducible assumption | with_reducible exact asB_n (by simp only [List.length_map]; omega) | with_reducible exact asB_n (by omega) | with_reducible exact asB_l (by omega)); (first | with_reducible assumption | omega); (first | with_reducible assumption | (simp only [List.length_map]; omega))) | (apply p_slL3_hi; exact rfl; exact rfl; (first | with_reducible assumption | with_reducible exact asB_n (by simp only [List.length_map]; omega) | with_reducible exact asB_n (by omega) | with_reducible exact asB_l (by omega) | with_reducible exact asB_l (by simp only [List.length_cons, List.length_nil, Nat.div_one]; omega))) | (apply p_slL3_lo; exact rfl; exact rfl; (first | with_reducible assumption | with_reducible exact asB_n (by simp only [List.length_map]; omega) | with_reducible exact asB_n (by omega) | with_reducible exact asB_l (by omega) | with_reducible exact asB_l (by simp only [List.length_cons, List.length_nil, Nat.div_one]; omega))) | (apply p_mkf; exact rfl; exact rfl) | (apply p_eq; (iterate 3 exact rfl)) | (apply p_fld; (iterate 3 exact rfl)) | (apply p_guard_yes; exact rfl) | (apply p_guard_no; exact rfl; exact rfl) | (apply p_guard_skip; exact rfl) | (apply p_pick_true; exact rfl; exact rfl) | (apply p_pick_false; exact rfl; exact rfl) | (apply p_pick_bool; (iterate 3 exact rfl)) | apply w_seq | apply w_ops | apply k_norm | apply k_exit | apply k_ret | apply w_ret | apply w_exit | apply w_skip | apply w_block | apply b_norm | apply b_ret | apply b_exit | (apply b_other; exact rfl) | (apply q_cond_true; exact rfl) | (apply q_cond_false; exact rfl) | (apply p_mnN; exact rfl; exact rfl) | (apply p_mxN; exact rfl; exact rfl) | (apply p_slS_both; exact rfl; exact rfl; exact rfl; (first | (with_reducible assumption) | exact asB_n (by omega)); (first | (with_reducible assumption) | exact asB_n (by omega))) | (apply p_ixSn; exact rfl; exact rfl; (with_reducible assumption)))
  rw [ints_length, Nat.div_one]
  refine q_loop (α := Nat) (LInv.mk (fun j => j ≤ js.length ∧ cur ∉ js.take j) (fun j => js.length - j)
    (fun j => [(25, .int .i64 (j : Int)), (24, .int .i64 (js.length : Int)), (23, .sl (q1 + 4) 1 (intsV js)), (10, .sl (q1 + 4) 1 (intsV js)), (9, .sl br2 sz (partsV bs b js)), (11, .bool (js.any (wr bs b))), (12, .int .i64 (cur : Int)), (13, .int .i64 0), (14, .ref 3 0), (2, .int .i64 i), (3, .ref 0 0), (4, .ref 1 0), (6, .ref 2 0)])
    (fun j => [(3, [.int .i64 cur, .int .i64 (dw bs b cur 0), .int .i64 (dw bs b cur 1), .bool (wr bs b cur), .int .u32 (dw bs b cur 2), .int .u32 (dw bs b cur 3)]), (2, [.sl 0 0 []]), (1, [.int .u32 b, .int .u32 s]), (0, [csl 128 (bs.map ofB)])]))
    (fun _ lv1 c1 => lv1 = lv ∧ c1 = c' + 4) 0 ⟨Nat.zero_le _, by simp⟩ ⟨rfl, rfl⟩ (show js.length - 0 < k + 10399 by omega) ⟨rfl, rfl, rfl, rfl, rfl, rfl, rfl, rfl, rfl, rfl, rfl, rfl, rfl, trivial⟩ ⟨rfl, rfl, rfl, rfl, trivial⟩ ?_
  rintro j lv1 c1 T H E ⟨hP, hni⟩ ⟨rfl, rfl⟩ hμ
  have hP : j ≤ js.length := hP
  have hni : cur ∉ js.take j := hni
  clear hμ
  dsimp only
  rcases Nat.lt_or_ge j js.length with hlt | hge
  · obtain ⟨x, hx⟩ : ∃ x, js[j]? = some x := ⟨_, List.getElem?_eq_getElem hlt⟩
    have hr := rd_ints hx
    have gi : inB (j : Int) ((intsV js).length / 1) = some j := inB_n (by rw [ints_length]; omega)
    by_cases he : x = cur
    · have herr : errAt bs b s js cur = 163 := by
        have : bn (decide (cur ∈ js)) = 1 := by rw [decide_eq_true (he ▸ List.mem_of_getElem? hx)]; rfl
        unfold errAt errN; rw [if_pos (.inl this)]
      repeat (first | (apply o_nil; (first | apply k_norm | apply b_norm | skip)) | (apply p_mov; exact rfl) | (apply p_load; (iterate 4 exact rfl)) | (apply p_bin; exact rfl; exact rfl; (first | (with_reducible first | assumption | exact add_nn (by omega) | exact add_nl (by omega) | exact add_ln (by omega) | exact sub_nn (by omega) | exact sub_nl (by omega) | exact sub_ln (by omega) | exact mul_nl (by omega) | exact mul_ln (by omega) | exact mul_nn (by omega) | exact quo_nl (by omega) | exact quo_nn (by omega) | exact rem_nl (by omega) | exact rem_nn (by omega) | exact shr_n (by omega) | exact shr_l (by omega) | exact lss_t (by omega) | exact lss_f (by omega) | exact leq_t (by omega) | exact leq_f (by omega) | exact gtr_t (by omega) | exact gtr_f (by omega) | exact geq_t (by omega) | exact geq_f (by omega) | exact eql_t (by omega) | exact eql_f (by omega) | exact neq_t (by omega) | exact neq_f (by omega)) | exact rfl)) | (apply p_fadd; exact rfl) | (apply p_box; exact rfl; exact rfl; intro E) | (apply p_new; intro E) | (apply p_store; (iterate 3 exact rfl); (first | with_reducible assumption | exact rfl); exact rfl; exact rfl) | (apply p_convA; exact rfl; (first | with_reducible assumption | with_reducible exact w64 (by omega) (by omega) | with_reducible exact w32 (by omega) (by omega) | with_reducible exact w8n _)) | (apply p_conv; exact rfl) | (apply p_len; exact rfl; (first | exact csz_ok _ _ | exact .inl rfl | assumption)) | (apply p_len_osl; exact rfl) | (apply p_lenS; exact rfl) | (apply p_ext; exact rfl; exact rfl) | (apply p_build; exact rfl; exact rfl) | (apply p_bsl; (iterate 4 exact rfl); (first | exact rfl | (simp only [List.length_cons, List.length_nil]; exact rfl))) | (apply p_un; exact rfl; exact rfl) | (apply p_call; exact rfl; exact rfl; (first | assumption)) | (apply p_iaS; exact rfl; exact rfl; (first | exact csz_ok _ _ | exact .inl rfl | assumption); (first | with_reducible assumption | with_reducible exact inB_n (by simp only [List.length_map, List.length_cons, List.length_nil]; omega) | with_reducible exact inB_n (by omega) | with_reducible exact inB_l (by simp only [List.length_map]; omega) | with_reducible exact inB_l (by omega) | exact rfl)) | (apply p_iaA; exact rfl; exact rfl; (first | with_reducible assumption | with_reducible exact inB_n (by simp only [List.length_map, List.length_cons, List.length_nil]; omega) | with_reducible exact inB_n (by omega) | with_reducible exact inB_l (by simp only [List.length_map]; omega) | with_reducible exact inB_l (by omega) | exact rfl)) | (apply p_iaA_pp; exact rfl; exact rfl; (first | with_reducible assumption | with_reducible exact inB_n (by simp only [List.length_map, List.length_cons, List.length_nil]; omega) | with_reducible exact inB_n (by omega) | with_reducible exact inB_l (by simp only [List.length_map]; omega) | with_reducible exact inB_l (by omega) | exact rfl)) | (apply p_load_pp; exact rfl; (first | with_reducible assumption | exact rfl)) | (apply p_fadd_pp; exact rfl) | (apply p_iaS_osl; exact rfl; exact rfl; (first | with_reducible assumption | with_reducible exact inB_n (by simp only [List.length_map, List.length_cons, List.length_nil]; omega) | with_reducible exact inB_n (by omega) | with_reducible exact inB_l (by simp only [List.length_map]; omega) | with_reducible exact inB_l (by omega) | exact rfl)) | (apply p_slA_ref_lo; exact rfl; exact rfl; (first | with_reducible assumption | with_reducible exact asB_n (by simp only [List.length_map]; omega) | with_reducible exact asB_n (by omega) | with_reducible exact asB_l (by omega)); (first | with_reducible assumption | omega)) | (apply p_slA_pp_lo; exact rfl; exact rfl; (first | with_reducible assumption | with_reducible exact asB_n (by simp only [List.length_map]; omega) | with_reducible exact asB_n (by omega) | with_reducible exact asB_l (by omega)); (first | with_reducible assumption | omega); (first | with_reducible assumption | (simp only [List.length_map]; omega))) | (apply p_slL3_hi; exact rfl; exact rfl; (first | with_reducible assumption | with_reducible exact asB_n (by simp only [List.length_map]; omega) | with_reducible exact asB_n (by omega) | with_reducible exact asB_l (by omega) | with_reducible exact asB_l (by simp only [List.length_cons, List.length_nil, Nat.div_one]; omega))) | (apply p_slL3_lo; exact rfl; exact rfl; (first | with_reducible assumption | with_reducible exact asB_n (by simp only [List.length_map]; omega) | with_reducible exact asB_n (by omega) | with_reducible exact asB_l (by omega) | with_reducible exact asB_l (by simp only [List.length_cons, List.length_nil, Nat.div_one]; omega))) | (apply p_mkf; exact rfl; exact rfl) | (apply p_eq; (iterate 3 exact rfl)) | (apply p_fld; (iterate 3 exact rfl)) | (apply p_guard_yes; exact rfl) | (apply p_guard_no; exact rfl; exact rfl) | (apply p_guard_skip; exact rfl) | (apply p_pick_true; exact rfl; exact rfl) | (apply p_pick_false; exact rfl; exact rfl) | (apply p_pick_bool; (iterate 3 exact rfl)) | apply w_seq | apply w_ops | apply k_norm | apply k_exit | apply k_ret | apply w_ret | apply w_exit | apply w_skip | apply w_block | apply b_norm | apply b_ret | apply b_exit | (apply b_other; exact rfl) | (apply q_cond_true; exact rfl) | (apply q_cond_false; exact rfl) | (apply p_mnN; exact rfl; exact rfl) | (apply p_mxN; exact rfl; exact rfl) | (apply p_slS_both; exact rfl; exact rfl; exact rfl; (first | (with_reducible assumption) | exact asB_n (by omega)); (first | (with_reducible assumption) | exact asB_n (by omega))) | (apply p_ixSn; exact rfl; exact rfl; (with_reducible assumption)))
      apply n_exit
      repeat (first | (apply o_nil; (first | apply k_norm | apply b_norm | skip)) | (apply p_mov; exact rfl) | (apply p_load; (iterate 4 exact rfl)) | (apply p_bin; exact rfl; exact rfl; (first | (with_reducible first | assumption | exact add_nn (by omega) | exact add_nl (by omega) | exact add_ln (by omega) | exact sub_nn (by omega) | exact sub_nl (by omega) | exact sub_ln (by omega) | exact mul_nl (by omega) | exact mul_ln (by omega) | exact mul_nn (by omega) | exact quo_nl (by omega) | exact quo_nn (by omega) | exact rem_nl (by omega) | exact rem_nn (by omega) | exact shr_n (by omega) | exact shr_l (by omega) | exact lss_t (by omega) | exact lss_f (by omega) | exact leq_t (by omega) | exact leq_f (by omega) | exact gtr_t (by omega) | exact gtr_f (by omega) | exact geq_t (by omega) | exact geq_f (by omega) | exact eql_t (by omega) | exact eql_f (by omega) | exact neq_t (by omega) | exact neq_f (by omega)) | exact rfl)) | (apply p_fadd; exact rfl) | (apply p_box; exact rfl; exact rfl; intro E) | (apply p_new; intro E) | (apply p_store; (iterate 3 exact rfl); (first | with_reducible assumption | exact rfl); exact rfl; exact rfl) | (apply p_convA; exact rfl; (first | with_reducible assumption | with_reducible exact w64 (by omega) (by omega) | with_reducible exact w32 (by omega) (by omega) | with_reducible exact w8n _)) | (apply p_conv; exact rfl) | (apply p_len; exact rfl; (first | exact csz_ok _ _ | exact .inl rfl | assumption)) | (apply p_len_osl; exact rfl) | (apply p_lenS; exact rfl) | (apply p_ext; exact rfl; exact rfl) | (apply p_build; exact rfl; exact rfl) | (apply p_bsl; (iterate 4 exact rfl); (first | exact rfl | (simp only [List.length_cons, List.length_nil]; exact rfl))) | (apply p_un; exact rfl; exact rfl) | (apply p_call; exact rfl; exact rfl; (first | assumption)) | (apply p_iaS; exact rfl; exact rfl; (first | exact csz_ok _ _ | exact .inl rfl | assumption); (first | with_reducible assumption | with_reducible exact inB_n (by simp only [List.length_map, List.length_cons, List.length_nil]; omega) | with_reducible exact inB_n (by omega) | with_reducible exact inB_l (by simp only [List.length_map]; omega) | with_reducible exact inB_l (by omega) | exact rfl)) | (apply p_iaA; exact rfl; exact rfl; (first | with_reducible assumption | with_reducible exact inB_n (by simp only [List.length_map, List.length_cons, List.length_nil]; omega) | with_reducible exact inB_n (by omega) | with_reducible exact inB_l (by simp only [List.length_map]; omega) | with_reducible exact inB_l (by omega) | exact rfl)) | (apply p_iaA_pp; exact rfl; exact rfl; (first | with_reducible assumption | with_reducible exact inB_n (by simp only [List.length_map, List.length_cons, List.length_nil]; omega) | with_reducible exact inB_n (by omega) | with_reducible exact inB_l (by simp only [List.length_map]; omega) | with_reducible exact inB_l (by omega) | exact rfl)) | (apply p_load_pp; exact rfl; (first | with_reducible assumption | exact rfl)) | (apply p_fadd_pp; exact rfl) | (apply p_iaS_osl; exact rfl; exact rfl; (first | with_reducible assumption | with_reducible exact inB_n (by simp only [List.length_map, List.length_cons, List.length_nil]; omega) | with_reducible exact inB_n (by omega) | with_reducible exact inB_l (by simp only [List.length_map]; omega) | with_reducible exact inB_l (by omega) | exact rfl)) | (apply p_slA_ref_lo; exact rfl; exact rfl; (first | with_reducible assumption | with_reducible exact asB_n (by simp only [List.length_map]; omega) | with_reducible exact asB_n (by omega) | with_reducible exact asB_l (by omega)); (first | with_reducible assumption | omega)) | (apply p_slA_pp_lo; exact rfl; exact rfl; (first | with_reducible assumption | with_reducible exact asB_n (by simp only [List.length_map]; omega) | with_reducible exact asB_n (by omega) | with_reducible exact asB_l (by omega)); (first | with_reducible assumption | omega); (first | with_reducible assumption | (simp only [List.length_map]; omega))) | (apply p_slL3_hi; exact rfl; exact rfl; (first | with_reducible assumption | with_reducible exact asB_n (by simp only [List.length_map]; omega) | with_reducible exact asB_n (by omega) | with_reducible exact asB_l (by omega) | with_reducible exact asB_l (by simp only [List.length_cons, List.length_nil, Nat.div_one]; omega))) | (apply p_slL3_lo; exact rfl; exact rfl; (first | with_reducible assumption | with_reducible exact asB_n (by simp only [List.length_map]; omega) | with_reducible exact asB_n (by omega) | with_reducible exact asB_l (by omega) | with_reducible exact asB_l (by simp only [List.length_cons, List.length_nil, Nat.div_one]; omega))) | (apply p_mkf; exact rfl; exact rfl) | (apply p_eq; (iterate 3 exact rfl)) | (apply p_fld; (iterate 3 exact rfl)) | (apply p_guard_yes; exact rfl) | (apply p_guard_no; exact rfl; exact rfl) | (apply p_guard_skip; exact rfl) | (apply p_pick_true; exact rfl; exact rfl) | (apply p_pick_false; exact rfl; exact rfl) | (apply p_pick_bool; (iterate 3 exact rfl)) | apply w_seq | apply w_ops | apply k_norm | apply k_exit | apply k_ret | apply w_ret | apply w_exit | apply w_skip | apply w_block | apply b_norm | apply b_ret | apply b_exit | (apply b_other; exact rfl) | (apply q_cond_true; exact rfl) | (apply q_cond_false; exact rfl) | (apply p_mnN; exact rfl; exact rfl) | (apply p_mxN; exact rfl; exact rfl) | (apply p_slS_both; exact rfl; exact rfl; exact rfl; (first | (with_reducible assumption) | exact asB_n (by omega)); (first | (with_reducible assumption) | exact asB_n (by omega))) | (apply p_ixSn; exact rfl; exact rfl; (with_reducible assumption)))
      apply n_exit
      exact q_known (P := K (.exit 0)) [(13, .int .i64 ((163 : Nat) : Int)), (2, .int .i64 i), (3, .ref 0 0), (4, .ref 1 0), (6, .ref 2 0)] [(2, [.sl 0 0 []]), (1, [.int .u32 b, .int .u32 s]), (0, [csl 128 (bs.map ofB)])] ⟨rfl, rfl, rfl, rfl, rfl, trivial⟩ ⟨rfl, rfl, rfl, trivial⟩ fun T H E => kerr 163 js _ _ _ _ _ _ (by rw [hW.err (by omega), herr]) (by omega) (by omega)
    · repeat (first | (apply o_nil; (first | apply k_norm | apply b_norm | skip)) | (apply p_mov; exact rfl) | (apply p_load; (iterate 4 exact rfl)) | (apply p_bin; exact rfl; exact rfl; (first | (with_reducible first | assumption | exact add_nn (by omega) | exact add_nl (by omega) | exact add_ln (by omega) | exact sub_nn (by omega) | exact sub_nl (by omega) | exact sub_ln (by omega) | exact mul_nl (by omega) | exact mul_ln (by omega) | exact mul_nn (by omega) | exact quo_nl (by omega) | exact quo_nn (by omega) | exact rem_nl (by omega) | exact rem_nn (by omega) | exact shr_n (by omega) | exact shr_l (by omega) | exact lss_t (by omega) | exact lss_f (by omega) | exact leq_t (by omega) | exact leq_f (by omega) | exact gtr_t (by omega) | exact gtr_f (by omega) | exact geq_t (by omega) | exact geq_f (by omega) | exact eql_t (by omega) | exact eql_f (by omega) | exact neq_t (by omega) | exact neq_f (by omega)) | exact rfl)) | (apply p_fadd; exact rfl) | (apply p_box; exact rfl; exact rfl; intro E) | (apply p_new; intro E) | (apply p_store; (iterate 3 exact rfl); (first | with_reducible assumption | exact rfl); exact rfl; exact rfl) | (apply p_convA; exact rfl; (first | with_reducible assumption | with_reducible exact w64 (by omega) (by omega) | with_reducible exact w32 (by omega) (by omega) | with_reducible exact w8n _)) | (apply p_conv; exact rfl) | (apply p_len; exact rfl; (first | exact csz_ok _ _ | exact .inl rfl | assumption)) | (apply p_len_osl; exact rfl) | (apply p_lenS; exact rfl) | (apply p_ext; exact rfl; exact rfl) | (apply p_build; exact rfl; exact rfl) | (apply p_bsl; (iterate 4 exact rfl); (first | exact rfl | (simp only [List.length_cons, List.length_nil]; exact rfl))) | (apply p_un; exact rfl; exact rfl) | (apply p_call; exact rfl; exact rfl; (first | assumption)) | (apply p_iaS; exact rfl; exact rfl; (first | exact csz_ok _ _ | exact .inl rfl | assumption); (first | with_reducible assumption | with_reducible exact inB_n (by simp only [List.length_map, List.length_cons, List.length_nil]; omega) | with_reducible exact inB_n (by omega) | with_reducible exact inB_l (by simp only [List.length_map]; omega) | with_reducible exact inB_l (by omega) | exact rfl)) | (apply p_iaA; exact rfl; exact rfl; (first | with_reducible assumption | with_reducible exact inB_n (by simp only [List.length_map, List.length_cons, List.length_nil]; omega) | with_reducible exact inB_n (by omega) | with_reducible exact inB_l (by simp only [List.length_map]; omega) | with_reducible exact inB_l (by omega) | exact rfl)) | (apply p_iaA_pp; exact rfl; exact rfl; (first | with_reducible assumption | with_reducible exact inB_n (by simp only [List.length_map, List.length_cons, List.length_nil]; omega) | with_reducible exact inB_n (by omega) | with_reducible exact inB_l (by simp only [List.length_map]; omega) | with_reducible exact inB_l (by omega) | exact rfl)) | (apply p_load_pp; exact rfl; (first | with_reducible assumption | exact rfl)) | (apply p_fadd_pp; exact rfl) | (apply p_iaS_osl; exact rfl; exact rfl; (first | with_reducible assumption | with_reducible exact inB_n (by simp only [List.length_map, List.length_cons, List.length_nil]; omega) | with_reducible exact inB_n (by omega) | with_reducible exact inB_l (by simp only [List.length_map]; omega) | with_reducible exact inB_l (by omega) | exact rfl)) | (apply p_slA_ref_lo; exact rfl; exact rfl; (first | with_reducible assumption | with_reducible exact asB_n (by simp only [List.length_map]; omega) | with_reducible exact asB_n (by omega) | with_reducible exact asB_l (by omega)); (first | with_reducible assumption | omega)) | (apply p_slA_pp_lo; exact rfl; exact rfl; (first | with_reducible assumption | with_reducible exact asB_n (by simp only [List.length_map]; omega) | with_reducible exact asB_n (by omega) | with_reducible exact asB_l (by omega)); (first | with_reducible assumption | omega); (first | with_reducible assumption | (simp only [List.length_map]; omega))) | (apply p_slL3_hi; exact rfl; exact rfl; (first | with_reducible assumption | with_reducible exact asB_n (by simp only [List.length_map]; omega) | with_reducible exact asB_n (by omega) | with_reducible exact asB_l (by omega) | with_reducible exact asB_l (by simp only [List.length_cons, List.length_nil, Nat.div_one]; omega))) | (apply p_slL3_lo; exact rfl; exact rfl; (first | with_reducible assumption | with_reducible exact asB_n (by simp only [List.length_map]; omega) | with_reducible exact asB_n (by omega) | with_reducible exact asB_l (by omega) | with_reducible exact asB_l (by simp only [List.length_cons, List.length_nil, Nat.div_one]; omega))) | (apply p_mkf; exact rfl; exact rfl) | (apply p_eq; (iterate 3 exact rfl)) | (apply p_fld; (iterate 3 exact rfl)) | (apply p_guard_yes; exact rfl) | (apply p_guard_no; exact rfl; exact rfl) | (apply p_guard_skip; exact rfl) | (apply p_pick_true; exact rfl; exact rfl) | (apply p_pick_false; exact rfl; exact rfl) | (apply p_pick_bool; (iterate 3 exact rfl)) | apply w_seq | apply w_ops | apply k_norm | apply k_exit | apply k_ret | apply w_ret | apply w_exit | apply w_skip | apply w_block | apply b_norm | apply b_ret | apply b_exit | (apply b_other; exact rfl) | (apply q_cond_true; exact rfl) | (apply q_cond_false; exact rfl) | (apply p_mnN; exact rfl; exact rfl) | (apply p_mxN; exact rfl; exact rfl) | (apply p_slS_both; exact rfl; exact rfl; exact rfl; (first | (with_reducible assumption) | exact asB_n (by omega)); (first | (with_reducible assumption) | exact asB_n (by omega))) | (apply p_ixSn; exact rfl; exact rfl; (with_reducible assumption)))
      refine n_again (j + 1) ⟨by omega, ?_⟩ ⟨rfl, rfl⟩ (show js.length - (j + 1) < js.length - j by omega) ⟨rfl, rfl, rfl, rfl, rfl, rfl, rfl, rfl, rfl, rfl, rfl, rfl, rfl, trivial⟩ ⟨⟨rfl, rfl⟩, ⟨rfl, rfl⟩, ⟨rfl, rfl⟩, ⟨rfl, rfl⟩, trivial⟩
      rw [List.take_add_one, hx]
      simp only [Option.toList_some, List.mem_append, List.mem_singleton]
      rintro (h | h)
      · exact hni h
      · exact he h.symm
  · rw [List.take_of_length_le hge] at hni
    have hin : bn (decide (cur ∈ js)) = 0 := by rw [decide_eq_false hni]; rfl
    have hjl : j = js.length := by omega
    subst hjl
    repeat (first | (apply o_nil; (first | apply k_norm | apply b_norm | skip)) | (apply p_mov; exact rfl) | (apply p_load; (iterate 4 exact rfl)) | (apply p_bin; exact rfl; exact rfl; (first | (with_reducible first | assumption | exact add_nn (by omega) | exact add_nl (by omega) | exact add_ln (by omega) | exact sub_nn (by omega) | exact sub_nl (by omega) | exact sub_ln (by omega) | exact mul_nl (by omega) | exact mul_ln (by omega) | exact mul_nn (by omega) | exact quo_nl (by omega) | exact quo_nn (by omega) | exact rem_nl (by omega) | exact rem_nn (by omega) | exact shr_n (by omega) | exact shr_l (by omega) | exact lss_t (by omega) | exact lss_f (by omega) | exact leq_t (by omega) | exact leq_f (by omega) | exact gtr_t (by omega) | exact gtr_f (by omega) | exact geq_t (by omega) | exact geq_f (by omega) | exact eql_t (by omega) | exact eql_f (by omega) | exact neq_t (by omega) | exact neq_f (by omega)) | exact rfl)) | (apply p_fadd; exact rfl) | (apply p_box; exact rfl; exact rfl; intro E) | (apply p_new; intro E) | (apply p_store; (iterate 3 exact rfl); (first | with_reducible assumption | exact rfl); exact rfl; exact rfl) | (apply p_convA; exact rfl; (first | with_reducible assumption | with_reducible exact w64 (by omega) (by omega) | with_reducible exact w32 (by omega) (by omega) | with_reducible exact w8n _)) | (apply p_conv; exact rfl) | (apply p_len; exact rfl; (first | exact csz_ok _ _ | exact .inl rfl | assumption)) | (apply p_len_osl; exact rfl) | (apply p_lenS; exact rfl) | (apply p_ext; exact rfl; exact rfl) | (apply p_build; exact rfl; exact rfl) | (apply p_bsl; (iterate 4 exact rfl); (first | exact rfl | (simp only [List.length_cons, List.length_nil]; exact rfl))) | (apply p_un; exact rfl; exact rfl) | (apply p_call; exact rfl; exact rfl; (first | assumption)) | (apply p_iaS; exact rfl; exact rfl; (first | exact csz_ok _ _ | exact .inl rfl | assumption); (first | with_reducible assumption | with_reducible exact inB_n (by simp only [List.length_map, List.length_cons, List.length_nil]; omega) | with_reducible exact inB_n (by omega) | with_reducible exact inB_l (by simp only [List.length_map]; omega) | with_reducible exact inB_l (by omega) | exact rfl)) | (apply p_iaA; exact rfl; exact rfl; (first | with_reducible assumption | with_reducible exact inB_n (by simp only [List.length_map, List.length_cons, List.length_nil]; omega) | with_reducible exact inB_n (by omega) | with_reducible exact inB_l (by simp only [List.length_map]; omega) | with_reducible exact inB_l (by omega) | exact rfl)) | (apply p_iaA_pp; exact rfl; exact rfl; (first | with_reducible assumption | with_reducible exact inB_n (by simp only [List.length_map, List.length_cons, List.length_nil]; omega) | with_reducible exact inB_n (by omega) | with_reducible exact inB_l (by simp only [List.length_map]; omega) | with_reducible exact inB_l (by omega) | exact rfl)) | (apply p_load_pp; exact rfl; (first | with_reducible assumption | exact rfl)) | (apply p_fadd_pp; exact rfl) | (apply p_iaS_osl; exact rfl; exact rfl; (first | with_reducible assumption | with_reducible exact inB_n (by simp only [List.length_map, List.length_cons, List.length_nil]; omega) | with_reducible exact inB_n (by omega) | with_reducible exact inB_l (by simp only [List.length_map]; omega) | with_reducible exact inB_l (by omega) | exact rfl)) | (apply p_slA_ref_lo; exact rfl; exact rfl; (first | with_reducible assumption | with_reducible exact asB_n (by simp only [List.length_map]; omega) | with_reducible exact asB_n (by omega) | with_reducible exact asB_l (by omega)); (first | with_reducible assumption | omega)) | (apply p_slA_pp_lo; exact rfl; exact rfl; (first | with_reducible assumption | with_reducible exact asB_n (by simp only [List.length_map]; omega) | with_reducible exact asB_n (by omega) | with_reducible exact asB_l (by omega)); (first | with_reducible assumption | omega); (first | with_reducible assumption | (simp only [List.length_map]; omega))) | (apply p_slL3_hi; exact rfl; exact rfl; (first | with_reducible assumption | with_reducible exact asB_n (by simp only [List.length_map]; omega) | with_reducible exact asB_n (by omega) | with_reducible exact asB_l (by omega) | with_reducible exact asB_l (by simp only [List.length_cons, List.length_nil, Nat.div_one]; omega))) | (apply p_slL3_lo; exact rfl; exact rfl; (first | with_reducible assumption | with_reducible exact asB_n (by simp only [List.length_map]; omega) | with_reducible exact asB_n (by omega) | with_reducible exact asB_l (by omega) | with_reducible exact asB_l (by simp only [List.length_cons, List.length_nil, Nat.div_one]; omega))) | (apply p_mkf; exact rfl; exact rfl) | (apply p_eq; (iterate 3 exact rfl)) | (apply p_fld; (iterate 3 exact rfl)) | (apply p_guard_yes; exact rfl) | (apply p_guard_no; exact rfl; exact rfl) | (apply p_guard_skip; exact rfl) | (apply p_pick_true; exact rfl; exact rfl) | (apply p_pick_false; exact rfl; exact rfl) | (apply p_pick_bool; (iterate 3 exact rfl)) | apply w_seq | apply w_ops | apply k_norm | apply k_exit | apply k_ret | apply w_ret | apply w_exit | apply w_skip | apply w_block | apply b_norm | apply b_ret | apply b_exit | (apply b_other; exact rfl) | (apply q_cond_true; exact rfl) | (apply q_cond_false; exact rfl) | (apply p_mnN; exact rfl; exact rfl) | (apply p_mxN; exact rfl; exact rfl) | (apply p_slS_both; exact rfl; exact rfl; exact rfl; (first | (with_reducible assumption) | exact asB_n (by omega)); (first | (with_reducible assumption) | exact asB_n (by omega))) | (apply p_ixSn; exact rfl; exact rfl; (with_reducible assumption)))
    apply n_exit
    have hlenI := ints_length js
    have hfl : fitB (dw bs b cur 2) = true ∨ fitB (dw bs b cur 2) = false := by cases fitB (dw bs b cur 2) <;> simp
    have hal : js.any (wr bs b) = true ∨ js.any (wr bs b) = false := by cases js.any (wr bs b) <;> simp
    rcases hfl with hf | hf
    · have hf' : dw bs b cur 2 / 4 % 64 = 0 ∧ dw bs b cur 2 / 65536 = 0 ∧ (dw bs b cur 2 / 2 % 2 = 1 ∨ dw bs b cur 2 / 256 % 256 = 0) := by simpa only [fitB, decide_eq_true_eq] using hf
      rw [hf] at c40
      have hsnoc : ∀ v, wr bs b cur = v → partsV bs b js ++ [.int .i64 cur, .int .i64 (dw bs b cur 0), .int .i64 (dw bs b cur 1), .bool v] = partsV bs b (js ++ [cur]) := by
        intro v hv
        rw [← parts_snoc, ← hv]; rfl
      have hseen : intsV js ++ [.int .i64 (cur : Int)] = intsV (js ++ [cur]) := by simp [intsV]
      have hroom : ((partsV bs b js).length + 4) / 4 * 32 ≤ room := by rw [parts_length, room]; omega
      have hOwn : ∀ lv2 : Nat → Bool, (∀ z, z < c' + 4 → z ≠ q1 + 4 → lv2 z = lv1 z) → Own lv2 (c' + 4 + 1) br2 (partsV bs b js) := by
        intro lv2 hz
        rcases hL2 with ⟨rfl, rfl, rfl⟩ | ⟨q, rfl, g1, g2, rfl⟩
        · exact .inl ⟨rfl, rfl⟩
        · exact .inr (.inr ⟨by omega, by omega, by rw [hz _ g1 (Ne.symm hne)]; exact g2⟩)
      have hbr2 : br2 < c' + 4 := by
        rcases hL2 with ⟨rfl, rfl, rfl⟩ | ⟨q, rfl, g1, g2, rfl⟩
        · omega
        · exact g1
      have hsz : sz = 4 ∨ (partsV bs b js = [] ∧ br2 < 4) := by
        rcases hL2 with ⟨rfl, rfl, rfl⟩ | ⟨q, rfl, g1, g2, rfl⟩
        · exact .inr ⟨rfl, by omega⟩
        · exact .inl rfl
      have c43 : errAt bs b s js cur = 0 → Calls0 (evCall FN (k + 10399)) 43 [memV bs, ringV b s, .int .i64 ((2 : Nat) : Int), csl 1 (intsV (js ++ [cur]))] (memV (markB bs b 2 (js ++ [cur]))) := by
        intro he
        refine (s43 (k := 0) h ?_ (by omega) (by rw [List.length_append, List.length_singleton]; omega)).fuel (by omega)
        intro j hj
        rcases List.mem_append.1 hj with hh | hh
        · exact hW4 j hh
        · rw [List.mem_singleton] at hh; omega
      clear hL2
      have hany0 : (js ++ [cur]).any (wr bs b) = (js.any (wr bs b) || wr bs b cur) := by simp
      have hb1 : bn true = 1 := rfl
      have hb0 : bn false = 0 := rfl
      have hwd : bn (wr bs b cur) = dw bs b cur 2 % 2 := bn_two _
      have hmd : bn (decide (dw bs b cur 2 / 2 % 2 = 1)) = dw bs b cur 2 / 2 % 2 := bn_two _
      cases ha : js.any (wr bs b) <;> cases hwr : wr bs b cur <;> cases hmb : decide (dw bs b cur 2 / 2 % 2 = 1)
      all_goals
        have hbn := congrArg bn ha
        rw [hwr] at c40 c41 c42 hwd
        rw [hmb] at c41 hmd
        rw [ha, hwr] at hany0
        repeat' (first | (apply o_nil; (first | apply k_norm | apply b_norm | skip)) | (apply p_mov; exact rfl) | (apply p_load; (iterate 4 exact rfl)) | (apply p_bin; exact rfl; exact rfl; (first | (with_reducible first | assumption | exact add_nn (by omega) | exact add_nl (by omega) | exact add_ln (by omega) | exact sub_nn (by omega) | exact sub_nl (by omega) | exact sub_ln (by omega) | exact mul_nl (by omega) | exact mul_ln (by omega) | exact mul_nn (by omega) | exact quo_nl (by omega) | exact quo_nn (by omega) | exact rem_nl (by omega) | exact rem_nn (by omega) | exact shr_n (by omega) | exact shr_l (by omega) | exact lss_t (by omega) | exact lss_f (by omega) | exact leq_t (by omega) | exact leq_f (by omega) | exact gtr_t (by omega) | exact gtr_f (by omega) | exact geq_t (by omega) | exact geq_f (by omega) | exact eql_t (by omega) | exact eql_f (by omega) | exact neq_t (by omega) | exact neq_f (by omega)) )) | (apply p_lss_split; exact rfl; exact rfl; all_goals intro hc) | (apply p_leq_split; exact rfl; exact rfl; all_goals intro hc) | (apply p_gtr_split; exact rfl; exact rfl; all_goals intro hc) | (apply p_geq_split; exact rfl; exact rfl; all_goals intro hc) | (apply p_eql_split; exact rfl; exact rfl; all_goals intro hc) | (apply p_neq_split; exact rfl; exact rfl; all_goals intro hc) | (apply p_bin; (iterate 3 exact rfl)) | (apply p_fadd; exact rfl) | (apply p_box; exact rfl; exact rfl; intro E) | (apply p_new; intro E) | (apply p_store; (iterate 3 exact rfl); (first | with_reducible assumption | exact rfl); exact rfl; exact rfl) | (apply p_convA; exact rfl; (first | with_reducible assumption | with_reducible exact w64 (by omega) (by omega) | with_reducible exact w32 (by omega) (by omega) | with_reducible exact w8n _)) | (apply p_conv; exact rfl) | (apply p_len; exact rfl; (first | exact csz_ok _ _ | exact .inl rfl | assumption)) | (apply p_len_osl; exact rfl) | (apply p_lenS; exact rfl) | (apply p_ext; exact rfl; exact rfl) | (apply p_build; exact rfl; exact rfl) | (apply p_bsl; (iterate 4 exact rfl); (first | exact rfl | (simp only [List.length_cons, List.length_nil]; exact rfl))) | (apply p_un; exact rfl; exact rfl) | (apply p_call; exact rfl; exact rfl; (first | assumption)) | (apply p_iaS; exact rfl; exact rfl; (first | exact csz_ok _ _ | exact .inl rfl | assumption); (first | with_reducible assumption | with_reducible exact inB_n (by simp only [List.length_map, List.length_cons, List.length_nil]; omega) | with_reducible exact inB_n (by omega) | with_reducible exact inB_l (by simp only [List.length_map]; omega) | with_reducible exact inB_l (by omega) | exact rfl)) | (apply p_iaA; exact rfl; exact rfl; (first | with_reducible assumption | with_reducible exact inB_n (by simp only [List.length_map, List.length_cons, List.length_nil]; omega) | with_reducible exact inB_n (by omega) | with_reducible exact inB_l (by simp only [List.length_map]; omega) | with_reducible exact inB_l (by omega) | exact rfl)) | (apply p_iaA_pp; exact rfl; exact rfl; (first | with_reducible assumption | with_reducible exact inB_n (by simp only [List.length_map, List.length_cons, List.length_nil]; omega) | with_reducible exact inB_n (by omega) | with_reducible exact inB_l (by simp only [List.length_map]; omega) | with_reducible exact inB_l (by omega) | exact rfl)) | (apply p_load_pp; exact rfl; (first | with_reducible assumption | exact rfl)) | (apply p_fadd_pp; exact rfl) | (apply p_iaS_osl; exact rfl; exact rfl; (first | with_reducible assumption | with_reducible exact inB_n (by simp only [List.length_map, List.length_cons, List.length_nil]; omega) | with_reducible exact inB_n (by omega) | with_reducible exact inB_l (by simp only [List.length_map]; omega) | with_reducible exact inB_l (by omega) | exact rfl)) | (apply p_slA_ref_lo; exact rfl; exact rfl; (first | with_reducible assumption | with_reducible exact asB_n (by simp only [List.length_map]; omega) | with_reducible exact asB_n (by omega) | with_reducible exact asB_l (by omega)); (first | with_reducible assumption | omega)) | (apply p_slA_pp_lo; exact rfl; exact rfl; (first | with_reducible assumption | with_reducible exact asB_n (by simp only [List.length_map]; omega) | with_reducible exact asB_n (by omega) | with_reducible exact asB_l (by omega)); (first | with_reducible assumption | omega); (first | with_reducible assumption | (simp only [List.length_map]; omega))) | (apply p_slL3_hi; exact rfl; exact rfl; (first | with_reducible assumption | with_reducible exact asB_n (by simp only [List.length_map]; omega) | with_reducible exact asB_n (by omega) | with_reducible exact asB_l (by omega) | with_reducible exact asB_l (by simp only [List.length_cons, List.length_nil, Nat.div_one]; omega))) | (apply p_slL3_lo; exact rfl; exact rfl; (first | with_reducible assumption | with_reducible exact asB_n (by simp only [List.length_map]; omega) | with_reducible exact asB_n (by omega) | with_reducible exact asB_l (by omega) | with_reducible exact asB_l (by simp only [List.length_cons, List.length_nil, Nat.div_one]; omega))) | (apply p_mkf; exact rfl; exact rfl) | (apply p_eq; (iterate 3 exact rfl)) | (apply p_fld; (iterate 3 exact rfl)) | (apply p_guard_yes; exact rfl) | (apply p_guard_no; exact rfl; exact rfl) | (apply p_guard_skip; exact rfl) | (apply p_pick_true; exact rfl; exact rfl) | (apply p_pick_false; exact rfl; exact rfl) | (apply p_pick_bool; (iterate 3 exact rfl)) | apply w_seq | apply w_ops | apply k_norm | apply k_exit | apply k_ret | apply w_ret | apply w_exit | apply w_skip | apply w_block | apply b_norm | apply b_ret | apply b_exit | (apply b_other; exact rfl) | (apply q_cond_true; exact rfl) | (apply q_cond_false; exact rfl) | (apply p_guard; exact rfl; all_goals intro hc) | (apply q_cond; exact rfl; all_goals intro hc) | (apply p_mnN; exact rfl; exact rfl) | (apply p_mxN; exact rfl; exact rfl) | (apply p_slS_both; exact rfl; exact rfl; exact rfl; (first | (with_reducible assumption) | exact asB_n (by omega)); (first | (with_reducible assumption) | exact asB_n (by omega))) | (apply p_ixSn; exact rfl; exact rfl; (with_reducible assumption)))
        all_goals first
        | (apply n_exit
           first
          | (refine q_known (P := K (.exit 0)) [(13, .int .i64 ((163 : Nat) : Int)), (2, .int .i64 i), (3, .ref 0 0), (4, .ref 1 0), (6, .ref 2 0)] [(2, [.sl 0 0 []]), (1, [.int .u32 b, .int .u32 s]), (0, [csl 128 (bs.map ofB)])] ⟨rfl, rfl, rfl, rfl, rfl, trivial⟩ ⟨rfl, rfl, rfl, trivial⟩ fun T H E => kerr 163 js _ _ _ _ _ _ ?_ (by omega) (by omega)
             have herr : errAt bs b s js cur = 163 := by
               unfold errAt errN
               (repeat' split) <;> omega
             rw [hW.err (by omega), herr])
          | (refine q_known (P := K (.exit 0)) [(13, .int .i64 ((165 : Nat) : Int)), (2, .int .i64 i), (3, .ref 0 0), (4, .ref 1 0), (6, .ref 2 0)] [(2, [.sl 0 0 []]), (1, [.int .u32 b, .int .u32 s]), (0, [csl 128 (bs.map ofB)])] ⟨rfl, rfl, rfl, rfl, rfl, trivial⟩ ⟨rfl, rfl, rfl, trivial⟩ fun T H E => kerr 165 js _ _ _ _ _ _ ?_ (by omega) (by omega)
             have herr : errAt bs b s js cur = 165 := by
               unfold errAt errN
               (repeat' split) <;> omega
             rw [hW.err (by omega), herr])
          | (refine q_known (P := K (.exit 0)) [(13, .int .i64 ((161 : Nat) : Int)), (2, .int .i64 i), (3, .ref 0 0), (4, .ref 1 0), (6, .ref 2 0)] [(2, [.sl 0 0 []]), (1, [.int .u32 b, .int .u32 s]), (0, [csl 128 (bs.map ofB)])] ⟨rfl, rfl, rfl, rfl, rfl, trivial⟩ ⟨rfl, rfl, rfl, trivial⟩ fun T H E => kerr 161 js _ _ _ _ _ _ ?_ (by omega) (by omega)
             have herr : errAt bs b s js cur = 161 := by
               unfold errAt errN
               (repeat' split) <;> omega
             rw [hW.err (by omega), herr])
          | (refine q_known (P := K (.exit 0)) [(13, .int .i64 ((164 : Nat) : Int)), (2, .int .i64 i), (3, .ref 0 0), (4, .ref 1 0), (6, .ref 2 0)] [(2, [.sl 0 0 []]), (1, [.int .u32 b, .int .u32 s]), (0, [csl 128 (bs.map ofB)])] ⟨rfl, rfl, rfl, rfl, rfl, trivial⟩ ⟨rfl, rfl, rfl, trivial⟩ fun T H E => kerr 164 js _ _ _ _ _ _ ?_ (by omega) (by omega)
             have herr : errAt bs b s js cur = 164 := by
               unfold errAt errN
               (repeat' split) <;> omega
             rw [hW.err (by omega), herr])
          | (refine q_known (P := K (.exit 0)) [(13, .int .i64 ((162 : Nat) : Int)), (2, .int .i64 i), (3, .ref 0 0), (4, .ref 1 0), (6, .ref 2 0)] [(2, [.sl 0 0 []]), (1, [.int .u32 b, .int .u32 s]), (0, [csl 128 (bs.map ofB)])] ⟨rfl, rfl, rfl, rfl, rfl, trivial⟩ ⟨rfl, rfl, rfl, trivial⟩ fun T H E => kerr 162 js _ _ _ _ _ _ ?_ (by omega) (by omega)
             have herr : errAt bs b s js cur = 162 := by
               unfold errAt errN
               (repeat' split) <;> omega
             rw [hW.err (by omega), herr])
          )
        | (
          have he : errAt bs b s js cur = 0 := by
            unfold errAt errN
            (repeat' split) <;> omega
          have hj4 := (errAt_ok he).2.1
          have c43 := c43 he
          apply p_app
          · exact rfl
          · exact .inl rfl
          · exact rfl
          · exact fun H => src_sl _ _ _ _
          · exact ⟨by omega, by omega⟩
          · rw [ints_length]; simp only [List.length_cons, List.length_nil, room]; omega
          · exact .inr (.inr ⟨by omega, hq1, hq2⟩)
          · exact List.cons_ne_nil _ _
          intro lv2 l1 l2
          rw [hseen]
          repeat (first | (apply o_nil; (first | apply k_norm | apply b_norm | skip)) | (apply p_mov; exact rfl) | (apply p_load; (iterate 4 exact rfl)) | (apply p_bin; exact rfl; exact rfl; (first | (with_reducible first | assumption | exact add_nn (by omega) | exact add_nl (by omega) | exact add_ln (by omega) | exact sub_nn (by omega) | exact sub_nl (by omega) | exact sub_ln (by omega) | exact mul_nl (by omega) | exact mul_ln (by omega) | exact mul_nn (by omega) | exact quo_nl (by omega) | exact quo_nn (by omega) | exact rem_nl (by omega) | exact rem_nn (by omega) | exact shr_n (by omega) | exact shr_l (by omega) | exact lss_t (by omega) | exact lss_f (by omega) | exact leq_t (by omega) | exact leq_f (by omega) | exact gtr_t (by omega) | exact gtr_f (by omega) | exact geq_t (by omega) | exact geq_f (by omega) | exact eql_t (by omega) | exact eql_f (by omega) | exact neq_t (by omega) | exact neq_f (by omega)) | exact rfl)) | (apply p_fadd; exact rfl) | (apply p_box; exact rfl; exact rfl; intro E) | (apply p_new; intro E) | (apply p_store; (iterate 3 exact rfl); (first | with_reducible assumption | exact rfl); exact rfl; exact rfl) | (apply p_convA; exact rfl; (first | with_reducible assumption | with_reducible exact w64 (by omega) (by omega) | with_reducible exact w32 (by omega) (by omega) | with_reducible exact w8n _)) | (apply p_conv; exact rfl) | (apply p_len; exact rfl; (first | exact csz_ok _ _ | exact .inl rfl | assumption)) | (apply p_len_osl; exact rfl) | (apply p_lenS; exact rfl) | (apply p_ext; exact rfl; exact rfl) | (apply p_build; exact rfl; exact rfl) | (apply p_bsl; (iterate 4 exact rfl); (first | exact rfl | (simp only [List.length_cons, List.length_nil]; exact rfl))) | (apply p_un; exact rfl; exact rfl) | (apply p_call; exact rfl; exact rfl; (first | assumption)) | (apply p_iaS; exact rfl; exact rfl; (first | exact csz_ok _ _ | exact .inl rfl | assumption); (first | with_reducible assumption | with_reducible exact inB_n (by simp only [List.length_map, List.length_cons, List.length_nil]; omega) | with_reducible exact inB_n (by omega) | with_reducible exact inB_l (by simp only [List.length_map]; omega) | with_reducible exact inB_l (by omega) | exact rfl)) | (apply p_iaA; exact rfl; exact rfl; (first | with_reducible assumption | with_reducible exact inB_n (by simp only [List.length_map, List.length_cons, List.length_nil]; omega) | with_reducible exact inB_n (by omega) | with_reducible exact inB_l (by simp only [List.length_map]; omega) | with_reducible exact inB_l (by omega) | exact rfl)) | (apply p_iaA_pp; exact rfl; exact rfl; (first | with_reducible assumption | with_reducible exact inB_n (by simp only [List.length_map, List.length_cons, List.length_nil]; omega) | with_reducible exact inB_n (by omega) | with_reducible exact inB_l (by simp only [List.length_map]; omega) | with_reducible exact inB_l (by omega) | exact rfl)) | (apply p_load_pp; exact rfl; (first | with_reducible assumption | exact rfl)) | (apply p_fadd_pp; exact rfl) | (apply p_iaS_osl; exact rfl; exact rfl; (first | with_reducible assumption | with_reducible exact inB_n (by simp only [List.length_map, List.length_cons, List.length_nil]; omega) | with_reducible exact inB_n (by omega) | with_reducible exact inB_l (by simp only [List.length_map]; omega) | with_reducible exact inB_l (by omega) | exact rfl)) | (apply p_slA_ref_lo; exact rfl; exact rfl; (first | with_reducible assumption | with_reducible exact asB_n (by simp only [List.length_map]; omega) | with_reducible exact asB_n (by omega) | with_reducible exact asB_l (by omega)); (first | with_reducible assumption | omega)) | (apply p_slA_pp_lo; exact rfl; exact rfl; (first | with_reducible assumption | with_reducible exact asB_n (by simp only [List.length_map]; omega) | with_reducible exact asB_n (by omega) | with_reducible exact asB_l (by omega)); (first | with_reducible assumption | omega); (first | with_reducible assumption | (simp only [List.length_map]; omega))) | (apply p_slL3_hi; exact rfl; exact rfl; (first | with_reducible assumption | with_reducible exact asB_n (by simp only [List.length_map]; omega) | with_reducible exact asB_n (by omega) | with_reducible exact asB_l (by omega) | with_reducible exact asB_l (by simp only [List.length_cons, List.length_nil, Nat.div_one]; omega))) | (apply p_slL3_lo; exact rfl; exact rfl; (first | with_reducible assumption | with_reducible exact asB_n (by simp only [List.length_map]; omega) | with_reducible exact asB_n (by omega) | with_reducible exact asB_l (by omega) | with_reducible exact asB_l (by simp only [List.length_cons, List.length_nil, Nat.div_one]; omega))) | (apply p_mkf; exact rfl; exact rfl) | (apply p_eq; (iterate 3 exact rfl)) | (apply p_fld; (iterate 3 exact rfl)) | (apply p_guard_yes; exact rfl) | (apply p_guard_no; exact rfl; exact rfl) | (apply p_guard_skip; exact rfl) | (apply p_pick_true; exact rfl; exact rfl) | (apply p_pick_false; exact rfl; exact rfl) | (apply p_pick_bool; (iterate 3 exact rfl)) | apply w_seq | apply w_ops | apply k_norm | apply k_exit | apply k_ret | apply w_ret | apply w_exit | apply w_skip | apply w_block | apply b_norm | apply b_ret | apply b_exit | (apply b_other; exact rfl) | (apply q_cond_true; exact rfl) | (apply q_cond_false; exact rfl) | (apply p_mnN; exact rfl; exact rfl) | (apply p_mxN; exact rfl; exact rfl) | (apply p_slS_both; exact rfl; exact rfl; exact rfl; (first | (with_reducible assumption) | exact asB_n (by omega)); (first | (with_reducible assumption) | exact asB_n (by omega))) | (apply p_ixSn; exact rfl; exact rfl; (with_reducible assumption)))
          apply p_app
          · exact rfl
          · exact hsz
          · exact rfl
          · exact fun H => src_sl _ _ _ _
          · exact ⟨by omega, by omega⟩
          · exact hroom
          · exact hOwn lv2 l2
          · exact List.cons_ne_nil _ _
          intro lv3 m1 m2
          rw [hsnoc _ hwr]
          repeat (first | (apply o_nil; (first | apply k_norm | apply b_norm | skip)) | (apply p_mov; exact rfl) | (apply p_load; (iterate 4 exact rfl)) | (apply p_bin; exact rfl; exact rfl; (first | (with_reducible first | assumption | exact add_nn (by omega) | exact add_nl (by omega) | exact add_ln (by omega) | exact sub_nn (by omega) | exact sub_nl (by omega) | exact sub_ln (by omega) | exact mul_nl (by omega) | exact mul_ln (by omega) | exact mul_nn (by omega) | exact quo_nl (by omega) | exact quo_nn (by omega) | exact rem_nl (by omega) | exact rem_nn (by omega) | exact shr_n (by omega) | exact shr_l (by omega) | exact lss_t (by omega) | exact lss_f (by omega) | exact leq_t (by omega) | exact leq_f (by omega) | exact gtr_t (by omega) | exact gtr_f (by omega) | exact geq_t (by omega) | exact geq_f (by omega) | exact eql_t (by omega) | exact eql_f (by omega) | exact neq_t (by omega) | exact neq_f (by omega)) | exact rfl)) | (apply p_fadd; exact rfl) | (apply p_box; exact rfl; exact rfl; intro E) | (apply p_new; intro E) | (apply p_store; (iterate 3 exact rfl); (first | with_reducible assumption | exact rfl); exact rfl; exact rfl) | (apply p_convA; exact rfl; (first | with_reducible assumption | with_reducible exact w64 (by omega) (by omega) | with_reducible exact w32 (by omega) (by omega) | with_reducible exact w8n _)) | (apply p_conv; exact rfl) | (apply p_len; exact rfl; (first | exact csz_ok _ _ | exact .inl rfl | assumption)) | (apply p_len_osl; exact rfl) | (apply p_lenS; exact rfl) | (apply p_ext; exact rfl; exact rfl) | (apply p_build; exact rfl; exact rfl) | (apply p_bsl; (iterate 4 exact rfl); (first | exact rfl | (simp only [List.length_cons, List.length_nil]; exact rfl))) | (apply p_un; exact rfl; exact rfl) | (apply p_call; exact rfl; exact rfl; (first | assumption)) | (apply p_iaS; exact rfl; exact rfl; (first | exact csz_ok _ _ | exact .inl rfl | assumption); (first | with_reducible assumption | with_reducible exact inB_n (by simp only [List.length_map, List.length_cons, List.length_nil]; omega) | with_reducible exact inB_n (by omega) | with_reducible exact inB_l (by simp only [List.length_map]; omega) | with_reducible exact inB_l (by omega) | exact rfl)) | (apply p_iaA; exact rfl; exact rfl; (first | with_reducible assumption | with_reducible exact inB_n (by simp only [List.length_map, List.length_cons, List.length_nil]; omega) | with_reducible exact inB_n (by omega) | with_reducible exact inB_l (by simp only [List.length_map]; omega) | with_reducible exact inB_l (by omega) | exact rfl)) | (apply p_iaA_pp; exact rfl; exact rfl; (first | with_reducible assumption | with_reducible exact inB_n (by simp only [List.length_map, List.length_cons, List.length_nil]; omega) | with_reducible exact inB_n (by omega) | with_reducible exact inB_l (by simp only [List.length_map]; omega) | with_reducible exact inB_l (by omega) | exact rfl)) | (apply p_load_pp; exact rfl; (first | with_reducible assumption | exact rfl)) | (apply p_fadd_pp; exact rfl) | (apply p_iaS_osl; exact rfl; exact rfl; (first | with_reducible assumption | with_reducible exact inB_n (by simp only [List.length_map, List.length_cons, List.length_nil]; omega) | with_reducible exact inB_n (by omega) | with_reducible exact inB_l (by simp only [List.length_map]; omega) | with_reducible exact inB_l (by omega) | exact rfl)) | (apply p_slA_ref_lo; exact rfl; exact rfl; (first | with_reducible assumption | with_reducible exact asB_n (by simp only [List.length_map]; omega) | with_reducible exact asB_n (by omega) | with_reducible exact asB_l (by omega)); (first | with_reducible assumption | omega)) | (apply p_slA_pp_lo; exact rfl; exact rfl; (first | with_reducible assumption | with_reducible exact asB_n (by simp only [List.length_map]; omega) | with_reducible exact asB_n (by omega) | with_reducible exact asB_l (by omega)); (first | with_reducible assumption | omega); (first | with_reducible assumption | (simp only [List.length_map]; omega))) | (apply p_slL3_hi; exact rfl; exact rfl; (first | with_reducible assumption | with_reducible exact asB_n (by simp only [List.length_map]; omega) | with_reducible exact asB_n (by omega) | with_reducible exact asB_l (by omega) | with_reducible exact asB_l (by simp only [List.length_cons, List.length_nil, Nat.div_one]; omega))) | (apply p_slL3_lo; exact rfl; exact rfl; (first | with_reducible assumption | with_reducible exact asB_n (by simp only [List.length_map]; omega) | with_reducible exact asB_n (by omega) | with_reducible exact asB_l (by omega) | with_reducible exact asB_l (by simp only [List.length_cons, List.length_nil, Nat.div_one]; omega))) | (apply p_mkf; exact rfl; exact rfl) | (apply p_eq; (iterate 3 exact rfl)) | (apply p_fld; (iterate 3 exact rfl)) | (apply p_guard_yes; exact rfl) | (apply p_guard_no; exact rfl; exact rfl) | (apply p_guard_skip; exact rfl) | (apply p_pick_true; exact rfl; exact rfl) | (apply p_pick_false; exact rfl; exact rfl) | (apply p_pick_bool; (iterate 3 exact rfl)) | apply w_seq | apply w_ops | apply k_norm | apply k_exit | apply k_ret | apply w_ret | apply w_exit | apply w_skip | apply w_block | apply b_norm | apply b_ret | apply b_exit | (apply b_other; exact rfl) | (apply q_cond_true; exact rfl) | (apply q_cond_false; exact rfl) | (apply p_mnN; exact rfl; exact rfl) | (apply p_mxN; exact rfl; exact rfl) | (apply p_slS_both; exact rfl; exact rfl; exact rfl; (first | (with_reducible assumption) | exact asB_n (by omega)); (first | (with_reducible assumption) | exact asB_n (by omega))) | (apply p_ixSn; exact rfl; exact rfl; (with_reducible assumption)))
          first
          | (apply n_ret
             exact q_known (P := K .ret) [(7, .sl (c' + 1 + 4) 4 (partsV bs b (js ++ [cur]))), (8, .int .i64 0), (6, .ref 2 0)] [(2, [csl 128 ((markB bs b 2 (js ++ [cur])).map ofB)])] ⟨rfl, rfl, rfl, trivial⟩ ⟨rfl, trivial⟩ fun T H E => kok _ _ _ _ _ _ _ _ (hW.last he (by omega)))
          | (refine n_again (f - 1, js ++ [cur], dw bs b cur 2 / 256 % 256, c' + 4, c' + 4 + 1, 4) (hW.more he (by omega)) ⟨by omega, ⟨c', rfl, ?_, ?_⟩, .inr ⟨c' + 1, rfl, ?_, m1, rfl⟩, ?_⟩ (show f - 1 < f by omega) ?_ ⟨⟨rfl, rfl⟩, ⟨rfl, rfl⟩, ⟨rfl, rfl⟩, trivial⟩
             · show c' + 4 < c' + 4 + 1 + 1; omega
             · show lv3 (c' + 4) = true
               rw [m2 (c' + 4) (by omega) (by omega)]; exact l1
             · show c' + 4 + 1 < c' + 4 + 1 + 1; omega
             · show c' + 4 ≠ c' + 4 + 1; omega
             · dsimp only
               rw [hany0]
               exact ⟨rfl, rfl, rfl, rfl, rfl, rfl, rfl, rfl, rfl, trivial⟩)
          )
    · have hf' : ¬ (dw bs b cur 2 / 4 % 64 = 0 ∧ dw bs b cur 2 / 65536 = 0 ∧ (dw bs b cur 2 / 2 % 2 = 1 ∨ dw bs b cur 2 / 256 % 256 = 0)) := by simpa only [fitB, decide_eq_false_iff_not] using hf
      rw [hf] at c40
      repeat' (first | (apply o_nil; (first | apply k_norm | apply b_norm | skip)) | (apply p_mov; exact rfl) | (apply p_load; (iterate 4 exact rfl)) | (apply p_bin; exact rfl; exact rfl; (first | (with_reducible first | assumption | exact add_nn (by omega) | exact add_nl (by omega) | exact add_ln (by omega) | exact sub_nn (by omega) | exact sub_nl (by omega) | exact sub_ln (by omega) | exact mul_nl (by omega) | exact mul_ln (by omega) | exact mul_nn (by omega) | exact quo_nl (by omega) | exact quo_nn (by omega) | exact rem_nl (by omega) | exact rem_nn (by omega) | exact shr_n (by omega) | exact shr_l (by omega) | exact lss_t (by omega) | exact lss_f (by omega) | exact leq_t (by omega) | exact leq_f (by omega) | exact gtr_t (by omega) | exact gtr_f (by omega) | exact geq_t (by omega) | exact geq_f (by omega) | exact eql_t (by omega) | exact eql_f (by omega) | exact neq_t (by omega) | exact neq_f (by omega)) )) | (apply p_lss_split; exact rfl; exact rfl; all_goals intro hc) | (apply p_leq_split; exact rfl; exact rfl; all_goals intro hc) | (apply p_gtr_split; exact rfl; exact rfl; all_goals intro hc) | (apply p_geq_split; exact rfl; exact rfl; all_goals intro hc) | (apply p_eql_split; exact rfl; exact rfl; all_goals intro hc) | (apply p_neq_split; exact rfl; exact rfl; all_goals intro hc) | (apply p_bin; (iterate 3 exact rfl)) | (apply p_fadd; exact rfl) | (apply p_box; exact rfl; exact rfl; intro E) | (apply p_new; intro E) | (apply p_store; (iterate 3 exact rfl); (first | with_reducible assumption | exact rfl); exact rfl; exact rfl) | (apply p_convA; exact rfl; (first | with_reducible assumption | with_reducible exact w64 (by omega) (by omega) | with_reducible exact w32 (by omega) (by omega) | with_reducible exact w8n _)) | (apply p_conv; exact rfl) | (apply p_len; exact rfl; (first | exact csz_ok _ _ | exact .inl rfl | assumption)) | (apply p_len_osl; exact rfl) | (apply p_lenS; exact rfl) | (apply p_ext; exact rfl; exact rfl) | (apply p_build; exact rfl; exact rfl) | (apply p_bsl; (iterate 4 exact rfl); (first | exact rfl | (simp only [List.length_cons, List.length_nil]; exact rfl))) | (apply p_un; exact rfl; exact rfl) | (apply p_call; exact rfl; exact rfl; (first | assumption)) | (apply p_iaS; exact rfl; exact rfl; (first | exact csz_ok _ _ | exact .inl rfl | assumption); (first | with_reducible assumption | with_reducible exact inB_n (by simp only [List.length_map, List.length_cons, List.length_nil]; omega) | with_reducible exact inB_n (by omega) | with_reducible exact inB_l (by simp only [List.length_map]; omega) | with_reducible exact inB_l (by omega) | exact rfl)) | (apply p_iaA; exact rfl; exact rfl; (first | with_reducible assumption | with_reducible exact inB_n (by simp only [List.length_map, List.length_cons, List.length_nil]; omega) | with_reducible exact inB_n (by omega) | with_reducible exact inB_l (by simp only [List.length_map]; omega) | with_reducible exact inB_l (by omega) | exact rfl)) | (apply p_iaA_pp; exact rfl; exact rfl; (first | with_reducible assumption | with_reducible exact inB_n (by simp only [List.length_map, List.length_cons, List.length_nil]; omega) | with_reducible exact inB_n (by omega) | with_reducible exact inB_l (by simp only [List.length_map]; omega) | with_reducible exact inB_l (by omega) | exact rfl)) | (apply p_load_pp; exact rfl; (first | with_reducible assumption | exact rfl)) | (apply p_fadd_pp; exact rfl) | (apply p_iaS_osl; exact rfl; exact rfl; (first | with_reducible assumption | with_reducible exact inB_n (by simp only [List.length_map, List.length_cons, List.length_nil]; omega) | with_reducible exact inB_n (by omega) | with_reducible exact inB_l (by simp only [List.length_map]; omega) | with_reducible exact inB_l (by omega) | exact rfl)) | (apply p_slA_ref_lo; exact rfl; exact rfl; (first | with_reducible assumption | with_reducible exact asB_n (by simp only [List.length_map]; omega) | with_reducible exact asB_n (by omega) | with_reducible exact asB_l (by omega)); (first | with_reducible assumption | omega)) | (apply p_slA_pp_lo; exact rfl; exact rfl; (first | with_reducible assumption | with_reducible exact asB_n (by simp only [List.length_map]; omega) | with_reducible exact asB_n (by omega) | with_reducible exact asB_l (by omega)); (first | with_reducible assumption | omega); (first | with_reducible assumption | (simp only [List.length_map]; omega))) | (apply p_slL3_hi; exact rfl; exact rfl; (first | with_reducible assumption | with_reducible exact asB_n (by simp only [List.length_map]; omega) | with_reducible exact asB_n (by omega) | with_reducible exact asB_l (by omega) | with_reducible exact asB_l (by simp only [List.length_cons, List.length_nil, Nat.div_one]; omega))) | (apply p_slL3_lo; exact rfl; exact rfl; (first | with_reducible assumption | with_reducible exact asB_n (by simp only [List.length_map]; omega) | with_reducible exact asB_n (by omega) | with_reducible exact asB_l (by omega) | with_reducible exact asB_l (by simp only [List.length_cons, List.length_nil, Nat.div_one]; omega))) | (apply p_mkf; exact rfl; exact rfl) | (apply p_eq; (iterate 3 exact rfl)) | (apply p_fld; (iterate 3 exact rfl)) | (apply p_guard_yes; exact rfl) | (apply p_guard_no; exact rfl; exact rfl) | (apply p_guard_skip; exact rfl) | (apply p_pick_true; exact rfl; exact rfl) | (apply p_pick_false; exact rfl; exact rfl) | (apply p_pick_bool; (iterate 3 exact rfl)) | apply w_seq | apply w_ops | apply k_norm | apply k_exit | apply k_ret | apply w_ret | apply w_exit | apply w_skip | apply w_block | apply b_norm | apply b_ret | apply b_exit | (apply b_other; exact rfl) | (apply q_cond_true; exact rfl) | (apply q_cond_false; exact rfl) | (apply p_guard; exact rfl; all_goals intro hc) | (apply q_cond; exact rfl; all_goals intro hc) | (apply p_mnN; exact rfl; exact rfl) | (apply p_mxN; exact rfl; exact rfl) | (apply p_slS_both; exact rfl; exact rfl; exact rfl; (first | (with_reducible assumption) | exact asB_n (by omega)); (first | (with_reducible assumption) | exact asB_n (by omega))) | (apply p_ixSn; exact rfl; exact rfl; (with_reducible assumption)))
      all_goals
        apply n_exit
        first
        | (refine q_known (P := K (.exit 0)) [(13, .int .i64 ((163 : Nat) : Int)), (2, .int .i64 i), (3, .ref 0 0), (4, .ref 1 0), (6, .ref 2 0)] [(2, [.sl 0 0 []]), (1, [.int .u32 b, .int .u32 s]), (0, [csl 128 (bs.map ofB)])] ⟨rfl, rfl, rfl, rfl, rfl, trivial⟩ ⟨rfl, rfl, rfl, trivial⟩ fun T H E => kerr 163 js _ _ _ _ _ _ ?_ (by omega) (by omega)
           have herr : errAt bs b s js cur = 163 := by
             unfold errAt errN
             (repeat' split) <;> omega
           rw [hW.err (by omega), herr])
        | (refine q_known (P := K (.exit 0)) [(13, .int .i64 ((165 : Nat) : Int)), (2, .int .i64 i), (3, .ref 0 0), (4, .ref 1 0), (6, .ref 2 0)] [(2, [.sl 0 0 []]), (1, [.int .u32 b, .int .u32 s]), (0, [csl 128 (bs.map ofB)])] ⟨rfl, rfl, rfl, rfl, rfl, trivial⟩ ⟨rfl, rfl, rfl, trivial⟩ fun T H E => kerr 165 js _ _ _ _ _ _ ?_ (by omega) (by omega)
           have herr : errAt bs b s js cur = 165 := by
             unfold errAt errN
             (repeat' split) <;> omega
           rw [hW.err (by omega), herr])
        | (refine q_known (P := K (.exit 0)) [(13, .int .i64 ((161 : Nat) : Int)), (2, .int .i64 i), (3, .ref 0 0), (4, .ref 1 0), (6, .ref 2 0)] [(2, [.sl 0 0 []]), (1, [.int .u32 b, .int .u32 s]), (0, [csl 128 (bs.map ofB)])] ⟨rfl, rfl, rfl, rfl, rfl, trivial⟩ ⟨rfl, rfl, rfl, trivial⟩ fun T H E => kerr 161 js _ _ _ _ _ _ ?_ (by omega) (by omega)
           have herr : errAt bs b s js cur = 161 := by
             unfold errAt errN
             (repeat' split) <;> omega
           rw [hW.err (by omega), herr])
        | (refine q_known (P := K (.exit 0)) [(13, .int .i64 ((164 : Nat) : Int)), (2, .int .i64 i), (3, .ref 0 0), (4, .ref 1 0), (6, .ref 2 0)] [(2, [.sl 0 0 []]), (1, [.int .u32 b, .int .u32 s]), (0, [csl 128 (bs.map ofB)])] ⟨rfl, rfl, rfl, rfl, rfl, trivial⟩ ⟨rfl, rfl, rfl, trivial⟩ fun T H E => kerr 164 js _ _ _ _ _ _ ?_ (by omega) (by omega)
           have herr : errAt bs b s js cur = 164 := by
             unfold errAt errN
             (repeat' split) <;> omega
           rw [hW.err (by omega), herr])
        | (refine q_known (P := K (.exit 0)) [(13, .int .i64 ((162 : Nat) : Int)), (2, .int .i64 i), (3, .ref 0 0), (4, .ref 1 0), (6, .ref 2 0)] [(2, [.sl 0 0 []]), (1, [.int .u32 b, .int .u32 s]), (0, [csl 128 (bs.map ofB)])] ⟨rfl, rfl, rfl, rfl, rfl, trivial⟩ ⟨rfl, rfl, rfl, trivial⟩ fun T H E => kerr 162 js _ _ _ _ _ _ ?_ (by omega) (by omega)
           have herr : errAt bs b s js cur = 162 := by
             unfold errAt errN
             (repeat' split) <;> omega
           rw [hW.err (by omega), herr])

end Go.Proofs.Ythkkhmkieknemaa

/- Take, Fail with any error, Finish: what they come to. Condition: the memory is valid, the ring is there, the indices are of the ring. -/
namespace Go.Proofs.Ythkkhmkieknemaa
open Go.Abs
variable {k : Nat}

set_option maxRecDepth 100000 in
set_option maxHeartbeats 1000000 in
theorem s15 {bs : List UInt8} {b s i : Nat} (h : RV bs b s) (hi : i < s) : Calls0 (evCall FN (k + 10400)) 15 [memV bs, ringV b s, .int .i64 i] (.tup [memV (takeM bs b s i), csl 4 (partsV bs b (takeL bs b s i)), .int .i64 (takeE bs b s i)]) := by
  have hl := h.m.le
  have hs := h.hs
  have hle := h.le
  have hb16 := h.hb
  have c39 : Calls0 (evCall FN (k + 10399)) 39 [memV bs, ringV b s, .int .i64 i] (dcV i (dw bs b i 0) (dw bs b i 1) (wr bs b i) (dw bs b i 2) (dw bs b i 3)) := (s39' (k := 0) h hi).fuel (by omega)
  have c22 : ∀ e, 161 ≤ e → e ≤ 165 → Calls0 (evCall FN (k + 10399)) 22 [memV bs, ringV b s, .int .i64 i, .int .i64 (e : Nat)] (memV (mark1 b (4 + (e - 160)) bs i)) := fun e h1 h2 => (s22 (k := 0) h hi (by omega)).fuel (by omega)
  refine q_call0 fn15 fun T H E lv => ?_
  repeat (first | (apply o_nil; apply k_norm) | (apply p_mov; exact rfl) | (apply p_box; exact rfl; exact rfl; intro E) | (apply p_new; intro E) | apply w_seq | apply w_ops)
  apply p_mks
  · exact rfl
  · exact rfl
  · exact ⟨by decide, by decide, by decide, by decide, rfl, by decide, rfl⟩
  intro lv' l1 l2
  repeat (first | (apply o_nil; apply k_norm) | (apply p_mov; exact rfl) | apply w_seq | apply w_ops | apply k_norm | apply w_skip | apply w_block)
  refine take_loop h hi l1 ⟨rfl, rfl, rfl, rfl, rfl, rfl, rfl, rfl, rfl, trivial⟩ ⟨rfl, rfl, rfl, trivial⟩ ?_ ?_
  · intro e js n lv c T H E hw he1 he2
    obtain ⟨e1, e2, e3⟩ := take_err hw (by omega)
    have c22 := c22 e he1 he2
    rw [e1, e2, e3]
    apply b_exit
    by_cases h3 : dw bs b i 3 = 1
    · rw [if_pos h3]
      repeat (first | (apply o_nil; apply k_norm) | (apply p_mov; exact rfl) | (apply p_load; (iterate 4 exact rfl)) | (apply p_bin; exact rfl; exact rfl; (with_reducible exact eql_t (by omega))) | (apply p_store; (iterate 3 exact rfl); exact rfl; exact rfl; exact rfl) | (apply p_call; exact rfl; exact rfl; assumption) | (apply p_fld; (iterate 3 exact rfl)) | apply w_seq | apply w_ops | apply k_norm | apply w_ret | (apply q_cond_true; exact rfl))
      exact q_ret (.inr rfl) rfl rfl rfl rfl rfl rfl
    · rw [if_neg h3]
      repeat (first | (apply o_nil; apply k_norm) | (apply p_mov; exact rfl) | (apply p_load; (iterate 4 exact rfl)) | (apply p_bin; exact rfl; exact rfl; (with_reducible exact eql_f (by omega))) | (apply p_store; (iterate 3 exact rfl); exact rfl; exact rfl; exact rfl) | (apply p_call; exact rfl; exact rfl; assumption) | (apply p_fld; (iterate 3 exact rfl)) | apply w_seq | apply w_ops | apply k_norm | apply w_ret | apply w_skip | (apply q_cond_false; exact rfl))
      exact q_ret (.inr rfl) rfl rfl rfl rfl rfl rfl
  · intro br js n lv c T H E hw
    obtain ⟨e1, e2, e3⟩ := take_ok hw
    rw [e1, e2, e3]
    repeat (first | apply k_ret | apply b_ret)
    exact q_ret (.inr rfl) rfl rfl rfl rfl rfl rfl

set_option maxRecDepth 100000 in
theorem s22' {bs : List UInt8} {b s i : Nat} {e : Int} (he : e < 160 ∨ 165 < e) : Calls0 (evCall FN (k + 10300)) 22 [memV bs, ringV b s, .int .i64 i, .int .i64 e] (memV bs) := by
  refine q_call0 fn22 fun T H E lv => ?_
  rcases he with he | he
  · repeat (first | (apply o_nil; apply k_norm) | (apply p_mov; exact rfl) | (apply p_load; (iterate 4 exact rfl)) | (apply p_bin; exact rfl; exact rfl; (with_reducible exact lss_t (by omega))) | (apply p_box; exact rfl; exact rfl; intro E) | (apply p_new; intro E) | (apply p_store; (iterate 3 exact rfl); exact rfl; exact rfl; exact rfl) | (apply p_guard_no; exact rfl; exact rfl) | (apply p_pick_true; exact rfl; exact rfl) | apply w_seq | apply w_ops | apply k_ret | apply w_ret | (apply q_cond_true; exact rfl))
    exact q_ret (.inr rfl) rfl rfl rfl rfl rfl rfl
  · repeat (first | (apply o_nil; apply k_norm) | (apply p_mov; exact rfl) | (apply p_load; (iterate 4 exact rfl)) | (apply p_bin; exact rfl; exact rfl; (with_reducible exact lss_f (by omega))) | (apply p_bin; exact rfl; exact rfl; (with_reducible exact gtr_t (by omega))) | (apply p_box; exact rfl; exact rfl; intro E) | (apply p_new; intro E) | (apply p_store; (iterate 3 exact rfl); exact rfl; exact rfl; exact rfl) | (apply p_guard_yes; exact rfl) | (apply p_pick_false; exact rfl; exact rfl) | apply w_seq | apply w_ops | apply k_ret | apply w_ret | (apply q_cond_true; exact rfl))
    exact q_ret (.inr rfl) rfl rfl rfl rfl rfl rfl

set_option maxRecDepth 100000 in
theorem s23' {bs : List UInt8} {b s i : Nat} {e : Int} (he : e < 160 ∨ 165 < e) : Calls0 (evCall FN (k + 10300)) 23 [memV bs, ringV b s, .int .i64 i, .int .i64 e] (memV bs) := by
  refine q_call0 fn23 fun T H E lv => ?_
  rcases he with he | he
  · repeat (first | (apply o_nil; apply k_norm) | (apply p_mov; exact rfl) | (apply p_load; (iterate 4 exact rfl)) | (apply p_bin; exact rfl; exact rfl; (with_reducible exact lss_t (by omega))) | (apply p_box; exact rfl; exact rfl; intro E) | (apply p_new; intro E) | (apply p_store; (iterate 3 exact rfl); exact rfl; exact rfl; exact rfl) | (apply p_guard_no; exact rfl; exact rfl) | (apply p_pick_true; exact rfl; exact rfl) | apply w_seq | apply w_ops | apply k_ret | apply w_ret | (apply q_cond_true; exact rfl))
    exact q_ret (.inr rfl) rfl rfl rfl rfl rfl rfl
  · repeat (first | (apply o_nil; apply k_norm) | (apply p_mov; exact rfl) | (apply p_load; (iterate 4 exact rfl)) | (apply p_bin; exact rfl; exact rfl; (with_reducible exact lss_f (by omega))) | (apply p_bin; exact rfl; exact rfl; (with_reducible exact gtr_t (by omega))) | (apply p_box; exact rfl; exact rfl; intro E) | (apply p_new; intro E) | (apply p_store; (iterate 3 exact rfl); exact rfl; exact rfl; exact rfl) | (apply p_guard_yes; exact rfl) | (apply p_pick_false; exact rfl; exact rfl) | apply w_seq | apply w_ops | apply k_ret | apply w_ret | (apply q_cond_true; exact rfl))
    exact q_ret (.inr rfl) rfl rfl rfl rfl rfl rfl

set_option maxRecDepth 100000 in
theorem s21 {bs bs0 : List UInt8} {b s : Nat} {js : List Nat} (h : RV bs b s) (hj : ∀ j ∈ js, j < s) (hn : js.length ≤ 100) : Calls0 (evCall FN (k + 201)) 21 [memV bs, ringV b s, csl 4 (partsV bs0 b js)] (memV (markB bs b 3 js)) := by
  have c47 : Calls0 (evCall FN (k + 200)) 47 [memV bs, ringV b s, csl 4 (partsV bs0 b js), .int .i64 ((3 : Nat) : Int)] (memV (markB bs b 3 js)) := s47 h hj (by omega) hn
  refine q_call0 fn21 fun T H E lv => ?_
  repeat (first | (apply o_nil; apply k_norm) | (apply p_mov; exact rfl) | (apply p_load; (iterate 4 exact rfl)) | (apply p_box; exact rfl; exact rfl; intro E) | (apply p_new; intro E) | (apply p_store; (iterate 3 exact rfl); exact rfl; exact rfl; exact rfl) | (apply p_call; exact rfl; exact rfl; assumption) | apply w_seq | apply w_ops | apply w_ret)
  exact q_ret (.inr rfl) rfl rfl rfl rfl rfl rfl

theorem rd_part {bs : List UInt8} {b j i : Nat} {js : List Nat} (h : js[j]? = some i) : rd (partsV bs b js) (j * 4) 4 true = some (.agg (partV bs b i)) := by
  have hlt : j < js.length := (List.getElem?_eq_some_iff.1 h).1
  have hl := parts_length bs b js
  simp only [rd, if_true]
  rw [if_pos (by omega)]
  congr 2
  apply List.ext_getElem?
  intro t
  by_cases ht : t < 4
  · rw [List.getElem?_take_of_lt ht, List.getElem?_drop, parts_get ht h]
  · rw [List.getElem?_eq_none (by rw [List.length_take]; omega), List.getElem?_eq_none (by rw [partV_length]; omega)]

set_option maxRecDepth 100000 in
theorem s20 {bs bs0 : List UInt8} {b s : Nat} {js : List Nat} (h : RV bs b s) (hj : ∀ j ∈ js, j < s) (hn : js.length ≤ 100) : Calls0 (evCall FN (k + 10400)) 20 [memV bs, ringV b s, csl 4 (partsV bs0 b js)] (memV (markB bs b 3 js)) := by
  have hl := h.m.le
  have hs := h.hs
  have hle := h.le
  have hb16 := h.hb
  refine q_call0 fn20 fun T H E lv => ?_
  repeat (first | (apply o_nil; apply k_norm) | (apply p_mov; exact rfl) | (apply p_box; exact rfl; exact rfl; intro E) | (apply p_new; intro E) | (apply p_len; exact rfl; exact csz_ok _ _) | apply w_seq | apply w_ops | apply w_block)
  rw [parts_div]
  refine q_loop (α := Nat) (LInv.mk (fun j => j ≤ js.length) (fun j => js.length - j)
    (fun j => [(11, .int .i64 (j : Int)), (10, .int .i64 (js.length : Int)), (9, csl 4 (partsV bs0 b js)), (6, .ref 2 0), (4, .ref 1 0), (3, .ref 0 0)])
    (fun j => [(2, [.sl 0 0 []]), (1, [.int .u32 b, .int .u32 s]), (0, [csl 128 ((markB bs b 3 (js.take j)).map ofB)])]))
    (fun _ _ c => c = 4) 0 (Nat.zero_le _) rfl (show js.length - 0 < k + 10399 by omega) ⟨rfl, rfl, rfl, rfl, rfl, rfl, trivial⟩ ⟨rfl, rfl, rfl, trivial⟩ ?_
  rintro j lv c T H E hP rfl hμ
  have hP : j ≤ js.length := hP
  clear hμ
  dsimp only
  rcases Nat.lt_or_ge j js.length with hlt | hge
  · obtain ⟨i, hi⟩ : ∃ i, js[j]? = some i := ⟨_, List.getElem?_eq_getElem hlt⟩
    have his : i < s := hj i (List.mem_of_getElem? hi)
    have hr := rd_part (bs := bs0) (b := b) hi
    have gi : inB (j : Int) ((partsV bs0 b js).length / 4) = some j := inB_n (by rw [parts_div]; omega)
    have hV : RV (markB bs b 3 (js.take j)) b s := h.markB fun x hx => hj x (List.mem_of_mem_take hx)
    have c43 : Calls0 (evCall FN (k + 10399)) 43 [memV (markB bs b 3 (js.take j)), ringV b s, .int .i64 ((3 : Nat) : Int), csl 1 (intsV [i])] (memV (mark1 b 3 (markB bs b 3 (js.take j)) i)) := (s43 (k := 0) (js := [i]) hV (by simp [his]) (by omega) (by simp)).fuel (by omega)
    repeat (first | (apply o_nil; apply k_norm) | (apply o_nil; apply b_norm) | (apply o_nil; skip) | (apply p_mov; exact rfl) | (apply p_load; (iterate 4 exact rfl)) | (apply p_bin; exact rfl; exact rfl; (with_reducible exact add_nl (by omega))) | (apply p_bin; exact rfl; exact rfl; (with_reducible exact lss_t (by omega))) | (apply p_fadd; exact rfl) | (apply p_new; intro E) | (apply p_store; (iterate 3 exact rfl); exact rfl; exact rfl; exact rfl) | (apply p_bsl; (iterate 4 exact rfl); (simp only [List.length_cons, List.length_nil]; exact rfl)) | (apply p_call; exact rfl; exact rfl; assumption) | (apply p_iaS; exact rfl; exact rfl; exact csz_ok _ _; (with_reducible assumption)) | (apply p_load_pp; exact rfl; (with_reducible assumption)) | apply w_seq | apply w_ops | apply k_norm | apply w_skip | apply w_block | (apply q_cond_true; exact rfl))
    exact n_again (j + 1) (show j + 1 ≤ js.length by omega) rfl (show js.length - (j + 1) < js.length - j by omega) ⟨rfl, rfl, rfl, rfl, rfl, rfl, trivial⟩ ⟨⟨rfl, rfl⟩, ⟨rfl, rfl⟩, ⟨by rw [markB_take hi]; rfl, rfl⟩, trivial⟩
  · repeat (first | (apply o_nil; apply k_norm) | (apply p_bin; exact rfl; exact rfl; (with_reducible exact lss_f (by omega))) | apply w_seq | apply w_ops | apply k_exit | apply w_exit | (apply q_cond_false; exact rfl))
    apply n_exit
    apply b_exit
    repeat (first | (apply o_nil; apply k_norm) | (apply p_load; (iterate 4 exact rfl)) | (apply p_store; (iterate 3 exact rfl); exact rfl; exact rfl; exact rfl) | apply w_seq | apply w_ops | apply k_norm | apply w_ret)
    rw [List.take_of_length_le hge]
    exact q_ret (.inr rfl) rfl rfl rfl rfl rfl rfl

end Go.Proofs.Ythkkhmkieknemaa

/- First: what it comes to, and the reference's. Condition: the memory is valid, the ring is there. -/
namespace Go.Proofs.Ythkkhmkieknemaa
open Go.Abs
variable {k : Nat}

/-- The first index from a place on that is offered. -/
def fstR (bs : List UInt8) (b s pos : Nat) : Nat → Nat → Nat × Bool
  | 0, _ => (0, false)
  | f + 1, j => if dw bs b ((pos + j) % s) 3 = 1 then ((pos + j) % s, true) else fstR bs b s pos f (j + 1)

theorem fstR_step {bs : List UInt8} {b s pos j : Nat} (h : j < s) : fstR bs b s pos (s - j) j = if dw bs b ((pos + j) % s) 3 = 1 then ((pos + j) % s, true) else fstR bs b s pos (s - (j + 1)) (j + 1) := by
  obtain ⟨f, hf⟩ : ∃ f, s - j = f + 1 := ⟨s - j - 1, by omega⟩
  have hf' : s - (j + 1) = f := by omega
  rw [hf, hf', fstR]

set_option maxRecDepth 100000 in
theorem s14 {bs : List UInt8} {b s pos x : Nat} {y : Bool} (h : RV bs b s) (hp : pos < 256) (hx : fstR bs b s pos s 0 = (x, y)) : Calls0 (evCall FN (k + 100)) 14 [memV bs, ringV b s, .int .i64 pos] (.tup [.int .i64 x, .bool y]) := by
  have hl := h.m.le
  have hs := h.hs
  have hle := h.le
  have hb16 := h.hb
  refine q_call0 fn14 fun T H E lv => ?_
  repeat (first | (apply o_nil; apply k_norm) | (apply p_mov; exact rfl) | (apply p_load; (iterate 4 exact rfl)) | (apply p_fadd; exact rfl) | (apply p_box; exact rfl; exact rfl; intro E) | (apply p_convA; exact rfl; (with_reducible exact w64 (by omega) (by omega))) | apply w_seq | apply w_ops | apply w_block)
  refine q_loop (α := Nat) (LInv.mk (fun j => j ≤ s ∧ fstR bs b s pos (s - j) j = (x, y)) (fun j => s - j)
    (fun j => [(13, .int .i64 (j : Int)), (12, .int .i64 (s : Int)), (4, .ref 1 0), (3, .ref 0 0), (2, .int .i64 pos)])
    (fun j => [(1, [.int .u32 b, .int .u32 s]), (0, [csl 128 (bs.map ofB)])]))
    (fun _ _ c => c = 4) 0 ⟨Nat.zero_le _, hx⟩ rfl (show s - 0 < k + 99 by omega) ⟨rfl, rfl, rfl, rfl, rfl, trivial⟩ ⟨rfl, rfl, trivial⟩ ?_
  rintro j lv c T H E ⟨hP, hj⟩ rfl hμ
  have hP : j ≤ s := hP
  have hj : fstR bs b s pos (s - j) j = (x, y) := hj
  clear hμ
  dsimp only
  rcases Nat.lt_or_ge j s with hlt | hge
  · rw [fstR_step hlt] at hj
    have his : (pos + j) % s < s := Nat.mod_lt _ (by omega)
    have c39 : Calls0 (evCall FN (k + 99)) 39 [memV bs, ringV b s, .int .i64 (((pos + j) % s : Nat) : Int)] (dcV ((pos + j) % s) (dw bs b ((pos + j) % s) 0) (dw bs b ((pos + j) % s) 1) (wr bs b ((pos + j) % s)) (dw bs b ((pos + j) % s) 2) (dw bs b ((pos + j) % s) 3)) := (s39' (k := 0) h his).fuel (by omega)
    have gr : evBin .rem (.int .i64 ((pos + j : Nat) : Int)) (.int .i64 (s : Int)) = some (.int .i64 (((pos + j) % s : Nat) : Int)) := rem_nn (by omega)
    by_cases hd : dw bs b ((pos + j) % s) 3 = 1
    · rw [if_pos hd, Prod.mk.injEq] at hj
      obtain ⟨rfl, rfl⟩ := hj
      repeat (first | (apply o_nil; apply k_norm) | (apply p_mov; exact rfl) | (apply p_load; (iterate 4 exact rfl)) | (apply p_bin; exact rfl; exact rfl; (with_reducible assumption)) | (apply p_bin; exact rfl; exact rfl; (with_reducible exact add_nn (by omega))) | (apply p_bin; exact rfl; exact rfl; (with_reducible exact lss_t (by omega))) | (apply p_bin; exact rfl; exact rfl; (with_reducible exact eql_t (by omega))) | (apply p_fadd; exact rfl) | (apply p_convA; exact rfl; (with_reducible exact w64 (by omega) (by omega))) | (apply p_call; exact rfl; exact rfl; assumption) | (apply p_fld; (iterate 3 exact rfl)) | apply w_seq | apply w_ops | apply k_norm | apply k_ret | apply w_ret | apply w_skip | apply w_block | apply b_ret | (apply q_cond_true; exact rfl))
      apply n_ret
      repeat (first | apply k_ret | apply b_ret)
      exact q_ret (.inr rfl) rfl rfl rfl rfl rfl rfl
    · rw [if_neg hd] at hj
      repeat (first | (apply o_nil; apply k_norm) | (apply o_nil; skip) | (apply p_mov; exact rfl) | (apply p_load; (iterate 4 exact rfl)) | (apply p_bin; exact rfl; exact rfl; (with_reducible assumption)) | (apply p_bin; exact rfl; exact rfl; (with_reducible exact add_nn (by omega))) | (apply p_bin; exact rfl; exact rfl; (with_reducible exact add_nl (by omega))) | (apply p_bin; exact rfl; exact rfl; (with_reducible exact lss_t (by omega))) | (apply p_bin; exact rfl; exact rfl; (with_reducible exact eql_f (by omega))) | (apply p_fadd; exact rfl) | (apply p_convA; exact rfl; (with_reducible exact w64 (by omega) (by omega))) | (apply p_call; exact rfl; exact rfl; assumption) | (apply p_fld; (iterate 3 exact rfl)) | apply w_seq | apply w_ops | apply k_norm | apply w_skip | apply w_block | apply b_norm | (apply q_cond_true; exact rfl) | (apply q_cond_false; exact rfl))
      exact n_again (j + 1) ⟨by omega, hj⟩ rfl (show s - (j + 1) < s - j by omega) ⟨rfl, rfl, rfl, rfl, rfl, trivial⟩ ⟨⟨rfl, rfl⟩, ⟨rfl, rfl⟩, trivial⟩
  · have hjs : s - j = 0 := by omega
    rw [hjs, fstR, Prod.mk.injEq] at hj
    obtain ⟨rfl, rfl⟩ := hj
    repeat (first | (apply o_nil; apply k_norm) | (apply p_bin; exact rfl; exact rfl; (with_reducible exact lss_f (by omega))) | apply w_seq | apply w_ops | apply k_exit | apply w_exit | (apply q_cond_false; exact rfl))
    apply n_exit
    apply b_exit
    repeat (first | (apply o_nil; apply k_norm) | (apply p_mov; exact rfl) | apply w_seq | apply w_ops | apply k_norm | apply w_ret)
    exact q_ret (.inr rfl) rfl rfl rfl rfl rfl rfl

set_option maxRecDepth 100000 in
theorem s16 {bs : List UInt8} {b s pos x : Nat} {y : Bool} (h : RV bs b s) (hp : pos < 256) (hx : fstR bs b s pos s 0 = (x, y)) : Calls0 (evCall FN (k + 100)) 16 [memV bs, ringV b s, .int .i64 pos] (.agg [.int .i64 x, .bool y]) := by
  have hl := h.m.le
  have hs := h.hs
  have hle := h.le
  have hb16 := h.hb
  refine q_call0 fn16 fun T H E lv => ?_
  repeat (first | (apply o_nil; apply k_norm) | (apply p_mov; exact rfl) | (apply p_load; (iterate 4 exact rfl)) | (apply p_fadd; exact rfl) | (apply p_box; exact rfl; exact rfl; intro E) | (apply p_new; intro E) | (apply p_convA; exact rfl; (with_reducible exact w64 (by omega) (by omega))) | apply w_seq | apply w_ops | apply w_block)
  refine q_loop (α := Nat) (LInv.mk (fun j => j ≤ s ∧ fstR bs b s pos (s - j) j = (x, y)) (fun j => s - j)
    (fun j => [(8, .int .i64 (j : Int)), (7, .int .i64 (s : Int)), (6, .ref 2 0), (4, .ref 1 0), (3, .ref 0 0), (2, .int .i64 pos)])
    (fun j => [(2, [.int .i64 0, .bool false]), (1, [.int .u32 b, .int .u32 s]), (0, [csl 128 (bs.map ofB)])]))
    (fun _ _ c => c = 4) 0 ⟨Nat.zero_le _, hx⟩ rfl (show s - 0 < k + 99 by omega) ⟨rfl, rfl, rfl, rfl, rfl, rfl, trivial⟩ ⟨rfl, rfl, rfl, trivial⟩ ?_
  rintro j lv c T H E ⟨hP, hj⟩ rfl hμ
  have hP : j ≤ s := hP
  have hj : fstR bs b s pos (s - j) j = (x, y) := hj
  clear hμ
  dsimp only
  rcases Nat.lt_or_ge j s with hlt | hge
  · rw [fstR_step hlt] at hj
    have his : (pos + j) % s < s := Nat.mod_lt _ (by omega)
    have c44 : Calls0 (evCall FN (k + 99)) 44 [memV bs, ringV b s, .int .i64 (((pos + j) % s : Nat) : Int), .int .i64 ((3 : Nat) : Int)] (.int .i64 (dw bs b ((pos + j) % s) 3)) := (s44 (k := 0) h his (by omega)).fuel (by omega)
    have gr : evBin .rem (.int .i64 ((pos + j : Nat) : Int)) (.int .i64 (s : Int)) = some (.int .i64 (((pos + j) % s : Nat) : Int)) := rem_nn (by omega)
    by_cases hd : dw bs b ((pos + j) % s) 3 = 1
    · rw [if_pos hd, Prod.mk.injEq] at hj
      obtain ⟨rfl, rfl⟩ := hj
      repeat (first | (apply o_nil; apply k_norm) | (apply p_mov; exact rfl) | (apply p_load; (iterate 4 exact rfl)) | (apply p_bin; exact rfl; exact rfl; (with_reducible assumption)) | (apply p_bin; exact rfl; exact rfl; (with_reducible exact add_nn (by omega))) | (apply p_bin; exact rfl; exact rfl; (with_reducible exact lss_t (by omega))) | (apply p_bin; exact rfl; exact rfl; (with_reducible exact eql_t (by omega))) | (apply p_store; (iterate 3 exact rfl); exact rfl; exact rfl; exact rfl) | (apply p_build; exact rfl; exact rfl) | (apply p_call; exact rfl; exact rfl; assumption) | apply w_seq | apply w_ops | apply k_norm | apply k_ret | apply w_ret | apply w_skip | apply w_block | apply b_ret | (apply q_cond_true; exact rfl))
      apply n_ret
      repeat (first | apply k_ret | apply b_ret)
      exact q_ret (.inr rfl) rfl rfl rfl rfl rfl rfl
    · rw [if_neg hd] at hj
      repeat (first | (apply o_nil; apply k_norm) | (apply o_nil; skip) | (apply p_mov; exact rfl) | (apply p_load; (iterate 4 exact rfl)) | (apply p_bin; exact rfl; exact rfl; (with_reducible assumption)) | (apply p_bin; exact rfl; exact rfl; (with_reducible exact add_nn (by omega))) | (apply p_bin; exact rfl; exact rfl; (with_reducible exact add_nl (by omega))) | (apply p_bin; exact rfl; exact rfl; (with_reducible exact lss_t (by omega))) | (apply p_bin; exact rfl; exact rfl; (with_reducible exact eql_f (by omega))) | (apply p_call; exact rfl; exact rfl; assumption) | apply w_seq | apply w_ops | apply k_norm | apply w_skip | apply w_block | apply b_norm | (apply q_cond_true; exact rfl) | (apply q_cond_false; exact rfl))
      exact n_again (j + 1) ⟨by omega, hj⟩ rfl (show s - (j + 1) < s - j by omega) ⟨rfl, rfl, rfl, rfl, rfl, rfl, trivial⟩ ⟨⟨rfl, rfl⟩, ⟨rfl, rfl⟩, ⟨rfl, rfl⟩, trivial⟩
  · have hjs : s - j = 0 := by omega
    rw [hjs, fstR, Prod.mk.injEq] at hj
    obtain ⟨rfl, rfl⟩ := hj
    repeat (first | (apply o_nil; apply k_norm) | (apply p_mov; exact rfl) | (apply p_bin; exact rfl; exact rfl; (with_reducible exact lss_f (by omega))) | apply w_seq | apply w_ops | apply k_exit | apply w_exit | (apply q_cond_false; exact rfl))
    apply n_exit
    apply b_exit
    repeat (first | (apply o_nil; apply k_norm) | (apply p_store; (iterate 3 exact rfl); exact rfl; exact rfl; exact rfl) | (apply p_build; exact rfl; exact rfl) | apply w_seq | apply w_ops | apply k_norm | apply w_ret)
    exact q_ret (.inr rfl) rfl rfl rfl rfl rfl rfl

end Go.Proofs.Ythkkhmkieknemaa

/- What is valid, and what is there. Condition: the numbers of the ring are words. -/
namespace Go.Proofs.Ythkkhmkieknemaa
open Go.Abs
variable {k : Nat}

set_option maxRecDepth 100000 in
theorem s9t {bs : List UInt8} (h : VM bs) : Calls0 (evCall FN (k + 1)) 9 [memV bs] (.bool true) := by
  have hl := h.le
  have hd : (bs.map ofB).length / 128 = bs.length / 128 := by rw [List.length_map]
  refine q_call0 fn9 fun T H E lv => ?_
  repeat (first | (apply o_nil; apply k_norm) | (apply p_mov; exact rfl) | (apply p_load; (iterate 4 exact rfl)) | (apply p_bin; exact rfl; exact rfl; (with_reducible exact leq_t (by omega))) | (apply p_bin; exact rfl; exact rfl; (with_reducible exact geq_t (by omega))) | (apply p_fadd; exact rfl) | (apply p_box; exact rfl; exact rfl; intro E) | (apply p_len; exact rfl; exact csz_ok _ _) | (apply p_guard_yes; exact rfl) | (apply p_pick_true; exact rfl; exact rfl) | apply w_seq | apply w_ops | apply w_ret)
  exact q_ret (.inr rfl) rfl rfl rfl rfl rfl rfl

set_option maxRecDepth 100000 in
theorem s9f {bs : List UInt8} {p : Nat} (hp : bs.length = 128 * p) (h : p = 0 ∨ 64 < p) : Calls0 (evCall FN (k + 1)) 9 [memV bs] (.bool false) := by
  have hd : (bs.map ofB).length / 128 = p := by rw [List.length_map]; omega
  refine q_call0 fn9 fun T H E lv => ?_
  rcases h with h | h
  · repeat (first | (apply o_nil; apply k_norm) | (apply p_mov; exact rfl) | (apply p_load; (iterate 4 exact rfl)) | (apply p_bin; exact rfl; exact rfl; (with_reducible exact geq_f (by omega))) | (apply p_fadd; exact rfl) | (apply p_box; exact rfl; exact rfl; intro E) | (apply p_len; exact rfl; exact csz_ok _ _) | (apply p_guard_no; exact rfl; exact rfl) | (apply p_pick_false; exact rfl; exact rfl) | apply w_seq | apply w_ops | apply w_ret)
    exact q_ret (.inr rfl) rfl rfl rfl rfl rfl rfl
  · repeat (first | (apply o_nil; apply k_norm) | (apply p_mov; exact rfl) | (apply p_load; (iterate 4 exact rfl)) | (apply p_bin; exact rfl; exact rfl; (with_reducible exact leq_f (by omega))) | (apply p_bin; exact rfl; exact rfl; (with_reducible exact geq_t (by omega))) | (apply p_fadd; exact rfl) | (apply p_box; exact rfl; exact rfl; intro E) | (apply p_len; exact rfl; exact csz_ok _ _) | (apply p_guard_yes; exact rfl) | (apply p_pick_true; exact rfl; exact rfl) | apply w_seq | apply w_ops | apply w_ret)
    exact q_ret (.inr rfl) rfl rfl rfl rfl rfl rfl

/-- Whether a ring is there, as a number. -/
def chkN (n b s : Nat) : Nat := if (s = 1 ∨ s = 2 ∨ s = 4 ∨ s = 8) ∧ b % 16 = 0 ∧ b + 16 * s ≤ n then 0 else 160

theorem chkN_ok {bs : List UInt8} {b s : Nat} (h : VM bs) (hc : chkN bs.length b s = 0) : RV bs b s := by
  unfold chkN at hc
  split at hc
  · next h1 => exact ⟨h, h1.1, h1.2.1, h1.2.2⟩
  · omega

theorem rem_u32 (b : Nat) : evBin .rem (.int .u32 (b : Int)) (.int .u32 16) = some (.int .u32 ((b % 16 : Nat) : Int)) := by
  simp only [evBin, reduceCtorEq, or_self, if_false, if_true, evInt]
  rw [if_neg (by decide), Int.tmod_eq_emod_of_nonneg (by omega)]
  simp

set_option maxRecDepth 100000 in
theorem s11 {bs : List UInt8} {b s : Nat} (h : VM bs) (hb : b < 4294967296) (hs : s < 4294967296) : Calls0 (evCall FN (k + 2)) 11 [memV bs, ringV b s] (.int .i64 (chkN bs.length b s)) := by
  have hl := h.le
  have gr := rem_u32 b
  have c34 : Calls0 (evCall FN (k + 1)) 34 [memV bs] (.int .i64 bs.length) := s34 h
  refine q_call0 fn11 fun T H E lv => ?_
  repeat' (first | (apply o_nil; apply k_norm) | (apply p_mov; exact rfl) | (apply p_load; (iterate 4 exact rfl)) | (apply p_bin; exact rfl; exact rfl; (with_reducible assumption)) | (apply p_bin; exact rfl; exact rfl; (with_reducible exact add_nn (by omega))) | (apply p_bin; exact rfl; exact rfl; (with_reducible exact mul_ln (by omega))) | (apply p_leq_split; exact rfl; exact rfl; all_goals intro hc) | (apply p_eql_split; exact rfl; exact rfl; all_goals intro hc) | (apply p_fadd; exact rfl) | (apply p_box; exact rfl; exact rfl; intro E) | (apply p_convA; exact rfl; (with_reducible exact w64 (by omega) (by omega))) | (apply p_call; exact rfl; exact rfl; assumption) | (apply p_guard_yes; exact rfl) | (apply p_guard_no; exact rfl; exact rfl) | (apply p_pick_true; exact rfl; exact rfl) | (apply p_pick_false; exact rfl; exact rfl) | apply w_seq | apply w_ops | apply k_norm | apply k_ret | apply w_ret | apply w_skip | apply w_block | apply b_norm | apply b_ret | (apply q_cond_true; exact rfl) | (apply q_cond_false; exact rfl))
  all_goals
    refine q_ret (.inr rfl) rfl rfl rfl rfl ?_ rfl
    refine congrArg (AV.int .i64) ?_
    unfold chkN
    split <;> omega

set_option maxRecDepth 100000 in
theorem s12 {bs : List UInt8} {b s : Nat} (h : VM bs) (hb : b < 4294967296) (hs : s < 4294967296) : Calls0 (evCall FN (k + 2)) 12 [memV bs, ringV b s] (.int .i64 (chkN bs.length b s)) := by
  have hl := h.le
  have gr := rem_u32 b
  have c38 : Calls0 (evCall FN (k + 1)) 38 [memV bs] (.int .i64 bs.length) := s38 h
  refine q_call0 fn12 fun T H E lv => ?_
  repeat' (first | (apply o_nil; apply k_norm) | (apply p_mov; exact rfl) | (apply p_load; (iterate 4 exact rfl)) | (apply p_bin; exact rfl; exact rfl; (with_reducible assumption)) | (apply p_bin; exact rfl; exact rfl; (with_reducible exact add_nn (by omega))) | (apply p_bin; exact rfl; exact rfl; (with_reducible exact mul_ln (by omega))) | (apply p_gtr_split; exact rfl; exact rfl; all_goals intro hc) | (apply p_neq_split; exact rfl; exact rfl; all_goals intro hc) | (apply p_fadd; exact rfl) | (apply p_box; exact rfl; exact rfl; intro E) | (apply p_convA; exact rfl; (with_reducible exact w64 (by omega) (by omega))) | (apply p_call; exact rfl; exact rfl; assumption) | (apply p_guard_yes; exact rfl) | (apply p_guard_no; exact rfl; exact rfl) | (apply p_pick_true; exact rfl; exact rfl) | (apply p_pick_false; exact rfl; exact rfl) | apply w_seq | apply w_ops | apply k_norm | apply k_ret | apply w_ret | apply w_skip | (apply q_cond_true; exact rfl) | (apply q_cond_false; exact rfl))
  all_goals
    refine q_ret (.inr rfl) rfl rfl rfl rfl ?_ rfl
    refine congrArg (AV.int .i64) ?_
    unfold chkN
    split <;> omega

set_option maxRecDepth 100000 in
theorem s13 {bs : List UInt8} {b s : Nat} {v : Bool} (h : VM bs) (hb : b < 4294967296) (hs : s < 4294967296) (hv : decide (chkN bs.length b s = 0) = v) : Calls0 (evCall FN (k + 3)) 13 [memV bs, ringV b s] (.bool v) := by
  have c9 : Calls0 (evCall FN (k + 2)) 9 [memV bs] (.bool true) := (s9t (k := 0) h).fuel (by omega)
  have c12 : Calls0 (evCall FN (k + 2)) 12 [memV bs, ringV b s] (.int .i64 (chkN bs.length b s)) := s12 h hb hs
  refine q_call0 fn13 fun T H E lv => ?_
  by_cases hc : chkN bs.length b s = 0
  · rw [decide_eq_true hc] at hv
    subst hv
    repeat (first | (apply o_nil; apply k_norm) | (apply p_mov; exact rfl) | (apply p_load; (iterate 4 exact rfl)) | (apply p_bin; exact rfl; exact rfl; (with_reducible exact eql_t (by omega))) | (apply p_box; exact rfl; exact rfl; intro E) | (apply p_call; exact rfl; exact rfl; assumption) | (apply p_guard_yes; exact rfl) | (apply p_pick_true; exact rfl; exact rfl) | apply w_seq | apply w_ops | apply w_ret)
    exact q_ret (.inr rfl) rfl rfl rfl rfl rfl rfl
  · rw [decide_eq_false hc] at hv
    subst hv
    repeat (first | (apply o_nil; apply k_norm) | (apply p_mov; exact rfl) | (apply p_load; (iterate 4 exact rfl)) | (apply p_bin; exact rfl; exact rfl; (with_reducible exact eql_f (by omega))) | (apply p_box; exact rfl; exact rfl; intro E) | (apply p_call; exact rfl; exact rfl; assumption) | (apply p_guard_yes; exact rfl) | (apply p_pick_true; exact rfl; exact rfl) | apply w_seq | apply w_ops | apply w_ret)
    exact q_ret (.inr rfl) rfl rfl rfl rfl rfl rfl

end Go.Proofs.Ythkkhmkieknemaa

/- The same lists, and the same memories, are found to be the same. Condition: the memory is valid. -/
namespace Go.Proofs.Ythkkhmkieknemaa
open Go.Abs
variable {k : Nat}

theorem eqK_part (bs : List UInt8) (b i : Nat) : eqKs [0, 0, 0, 1] (partV bs b i) (partV bs b i) = some true := by simp [eqKs, eqK, partV]

theorem eqK_bytes : ∀ (n : Nat) (xs : List UInt8), xs.length = n → eqKs (List.replicate n 0) (xs.map ofB) (xs.map ofB) = some true
  | 0, [], _ => rfl
  | n + 1, x :: xs, h => by
    have ih := eqK_bytes n xs (by simpa using h)
    simp only [List.replicate_succ, List.map_cons, eqKs, ih, ofB, eqK, if_true, beq_self_eq_true, Bool.and_self]

set_option maxRecDepth 100000 in
theorem s18t {bs : List UInt8} {b : Nat} {js : List Nat} (hn : js.length ≤ 100) : Calls0 (evCall FN (k + 200)) 18 [csl 4 (partsV bs b js), csl 4 (partsV bs b js)] (.bool true) := by
  have hd := parts_div bs b js
  refine q_call0 fn18 fun T H E lv => ?_
  repeat (first | (apply o_nil; apply k_norm) | (apply p_mov; exact rfl) | (apply p_bin; exact rfl; exact rfl; (with_reducible exact neq_f (by omega))) | (apply p_len; exact rfl; exact csz_ok _ _) | apply w_seq | apply w_ops | apply k_norm | apply w_skip | apply w_block | (apply q_cond_false; exact rfl))
  refine q_loop (α := Nat) (LInv.mk (fun j => j ≤ js.length) (fun j => js.length - j)
    (fun j => [(5, .int .i64 (j : Int)), (0, csl 4 (partsV bs b js)), (1, csl 4 (partsV bs b js))]) (fun j => []))
    (fun _ _ c => c = 4) 0 (Nat.zero_le _) rfl (show js.length - 0 < k + 199 by omega) ⟨rfl, rfl, rfl, trivial⟩ trivial ?_
  rintro j lv c T H E hP rfl hμ
  have hP : j ≤ js.length := hP
  clear hμ
  dsimp only
  rcases Nat.lt_or_ge j js.length with hlt | hge
  · obtain ⟨i, hi⟩ : ∃ i, js[j]? = some i := ⟨_, List.getElem?_eq_getElem hlt⟩
    have hr := rd_part (bs := bs) (b := b) hi
    have gi : inB (j : Int) ((partsV bs b js).length / 4) = some j := inB_n (by rw [parts_div]; omega)
    repeat (first | (apply o_nil; apply k_norm) | (apply p_mov; exact rfl) | (apply p_bin; exact rfl; exact rfl; (with_reducible exact lss_t (by omega))) | (apply p_len; exact rfl; exact csz_ok _ _) | (apply p_iaS; exact rfl; exact rfl; exact csz_ok _ _; (with_reducible assumption)) | (apply p_load_pp; exact rfl; (with_reducible assumption)) | apply w_seq | apply w_ops | apply k_norm | apply w_skip | apply w_block | (apply q_cond_true; exact rfl))
    apply p_eqA
    · exact rfl
    · exact rfl
    · exact eqK_part _ _ _
    repeat (first | (apply o_nil; apply k_norm) | (apply o_nil; skip) | (apply p_mov; exact rfl) | (apply p_bin; exact rfl; exact rfl; (with_reducible exact add_nl (by omega))) | apply w_ops | apply k_norm | apply w_skip | apply b_norm | (apply q_cond_false; exact rfl))
    exact n_again (j + 1) (show j + 1 ≤ js.length by omega) rfl (show js.length - (j + 1) < js.length - j by omega) ⟨rfl, rfl, rfl, trivial⟩ trivial
  · repeat (first | (apply o_nil; apply k_norm) | (apply p_mov; exact rfl) | (apply p_bin; exact rfl; exact rfl; (with_reducible exact lss_f (by omega))) | (apply p_len; exact rfl; exact csz_ok _ _) | apply w_seq | apply w_ops | apply k_exit | apply w_exit | (apply q_cond_false; exact rfl))
    apply n_exit
    apply b_exit
    repeat (first | (apply o_nil; apply k_norm) | (apply p_mov; exact rfl) | apply w_seq | apply w_ops | apply k_norm | apply w_ret)
    exact q_ret (.inr rfl) rfl rfl rfl rfl rfl rfl

set_option maxRecDepth 100000 in
set_option maxHeartbeats 1000000 in
theorem s48t {bs : List UInt8} (h : VM bs) : Calls0 (evCall FN (k + 200)) 48 [memV bs, memV bs] (csl 1 []) := by
  have hl := h.le
  obtain ⟨P, hP1, hP2, hP3⟩ := h
  have hd : (bs.map ofB).length / 128 = P := by rw [List.length_map]; omega
  have hmx : (if true = true then max ((P : Nat) : Int) P else min ((P : Nat) : Int) P) = P := by simp
  refine q_call0 fn48 fun T H E lv => ?_
  repeat (first | (apply o_nil; apply k_norm) | (apply p_mov; exact rfl) | (apply p_box; exact rfl; exact rfl; intro E) | apply w_seq | apply w_ops | apply w_block)
  refine q_loop (α := Nat) (LInv.mk (fun j => j ≤ P) (fun j => P - j)
    (fun j => [(6, .int .i64 (j : Int)), (5, .sl 0 0 []), (2, .ref 0 0), (3, .ref 1 0)]) (fun j => [(1, [csl 128 (bs.map ofB)]), (0, [csl 128 (bs.map ofB)])]))
    (fun _ _ c => c = 4) 0 (Nat.zero_le _) rfl (show P - 0 < k + 199 by omega) ⟨rfl, rfl, rfl, rfl, trivial⟩ ⟨rfl, rfl, trivial⟩ ?_
  rintro j lv c T H E hP rfl hμ
  have hP : j ≤ P := hP
  clear hμ
  dsimp only
  rcases Nat.lt_or_ge j P with hlt | hge
  · have hr : rd (bs.map ofB) (j * 128) 128 true = some (.agg (((bs.drop (j * 128)).take 128).map ofB)) := by
      simp only [rd, if_true]
      rw [if_pos (by rw [List.length_map]; omega), List.map_take, List.map_drop]
    have he := eqK_bytes 128 ((bs.drop (j * 128)).take 128) (by rw [List.length_take, List.length_drop]; omega)
    repeat (first | (apply p_mov; exact rfl) | (apply p_load; (iterate 4 exact rfl)) | (apply p_fadd; exact rfl) | (apply p_len; exact rfl; exact csz_ok _ _) | apply w_seq | apply w_ops)
    apply p_mn2
    · exact rfl
    · exact rfl
    rw [hd, hmx]
    repeat (first | (apply o_nil; apply k_norm) | (apply p_mov; exact rfl) | (apply p_load; (iterate 4 exact rfl)) | (apply p_bin; exact rfl; exact rfl; (with_reducible exact lss_t (by omega))) | (apply p_bin; exact rfl; exact rfl; (with_reducible exact geq_f (by omega))) | (apply p_fadd; exact rfl) | (apply p_len; exact rfl; exact csz_ok _ _) | (apply p_iaS; exact rfl; exact rfl; exact csz_ok _ _; (with_reducible exact inB_n (by simp only [List.length_map, List.length_cons, List.length_nil]; omega))) | (apply p_load_pp; exact rfl; (with_reducible assumption)) | (apply p_guard_yes; exact rfl) | (apply p_pick_false; exact rfl; exact rfl) | apply w_seq | apply w_ops | apply k_norm | apply w_skip | apply w_block | (apply q_cond_true; exact rfl))
    apply p_eqA
    · exact rfl
    · exact rfl
    · exact he
    repeat (first | (apply o_nil; apply k_norm) | (apply o_nil; skip) | (apply p_mov; exact rfl) | (apply p_bin; exact rfl; exact rfl; (with_reducible exact add_nl (by omega))) | (apply p_pick_false; exact rfl; exact rfl) | apply w_ops | apply k_norm | apply w_skip | apply b_norm | (apply q_cond_false; exact rfl))
    exact n_again (j + 1) (show j + 1 ≤ P by omega) rfl (show P - (j + 1) < P - j by omega) ⟨rfl, rfl, rfl, rfl, trivial⟩ ⟨⟨rfl, rfl⟩, ⟨rfl, rfl⟩, trivial⟩
  · repeat (first | (apply p_mov; exact rfl) | (apply p_load; (iterate 4 exact rfl)) | (apply p_fadd; exact rfl) | (apply p_len; exact rfl; exact csz_ok _ _) | apply w_seq | apply w_ops)
    apply p_mn2
    · exact rfl
    · exact rfl
    rw [hd, hmx]
    repeat (first | (apply o_nil; apply k_norm) | (apply p_bin; exact rfl; exact rfl; (with_reducible exact lss_f (by omega))) | apply k_exit | apply w_exit | (apply q_cond_false; exact rfl))
    apply n_exit
    apply b_exit
    repeat (first | (apply o_nil; apply k_norm) | (apply p_mov; exact rfl) | apply w_seq | apply w_ops | apply k_norm | apply w_ret)
    exact q_ret (.inr rfl) rfl rfl rfl rfl rfl rfl

set_option maxRecDepth 100000 in
theorem s19t {bs : List UInt8} (h : VM bs) : Calls0 (evCall FN (k + 201)) 19 [memV bs, memV bs] (.bool true) := by
  have c48 : Calls0 (evCall FN (k + 200)) 48 [memV bs, memV bs] (csl 1 []) := s48t h
  refine q_call0 fn19 fun T H E lv => ?_
  repeat (first | (apply o_nil; apply k_norm) | (apply p_mov; exact rfl) | (apply p_load; (iterate 4 exact rfl)) | (apply p_bin; exact rfl; exact rfl; exact rfl) | (apply p_box; exact rfl; exact rfl; intro E) | (apply p_len; exact rfl; exact csz_ok _ _) | (apply p_call; exact rfl; exact rfl; assumption) | apply w_seq | apply w_ops | apply w_ret)
  exact q_ret (.inr rfl) rfl rfl rfl rfl rfl rfl

end Go.Proofs.Ythkkhmkieknemaa

/- The first law of the ring, as it is computed. Condition: the memory's bytes are whole pages; the numbers are such as their types hold. -/
namespace Go.Proofs.Ythkkhmkieknemaa
open Go.Abs
variable {k : Nat}

theorem walk_props {bs : List UInt8} {b s : Nat} : ∀ (f : Nat) (js : List Nat) (i : Nat), (∀ j ∈ js, j < s) → i < s → (∀ j ∈ (walk bs b s f js i).1, j < s) ∧ (walk bs b s f js i).1.length ≤ js.length + f
  | 0, js, i, h, _ => ⟨h, Nat.le_refl _⟩
  | f + 1, js, i, h, hi => by
    unfold walk
    have hs : ∀ j ∈ js ++ [i], j < s := by
      intro j hj
      rcases List.mem_append.1 hj with hh | hh
      · exact h j hh
      · rw [List.mem_singleton] at hh; omega
    split
    · exact ⟨h, Nat.le_add_right _ _⟩
    · next he =>
      split
      · next hm =>
        have ok := errAt_ok (Decidable.not_not.1 he)
        have ih := walk_props (bs := bs) (b := b) f (js ++ [i]) (dw bs b i 2 / 256 % 256) hs (ok.2.2.2.2.2.2 hm)
        refine ⟨ih.1, ?_⟩
        have := ih.2
        rw [List.length_append, List.length_singleton] at this
        omega
      · refine ⟨hs, ?_⟩
        show (js ++ [i]).length ≤ _
        rw [List.length_append, List.length_singleton]; omega

theorem take_props {bs : List UInt8} {b s i : Nat} (h : RV bs b s) (hi : i < s) : (∀ j ∈ takeL bs b s i, j < s) ∧ (takeL bs b s i).length ≤ 5 ∧ RV (takeM bs b s i) b s := by
  obtain ⟨p1, p2⟩ := walk_props (bs := bs) (b := b) 5 [] i (by simp) hi
  obtain ⟨W, hW⟩ : ∃ W, W = walk bs b s 5 [] i := ⟨_, rfl⟩
  unfold takeL takeM
  rw [← hW] at p1 p2 ⊢
  obtain ⟨js, e⟩ := W
  unfold tL tM
  split
  · exact ⟨p1, by simpa using p2, h.markB p1⟩
  · refine ⟨by simp, by simp, ?_⟩
    split
    · exact h.mark1 hi
    · exact h

theorem s10l : call0 (evCall FNl 300) 10 [] = some (.bool true) := by kernel_rfl
theorem s10 : Calls0 (evCall FN (k + 300)) 10 [] (.bool true) :=
  Calls0.fuel (k := 300) ⟨call0_mono (evCall_mono (fun f d h => FNl_le f d h) 300 300 (Nat.le_refl _)) s10l⟩ (by omega)

set_option maxRecDepth 100000 in
set_option maxHeartbeats 2000000 in
theorem s3 {bs : List UInt8} {p b s i : Nat} {e : Int} (hp : bs.length = 128 * p) (hb : b < 4294967296) (hs0 : s < 4294967296) (hi : i < 256) : Calls0 (evCall FN (k + 20000)) 3 [memV bs, ringV b s, .int .u8 i, .int .i64 e] (.bool true) := by
  have c10 : Calls0 (evCall FN (k + 19999)) 10 [] (.bool true) := s10.fuel (k := 300) (by omega)
  refine q_call0 fn3 fun T H E lv => ?_
  by_cases hv : p = 0 ∨ 64 < p
  · have c9 : Calls0 (evCall FN (k + 19999)) 9 [memV bs] (.bool false) := (s9f (k := 0) hp hv).fuel (by omega)
    repeat (first | (apply o_nil; apply k_norm) | (apply p_mov; exact rfl) | (apply p_load; (iterate 4 exact rfl)) | (apply p_box; exact rfl; exact rfl; intro E) | (apply p_un; exact rfl; exact rfl) | (apply p_call; exact rfl; exact rfl; assumption) | apply w_seq | apply w_ops | apply k_ret | apply w_ret | (apply q_cond_true; exact rfl))
    exact q_ret (.inr rfl) rfl rfl rfl rfl rfl rfl
  have hV : VM bs := ⟨p, by omega, by omega, hp⟩
  have c9 : Calls0 (evCall FN (k + 19999)) 9 [memV bs] (.bool true) := (s9t (k := 0) hV).fuel (by omega)
  have c11 : Calls0 (evCall FN (k + 19999)) 11 [memV bs, ringV b s] (.int .i64 (chkN bs.length b s)) := (s11 (k := 0) hV hb hs0).fuel (by omega)
  have c12 : Calls0 (evCall FN (k + 19999)) 12 [memV bs, ringV b s] (.int .i64 (chkN bs.length b s)) := (s12 (k := 0) hV hb hs0).fuel (by omega)
  by_cases hc : chkN bs.length b s = 0
  · have c13 : Calls0 (evCall FN (k + 19999)) 13 [memV bs, ringV b s] (.bool true) := (s13 (k := 0) hV hb hs0 (decide_eq_true hc)).fuel (by omega)
    have h := chkN_ok hV hc
    have hs := h.hs
    have hle := h.le
    have hl := hV.le
    have hk : i % s < s := Nat.mod_lt _ (by omega)
    obtain ⟨⟨x, y⟩, hx⟩ : ∃ r, fstR bs b s (i % s) s 0 = r := ⟨_, rfl⟩
    have gr : evBin .rem (.int .i64 (i : Int)) (.int .i64 (s : Int)) = some (.int .i64 ((i % s : Nat) : Int)) := rem_nn (by omega)
    have c14 : Calls0 (evCall FN (k + 19999)) 14 [memV bs, ringV b s, .int .i64 ((i % s : Nat) : Int)] (.tup [.int .i64 x, .bool y]) := (s14 (k := 0) h (by omega) hx).fuel (by omega)
    have c16 : Calls0 (evCall FN (k + 19999)) 16 [memV bs, ringV b s, .int .i64 ((i % s : Nat) : Int)] (.agg [.int .i64 x, .bool y]) := (s16 (k := 0) h (by omega) hx).fuel (by omega)
    have c15 : Calls0 (evCall FN (k + 19999)) 15 [memV bs, ringV b s, .int .i64 ((i % s : Nat) : Int)] _ := (s15 (k := 0) h hk).fuel (by omega)
    have c17 : Calls0 (evCall FN (k + 19999)) 17 [memV bs, ringV b s, .int .i64 ((i % s : Nat) : Int)] _ := (s17 (k := 0) h hk).fuel (by omega)
    obtain ⟨t1, t2, t3⟩ := take_props h hk
    generalize takeM bs b s (i % s) = M at c15 c17 t3
    generalize takeL bs b s (i % s) = L at c15 c17 t1 t2
    generalize takeE bs b s (i % s) = En at c15 c17
    have c18 : Calls0 (evCall FN (k + 19999)) 18 [csl 4 (partsV bs b L), csl 4 (partsV bs b L)] (.bool true) := (s18t (k := 0) (by omega)).fuel (by omega)
    have c19 : Calls0 (evCall FN (k + 19999)) 19 [memV M, memV M] (.bool true) := (s19t (k := 0) t3.m).fuel (by omega)
    have c20 : Calls0 (evCall FN (k + 19999)) 20 [memV M, ringV b s, csl 4 (partsV bs b L)] (memV (markB M b 3 L)) := (s20 (k := 0) t3 t1 (by omega)).fuel (by omega)
    have c21 : Calls0 (evCall FN (k + 19999)) 21 [memV M, ringV b s, csl 4 (partsV bs b L)] (memV (markB M b 3 L)) := (s21 (k := 0) t3 t1 (by omega)).fuel (by omega)
    have c19' : Calls0 (evCall FN (k + 19999)) 19 [memV (markB M b 3 L), memV (markB M b 3 L)] (.bool true) := (s19t (k := 0) (t3.markB t1).m).fuel (by omega)
    obtain ⟨F, hF, c22, c23⟩ : ∃ F, VM F ∧ Calls0 (evCall FN (k + 19999)) 22 [memV bs, ringV b s, .int .i64 ((i % s : Nat) : Int), .int .i64 e] (memV F) ∧ Calls0 (evCall FN (k + 19999)) 23 [memV bs, ringV b s, .int .i64 ((i % s : Nat) : Int), .int .i64 e] (memV F) := by
      by_cases he : 160 ≤ e ∧ e ≤ 165
      · obtain ⟨g, rfl⟩ : ∃ g : Nat, e = g := ⟨e.toNat, by omega⟩
        exact ⟨_, (h.mark1 hk).m, (s22 (k := 0) h hk (by omega)).fuel (by omega), (s23 (k := 0) h hk (by omega)).fuel (by omega)⟩
      · exact ⟨_, hV, (s22' (k := 0) (by omega)).fuel (by omega), (s23' (k := 0) (by omega)).fuel (by omega)⟩
    have c19f : Calls0 (evCall FN (k + 19999)) 19 [memV F, memV F] (.bool true) := (s19t (k := 0) hF).fuel (by omega)
    cases y
    all_goals
      repeat (first | (apply o_nil; apply k_norm) | (apply p_mov; exact rfl) | (apply p_load; (iterate 4 exact rfl)) | (apply p_bin; exact rfl; exact rfl; (with_reducible assumption)) | (apply p_bin; exact rfl; exact rfl; (with_reducible exact neq_f (by omega))) | (apply p_fadd; exact rfl) | (apply p_box; exact rfl; exact rfl; intro E) | (apply p_new; intro E) | (apply p_store; (iterate 3 exact rfl); exact rfl; exact rfl; exact rfl) | (apply p_convA; exact rfl; (with_reducible exact w64 (by omega) (by omega))) | (apply p_ext; exact rfl; exact rfl) | (apply p_un; exact rfl; exact rfl) | (apply p_call; exact rfl; exact rfl; assumption) | (apply p_eq; (iterate 3 exact rfl)) | (apply p_guard_yes; exact rfl) | (apply p_pick_true; exact rfl; exact rfl) | (apply p_pick_false; exact rfl; exact rfl) | apply w_seq | apply w_ops | apply k_norm | apply w_ret | apply w_skip | (apply q_cond_false; exact rfl))
      exact q_ret (.inr rfl) rfl rfl rfl rfl rfl rfl
  · have c13 : Calls0 (evCall FN (k + 19999)) 13 [memV bs, ringV b s] (.bool false) := (s13 (k := 0) hV hb hs0 (decide_eq_false hc)).fuel (by omega)
    repeat (first | (apply o_nil; apply k_norm) | (apply p_mov; exact rfl) | (apply p_load; (iterate 4 exact rfl)) | (apply p_bin; exact rfl; exact rfl; (with_reducible exact neq_f (by omega))) | (apply p_box; exact rfl; exact rfl; intro E) | (apply p_un; exact rfl; exact rfl) | (apply p_call; exact rfl; exact rfl; assumption) | apply w_seq | apply w_ops | apply k_norm | apply k_ret | apply w_ret | apply w_skip | (apply q_cond_true; exact rfl) | (apply q_cond_false; exact rfl))
    exact q_ret (.inr rfl) rfl rfl rfl rfl rfl rfl

end Go.Proofs.Ythkkhmkieknemaa

/- RingTakesAsSpecified returns true for every input. No condition. -/
namespace Go.Proofs.Ythkkhmkieknemaa
open Go.Abs Go.ChangeShapes Go.WideShapes Go.ChangeAt Go.RowKit

/-- What a call that answers with a bool answers. -/
theorem eval_of {F : CallF} {f : FuncId} {vs : List AV} {b : Bool} (h : Calls0 F f vs (.bool b)) : ∃ hs', F f vs h0 (fun _ => none) = some (.bool b, hs') := by
  have h1 := evP_of h rfl
  unfold evP at h1
  split at h1
  · next r hs he =>
    split at h1
    · simp only [Option.some.injEq] at h1
      refine ⟨hs, ?_⟩
      rw [he]
      cases r <;> simp only [own, mapLeaf, ownCell] at h1 <;> first
        | (cases h1; rfl)
        | (split at h1 <;> first | cases h1 | (split at h1 <;> cases h1))
        | cases h1
    · cases h1
  · cases h1

def memSh : Sh := .agg [.sl (.arr 128 (.int .u8))]
def ringSh : Sh := .agg [.int .u32, .int .u32]

def law3 : List Sh := [memSh, ringSh, .int .u8, .int .i64]
noncomputable def lf3 : Func := Try.prog.funcs.getD 3 default

theorem own0 : ownKnob Try.prog.godebug = none := by kernel_rfl

theorem hasBytes {xs : List AV} (h : Has (.arr 128 (.int .u8)) xs) : ∃ bs : List UInt8, bs.length = 128 ∧ xs = bs.map ofB := by
  obtain ⟨ls, hl, rfl, h2⟩ := h
  have key : ∀ ls : List (List AV), (∀ y ∈ ls, Has (.int .u8) y) → ∃ bs : List UInt8, bs.length = ls.length ∧ ls.flatten = bs.map ofB := by
    intro ls
    induction ls with
    | nil => intro _; exact ⟨[], rfl, rfl⟩
    | cons y ls ih =>
      intro h
      obtain ⟨bs, e1, e2⟩ := ih fun z hz => h z (List.mem_cons_of_mem _ hz)
      obtain ⟨n, rfl, hn⟩ := h y List.mem_cons_self
      refine ⟨UInt8.ofNat n.toNat :: bs, by simp [e1], ?_⟩
      have hb : 0 ≤ n ∧ n < 256 := by
        have h1 : IntKind.u8.min = 0 := rfl
        have h2 : IntKind.u8.max = 255 := rfl
        simp only [Lit.wf, h1, h2, Bool.and_eq_true, decide_eq_true_eq] at hn
        omega
      rw [List.flatten_cons, e2, List.map_cons, ofB_le _ (by omega)]
      simp [Int.toNat_of_nonneg hb.1]
  obtain ⟨bs, e1, e2⟩ := key ls h2
  exact ⟨bs, by omega, e2⟩

theorem hasPages : ∀ ls : List (List AV), (∀ y ∈ ls, Has (.arr 128 (.int .u8)) y) → ∃ bs : List UInt8, bs.length = 128 * ls.length ∧ ls.flatten = bs.map ofB
  | [], _ => ⟨[], rfl, rfl⟩
  | y :: ls, h => by
    obtain ⟨bs, e1, e2⟩ := hasPages ls fun z hz => h z (List.mem_cons_of_mem _ hz)
    obtain ⟨b1, g1, rfl⟩ := hasBytes (h y List.mem_cons_self)
    refine ⟨b1 ++ bs, by rw [List.length_append, List.length_cons]; omega, by rw [List.flatten_cons, e2, List.map_append]⟩

theorem wf_nat {k : IntKind} {n : Int} {m : Nat} (h : (Lit.int k n).wf = true) (h1 : k.min = 0) (h2 : k.max < m) : ∃ j : Nat, n = j ∧ j < m := by
  simp only [Lit.wf, h1, Bool.and_eq_true, decide_eq_true_eq] at h
  exact ⟨n.toNat, by omega, by omega⟩

theorem hasMem {xs : List AV} (h : Has memSh xs) : ∃ (bs : List UInt8) (p : Nat), bs.length = 128 * p ∧ p ≤ maxLen ∧ xs = [csl 128 (bs.map ofB)] := by
  obtain ⟨ys, zs, ⟨ls, rfl, h2, h3⟩, rfl, rfl⟩ := h
  obtain ⟨bs, e1, e2⟩ := hasPages ls h2
  exact ⟨bs, ls.length, e1, h3, by rw [e2]; rfl⟩

theorem hasRing {xs : List AV} (h : Has ringSh xs) : ∃ b s : Nat, b < 4294967296 ∧ s < 4294967296 ∧ xs = [.int .u32 b, .int .u32 s] := by
  obtain ⟨_, _, ⟨n, rfl, hn⟩, ⟨_, _, ⟨m, rfl, hm⟩, rfl, rfl⟩, rfl⟩ := h
  obtain ⟨b, rfl, hb⟩ := wf_nat (m := 4294967296) hn rfl (by decide)
  obtain ⟨s, rfl, hs⟩ := wf_nat (m := 4294967296) hm rfl (by decide)
  exact ⟨b, s, hb, hs, rfl⟩

theorem each4 {s0 s1 s2 s3 : Sh} {xss : List (List AV)} (h : Each [s0, s1, s2, s3] xss) : ∃ x0 x1 x2 x3, xss = [x0, x1, x2, x3] ∧ Has s0 x0 ∧ Has s1 x1 ∧ Has s2 x2 ∧ Has s3 x3 := by
  rcases xss with _ | ⟨x0, _ | ⟨x1, _ | ⟨x2, _ | ⟨x3, _ | ⟨x4, t⟩⟩⟩⟩⟩
  · exact h.elim
  · exact h.2.elim
  · exact h.2.2.elim
  · exact h.2.2.2.elim
  · exact ⟨x0, x1, x2, x3, rfl, h.1, h.2.1, h.2.2.1, h.2.2.2.1⟩
  · exact h.2.2.2.2.elim

theorem hasInt {k : IntKind} {xs : List AV} (h : Has (.int k) xs) : ∃ n, xs = [.int k n] ∧ (Lit.int k n).wf = true := h

theorem law3_eval (xss : List (List AV)) (h : Each law3 xss) : ∃ k hs', evCall FN k 3 (argsOf law3 xss) h0 (fun _ => none) = some (.bool true, hs') := by
  obtain ⟨x0, x1, x2, x3, rfl, q0, q1, q2, q3⟩ := each4 h
  obtain ⟨bs, p, e1, e2, rfl⟩ := hasMem q0
  obtain ⟨b, s, hb, hs, rfl⟩ := hasRing q1
  obtain ⟨n, rfl, hn⟩ := hasInt q2
  obtain ⟨i, rfl, hi⟩ := wf_nat (m := 256) hn rfl (by decide)
  obtain ⟨e, rfl, _⟩ := hasInt q3
  obtain ⟨hs', hh⟩ := eval_of (s3 (k := 0) (e := e) e1 hb hs hi)
  exact ⟨_, hs', hh⟩

theorem table0 : Table Try.prog FN := table_of (fun f p h => by cases h)

theorem four {α : Type} {ds : List α} {n : Nat} (h : ds.length = n) (hn : n = 4) : ∃ d1 d2 d3 d4, ds = [d1, d2, d3, d4] := by
  subst hn
  rcases ds with _ | ⟨x0, _ | ⟨x1, _ | ⟨x2, _ | ⟨x3, _ | ⟨x4, t⟩⟩⟩⟩⟩ <;> simp at h
  exact ⟨x0, x1, x2, x3, rfl⟩

theorem lf3_get : Try.prog.funcs[3]? = some lf3 := by kernel_rfl

set_option maxRecDepth 100000 in
theorem law3_lifted (os : Os) (started : os.Started) (H : Type) (enc : TypeId × Value → H) :
    ReturnsInHanded {} Try.checked os 3 .any (Rows.ringTakesAsSpecifiedSpec.pre6 enc Try.prog lf3 [] false) (Rows.ringTakesAsSpecifiedSpec.post enc Try.prog lf3 false true false false) :=
  law_returns (C := Try.checked) (tb := 4) (shs := law3) (d := 8) own0 started (by kernel_rfl) lf3_get
    (ChangeSpec.witness6 (enc := enc) (C := Try.checked) false ⟨#[], #[.agg #[.slice none 0 0], .agg #[.int .u32 0, .int .u32 0], .int .u8 0, .int .i64 0], []⟩ 8 (by kernel_rfl) (by kernel_rfl) (by kernel_rfl) (by kernel_rfl))
    (by kernel_rfl) (by kernel_rfl) (by kernel_rfl) (by kernel_rfl) rfl
    (fun ds hd => by obtain ⟨d1, d2, d3, d4, rfl⟩ := four (n := lf3.params.toList.length) hd (by kernel_rfl); exact ⟨rfl, rfl⟩) (fun ds hd => by obtain ⟨d1, d2, d3, d4, rfl⟩ := four (n := lf3.params.toList.length) hd (by kernel_rfl); rfl)
    (by kernel_rfl) (by kernel_rfl) (by kernel_rfl) table0 law3_eval

theorem law3_proved : Rows.RingTakesAsSpecifiedSaid :=
  OpenClaim.holds_of_wide 3 lf3 rfl rfl rfl rfl rfl rfl rfl ⟨rfl, rfl, rfl, rfl, rfl⟩ rfl rfl rfl rfl rfl (by kernel_rfl) lf3_get (by kernel_rfl)
    (of_decide_eq_true (by kernel_rfl)) (by unfold Func.isWrapper; first | (rw [if_pos (by decide +kernel)]; kernel_rfl) | (rw [if_neg (by decide +kernel)]; exact ⟨rfl, rfl⟩))
    (fun os started H enc _ => law3_lifted os started H enc)

end Go.Proofs.Ythkkhmkieknemaa
