/- Part 8 of the texts on which proofs about this seat rest: each says what it proves at its own head. No condition. -/
import Derived.Test.YtaeoaakblilfeaaM7
set_option linter.unusedVariables false
set_option linter.unusedSimpArgs false
/- The reference takes a request. Condition: the memory is valid, the ring is there, the index is of the ring. -/
namespace Go.Proofs.Ytaeoaakblilfeaa
open Go.Abs
variable {k : Nat}
def LB (br sz : Nat) (js : List Nat) (lv : Nat → Bool) (c : Nat) : Prop := 4 ≤ c ∧ ((br = 0 ∧ sz = 0 ∧ js = []) ∨ (∃ q, br = q + 4 ∧ br < c ∧ lv br = true ∧ sz = 4))
theorem src_sl (H : Hp) (br sz : Nat) (ys : List AV) : src H sz (.sl br sz ys) = some ys := if_pos (.inl rfl)
set_option maxRecDepth 100000 in
set_option maxHeartbeats 2000000 in
theorem s41 {bs : List UInt8} {b s i : Nat} (h : RV bs b s) (hi : i < s) : Calls0 (evCall FN (k + 300)) 41 [memV bs, ringV b s, .int .i64 i] (.agg [csl 128 ((takeM bs b s i).map ofB), csl 4 (partsV bs b (takeL bs b s i)), .int .i64 (takeE bs b s i)]) := by
  have hl := h.m.le
  have hs := h.hs
  have hle := h.le
  have hb16 := h.hb
  refine q_call0 fn41 fun T H E lv => ?_
  repeat (first | refine stN ?_ | intro E)
  refine q_loop (α := Nat × List Nat × Nat × Nat × Nat) (LInv.mk (fun p => WP bs b s i p.1 p.2.1 p.2.2.1) (fun p => p.1)
    (fun p => [(7, .sl p.2.2.2.1 p.2.2.2.2 (partsV bs b p.2.1)), (8, .int .i64 (p.2.2.1 : Int)), (2, .int .i64 i), (3, .ref 0 0), (4, .ref 1 0), (6, .ref 2 0)])
    (fun p => [(2, [.sl 0 0 [], .sl 0 0 [], .int .i64 0]), (1, [.int .u32 b, .int .u32 s]), (0, [csl 128 (bs.map ofB)])]))
    (fun p lv c => LB p.2.2.2.1 p.2.2.2.2 p.2.1 lv c) (5, [], i, 0, 0) ⟨rfl, by omega, hi, by simp, rfl⟩ ⟨by omega, .inl ⟨rfl, rfl, rfl⟩⟩ (show 5 < k + 299 by omega) ⟨rfl, rfl, rfl, rfl, rfl, rfl, trivial⟩ ⟨rfl, rfl, rfl, trivial⟩ ?_
  rintro ⟨f, js, cur, br, sz⟩ lv c T H E hP hB hμ
  have hW : WP bs b s i f js cur := hP
  have hL : LB br sz js lv c := hB
  clear hP hB hμ
  obtain ⟨hW1, hW2, hW3, hW4, hW5⟩ := id hW
  dsimp only
  have hfl := parts_flat bs b js
  have c71 : Calls0 (evCall FN (k + 299)) 71 [memV bs, ringV b s, csl 4 (partsV bs b js), .int .i64 cur] (.int .i64 (errAt bs b s js cur)) := (s71 (k := 0) h hW3 (by omega)).fuel (by omega)
  have ci : Calls0 (evCall FN (k + 299)) 70 [memV bs, ringV b s, .int .i64 i, .int .i64 ((3 : Nat) : Int)] (.int .i64 (dw bs b i 3)) := (s70 (k := 0) h hi (by omega)).fuel (by omega)
  have c0 : Calls0 (evCall FN (k + 299)) 70 [memV bs, ringV b s, .int .i64 cur, .int .i64 ((0 : Nat) : Int)] (.int .i64 (dw bs b cur 0)) := (s70 (k := 0) h hW3 (by omega)).fuel (by omega)
  have c1 : Calls0 (evCall FN (k + 299)) 70 [memV bs, ringV b s, .int .i64 cur, .int .i64 ((1 : Nat) : Int)] (.int .i64 (dw bs b cur 1)) := (s70 (k := 0) h hW3 (by omega)).fuel (by omega)
  have c2 : Calls0 (evCall FN (k + 299)) 70 [memV bs, ringV b s, .int .i64 cur, .int .i64 ((2 : Nat) : Int)] (.int .i64 (dw bs b cur 2)) := (s70 (k := 0) h hW3 (by omega)).fuel (by omega)
  have hr := errN_range (bn (decide (cur ∈ js))) js.length (dw bs b cur 3) (dw bs b cur 0) (dw bs b cur 1) bs.length (dw bs b cur 2) s (bn (js.any (wr bs b)))
  have hr : errAt bs b s js cur = 0 ∨ (161 ≤ errAt bs b s js cur ∧ errAt bs b s js cur ≤ 165) := hr
  have w2 := dw_lt bs b cur 2
  have c73 : errAt bs b s js cur = 0 → Calls0 (evCall FN (k + 299)) 73 [memV bs, ringV b s, csl 4 (partsV bs b (js ++ [cur])), .int .i64 ((2 : Nat) : Int)] (memV (markB bs b 2 (js ++ [cur]))) := by
    intro he
    refine (s73 (k := 0) h ?_ (by omega) (by rw [List.length_append, List.length_singleton]; omega)).fuel (by omega)
    intro j hj
    rcases List.mem_append.1 hj with hh | hh
    · exact hW4 j hh
    · rw [List.mem_singleton] at hh; omega
  have c72 : errAt bs b s js cur ≠ 0 → Calls0 (evCall FN (k + 299)) 72 [memV bs, ringV b s, .int .i64 i, .int .i64 ((4 + (errAt bs b s js cur - 160) : Nat) : Int)] (memV (mark1 b (4 + (errAt bs b s js cur - 160)) bs i)) := fun he => (s72 (k := 0) h hi (by omega)).fuel (by omega)
  obtain ⟨hc4, hL⟩ := hL
  obtain ⟨c', rfl⟩ : ∃ c', c = c' + 4 := ⟨c - 4, by omega⟩
  have hsnoc : ∀ v, wr bs b cur = v → partsV bs b js ++ [.int .i64 cur, .int .i64 (dw bs b cur 0), .int .i64 (dw bs b cur 1), .bool v] = partsV bs b (js ++ [cur]) := by
    intro v hv
    rw [← parts_snoc, ← hv]; rfl
  have hroom : ((partsV bs b js).length + 4) / 4 * 32 ≤ room := by rw [parts_length, room]; omega
  have hOwn : Own lv (c' + 4) br (partsV bs b js) := by
    rcases hL with ⟨rfl, rfl, rfl⟩ | ⟨q, rfl, hq1, hq2, rfl⟩
    · exact .inl ⟨rfl, rfl⟩
    · exact .inr (.inr ⟨by omega, hq1, hq2⟩)
  have hsz : sz = 4 ∨ (partsV bs b js = [] ∧ br < 4) := by
    rcases hL with ⟨rfl, rfl, rfl⟩ | ⟨q, rfl, hq1, hq2, rfl⟩
    · exact .inr ⟨rfl, by omega⟩
    · exact .inl rfl
  have hmore := fun he hm => hW.more he hm
  have hlast := fun he hm => take_ok (hW.last he hm)
  have herr := fun he => take_err (hW.err he) he
  rcases hL with ⟨rfl, rfl, rfl⟩ | ⟨q, rfl, hq1, hq2, rfl⟩
  all_goals
    rcases hr with he | he
    · have ok := errAt_ok he
      have c73 := c73 he
      rcases Nat.mod_two_eq_zero_or_one (dw bs b cur 2) with hw | hw
      · have hwr : wr bs b cur = false := by simp [wr, hw]
        have hsn := hsnoc false hwr
        rcases Nat.mod_two_eq_zero_or_one (dw bs b cur 2 / 2) with hm | hm
        all_goals
          repeat (first | refine stN ?_ | intro E)
          apply p_app
          · exact rfl
          · exact hsz
          · exact rfl
          · exact fun H => src_sl _ _ _ _
          · exact ⟨by omega, by omega⟩
          · exact hroom
          · exact hOwn
          · exact List.cons_ne_nil _ _
          intro lv' l1 l2
          rw [hsn]
          repeat (first | refine stN ?_ | intro E)
        · apply n_ret
          repeat (first | refine stN ?_ | intro E)
          rw [(hlast he (by omega)).1, (hlast he (by omega)).2.1, (hlast he (by omega)).2.2]
          exact q_ret (.inr rfl) rfl rfl rfl rfl rfl rfl
        · exact n_again (f - 1, _, dw bs b cur 2 / 256 % 256, c' + 4, 4) (hmore he hm) ⟨by omega, .inr ⟨c', rfl, Nat.lt_succ_self _, l1, rfl⟩⟩ (show f - 1 < f by omega) ⟨rfl, rfl, rfl, rfl, rfl, rfl, trivial⟩ ⟨⟨rfl, rfl⟩, ⟨rfl, rfl⟩, ⟨rfl, rfl⟩, trivial⟩
      · have hwr : wr bs b cur = true := by simp [wr, hw]
        have hsn := hsnoc true hwr
        rcases Nat.mod_two_eq_zero_or_one (dw bs b cur 2 / 2) with hm | hm
        all_goals
          repeat (first | refine stN ?_ | intro E)
          apply p_app
          · exact rfl
          · exact hsz
          · exact rfl
          · exact fun H => src_sl _ _ _ _
          · exact ⟨by omega, by omega⟩
          · exact hroom
          · exact hOwn
          · exact List.cons_ne_nil _ _
          intro lv' l1 l2
          rw [hsn]
          repeat (first | refine stN ?_ | intro E)
        · apply n_ret
          repeat (first | refine stN ?_ | intro E)
          rw [(hlast he (by omega)).1, (hlast he (by omega)).2.1, (hlast he (by omega)).2.2]
          exact q_ret (.inr rfl) rfl rfl rfl rfl rfl rfl
        · exact n_again (f - 1, _, dw bs b cur 2 / 256 % 256, c' + 4, 4) (hmore he hm) ⟨by omega, .inr ⟨c', rfl, Nat.lt_succ_self _, l1, rfl⟩⟩ (show f - 1 < f by omega) ⟨rfl, rfl, rfl, rfl, rfl, rfl, trivial⟩ ⟨⟨rfl, rfl⟩, ⟨rfl, rfl⟩, ⟨rfl, rfl⟩, trivial⟩
    · have c72 := c72 (by omega)
      obtain ⟨e1, e2, e3⟩ := herr (by omega)
      rw [e1, e2, e3]
      by_cases h3 : dw bs b i 3 = 1
      · rw [if_pos h3]
        repeat (first | refine stN ?_ | intro E)
        apply n_ret
        repeat (first | refine stN ?_ | intro E)
        exact q_ret (.inr rfl) rfl rfl rfl rfl rfl rfl
      · rw [if_neg h3]
        repeat (first | refine stN ?_ | intro E)
        apply n_ret
        repeat (first | refine stN ?_ | intro E)
        exact q_ret (.inr rfl) rfl rfl rfl rfl rfl rfl
end Go.Proofs.Ytaeoaakblilfeaa

/- The flags of a descriptor. No condition but that they are words. -/
namespace Go.Proofs.Ytaeoaakblilfeaa
open Go.Abs
variable {k : Nat}
theorem and_shl (f m i : Nat) : f &&& (m <<< i) = ((f >>> i) &&& m) <<< i := by
  apply Nat.eq_of_testBit_eq
  intro j
  rw [Nat.testBit_and, Nat.testBit_shiftLeft, Nat.testBit_shiftLeft, Nat.testBit_and, Nat.testBit_shiftRight]
  by_cases h : i ≤ j
  · rw [show i + (j - i) = j by omega]
    simp [h]
  · simp [h]
theorem mask_eq (f : Nat) (h : f < 4294967296) : (f &&& 4294902012 = 0) ↔ (f / 4 % 64 = 0 ∧ f / 65536 = 0) := by
  have e : (4294902012 : Nat) = (63 <<< 2) ||| (65535 <<< 16) := by decide
  rw [e, Nat.and_or_distrib_left, and_shl, and_shl, Nat.or_eq_zero_iff]
  have h1 : (f >>> 2) &&& 63 = f / 4 % 64 := by rw [Nat.shiftRight_eq_div_pow]; exact Nat.and_two_pow_sub_one_eq_mod _ 6
  have h2 : (f >>> 16) &&& 65535 = f / 65536 % 65536 := by rw [Nat.shiftRight_eq_div_pow]; exact Nat.and_two_pow_sub_one_eq_mod _ 16
  rw [h1, h2, Nat.shiftLeft_eq, Nat.shiftLeft_eq]
  omega
theorem andNot_fits {f : Nat} (h : f < 4294967296) : evBin .andNot (.int .u32 (f : Int)) (.int .u32 65283) = some (.int .u32 ((f &&& 4294902012 : Nat) : Int)) := by
  have h1 : (BitVec.ofInt IntKind.u32.bits (f : Int) &&& ~~~ BitVec.ofInt IntKind.u32.bits (65283 : Int)).toNat = f &&& 4294902012 := by
    show (BitVec.ofInt 32 (f : Int) &&& ~~~ BitVec.ofInt 32 (65283 : Int)).toNat = _
    rw [BitVec.toNat_and, ofInt_nat f h]
    rfl
  have : f &&& 4294902012 ≤ f := Nat.and_le_left
  simp only [evBin, reduceCtorEq, or_self, if_false, if_true, evInt, h1]
  rw [w32 (by omega) (by omega)]
theorem and2_u32 {f : Nat} (h : f < 4294967296) : evBin .and (.int .u32 (f : Int)) (.int .u32 2) = some (.int .u32 ((2 * (f / 2 % 2) : Nat) : Int)) := by
  have := and_u32 (a := f) (b := 2) h (by omega)
  rw [and_two] at this; exact this
theorem and255_u32 {f : Nat} (h : f < 4294967296) : evBin .and (.int .u32 (f : Int)) (.int .u32 255) = some (.int .u32 ((f % 256 : Nat) : Int)) := by
  have := and_u32 (a := f) (b := 255) h (by omega)
  rw [and_255] at this; exact this
def dcV (i a z : Nat) (w : Bool) (f st : Nat) : AV := .agg [.int .i64 i, .int .i64 a, .int .i64 z, .bool w, .int .u32 f, .int .u32 st]
set_option maxRecDepth 100000 in
theorem s83 {i a z f st : Nat} {w : Bool} (hf : f < 4294967296) : Calls0 (evCall FN (k + 1)) 83 [dcV i a z w f st] (.bool (decide (f / 2 % 2 = 1))) := by
  have g := and2_u32 hf
  refine q_call0 fn83 fun T H E lv => ?_
  rcases Nat.mod_two_eq_zero_or_one (f / 2) with h | h
  · rw [show decide (f / 2 % 2 = 1) = false from by simp [h]]
    repeat (first | refine stN ?_ | intro E)
    exact q_ret (.inr rfl) rfl rfl rfl rfl rfl rfl
  · rw [show decide (f / 2 % 2 = 1) = true from by simp [h]]
    repeat (first | refine stN ?_ | intro E)
    exact q_ret (.inr rfl) rfl rfl rfl rfl rfl rfl
set_option maxRecDepth 100000 in
theorem s84 {i a z f st : Nat} {w : Bool} (hf : f < 4294967296) : Calls0 (evCall FN (k + 1)) 84 [dcV i a z w f st] (.int .i64 ((f / 256 % 256 : Nat) : Int)) := by
  have g0 : evBin .shr (.int .u32 (f : Int)) (.int .u64 8) = some (.int .u32 ((f / 256 : Nat) : Int)) := shr_l (m := 8) (by decide)
  have g := and255_u32 (f := f / 256) (by omega)
  refine q_call0 fn84 fun T H E lv => ?_
  repeat (first | refine stN ?_ | intro E)
  exact q_ret (.inr rfl) rfl rfl rfl rfl rfl rfl
def fitB (f : Nat) : Bool := decide (f / 4 % 64 = 0 ∧ f / 65536 = 0 ∧ (f / 2 % 2 = 1 ∨ f / 256 % 256 = 0))
set_option maxRecDepth 100000 in
theorem s82 {i a z f st : Nat} {w : Bool} (hf : f < 4294967296) : Calls0 (evCall FN (k + 2)) 82 [dcV i a z w f st] (.bool (fitB f)) := by
  have c83 : Calls0 (evCall FN (k + 1)) 83 [dcV i a z w f st] (.bool (decide (f / 2 % 2 = 1))) := s83 hf
  have c84 : Calls0 (evCall FN (k + 1)) 84 [dcV i a z w f st] (.int .i64 ((f / 256 % 256 : Nat) : Int)) := s84 hf
  have g := andNot_fits hf
  have hm := mask_eq f hf
  refine q_call0 fn82 fun T H E lv => ?_
  unfold fitB
  by_cases h0 : f &&& 4294902012 = 0
  · have h1 := hm.1 h0
    rcases Nat.mod_two_eq_zero_or_one (f / 2) with h | h
    · rw [show decide (f / 2 % 2 = 1) = false from by simp [h]] at c83
      by_cases h2 : f / 256 % 256 = 0
      · rw [show decide _ = true from decide_eq_true (by omega)]
        repeat (first | refine stN ?_ | intro E)
        exact q_ret (.inr rfl) rfl rfl rfl rfl rfl rfl
      · rw [show decide _ = false from decide_eq_false (by omega)]
        repeat (first | refine stN ?_ | intro E)
        exact q_ret (.inr rfl) rfl rfl rfl rfl rfl rfl
    · rw [show decide (f / 2 % 2 = 1) = true from by simp [h]] at c83
      rw [show decide _ = true from decide_eq_true (by omega)]
      repeat (first | refine stN ?_ | intro E)
      exact q_ret (.inr rfl) rfl rfl rfl rfl rfl rfl
  · have h1 : ¬ (f / 4 % 64 = 0 ∧ f / 65536 = 0) := fun h => h0 (hm.2 h)
    rw [show decide _ = false from decide_eq_false (by omega)]
    repeat (first | refine stN ?_ | intro E)
    exact q_ret (.inr rfl) rfl rfl rfl rfl rfl rfl
theorem s81' {bs : List UInt8} {b s i : Nat} (h : RV bs b s) (hi : i < s) : Calls0 (evCall FN (k + 8)) 81 [memV bs, ringV b s, .int .i64 i] (dcV i (dw bs b i 0) (dw bs b i 1) (wr bs b i) (dw bs b i 2) (dw bs b i 3)) := by
  have := s81 (k := k) h hi
  have e : ((((dw bs b i 2 % 2 : Nat) : Int)) != 0) = wr bs b i := by
    unfold wr
    rcases Nat.mod_two_eq_zero_or_one (dw bs b i 2) with h | h <;> rw [h] <;> rfl
  unfold descV at this
  rw [e] at this
  exact this
set_option maxRecDepth 100000 in
theorem s86 {bs : List UInt8} {b s i e : Nat} (h : RV bs b s) (hi : i < s) (he : 160 ≤ e ∧ e ≤ 165) : Calls0 (evCall FN (k + 10300)) 86 [memV bs, ringV b s, .int .i64 i, .int .i64 e] (memV (mark1 b (4 + (e - 160)) bs i)) := by
  have c85 : Calls0 (evCall FN (k + 10299)) 85 [memV bs, ringV b s, .int .i64 ((4 + (e - 160) : Nat) : Int), csl 1 (intsV [i])] (memV (markB bs b (4 + (e - 160)) [i])) := (s85 (k := 0) h (by simp [hi]) (by omega) (by simp)).fuel (by omega)
  refine q_call0 fn86 fun T H E lv => ?_
  repeat (first | refine stN ?_ | intro E)
  exact q_ret (.inr rfl) rfl rfl rfl rfl rfl rfl
set_option maxRecDepth 100000 in
theorem s43 {bs : List UInt8} {b s i e : Nat} (h : RV bs b s) (hi : i < s) (he : 160 ≤ e ∧ e ≤ 165) : Calls0 (evCall FN (k + 10300)) 43 [memV bs, ringV b s, .int .i64 i, .int .i64 e] (memV (mark1 b (4 + (e - 160)) bs i)) := by
  have c72 : Calls0 (evCall FN (k + 10299)) 72 [memV bs, ringV b s, .int .i64 i, .int .i64 ((4 + (e - 160) : Nat) : Int)] (memV (mark1 b (4 + (e - 160)) bs i)) := (s72 (k := 0) h hi (by omega)).fuel (by omega)
  refine q_call0 fn43 fun T H E lv => ?_
  repeat (first | refine stN ?_ | intro E)
  exact q_ret (.inr rfl) rfl rfl rfl rfl rfl rfl
end Go.Proofs.Ytaeoaakblilfeaa
