/- Part 9 of the texts on which proofs about this seat rest: each says what it proves at its own head. No condition. -/
import Derived.Test.YtaeoaakblilfeaaM8
set_option linter.unusedVariables false
set_option linter.unusedSimpArgs false
/- A request is read. Condition: the memory is valid, the ring is there, the index is of the ring. -/
namespace Go.Proofs.Ytaeoaakblilfeaa
open Go.Abs
variable {k : Nat}
theorem bn_two (x : Nat) : bn (decide (x % 2 = 1)) = x % 2 := by
  rcases Nat.mod_two_eq_zero_or_one x with h | h <;> rw [h] <;> rfl
def LS (br1 br2 sz : Nat) (js : List Nat) (lv : Nat → Bool) (c : Nat) : Prop := 4 ≤ c ∧ (∃ q, br1 = q + 4 ∧ br1 < c ∧ lv br1 = true) ∧ ((br2 = 0 ∧ sz = 0 ∧ js = []) ∨ (∃ q, br2 = q + 4 ∧ br2 < c ∧ lv br2 = true ∧ sz = 4)) ∧ br1 ≠ br2
set_option maxRecDepth 100000 in
set_option maxHeartbeats 16000000 in
theorem take_loop {bs : List UInt8} {b s i : Nat} {sl : List (Nat × AV)} {os : List (Nat × List AV)} {T : Nat → AV} {H : Hp} {E : Nat → Option TypeId} {lv : Nat → Bool} {K : Ex → St → Prop} (h : RV bs b s) (hi : i < s) (hlv : lv 4 = true)
    (h1 : HoldsE sl [(10, .sl 4 1 []), (9, .sl 0 0 []), (11, .bool false), (12, .int .i64 i), (13, .int .i64 0), (2, .int .i64 i), (3, .ref 0 0), (4, .ref 1 0), (6, .ref 2 0)])
    (h2 : HoldsOE os [(2, [.sl 0 0 []]), (1, [.int .u32 b, .int .u32 s]), (0, [csl 128 (bs.map ofB)])])
    (kerr : ∀ e js n lv c T H E, walk bs b s 5 [] i = (js, e) → 161 ≤ e → e ≤ 165 → K (.exit 0) ⟨slots [(13, .int .i64 (e : Nat)), (2, .int .i64 i), (3, .ref 0 0), (4, .ref 1 0), (6, .ref 2 0)] T, objs [(2, [.sl 0 0 []]), (1, [.int .u32 b, .int .u32 s]), (0, [csl 128 (bs.map ofB)])] H, E, n, lv, c⟩)
    (kok : ∀ br js n lv c T H E, walk bs b s 5 [] i = (js, 0) → K .ret ⟨slots [(7, .sl (br + 4) 4 (partsV bs b js)), (8, .int .i64 0), (6, .ref 2 0)] T, objs [(2, [csl 128 ((markB bs b 2 js).map ofB)])] H, E, n, lv, c⟩) :
    Wp (evCall FN (k + 10399)) (k + 10399) (.loop f63l27) ⟨slots sl T, objs os H, E, 3, lv, 5⟩ K := by
  have hl := h.m.le
  have hs := h.hs
  have hle := h.le
  have hb16 := h.hb
  refine q_loop (α := Nat × List Nat × Nat × Nat × Nat × Nat) (LInv.mk (fun p => WP bs b s i p.1 p.2.1 p.2.2.1) (fun p => p.1)
    (fun p => [(10, .sl p.2.2.2.1 1 (intsV p.2.1)), (9, .sl p.2.2.2.2.1 p.2.2.2.2.2 (partsV bs b p.2.1)), (11, .bool (p.2.1.any (wr bs b))), (12, .int .i64 (p.2.2.1 : Int)), (13, .int .i64 0), (2, .int .i64 i), (3, .ref 0 0), (4, .ref 1 0), (6, .ref 2 0)])
    (fun p => [(2, [.sl 0 0 []]), (1, [.int .u32 b, .int .u32 s]), (0, [csl 128 (bs.map ofB)])]))
    (fun p lv c => LS p.2.2.2.1 p.2.2.2.2.1 p.2.2.2.2.2 p.2.1 lv c) (5, [], i, 4, 0, 0) ⟨rfl, by omega, hi, by simp, rfl⟩ ⟨by omega, ⟨0, rfl, Nat.lt_succ_self 4, hlv⟩, .inl ⟨rfl, rfl, rfl⟩, by simp⟩ (show 5 < k + 10399 by omega) h1 h2 ?_
  rintro ⟨f, js, cur, br1, br2, sz⟩ lv c T H E hP hB hμ
  have hW : WP bs b s i f js cur := hP
  have hL : LS br1 br2 sz js lv c := hB
  clear hP hB hμ h1 h2
  obtain ⟨hW1, hW2, hW3, hW4, hW5⟩ := id hW
  dsimp only
  have c81 : Calls0 (evCall FN (k + 10399)) 81 [memV bs, ringV b s, .int .i64 cur] (dcV cur (dw bs b cur 0) (dw bs b cur 1) (wr bs b cur) (dw bs b cur 2) (dw bs b cur 3)) := (s81' (k := 0) h hW3).fuel (by omega)
  have w0 := dw_lt bs b cur 0; have w1 := dw_lt bs b cur 1; have w2 := dw_lt bs b cur 2
  have c53 : Calls0 (evCall FN (k + 10399)) 53 [memV bs] (.int .i64 bs.length) := (s53 (k := 0) h.m).fuel (by omega)
  have c82 : Calls0 (evCall FN (k + 10399)) 82 [dcV cur (dw bs b cur 0) (dw bs b cur 1) (wr bs b cur) (dw bs b cur 2) (dw bs b cur 3)] (.bool (fitB (dw bs b cur 2))) := (s82 (k := 0) w2).fuel (by omega)
  have c83 : Calls0 (evCall FN (k + 10399)) 83 [dcV cur (dw bs b cur 0) (dw bs b cur 1) (wr bs b cur) (dw bs b cur 2) (dw bs b cur 3)] (.bool (decide (dw bs b cur 2 / 2 % 2 = 1))) := (s83 (k := 0) w2).fuel (by omega)
  have c84 : Calls0 (evCall FN (k + 10399)) 84 [dcV cur (dw bs b cur 0) (dw bs b cur 1) (wr bs b cur) (dw bs b cur 2) (dw bs b cur 3)] (.int .i64 ((dw bs b cur 2 / 256 % 256 : Nat) : Int)) := (s84 (k := 0) w2).fuel (by omega)
  have hws : IntKind.i64.wrap (s : Int) = s := w64 (by omega) (by omega)
  obtain ⟨hc4, ⟨q1, rfl, hq1, hq2⟩, hL2, hne⟩ := hL
  obtain ⟨c', rfl⟩ : ∃ c', c = c' + 4 := ⟨c - 4, by omega⟩
  repeat (first | refine stN ?_ | intro E)
  rw [ints_length, Nat.div_one]
  refine q_loop (α := Nat) (LInv.mk (fun j => j ≤ js.length ∧ cur ∉ js.take j) (fun j => js.length - j)
    (fun j => [(25, .int .i64 (j : Int)), (24, .int .i64 (js.length : Int)), (23, .sl (q1 + 4) 1 (intsV js)), (10, .sl (q1 + 4) 1 (intsV js)), (9, .sl br2 sz (partsV bs b js)), (11, .bool (js.any (wr bs b))), (12, .int .i64 (cur : Int)), (13, .int .i64 0), (14, .ref 3 0), (2, .int .i64 i), (3, .ref 0 0), (4, .ref 1 0), (6, .ref 2 0)])
    (fun j => [(3, [.int .i64 cur, .int .i64 (dw bs b cur 0), .int .i64 (dw bs b cur 1), .bool (wr bs b cur), .int .u32 (dw bs b cur 2), .int .u32 (dw bs b cur 3)]), (2, [.sl 0 0 []]), (1, [.int .u32 b, .int .u32 s]), (0, [csl 128 (bs.map ofB)])]))
    (fun _ lv1 c1 => lv1 = lv ∧ c1 = c' + 4) 0 ⟨Nat.zero_le _, by simp⟩ ⟨rfl, rfl⟩ (show js.length - 0 < k + 10399 by omega) ⟨rfl, rfl, rfl, rfl, rfl, rfl, rfl, rfl, rfl, rfl, rfl, rfl, rfl, trivial⟩ ⟨rfl, rfl, rfl, rfl, trivial⟩ ?_
  rintro j lv1 c1 T H E ⟨hP, hni⟩ ⟨rfl, rfl⟩ hμ
  have hP : j ≤ js.length := hP
  have hni : cur ∉ js.take j := hni
  clear hμ
  dsimp only
  rcases Nat.lt_or_ge j js.length with hlt | hge
  · obtain ⟨x, hx⟩ : ∃ x, js[j]? = some x := ⟨_, List.getElem?_eq_getElem hlt⟩
    have hr := rd_ints hx
    have gi : inB (j : Int) ((intsV js).length / 1) = some j := inB_n (by rw [ints_length]; omega)
    by_cases he : x = cur
    · have herr : errAt bs b s js cur = 163 := by
        have : bn (decide (cur ∈ js)) = 1 := by rw [decide_eq_true (he ▸ List.mem_of_getElem? hx)]; rfl
        unfold errAt errN; rw [if_pos (.inl this)]
      repeat (first | refine stN ?_ | intro E)
      apply n_exit
      repeat (first | refine stN ?_ | intro E)
      apply n_exit
      exact q_known (P := K (.exit 0)) [(13, .int .i64 ((163 : Nat) : Int)), (2, .int .i64 i), (3, .ref 0 0), (4, .ref 1 0), (6, .ref 2 0)] [(2, [.sl 0 0 []]), (1, [.int .u32 b, .int .u32 s]), (0, [csl 128 (bs.map ofB)])] ⟨rfl, rfl, rfl, rfl, rfl, trivial⟩ ⟨rfl, rfl, rfl, trivial⟩ fun T H E => kerr 163 js _ _ _ _ _ _ (by rw [hW.err (by omega), herr]) (by omega) (by omega)
    · repeat (first | refine stN ?_ | intro E)
      refine n_again (j + 1) ⟨by omega, ?_⟩ ⟨rfl, rfl⟩ (show js.length - (j + 1) < js.length - j by omega) ⟨rfl, rfl, rfl, rfl, rfl, rfl, rfl, rfl, rfl, rfl, rfl, rfl, rfl, trivial⟩ ⟨⟨rfl, rfl⟩, ⟨rfl, rfl⟩, ⟨rfl, rfl⟩, ⟨rfl, rfl⟩, trivial⟩
      rw [List.take_add_one, hx]
      simp only [Option.toList_some, List.mem_append, List.mem_singleton]
      rintro (h | h)
      · exact hni h
      · exact he h.symm
  · rw [List.take_of_length_le hge] at hni
    have hin : bn (decide (cur ∈ js)) = 0 := by rw [decide_eq_false hni]; rfl
    have hjl : j = js.length := by omega
    subst hjl
    repeat (first | refine stN ?_ | intro E)
    apply n_exit
    have hlenI := ints_length js
    have hfl : fitB (dw bs b cur 2) = true ∨ fitB (dw bs b cur 2) = false := by cases fitB (dw bs b cur 2) <;> simp
    have hal : js.any (wr bs b) = true ∨ js.any (wr bs b) = false := by cases js.any (wr bs b) <;> simp
    rcases hfl with hf | hf
    · have hf' : dw bs b cur 2 / 4 % 64 = 0 ∧ dw bs b cur 2 / 65536 = 0 ∧ (dw bs b cur 2 / 2 % 2 = 1 ∨ dw bs b cur 2 / 256 % 256 = 0) := by simpa only [fitB, decide_eq_true_eq] using hf
      rw [hf] at c82
      have hsnoc : ∀ v, wr bs b cur = v → partsV bs b js ++ [.int .i64 cur, .int .i64 (dw bs b cur 0), .int .i64 (dw bs b cur 1), .bool v] = partsV bs b (js ++ [cur]) := by
        intro v hv
        rw [← parts_snoc, ← hv]; rfl
      have hseen : intsV js ++ [.int .i64 (cur : Int)] = intsV (js ++ [cur]) := by simp [intsV]
      have hroom : ((partsV bs b js).length + 4) / 4 * 32 ≤ room := by rw [parts_length, room]; omega
      have hOwn : ∀ lv2 : Nat → Bool, (∀ z, z < c' + 4 → z ≠ q1 + 4 → lv2 z = lv1 z) → Own lv2 (c' + 4 + 1) br2 (partsV bs b js) := by
        intro lv2 hz
        rcases hL2 with ⟨rfl, rfl, rfl⟩ | ⟨q, rfl, g1, g2, rfl⟩
        · exact .inl ⟨rfl, rfl⟩
        · exact .inr (.inr ⟨by omega, by omega, by rw [hz _ g1 (Ne.symm hne)]; exact g2⟩)
      have hbr2 : br2 < c' + 4 := by
        rcases hL2 with ⟨rfl, rfl, rfl⟩ | ⟨q, rfl, g1, g2, rfl⟩
        · omega
        · exact g1
      have hsz : sz = 4 ∨ (partsV bs b js = [] ∧ br2 < 4) := by
        rcases hL2 with ⟨rfl, rfl, rfl⟩ | ⟨q, rfl, g1, g2, rfl⟩
        · exact .inr ⟨rfl, by omega⟩
        · exact .inl rfl
      have c85 : errAt bs b s js cur = 0 → Calls0 (evCall FN (k + 10399)) 85 [memV bs, ringV b s, .int .i64 ((2 : Nat) : Int), csl 1 (intsV (js ++ [cur]))] (memV (markB bs b 2 (js ++ [cur]))) := by
        intro he
        refine (s85 (k := 0) h ?_ (by omega) (by rw [List.length_append, List.length_singleton]; omega)).fuel (by omega)
        intro j hj
        rcases List.mem_append.1 hj with hh | hh
        · exact hW4 j hh
        · rw [List.mem_singleton] at hh; omega
      clear hL2
      have hany0 : (js ++ [cur]).any (wr bs b) = (js.any (wr bs b) || wr bs b cur) := by simp
      have hb1 : bn true = 1 := rfl
      have hb0 : bn false = 0 := rfl
      have hwd : bn (wr bs b cur) = dw bs b cur 2 % 2 := bn_two _
      have hmd : bn (decide (dw bs b cur 2 / 2 % 2 = 1)) = dw bs b cur 2 / 2 % 2 := bn_two _
      cases ha : js.any (wr bs b) <;> cases hwr : wr bs b cur <;> cases hmb : decide (dw bs b cur 2 / 2 % 2 = 1)
      all_goals
        have hbn := congrArg bn ha
        rw [hwr] at c82 c83 c84 hwd
        rw [hmb] at c83 hmd
        rw [ha, hwr] at hany0
        repeat' (first | refine stM ?_ | intro E | (refine stS ?_ ?_ <;> intro hc) | refine stB ?_ | (refine stG ?_ ?_ <;> intro hc))
        all_goals first
        | (apply n_exit
           first
          | (refine q_known (P := K (.exit 0)) [(13, .int .i64 ((163 : Nat) : Int)), (2, .int .i64 i), (3, .ref 0 0), (4, .ref 1 0), (6, .ref 2 0)] [(2, [.sl 0 0 []]), (1, [.int .u32 b, .int .u32 s]), (0, [csl 128 (bs.map ofB)])] ⟨rfl, rfl, rfl, rfl, rfl, trivial⟩ ⟨rfl, rfl, rfl, trivial⟩ fun T H E => kerr 163 js _ _ _ _ _ _ ?_ (by omega) (by omega)
             have herr : errAt bs b s js cur = 163 := by
               unfold errAt errN
               (repeat' split) <;> omega
             rw [hW.err (by omega), herr])
          | (refine q_known (P := K (.exit 0)) [(13, .int .i64 ((165 : Nat) : Int)), (2, .int .i64 i), (3, .ref 0 0), (4, .ref 1 0), (6, .ref 2 0)] [(2, [.sl 0 0 []]), (1, [.int .u32 b, .int .u32 s]), (0, [csl 128 (bs.map ofB)])] ⟨rfl, rfl, rfl, rfl, rfl, trivial⟩ ⟨rfl, rfl, rfl, trivial⟩ fun T H E => kerr 165 js _ _ _ _ _ _ ?_ (by omega) (by omega)
             have herr : errAt bs b s js cur = 165 := by
               unfold errAt errN
               (repeat' split) <;> omega
             rw [hW.err (by omega), herr])
          | (refine q_known (P := K (.exit 0)) [(13, .int .i64 ((161 : Nat) : Int)), (2, .int .i64 i), (3, .ref 0 0), (4, .ref 1 0), (6, .ref 2 0)] [(2, [.sl 0 0 []]), (1, [.int .u32 b, .int .u32 s]), (0, [csl 128 (bs.map ofB)])] ⟨rfl, rfl, rfl, rfl, rfl, trivial⟩ ⟨rfl, rfl, rfl, trivial⟩ fun T H E => kerr 161 js _ _ _ _ _ _ ?_ (by omega) (by omega)
             have herr : errAt bs b s js cur = 161 := by
               unfold errAt errN
               (repeat' split) <;> omega
             rw [hW.err (by omega), herr])
          | (refine q_known (P := K (.exit 0)) [(13, .int .i64 ((164 : Nat) : Int)), (2, .int .i64 i), (3, .ref 0 0), (4, .ref 1 0), (6, .ref 2 0)] [(2, [.sl 0 0 []]), (1, [.int .u32 b, .int .u32 s]), (0, [csl 128 (bs.map ofB)])] ⟨rfl, rfl, rfl, rfl, rfl, trivial⟩ ⟨rfl, rfl, rfl, trivial⟩ fun T H E => kerr 164 js _ _ _ _ _ _ ?_ (by omega) (by omega)
             have herr : errAt bs b s js cur = 164 := by
               unfold errAt errN
               (repeat' split) <;> omega
             rw [hW.err (by omega), herr])
          | (refine q_known (P := K (.exit 0)) [(13, .int .i64 ((162 : Nat) : Int)), (2, .int .i64 i), (3, .ref 0 0), (4, .ref 1 0), (6, .ref 2 0)] [(2, [.sl 0 0 []]), (1, [.int .u32 b, .int .u32 s]), (0, [csl 128 (bs.map ofB)])] ⟨rfl, rfl, rfl, rfl, rfl, trivial⟩ ⟨rfl, rfl, rfl, trivial⟩ fun T H E => kerr 162 js _ _ _ _ _ _ ?_ (by omega) (by omega)
             have herr : errAt bs b s js cur = 162 := by
               unfold errAt errN
               (repeat' split) <;> omega
             rw [hW.err (by omega), herr])
          )
        | (
          have he : errAt bs b s js cur = 0 := by
            unfold errAt errN
            (repeat' split) <;> omega
          have hj4 := (errAt_ok he).2.1
          have c85 := c85 he
          apply p_app
          · exact rfl
          · exact .inl rfl
          · exact rfl
          · exact fun H => src_sl _ _ _ _
          · exact ⟨by omega, by omega⟩
          · rw [ints_length]; simp only [List.length_cons, List.length_nil, room]; omega
          · exact .inr (.inr ⟨by omega, hq1, hq2⟩)
          · exact List.cons_ne_nil _ _
          intro lv2 l1 l2
          rw [hseen]
          repeat (first | refine stN ?_ | intro E)
          apply p_app
          · exact rfl
          · exact hsz
          · exact rfl
          · exact fun H => src_sl _ _ _ _
          · exact ⟨by omega, by omega⟩
          · exact hroom
          · exact hOwn lv2 l2
          · exact List.cons_ne_nil _ _
          intro lv3 m1 m2
          rw [hsnoc _ hwr]
          repeat (first | refine stN ?_ | intro E)
          first
          | (apply n_ret
             exact q_known (P := K .ret) [(7, .sl (c' + 1 + 4) 4 (partsV bs b (js ++ [cur]))), (8, .int .i64 0), (6, .ref 2 0)] [(2, [csl 128 ((markB bs b 2 (js ++ [cur])).map ofB)])] ⟨rfl, rfl, rfl, trivial⟩ ⟨rfl, trivial⟩ fun T H E => kok _ _ _ _ _ _ _ _ (hW.last he (by omega)))
          | (refine n_again (f - 1, js ++ [cur], dw bs b cur 2 / 256 % 256, c' + 4, c' + 4 + 1, 4) (hW.more he (by omega)) ⟨by omega, ⟨c', rfl, ?_, ?_⟩, .inr ⟨c' + 1, rfl, ?_, m1, rfl⟩, ?_⟩ (show f - 1 < f by omega) ?_ ⟨⟨rfl, rfl⟩, ⟨rfl, rfl⟩, ⟨rfl, rfl⟩, trivial⟩
             · show c' + 4 < c' + 4 + 1 + 1; omega
             · show lv3 (c' + 4) = true
               rw [m2 (c' + 4) (by omega) (by omega)]; exact l1
             · show c' + 4 + 1 < c' + 4 + 1 + 1; omega
             · show c' + 4 ≠ c' + 4 + 1; omega
             · dsimp only
               rw [hany0]
               exact ⟨rfl, rfl, rfl, rfl, rfl, rfl, rfl, rfl, rfl, trivial⟩)
          )
    · have hf' : ¬ (dw bs b cur 2 / 4 % 64 = 0 ∧ dw bs b cur 2 / 65536 = 0 ∧ (dw bs b cur 2 / 2 % 2 = 1 ∨ dw bs b cur 2 / 256 % 256 = 0)) := by simpa only [fitB, decide_eq_false_iff_not] using hf
      rw [hf] at c82
      repeat' (first | refine stM ?_ | intro E | (refine stS ?_ ?_ <;> intro hc) | refine stB ?_ | (refine stG ?_ ?_ <;> intro hc))
      all_goals
        apply n_exit
        first
        | (refine q_known (P := K (.exit 0)) [(13, .int .i64 ((163 : Nat) : Int)), (2, .int .i64 i), (3, .ref 0 0), (4, .ref 1 0), (6, .ref 2 0)] [(2, [.sl 0 0 []]), (1, [.int .u32 b, .int .u32 s]), (0, [csl 128 (bs.map ofB)])] ⟨rfl, rfl, rfl, rfl, rfl, trivial⟩ ⟨rfl, rfl, rfl, trivial⟩ fun T H E => kerr 163 js _ _ _ _ _ _ ?_ (by omega) (by omega)
           have herr : errAt bs b s js cur = 163 := by
             unfold errAt errN
             (repeat' split) <;> omega
           rw [hW.err (by omega), herr])
        | (refine q_known (P := K (.exit 0)) [(13, .int .i64 ((165 : Nat) : Int)), (2, .int .i64 i), (3, .ref 0 0), (4, .ref 1 0), (6, .ref 2 0)] [(2, [.sl 0 0 []]), (1, [.int .u32 b, .int .u32 s]), (0, [csl 128 (bs.map ofB)])] ⟨rfl, rfl, rfl, rfl, rfl, trivial⟩ ⟨rfl, rfl, rfl, trivial⟩ fun T H E => kerr 165 js _ _ _ _ _ _ ?_ (by omega) (by omega)
           have herr : errAt bs b s js cur = 165 := by
             unfold errAt errN
             (repeat' split) <;> omega
           rw [hW.err (by omega), herr])
        | (refine q_known (P := K (.exit 0)) [(13, .int .i64 ((161 : Nat) : Int)), (2, .int .i64 i), (3, .ref 0 0), (4, .ref 1 0), (6, .ref 2 0)] [(2, [.sl 0 0 []]), (1, [.int .u32 b, .int .u32 s]), (0, [csl 128 (bs.map ofB)])] ⟨rfl, rfl, rfl, rfl, rfl, trivial⟩ ⟨rfl, rfl, rfl, trivial⟩ fun T H E => kerr 161 js _ _ _ _ _ _ ?_ (by omega) (by omega)
           have herr : errAt bs b s js cur = 161 := by
             unfold errAt errN
             (repeat' split) <;> omega
           rw [hW.err (by omega), herr])
        | (refine q_known (P := K (.exit 0)) [(13, .int .i64 ((164 : Nat) : Int)), (2, .int .i64 i), (3, .ref 0 0), (4, .ref 1 0), (6, .ref 2 0)] [(2, [.sl 0 0 []]), (1, [.int .u32 b, .int .u32 s]), (0, [csl 128 (bs.map ofB)])] ⟨rfl, rfl, rfl, rfl, rfl, trivial⟩ ⟨rfl, rfl, rfl, trivial⟩ fun T H E => kerr 164 js _ _ _ _ _ _ ?_ (by omega) (by omega)
           have herr : errAt bs b s js cur = 164 := by
             unfold errAt errN
             (repeat' split) <;> omega
           rw [hW.err (by omega), herr])
        | (refine q_known (P := K (.exit 0)) [(13, .int .i64 ((162 : Nat) : Int)), (2, .int .i64 i), (3, .ref 0 0), (4, .ref 1 0), (6, .ref 2 0)] [(2, [.sl 0 0 []]), (1, [.int .u32 b, .int .u32 s]), (0, [csl 128 (bs.map ofB)])] ⟨rfl, rfl, rfl, rfl, rfl, trivial⟩ ⟨rfl, rfl, rfl, trivial⟩ fun T H E => kerr 162 js _ _ _ _ _ _ ?_ (by omega) (by omega)
           have herr : errAt bs b s js cur = 162 := by
             unfold errAt errN
             (repeat' split) <;> omega
           rw [hW.err (by omega), herr])
end Go.Proofs.Ytaeoaakblilfeaa
