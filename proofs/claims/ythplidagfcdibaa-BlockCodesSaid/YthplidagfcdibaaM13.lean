/- Part 13 of the texts on which proofs about this seat rest: each says what it proves at its own head. No condition. -/
import Derived.Test.YthplidagfcdibaaM12
set_option linter.unusedVariables false
set_option linter.unusedSimpArgs false
/- Whether a device is valid, by the reference; and whether there is little of it. Condition: the memory is valid; the numbers are such as their types hold; at most 100 requests of 100 parts. -/
namespace Go.Proofs.Ythplidagfcdibaa
open Go.Abs
variable {k : Nat}
set_option maxRecDepth 100000 in
set_option maxHeartbeats 2000000 in
theorem valid_rest {bs d : List UInt8} {b s : Nat} {at' st : Int} {f : List RI} {sl : List (Nat × AV)} {os : List (Nat × List AV)} {T : Nat → AV} {H : Hp} {E : Nat → Option TypeId} {lv : Nat → Bool} (h : VM bs) (hd : (d.map ofB).length / 128 < 1000000) (hf : f.length ≤ 5000) (hr : ∀ r ∈ f, RIok r)
    (hA : (at' = 0 ∨ (0 < at' ∧ wholeB s = true ∧ at' < s)) ∧ (st = 0 ∨ (160 ≤ st ∧ st ≤ 165)) ∧ (d.map ofB).length / 128 ≤ 64 ∧ f.length ≤ 8)
    (h1 : HoldsE sl [(4, .bool false), (3, .ref 1 0), (2, .ref 0 0)]) (h2 : HoldsOE os [(1, [csl 128 (bs.map ofB)]), (0, [.int .u32 b, .int .u32 s, .int .i64 at', .int .i64 st, csl 128 (d.map ofB), csl 5 (risV f)])]) :
    Wp (evCall FN (k + 599)) (k + 599) (.seq (.seq (.ops false f12o7) (.block 0 (.loop f12l13))) (.seq (.ops false f12o14) .ret)) ⟨slots sl T, objs os H, E, 2, lv, 4⟩ (Ret f12 (.bool (validB bs.length ⟨b, s, at', st, d, f⟩))) := by
  have hl := h.le
  have hD : secs ⟨b, s, at', st, d, f⟩ = (d.map ofB).length / 128 := rfl
  have hdv := ris_div f
  refine q_known (P := fun S => Wp _ _ _ S _) _ _ h1 h2 fun T H E => ?_
  repeat (first | refine stN ?_ | intro E)
  refine q_loop (α := Nat) (LInv.mk (fun i => i ≤ f.length ∧ (∀ r ∈ f.take i, rightB bs.length ((d.map ofB).length / 128) r = true)) (fun i => f.length - i)
    (fun i => [(7, .int .i64 (i : Int)), (4, .bool false), (3, .ref 1 0), (2, .ref 0 0)])
    (fun i => [(1, [csl 128 (bs.map ofB)]), (0, [.int .u32 b, .int .u32 s, .int .i64 at', .int .i64 st, csl 128 (d.map ofB), csl 5 (risV f)])]))
    (fun _ _ c => c = 4) 0 ⟨Nat.zero_le _, by simp⟩ rfl (show f.length - 0 < k + 599 by omega) ⟨rfl, rfl, rfl, rfl, trivial⟩ ⟨rfl, rfl, trivial⟩ ?_
  rintro i lv c T H E hP rfl hμ
  have hP : i ≤ f.length ∧ (∀ r ∈ f.take i, rightB bs.length ((d.map ofB).length / 128) r = true) := hP
  obtain ⟨hP, hok⟩ := hP
  clear hμ
  dsimp only
  rcases Nat.lt_or_ge i f.length with hi | hi
  · obtain ⟨r, hp⟩ : ∃ p, f[i]? = some p := ⟨_, List.getElem?_eq_getElem hi⟩
    have gi : inB (i : Int) ((risV f).length / 5) = some i := inB_n (by rw [ris_div]; omega)
    have hrd : rd (risV f) (i * 5) 5 true = some (.agg [.int .u32 r.b, .int .u32 r.s, .int .i64 r.q, .bool r.w, csl 4 (pisV r.l)]) := fm_agg riV_length hp
    obtain ⟨r1, r2, r3⟩ := hr r (List.mem_of_getElem? hp)
    have c36 : Calls0 (evCall FN (k + 599)) 36 [AV.agg [.int .u32 r.b, .int .u32 r.s, .int .i64 r.q, .bool r.w, csl 4 (pisV r.l)], memV bs, .int .i64 (((d.map ofB).length / 128 : Nat) : Int)] (.bool (rightB bs.length ((d.map ofB).length / 128) r)) := (s36 (k := 0) h r1 r2 hd r3).fuel (by omega)
    cases hq : rightB bs.length ((d.map ofB).length / 128) r
    · rw [hq] at c36
      rw [validB_f fun hV => by
        have := hV.2.2.2.2 r (List.mem_of_getElem? hp)
        rw [hD, hq] at this; cases this]
      repeat (first | refine stN ?_ | intro E)
      apply n_ret
      repeat (first | refine stN ?_ | intro E)
      exact q_ret (.inr rfl) rfl rfl rfl rfl rfl rfl
    · rw [hq] at c36
      repeat (first | refine stN ?_ | intro E)
      refine n_again (i + 1) ⟨by omega, ?_⟩ rfl (show f.length - (i + 1) < f.length - i by omega) ⟨rfl, rfl, rfl, rfl, trivial⟩ ⟨⟨rfl, rfl⟩, ⟨rfl, rfl⟩, trivial⟩
      intro p' hp'
      rw [List.take_add_one, hp] at hp'
      rcases List.mem_append.1 hp' with hh | hh
      · exact hok p' hh
      · simp only [Option.toList_some, List.mem_singleton] at hh; rw [hh]; exact hq
  · rw [List.take_of_length_le hi] at hok
    rw [validB_t ⟨hA.1, hA.2.1, by rw [hD]; exact hA.2.2.1, hA.2.2.2, fun r hr' => by rw [hD]; exact hok r hr'⟩]
    repeat (first | refine stN ?_ | intro E)
    apply n_exit
    apply b_exit
    repeat (first | refine stN ?_ | intro E)
    exact q_ret (.inr rfl) rfl rfl rfl rfl rfl rfl
set_option maxRecDepth 100000 in
set_option maxHeartbeats 4000000 in
theorem valid_mid {bs d : List UInt8} {b s : Nat} {at' st : Int} {f : List RI} {sl : List (Nat × AV)} {os : List (Nat × List AV)} {T : Nat → AV} {H : Hp} {E : Nat → Option TypeId} {lv : Nat → Bool} (h : VM bs) (hs : s < 4294967296) (hd : (d.map ofB).length / 128 < 1000000) (hf : f.length ≤ 5000) (hr : ∀ r ∈ f, RIok r)
    {w : Bool} (hw : wholeB s = w) (h1 : HoldsE sl [(6, .bool w), (5, .int .u32 s), (4, .bool false), (3, .ref 1 0), (2, .ref 0 0)]) (h2 : HoldsOE os [(1, [csl 128 (bs.map ofB)]), (0, [.int .u32 b, .int .u32 s, .int .i64 at', .int .i64 st, csl 128 (d.map ofB), csl 5 (risV f)])]) :
    Wp (evCall FN (k + 599)) (k + 599) (.seq (.seq (.ops false f12o3) (.cond (.t 47) (.seq (.ops false f12o4) .ret) .skip)) (.seq (.seq (.ops false f12o5) (.cond (.t 72) (.seq (.ops false f12o6) .ret) .skip)) (.seq (.seq (.ops false f12o7) (.block 0 (.loop f12l13))) (.seq (.ops false f12o14) .ret)))) ⟨slots sl T, objs os H, E, 2, lv, 4⟩ (Ret f12 (.bool (validB bs.length ⟨b, s, at', st, d, f⟩))) := by
  have hdv := ris_div f
  have hws : IntKind.i64.wrap (s : Int) = s := w64 (by omega) (by omega)
  refine q_known (P := fun S => Wp _ _ _ S _) _ _ h1 h2 fun T H E => ?_
  by_cases hA : (at' = 0 ∨ (0 < at' ∧ wholeB s = true ∧ at' < s)) ∧ (st = 0 ∨ (160 ≤ st ∧ st ≤ 165)) ∧ (d.map ofB).length / 128 ≤ 64 ∧ f.length ≤ 8
  · obtain ⟨hat, hst, hdl, hfl⟩ := id hA
    have hs0 : w = true → 0 < s := fun e => by
      rw [e] at hw
      have := of_decide_eq_true hw
      omega
    have hrest := fun sl os T H E lv h1 h2 => valid_rest (k := k) (b := b) (sl := sl) (os := os) (T := T) (H := H) (E := E) (lv := lv) h hd hf hr hA h1 h2
    generalize hR : validB bs.length ⟨b, s, at', st, d, f⟩ = R at hrest ⊢
    obtain hat | ⟨t1, t2, t3⟩ := hat
    · cases w
      all_goals first
        | have hs1 := hs0 rfl
        | skip
      all_goals obtain hst | hst := hst
      all_goals
        repeat (first | exact hrest _ _ _ _ _ _ ⟨rfl, rfl, rfl, trivial⟩ ⟨rfl, rfl, trivial⟩ | (first | refine stN ?_ | intro E))
    · rw [hw] at t2
      subst t2
      obtain hst | hst := hst
      all_goals
        repeat (first | exact hrest _ _ _ _ _ _ ⟨rfl, rfl, rfl, trivial⟩ ⟨rfl, rfl, trivial⟩ | (first | refine stN ?_ | intro E))
  · have hv : validB bs.length ⟨b, s, at', st, d, f⟩ = false := validB_f fun hV => hA ⟨hV.1, hV.2.1, hV.2.2.1, hV.2.2.2.1⟩
    rw [hv]
    by_cases hP : at' = 0 ∨ (0 < at' ∧ wholeB s = true ∧ at' < s)
    · have hdd : (st = 0 ∧ 64 < (d.map ofB).length / 128) ∨ (160 ≤ st ∧ st ≤ 165 ∧ 64 < (d.map ofB).length / 128) ∨ (st = 0 ∧ (d.map ofB).length / 128 ≤ 64 ∧ 8 < f.length) ∨ (160 ≤ st ∧ st ≤ 165 ∧ (d.map ofB).length / 128 ≤ 64 ∧ 8 < f.length) ∨ (st ≠ 0 ∧ st < 160) ∨ 165 < st := by
        have : ¬ ((st = 0 ∨ (160 ≤ st ∧ st ≤ 165)) ∧ (d.map ofB).length / 128 ≤ 64 ∧ f.length ≤ 8) := fun hh => hA ⟨hP, hh⟩
        omega
      have hs0 : w = true → 0 < s := fun e => by
        rw [e] at hw
        have := of_decide_eq_true hw
        omega
      obtain hat | ⟨t1, t2, t3⟩ := hP
      · cases w
        all_goals first
          | have hs1 := hs0 rfl
          | skip
        all_goals obtain hst | hst | hst | hst | hst | hst := hdd
        all_goals
          repeat (first | refine stN ?_ | intro E)
          exact q_ret (.inr rfl) rfl rfl rfl rfl rfl rfl
      · rw [hw] at t2
        subst t2
        obtain hst | hst | hst | hst | hst | hst := hdd
        all_goals
          repeat (first | refine stN ?_ | intro E)
          exact q_ret (.inr rfl) rfl rfl rfl rfl rfl rfl
    · rw [hw] at hP
      have hP : at' < 0 ∨ (0 < at' ∧ w = false) ∨ (0 < at' ∧ w = true ∧ (s : Int) ≤ at') := by
        cases w
        · simp only [reduceCtorEq, false_and, and_false, or_false, and_true] at hP ⊢; omega
        · simp only [true_and, reduceCtorEq, and_false, false_or] at hP ⊢; omega
      obtain t1 | ⟨t1, t2⟩ | ⟨t1, t2, t3⟩ := hP
      case' inr.inl => subst t2
      case' inr.inr => subst t2
      all_goals
        repeat (first | refine stN ?_ | intro E)
        exact q_ret (.inr rfl) rfl rfl rfl rfl rfl rfl
set_option maxRecDepth 100000 in
set_option maxHeartbeats 2000000 in
theorem s12 {bs : List UInt8} {x : BI} (h : VM bs) (hb : x.b < 4294967296) (hs : x.s < 4294967296) (hd : secs x < 1000000) (hf : x.f.length ≤ 5000) (hr : ∀ r ∈ x.f, RIok r) : Calls0 (evCall FN (k + 600)) 12 [biV x, memV bs] (.bool (validB bs.length x)) := by
  obtain ⟨b, s, at', st, d, f⟩ := x
  have hD : secs ⟨b, s, at', st, d, f⟩ = (d.map ofB).length / 128 := rfl
  rw [hD] at hd
  dsimp only at hb hs hf hr
  change Calls0 _ _ [AV.agg [.int .u32 b, .int .u32 s, .int .i64 at', .int .i64 st, csl 128 (d.map ofB), csl 5 (risV f)], _] _
  refine q_call0 fn12 fun T H E lv => ?_
  have hwh : ((s = 1 ∨ s = 2 ∨ s = 4 ∨ s = 8) ∧ wholeB s = true) ∨ ((s ≠ 1 ∧ s ≠ 2 ∧ s ≠ 4 ∧ s ≠ 8) ∧ wholeB s = false) := by
    unfold wholeB
    by_cases h1 : s = 1 ∨ s = 2 ∨ s = 4 ∨ s = 8
    · exact .inl ⟨h1, decide_eq_true h1⟩
    · exact .inr ⟨by omega, decide_eq_false h1⟩
  obtain ⟨hq | hq | hq | hq, hw⟩ | ⟨⟨q1, q3, q4, q5⟩, hw⟩ := hwh
  all_goals
    have hrest := fun sl os T H E lv h1 h2 => valid_mid (k := k) (b := b) (at' := at') (st := st) (sl := sl) (os := os) (T := T) (H := H) (E := E) (lv := lv) h hs hd hf hr hw h1 h2
    generalize validB bs.length ⟨b, s, at', st, d, f⟩ = R at hrest ⊢
    repeat (first | exact hrest _ _ _ _ _ _ ⟨rfl, rfl, rfl, rfl, rfl, trivial⟩ ⟨rfl, rfl, trivial⟩ | (first | refine stN ?_ | intro E))
end Go.Proofs.Ythplidagfcdibaa
