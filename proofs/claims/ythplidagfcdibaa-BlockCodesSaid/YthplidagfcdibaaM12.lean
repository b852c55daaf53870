/- Part 12 of the texts on which proofs about this seat rest: each says what it proves at its own head. No condition. -/
import Derived.Test.YthplidagfcdibaaM11
set_option linter.unusedVariables false
set_option linter.unusedSimpArgs false
/- Whether a device is valid, by the program and by the reference. Condition: the memory is valid; the numbers are such as their types hold; at most 100 requests of 100 parts. -/
namespace Go.Proofs.Ythplidagfcdibaa
open Go.Abs
variable {k : Nat}
def wholeB (s : Nat) : Bool := decide (s = 1 ∨ s = 2 ∨ s = 4 ∨ s = 8)
set_option maxRecDepth 100000 in
theorem s37 {s : Nat} (hs : s < 4294967296) : Calls0 (evCall FN (k + 1)) 37 [.int .u32 s] (.bool (wholeB s)) := by
  refine q_call0 fn37 fun T H E lv => ?_
  by_cases h : s = 1 ∨ s = 2 ∨ s = 4 ∨ s = 8
  · have e : wholeB s = true := decide_eq_true h
    rw [e]
    rcases h with rfl | rfl | rfl | rfl
    all_goals
      repeat (first | refine stN ?_ | intro E)
      exact q_ret (.inr rfl) rfl rfl rfl rfl rfl rfl
  · have e : wholeB s = false := decide_eq_false h
    rw [e]
    repeat (first | refine stN ?_ | intro E)
    exact q_ret (.inr rfl) rfl rfl rfl rfl rfl rfl
def secs (x : BI) : Nat := (x.d.map ofB).length / 128
def RIok (r : RI) : Prop := r.b < 4294967296 ∧ r.s < 4294967296 ∧ r.l.length ≤ 5000
def ValidP (L : Nat) (x : BI) : Prop :=
  (x.at' = 0 ∨ (0 < x.at' ∧ wholeB x.s = true ∧ x.at' < x.s)) ∧ (x.st = 0 ∨ (160 ≤ x.st ∧ x.st ≤ 165)) ∧ secs x ≤ 64 ∧ x.f.length ≤ 8 ∧ ∀ r ∈ x.f, rightB L (secs x) r = true
noncomputable def validB (L : Nat) (x : BI) : Bool := @decide (ValidP L x) (Classical.propDecidable _)
theorem validB_t {L : Nat} {x : BI} (h : ValidP L x) : validB L x = true := @decide_eq_true _ (Classical.propDecidable _) h
theorem validB_f {L : Nat} {x : BI} (h : ¬ ValidP L x) : validB L x = false := @decide_eq_false _ (Classical.propDecidable _) h
theorem validB_iff {L : Nat} {x : BI} : validB L x = true ↔ ValidP L x := ⟨fun h => @of_decide_eq_true _ (Classical.propDecidable _) h, validB_t⟩
set_option maxRecDepth 100000 in
set_option maxHeartbeats 4000000 in
theorem s13 {bs : List UInt8} {x : BI} (h : VM bs) (hb : x.b < 4294967296) (hs : x.s < 4294967296) (hd : secs x < 1000000) (hf : x.f.length ≤ 5000) (hr : ∀ r ∈ x.f, RIok r) : Calls0 (evCall FN (k + 600)) 13 [biV x, memV bs] (.bool (validB bs.length x)) := by
  have hl := h.le
  obtain ⟨b, s, at', st, d, f⟩ := x
  have hD : secs ⟨b, s, at', st, d, f⟩ = (d.map ofB).length / 128 := rfl
  rw [hD] at hd
  dsimp only at hb hs hf hr
  have c37 : Calls0 (evCall FN (k + 599)) 37 [.int .u32 s] (.bool (wholeB s)) := (s37 (k := 0) hs).fuel (by omega)
  have hdv := ris_div f
  have hws : IntKind.i64.wrap (s : Int) = s := w64 (by omega) (by omega)
  change Calls0 _ _ [AV.agg [.int .u32 b, .int .u32 s, .int .i64 at', .int .i64 st, csl 128 (d.map ofB), csl 5 (risV f)], _] _
  refine q_call0 fn13 fun T H E lv => ?_
  by_cases hA : (at' = 0 ∨ (0 < at' ∧ wholeB s = true ∧ at' < s)) ∧ (st = 0 ∨ (160 ≤ st ∧ st ≤ 165)) ∧ (d.map ofB).length / 128 ≤ 64 ∧ f.length ≤ 8
  · obtain ⟨hat, hst, hdl, hfl⟩ := id hA
    obtain hat | ⟨t1, t2, t3⟩ := hat
    all_goals first
      | subst hat
      | rw [t2] at c37
    all_goals obtain hst | hst := hst
    case' inl.inl => subst hst
    case' inr.inl => subst hst
    all_goals
      repeat (first | refine stN ?_ | intro E)
      rw [ris_div]
      refine q_loop (α := Nat) (LInv.mk (fun i => i ≤ f.length ∧ (∀ r ∈ f.take i, rightB bs.length ((d.map ofB).length / 128) r = true)) (fun i => f.length - i)
        (fun i => [(66, .int .i64 (i : Int)), (65, .int .i64 (f.length : Int)), (64, csl 5 (risV f)), (4, .bool false), (3, .ref 1 0), (2, .ref 0 0)])
        (fun i => [(1, [csl 128 (bs.map ofB)]), (0, [.int .u32 b, .int .u32 s, .int .i64 _, .int .i64 _, csl 128 (d.map ofB), csl 5 (risV f)])]))
        (fun _ _ c => c = 4) 0 ⟨Nat.zero_le _, by simp⟩ rfl (show f.length - 0 < k + 599 by omega) ⟨rfl, rfl, rfl, rfl, rfl, rfl, trivial⟩ ⟨rfl, rfl, trivial⟩ ?_
      rintro i lv c T H E hP rfl hμ
      have hP : i ≤ f.length ∧ (∀ r ∈ f.take i, rightB bs.length ((d.map ofB).length / 128) r = true) := hP
      obtain ⟨hP, hok⟩ := hP
      clear hμ
      dsimp only
      rcases Nat.lt_or_ge i f.length with hi | hi
      · obtain ⟨r, hp⟩ : ∃ p, f[i]? = some p := ⟨_, List.getElem?_eq_getElem hi⟩
        have gi : inB (i : Int) ((risV f).length / 5) = some i := inB_n (by rw [ris_div]; omega)
        have hrd : rd (risV f) (i * 5) 5 true = some (.agg [.int .u32 r.b, .int .u32 r.s, .int .i64 r.q, .bool r.w, csl 4 (pisV r.l)]) := fm_agg riV_length hp
        obtain ⟨r1, r2, r3⟩ := hr r (List.mem_of_getElem? hp)
        have c38 : Calls0 (evCall FN (k + 599)) 38 [AV.agg [.int .u32 r.b, .int .u32 r.s, .int .i64 r.q, .bool r.w, csl 4 (pisV r.l)], memV bs, .int .i64 (((d.map ofB).length / 128 : Nat) : Int)] (.bool (rightB bs.length ((d.map ofB).length / 128) r)) := (s38 (k := 0) h r1 r2 hd r3).fuel (by omega)
        cases hq : rightB bs.length ((d.map ofB).length / 128) r
        · rw [hq] at c38
          rw [validB_f fun hV => by
            have := hV.2.2.2.2 r (List.mem_of_getElem? hp)
            rw [hD, hq] at this; cases this]
          repeat (first | refine stN ?_ | intro E)
          apply n_ret
          repeat (first | refine stN ?_ | intro E)
          exact q_ret (.inr rfl) rfl rfl rfl rfl rfl rfl
        · rw [hq] at c38
          repeat (first | refine stN ?_ | intro E)
          refine n_again (i + 1) ⟨by omega, ?_⟩ rfl (show f.length - (i + 1) < f.length - i by omega) ⟨rfl, rfl, rfl, rfl, rfl, rfl, trivial⟩ ⟨⟨rfl, rfl⟩, ⟨rfl, rfl⟩, trivial⟩
          intro p' hp'
          rw [List.take_add_one, hp] at hp'
          rcases List.mem_append.1 hp' with hh | hh
          · exact hok p' hh
          · simp only [Option.toList_some, List.mem_singleton] at hh; rw [hh]; exact hq
      · rw [List.take_of_length_le hi] at hok
        rw [validB_t ⟨hA.1, hA.2.1, by rw [hD]; exact hdl, hfl, fun r hr' => by rw [hD]; exact hok r hr'⟩]
        repeat (first | refine stN ?_ | intro E)
        apply n_exit
        apply b_exit
        repeat (first | refine stN ?_ | intro E)
        exact q_ret (.inr rfl) rfl rfl rfl rfl rfl rfl
  · have hv : validB bs.length ⟨b, s, at', st, d, f⟩ = false := validB_f fun hV => hA ⟨hV.1, hV.2.1, hV.2.2.1, hV.2.2.2.1⟩
    rw [hv]
    obtain hat | ⟨t1, t2, t3⟩ | ⟨t1, t2, t3⟩ | ⟨t1, t2⟩ | t1 : at' = 0 ∨ (0 < at' ∧ wholeB s = true ∧ at' < s) ∨ (0 < at' ∧ wholeB s = true ∧ s ≤ at') ∨ (0 < at' ∧ wholeB s = false) ∨ at' < 0 := by
      have hw : wholeB s = true ∨ wholeB s = false := by cases wholeB s <;> simp
      rcases hw with e | e
      · simp only [e, true_and, reduceCtorEq, false_and, and_false, false_or]; omega
      · simp only [e, reduceCtorEq, false_and, and_false, false_or, and_true]; omega
    all_goals first | rw [t2] at c37 | skip
    all_goals first | subst hat | skip
    all_goals obtain hst | hst | hst | hst : st = 0 ∨ (160 ≤ st ∧ st ≤ 165) ∨ (st ≠ 0 ∧ st < 160) ∨ 165 < st := by omega
    all_goals first
      | (have hdd : 64 < (d.map ofB).length / 128 ∨ ((d.map ofB).length / 128 ≤ 64 ∧ 8 < f.length) := by
           rcases Nat.lt_or_ge 64 ((d.map ofB).length / 128) with h1 | h1
           · exact .inl h1
           · exact .inr ⟨h1, Nat.lt_of_not_le fun h2 => hA ⟨by first | exact .inl rfl | exact .inr ⟨t1, t2, t3⟩, by first | exact .inl hst | exact .inr hst, h1, h2⟩⟩
         obtain hdd | hdd := hdd)
      | skip
    all_goals
      repeat (first | refine stN ?_ | intro E)
      exact q_ret (.inr rfl) rfl rfl rfl rfl rfl rfl
end Go.Proofs.Ythplidagfcdibaa
