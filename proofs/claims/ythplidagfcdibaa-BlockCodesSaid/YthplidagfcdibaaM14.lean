/- Part 14 of the texts on which proofs about this seat rest: each says what it proves at its own head. No condition. -/
import Derived.Test.YthplidagfcdibaaM13
set_option linter.unusedVariables false
set_option linter.unusedSimpArgs false
/- Whether there is little of a device; words of a memory. Condition: the numbers are such as their types hold. -/
namespace Go.Proofs.Ythplidagfcdibaa
open Go.Abs
variable {k : Nat}
def FewP (bs : List UInt8) (x : BI) : Prop := (∀ r ∈ x.f.take 11, r.l.length ≤ 10) ∧ (bs.map ofB).length / 128 ≤ 16 ∧ secs x ≤ 16 ∧ x.f.length ≤ 10
noncomputable def fewB (bs : List UInt8) (x : BI) : Bool := @decide (FewP bs x) (Classical.propDecidable _)
theorem fewB_t {bs : List UInt8} {x : BI} (h : FewP bs x) : fewB bs x = true := @decide_eq_true _ (Classical.propDecidable _) h
theorem fewB_f {bs : List UInt8} {x : BI} (h : ¬ FewP bs x) : fewB bs x = false := @decide_eq_false _ (Classical.propDecidable _) h
set_option maxRecDepth 100000 in
set_option maxHeartbeats 2000000 in
theorem s9 {bs : List UInt8} {x : BI} : Calls0 (evCall FN (k + 100)) 9 [biV x, memV bs] (.bool (fewB bs x)) := by
  obtain ⟨b, s, at', st, d, f⟩ := x
  have hD : secs ⟨b, s, at', st, d, f⟩ = (d.map ofB).length / 128 := rfl
  have hdv := ris_div f
  change Calls0 _ _ [AV.agg [.int .u32 b, .int .u32 s, .int .i64 at', .int .i64 st, csl 128 (d.map ofB), csl 5 (risV f)], _] _
  refine q_call0 fn9 fun T H E lv => ?_
  repeat (first | refine stN ?_ | intro E)
  refine q_loop (α := Nat) (LInv.mk (fun i => i ≤ f.length ∧ i ≤ 11 ∧ (∀ r ∈ f.take i, r.l.length ≤ 10)) (fun i => 11 - i)
    (fun i => [(5, .int .i64 (i : Int)), (4, .bool false), (3, .ref 1 0), (2, .ref 0 0)])
    (fun i => [(1, [csl 128 (bs.map ofB)]), (0, [.int .u32 b, .int .u32 s, .int .i64 at', .int .i64 st, csl 128 (d.map ofB), csl 5 (risV f)])]))
    (fun _ _ c => c = 4) 0 ⟨Nat.zero_le _, by omega, by simp⟩ rfl (show 11 - 0 < k + 99 by omega) ⟨rfl, rfl, rfl, rfl, trivial⟩ ⟨rfl, rfl, trivial⟩ ?_
  rintro i lv c T H E hP rfl hμ
  have hP : i ≤ f.length ∧ i ≤ 11 ∧ (∀ r ∈ f.take i, r.l.length ≤ 10) := hP
  obtain ⟨hP, hP2, hok⟩ := hP
  clear hμ
  dsimp only
  by_cases hi : i < f.length ∧ i < 11
  · obtain ⟨hi, hi2⟩ := hi
    obtain ⟨r, hp⟩ : ∃ p, f[i]? = some p := ⟨_, List.getElem?_eq_getElem hi⟩
    have gi : inB (i : Int) ((risV f).length / 5) = some i := inB_n (by rw [ris_div]; omega)
    have hrd : rd (risV f) (i * 5 + 4) 1 false = some (csl 4 (pisV r.l)) := fm_rd riV_length (by omega) hp rfl rfl
    have hdp := pis_div r.l
    have hmem : r ∈ f.take 11 := List.mem_of_getElem? (i := i) (by rw [List.getElem?_take_of_lt hi2]; exact hp)
    by_cases hq : r.l.length ≤ 10
    · repeat (first | refine stN ?_ | intro E)
      refine n_again (i + 1) ⟨by omega, by omega, ?_⟩ rfl (show 11 - (i + 1) < 11 - i by omega) ⟨rfl, rfl, rfl, rfl, trivial⟩ ⟨⟨rfl, rfl⟩, ⟨rfl, rfl⟩, trivial⟩
      intro p' hp'
      rw [List.take_add_one, hp] at hp'
      rcases List.mem_append.1 hp' with hh | hh
      · exact hok p' hh
      · simp only [Option.toList_some, List.mem_singleton] at hh; rw [hh]; exact hq
    · rw [fewB_f fun hF => hq (hF.1 r hmem)]
      repeat (first | refine stN ?_ | intro E)
      apply n_ret
      repeat (first | refine stN ?_ | intro E)
      exact q_ret (.inr rfl) rfl rfl rfl rfl rfl rfl
  · have hall : ∀ r ∈ f.take 11, r.l.length ≤ 10 := by
      intro r hr
      rcases Nat.lt_or_ge i 11 with h1 | h1
      · have : i = f.length := by omega
        subst this
        rw [List.take_length] at hok
        exact hok r (List.mem_of_mem_take hr)
      · have : i = 11 := by omega
        subst this
        exact hok r hr
    by_cases hF : (bs.map ofB).length / 128 ≤ 16 ∧ (d.map ofB).length / 128 ≤ 16 ∧ f.length ≤ 10
    · rw [fewB_t ⟨hall, hF.1, by rw [hD]; exact hF.2.1, hF.2.2⟩]
      have hi : i = f.length := by omega
      subst hi
      repeat (first | refine stN ?_ | intro E)
      apply n_exit
      apply b_exit
      repeat (first | refine stN ?_ | intro E)
      exact q_ret (.inr rfl) rfl rfl rfl rfl rfl rfl
    · rw [fewB_f fun h => hF ⟨h.2.1, by rw [← hD]; exact h.2.2.1, h.2.2.2⟩]
      obtain hx | hx | hx : 16 < (bs.map ofB).length / 128 ∨ ((bs.map ofB).length / 128 ≤ 16 ∧ 16 < (d.map ofB).length / 128) ∨ ((bs.map ofB).length / 128 ≤ 16 ∧ (d.map ofB).length / 128 ≤ 16 ∧ 10 < f.length) := by omega
      all_goals obtain hi1 | hi1 : i = f.length ∨ (i < f.length ∧ i = 11) := by omega
      all_goals
        repeat (first | refine stN ?_ | intro E)
        apply n_exit
        apply b_exit
        repeat (first | refine stN ?_ | intro E)
        exact q_ret (.inr rfl) rfl rfl rfl rfl rfl rfl
end Go.Proofs.Ythplidagfcdibaa

/- A request out of its parts, and a refusal: by the reference. Condition: the memory is valid, the ring is there, the parts lie in memory. -/
namespace Go.Proofs.Ythplidagfcdibaa
open Go.Abs
variable {k : Nat}
theorem ris_length (f : List RI) : (risV f).length = f.length * 5 := fm_length riV_length f
theorem flight_snoc (f : List RI) (r : RI) : risV f ++ riV r = risV (f ++ [r]) := by simp [risV]
end Go.Proofs.Ythplidagfcdibaa

/- A refusal and a request, by the program: methods that write and read the object of the work under way. Condition: the memory is valid, the ring is there, the parts lie in memory. -/
namespace Go.Proofs.Ythplidagfcdibaa
open Go.Abs
variable {k : Nat}
theorem writes_at {F : CallF} {f : FuncId} {args : List AV} {os : List (Nat × List AV)} {H : Hp} {n : Nat} {lv : Nat → Bool} {c : Nat} {E : Nat → Option TypeId} {R : AV} {id i : Nat} {v cells : List AV} (ho : lkO os i = some cells) (h : Writes F f args [(i, cells)] (objs os H) n lv c E R id v) : Writes F f args os H n lv c E R id v := by
  have e : objs [(i, cells)] (objs os H) = objs os H := by
    funext j
    simp only [objs, upd]
    split
    · next hj => rw [hj, lkO_objs ho]
    · rfl
  obtain ⟨h⟩ := h
  rw [e] at h
  exact ⟨h⟩
def early (M : List UInt8) (D : Nat) (p : Pt) : Prop := (p.n ≠ 8 ∨ p.w = true) ∨ D ≤ word M p.a ∨ (word M (p.a + 4) ≠ 1 ∧ word M (p.a + 4) ≠ 2)
instance (M : List UInt8) (D : Nat) (p : Pt) : Decidable (early M D p) := by unfold early; exact inferInstance
end Go.Proofs.Ythplidagfcdibaa
