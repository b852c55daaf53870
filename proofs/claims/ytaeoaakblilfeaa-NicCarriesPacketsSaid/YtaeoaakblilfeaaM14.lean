/- Part 14 of the texts on which proofs about this seat rest: each says what it proves at its own head. No condition. -/
import Derived.Test.YtaeoaakblilfeaaM13
set_option linter.unusedVariables false
set_option linter.unusedSimpArgs false
/- What error parts have that must be written, or read, with so many bytes: by the program, by the reference. Condition: there are at most 100 parts, their lengths are words. -/
namespace Go.Proofs.Ytaeoaakblilfeaa
open Go.Abs
variable {k : Nat}
def psum (l : List Pt) : Nat := l.foldl (fun n p => n + p.n) 0
def mfE (l : List Pt) (w : Bool) (lo hi : Nat) : Nat := if l.any (fun p => p.w != w) = true then 164 else if psum l < lo ∨ hi < psum l then 161 else 0
theorem psum_take {l : List Pt} {i : Nat} {p : Pt} (h : l[i]? = some p) : psum (l.take (i + 1)) = psum (l.take i) + p.n := foldl_take (f := fun n (p : Pt) => n + p.n) h
theorem psum_le : ∀ {l : List Pt} (n : Nat), (∀ p ∈ l, p.n < 4294967296) → l.foldl (fun n p => n + p.n) n ≤ n + l.length * 4294967296
  | [], n, _ => by simp
  | p :: l, n, h => by
    have h1 := h p List.mem_cons_self
    have h2 := psum_le (l := l) (n + p.n) fun q hq => h q (List.mem_cons_of_mem _ hq)
    rw [List.foldl_cons, List.length_cons]; omega
theorem psum_lt {l : List Pt} (hn : l.length ≤ 100) (h : ∀ p ∈ l, p.n < 4294967296) : psum l ≤ 429496729600 := by
  have := psum_le (l := l) 0 h
  unfold psum; omega
set_option maxRecDepth 100000 in
theorem s64 {l : List Pt} {w : Bool} {lo hi : Nat} (hn : l.length ≤ 100) (hs : ∀ p ∈ l, p.n < 4294967296) : Calls0 (evCall FN (k + 200)) 64 [csl 4 (ptsV l), .bool w, .int .i64 lo, .int .i64 hi] (.int .i64 (mfE l w lo hi)) := by
  refine q_call0 fn64 fun T H E lv => ?_
  repeat (first | refine stN ?_ | intro E)
  rw [pts_div]
  refine q_loop (α := Nat) (LInv.mk (fun i => i ≤ l.length ∧ (l.take i).any (fun p => p.w != w) = false) (fun i => l.length - i)
    (fun i => [(14, .int .i64 (i : Int)), (13, .int .i64 (l.length : Int)), (12, csl 4 (ptsV l)), (9, .int .i64 (psum (l.take i) : Nat)), (8, .int .i64 0), (1, .bool w), (2, .int .i64 lo), (3, .int .i64 hi), (0, csl 4 (ptsV l))]) (fun i => []))
    (fun _ _ c => c = 4) 0 ⟨Nat.zero_le _, rfl⟩ rfl (show l.length - 0 < k + 199 by omega) ⟨rfl, rfl, rfl, rfl, rfl, rfl, rfl, rfl, rfl, trivial⟩ trivial ?_
  rintro i lv c T H E ⟨hP, hno⟩ rfl hμ
  have hP : i ≤ l.length := hP
  have hno : (l.take i).any (fun p => p.w != w) = false := hno
  clear hμ
  dsimp only
  rcases Nat.lt_or_ge i l.length with hil | hil
  · obtain ⟨p, hp⟩ : ∃ p, l[i]? = some p := ⟨_, List.getElem?_eq_getElem hil⟩
    have hps := hs p (List.mem_of_getElem? hp)
    have gi : inB (i : Int) ((ptsV l).length / 4) = some i := inB_n (by rw [pts_div]; omega)
    have hft := psum_take hp
    have hle := psum_lt (l := l.take i) (by rw [List.length_take]; omega) fun q hq => hs q (List.mem_of_mem_take hq)
    have hr : rd (ptsV l) (i * 4) 4 true = some (.agg [.int .i64 p.i, .int .i64 p.a, .int .i64 p.n, .bool p.w]) := rd_pt hp
    have hat := any_take (f := fun p => p.w != w) hp
    rw [hno, Bool.false_or] at hat
    have ha : evBin .add (.int .i64 (psum (l.take i) : Nat)) (.int .i64 p.n) = some (.int .i64 (psum (l.take (i + 1)) : Nat)) := by
      rw [hft]; exact add_nn (by omega)
    cases hpw : (p.w != w)
    · rw [hpw] at hat
      have : p.w = w := by cases hq : p.w <;> cases w <;> simp_all
      rw [this] at hr
      cases w
      all_goals
        repeat (first | refine stN ?_ | intro E)
        exact n_again (i + 1) ⟨by omega, hat⟩ rfl (show l.length - (i + 1) < l.length - i by omega) ⟨rfl, rfl, rfl, rfl, rfl, rfl, rfl, rfl, rfl, trivial⟩ trivial
    · have e : mfE l w lo hi = 164 := if_pos (List.any_eq_true.2 ⟨p, List.mem_of_getElem? hp, hpw⟩)
      have : p.w = !w := by cases hq : p.w <;> cases w <;> simp_all
      rw [e]
      rw [this] at hr
      cases w
      all_goals
        repeat (first | refine stN ?_ | intro E)
        apply n_ret
        repeat (first | refine stN ?_ | intro E)
        exact q_ret (.inr rfl) rfl rfl rfl rfl rfl rfl
  · rw [List.take_of_length_le hil] at hno ⊢
    have hle := psum_lt hn hs
    repeat (first | refine stN ?_ | intro E)
    apply n_exit
    apply b_exit
    have e : mfE l w lo hi = if psum l < lo ∨ hi < psum l then 161 else 0 := if_neg (by rw [hno]; decide)
    by_cases h1 : psum l < lo
    · rw [e, if_pos (.inl h1)]
      repeat (first | refine stN ?_ | intro E)
      exact q_ret (.inr rfl) rfl rfl rfl rfl rfl rfl
    · by_cases h2 : hi < psum l
      · rw [e, if_pos (.inr h2)]
        repeat (first | refine stN ?_ | intro E)
        exact q_ret (.inr rfl) rfl rfl rfl rfl rfl rfl
      · rw [e, if_neg (by omega)]
        repeat (first | refine stN ?_ | intro E)
        exact q_ret (.inr rfl) rfl rfl rfl rfl rfl rfl
set_option maxRecDepth 100000 in
theorem s42 {l : List Pt} {w : Bool} {lo hi : Nat} (hn : l.length ≤ 100) (hs : ∀ p ∈ l, p.n < 4294967296) : Calls0 (evCall FN (k + 200)) 42 [csl 4 (ptsV l), .bool w, .int .i64 lo, .int .i64 hi] (.int .i64 (mfE l w lo hi)) := by
  have hdv := pts_div l
  refine q_call0 fn42 fun T H E lv => ?_
  repeat (first | refine stN ?_ | intro E)
  refine q_loop (α := Nat) (LInv.mk (fun i => i ≤ l.length ∧ (l.take i).any (fun p => p.w != w) = false) (fun i => l.length - i)
    (fun i => [(10, .int .i64 (i : Int)), (9, .int .i64 (psum (l.take i) : Nat)), (8, .int .i64 0), (1, .bool w), (2, .int .i64 lo), (3, .int .i64 hi), (0, csl 4 (ptsV l))]) (fun i => []))
    (fun _ _ c => c = 4) 0 ⟨Nat.zero_le _, rfl⟩ rfl (show l.length - 0 < k + 199 by omega) ⟨rfl, rfl, rfl, rfl, rfl, rfl, rfl, trivial⟩ trivial ?_
  rintro i lv c T H E ⟨hP, hno⟩ rfl hμ
  have hP : i ≤ l.length := hP
  have hno : (l.take i).any (fun p => p.w != w) = false := hno
  clear hμ
  dsimp only
  rcases Nat.lt_or_ge i l.length with hil | hil
  · obtain ⟨p, hp⟩ : ∃ p, l[i]? = some p := ⟨_, List.getElem?_eq_getElem hil⟩
    have hps := hs p (List.mem_of_getElem? hp)
    have gi : inB (i : Int) ((ptsV l).length / 4) = some i := inB_n (by rw [pts_div]; omega)
    have hft := psum_take hp
    have hle := psum_lt (l := l.take i) (by rw [List.length_take]; omega) fun q hq => hs q (List.mem_of_mem_take hq)
    have hr3 : rd (ptsV l) (i * 4 + 3) 1 false = some (.bool p.w) := rd_pt3 hp
    have hr2 : rd (ptsV l) (i * 4 + 2) 1 false = some (.int .i64 p.n) := rd_pt2 hp
    have hat := any_take (f := fun p => p.w != w) hp
    rw [hno, Bool.false_or] at hat
    have ha : evBin .add (.int .i64 (psum (l.take i) : Nat)) (.int .i64 p.n) = some (.int .i64 (psum (l.take (i + 1)) : Nat)) := by
      rw [hft]; exact add_nn (by omega)
    cases hpw : (p.w != w)
    · rw [hpw] at hat
      have : p.w = w := by cases hq : p.w <;> cases w <;> simp_all
      rw [this] at hr3
      cases w
      all_goals
        repeat (first | refine stN ?_ | intro E)
        exact n_again (i + 1) ⟨by omega, hat⟩ rfl (show l.length - (i + 1) < l.length - i by omega) ⟨rfl, rfl, rfl, rfl, rfl, rfl, rfl, trivial⟩ trivial
    · have e : mfE l w lo hi = 164 := if_pos (List.any_eq_true.2 ⟨p, List.mem_of_getElem? hp, hpw⟩)
      have : p.w = !w := by cases hq : p.w <;> cases w <;> simp_all
      rw [e]
      rw [this] at hr3
      cases w
      all_goals
        repeat (first | refine stN ?_ | intro E)
        apply n_ret
        repeat (first | refine stN ?_ | intro E)
        exact q_ret (.inr rfl) rfl rfl rfl rfl rfl rfl
  · rw [List.take_of_length_le hil] at hno ⊢
    have hle := psum_lt hn hs
    repeat (first | refine stN ?_ | intro E)
    apply n_exit
    apply b_exit
    have e : mfE l w lo hi = if psum l < lo ∨ hi < psum l then 161 else 0 := if_neg (by rw [hno]; decide)
    by_cases h1 : psum l < lo
    · rw [e, if_pos (.inl h1)]
      repeat (first | refine stN ?_ | intro E)
      exact q_ret (.inr rfl) rfl rfl rfl rfl rfl rfl
    · by_cases h2 : hi < psum l
      · rw [e, if_pos (.inr h2)]
        repeat (first | refine stN ?_ | intro E)
        exact q_ret (.inr rfl) rfl rfl rfl rfl rfl rfl
      · rw [e, if_neg (by omega)]
        repeat (first | refine stN ?_ | intro E)
        exact q_ret (.inr rfl) rfl rfl rfl rfl rfl rfl
end Go.Proofs.Ytaeoaakblilfeaa
