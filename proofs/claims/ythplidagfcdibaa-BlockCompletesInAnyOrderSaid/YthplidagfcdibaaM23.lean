/- Part 23 of the texts on which proofs about this seat rest: each says what it proves at its own head. No condition. -/
import Derived.Test.YthplidagfcdibaaM22
set_option linter.unusedVariables false
set_option linter.unusedSimpArgs false
/- Two requests that are apart, as a law asks it. Condition: the numbers of the requests are natural ones. -/
namespace Go.Proofs.Ythplidagfcdibaa
open Go.Abs
variable {k : Nat}
/-- Two parts have a common byte. -/
def tch (x y : Pt) : Prop := x.a < y.a + y.n ∧ y.a < x.a + x.n
def ringP (b s : Nat) : Pt := ⟨0, b, 16 * s, false⟩
/-- What is refused of the parts i and j. -/
def badP (all : List Pt) (mine i j : Nat) : Prop := ∃ x y, all[i]? = some x ∧ all[j]? = some y ∧ tch x y ∧ ((mine ≤ i ∧ j < mine) ∨ j = 0)
structure Aprt (b s b' s' qa qb : Nat) (la lb : List Pt) : Prop where
  q : qa ≠ qb
  hb : b = b'
  hs : s = s'
  two : ∀ i j, j < i → i < (ringP b s :: (la ++ lb)).length → ¬ badP (ringP b s :: (la ++ lb)) (1 + la.length) i j
  idx : ∀ x ∈ la, ∀ y ∈ lb, x.i ≠ y.i
theorem pts_app (a b : List Pt) : ptsV (a ++ b) = ptsV a ++ ptsV b := by simp [ptsV]
set_option maxRecDepth 100000 in
set_option maxHeartbeats 8000000 in
theorem s24 {b s b' s' qa qb : Nat} {wa wb : Bool} {la lb : List Pt} (hb : b < 4294967296) (hs : s < 4294967296) (h1 : ∀ x ∈ la ++ lb, x.a < 4294967296 ∧ x.n < 4294967296) (ha : la.length ≤ 10) (hlb : lb.length ≤ 10) :
    ∃ r : Bool, (r = true → Aprt b s b' s' qa qb la lb) ∧ Calls0 (evCall FN (k + 200)) 24 [.agg [.int .u32 b, .int .u32 s, .int .i64 qa, .bool wa, csl 4 (ptsV la)], .agg [.int .u32 b', .int .u32 s', .int .i64 qb, .bool wb, csl 4 (ptsV lb)]] (.bool r) := by
  refine q_callE (R := fun r => AV.bool r) fn24 fun T H E lv => ?_
  have dva := pts_div la
  have dvb := pts_div lb
  by_cases hq : qa = qb
  · repeat (first | refine stN ?_ | intro E)
    exact ⟨false, ⟨(fun h => by cases h), q_ret (.inr rfl) rfl rfl rfl rfl rfl rfl⟩⟩
  have hq2 : (qa : Int) ≠ qb := by omega
  repeat (first | refine stN ?_ | intro E)
  have e0 : [AV.int .i64 0, .int .i64 b, .int .i64 ((16 * s : Nat) : Int), .bool false] = ptsV [ringP b s] := rfl
  -- the parts of the first one
  refine q_loop (α := Nat × Nat) (LInv.mk (fun p => p.1 ≤ la.length) (fun p => la.length - p.1)
    (fun p => [(6, .int .i64 (p.1 : Int)), (5, .sl p.2 4 (ptsV (ringP b s :: la.take p.1))), (4, .bool false), (3, .ref 1 0), (2, .ref 0 0)])
    (fun _ => [(1, [.int .u32 b', .int .u32 s', .int .i64 qb, .bool wb, csl 4 (ptsV lb)]), (0, [.int .u32 b, .int .u32 s, .int .i64 qa, .bool wa, csl 4 (ptsV la)])]))
    (fun p lv c => 4 ≤ c ∧ Own3 lv c p.2) (0, 3) (Nat.zero_le _) ⟨Nat.le_refl _, .three⟩ (show la.length - 0 < k + 199 by omega) ⟨rfl, rfl, rfl, rfl, rfl, trivial⟩ ⟨rfl, rfl, trivial⟩ ?_
  rintro ⟨i, br⟩ lv c T H E hP ⟨hc4, hL⟩ hμ
  have hP : i ≤ la.length := hP
  clear hμ
  dsimp only at hL ⊢
  rcases Nat.lt_or_ge i la.length with hi | hi
  · obtain ⟨x, hx⟩ : ∃ x, la[i]? = some x := ⟨_, List.getElem?_eq_getElem hi⟩
    have hr : rd (ptsV la) (i * 4) 4 true = some (.agg [.int .i64 x.i, .int .i64 x.a, .int .i64 x.n, .bool x.w]) := rd_pt hx
    have gi : inB (i : Int) ((ptsV la).length / 4) = some i := inB_n (by omega)
    have ex : ptsV (ringP b s :: la.take i) ++ [.int .i64 x.i, .int .i64 x.a, .int .i64 x.n, .bool x.w] = ptsV (ringP b s :: la.take (i + 1)) := by
      have e : la.take (i + 1) = la.take i ++ [x] := by rw [List.take_add_one, hx]; rfl
      rw [e, show ringP b s :: (la.take i ++ [x]) = (ringP b s :: la.take i) ++ [x] from rfl, pts_app]; rfl
    repeat (first | refine stN ?_ | intro E)
    apply p_appX
    · exact rfl
    · exact rfl
    · exact fun H => rfl
    · exact ⟨by omega, by omega⟩
    · rw [pts_length, List.length_cons, List.length_take, room_val]; simp only [List.length_cons, List.length_nil]; omega
    · exact hL
    · omega
    intro br1 lv1 c1 g1 g2 g3
    rw [ex]
    repeat (first | refine stN ?_ | intro E)
    exact n_again (i + 1, br1) (show i + 1 ≤ la.length by omega) ⟨by omega, g2⟩ (show la.length - (i + 1) < la.length - i by omega) ⟨rfl, rfl, rfl, rfl, rfl, trivial⟩ ⟨⟨rfl, rfl⟩, ⟨rfl, rfl⟩, trivial⟩
  obtain rfl : i = la.length := by omega
  rw [List.take_length]
  repeat (first | refine stN ?_ | intro E)
  apply n_exit
  apply b_exit
  repeat (first | refine stN ?_ | intro E)
  have dv1 : (ptsV (ringP b s :: la)).length / 4 = 1 + la.length := by rw [pts_div, List.length_cons]; omega
  rw [dv1]
  -- .. and of the other one
  refine q_loop (α := Nat × Nat) (LInv.mk (fun p => p.1 ≤ lb.length) (fun p => lb.length - p.1)
    (fun p => [(8, .int .i64 (p.1 : Int)), (7, .int .i64 ((1 + la.length : Nat) : Int)), (5, .sl p.2 4 (ptsV (ringP b s :: (la ++ lb.take p.1)))), (4, .bool false), (3, .ref 1 0), (2, .ref 0 0)])
    (fun _ => [(1, [.int .u32 b', .int .u32 s', .int .i64 qb, .bool wb, csl 4 (ptsV lb)]), (0, [.int .u32 b, .int .u32 s, .int .i64 qa, .bool wa, csl 4 (ptsV la)])]))
    (fun p lv c => 4 ≤ c ∧ Own3 lv c p.2) (0, br) (Nat.zero_le _) ⟨hc4, hL⟩ (show lb.length - 0 < k + 199 by omega) ⟨rfl, rfl, by simp; rfl, rfl, rfl, rfl, trivial⟩ ⟨rfl, rfl, trivial⟩ ?_
  clear hL hc4
  rintro ⟨i, br⟩ lv c T H E hP ⟨hc4, hL⟩ hμ
  have hP : i ≤ lb.length := hP
  clear hμ
  dsimp only at hL ⊢
  rcases Nat.lt_or_ge i lb.length with hi | hi
  · obtain ⟨x, hx⟩ : ∃ x, lb[i]? = some x := ⟨_, List.getElem?_eq_getElem hi⟩
    have hr : rd (ptsV lb) (i * 4) 4 true = some (.agg [.int .i64 x.i, .int .i64 x.a, .int .i64 x.n, .bool x.w]) := rd_pt hx
    have gi : inB (i : Int) ((ptsV lb).length / 4) = some i := inB_n (by omega)
    have ex : ptsV (ringP b s :: (la ++ lb.take i)) ++ [.int .i64 x.i, .int .i64 x.a, .int .i64 x.n, .bool x.w] = ptsV (ringP b s :: (la ++ lb.take (i + 1))) := by
      have e : lb.take (i + 1) = lb.take i ++ [x] := by rw [List.take_add_one, hx]; rfl
      rw [e, ← List.append_assoc, show ringP b s :: (la ++ lb.take i ++ [x]) = (ringP b s :: (la ++ lb.take i)) ++ [x] from rfl, pts_app]; rfl
    repeat (first | refine stN ?_ | intro E)
    apply p_appX
    · exact rfl
    · exact rfl
    · exact fun H => rfl
    · exact ⟨by omega, by omega⟩
    · rw [pts_length, List.length_cons, List.length_append, List.length_take, room_val]; simp only [List.length_cons, List.length_nil]; omega
    · exact hL
    · omega
    intro br1 lv1 c1 g1 g2 g3
    rw [ex]
    repeat (first | refine stN ?_ | intro E)
    exact n_again (i + 1, br1) (show i + 1 ≤ lb.length by omega) ⟨by omega, g2⟩ (show lb.length - (i + 1) < lb.length - i by omega) ⟨rfl, rfl, rfl, rfl, rfl, rfl, trivial⟩ ⟨⟨rfl, rfl⟩, ⟨rfl, rfl⟩, trivial⟩
  obtain rfl : i = lb.length := by omega
  rw [List.take_length]
  repeat (first | refine stN ?_ | intro E)
  apply n_exit
  apply b_exit
  repeat (first | refine stN ?_ | intro E)
  by_cases hr : b = b' ∧ s = s'
  case neg =>
    apply p_eqA
    · exact rfl
    · exact rfl
    · show eqKs [0, 0] [.int .u32 b', .int .u32 s'] [.int .u32 b, .int .u32 s] = some false
      have : ¬ ((b' : Int) = b ∧ (s' : Int) = s) := fun h => hr ⟨by omega, by omega⟩
      by_cases h1 : (b' : Int) = b
      · have h2 : (s' : Int) ≠ s := fun h => this ⟨h1, h⟩
        simp [eqKs, eqK, h1, h2]
      · simp [eqKs, eqK, h1]
    repeat (first | refine stN ?_ | intro E)
    exact ⟨false, ⟨(fun h => by cases h), q_ret (.inr rfl) rfl rfl rfl rfl rfl rfl⟩⟩
  obtain ⟨rfl, rfl⟩ := hr
  apply p_eqA
  · exact rfl
  · exact rfl
  · show eqKs [0, 0] [.int .u32 b, .int .u32 s] [.int .u32 b, .int .u32 s] = some true
    simp [eqKs, eqK]
  repeat (first | refine stN ?_ | intro E)
  obtain ⟨all, hall⟩ : ∃ all, all = ringP b s :: (la ++ lb) := ⟨_, rfl⟩
  have hal : all.length = 1 + la.length + lb.length := by rw [hall, List.length_cons, List.length_append]; omega
  have hab : ∀ x ∈ all, x.a < 4294967296 ∧ x.n < 68719476736 ∧ True := by
    intro x hx
    rw [hall] at hx
    rcases List.mem_cons.1 hx with rfl | hx
    · exact ⟨hb, by show 16 * s < _; omega, trivial⟩
    · have := h1 x hx; exact ⟨this.1, by omega, trivial⟩
  rw [← hall]
  have dvl := pts_div all
  obtain ⟨mine, hm⟩ : ∃ mine, mine = 1 + la.length := ⟨_, rfl⟩
  rw [← hm]
  -- pairs
  refine q_loop (α := Nat) (LInv.mk (fun i => i ≤ all.length ∧ ∀ i' j, j < i' → i' < i → ¬ badP all mine i' j) (fun i => all.length - i)
    (fun i => [(9, .int .i64 (i : Int)), (7, .int .i64 (mine : Int)), (5, .sl br 4 (ptsV all)), (4, .bool false)]) (fun _ => []))
    (fun _ lv c => True) 0 ⟨Nat.zero_le _, fun i' j h1 h2 => by omega⟩ trivial (show all.length - 0 < k + 199 by omega) ⟨rfl, rfl, rfl, rfl, trivial⟩ trivial ?_
  rintro i lv2 c2 T H E ⟨hP, hQ⟩ _ hμ
  have hP : i ≤ all.length := hP
  clear hμ
  dsimp only at hQ ⊢
  rcases Nat.lt_or_ge i all.length with hi | hi
  · repeat (first | refine stN ?_ | intro E)
    refine q_loop (α := Nat) (LInv.mk (fun j => j ≤ i ∧ ∀ j', j' < j → ¬ badP all mine i j') (fun j => i - j)
      (fun j => [(10, .int .i64 (j : Int)), (9, .int .i64 (i : Int)), (7, .int .i64 (mine : Int)), (5, .sl br 4 (ptsV all)), (4, .bool false)]) (fun _ => []))
      (fun _ lv c => True) 0 ⟨Nat.zero_le _, fun j h => by omega⟩ trivial (show i - 0 < k + 199 by omega) ⟨rfl, rfl, rfl, rfl, rfl, trivial⟩ trivial ?_
    rintro j lv3 c3 T H E ⟨hP2, hQ2⟩ _ hμ
    have hP2 : j ≤ i := hP2
    clear hμ
    dsimp only at hQ2 ⊢
    rcases Nat.lt_or_ge j i with hj | hj
    · obtain ⟨x, hx⟩ : ∃ x, all[i]? = some x := ⟨_, List.getElem?_eq_getElem hi⟩
      obtain ⟨y, hy⟩ : ∃ y, all[j]? = some y := ⟨_, List.getElem?_eq_getElem (by omega)⟩
      have x1 := rd_pt1 hx
      have x2 := rd_pt2 hx
      have y1 := rd_pt1 hy
      have y2 := rd_pt2 hy
      have bx := hab x (List.mem_of_getElem? hx)
      have bY := hab y (List.mem_of_getElem? hy)
      have gi : inB (i : Int) ((ptsV all).length / 4) = some i := inB_n (by omega)
      have gj : inB (j : Int) ((ptsV all).length / 4) = some j := inB_n (by omega)
      have again : ¬ badP all mine i j → ∀ j', j' < j + 1 → ¬ badP all mine i j' := by
        intro h j' hj'
        rcases Nat.lt_or_ge j' j with h2 | h2
        · exact hQ2 j' h2
        · obtain rfl : j' = j := by omega
          exact h
      obtain ⟨xi, xa, xn, xw⟩ := x
      obtain ⟨yi, ya, yn, yw⟩ := y
      dsimp only at x1 x2 y1 y2 bx bY
      have hbad : badP all mine i j ↔ (xa < ya + yn ∧ ya < xa + xn) ∧ ((mine ≤ i ∧ j < mine) ∨ j = 0) := by
        constructor
        · rintro ⟨x', y', e1, e2, h3, h4⟩
          rw [hx, Option.some.injEq] at e1
          rw [hy, Option.some.injEq] at e2
          subst e1 e2
          exact ⟨h3, h4⟩
        · rintro ⟨h3, h4⟩
          exact ⟨_, _, hx, hy, h3, h4⟩
      obtain t1 | ⟨t1, t2⟩ | ⟨t1, t2, t3, t4⟩ | ⟨t1, t2, t3, t4⟩ | ⟨t1, t2, t3, t4⟩ | ⟨t1, t2, t3, t4⟩ : (ya + yn ≤ xa) ∨ (xa < ya + yn ∧ xa + xn ≤ ya) ∨ (xa < ya + yn ∧ ya < xa + xn ∧ i < mine ∧ j ≠ 0) ∨ (xa < ya + yn ∧ ya < xa + xn ∧ i < mine ∧ j = 0) ∨ (xa < ya + yn ∧ ya < xa + xn ∧ mine ≤ i ∧ j < mine) ∨ (xa < ya + yn ∧ ya < xa + xn ∧ mine ≤ i ∧ mine ≤ j) := by omega
      · repeat (first | refine stN ?_ | intro E)
        exact n_again (j + 1) ⟨show j + 1 ≤ i by omega, again (by rw [hbad]; omega)⟩ trivial (show i - (j + 1) < i - j by omega) ⟨rfl, rfl, rfl, rfl, rfl, trivial⟩ trivial
      · repeat (first | refine stN ?_ | intro E)
        exact n_again (j + 1) ⟨show j + 1 ≤ i by omega, again (by rw [hbad]; omega)⟩ trivial (show i - (j + 1) < i - j by omega) ⟨rfl, rfl, rfl, rfl, rfl, trivial⟩ trivial
      · repeat (first | refine stN ?_ | intro E)
        exact n_again (j + 1) ⟨show j + 1 ≤ i by omega, again (by rw [hbad]; omega)⟩ trivial (show i - (j + 1) < i - j by omega) ⟨rfl, rfl, rfl, rfl, rfl, trivial⟩ trivial
      · repeat (first | refine stN ?_ | intro E)
        apply n_ret
        repeat (first | refine stN ?_ | intro E)
        apply n_ret
        repeat (first | refine stN ?_ | intro E)
        exact ⟨false, ⟨(fun h => by cases h), q_ret (.inr rfl) rfl rfl rfl rfl rfl rfl⟩⟩
      · repeat (first | refine stN ?_ | intro E)
        apply n_ret
        repeat (first | refine stN ?_ | intro E)
        apply n_ret
        repeat (first | refine stN ?_ | intro E)
        exact ⟨false, ⟨(fun h => by cases h), q_ret (.inr rfl) rfl rfl rfl rfl rfl rfl⟩⟩
      · repeat (first | refine stN ?_ | intro E)
        exact n_again (j + 1) ⟨show j + 1 ≤ i by omega, again (by rw [hbad]; omega)⟩ trivial (show i - (j + 1) < i - j by omega) ⟨rfl, rfl, rfl, rfl, rfl, trivial⟩ trivial
    · obtain rfl : j = i := by omega
      repeat (first | refine stN ?_ | intro E)
      apply n_exit
      apply b_exit
      repeat (first | refine stN ?_ | intro E)
      refine n_again (j + 1) ⟨show j + 1 ≤ all.length by omega, fun i' j' h1 h2 => ?_⟩ trivial (show all.length - (j + 1) < all.length - j by omega) ⟨rfl, rfl, rfl, rfl, trivial⟩ trivial
      rcases Nat.lt_or_ge i' j with h3 | h3
      · exact hQ i' j' h1 h3
      · obtain rfl : i' = j := by omega
        exact hQ2 j' h1
  obtain rfl : i = all.length := by omega
  repeat (first | refine stN ?_ | intro E)
  apply n_exit
  apply b_exit
  repeat (first | refine stN ?_ | intro E)
  -- indices
  have hno : ∀ i j x y, 1 ≤ i → i < mine → mine ≤ j → all[i]? = some x → all[j]? = some y → x ∈ la ∧ y ∈ lb := by
    intro i j x y h1 h2 h3 h4 h5
    rw [hall] at h4 h5
    rw [List.getElem?_cons, if_neg (by omega), List.getElem?_append_left (by omega)] at h4
    rw [List.getElem?_cons, if_neg (by omega), List.getElem?_append_right (by omega)] at h5
    exact ⟨List.mem_of_getElem? h4, List.mem_of_getElem? h5⟩
  refine q_loop (α := Nat) (LInv.mk (fun i => 1 ≤ i ∧ i ≤ mine ∧ ∀ i' j x y, 1 ≤ i' → i' < i → mine ≤ j → all[i']? = some x → all[j]? = some y → x.i ≠ y.i) (fun i => mine - i)
    (fun i => [(12, .int .i64 (i : Int)), (7, .int .i64 (mine : Int)), (5, .sl br 4 (ptsV all)), (4, .bool false)]) (fun _ => []))
    (fun _ lv c => True) 1 ⟨Nat.le_refl _, by omega, fun i' j x y h1 h2 => by omega⟩ trivial (show mine - 1 < k + 199 by omega) ⟨rfl, rfl, rfl, rfl, trivial⟩ trivial ?_
  rintro i lv2 c2 T H E ⟨hP1, hP, hQ3⟩ _ hμ
  have hP1 : 1 ≤ i := hP1
  have hP : i ≤ mine := hP
  clear hμ
  dsimp only at hQ3 ⊢
  rcases Nat.lt_or_ge i mine with hi | hi
  · repeat (first | refine stN ?_ | intro E)
    obtain ⟨x, hx⟩ : ∃ x, all[i]? = some x := ⟨_, List.getElem?_eq_getElem (by omega)⟩
    refine q_loop (α := Nat) (LInv.mk (fun j => mine ≤ j ∧ j ≤ all.length ∧ ∀ j' y, mine ≤ j' → j' < j → all[j']? = some y → x.i ≠ y.i) (fun j => all.length - j)
      (fun j => [(13, .int .i64 (j : Int)), (12, .int .i64 (i : Int)), (7, .int .i64 (mine : Int)), (5, .sl br 4 (ptsV all)), (4, .bool false)]) (fun _ => []))
      (fun _ lv c => True) mine ⟨Nat.le_refl _, by omega, fun j' y h1 h2 => by omega⟩ trivial (show all.length - mine < k + 199 by omega) ⟨rfl, rfl, rfl, rfl, rfl, trivial⟩ trivial ?_
    rintro j lv3 c3 T H E ⟨hP2, hP3, hQ2⟩ _ hμ
    have hP2 : mine ≤ j := hP2
    have hP3 : j ≤ all.length := hP3
    clear hμ
    dsimp only at hQ2 ⊢
    rcases Nat.lt_or_ge j all.length with hj | hj
    · obtain ⟨y, hy⟩ : ∃ y, all[j]? = some y := ⟨_, List.getElem?_eq_getElem hj⟩
      have x0 := rd_pt0 hx
      have y0 := rd_pt0 hy
      have gi : inB (i : Int) ((ptsV all).length / 4) = some i := inB_n (by omega)
      have gj : inB (j : Int) ((ptsV all).length / 4) = some j := inB_n (by omega)
      obtain ⟨xi, xa, xn, xw⟩ := x
      obtain ⟨yi, ya, yn, yw⟩ := y
      dsimp only at x0 y0 hQ2
      by_cases he : xi = yi
      · repeat (first | refine stN ?_ | intro E)
        apply n_ret
        repeat (first | refine stN ?_ | intro E)
        apply n_ret
        repeat (first | refine stN ?_ | intro E)
        exact ⟨false, ⟨(fun h => by cases h), q_ret (.inr rfl) rfl rfl rfl rfl rfl rfl⟩⟩
      · have he2 : (xi : Int) ≠ yi := by omega
        repeat (first | refine stN ?_ | intro E)
        refine n_again (j + 1) ⟨show mine ≤ j + 1 by omega, show j + 1 ≤ all.length by omega, fun j' y' h1 h2 h3 => ?_⟩ trivial (show all.length - (j + 1) < all.length - j by omega) ⟨rfl, rfl, rfl, rfl, rfl, trivial⟩ trivial
        rcases Nat.lt_or_ge j' j with h4 | h4
        · exact hQ2 j' y' h1 h4 h3
        · obtain rfl : j' = j := by omega
          rw [hy, Option.some.injEq] at h3
          subst h3; exact he
    · obtain rfl : j = all.length := by omega
      repeat (first | refine stN ?_ | intro E)
      apply n_exit
      apply b_exit
      repeat (first | refine stN ?_ | intro E)
      refine n_again (i + 1) ⟨show 1 ≤ i + 1 by omega, show i + 1 ≤ mine by omega, fun i' j' x' y' h1 h2 h3 h4 h5 => ?_⟩ trivial (show mine - (i + 1) < mine - i by omega) ⟨rfl, rfl, rfl, rfl, trivial⟩ trivial
      rcases Nat.lt_or_ge i' i with h6 | h6
      · exact hQ3 i' j' x' y' h1 h6 h3 h4 h5
      · obtain rfl : i' = i := by omega
        rw [hx, Option.some.injEq] at h4
        subst h4
        exact hQ2 j' y' h3 (List.getElem?_eq_some_iff.1 h5).1 h5
  · obtain rfl : i = mine := by omega
    repeat (first | refine stN ?_ | intro E)
    apply n_exit
    apply b_exit
    repeat (first | refine stN ?_ | intro E)
    refine ⟨true, ⟨(fun _ => ⟨hq, rfl, rfl, ?_, ?_⟩), q_ret (.inr rfl) rfl rfl rfl rfl rfl rfl⟩⟩
    · rw [← hall, ← hm]
      exact fun i' j h1 h2 => hQ i' j h1 h2
    · intro x hx y hy
      obtain ⟨u, hu⟩ := List.getElem?_of_mem hx
      obtain ⟨v, hv⟩ := List.getElem?_of_mem hy
      have hul := (List.getElem?_eq_some_iff.1 hu).1
      refine hQ3 (u + 1) (i + v) x y (by omega) (by omega) (by omega) ?_ ?_
      · rw [hall, List.getElem?_cons_succ, List.getElem?_append_left hul]; exact hu
      · rw [hall, hm, show 1 + la.length + v = (la.length + v) + 1 by omega, List.getElem?_cons_succ, List.getElem?_append_right (by omega), Nat.add_sub_cancel_left]; exact hv
end Go.Proofs.Ythplidagfcdibaa

/- Two requests that are apart are completed in either order. Condition: the memory is valid, the requests are right. -/
namespace Go.Proofs.Ythplidagfcdibaa
open Go.Abs
/-- Bytes that are put, one after the other. -/
def puts (m : List UInt8) (W : List (Nat × List UInt8)) : List UInt8 := W.foldl (fun m w => putB m w.1 w.2) m
def InW (L : Nat) (W : List (Nat × List UInt8)) : Prop := ∀ w ∈ W, w.1 + w.2.length ≤ L
def offW (x y : Nat × List UInt8) : Prop := x.1 + x.2.length ≤ y.1 ∨ y.1 + y.2.length ≤ x.1
theorem puts_len : ∀ {W : List (Nat × List UInt8)} {m : List UInt8}, InW m.length W → (puts m W).length = m.length
  | [], _, _ => rfl
  | w :: W, m, h => by
    have e : (putB m w.1 w.2).length = m.length := putB_length (h w List.mem_cons_self)
    show (puts (putB m w.1 w.2) W).length = _
    rw [puts_len fun x hx => by rw [e]; exact h x (List.mem_cons_of_mem _ hx), e]
theorem puts_app (m : List UInt8) (A B : List (Nat × List UInt8)) : puts m (A ++ B) = puts (puts m A) B := List.foldl_append
theorem putB_comm {m : List UInt8} {x y : Nat × List UInt8} (hx : x.1 + x.2.length ≤ m.length) (hy : y.1 + y.2.length ≤ m.length) (h : offW x y) : putB (putB m x.1 x.2) y.1 y.2 = putB (putB m y.1 y.2) x.1 x.2 := by
  unfold offW at h
  apply List.ext_getElem?
  intro j
  have e1 : (putB m x.1 x.2).length = m.length := putB_length hx
  have e2 : (putB m y.1 y.2).length = m.length := putB_length hy
  rw [putB_get (bs := putB m x.1 x.2) (by omega), putB_get (bs := m) (ys := x.2) hx, putB_get (bs := putB m y.1 y.2) (by omega), putB_get (bs := m) (ys := y.2) hy]
  by_cases h1 : j < x.1 <;> by_cases h2 : j < x.1 + x.2.length <;> by_cases h3 : j < y.1 <;> by_cases h4 : j < y.1 + y.2.length <;> simp only [h1, h2, h3, h4, if_true, if_false] <;> omega
theorem puts_one {m : List UInt8} {x : Nat × List UInt8} : ∀ {W : List (Nat × List UInt8)} {m : List UInt8}, InW m.length W → x.1 + x.2.length ≤ m.length → (∀ w ∈ W, offW x w) → puts (putB m x.1 x.2) W = putB (puts m W) x.1 x.2
  | [], _, _, _, _ => rfl
  | w :: W, m, h, hx, ho => by
    have e : (putB m w.1 w.2).length = m.length := putB_length (h w List.mem_cons_self)
    show puts (putB (putB m x.1 x.2) w.1 w.2) W = putB (puts (putB m w.1 w.2) W) x.1 x.2
    rw [putB_comm hx (h w List.mem_cons_self) (ho w List.mem_cons_self)]
    exact puts_one (m := m) (fun y hy => by rw [e]; exact h y (List.mem_cons_of_mem _ hy)) (by rw [e]; exact hx) fun y hy => ho y (List.mem_cons_of_mem _ hy)
theorem puts_comm : ∀ {A B : List (Nat × List UInt8)} {m : List UInt8}, InW m.length A → InW m.length B → (∀ x ∈ A, ∀ y ∈ B, offW x y) → puts (puts m A) B = puts (puts m B) A
  | [], _, _, _, _, _ => rfl
  | x :: A, B, m, hA, hB, ho => by
    have hx := hA x List.mem_cons_self
    have e : (putB m x.1 x.2).length = m.length := putB_length hx
    show puts (puts (putB m x.1 x.2) A) B = puts (putB (puts m B) x.1 x.2) A
    rw [puts_comm (A := A) (B := B) (m := putB m x.1 x.2) (fun y hy => by rw [e]; exact hA y (List.mem_cons_of_mem _ hy)) (fun y hy => by rw [e]; exact hB y hy) fun y hy z hz => ho y (List.mem_cons_of_mem _ hy) z hz]
    rw [puts_one (m := m) hB hx (ho x List.mem_cons_self)]
/-- What is scattered. -/
def wsc (ys : List UInt8) : List Pt → Nat → List (Nat × List UInt8)
  | [], _ => []
  | p :: t, n => if p.w then (p.a, (ys.take (n + min p.n (ys.length - n))).drop n) :: wsc ys t (n + min p.n (ys.length - n)) else wsc ys t n
theorem wsc_eq {ys : List UInt8} : ∀ {t : List Pt} {m : List UInt8} {n : Nat}, (t.foldl (scS ys) (m, n)).1 = puts m (wsc ys t n)
  | [], _, _ => rfl
  | p :: t, m, n => by
    rw [List.foldl_cons]
    unfold scS wsc
    split
    · exact wsc_eq (t := t)
    · exact wsc_eq (t := t)
theorem wsc_mem {ys : List UInt8} : ∀ {t : List Pt} {n : Nat} {w : Nat × List UInt8}, w ∈ wsc ys t n → ∃ p ∈ t, p.w = true ∧ w.1 = p.a ∧ w.2.length ≤ p.n
  | [], _, _, h => by cases h
  | p :: t, n, w, h => by
    unfold wsc at h
    split at h
    · next hw =>
      rcases List.mem_cons.1 h with rfl | h
      · exact ⟨p, List.mem_cons_self, hw, rfl, by rw [List.length_drop, List.length_take]; omega⟩
      · obtain ⟨q, h1, h2⟩ := wsc_mem h
        exact ⟨q, List.mem_cons_of_mem _ h1, h2⟩
    · obtain ⟨q, h1, h2⟩ := wsc_mem h
      exact ⟨q, List.mem_cons_of_mem _ h1, h2⟩
def wmk (b w : Nat) (js : List Nat) : List (Nat × List UInt8) := js.map fun j => (b + 16 * j + 12, le4 w)
theorem wmk_eq {b w : Nat} : ∀ {js : List Nat} {m : List UInt8}, markB m b w js = puts m (wmk b w js)
  | [], _ => rfl
  | _ :: js, _ => wmk_eq (js := js)
/-- What the completion of a request puts. -/
def doneW (d : List UInt8) (b q : Nat) (w : Bool) (p : Pt) (t : List Pt) : List (Nat × List UInt8) := (if w then [] else wsc (secB d q (rm t)) t 0) ++ wmk b 3 (ix (p :: t))
theorem doneW_eq {m d : List UInt8} {b q : Nat} {w : Bool} {p : Pt} {t : List Pt} : doneM m d b q w p t = puts m (doneW d b q w p t) := by
  unfold doneM doneW
  split
  · exact wmk_eq
  · rw [puts_app, ← wmk_eq]
    congr 1
    exact wsc_eq (t := t)
theorem doneW_mem {d : List UInt8} {L D b s q : Nat} {w : Bool} {p : Pt} {t : List Pt} (hr : RN L D b s w q p t) {x : Nat × List UInt8} (hx : x ∈ doneW d b q w p t) : (∃ y ∈ p :: t, x.1 = y.a ∧ x.2.length ≤ y.n) ∨ (∃ y ∈ p :: t, x.1 = b + 16 * y.i + 12 ∧ x.2.length = 4) := by
  unfold doneW at hx
  rcases List.mem_append.1 hx with hx | hx
  · split at hx
    · cases hx
    · obtain ⟨y, h1, _, h2, h3⟩ := wsc_mem hx
      exact .inl ⟨y, List.mem_cons_of_mem _ h1, h2, h3⟩
  · obtain ⟨j, hj, rfl⟩ := List.mem_map.1 hx
    obtain ⟨y, hy, rfl⟩ := List.mem_map.1 hj
    exact .inr ⟨y, hy, rfl, rfl⟩
theorem putB_at {m : List UInt8} {x : Nat × List UInt8} {a n : Nat} (hx : x.1 + x.2.length ≤ m.length) (h : x.1 + x.2.length ≤ a ∨ a + n ≤ x.1) : ((putB m x.1 x.2).drop a).take n = (m.drop a).take n := by
  apply List.ext_getElem?
  intro i
  rw [List.getElem?_take, List.getElem?_take]
  split
  · rw [List.getElem?_drop, List.getElem?_drop, putB_get hx]
    split
    · rfl
    · rw [if_neg (by omega)]
  · rfl
theorem puts_at {a n : Nat} : ∀ {W : List (Nat × List UInt8)} {m : List UInt8}, InW m.length W → (∀ x ∈ W, x.1 + x.2.length ≤ a ∨ a + n ≤ x.1) → ((puts m W).drop a).take n = (m.drop a).take n
  | [], _, _, _ => rfl
  | x :: W, m, hW, h => by
    have hx := hW x List.mem_cons_self
    have e : (putB m x.1 x.2).length = m.length := putB_length hx
    show ((puts (putB m x.1 x.2) W).drop a).take n = _
    rw [puts_at (W := W) (fun y hy => by rw [e]; exact hW y (List.mem_cons_of_mem _ hy)) fun y hy => h y (List.mem_cons_of_mem _ hy)]
    exact putB_at hx (h x List.mem_cons_self)
theorem gath_same {m c : List UInt8} : ∀ {t : List Pt}, (∀ p ∈ t, (c.drop p.a).take p.n = (m.drop p.a).take p.n) → gath c t = gath m t
  | [], _ => rfl
  | p :: t, h => by
    have ih := gath_same (t := t) fun q hq => h q (List.mem_cons_of_mem _ hq)
    unfold gath at ih ⊢
    rw [List.flatMap_cons, List.flatMap_cons, ih]
    congr 1
    unfold rdP
    rw [h p List.mem_cons_self]
/-- What is used of two requests that are apart. -/
structure Two (b s : Nat) (la lb : List Pt) : Prop where
  ra : ∀ x ∈ la, x.a + x.n ≤ b ∨ b + 16 * s ≤ x.a
  rb : ∀ x ∈ lb, x.a + x.n ≤ b ∨ b + 16 * s ≤ x.a
  ab : ∀ x ∈ la, ∀ y ∈ lb, x.a + x.n ≤ y.a ∨ y.a + y.n ≤ x.a
  idx : ∀ x ∈ la, ∀ y ∈ lb, x.i ≠ y.i
theorem two_of {b s b' s' qa qb : Nat} {la lb : List Pt} (h : Aprt b s b' s' qa qb la lb) : Two b s la lb := by
  have hr : ∀ (i : Nat) (x : Pt), (la ++ lb)[i]? = some x → ¬ tch x (ringP b s) := by
    intro i x hx hc
    have hl := (List.getElem?_eq_some_iff.1 hx).1
    exact h.two (i + 1) 0 (by omega) (by rw [List.length_cons]; omega) ⟨x, ringP b s, by rw [List.getElem?_cons_succ]; exact hx, rfl, hc, .inr rfl⟩
  have hab : ∀ x ∈ la, ∀ y ∈ lb, ¬ tch y x := by
    intro x hx y hy hc
    obtain ⟨u, hu⟩ := List.getElem?_of_mem hx
    obtain ⟨v, hv⟩ := List.getElem?_of_mem hy
    have hul := (List.getElem?_eq_some_iff.1 hu).1
    have hvl := (List.getElem?_eq_some_iff.1 hv).1
    refine h.two (la.length + v + 1) (u + 1) (by omega) (by rw [List.length_cons, List.length_append]; omega) ⟨y, x, ?_, ?_, hc, .inl ⟨by omega, by omega⟩⟩
    · rw [List.getElem?_cons_succ, List.getElem?_append_right (by omega), Nat.add_sub_cancel_left]; exact hv
    · rw [List.getElem?_cons_succ, List.getElem?_append_left hul]; exact hu
  have hm : ∀ x ∈ la ++ lb, x.a + x.n ≤ b ∨ b + 16 * s ≤ x.a := by
    intro x hx
    obtain ⟨u, hu⟩ := List.getElem?_of_mem hx
    have := hr u x hu
    unfold tch ringP at this
    dsimp only at this
    omega
  refine ⟨fun x hx => hm x (List.mem_append_left _ hx), fun x hx => hm x (List.mem_append_right _ hx), fun x hx y hy => ?_, h.idx⟩
  have := hab x hx y hy
  unfold tch at this
  omega
theorem doneW_in {d : List UInt8} {L D b s q : Nat} {w : Bool} {p : Pt} {t : List Pt} (hc : chkN L b s = 0) (hr : RN L D b s w q p t) : InW L (doneW d b q w p t) := by
  have hb : b + 16 * s ≤ L := by
    unfold chkN at hc
    split at hc
    · next h => exact h.2.2
    · omega
  intro x hx
  rcases doneW_mem hr hx with ⟨y, hy, h1, h2⟩ | ⟨y, hy, h1, h2⟩
  · have := hr.one y hy; omega
  · have := hr.one y hy; omega
theorem doneW_off {d e : List UInt8} {L D b s q r : Nat} {w v : Bool} {p u : Pt} {t l : List Pt} (hA : RN L D b s w q p t) (hB : RN L D b s v r u l) (h : Two b s (p :: t) (u :: l)) : ∀ x ∈ doneW d b q w p t, ∀ y ∈ doneW e b r v u l, offW x y := by
  intro x hx y hy
  unfold offW
  rcases doneW_mem hA hx with ⟨x', hx', x1, x2⟩ | ⟨x', hx', x1, x2⟩ <;> rcases doneW_mem hB hy with ⟨y', hy', y1, y2⟩ | ⟨y', hy', y1, y2⟩
  · have := h.ab x' hx' y' hy'; omega
  · have := h.ra x' hx'; have := hB.one y' hy'; omega
  · have := h.rb y' hy'; have := hA.one x' hx'; omega
  · have := h.idx x' hx' y' hy'; omega
/-- What one of them reads of the memory is as the other one leaves it. -/
theorem gath_off {d m : List UInt8} {D b s q r : Nat} {w v : Bool} {p u : Pt} {t l : List Pt} (hA : RN m.length D b s w q p t) (hB : RN m.length D b s v r u l) (h1 : ∀ x ∈ p :: t, x.a + x.n ≤ b ∨ b + 16 * s ≤ x.a) (h2 : ∀ x ∈ u :: l, x.a + x.n ≤ b ∨ b + 16 * s ≤ x.a) (h3 : ∀ x ∈ p :: t, ∀ y ∈ u :: l, x.a + x.n ≤ y.a ∨ y.a + y.n ≤ x.a) : gath (doneM m d b q w p t) l = gath m l := by
  refine gath_same fun y hy => ?_
  rw [doneW_eq]
  refine puts_at (doneW_in hA.ck hA) fun x hx => ?_
  have hy' := List.mem_cons_of_mem u hy
  rcases doneW_mem hA hx with ⟨x', hx', x1, x2⟩ | ⟨x', hx', x1, x2⟩
  · have := h3 x' hx' y hy'; omega
  · have := h2 y hy'; have := hA.one x' hx'; omega
/-- A sector that another one is put beside. -/
theorem secB_ne {d Y : List UInt8} {q r n : Nat} (hY : Y.length ≤ 128) (hq : q * 128 + 128 ≤ d.length) (hn : n ≤ 128) (h : r ≠ q) : secB (putB d (q * 128) Y) r n = secB d r n := by
  unfold secB
  exact putB_at (x := (q * 128, Y)) (by dsimp only; omega) (by dsimp only; rcases Nat.lt_or_ge r q with g | g <;> omega)
theorem putB_self {m ys : List UInt8} {a : Nat} (h : a + ys.length ≤ m.length) : ((putB m a ys).drop a).take ys.length = ys := by
  have l3 : (m.take a).length = a := by rw [List.length_take]; omega
  unfold putB
  rw [List.append_assoc, List.drop_append_of_le_length (by omega), List.drop_of_length_le (by omega), List.nil_append, List.take_left]
end Go.Proofs.Ythplidagfcdibaa

/- BlockCompletesInAnyOrder: what it answers. Condition: the arguments are such as their types hold. -/
namespace Go.Proofs.Ythplidagfcdibaa
open Go.Abs
variable {k : Nat}
/-- Both orders come to the same. -/
theorem two_orders {m d : List UInt8} {D b s q r : Nat} {w v : Bool} {p u : Pt} {t l : List Pt} (hA : RN m.length D b s w q p t) (hB : RN m.length D b s v r u l) (hq : q * 128 + 128 ≤ d.length) (hr : r * 128 + 128 ≤ d.length) (hn : q ≠ r) (h : Two b s (p :: t) (u :: l)) (ht : rm t ≤ 128) (hl : rm l ≤ 128) :
    doneM (doneM m d b q w p t) (doneD m d q w t) b r v u l = doneM (doneM m d b r v u l) (doneD m d r v l) b q w p t ∧ doneD (doneM m d b q w p t) (doneD m d q w t) r v l = doneD (doneM m d b r v u l) (doneD m d r v l) q w t := by
  have g1 : gath (doneM m d b q w p t) l = gath m l := gath_off hA hB h.ra h.rb h.ab
  have g2 : gath (doneM m d b r v u l) t = gath m t := gath_off hB hA h.rb h.ra fun x hx y hy => (h.ab y hy x hx).symm
  have s1 : doneW (doneD m d q w t) b r v u l = doneW d b r v u l := by
    unfold doneW
    cases v
    · have : secB (doneD m d q w t) r (rm l) = secB d r (rm l) := by
        unfold doneD
        split
        · next hw => subst hw; exact secB_ne (gath_128 hA) hq hl (Ne.symm hn)
        · rfl
      rw [this]
    · rfl
  have s2 : doneW (doneD m d r v l) b q w p t = doneW d b q w p t := by
    unfold doneW
    cases w
    · have : secB (doneD m d r v l) q (rm t) = secB d q (rm t) := by
        unfold doneD
        split
        · next hw => subst hw; exact secB_ne (gath_128 hB) hr ht hn
        · rfl
      rw [this]
    · rfl
  refine ⟨?_, ?_⟩
  · rw [doneW_eq (m := doneM m d b q w p t), s1, doneW_eq (m := doneM m d b r v u l), s2, doneW_eq, doneW_eq]
    exact puts_comm (doneW_in hA.ck hA) (doneW_in hB.ck hB) (doneW_off hA hB h)
  · unfold doneD at g1 g2 ⊢
    cases w <;> cases v
    · rfl
    · simp only [if_true, Bool.false_eq_true, if_false] at g1 ⊢
      rw [g1]
    · simp only [if_true, Bool.false_eq_true, if_false] at g2 ⊢
      rw [g2]
    · simp only [if_true] at g1 g2 ⊢
      rw [g1, g2]
      have e1 := gath_128 hA
      have e2 := gath_128 hB
      exact putB_comm (x := (q * 128, gath m t)) (y := (r * 128, gath m l)) (by dsimp only; omega) (by dsimp only; omega) (by unfold offW; dsimp only; rcases Nat.lt_or_ge q r with g | g <;> omega)
theorem rm_128 {L D b s q : Nat} {w : Bool} {p : Pt} {t : List Pt} (hr : RN L D b s w q p t) : rm t ≤ 128 := by
  cases w
  · have h1 : ∀ x ∈ t, x.w = true := fun x hx => hr.dir x hx
    have e := rm_sum (n := 0) h1
    have h2 := hr.sum
    have h3 : ((rm t : Nat) : Int) = smI (t.map Pt.toI) := e
    omega
  · have h1 : ∀ x ∈ t, x.w = false := fun x hx => hr.dir x hx
    have : rm t = 0 := by
      unfold rm
      have key : ∀ (l : List Pt) (n : Nat), (∀ x ∈ l, x.w = false) → l.foldl rmS n = n := by
        intro l
        induction l with
        | nil => intro n _; rfl
        | cons x l ih =>
          intro n h
          rw [List.foldl_cons, show rmS n x = n from by unfold rmS; rw [h x List.mem_cons_self]; rfl]
          exact ih n fun y hy => h y (List.mem_cons_of_mem _ hy)
      exact key t 0 h1
    omega
set_option maxRecDepth 100000 in
set_option maxHeartbeats 8000000 in
theorem s6 {x : BI} {m : List UInt8} {p0 : Nat} (hp : m.length = 128 * p0) (hx : Raw x) : Calls0 (evCall FN (k + 20000)) 6 [biV x, memV m] (.bool true) := by
  have c11 : Calls0 (evCall FN (k + 19999)) 11 [] (.bool true) := s11.fuel (k := 300) (by omega)
  have c20 : Calls0 (evCall FN (k + 19999)) 20 [biV x, memV m] (.bool (smallB m x)) := s20 (k := k + 19299) hp hx.hb hx.hs hx.hr
  refine q_call0 fn6 fun T H E lv => ?_
  by_cases hS : FewP m x ∧ VM m ∧ ValidP m.length x
  · rw [smallB_t hS] at c20
    obtain ⟨_, hm, hV⟩ := hS
    obtain ⟨b0, s0, at', st, d, f⟩ := x
    obtain ⟨a, rfl, hR⟩ := rt_of hm hx.hb hx.hs hx.hd hV
    have dv1 := ris_div f
    have hml := hm.le
    have hdm : d.length % 128 = 0 := hR.hd
    by_cases hf : f.length < 2
    · dsimp only [biV, biC] at c20 ⊢
      repeat (first | refine stN ?_ | intro E)
      exact q_ret (.inr rfl) rfl rfl rfl rfl rfl rfl
    · obtain ⟨A, B, f, rfl⟩ : ∃ A B f', f = A :: B :: f' := by
        rcases f with _ | ⟨A, _ | ⟨B, f⟩⟩
        · simp at hf
        · simp at hf
        · exact ⟨A, B, f, rfl⟩
      clear hf
      have hfl : (A :: B :: f).length = f.length + 2 := rfl
      obtain ⟨q, p, t, eA, hA⟩ := right_nat (hR.right (r := A) List.mem_cons_self)
      obtain ⟨r, u, l, eB, hB⟩ := right_nat (hR.right (r := B) (List.mem_cons_of_mem _ List.mem_cons_self))
      obtain ⟨g1, g2⟩ := right_bs hml.1 (hR.right (r := A) List.mem_cons_self)
      obtain ⟨b, s, qa, w, pa⟩ := A
      obtain ⟨b', s', qb, v, pb⟩ := B
      dsimp only at eA eB hA hB g1 g2
      obtain ⟨r', hr', c24⟩ := s24 (k := k + 19799) (b := b) (s := s) (b' := b') (s' := s') (qa := q) (qb := r) (wa := w) (wb := v) (la := p :: t) (lb := u :: l) g1 g2 (fun y hy => by
        rcases List.mem_append.1 hy with hy | hy
        · have := hA.one y hy; omega
        · have := hB.one y hy; omega) (by have := hA.len; simp only [List.length_cons]; omega) (by have := hB.len; simp only [List.length_cons]; omega)
      rw [eA, eB] at c20 hR dv1 ⊢
      have gi0 : inB 0 ((risV (⟨b, s, q, w, (p :: t).map Pt.toI⟩ :: ⟨b', s', r, v, (u :: l).map Pt.toI⟩ :: f)).length / 5) = some 0 := inB_n (a := 0) (by rw [dv1]; simp)
      have gi1 : inB 1 ((risV (⟨b, s, q, w, (p :: t).map Pt.toI⟩ :: ⟨b', s', r, v, (u :: l).map Pt.toI⟩ :: f)).length / 5) = some 1 := inB_n (a := 1) (by rw [dv1]; simp)
      have r0 : rd (risV (⟨b, s, q, w, (p :: t).map Pt.toI⟩ :: ⟨b', s', r, v, (u :: l).map Pt.toI⟩ :: f)) (0 * 5) 5 true = some (.agg [.int .u32 b, .int .u32 s, .int .i64 q, .bool w, csl 4 (ptsV (p :: t))]) := by
        rw [← pis_of]; exact fm_agg (f := riV) (l := ⟨b, s, q, w, (p :: t).map Pt.toI⟩ :: ⟨b', s', r, v, (u :: l).map Pt.toI⟩ :: f) riV_length (p := ⟨b, s, q, w, (p :: t).map Pt.toI⟩) (j := 0) rfl
      have r1 : rd (risV (⟨b, s, q, w, (p :: t).map Pt.toI⟩ :: ⟨b', s', r, v, (u :: l).map Pt.toI⟩ :: f)) (1 * 5) 5 true = some (.agg [.int .u32 b', .int .u32 s', .int .i64 r, .bool v, csl 4 (ptsV (u :: l))]) := by
        rw [← pis_of]; exact fm_agg (f := riV) (l := ⟨b, s, q, w, (p :: t).map Pt.toI⟩ :: ⟨b', s', r, v, (u :: l).map Pt.toI⟩ :: f) riV_length (p := ⟨b', s', r, v, (u :: l).map Pt.toI⟩) (j := 1) rfl
      have hlen2 : 2 ≤ (risV (⟨b, s, q, w, (p :: t).map Pt.toI⟩ :: ⟨b', s', r, v, (u :: l).map Pt.toI⟩ :: f)).length / 5 := by rw [dv1]; simp
      cases r'
      · dsimp only [biV, biC] at c20 ⊢
        generalize risV (⟨b, s, q, w, (p :: t).map Pt.toI⟩ :: ⟨b', s', r, v, (u :: l).map Pt.toI⟩ :: f) = F at *
        repeat (first | refine stN ?_ | intro E)
        exact q_ret (.inr rfl) rfl rfl rfl rfl rfl rfl
      · have hap := hr' rfl
        obtain rfl := hap.hb
        obtain rfl := hap.hs
        have hT := two_of hap
        have hqd : q * 128 + 128 ≤ d.length := by have := hA.q; rw [List.length_map] at this; omega
        have hrd : r * 128 + 128 ≤ d.length := by have := hB.q; rw [List.length_map] at this; omega
        obtain ⟨o1, o2⟩ := two_orders (d := d) hA hB hqd hrd hap.q hT (rm_128 hA) (rm_128 hB)
        obtain ⟨a1, _, a3⟩ := hR.done (j := 0) rfl hA
        obtain ⟨b1, _, b3⟩ := hR.done (j := 1) rfl hB
        have lA := doneM_len (d := d) hm hA
        have lB := doneM_len (d := d) hm hB
        have dA := doneD_len hA hqd
        have dB := doneD_len hB hrd
        obtain ⟨a4, _, a6⟩ := a3.done (j := 0) (w := v) (b := b) (s := s) (q := r) (p := u) (t := l) rfl (by rw [lA, show ((doneD m d q w t).map ofB).length = (d.map ofB).length from by rw [List.length_map, List.length_map, dA]]; exact hB)
        obtain ⟨b4, _, b6⟩ := b3.done (j := 0) (w := w) (b := b) (s := s) (q := q) (p := p) (t := t) rfl (by rw [lB, show ((doneD m d r v l).map ofB).length = (d.map ofB).length from by rw [List.length_map, List.length_map, dB]]; exact hA)
        rw [← o1, ← o2] at b4
        have e1 := a1 (k + 9199)
        have e2 := a4 (k + 9199)
        have e3 := b1 (k + 9199)
        have e4 := b4 (k + 9199)
        have c18 : Calls0 (evCall FN (k + 19999)) 18 [biV _, biV _] (.bool true) := s18 (k := k + 14698) a6.sml
        have c25 : Calls0 (evCall FN (k + 19999)) 25 [memV _, memV _] (.bool true) := (s25t (k := 0) a6.vm).fuel (by omega)
        have f2 : offL (offL (⟨b, s, q, w, (p :: t).map Pt.toI⟩ :: ⟨b, s, r, v, (u :: l).map Pt.toI⟩ :: f) 0) 0 = f := rfl
        have f4 : offL (offL (⟨b, s, q, w, (p :: t).map Pt.toI⟩ :: ⟨b, s, r, v, (u :: l).map Pt.toI⟩ :: f) 1) 0 = f := rfl
        rw [f2] at e2 c18
        rw [f4] at e4
        generalize offL (⟨b, s, q, w, (p :: t).map Pt.toI⟩ :: ⟨b, s, r, v, (u :: l).map Pt.toI⟩ :: f) 0 = f1 at e1 e2
        generalize offL (⟨b, s, q, w, (p :: t).map Pt.toI⟩ :: ⟨b, s, r, v, (u :: l).map Pt.toI⟩ :: f) 1 = f3 at e3 e4
        generalize doneM (doneM m d b q w p t) (doneD m d q w t) b r v u l = M2 at e2 e4 c25
        generalize doneD (doneM m d b q w p t) (doneD m d q w t) r v l = D2 at e2 e4 c18
        generalize doneM m d b q w p t = M1 at e1 e2
        generalize doneD m d q w t = D1 at e1 e2
        generalize doneM m d b r v u l = M3 at e3 e4
        generalize doneD m d r v l = D3 at e3 e4
        dsimp only [biV, biC, diV, diC] at c20 c18 e1 e2 e3 e4 ⊢
        generalize risV (⟨b, s, q, w, (p :: t).map Pt.toI⟩ :: ⟨b, s, r, v, (u :: l).map Pt.toI⟩ :: f) = F at *
        repeat (first | refine stN ?_ | intro E)
        exact q_ret (.inr rfl) rfl rfl rfl rfl rfl rfl
  · rw [smallB_f hS] at c20
    dsimp only [biV, biC] at c20 ⊢
    repeat (first | refine stN ?_ | intro E)
    exact q_ret (.inr rfl) rfl rfl rfl rfl rfl rfl
end Go.Proofs.Ythplidagfcdibaa
