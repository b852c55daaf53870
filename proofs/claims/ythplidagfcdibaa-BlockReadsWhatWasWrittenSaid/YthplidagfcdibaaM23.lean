/- Part 23 of the texts on which proofs about this seat rest: each says what it proves at its own head. No condition. -/
import Derived.Test.YthplidagfcdibaaM22
set_option linter.unusedVariables false
set_option linter.unusedSimpArgs false
/- Two requests that are apart, as a law asks it. Condition: the numbers of the requests are natural ones. -/
namespace Go.Proofs.Ythplidagfcdibaa
open Go.Abs
variable {k : Nat}
/-- Two parts have a common byte. -/
def tch (x y : Pt) : Prop := x.a < y.a + y.n ∧ y.a < x.a + x.n
def ringP (b s : Nat) : Pt := ⟨0, b, 16 * s, false⟩
/-- What is refused of the parts i and j. -/
def badP (all : List Pt) (mine i j : Nat) : Prop := ∃ x y, all[i]? = some x ∧ all[j]? = some y ∧ tch x y ∧ ((mine ≤ i ∧ j < mine) ∨ j = 0)
structure Aprt (b s b' s' qa qb : Nat) (la lb : List Pt) : Prop where
  q : qa ≠ qb
  hb : b = b'
  hs : s = s'
  two : ∀ i j, j < i → i < (ringP b s :: (la ++ lb)).length → ¬ badP (ringP b s :: (la ++ lb)) (1 + la.length) i j
  idx : ∀ x ∈ la, ∀ y ∈ lb, x.i ≠ y.i
theorem pts_app (a b : List Pt) : ptsV (a ++ b) = ptsV a ++ ptsV b := by simp [ptsV]
set_option maxRecDepth 100000 in
set_option maxHeartbeats 8000000 in
theorem s24 {b s b' s' qa qb : Nat} {wa wb : Bool} {la lb : List Pt} (hb : b < 4294967296) (hs : s < 4294967296) (h1 : ∀ x ∈ la ++ lb, x.a < 4294967296 ∧ x.n < 4294967296) (ha : la.length ≤ 10) (hlb : lb.length ≤ 10) :
    ∃ r : Bool, (r = true → Aprt b s b' s' qa qb la lb) ∧ Calls0 (evCall FN (k + 200)) 24 [.agg [.int .u32 b, .int .u32 s, .int .i64 qa, .bool wa, csl 4 (ptsV la)], .agg [.int .u32 b', .int .u32 s', .int .i64 qb, .bool wb, csl 4 (ptsV lb)]] (.bool r) := by
  refine q_callE (R := fun r => AV.bool r) fn24 fun T H E lv => ?_
  have dva := pts_div la
  have dvb := pts_div lb
  by_cases hq : qa = qb
  · repeat (first | refine stN ?_ | intro E)
    exact ⟨false, ⟨(fun h => by cases h), q_ret (.inr rfl) rfl rfl rfl rfl rfl rfl⟩⟩
  have hq2 : (qa : Int) ≠ qb := by omega
  repeat (first | refine stN ?_ | intro E)
  have e0 : [AV.int .i64 0, .int .i64 b, .int .i64 ((16 * s : Nat) : Int), .bool false] = ptsV [ringP b s] := rfl
  -- the parts of the first one
  refine q_loop (α := Nat × Nat) (LInv.mk (fun p => p.1 ≤ la.length) (fun p => la.length - p.1)
    (fun p => [(6, .int .i64 (p.1 : Int)), (5, .sl p.2 4 (ptsV (ringP b s :: la.take p.1))), (4, .bool false), (3, .ref 1 0), (2, .ref 0 0)])
    (fun _ => [(1, [.int .u32 b', .int .u32 s', .int .i64 qb, .bool wb, csl 4 (ptsV lb)]), (0, [.int .u32 b, .int .u32 s, .int .i64 qa, .bool wa, csl 4 (ptsV la)])]))
    (fun p lv c => 4 ≤ c ∧ Own3 lv c p.2) (0, 3) (Nat.zero_le _) ⟨Nat.le_refl _, .three⟩ (show la.length - 0 < k + 199 by omega) ⟨rfl, rfl, rfl, rfl, rfl, trivial⟩ ⟨rfl, rfl, trivial⟩ ?_
  rintro ⟨i, br⟩ lv c T H E hP ⟨hc4, hL⟩ hμ
  have hP : i ≤ la.length := hP
  clear hμ
  dsimp only at hL ⊢
  rcases Nat.lt_or_ge i la.length with hi | hi
  · obtain ⟨x, hx⟩ : ∃ x, la[i]? = some x := ⟨_, List.getElem?_eq_getElem hi⟩
    have hr : rd (ptsV la) (i * 4) 4 true = some (.agg [.int .i64 x.i, .int .i64 x.a, .int .i64 x.n, .bool x.w]) := rd_pt hx
    have gi : inB (i : Int) ((ptsV la).length / 4) = some i := inB_n (by omega)
    have ex : ptsV (ringP b s :: la.take i) ++ [.int .i64 x.i, .int .i64 x.a, .int .i64 x.n, .bool x.w] = ptsV (ringP b s :: la.take (i + 1)) := by
      have e : la.take (i + 1) = la.take i ++ [x] := by rw [List.take_add_one, hx]; rfl
      rw [e, show ringP b s :: (la.take i ++ [x]) = (ringP b s :: la.take i) ++ [x] from rfl, pts_app]; rfl
    repeat (first | refine stN ?_ | intro E)
    apply p_appX
    · exact rfl
    · exact rfl
    · exact fun H => rfl
    · exact ⟨by omega, by omega⟩
    · rw [pts_length, List.length_cons, List.length_take, room_val]; simp only [List.length_cons, List.length_nil]; omega
    · exact hL
    · omega
    intro br1 lv1 c1 g1 g2 g3
    rw [ex]
    repeat (first | refine stN ?_ | intro E)
    exact n_again (i + 1, br1) (show i + 1 ≤ la.length by omega) ⟨by omega, g2⟩ (show la.length - (i + 1) < la.length - i by omega) ⟨rfl, rfl, rfl, rfl, rfl, trivial⟩ ⟨⟨rfl, rfl⟩, ⟨rfl, rfl⟩, trivial⟩
  obtain rfl : i = la.length := by omega
  rw [List.take_length]
  repeat (first | refine stN ?_ | intro E)
  apply n_exit
  apply b_exit
  repeat (first | refine stN ?_ | intro E)
  have dv1 : (ptsV (ringP b s :: la)).length / 4 = 1 + la.length := by rw [pts_div, List.length_cons]; omega
  rw [dv1]
  -- .. and of the other one
  refine q_loop (α := Nat × Nat) (LInv.mk (fun p => p.1 ≤ lb.length) (fun p => lb.length - p.1)
    (fun p => [(8, .int .i64 (p.1 : Int)), (7, .int .i64 ((1 + la.length : Nat) : Int)), (5, .sl p.2 4 (ptsV (ringP b s :: (la ++ lb.take p.1)))), (4, .bool false), (3, .ref 1 0), (2, .ref 0 0)])
    (fun _ => [(1, [.int .u32 b', .int .u32 s', .int .i64 qb, .bool wb, csl 4 (ptsV lb)]), (0, [.int .u32 b, .int .u32 s, .int .i64 qa, .bool wa, csl 4 (ptsV la)])]))
    (fun p lv c => 4 ≤ c ∧ Own3 lv c p.2) (0, br) (Nat.zero_le _) ⟨hc4, hL⟩ (show lb.length - 0 < k + 199 by omega) ⟨rfl, rfl, by simp; rfl, rfl, rfl, rfl, trivial⟩ ⟨rfl, rfl, trivial⟩ ?_
  clear hL hc4
  rintro ⟨i, br⟩ lv c T H E hP ⟨hc4, hL⟩ hμ
  have hP : i ≤ lb.length := hP
  clear hμ
  dsimp only at hL ⊢
  rcases Nat.lt_or_ge i lb.length with hi | hi
  · obtain ⟨x, hx⟩ : ∃ x, lb[i]? = some x := ⟨_, List.getElem?_eq_getElem hi⟩
    have hr : rd (ptsV lb) (i * 4) 4 true = some (.agg [.int .i64 x.i, .int .i64 x.a, .int .i64 x.n, .bool x.w]) := rd_pt hx
    have gi : inB (i : Int) ((ptsV lb).length / 4) = some i := inB_n (by omega)
    have ex : ptsV (ringP b s :: (la ++ lb.take i)) ++ [.int .i64 x.i, .int .i64 x.a, .int .i64 x.n, .bool x.w] = ptsV (ringP b s :: (la ++ lb.take (i + 1))) := by
      have e : lb.take (i + 1) = lb.take i ++ [x] := by rw [List.take_add_one, hx]; rfl
      rw [e, ← List.append_assoc, show ringP b s :: (la ++ lb.take i ++ [x]) = (ringP b s :: (la ++ lb.take i)) ++ [x] from rfl, pts_app]; rfl
    repeat (first | refine stN ?_ | intro E)
    apply p_appX
    · exact rfl
    · exact rfl
    · exact fun H => rfl
    · exact ⟨by omega, by omega⟩
    · rw [pts_length, List.length_cons, List.length_append, List.length_take, room_val]; simp only [List.length_cons, List.length_nil]; omega
    · exact hL
    · omega
    intro br1 lv1 c1 g1 g2 g3
    rw [ex]
    repeat (first | refine stN ?_ | intro E)
    exact n_again (i + 1, br1) (show i + 1 ≤ lb.length by omega) ⟨by omega, g2⟩ (show lb.length - (i + 1) < lb.length - i by omega) ⟨rfl, rfl, rfl, rfl, rfl, rfl, trivial⟩ ⟨⟨rfl, rfl⟩, ⟨rfl, rfl⟩, trivial⟩
  obtain rfl : i = lb.length := by omega
  rw [List.take_length]
  repeat (first | refine stN ?_ | intro E)
  apply n_exit
  apply b_exit
  repeat (first | refine stN ?_ | intro E)
  by_cases hr : b = b' ∧ s = s'
  case neg =>
    apply p_eqA
    · exact rfl
    · exact rfl
    · show eqKs [0, 0] [.int .u32 b', .int .u32 s'] [.int .u32 b, .int .u32 s] = some false
      have : ¬ ((b' : Int) = b ∧ (s' : Int) = s) := fun h => hr ⟨by omega, by omega⟩
      by_cases h1 : (b' : Int) = b
      · have h2 : (s' : Int) ≠ s := fun h => this ⟨h1, h⟩
        simp [eqKs, eqK, h1, h2]
      · simp [eqKs, eqK, h1]
    repeat (first | refine stN ?_ | intro E)
    exact ⟨false, ⟨(fun h => by cases h), q_ret (.inr rfl) rfl rfl rfl rfl rfl rfl⟩⟩
  obtain ⟨rfl, rfl⟩ := hr
  apply p_eqA
  · exact rfl
  · exact rfl
  · show eqKs [0, 0] [.int .u32 b, .int .u32 s] [.int .u32 b, .int .u32 s] = some true
    simp [eqKs, eqK]
  repeat (first | refine stN ?_ | intro E)
  obtain ⟨all, hall⟩ : ∃ all, all = ringP b s :: (la ++ lb) := ⟨_, rfl⟩
  have hal : all.length = 1 + la.length + lb.length := by rw [hall, List.length_cons, List.length_append]; omega
  have hab : ∀ x ∈ all, x.a < 4294967296 ∧ x.n < 68719476736 ∧ True := by
    intro x hx
    rw [hall] at hx
    rcases List.mem_cons.1 hx with rfl | hx
    · exact ⟨hb, by show 16 * s < _; omega, trivial⟩
    · have := h1 x hx; exact ⟨this.1, by omega, trivial⟩
  rw [← hall]
  have dvl := pts_div all
  obtain ⟨mine, hm⟩ : ∃ mine, mine = 1 + la.length := ⟨_, rfl⟩
  rw [← hm]
  -- pairs
  refine q_loop (α := Nat) (LInv.mk (fun i => i ≤ all.length ∧ ∀ i' j, j < i' → i' < i → ¬ badP all mine i' j) (fun i => all.length - i)
    (fun i => [(9, .int .i64 (i : Int)), (7, .int .i64 (mine : Int)), (5, .sl br 4 (ptsV all)), (4, .bool false)]) (fun _ => []))
    (fun _ lv c => True) 0 ⟨Nat.zero_le _, fun i' j h1 h2 => by omega⟩ trivial (show all.length - 0 < k + 199 by omega) ⟨rfl, rfl, rfl, rfl, trivial⟩ trivial ?_
  rintro i lv2 c2 T H E ⟨hP, hQ⟩ _ hμ
  have hP : i ≤ all.length := hP
  clear hμ
  dsimp only at hQ ⊢
  rcases Nat.lt_or_ge i all.length with hi | hi
  · repeat (first | refine stN ?_ | intro E)
    refine q_loop (α := Nat) (LInv.mk (fun j => j ≤ i ∧ ∀ j', j' < j → ¬ badP all mine i j') (fun j => i - j)
      (fun j => [(10, .int .i64 (j : Int)), (9, .int .i64 (i : Int)), (7, .int .i64 (mine : Int)), (5, .sl br 4 (ptsV all)), (4, .bool false)]) (fun _ => []))
      (fun _ lv c => True) 0 ⟨Nat.zero_le _, fun j h => by omega⟩ trivial (show i - 0 < k + 199 by omega) ⟨rfl, rfl, rfl, rfl, rfl, trivial⟩ trivial ?_
    rintro j lv3 c3 T H E ⟨hP2, hQ2⟩ _ hμ
    have hP2 : j ≤ i := hP2
    clear hμ
    dsimp only at hQ2 ⊢
    rcases Nat.lt_or_ge j i with hj | hj
    · obtain ⟨x, hx⟩ : ∃ x, all[i]? = some x := ⟨_, List.getElem?_eq_getElem hi⟩
      obtain ⟨y, hy⟩ : ∃ y, all[j]? = some y := ⟨_, List.getElem?_eq_getElem (by omega)⟩
      have x1 := rd_pt1 hx
      have x2 := rd_pt2 hx
      have y1 := rd_pt1 hy
      have y2 := rd_pt2 hy
      have bx := hab x (List.mem_of_getElem? hx)
      have bY := hab y (List.mem_of_getElem? hy)
      have gi : inB (i : Int) ((ptsV all).length / 4) = some i := inB_n (by omega)
      have gj : inB (j : Int) ((ptsV all).length / 4) = some j := inB_n (by omega)
      have again : ¬ badP all mine i j → ∀ j', j' < j + 1 → ¬ badP all mine i j' := by
        intro h j' hj'
        rcases Nat.lt_or_ge j' j with h2 | h2
        · exact hQ2 j' h2
        · obtain rfl : j' = j := by omega
          exact h
      obtain ⟨xi, xa, xn, xw⟩ := x
      obtain ⟨yi, ya, yn, yw⟩ := y
      dsimp only at x1 x2 y1 y2 bx bY
      have hbad : badP all mine i j ↔ (xa < ya + yn ∧ ya < xa + xn) ∧ ((mine ≤ i ∧ j < mine) ∨ j = 0) := by
        constructor
        · rintro ⟨x', y', e1, e2, h3, h4⟩
          rw [hx, Option.some.injEq] at e1
          rw [hy, Option.some.injEq] at e2
          subst e1 e2
          exact ⟨h3, h4⟩
        · rintro ⟨h3, h4⟩
          exact ⟨_, _, hx, hy, h3, h4⟩
      obtain t1 | ⟨t1, t2⟩ | ⟨t1, t2, t3, t4⟩ | ⟨t1, t2, t3, t4⟩ | ⟨t1, t2, t3, t4⟩ | ⟨t1, t2, t3, t4⟩ : (ya + yn ≤ xa) ∨ (xa < ya + yn ∧ xa + xn ≤ ya) ∨ (xa < ya + yn ∧ ya < xa + xn ∧ i < mine ∧ j ≠ 0) ∨ (xa < ya + yn ∧ ya < xa + xn ∧ i < mine ∧ j = 0) ∨ (xa < ya + yn ∧ ya < xa + xn ∧ mine ≤ i ∧ j < mine) ∨ (xa < ya + yn ∧ ya < xa + xn ∧ mine ≤ i ∧ mine ≤ j) := by omega
      · repeat (first | refine stN ?_ | intro E)
        exact n_again (j + 1) ⟨show j + 1 ≤ i by omega, again (by rw [hbad]; omega)⟩ trivial (show i - (j + 1) < i - j by omega) ⟨rfl, rfl, rfl, rfl, rfl, trivial⟩ trivial
      · repeat (first | refine stN ?_ | intro E)
        exact n_again (j + 1) ⟨show j + 1 ≤ i by omega, again (by rw [hbad]; omega)⟩ trivial (show i - (j + 1) < i - j by omega) ⟨rfl, rfl, rfl, rfl, rfl, trivial⟩ trivial
      · repeat (first | refine stN ?_ | intro E)
        exact n_again (j + 1) ⟨show j + 1 ≤ i by omega, again (by rw [hbad]; omega)⟩ trivial (show i - (j + 1) < i - j by omega) ⟨rfl, rfl, rfl, rfl, rfl, trivial⟩ trivial
      · repeat (first | refine stN ?_ | intro E)
        apply n_ret
        repeat (first | refine stN ?_ | intro E)
        apply n_ret
        repeat (first | refine stN ?_ | intro E)
        exact ⟨false, ⟨(fun h => by cases h), q_ret (.inr rfl) rfl rfl rfl rfl rfl rfl⟩⟩
      · repeat (first | refine stN ?_ | intro E)
        apply n_ret
        repeat (first | refine stN ?_ | intro E)
        apply n_ret
        repeat (first | refine stN ?_ | intro E)
        exact ⟨false, ⟨(fun h => by cases h), q_ret (.inr rfl) rfl rfl rfl rfl rfl rfl⟩⟩
      · repeat (first | refine stN ?_ | intro E)
        exact n_again (j + 1) ⟨show j + 1 ≤ i by omega, again (by rw [hbad]; omega)⟩ trivial (show i - (j + 1) < i - j by omega) ⟨rfl, rfl, rfl, rfl, rfl, trivial⟩ trivial
    · obtain rfl : j = i := by omega
      repeat (first | refine stN ?_ | intro E)
      apply n_exit
      apply b_exit
      repeat (first | refine stN ?_ | intro E)
      refine n_again (j + 1) ⟨show j + 1 ≤ all.length by omega, fun i' j' h1 h2 => ?_⟩ trivial (show all.length - (j + 1) < all.length - j by omega) ⟨rfl, rfl, rfl, rfl, trivial⟩ trivial
      rcases Nat.lt_or_ge i' j with h3 | h3
      · exact hQ i' j' h1 h3
      · obtain rfl : i' = j := by omega
        exact hQ2 j' h1
  obtain rfl : i = all.length := by omega
  repeat (first | refine stN ?_ | intro E)
  apply n_exit
  apply b_exit
  repeat (first | refine stN ?_ | intro E)
  -- indices
  have hno : ∀ i j x y, 1 ≤ i → i < mine → mine ≤ j → all[i]? = some x → all[j]? = some y → x ∈ la ∧ y ∈ lb := by
    intro i j x y h1 h2 h3 h4 h5
    rw [hall] at h4 h5
    rw [List.getElem?_cons, if_neg (by omega), List.getElem?_append_left (by omega)] at h4
    rw [List.getElem?_cons, if_neg (by omega), List.getElem?_append_right (by omega)] at h5
    exact ⟨List.mem_of_getElem? h4, List.mem_of_getElem? h5⟩
  refine q_loop (α := Nat) (LInv.mk (fun i => 1 ≤ i ∧ i ≤ mine ∧ ∀ i' j x y, 1 ≤ i' → i' < i → mine ≤ j → all[i']? = some x → all[j]? = some y → x.i ≠ y.i) (fun i => mine - i)
    (fun i => [(12, .int .i64 (i : Int)), (7, .int .i64 (mine : Int)), (5, .sl br 4 (ptsV all)), (4, .bool false)]) (fun _ => []))
    (fun _ lv c => True) 1 ⟨Nat.le_refl _, by omega, fun i' j x y h1 h2 => by omega⟩ trivial (show mine - 1 < k + 199 by omega) ⟨rfl, rfl, rfl, rfl, trivial⟩ trivial ?_
  rintro i lv2 c2 T H E ⟨hP1, hP, hQ3⟩ _ hμ
  have hP1 : 1 ≤ i := hP1
  have hP : i ≤ mine := hP
  clear hμ
  dsimp only at hQ3 ⊢
  rcases Nat.lt_or_ge i mine with hi | hi
  · repeat (first | refine stN ?_ | intro E)
    obtain ⟨x, hx⟩ : ∃ x, all[i]? = some x := ⟨_, List.getElem?_eq_getElem (by omega)⟩
    refine q_loop (α := Nat) (LInv.mk (fun j => mine ≤ j ∧ j ≤ all.length ∧ ∀ j' y, mine ≤ j' → j' < j → all[j']? = some y → x.i ≠ y.i) (fun j => all.length - j)
      (fun j => [(13, .int .i64 (j : Int)), (12, .int .i64 (i : Int)), (7, .int .i64 (mine : Int)), (5, .sl br 4 (ptsV all)), (4, .bool false)]) (fun _ => []))
      (fun _ lv c => True) mine ⟨Nat.le_refl _, by omega, fun j' y h1 h2 => by omega⟩ trivial (show all.length - mine < k + 199 by omega) ⟨rfl, rfl, rfl, rfl, rfl, trivial⟩ trivial ?_
    rintro j lv3 c3 T H E ⟨hP2, hP3, hQ2⟩ _ hμ
    have hP2 : mine ≤ j := hP2
    have hP3 : j ≤ all.length := hP3
    clear hμ
    dsimp only at hQ2 ⊢
    rcases Nat.lt_or_ge j all.length with hj | hj
    · obtain ⟨y, hy⟩ : ∃ y, all[j]? = some y := ⟨_, List.getElem?_eq_getElem hj⟩
      have x0 := rd_pt0 hx
      have y0 := rd_pt0 hy
      have gi : inB (i : Int) ((ptsV all).length / 4) = some i := inB_n (by omega)
      have gj : inB (j : Int) ((ptsV all).length / 4) = some j := inB_n (by omega)
      obtain ⟨xi, xa, xn, xw⟩ := x
      obtain ⟨yi, ya, yn, yw⟩ := y
      dsimp only at x0 y0 hQ2
      by_cases he : xi = yi
      · repeat (first | refine stN ?_ | intro E)
        apply n_ret
        repeat (first | refine stN ?_ | intro E)
        apply n_ret
        repeat (first | refine stN ?_ | intro E)
        exact ⟨false, ⟨(fun h => by cases h), q_ret (.inr rfl) rfl rfl rfl rfl rfl rfl⟩⟩
      · have he2 : (xi : Int) ≠ yi := by omega
        repeat (first | refine stN ?_ | intro E)
        refine n_again (j + 1) ⟨show mine ≤ j + 1 by omega, show j + 1 ≤ all.length by omega, fun j' y' h1 h2 h3 => ?_⟩ trivial (show all.length - (j + 1) < all.length - j by omega) ⟨rfl, rfl, rfl, rfl, rfl, trivial⟩ trivial
        rcases Nat.lt_or_ge j' j with h4 | h4
        · exact hQ2 j' y' h1 h4 h3
        · obtain rfl : j' = j := by omega
          rw [hy, Option.some.injEq] at h3
          subst h3; exact he
    · obtain rfl : j = all.length := by omega
      repeat (first | refine stN ?_ | intro E)
      apply n_exit
      apply b_exit
      repeat (first | refine stN ?_ | intro E)
      refine n_again (i + 1) ⟨show 1 ≤ i + 1 by omega, show i + 1 ≤ mine by omega, fun i' j' x' y' h1 h2 h3 h4 h5 => ?_⟩ trivial (show mine - (i + 1) < mine - i by omega) ⟨rfl, rfl, rfl, rfl, trivial⟩ trivial
      rcases Nat.lt_or_ge i' i with h6 | h6
      · exact hQ3 i' j' x' y' h1 h6 h3 h4 h5
      · obtain rfl : i' = i := by omega
        rw [hx, Option.some.injEq] at h4
        subst h4
        exact hQ2 j' y' h3 (List.getElem?_eq_some_iff.1 h5).1 h5
  · obtain rfl : i = mine := by omega
    repeat (first | refine stN ?_ | intro E)
    apply n_exit
    apply b_exit
    repeat (first | refine stN ?_ | intro E)
    refine ⟨true, ⟨(fun _ => ⟨hq, rfl, rfl, ?_, ?_⟩), q_ret (.inr rfl) rfl rfl rfl rfl rfl rfl⟩⟩
    · rw [← hall, ← hm]
      exact fun i' j h1 h2 => hQ i' j h1 h2
    · intro x hx y hy
      obtain ⟨u, hu⟩ := List.getElem?_of_mem hx
      obtain ⟨v, hv⟩ := List.getElem?_of_mem hy
      have hul := (List.getElem?_eq_some_iff.1 hu).1
      refine hQ3 (u + 1) (i + v) x y (by omega) (by omega) (by omega) ?_ ?_
      · rw [hall, List.getElem?_cons_succ, List.getElem?_append_left hul]; exact hu
      · rw [hall, hm, show 1 + la.length + v = (la.length + v) + 1 by omega, List.getElem?_cons_succ, List.getElem?_append_right (by omega), Nat.add_sub_cancel_left]; exact hv
end Go.Proofs.Ythplidagfcdibaa

/- Two requests that are apart are completed in either order. Condition: the memory is valid, the requests are right. -/
namespace Go.Proofs.Ythplidagfcdibaa
open Go.Abs
/-- Bytes that are put, one after the other. -/
def puts (m : List UInt8) (W : List (Nat × List UInt8)) : List UInt8 := W.foldl (fun m w => putB m w.1 w.2) m
def InW (L : Nat) (W : List (Nat × List UInt8)) : Prop := ∀ w ∈ W, w.1 + w.2.length ≤ L
def offW (x y : Nat × List UInt8) : Prop := x.1 + x.2.length ≤ y.1 ∨ y.1 + y.2.length ≤ x.1
theorem puts_len : ∀ {W : List (Nat × List UInt8)} {m : List UInt8}, InW m.length W → (puts m W).length = m.length
  | [], _, _ => rfl
  | w :: W, m, h => by
    have e : (putB m w.1 w.2).length = m.length := putB_length (h w List.mem_cons_self)
    show (puts (putB m w.1 w.2) W).length = _
    rw [puts_len fun x hx => by rw [e]; exact h x (List.mem_cons_of_mem _ hx), e]
theorem puts_app (m : List UInt8) (A B : List (Nat × List UInt8)) : puts m (A ++ B) = puts (puts m A) B := List.foldl_append
theorem putB_comm {m : List UInt8} {x y : Nat × List UInt8} (hx : x.1 + x.2.length ≤ m.length) (hy : y.1 + y.2.length ≤ m.length) (h : offW x y) : putB (putB m x.1 x.2) y.1 y.2 = putB (putB m y.1 y.2) x.1 x.2 := by
  unfold offW at h
  apply List.ext_getElem?
  intro j
  have e1 : (putB m x.1 x.2).length = m.length := putB_length hx
  have e2 : (putB m y.1 y.2).length = m.length := putB_length hy
  rw [putB_get (bs := putB m x.1 x.2) (by omega), putB_get (bs := m) (ys := x.2) hx, putB_get (bs := putB m y.1 y.2) (by omega), putB_get (bs := m) (ys := y.2) hy]
  by_cases h1 : j < x.1 <;> by_cases h2 : j < x.1 + x.2.length <;> by_cases h3 : j < y.1 <;> by_cases h4 : j < y.1 + y.2.length <;> simp only [h1, h2, h3, h4, if_true, if_false] <;> omega
theorem puts_one {m : List UInt8} {x : Nat × List UInt8} : ∀ {W : List (Nat × List UInt8)} {m : List UInt8}, InW m.length W → x.1 + x.2.length ≤ m.length → (∀ w ∈ W, offW x w) → puts (putB m x.1 x.2) W = putB (puts m W) x.1 x.2
  | [], _, _, _, _ => rfl
  | w :: W, m, h, hx, ho => by
    have e : (putB m w.1 w.2).length = m.length := putB_length (h w List.mem_cons_self)
    show puts (putB (putB m x.1 x.2) w.1 w.2) W = putB (puts (putB m w.1 w.2) W) x.1 x.2
    rw [putB_comm hx (h w List.mem_cons_self) (ho w List.mem_cons_self)]
    exact puts_one (m := m) (fun y hy => by rw [e]; exact h y (List.mem_cons_of_mem _ hy)) (by rw [e]; exact hx) fun y hy => ho y (List.mem_cons_of_mem _ hy)
theorem puts_comm : ∀ {A B : List (Nat × List UInt8)} {m : List UInt8}, InW m.length A → InW m.length B → (∀ x ∈ A, ∀ y ∈ B, offW x y) → puts (puts m A) B = puts (puts m B) A
  | [], _, _, _, _, _ => rfl
  | x :: A, B, m, hA, hB, ho => by
    have hx := hA x List.mem_cons_self
    have e : (putB m x.1 x.2).length = m.length := putB_length hx
    show puts (puts (putB m x.1 x.2) A) B = puts (putB (puts m B) x.1 x.2) A
    rw [puts_comm (A := A) (B := B) (m := putB m x.1 x.2) (fun y hy => by rw [e]; exact hA y (List.mem_cons_of_mem _ hy)) (fun y hy => by rw [e]; exact hB y hy) fun y hy z hz => ho y (List.mem_cons_of_mem _ hy) z hz]
    rw [puts_one (m := m) hB hx (ho x List.mem_cons_self)]
/-- What is scattered. -/
def wsc (ys : List UInt8) : List Pt → Nat → List (Nat × List UInt8)
  | [], _ => []
  | p :: t, n => if p.w then (p.a, (ys.take (n + min p.n (ys.length - n))).drop n) :: wsc ys t (n + min p.n (ys.length - n)) else wsc ys t n
theorem wsc_eq {ys : List UInt8} : ∀ {t : List Pt} {m : List UInt8} {n : Nat}, (t.foldl (scS ys) (m, n)).1 = puts m (wsc ys t n)
  | [], _, _ => rfl
  | p :: t, m, n => by
    rw [List.foldl_cons]
    unfold scS wsc
    split
    · exact wsc_eq (t := t)
    · exact wsc_eq (t := t)
theorem wsc_mem {ys : List UInt8} : ∀ {t : List Pt} {n : Nat} {w : Nat × List UInt8}, w ∈ wsc ys t n → ∃ p ∈ t, p.w = true ∧ w.1 = p.a ∧ w.2.length ≤ p.n
  | [], _, _, h => by cases h
  | p :: t, n, w, h => by
    unfold wsc at h
    split at h
    · next hw =>
      rcases List.mem_cons.1 h with rfl | h
      · exact ⟨p, List.mem_cons_self, hw, rfl, by rw [List.length_drop, List.length_take]; omega⟩
      · obtain ⟨q, h1, h2⟩ := wsc_mem h
        exact ⟨q, List.mem_cons_of_mem _ h1, h2⟩
    · obtain ⟨q, h1, h2⟩ := wsc_mem h
      exact ⟨q, List.mem_cons_of_mem _ h1, h2⟩
def wmk (b w : Nat) (js : List Nat) : List (Nat × List UInt8) := js.map fun j => (b + 16 * j + 12, le4 w)
theorem wmk_eq {b w : Nat} : ∀ {js : List Nat} {m : List UInt8}, markB m b w js = puts m (wmk b w js)
  | [], _ => rfl
  | _ :: js, _ => wmk_eq (js := js)
/-- What the completion of a request puts. -/
def doneW (d : List UInt8) (b q : Nat) (w : Bool) (p : Pt) (t : List Pt) : List (Nat × List UInt8) := (if w then [] else wsc (secB d q (rm t)) t 0) ++ wmk b 3 (ix (p :: t))
theorem doneW_eq {m d : List UInt8} {b q : Nat} {w : Bool} {p : Pt} {t : List Pt} : doneM m d b q w p t = puts m (doneW d b q w p t) := by
  unfold doneM doneW
  split
  · exact wmk_eq
  · rw [puts_app, ← wmk_eq]
    congr 1
    exact wsc_eq (t := t)
theorem doneW_mem {d : List UInt8} {L D b s q : Nat} {w : Bool} {p : Pt} {t : List Pt} (hr : RN L D b s w q p t) {x : Nat × List UInt8} (hx : x ∈ doneW d b q w p t) : (∃ y ∈ p :: t, x.1 = y.a ∧ x.2.length ≤ y.n) ∨ (∃ y ∈ p :: t, x.1 = b + 16 * y.i + 12 ∧ x.2.length = 4) := by
  unfold doneW at hx
  rcases List.mem_append.1 hx with hx | hx
  · split at hx
    · cases hx
    · obtain ⟨y, h1, _, h2, h3⟩ := wsc_mem hx
      exact .inl ⟨y, List.mem_cons_of_mem _ h1, h2, h3⟩
  · obtain ⟨j, hj, rfl⟩ := List.mem_map.1 hx
    obtain ⟨y, hy, rfl⟩ := List.mem_map.1 hj
    exact .inr ⟨y, hy, rfl, rfl⟩
theorem putB_at {m : List UInt8} {x : Nat × List UInt8} {a n : Nat} (hx : x.1 + x.2.length ≤ m.length) (h : x.1 + x.2.length ≤ a ∨ a + n ≤ x.1) : ((putB m x.1 x.2).drop a).take n = (m.drop a).take n := by
  apply List.ext_getElem?
  intro i
  rw [List.getElem?_take, List.getElem?_take]
  split
  · rw [List.getElem?_drop, List.getElem?_drop, putB_get hx]
    split
    · rfl
    · rw [if_neg (by omega)]
  · rfl
theorem puts_at {a n : Nat} : ∀ {W : List (Nat × List UInt8)} {m : List UInt8}, InW m.length W → (∀ x ∈ W, x.1 + x.2.length ≤ a ∨ a + n ≤ x.1) → ((puts m W).drop a).take n = (m.drop a).take n
  | [], _, _, _ => rfl
  | x :: W, m, hW, h => by
    have hx := hW x List.mem_cons_self
    have e : (putB m x.1 x.2).length = m.length := putB_length hx
    show ((puts (putB m x.1 x.2) W).drop a).take n = _
    rw [puts_at (W := W) (fun y hy => by rw [e]; exact hW y (List.mem_cons_of_mem _ hy)) fun y hy => h y (List.mem_cons_of_mem _ hy)]
    exact putB_at hx (h x List.mem_cons_self)
theorem gath_same {m c : List UInt8} : ∀ {t : List Pt}, (∀ p ∈ t, (c.drop p.a).take p.n = (m.drop p.a).take p.n) → gath c t = gath m t
  | [], _ => rfl
  | p :: t, h => by
    have ih := gath_same (t := t) fun q hq => h q (List.mem_cons_of_mem _ hq)
    unfold gath at ih ⊢
    rw [List.flatMap_cons, List.flatMap_cons, ih]
    congr 1
    unfold rdP
    rw [h p List.mem_cons_self]
/-- What is used of two requests that are apart. -/
structure Two (b s : Nat) (la lb : List Pt) : Prop where
  ra : ∀ x ∈ la, x.a + x.n ≤ b ∨ b + 16 * s ≤ x.a
  rb : ∀ x ∈ lb, x.a + x.n ≤ b ∨ b + 16 * s ≤ x.a
  ab : ∀ x ∈ la, ∀ y ∈ lb, x.a + x.n ≤ y.a ∨ y.a + y.n ≤ x.a
  idx : ∀ x ∈ la, ∀ y ∈ lb, x.i ≠ y.i
theorem two_of {b s b' s' qa qb : Nat} {la lb : List Pt} (h : Aprt b s b' s' qa qb la lb) : Two b s la lb := by
  have hr : ∀ (i : Nat) (x : Pt), (la ++ lb)[i]? = some x → ¬ tch x (ringP b s) := by
    intro i x hx hc
    have hl := (List.getElem?_eq_some_iff.1 hx).1
    exact h.two (i + 1) 0 (by omega) (by rw [List.length_cons]; omega) ⟨x, ringP b s, by rw [List.getElem?_cons_succ]; exact hx, rfl, hc, .inr rfl⟩
  have hab : ∀ x ∈ la, ∀ y ∈ lb, ¬ tch y x := by
    intro x hx y hy hc
    obtain ⟨u, hu⟩ := List.getElem?_of_mem hx
    obtain ⟨v, hv⟩ := List.getElem?_of_mem hy
    have hul := (List.getElem?_eq_some_iff.1 hu).1
    have hvl := (List.getElem?_eq_some_iff.1 hv).1
    refine h.two (la.length + v + 1) (u + 1) (by omega) (by rw [List.length_cons, List.length_append]; omega) ⟨y, x, ?_, ?_, hc, .inl ⟨by omega, by omega⟩⟩
    · rw [List.getElem?_cons_succ, List.getElem?_append_right (by omega), Nat.add_sub_cancel_left]; exact hv
    · rw [List.getElem?_cons_succ, List.getElem?_append_left hul]; exact hu
  have hm : ∀ x ∈ la ++ lb, x.a + x.n ≤ b ∨ b + 16 * s ≤ x.a := by
    intro x hx
    obtain ⟨u, hu⟩ := List.getElem?_of_mem hx
    have := hr u x hu
    unfold tch ringP at this
    dsimp only at this
    omega
  refine ⟨fun x hx => hm x (List.mem_append_left _ hx), fun x hx => hm x (List.mem_append_right _ hx), fun x hx y hy => ?_, h.idx⟩
  have := hab x hx y hy
  unfold tch at this
  omega
theorem doneW_in {d : List UInt8} {L D b s q : Nat} {w : Bool} {p : Pt} {t : List Pt} (hc : chkN L b s = 0) (hr : RN L D b s w q p t) : InW L (doneW d b q w p t) := by
  have hb : b + 16 * s ≤ L := by
    unfold chkN at hc
    split at hc
    · next h => exact h.2.2
    · omega
  intro x hx
  rcases doneW_mem hr hx with ⟨y, hy, h1, h2⟩ | ⟨y, hy, h1, h2⟩
  · have := hr.one y hy; omega
  · have := hr.one y hy; omega
theorem doneW_off {d e : List UInt8} {L D b s q r : Nat} {w v : Bool} {p u : Pt} {t l : List Pt} (hA : RN L D b s w q p t) (hB : RN L D b s v r u l) (h : Two b s (p :: t) (u :: l)) : ∀ x ∈ doneW d b q w p t, ∀ y ∈ doneW e b r v u l, offW x y := by
  intro x hx y hy
  unfold offW
  rcases doneW_mem hA hx with ⟨x', hx', x1, x2⟩ | ⟨x', hx', x1, x2⟩ <;> rcases doneW_mem hB hy with ⟨y', hy', y1, y2⟩ | ⟨y', hy', y1, y2⟩
  · have := h.ab x' hx' y' hy'; omega
  · have := h.ra x' hx'; have := hB.one y' hy'; omega
  · have := h.rb y' hy'; have := hA.one x' hx'; omega
  · have := h.idx x' hx' y' hy'; omega
/-- What one of them reads of the memory is as the other one leaves it. -/
theorem gath_off {d m : List UInt8} {D b s q r : Nat} {w v : Bool} {p u : Pt} {t l : List Pt} (hA : RN m.length D b s w q p t) (hB : RN m.length D b s v r u l) (h1 : ∀ x ∈ p :: t, x.a + x.n ≤ b ∨ b + 16 * s ≤ x.a) (h2 : ∀ x ∈ u :: l, x.a + x.n ≤ b ∨ b + 16 * s ≤ x.a) (h3 : ∀ x ∈ p :: t, ∀ y ∈ u :: l, x.a + x.n ≤ y.a ∨ y.a + y.n ≤ x.a) : gath (doneM m d b q w p t) l = gath m l := by
  refine gath_same fun y hy => ?_
  rw [doneW_eq]
  refine puts_at (doneW_in hA.ck hA) fun x hx => ?_
  have hy' := List.mem_cons_of_mem u hy
  rcases doneW_mem hA hx with ⟨x', hx', x1, x2⟩ | ⟨x', hx', x1, x2⟩
  · have := h3 x' hx' y hy'; omega
  · have := h2 y hy'; have := hA.one x' hx'; omega
/-- A sector that another one is put beside. -/
theorem secB_ne {d Y : List UInt8} {q r n : Nat} (hY : Y.length ≤ 128) (hq : q * 128 + 128 ≤ d.length) (hn : n ≤ 128) (h : r ≠ q) : secB (putB d (q * 128) Y) r n = secB d r n := by
  unfold secB
  exact putB_at (x := (q * 128, Y)) (by dsimp only; omega) (by dsimp only; rcases Nat.lt_or_ge r q with g | g <;> omega)
theorem putB_self {m ys : List UInt8} {a : Nat} (h : a + ys.length ≤ m.length) : ((putB m a ys).drop a).take ys.length = ys := by
  have l3 : (m.take a).length = a := by rw [List.length_take]; omega
  unfold putB
  rw [List.append_assoc, List.drop_append_of_le_length (by omega), List.drop_of_length_le (by omega), List.nil_append, List.take_left]
end Go.Proofs.Ythplidagfcdibaa

/- Words that are put into a memory. Condition: the memory is valid, the places are there. -/
namespace Go.Proofs.Ythplidagfcdibaa
open Go.Abs
variable {k : Nat}
def zer (n : Nat) : List UInt8 := List.replicate n 0
theorem s26l : call0 (evCall FNl 20) 26 [.int .i64 8] = some (.tup [memV (zer 1024), .int .i64 0]) := by kernel_rfl
theorem s26 : Calls0 (evCall FN (k + 20)) 26 [.int .i64 8] (.tup [memV (zer 1024), .int .i64 0]) :=
  Calls0.fuel (k := 20) ⟨call0_mono (evCall_mono (fun f d h => FNl_le f d h) 20 20 (Nat.le_refl _)) s26l⟩ (by omega)
/-- Words from a place on. -/
def wds : Nat → List Nat → List (Nat × List UInt8)
  | _, [] => []
  | a, w :: l => (a, le4 w) :: wds (a + 4) l
def uV (l : List Nat) : List AV := l.map fun n : Nat => .int .u32 (n : Int)
theorem wds_snoc : ∀ {l : List Nat} {a w : Nat}, wds a (l ++ [w]) = wds a l ++ [(a + 4 * l.length, le4 w)]
  | [], a, w => by simp [wds]
  | x :: l, a, w => by
    show (a, le4 x) :: wds (a + 4) (l ++ [w]) = _
    rw [wds_snoc (l := l)]
    show _ = (a, le4 x) :: (wds (a + 4) l ++ _)
    rw [List.length_cons, show a + 4 + 4 * l.length = a + 4 * (l.length + 1) by omega]
theorem wds_mem : ∀ {l : List Nat} {a : Nat} {x : Nat × List UInt8}, x ∈ wds a l → a ≤ x.1 ∧ x.1 + 4 ≤ a + 4 * l.length ∧ x.2.length = 4
  | [], _, _, h => by cases h
  | w :: l, a, x, h => by
    rcases List.mem_cons.1 h with rfl | h
    · refine ⟨Nat.le_refl _, ?_, rfl⟩
      rw [List.length_cons]; dsimp only; omega
    · have := wds_mem h
      rw [List.length_cons]; omega
theorem wds_in {l : List Nat} {a L : Nat} (h : a + 4 * l.length ≤ L) : InW L (wds a l) := fun x hx => by have := wds_mem hx; omega
theorem bt_puts {t : Nat} : ∀ {W : List (Nat × List UInt8)} {m : List UInt8}, InW m.length W → (∀ x ∈ W, t < x.1 ∨ x.1 + x.2.length ≤ t) → bt (puts m W) t = bt m t
  | [], _, _, _ => rfl
  | x :: W, m, hW, h => by
    have hx := hW x List.mem_cons_self
    have e : (putB m x.1 x.2).length = m.length := putB_length hx
    show bt (puts (putB m x.1 x.2) W) t = _
    rw [bt_puts (W := W) (fun y hy => by rw [e]; exact hW y (List.mem_cons_of_mem _ hy)) fun y hy => h y (List.mem_cons_of_mem _ hy)]
    exact bt_putB_ne hx (h x List.mem_cons_self)
theorem word_puts {a : Nat} {W : List (Nat × List UInt8)} {m : List UInt8} (hW : InW m.length W) (h : ∀ x ∈ W, a + 4 ≤ x.1 ∨ x.1 + x.2.length ≤ a) : word (puts m W) a = word m a := by
  unfold word
  rw [bt_puts hW fun x hx => by have := h x hx; omega, bt_puts hW fun x hx => by have := h x hx; omega, bt_puts hW fun x hx => by have := h x hx; omega, bt_puts hW fun x hx => by have := h x hx; omega]
theorem wds_get : ∀ {l : List Nat} {a i w : Nat} {m : List UInt8}, a + 4 * l.length ≤ m.length → l[i]? = some w → w < 4294967296 → word (puts m (wds a l)) (a + 4 * i) = w
  | [], _, _, _, _, _, h, _ => by cases h
  | x :: l, a, i, w, m, hl, h, hw => by
    rw [List.length_cons] at hl
    have e : (putB m a (le4 x)).length = m.length := putB_length (by rw [le4_length]; omega)
    show word (puts (putB m a (le4 x)) (wds (a + 4) l)) (a + 4 * i) = w
    rcases i with _ | i
    · rw [List.getElem?_cons_zero, Option.some.injEq] at h
      subst h
      rw [word_puts (wds_in (by rw [e]; omega)) fun y hy => by have := wds_mem hy; omega]
      exact word_le4 (by omega) hw
    · rw [List.getElem?_cons_succ] at h
      have := wds_get (a := a + 4) (m := putB m a (le4 x)) (by rw [e]; omega) h hw
      rwa [show a + 4 * (i + 1) = a + 4 + 4 * i by omega]
set_option maxRecDepth 100000 in
theorem s27 {m : List UInt8} {a : Nat} {l : List Nat} (h : VM m) (ha : a % 4 = 0) (hl : a + 4 * l.length ≤ m.length) (hw : ∀ w ∈ l, w < 4294967296) : Calls0 (evCall FN (k + 10100)) 27 [memV m, .int .i64 a, csl 1 (uV l)] (memV (puts m (wds a l))) := by
  have hml := h.le
  have hdv : (uV l).length / 1 = l.length := by unfold uV; simp
  refine q_call0 fn27 fun T H E lv => ?_
  repeat (first | refine stN ?_ | intro E)
  refine q_loop (α := Nat) (LInv.mk (fun i => i ≤ l.length) (fun i => l.length - i)
    (fun i => [(7, .int .i64 (i : Int)), (6, .ref 1 0), (3, .ref 0 0), (2, csl 1 (uV l)), (1, .int .i64 (a : Int))])
    (fun i => [(1, [.sl 0 0 []]), (0, [csl 128 ((puts m (wds a (l.take i))).map ofB)])]))
    (fun _ _ c => c = 4) 0 (Nat.zero_le _) rfl (show l.length - 0 < k + 10099 by omega) ⟨rfl, rfl, rfl, rfl, rfl, trivial⟩ ⟨rfl, rfl, trivial⟩ ?_
  rintro i lv c T H E hP rfl hμ
  have hP : i ≤ l.length := hP
  clear hμ
  dsimp only
  rcases Nat.lt_or_ge i l.length with hi | hi
  · obtain ⟨w, hwi⟩ : ∃ w, l[i]? = some w := ⟨_, List.getElem?_eq_getElem hi⟩
    have hww := hw w (List.mem_of_getElem? hwi)
    have hr : rd (uV l) (i * 1) 1 false = some (.int .u32 (w : Int)) := by
      simp only [rd, Bool.false_eq_true, if_false, Nat.mul_one, uV, List.getElem?_map, hwi, Option.map_some, AV.leaf, if_true]
    have gi : inB (i : Int) ((uV l).length / 1) = some i := inB_n (by omega)
    have hll : (l.take i).length = i := by rw [List.length_take]; omega
    have hpl : (puts m (wds a (l.take i))).length = m.length := puts_len (wds_in (by omega))
    have ht : puts m (wds a (l.take (i + 1))) = putB (puts m (wds a (l.take i))) (a + 4 * i) (le4 w) := by
      have e : l.take (i + 1) = l.take i ++ [w] := by rw [List.take_add_one, hwi]; rfl
      rw [e, wds_snoc, puts_app, hll]; rfl
    have c54 : Calls0 (evCall FN (k + 10099)) 54 [memV (puts m (wds a (l.take i))), .agg [.int .i64 ((a + 4 * i : Nat) : Int), .int .i64 4, .int .u32 w]] (.tup [memV (putB (puts m (wds a (l.take i))) (a + 4 * i) (le4 w)), .bool true]) := s54 (k := k + 88) (h.of_len hpl) (by omega) (by omega) hww
    rw [← ht] at c54
    repeat (first | refine stN ?_ | intro E)
    exact n_again (i + 1) (show i + 1 ≤ l.length by omega) rfl (show l.length - (i + 1) < l.length - i by omega) ⟨rfl, rfl, rfl, rfl, rfl, trivial⟩ ⟨⟨rfl, rfl⟩, ⟨rfl, rfl⟩, trivial⟩
  · rw [List.take_of_length_le hi]
    repeat (first | refine stN ?_ | intro E)
    apply n_exit
    apply b_exit
    repeat (first | refine stN ?_ | intro E)
    exact q_ret (.inr rfl) rfl rfl rfl rfl rfl rfl
end Go.Proofs.Ythplidagfcdibaa

/- A notification of a ring with two requests, one that writes a sector and one that reads it. No condition but what is said. -/
namespace Go.Proofs.Ythplidagfcdibaa
open Go.Abs
/-- A memory with these two requests; the statuses of its descriptors. -/
structure Sc (X : List UInt8) (a c L n : Nat) (st : Nat → Nat) (data : List UInt8) : Prop where
  len : X.length = 1024
  a0 : dw X 0 0 0 = 256
  a1 : dw X 0 1 0 = a
  a2 : dw X 0 2 0 = 264
  a3 : dw X 0 3 0 = c
  n0 : dw X 0 0 1 = 8
  n1 : dw X 0 1 1 = L
  n2 : dw X 0 2 1 = 8
  n3 : dw X 0 3 1 = L
  f0 : dw X 0 0 2 = 258
  f1 : dw X 0 1 2 = 0
  f2 : dw X 0 2 2 = 770
  f3 : dw X 0 3 2 = 1
  st : ∀ i, i < 4 → dw X 0 i 3 = st i
  w0 : word X 256 = n
  w1 : word X 260 = 2
  w2 : word X 264 = n
  w3 : word X 268 = 1
  data : (X.drop a).take L = data
theorem word_mark {X : List UInt8} {w i a : Nat} (hl : X.length = 1024) (hi : i < 4) (ha : 64 ≤ a) : word (mark1 0 w X i) a = word X a := by
  unfold word
  rw [bt_mark1_ne (by omega) (by omega), bt_mark1_ne (by omega) (by omega), bt_mark1_ne (by omega) (by omega), bt_mark1_ne (by omega) (by omega)]
theorem Sc.mark {X data : List UInt8} {a c L n w i : Nat} {st : Nat → Nat} (h : Sc X a c L n st data) (ha : 64 ≤ a) (hi : i < 4) (hw : w < 4294967296) : Sc (mark1 0 w X i) a c L n (fun j => if j = i then w else st j) data := by
  have hl := h.len
  have ne : ∀ j t, t < 3 → dw (mark1 0 w X i) 0 j t = dw X 0 j t := fun j t ht => dw_mark1_ne (by omega) (by omega) (.inr (by omega))
  refine ⟨(mark1_length (by omega)).trans hl, ?_, ?_, ?_, ?_, ?_, ?_, ?_, ?_, ?_, ?_, ?_, ?_, fun j hj => ?_, ?_, ?_, ?_, ?_, ?_⟩
  · rw [ne 0 0 (by omega)]; exact h.a0
  · rw [ne 1 0 (by omega)]; exact h.a1
  · rw [ne 2 0 (by omega)]; exact h.a2
  · rw [ne 3 0 (by omega)]; exact h.a3
  · rw [ne 0 1 (by omega)]; exact h.n0
  · rw [ne 1 1 (by omega)]; exact h.n1
  · rw [ne 2 1 (by omega)]; exact h.n2
  · rw [ne 3 1 (by omega)]; exact h.n3
  · rw [ne 0 2 (by omega)]; exact h.f0
  · rw [ne 1 2 (by omega)]; exact h.f1
  · rw [ne 2 2 (by omega)]; exact h.f2
  · rw [ne 3 2 (by omega)]; exact h.f3
  · split
    · next e => subst e; exact dw_mark1_eq (by omega) hw
    · next e => rw [dw_mark1_ne (by omega) (by omega) (.inl e)]; exact h.st j hj
  · rw [word_mark hl hi (by omega)]; exact h.w0
  · rw [word_mark hl hi (by omega)]; exact h.w1
  · rw [word_mark hl hi (by omega)]; exact h.w2
  · rw [word_mark hl hi (by omega)]; exact h.w3
  · have : ((putB X (0 + 16 * i + 12) (le4 w)).drop a).take L = (X.drop a).take L := putB_at (x := (0 + 16 * i + 12, le4 w)) (by rw [le4_length]; dsimp only; omega) (by rw [le4_length]; dsimp only; omega)
    exact this.trans h.data
theorem Sc.rv {X data : List UInt8} {a c L n : Nat} {st : Nat → Nat} (h : Sc X a c L n st data) : RV X 0 4 := ⟨⟨8, by decide, by decide, h.len⟩, by decide, by decide, by rw [h.len]; decide⟩
theorem walk0 {X data : List UInt8} {a c L n : Nat} {st : Nat → Nat} (h : Sc X a c L n st data) (h0 : st 0 = 1) (h1 : st 1 = 1) (hL : 1 ≤ L ∧ L ≤ 128) (ha : a ≤ 640) : walk X 0 4 5 [] 0 = ([0, 1], 0) := by
  have e0 : errAt X 0 4 [] 0 = 0 := by
    unfold errAt errN
    rw [h.st 0 (by omega), h.a0, h.n0, h.f0, h.len, h0]
    simp [bn]
  have e1 : errAt X 0 4 [0] 1 = 0 := by
    unfold errAt errN
    rw [h.st 1 (by omega), h.a1, h.n1, h.f1, h.len, h1]
    have hw : wr X 0 0 = false := by unfold wr; rw [h.f0]; decide
    have h2 : ¬ (L < 1 ∨ 512 < L ∨ 1024 < a + L) := by omega
    simp [bn, hw]; omega
  have w1 : walk X 0 4 5 [] 0 = walk X 0 4 4 [0] 1 := by
    rw [walk, if_neg (by rw [e0]; simp), if_pos (by rw [h.f0]), h.f0]; rfl
  rw [w1, walk, if_neg (by rw [e1]; simp), if_neg (by rw [h.f1]; decide)]; rfl
theorem walk2 {X data : List UInt8} {a c L n : Nat} {st : Nat → Nat} (h : Sc X a c L n st data) (h0 : st 2 = 1) (h1 : st 3 = 1) (hL : 1 ≤ L ∧ L ≤ 128) (hc : c ≤ 640) : walk X 0 4 5 [] 2 = ([2, 3], 0) := by
  have e0 : errAt X 0 4 [] 2 = 0 := by
    unfold errAt errN
    rw [h.st 2 (by omega), h.a2, h.n2, h.f2, h.len, h0]
    simp [bn]
  have e1 : errAt X 0 4 [2] 3 = 0 := by
    unfold errAt errN
    rw [h.st 3 (by omega), h.a3, h.n3, h.f3, h.len, h1]
    have hw : wr X 0 2 = false := by unfold wr; rw [h.f2]; decide
    have h2 : ¬ (L < 1 ∨ 512 < L ∨ 1024 < c + L) := by omega
    simp [bn, hw]; omega
  have w1 : walk X 0 4 5 [] 2 = walk X 0 4 4 [2] 3 := by
    rw [walk, if_neg (by rw [e0]; simp), if_pos (by rw [h.f2]), h.f2]; rfl
  rw [w1, walk, if_neg (by rw [e1]; simp), if_neg (by rw [h.f3]; decide)]; rfl
def reqA (a L n : Nat) : RI := ⟨0, 4, n, true, [⟨0, 256, 8, false⟩, ⟨1, a, L, false⟩].map Pt.toI⟩
def reqB (c L n : Nat) : RI := ⟨0, 4, n, false, [⟨2, 264, 8, false⟩, ⟨3, c, L, true⟩].map Pt.toI⟩
def mAll (X : List UInt8) : List UInt8 := markB (markB X 0 2 [0, 1]) 0 2 [2, 3]
theorem fit1 {L : Nat} (hL : 1 ≤ L ∧ L ≤ 128) (i a : Nat) (w : Bool) : fitI ([⟨i, a, L, w⟩].map Pt.toI) (!w) = 0 := by
  unfold fitI
  rw [if_neg, if_neg]
  · cases w <;> simp [Pt.toI]
  · simp only [List.map_cons, List.map_nil, smI, List.foldl_cons, List.foldl_nil, Pt.toI]
    simp; omega
theorem ntf_sc {X data : List UInt8} {a c L n : Nat} {st : Nat → Nat} (h : Sc X a c L n st data) (hs : ∀ i, i < 4 → st i = 1) (hL : 1 ≤ L ∧ L ≤ 128) (ha : 64 ≤ a ∧ a ≤ 640) (hc : c ≤ 640) (hn : n < 4) : ntf 0 4 4 ⟨0, 0, [], X, false⟩ = ⟨3, 0, [reqA a L n, reqB c L n], mAll X, false⟩ := by
  have hw0 := walk0 h (hs 0 (by omega)) (hs 1 (by omega)) hL ha.2
  have h1 : Sc (markB X 0 2 [0, 1]) a c L n _ data := (h.mark ha.1 (i := 0) (w := 2) (by omega) (by omega)).mark ha.1 (i := 1) (w := 2) (by omega) (by omega)
  have hw2 := walk2 h1 (hs 2 (by omega)) (hs 3 (by omega)) hL hc
  have h2 : Sc (mAll X) a c L n _ data := (h1.mark ha.1 (i := 2) (w := 2) (by omega) (by omega)).mark ha.1 (i := 3) (w := 2) (by omega) (by omega)
  obtain ⟨m0, l0, t0⟩ := take_ok hw0
  obtain ⟨m2, l2, t2⟩ := take_ok hw2
  have hck : chkN X.length 0 4 = 0 := chk_of h.rv
  have f0 : fstR X 0 4 0 4 0 = (0, true) := by
    rw [fstR, if_pos (by show dw X 0 0 3 = 1; rw [h.st 0 (by omega)]; exact hs 0 (by omega))]
  have f1 : fstR (markB X 0 2 [0, 1]) 0 4 1 4 0 = (2, true) := by
    rw [fstR, if_neg (by show ¬ dw _ 0 1 3 = 1; rw [h1.st 1 (by omega)]; simp), fstR, if_pos (by show dw _ 0 2 3 = 1; rw [h1.st 2 (by omega)]; exact hs 2 (by omega))]
  have f3 : (fstR (mAll X) 0 4 3 4 0).2 = false := by
    have e : ∀ i, i < 4 → ¬ dw (mAll X) 0 i 3 = 1 := by
      intro i hi
      rw [h2.st i hi]
      have : i = 0 ∨ i = 1 ∨ i = 2 ∨ i = 3 := by omega
      rcases this with rfl | rfl | rfl | rfl <;> simp
    rw [fstR, if_neg (e 3 (by omega)), fstR, if_neg (e 0 (by omega)), fstR, if_neg (e 1 (by omega)), fstR, if_neg (e 2 (by omega))]
    rfl
  have p0 : ptsOf X 0 4 0 = [⟨0, 256, 8, false⟩, ⟨1, a, L, false⟩] := by
    unfold ptsOf
    rw [l0]
    simp only [List.map_cons, List.map_nil, ptOf, wr, h.a0, h.n0, h.f0, h.a1, h.n1, h.f1]
    rfl
  have p2 : ptsOf (markB X 0 2 [0, 1]) 0 4 2 = [⟨2, 264, 8, false⟩, ⟨3, c, L, true⟩] := by
    unfold ptsOf
    rw [l2]
    simp only [List.map_cons, List.map_nil, ptOf, wr, h1.a2, h1.n2, h1.f2, h1.a3, h1.n3, h1.f3]
    rfl
  have q0 : reqE (markB X 0 2 [0, 1]) 4 [⟨0, 256, 8, false⟩, ⟨1, a, L, false⟩] = 0 := by
    unfold reqE
    dsimp only
    rw [if_neg (by simp), if_neg (by rw [h1.w0, h1.w1]; omega), h1.w1]
    exact fit1 hL 1 a false
  have q2 : reqE (mAll X) 4 [⟨2, 264, 8, false⟩, ⟨3, c, L, true⟩] = 0 := by
    unfold reqE
    dsimp only
    rw [if_neg (by simp), if_neg (by rw [h2.w2, h2.w3]; omega), h2.w3]
    exact fit1 hL 3 c true
  have r0 : reqR 0 4 (markB X 0 2 [0, 1]) [⟨0, 256, 8, false⟩, ⟨1, a, L, false⟩] = reqA a L n := by
    show RI.mk 0 4 ((word (markB X 0 2 [0, 1]) 256 : Nat) : Int) (decide (word (markB X 0 2 [0, 1]) 260 = 2)) _ = _
    rw [h1.w0, decide_eq_true h1.w1]; rfl
  have r2 : reqR 0 4 (mAll X) [⟨2, 264, 8, false⟩, ⟨3, c, L, true⟩] = reqB c L n := by
    show RI.mk 0 4 ((word (mAll X) 264 : Nat) : Int) (decide (word (mAll X) 268 = 2)) _ = _
    rw [h2.w2, h2.w3]; rfl
  have s0 : nserve 0 4 4 0 ⟨0, 0, [], X, false⟩ = ⟨1, 0, [reqA a L n], markB X 0 2 [0, 1], false⟩ := by
    unfold nserve
    dsimp only
    rw [t0, m0, p0, q0, r0]; rfl
  have s2 : nserve 0 4 4 2 ⟨1, 0, [reqA a L n], markB X 0 2 [0, 1], false⟩ = ⟨3, 0, [reqA a L n, reqB c L n], mAll X, false⟩ := by
    unfold nserve
    dsimp only
    rw [t2, m2, p2, show markB (markB X 0 2 [0, 1]) 0 2 [2, 3] = mAll X from rfl, q2, r2]; rfl
  unfold ntf
  dsimp only
  rw [if_pos hck]
  rw [nrun, if_neg (by dsimp only; rw [f0]; simp)]
  dsimp only
  rw [f0, s0, nrun, if_neg (by dsimp only; rw [f1]; simp)]
  dsimp only
  rw [f1, s2, nrun, if_pos (.inl (by dsimp only; exact f3))]
end Go.Proofs.Ythplidagfcdibaa

/- BlockReadsWhatWasWritten: what it answers. Condition: the arguments are such as their types hold. -/
namespace Go.Proofs.Ythplidagfcdibaa
open Go.Abs
variable {k : Nat}
def l1 (A C L : Nat) : List Nat := [256, 8, 258, 1, A, L, 0, 1, 264, 8, 770, 1, C, L, 1, 1]
def l2 (n : Nat) : List Nat := [n, 2, n, 1]
def memX (A C n : Nat) (data : List UInt8) : List UInt8 := putB (puts (puts (zer 1024) (wds 0 (l1 A C data.length))) (wds 256 (l2 n))) A data
theorem zer_len (n : Nat) : (zer n).length = n := List.length_replicate
theorem memX_sc {A C n : Nat} {data : List UInt8} (hA : 512 ≤ A ∧ A ≤ 640) (hC : C ≤ 640) (hn : n < 4) (hd : 1 ≤ data.length ∧ data.length ≤ 128) : Sc (memX A C n data) A C data.length n (fun _ => 1) data := by
  have e1 : (puts (zer 1024) (wds 0 (l1 A C data.length))).length = 1024 := by rw [puts_len (wds_in (by rw [zer_len]; show 0 + 4 * 16 ≤ 1024; omega)), zer_len]
  have e2 : (puts (puts (zer 1024) (wds 0 (l1 A C data.length))) (wds 256 (l2 n))).length = 1024 := by rw [puts_len (wds_in (by rw [e1]; show 256 + 4 * 4 ≤ 1024; omega)), e1]
  have e3 : (memX A C n data).length = 1024 := by unfold memX; rw [putB_length (by rw [e2]; omega), e2]
  have w3 : ∀ t, t < 500 → word (memX A C n data) t = word (puts (puts (zer 1024) (wds 0 (l1 A C data.length))) (wds 256 (l2 n))) t := by
    intro t ht
    unfold memX word
    rw [bt_putB_ne (by rw [e2]; omega) (by omega), bt_putB_ne (by rw [e2]; omega) (by omega), bt_putB_ne (by rw [e2]; omega) (by omega), bt_putB_ne (by rw [e2]; omega) (by omega)]
  have w2 : ∀ i w, (l2 n)[i]? = some w → w < 4294967296 → word (memX A C n data) (256 + 4 * i) = w := by
    intro i w hi hw
    have : i < 4 := (List.getElem?_eq_some_iff.1 hi).1
    rw [w3 _ (by omega)]
    exact wds_get (by rw [e1]; show 256 + 4 * 4 ≤ 1024; omega) hi hw
  have w1 : ∀ i w, (l1 A C data.length)[i]? = some w → w < 4294967296 → word (memX A C n data) (0 + 4 * i) = w := by
    intro i w hi hw
    have : i < 16 := (List.getElem?_eq_some_iff.1 hi).1
    rw [w3 _ (by omega), word_puts (wds_in (by rw [e1]; show 256 + 4 * 4 ≤ 1024; omega)) fun x hx => by have := wds_mem hx; omega]
    exact wds_get (by rw [zer_len]; show 0 + 4 * 16 ≤ 1024; omega) hi hw
  refine ⟨e3, w1 0 _ rfl (by omega), w1 4 _ rfl (by omega), w1 8 _ rfl (by omega), w1 12 _ rfl (by omega), w1 1 _ rfl (by omega), w1 5 _ rfl (by omega), w1 9 _ rfl (by omega), w1 13 _ rfl (by omega), w1 2 _ rfl (by omega), w1 6 _ rfl (by omega), w1 10 _ rfl (by omega), w1 14 _ rfl (by omega), fun i hi => ?_, w2 0 _ rfl (by omega), w2 1 _ rfl (by omega), w2 2 _ rfl (by omega), w2 3 _ rfl (by omega), ?_⟩
  · have : i = 0 ∨ i = 1 ∨ i = 2 ∨ i = 3 := by omega
    rcases this with rfl | rfl | rfl | rfl
    · exact w1 3 _ rfl (by omega)
    · exact w1 7 _ rfl (by omega)
    · exact w1 11 _ rfl (by omega)
    · exact w1 15 _ rfl (by omega)
  · exact putB_self (by rw [e2]; omega)
theorem neq_same (u : UInt8) : evBin .neq (ofB u) (ofB u) = some (.bool false) := by simp [evBin, evInt, ofB]
set_option maxRecDepth 100000 in
set_option maxHeartbeats 8000000 in
theorem s7 {dk data : List UInt8} {p sec fr to : Nat} (hp : dk.length = 128 * p) (hpm : p ≤ maxLen) (hs : sec < 256) (hf : fr < 256) (ht : to < 256) : Calls0 (evCall FN (k + 20000)) 7 [csl 128 (dk.map ofB), .int .u8 sec, .str data, .int .u8 fr, .int .u8 to] (.bool true) := by
  have c11 : Calls0 (evCall FN (k + 19999)) 11 [] (.bool true) := s11.fuel (k := 300) (by omega)
  have hdv : (dk.map ofB).length / 128 = p := by rw [List.length_map]; omega
  have er1 : evBin .rem (.int .u8 (fr : Int)) (.int .u8 2) = some (.int .u8 ((fr % 2 : Nat) : Int)) := rfl
  have er2 : evBin .rem (.int .u8 (to : Int)) (.int .u8 2) = some (.int .u8 ((to % 2 : Nat) : Int)) := rfl
  have er3 : evBin .rem (.int .u8 (sec : Int)) (.int .u8 4) = some (.int .u8 ((sec % 4 : Nat) : Int)) := rfl
  have hf2 : fr % 2 < 2 := Nat.mod_lt _ (by omega)
  have ht2 : to % 2 < 2 := Nat.mod_lt _ (by omega)
  have hn : sec % 4 < 4 := Nat.mod_lt _ (by omega)
  generalize fr % 2 = f at er1 hf2
  generalize to % 2 = t at er2 ht2
  generalize sec % 4 = n at er3 hn
  refine q_call0 fn7 fun T H E lv => ?_
  by_cases h0 : p ≠ 4
  · repeat (first | refine stN ?_ | intro E)
    exact q_ret (.inr rfl) rfl rfl rfl rfl rfl rfl
  obtain rfl : p = 4 := Decidable.not_not.1 h0
  clear h0
  by_cases h1 : data.length = 0
  · repeat (first | refine stN ?_ | intro E)
    exact q_ret (.inr rfl) rfl rfl rfl rfl rfl rfl
  by_cases h2 : 128 < data.length
  · repeat (first | refine stN ?_ | intro E)
    exact q_ret (.inr rfl) rfl rfl rfl rfl rfl rfl
  by_cases h3 : f = t
  · subst h3
    repeat (first | refine stN ?_ | intro E)
    exact q_ret (.inr rfl) rfl rfl rfl rfl rfl rfl
  have hL : 1 ≤ data.length ∧ data.length ≤ 128 := by omega
  obtain ⟨L, hLd⟩ : ∃ L, L = data.length := ⟨_, rfl⟩
  have hsc := memX_sc (A := 512 + 128 * f) (C := 512 + 128 * t) (n := n) (data := data) (by omega) (by omega) hn hL
  have c26 : Calls0 (evCall FN (k + 19999)) 26 [.int .i64 8] (.tup [memV (zer 1024), .int .i64 0]) := s26 (k := k + 19979)
  have c21 : Calls0 (evCall FN (k + 19999)) 21 [csl 128 (dk.map ofB)] (.tup [.agg [.int .u32 0, .int .u32 0, .int .i64 0, .int .i64 0, csl 128 (dk.map ofB), .sl 1 0 []], .int .i64 0]) := s21 (k := k + 19998) hp hpm
  have v0 : VM (zer 1024) := ⟨8, by omega, by omega, zer_len _⟩
  have c27a : Calls0 (evCall FN (k + 19999)) 27 [memV (zer 1024), .int .i64 0, csl 1 (uV (l1 (512 + 128 * f) (512 + 128 * t) data.length))] (memV (puts (zer 1024) (wds 0 (l1 (512 + 128 * f) (512 + 128 * t) data.length)))) := s27 (k := k + 9899) (a := 0) v0 (by omega) (by rw [zer_len]; show 0 + 4 * 16 ≤ 1024; omega) (fun w hw => by
    simp only [l1, List.mem_cons, List.not_mem_nil, or_false] at hw
    omega)
  have e1 : (puts (zer 1024) (wds 0 (l1 (512 + 128 * f) (512 + 128 * t) data.length))).length = 1024 := by rw [puts_len (wds_in (by rw [zer_len]; show 0 + 4 * 16 ≤ 1024; omega)), zer_len]
  have c27b : Calls0 (evCall FN (k + 19999)) 27 [memV (puts (zer 1024) (wds 0 (l1 (512 + 128 * f) (512 + 128 * t) data.length))), .int .i64 256, csl 1 (uV (l2 n))] (memV (puts (puts (zer 1024) (wds 0 (l1 (512 + 128 * f) (512 + 128 * t) data.length))) (wds 256 (l2 n)))) := s27 (k := k + 9899) (a := 256) ⟨8, by omega, by omega, e1⟩ (by omega) (by rw [e1]; show 256 + 4 * 4 ≤ 1024; omega) (fun w hw => by
    simp only [l2, List.mem_cons, List.not_mem_nil, or_false] at hw
    omega)
  have e2 : (puts (puts (zer 1024) (wds 0 (l1 (512 + 128 * f) (512 + 128 * t) data.length))) (wds 256 (l2 n))).length = 1024 := by rw [puts_len (wds_in (by rw [e1]; show 256 + 4 * 4 ≤ 1024; omega)), e1]
  have c28 : Calls0 (evCall FN (k + 19999)) 28 [memV (puts (puts (zer 1024) (wds 0 (l1 (512 + 128 * f) (512 + 128 * t) data.length))) (wds 256 (l2 n))), .int .i64 ((512 + 128 * f : Nat) : Int), .str data] (.tup [memV (memX (512 + 128 * f) (512 + 128 * t) n data), .bool true]) := (s28 (k := 0) ⟨8, by omega, by omega, e2⟩ (by rw [e2]; omega)).fuel (by omega)
  have hl1 : [AV.int .u32 256, .int .u32 8, .int .u32 258, .int .u32 1, .int .u32 ((512 + 128 * f : Nat) : Int), .int .u32 (data.length : Int), .int .u32 0, .int .u32 1, .int .u32 264, .int .u32 8, .int .u32 770, .int .u32 1, .int .u32 ((512 + 128 * t : Nat) : Int), .int .u32 (data.length : Int), .int .u32 1, .int .u32 1] = uV (l1 (512 + 128 * f) (512 + 128 * t) data.length) := rfl
  have hl2 : [AV.int .u32 (n : Int), .int .u32 2, .int .u32 (n : Int), .int .u32 1] = uV (l2 n) := rfl
  rw [← hl1] at c27a
  rw [← hl2] at c27b
  generalize puts (puts (zer 1024) (wds 0 (l1 (512 + 128 * f) (512 + 128 * t) data.length))) (wds 256 (l2 n)) = X2 at c27b c28
  generalize puts (zer 1024) (wds 0 (l1 (512 + 128 * f) (512 + 128 * t) data.length)) = X1 at c27a c27b
  generalize memX (512 + 128 * f) (512 + 128 * t) n data = X at c28 hsc
  generalize zer 1024 = X0 at c26 c27a
  have vX : VM X := hsc.rv.m
  have hR0 : Rt X 0 0 0 0 dk [] := ⟨vX, by omega, by omega, by omega, .inl rfl, .inl rfl, by show (dk.map ofB).length / 128 ≤ 64; omega, Nat.zero_le _, fun r hr => by cases hr⟩
  obtain ⟨p1, _, hR1⟩ := hR0.port (inn := false) (port := 49) (val := 4) (by omega) rfl
  have hR1 : Rt X 0 4 0 0 dk [] := hR1
  have hN := ntf_sc hsc (fun _ _ => rfl) hL ⟨by omega, by omega⟩ (by omega) hn
  obtain ⟨p2, _, hR2⟩ := hR1.port (inn := false) (port := 50) (val := 0) (p := ⟨0, 4, 3, 0, [reqA (512 + 128 * f) data.length n, reqB (512 + 128 * t) data.length n], mAll X, 0, false, true⟩) (by omega) (by rw [hdv, show port1 0 4 4 ⟨0, 0, [], X, false⟩ false 50 0 = ⟨0, 4, (ntf 0 4 4 ⟨0, 0, [], X, false⟩).a, (ntf 0 4 4 ⟨0, 0, [], X, false⟩).st, (ntf 0 4 4 ⟨0, 0, [], X, false⟩).f, (ntf 0 4 4 ⟨0, 0, [], X, false⟩).m, 0, (ntf 0 4 4 ⟨0, 0, [], X, false⟩).r, true⟩ from rfl, hN])
  dsimp only at p2 hR2
  have lN : (mAll X).length = 1024 := by
    have := hR2.vm
    have h5 := (((hsc.mark (i := 0) (w := 2) (by omega) (by omega) (by omega)).mark (i := 1) (w := 2) (by omega) (by omega) (by omega)).mark (i := 2) (w := 2) (by omega) (by omega) (by omega)).mark (i := 3) (w := 2) (by omega) (by omega) (by omega)
    exact h5.len
  have dN : ((mAll X).drop (512 + 128 * f)).take data.length = data := ((((hsc.mark (i := 0) (w := 2) (by omega) (by omega) (by omega)).mark (i := 1) (w := 2) (by omega) (by omega) (by omega)).mark (i := 2) (w := 2) (by omega) (by omega) (by omega)).mark (i := 3) (w := 2) (by omega) (by omega) (by omega)).data
  have rnA : RN (mAll X).length ((dk.map ofB).length / 128) 0 4 true n ⟨0, 256, 8, false⟩ [⟨1, 512 + 128 * f, data.length, false⟩] := by
    rw [lN, hdv]
    refine ⟨by decide, hn, by simp, by simp, fun x hx => ?_, rfl, rfl, ?_, fun x hx => ?_⟩
    · simp only [List.mem_cons, List.not_mem_nil, or_false] at hx
      rcases hx with rfl | rfl <;> dsimp only <;> omega
    · show (0 : Int) + (data.length : Int) ≤ 128; omega
    · simp only [List.mem_cons, List.not_mem_nil, or_false] at hx; subst hx; rfl
  obtain ⟨q1, _, hR3⟩ := hR2.done (j := 0) rfl rnA
  have gA : gath (mAll X) [⟨1, 512 + 128 * f, data.length, false⟩] = data := by
    show (if false = true then [] else ((mAll X).drop (512 + 128 * f)).take data.length) ++ [] = data
    rw [if_neg (by simp), dN, List.append_nil]
  have hD1 : doneD (mAll X) dk n true [⟨1, 512 + 128 * f, data.length, false⟩] = putB dk (n * 128) data := by unfold doneD; rw [if_pos rfl, gA]
  have hM1 : doneM (mAll X) dk 0 n true ⟨0, 256, 8, false⟩ [⟨1, 512 + 128 * f, data.length, false⟩] = markB (mAll X) 0 3 [0, 1] := rfl
  rw [hD1, hM1] at q1 hR3
  have lM1 : (markB (mAll X) 0 3 [0, 1]).length = 1024 := by
    have h6 := ((((hsc.mark (i := 0) (w := 2) (by omega) (by omega) (by omega)).mark (i := 1) (w := 2) (by omega) (by omega) (by omega)).mark (i := 2) (w := 2) (by omega) (by omega) (by omega)).mark (i := 3) (w := 2) (by omega) (by omega) (by omega)).mark (i := 0) (w := 3) (by omega) (by omega) (by omega)
    exact (h6.mark (i := 1) (w := 3) (by omega) (by omega) (by omega)).len
  have lD1 : (putB dk (n * 128) data).length = 512 := by rw [putB_length (by omega)]; omega
  have dv1 : ((putB dk (n * 128) data).map ofB).length / 128 = 4 := by rw [List.length_map, lD1]
  have rnB : RN (markB (mAll X) 0 3 [0, 1]).length (((putB dk (n * 128) data).map ofB).length / 128) 0 4 false n ⟨2, 264, 8, false⟩ [⟨3, 512 + 128 * t, data.length, true⟩] := by
    rw [lM1, dv1]
    refine ⟨by decide, hn, by simp, by simp, fun x hx => ?_, rfl, rfl, ?_, fun x hx => ?_⟩
    · simp only [List.mem_cons, List.not_mem_nil, or_false] at hx
      rcases hx with rfl | rfl <;> dsimp only <;> omega
    · show (0 : Int) + (data.length : Int) ≤ 128; omega
    · simp only [List.mem_cons, List.not_mem_nil, or_false] at hx; subst hx; rfl
  obtain ⟨q2, _, hR4⟩ := hR3.done (j := 0) rfl rnB
  have sD : secB (putB dk (n * 128) data) n data.length = data := putB_self (by omega)
  have hM2 : doneM (markB (mAll X) 0 3 [0, 1]) (putB dk (n * 128) data) 0 n false ⟨2, 264, 8, false⟩ [⟨3, 512 + 128 * t, data.length, true⟩] = markB (putB (markB (mAll X) 0 3 [0, 1]) (512 + 128 * t) data) 0 3 [2, 3] := by
    have hrm : rm [⟨3, 512 + 128 * t, data.length, true⟩] = data.length := by show 0 + data.length = _; omega
    unfold doneM
    rw [if_neg (by simp), hrm, sD]
    have e : scat (markB (mAll X) 0 3 [0, 1]) [⟨3, 512 + 128 * t, data.length, true⟩] data = (putB (markB (mAll X) 0 3 [0, 1]) (512 + 128 * t) ((data.take (0 + min data.length (data.length - 0))).drop 0), 0 + min data.length (data.length - 0)) := rfl
    rw [e, show 0 + min data.length (data.length - 0) = data.length by omega, List.take_length, List.drop_zero]; rfl
  have hD2 : doneD (markB (mAll X) 0 3 [0, 1]) (putB dk (n * 128) data) n false [⟨3, 512 + 128 * t, data.length, true⟩] = putB dk (n * 128) data := rfl
  rw [hM2, hD2] at q2 hR4
  have lP : (putB (markB (mAll X) 0 3 [0, 1]) (512 + 128 * t) data).length = 1024 := by rw [putB_length (by omega), lM1]
  have rdC : ((markB (putB (markB (mAll X) 0 3 [0, 1]) (512 + 128 * t) data) 0 3 [2, 3]).drop (512 + 128 * t)).take data.length = data := by
    rw [wmk_eq, puts_at]
    · exact putB_self (by omega)
    · intro x hx
      simp only [wmk, List.map_cons, List.map_nil, List.mem_cons, List.not_mem_nil, or_false] at hx
      rcases hx with rfl | rfl <;> rw [lP, le4_length] <;> omega
    · intro x hx
      simp only [wmk, List.map_cons, List.map_nil, List.mem_cons, List.not_mem_nil, or_false] at hx
      rcases hx with rfl | rfl <;> rw [le4_length] <;> dsimp only <;> omega
  have v4 := hR4.vm
  have lM2 : (markB (putB (markB (mAll X) 0 3 [0, 1]) (512 + 128 * t) data) 0 3 [2, 3]).length = 1024 := by
    rw [wmk_eq, puts_len, lP]
    intro x hx
    simp only [wmk, List.map_cons, List.map_nil, List.mem_cons, List.not_mem_nil, or_false] at hx
    rcases hx with rfl | rfl <;> rw [lP, le4_length] <;> omega
  have c29 : Calls0 (evCall FN (k + 19999)) 29 [memV (markB (putB (markB (mAll X) 0 3 [0, 1]) (512 + 128 * t) data) 0 3 [2, 3]), .int .i64 ((512 + 128 * t : Nat) : Int), .int .i64 (data.length : Int)] (.tup [.str data, .bool true]) := by
    have := (s29 (k := 0) (a := 512 + 128 * t) (n := data.length) v4 (by rw [lM2]; omega)).fuel (k' := k + 19999) (by omega)
    rwa [rdC] at this
  have c14a := p1 (k + 9199)
  have c14b := p2 (k + 9199)
  have c15a := q1 (k + 9199)
  have c15b := q2 (k + 9199)
  have f0 : offL [reqA (512 + 128 * f) data.length n, reqB (512 + 128 * t) data.length n] 0 = [reqB (512 + 128 * t) data.length n] := rfl
  have f1 : offL [reqB (512 + 128 * t) data.length n] 0 = [] := rfl
  rw [f0] at c15a c15b
  rw [f1] at c15b
  have hfl : (risV [reqA (512 + 128 * f) data.length n, reqB (512 + 128 * t) data.length n]).length / 5 = 2 := ris_div _
  have hdg : ∀ i j, i < 4 → j < 128 → ∃ u, rd ((putB dk (n * 128) data).map ofB) (i * 128 + j * 1) 1 false = some (ofB u) ∧ ((i = n ∧ j < data.length ∧ data[j]? = some u) ∨ (¬ (i = n ∧ j < data.length) ∧ dk[i * 128 + j]? = some u)) := by
    intro i j hi hj
    obtain ⟨u, hu⟩ : ∃ u, (putB dk (n * 128) data)[i * 128 + j]? = some u := ⟨_, List.getElem?_eq_getElem (by omega)⟩
    refine ⟨u, ?_, ?_⟩
    · simp only [rd, Bool.false_eq_true, if_false, Nat.mul_one, List.getElem?_map, hu, Option.map_some, ofB, AV.leaf, if_true]
    · rw [putB_get (by omega)] at hu
      by_cases hc : i = n ∧ j < data.length
      · obtain ⟨rfl, hc⟩ := hc
        rw [if_neg (by omega), if_pos (by omega), show i * 128 + j - i * 128 = j by omega] at hu
        exact .inl ⟨rfl, hc, hu⟩
      · refine .inr ⟨hc, ?_⟩
        have : i ≠ n ∨ data.length ≤ j := by omega
        split at hu
        · exact hu
        · rw [if_neg (by rcases Nat.lt_or_ge i n with g | g <;> omega)] at hu; exact hu
  generalize markB (putB (markB (mAll X) 0 3 [0, 1]) (512 + 128 * t) data) 0 3 [2, 3] = M2 at c15b c29
  generalize markB (mAll X) 0 3 [0, 1] = M1 at c15a c15b
  generalize mAll X = MN at c14b c15a
  generalize putB dk (n * 128) data = D1 at c15a c15b hdg dv1
  generalize hF : [reqA (512 + 128 * f) data.length n, reqB (512 + 128 * t) data.length n] = F at c14b c15a hfl
  generalize [reqB (512 + 128 * t) data.length n] = F1 at c15a c15b
  dsimp only [biV, biC, diV, diC, port1] at c14a c14b c15a c15b
  simp only [Bool.false_eq_true, if_false, if_true] at c14a
  have eN : evBin .eql (.str data) (.str data) = some (.bool true) := by simp [evBin, evStr]
  have eQ : evBin .neq (.str data) (.str data) = some (.bool false) := by simp [evBin, evStr]
  repeat (first | refine stN ?_ | intro E)
  refine q_loop (α := Nat) (LInv.mk (fun i => i ≤ 4) (fun i => 4 - i)
    (fun i => [(23, .int .i64 (i : Int)), (15, .int .u32 (n : Int)), (13, .ref 1 0), (2, .str data), (0, csl 128 (dk.map ofB))])
    (fun _ => [(1, [.int .u32 0, .int .u32 4, .int .i64 3, .int .i64 0, csl 128 (D1.map ofB), csl 5 (risV [])])]))
    (fun _ _ c => c = 4) 0 (Nat.zero_le _) rfl (show 4 - 0 < k + 19999 by omega) ⟨rfl, rfl, rfl, rfl, rfl, trivial⟩ ⟨rfl, trivial⟩ ?_
  rintro i lv c T H E hP rfl hμ
  have hP : i ≤ 4 := hP
  clear hμ
  dsimp only
  rcases Nat.lt_or_ge i 4 with hi | hi
  · repeat (first | refine stN ?_ | intro E)
    refine q_loop (α := Nat) (LInv.mk (fun j => j ≤ 128) (fun j => 128 - j)
      (fun j => [(24, .int .i64 (j : Int)), (23, .int .i64 (i : Int)), (15, .int .u32 (n : Int)), (13, .ref 1 0), (2, .str data), (0, csl 128 (dk.map ofB))])
      (fun _ => [(1, [.int .u32 0, .int .u32 4, .int .i64 3, .int .i64 0, csl 128 (D1.map ofB), csl 5 (risV [])])]))
      (fun _ _ c => c = 4) 0 (Nat.zero_le _) rfl (show 128 - 0 < k + 19999 by omega) ⟨rfl, rfl, rfl, rfl, rfl, rfl, trivial⟩ ⟨rfl, trivial⟩ ?_
    rintro j lv c T H E hP2 rfl hμ
    have hP2 : j ≤ 128 := hP2
    clear hμ
    dsimp only
    rcases Nat.lt_or_ge j 128 with hj | hj
    · obtain ⟨u, hu, hc⟩ := hdg i j hi hj
      obtain ⟨w, hw⟩ : ∃ w, dk[i * 128 + j]? = some w := ⟨_, List.getElem?_eq_getElem (by omega)⟩
      have r1 : rd (dk.map ofB) (i * 128 + j * 1) 1 false = some (ofB w) := by
        simp only [rd, Bool.false_eq_true, if_false, Nat.mul_one, List.getElem?_map, hw, Option.map_some, ofB, AV.leaf, if_true]
      have g1 : inB (i : Int) ((dk.map ofB).length / 128) = some i := inB_n (by omega)
      have g2 : inB (i : Int) ((D1.map ofB).length / 128) = some i := inB_n (by omega)
      have en := neq_same u
      rcases hc with ⟨rfl, h4, h5⟩ | ⟨h4, h5⟩
      · repeat (first | refine stN ?_ | intro E)
        exact n_again (j + 1) (show j + 1 ≤ 128 by omega) rfl (show 128 - (j + 1) < 128 - j by omega) ⟨rfl, rfl, rfl, rfl, rfl, rfl, trivial⟩ ⟨⟨rfl, rfl⟩, trivial⟩
      · rw [hw, Option.some.injEq] at h5
        subst h5
        obtain h6 | ⟨rfl, h6⟩ : i ≠ n ∨ (i = n ∧ data.length ≤ j) := by omega
        all_goals
          repeat (first | refine stN ?_ | intro E)
          exact n_again (j + 1) (show j + 1 ≤ 128 by omega) rfl (show 128 - (j + 1) < 128 - j by omega) ⟨rfl, rfl, rfl, rfl, rfl, rfl, trivial⟩ ⟨⟨rfl, rfl⟩, trivial⟩
    · repeat (first | refine stN ?_ | intro E)
      apply n_exit
      apply b_exit
      repeat (first | refine stN ?_ | intro E)
      exact n_again (i + 1) (show i + 1 ≤ 4 by omega) rfl (show 4 - (i + 1) < 4 - i by omega) ⟨rfl, rfl, rfl, rfl, rfl, trivial⟩ ⟨⟨rfl, rfl⟩, trivial⟩
  · repeat (first | refine stN ?_ | intro E)
    apply n_exit
    apply b_exit
    repeat (first | refine stN ?_ | intro E)
    exact q_ret (.inr rfl) rfl rfl rfl rfl rfl rfl
end Go.Proofs.Ythplidagfcdibaa
