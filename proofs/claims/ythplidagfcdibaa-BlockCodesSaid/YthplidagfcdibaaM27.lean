/- Part 27 of the texts on which proofs about this seat rest: each says what it proves at its own head. No condition. -/
import Derived.Test.YthplidagfcdibaaM26
set_option linter.unusedVariables false
set_option linter.unusedSimpArgs false
/- The reference's Decode answers what decR says. Condition: at most 3000 bytes. -/
namespace Go.Proofs.Ythplidagfcdibaa
open Go.Abs
variable {k : Nat}
theorem sixI {l : List Int} (h : 6 ≤ l.length) (hu : U32s l) : ∃ (a b c d e f : Nat) (t : List Int), l = (a : Int) :: (b : Int) :: (c : Int) :: (d : Int) :: (e : Int) :: (f : Int) :: t ∧ a < 4294967296 ∧ b < 4294967296 ∧ c < 4294967296 ∧ d < 4294967296 ∧ e < 4294967296 ∧ f < 4294967296 ∧ U32s t := by
  match l, h, hu with
  | x :: l, h, hu =>
    obtain ⟨x, rfl, hx⟩ := u32_nat (hu x (by simp))
    obtain ⟨a, b, c, d, e, t, rfl, h1, h2, h3, h4, h5, h6⟩ := fiveI (l := l) (by simp only [List.length_cons] at h; omega) hu.tail
    exact ⟨x, a, b, c, d, e, t, rfl, hx, h1, h2, h3, h4, h5, h6⟩
theorem ansR_eq {D : List UInt8} {u gb gs a t d f : Nat} {r : List Int} (hU : U32s ((gb : Int) :: (gs : Int) :: (a : Int) :: (t : Int) :: (d : Int) :: (f : Int) :: r)) (hg : getL D = ((gb : Int) :: (gs : Int) :: (a : Int) :: (t : Int) :: (d : Int) :: (f : Int) :: r, u, 0)) : ansR D u d gb gs a t (rrQs f r) = decR D := by
  unfold decR
  rw [hg]
  dsimp only
  rw [if_neg (by simp)]
  have hall : ((gb : Int) :: (gs : Int) :: (a : Int) :: (t : Int) :: (d : Int) :: (f : Int) :: r).all u32B = true := List.all_eq_true.2 fun n hn => u32B_iff.2 (hU n hn)
  simp only [rrB]
  rw [if_pos hall]
  simp only [Int.toNat_natCast]
  cases hq : rrQs f r with
  | none => rfl
  | some p =>
    obtain ⟨Q, L⟩ := p
    cases L with
    | cons x xs =>
      dsimp only [ansR]
      rw [if_pos (.inl (by simp))]
    | nil =>
      dsimp only [ansR]
      by_cases h : 64 < d ∨ D.length ≠ u + 128 * d
      · rw [if_pos (.inr h), if_pos (show 64 < (d : Int) ∨ (D.length : Int) ≠ (u : Int) + 128 * (d : Int) by omega)]
      · rw [if_neg (fun hh => h (hh.resolve_left (fun e => e rfl))), if_neg (show ¬ (64 < (d : Int) ∨ (D.length : Int) ≠ (u : Int) + 128 * (d : Int)) by omega)]
theorem rrB_bad {l : List Int} {x : Int} (h : x ∈ l) (hx : ¬ (0 ≤ x ∧ x ≤ 4294967295)) : rrB l = none := by
  unfold rrB
  split
  · rw [if_neg fun hall => hx (u32B_iff.1 (List.all_eq_true.1 hall x h))]
  · rfl
theorem rrB_few {l : List Int} (h : l.length < 6) : rrB l = none := by
  unfold rrB
  split
  · simp only [List.length_cons] at h; omega
  · rfl
set_option maxRecDepth 100000 in
set_option maxHeartbeats 4000000 in
theorem s31 {b : List UInt8} (hb : b.length ≤ 3000) : Calls0 (evCall FN (k + 101000)) 31 [csl 1 (b.map ofB)] (decVr (decR b)) := by
  have c62 : Calls0 (evCall FN (k + 100999)) 62 [csl 1 (b.map ofB)] (tripL (getL b)) := (s62 (k := 0) (by omega)).fuel (by omega)
  have hbad : ((getL b).2.2 ≠ 0 ∨ rrB (getL b).1 = none) → decR b = (bi0, 11) := fun h => by
    unfold decR
    by_cases h1 : (getL b).2.2 ≠ 0
    · rw [if_pos h1]
    · rw [if_neg h1, h.resolve_left h1]
  have hu : (getL b).2.2 = 0 → (getL b).2.1 ≤ b.length := fun h => (getL_ok (b := b) (l := (getL b).1) (u := (getL b).2.1) (by rw [← h])).1
  have hLb := getL_len b
  have hans := fun u gb gs a t d f r h1 h2 => ansR_eq (D := b) (u := u) (gb := gb) (gs := gs) (a := a) (t := t) (d := d) (f := f) (r := r) h1 h2
  generalize getL b = G at *
  obtain ⟨L, u, e⟩ := G
  change Calls0 _ _ _ (.tup [csl 1 (iV L), .int .i64 (u : Int), .int .i64 (e : Int)]) at c62
  dsimp only at hbad hu hLb hans
  have hvl : (iV L).length / 1 = L.length := by rw [iV_len, Nat.div_one]
  refine q_call0 fn31 fun T H E lv => ?_
  by_cases he : e ≠ 0
  · rw [hbad (.inl he)]
    repeat (first | refine stN ?_ | intro E)
    exact q_ret (.inr rfl) rfl rfl rfl rfl rfl rfl
  obtain rfl : e = 0 := by omega
  have hu := hu rfl
  by_cases h6 : L.length < 6
  · rw [hbad (.inr (rrB_few h6))]
    repeat (first | refine stN ?_ | intro E)
    exact q_ret (.inr rfl) rfl rfl rfl rfl rfl rfl
  repeat (first | refine stN ?_ | intro E)
  refine q_loop (α := Nat) (LInv.mk (fun i => i ≤ L.length ∧ ∀ x ∈ L.take i, 0 ≤ x ∧ x ≤ 4294967295) (fun i => L.length - i)
    (fun i => [(7, .int .i64 (i : Int)), (0, csl 1 (b.map ofB)), (2, .ref 0 0), (3, .ref 1 0), (4, csl 1 (iV L)), (5, .int .i64 (u : Int))])
    (fun _ => [(0, z7), (1, b7)])) (fun _ lv' c' => lv' = lv ∧ c' = 4) 0 ⟨Nat.zero_le _, by simp⟩ ⟨rfl, rfl⟩ (show L.length - 0 < k + 100999 by omega) ⟨rfl, rfl, rfl, rfl, rfl, rfl, trivial⟩ ⟨rfl, rfl, trivial⟩ ?_
  rintro i _ _ T H E hP ⟨rfl, rfl⟩ hμ
  have hP : i ≤ L.length ∧ ∀ x ∈ L.take i, 0 ≤ x ∧ x ≤ 4294967295 := hP
  obtain ⟨hi, hall⟩ := hP
  dsimp only
  clear hμ
  rcases Nat.lt_or_ge i L.length with hil | hil
  · obtain ⟨x, hx⟩ : ∃ x, L[i]? = some x := ⟨_, List.getElem?_eq_getElem hil⟩
    have gi : inB (i : Int) ((iV L).length / 1) = some i := inB_iV hil
    have hr := rd_iV hx
    by_cases hx0 : 0 ≤ x ∧ x ≤ 4294967295
    · have h1 := hx0.1
      have h2 := hx0.2
      repeat (first | refine stN ?_ | intro E)
      refine n_again (i + 1) ⟨by omega, ?_⟩ ⟨rfl, rfl⟩ (show L.length - (i + 1) < L.length - i by omega) ⟨rfl, rfl, rfl, rfl, rfl, rfl, trivial⟩ ⟨⟨rfl, rfl⟩, ⟨rfl, rfl⟩, trivial⟩
      intro y hy
      rw [List.take_add_one, hx] at hy
      rcases List.mem_append.1 hy with hh | hh
      · exact hall y hh
      · simp only [Option.toList_some, List.mem_singleton] at hh; rw [hh]; exact hx0
    · rw [hbad (.inr (rrB_bad (List.mem_of_getElem? hx) hx0))]
      obtain h | h : x < 0 ∨ (0 ≤ x ∧ 4294967295 < x) := by omega
      all_goals
        repeat (first | refine stN ?_ | intro E)
        apply n_ret
        repeat (first | refine stN ?_ | intro E)
        exact q_ret (.inr rfl) rfl rfl rfl rfl rfl rfl
  · rw [List.take_of_length_le hil] at hall
    have hU : U32s L := hall
    obtain ⟨gb, gs, a, t, d, f, r, rfl, k0, k1, k2, k3, k4, k5, hUr⟩ := sixI (by omega) hU
    have hans := hans u gb gs a t d f r hU rfl
    have hlt : ((gb : Int) :: (gs : Int) :: (a : Int) :: (t : Int) :: (d : Int) :: (f : Int) :: r).length = r.length + 6 := rfl
    rw [hlt] at hvl hLb hil
    have gi0 : inB 0 ((iV ((gb : Int) :: (gs : Int) :: (a : Int) :: (t : Int) :: (d : Int) :: (f : Int) :: r)).length / 1) = some 0 := inB_iV (j := 0) (by rw [hlt]; omega)
    have gi1 : inB 1 ((iV ((gb : Int) :: (gs : Int) :: (a : Int) :: (t : Int) :: (d : Int) :: (f : Int) :: r)).length / 1) = some 1 := inB_iV (j := 1) (by rw [hlt]; omega)
    have gi2 : inB 2 ((iV ((gb : Int) :: (gs : Int) :: (a : Int) :: (t : Int) :: (d : Int) :: (f : Int) :: r)).length / 1) = some 2 := inB_iV (j := 2) (by rw [hlt]; omega)
    have gi3 : inB 3 ((iV ((gb : Int) :: (gs : Int) :: (a : Int) :: (t : Int) :: (d : Int) :: (f : Int) :: r)).length / 1) = some 3 := inB_iV (j := 3) (by rw [hlt]; omega)
    have gi4 : inB 4 ((iV ((gb : Int) :: (gs : Int) :: (a : Int) :: (t : Int) :: (d : Int) :: (f : Int) :: r)).length / 1) = some 4 := inB_iV (j := 4) (by rw [hlt]; omega)
    have gi5 : inB 5 ((iV ((gb : Int) :: (gs : Int) :: (a : Int) :: (t : Int) :: (d : Int) :: (f : Int) :: r)).length / 1) = some 5 := inB_iV (j := 5) (by rw [hlt]; omega)
    have hdr : csl 1 (((iV ((gb : Int) :: (gs : Int) :: (a : Int) :: (t : Int) :: (d : Int) :: (f : Int) :: r)).take ((iV ((gb : Int) :: (gs : Int) :: (a : Int) :: (t : Int) :: (d : Int) :: (f : Int) :: r)).length / 1 * 1)).drop (6 * 1)) = csl 1 (iV r) := drop_iV _ 6
    rw [← hans]
    clear hall hbad hans hU
    generalize hV : iV ((gb : Int) :: (gs : Int) :: (a : Int) :: (t : Int) :: (d : Int) :: (f : Int) :: r) = V at *
    have r0 : rd V (0 * 1) 1 false = some (.int .i64 (gb : Int)) := by rw [← hV]; rfl
    have r1 : rd V (1 * 1) 1 false = some (.int .i64 (gs : Int)) := by rw [← hV]; rfl
    have r2 : rd V (2 * 1) 1 false = some (.int .i64 (a : Int)) := by rw [← hV]; rfl
    have r3 : rd V (3 * 1) 1 false = some (.int .i64 (t : Int)) := by rw [← hV]; rfl
    have r4 : rd V (4 * 1) 1 false = some (.int .i64 (d : Int)) := by rw [← hV]; rfl
    have r5 : rd V (5 * 1) 1 false = some (.int .i64 (f : Int)) := by rw [← hV]; rfl
    repeat (first | refine stN ?_ | intro E)
    apply n_exit
    apply b_exit
    repeat (first | refine stN ?_ | intro E)
    apply p_slL_lo
    · exact rfl
    · exact csz_ok _ _
    · exact rfl
    · exact asB_n (a := 6) (by omega)
    rw [hdr]
    apply p_mov
    · exact rfl
    apply o_nil
    apply k_norm
    exact s31m hb hu k4 k5 ⟨k0, k1⟩ hUr (by omega) (by omega) ⟨rfl, rfl, rfl, rfl, rfl, rfl, rfl, rfl, trivial⟩ ⟨rfl, rfl, rfl, trivial⟩ rfl
end Go.Proofs.Ythplidagfcdibaa
