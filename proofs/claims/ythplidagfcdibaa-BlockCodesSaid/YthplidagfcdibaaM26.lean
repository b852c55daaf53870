/- Part 26 of the texts on which proofs about this seat rest: each says what it proves at its own head. No condition. -/
import Derived.Test.YthplidagfcdibaaM25
set_option linter.unusedVariables false
set_option linter.unusedSimpArgs false
/- The reference's Decode, from the loop over the requests on. Condition: at most 3000 bytes. -/
namespace Go.Proofs.Ythplidagfcdibaa
open Go.Abs
variable {k : Nat}
def tail2 : IC := O.q (O.q (O.o f31o15) (O.bl 2 (O.lp f31l32))) tail1
noncomputable def ansR (D : List UInt8) (u d gb gs : Nat) (A B : Int) : Option (List RI × List Int) → BI × Nat
  | none => (bi0, 11)
  | some (Q, L) => if L ≠ [] ∨ 64 < d ∨ D.length ≠ u + 128 * d then (bi0, 11) else if validB 8192 ⟨gb, gs, A, B, D.drop u, Q⟩ = false then (bi0, 11) else (⟨gb, gs, A, B, D.drop u, Q⟩, 0)
theorem u32_nat {x : Int} (h : 0 ≤ x ∧ x ≤ 4294967295) : ∃ n : Nat, x = n ∧ n < 4294967296 := ⟨x.toNat, by omega, by omega⟩
theorem U32s.tail {x : Int} {l : List Int} (h : U32s (x :: l)) : U32s l := fun n hn => h n (List.mem_cons_of_mem _ hn)
theorem fiveI {l : List Int} (h : 5 ≤ l.length) (hu : U32s l) : ∃ (a b c d e : Nat) (t : List Int), l = (a : Int) :: (b : Int) :: (c : Int) :: (d : Int) :: (e : Int) :: t ∧ a < 4294967296 ∧ b < 4294967296 ∧ c < 4294967296 ∧ d < 4294967296 ∧ e < 4294967296 ∧ U32s t := by
  match l, h, hu with
  | a :: b :: c :: d :: e :: t, _, hu =>
    obtain ⟨a, rfl, ha⟩ := u32_nat (hu a (by simp))
    obtain ⟨b, rfl, hb⟩ := u32_nat (hu b (by simp))
    obtain ⟨c, rfl, hc⟩ := u32_nat (hu c (by simp))
    obtain ⟨d, rfl, hd⟩ := u32_nat (hu d (by simp))
    obtain ⟨e, rfl, he⟩ := u32_nat (hu e (by simp))
    exact ⟨a, b, c, d, e, t, rfl, ha, hb, hc, hd, he, hu.tail.tail.tail.tail.tail⟩
theorem fourI {l : List Int} (h : 4 ≤ l.length) (hu : U32s l) : ∃ (a b c d : Nat) (t : List Int), l = (a : Int) :: (b : Int) :: (c : Int) :: (d : Int) :: t ∧ a < 4294967296 ∧ b < 4294967296 ∧ c < 4294967296 ∧ d < 4294967296 ∧ U32s t := by
  match l, h, hu with
  | a :: b :: c :: d :: t, _, hu =>
    obtain ⟨a, rfl, ha⟩ := u32_nat (hu a (by simp))
    obtain ⟨b, rfl, hb⟩ := u32_nat (hu b (by simp))
    obtain ⟨c, rfl, hc⟩ := u32_nat (hu c (by simp))
    obtain ⟨d, rfl, hd⟩ := u32_nat (hu d (by simp))
    exact ⟨a, b, c, d, t, rfl, ha, hb, hc, hd, hu.tail.tail.tail.tail⟩
set_option maxRecDepth 100000 in
set_option maxHeartbeats 4000000 in
theorem s31m {D : List UInt8} {u d N : Nat} {L : List Int} {gb gs : Nat} {A B : Int} {c : Nat} {lv : Nat → Bool} {sl : List (Nat × AV)} {os : List (Nat × List AV)} {T : Nat → AV} {H : Hp} {E : Nat → Option TypeId} {R : BI × Nat}
    (hb : D.length ≤ 3000) (hu : u ≤ D.length) (hd : d < 4294967296) (hN : N < 4294967296) (hg : gb < 4294967296 ∧ gs < 4294967296) (hU : U32s L) (hLl : L.length ≤ 3000) (h4 : 4 ≤ c)
    (h1 : HoldsE sl [(0, csl 1 (D.map ofB)), (2, .ref 0 0), (3, .ref 1 0), (4, csl 1 (iV L)), (5, .int .i64 (u : Int)), (8, .ref 2 0), (9, .int .i64 (d : Int)), (10, .int .i64 (N : Int))])
    (h2 : HoldsOE os [(0, z7), (1, b7), (2, dvO gb gs A B (.sl 0 0 []) (.sl 0 0 []))])
    (hR : ansR D u d gb gs A B (rrQs N L) = R) :
    Wp (evCall FN (k + 100999)) (k + 100999) tail2 ⟨slots sl T, objs os H, E, 3, lv, c⟩ (Ret f31 (decVr R)) := by
  refine q_known (P := fun S => Wp _ _ _ S _) _ _ h1 h2 fun T H E => ?_
  clear h1 h2
  unfold tail2
  repeat (first | refine stN ?_ | intro E)
  refine q_loop (α := Nat × List RI × List Int × Nat × Nat) (LInv.mk (fun p => p.1 ≤ N ∧ rrQs p.1 L = some (p.2.1, p.2.2.1) ∧ U32s p.2.2.1 ∧ p.2.2.1.length + 5 * p.1 ≤ L.length ∧ (∀ q ∈ p.2.1, RIok q) ∧ p.2.1.length = p.1) (fun p => p.2.2.1.length)
    (fun p => [(11, .int .i64 (p.1 : Int)), (0, csl 1 (D.map ofB)), (2, .ref 0 0), (3, .ref 1 0), (4, csl 1 (iV p.2.2.1)), (5, .int .i64 (u : Int)), (8, .ref 2 0), (9, .int .i64 (d : Int)), (10, .int .i64 (N : Int))])
    (fun p => [(0, z7), (1, b7), (2, dvO gb gs A B (.sl 0 0 []) (.sl p.2.2.2.1 p.2.2.2.2 (risV p.2.1)))]))
    (fun p lv' c' => 4 ≤ c' ∧ LA 5 lv' c' p.2.2.2.1 p.2.2.2.2 (risV p.2.1)) (0, [], L, 0, 0) ⟨Nat.zero_le _, rfl, hU, Nat.le_refl _, (fun _ h => by cases h), rfl⟩ ⟨h4, LA.nil⟩ (show L.length < k + 100999 by omega) ⟨rfl, rfl, rfl, rfl, rfl, rfl, rfl, rfl, rfl, trivial⟩ ⟨rfl, rfl, rfl, trivial⟩ ?_
  rintro ⟨j, Q, v, br, z⟩ lv1 c1 T H E ⟨hj, hq, hUv, hlen, hQ, hQl⟩ ⟨hc1, hL1⟩ hμ
  dsimp only at hj hq hUv hlen hQ hQl hL1 ⊢
  clear hμ
  have hvl : (iV v).length / 1 = v.length := by rw [iV_len, Nat.div_one]
  rcases Nat.lt_or_ge j N with hjN | hjN
  · have hbad : rrQ v = none → R = (bi0, 11) := fun h => by
      have := rrQs_none hq h (N - (j + 1))
      rw [show j + 1 + (N - (j + 1)) = N by omega] at this
      rw [this] at hR
      exact hR.symm
    by_cases g1 : v.length < 5
    · obtain rfl := hbad (by
        match v, g1 with
        | [], _ => rfl
        | [_], _ => rfl
        | [_, _], _ => rfl
        | [_, _, _], _ => rfl
        | [_, _, _, _], _ => rfl
        | _ :: _ :: _ :: _ :: _ :: _, h => exact absurd h (by simp only [List.length_cons]; omega))
      repeat (first | refine stN ?_ | intro E)
      apply n_ret
      repeat (first | refine stN ?_ | intro E)
      exact q_ret (.inr rfl) rfl rfl rfl rfl rfl rfl
    obtain ⟨qb, qs, sec, w, m, t, rfl, hb0, hb1, hb2, hb3, hb4, hUt⟩ := fiveI (by omega) hUv
    have hlt : ((qb : Int) :: (qs : Int) :: (sec : Int) :: (w : Int) :: (m : Int) :: t).length = t.length + 5 := rfl
    rw [hlt] at hvl hlen g1
    have gi3 : inB 3 ((iV ((qb : Int) :: (qs : Int) :: (sec : Int) :: (w : Int) :: (m : Int) :: t)).length / 1) = some 3 := inB_iV (j := 3) (by rw [hlt]; omega)
    have gi4 : inB 4 ((iV ((qb : Int) :: (qs : Int) :: (sec : Int) :: (w : Int) :: (m : Int) :: t)).length / 1) = some 4 := inB_iV (j := 4) (by rw [hlt]; omega)
    have gi0 : inB 0 ((iV ((qb : Int) :: (qs : Int) :: (sec : Int) :: (w : Int) :: (m : Int) :: t)).length / 1) = some 0 := inB_iV (j := 0) (by rw [hlt]; omega)
    have gi1 : inB 1 ((iV ((qb : Int) :: (qs : Int) :: (sec : Int) :: (w : Int) :: (m : Int) :: t)).length / 1) = some 1 := inB_iV (j := 1) (by rw [hlt]; omega)
    have gi2 : inB 2 ((iV ((qb : Int) :: (qs : Int) :: (sec : Int) :: (w : Int) :: (m : Int) :: t)).length / 1) = some 2 := inB_iV (j := 2) (by rw [hlt]; omega)
    by_cases g2 : 1 < w
    · obtain rfl := hbad (by unfold rrQ; exact if_pos (.inl (by omega)))
      repeat (first | refine stN ?_ | intro E)
      apply n_ret
      repeat (first | refine stN ?_ | intro E)
      exact q_ret (.inr rfl) rfl rfl rfl rfl rfl rfl
    by_cases g3 : t.length < 4 * m
    · obtain rfl := hbad (by unfold rrQ; exact if_pos (.inr (by omega)))
      repeat (first | refine stN ?_ | intro E)
      apply n_ret
      repeat (first | refine stN ?_ | intro E)
      exact q_ret (.inr rfl) rfl rfl rfl rfl rfl rfl
    have hok : ∀ ps y, rrPs m t = some (ps, y) → rrQ ((qb : Int) :: (qs : Int) :: (sec : Int) :: (w : Int) :: (m : Int) :: t) = some (⟨qb, qs, sec, ((w : Int) == 1), ps⟩, y) := fun ps y h => by
      simp only [rrQ]
      rw [if_neg (by omega)]
      simp only [Int.toNat_natCast, h]
    have hno : rrPs m t = none → rrQ ((qb : Int) :: (qs : Int) :: (sec : Int) :: (w : Int) :: (m : Int) :: t) = none := fun h => by
      simp only [rrQ]
      rw [if_neg (by omega)]
      simp only [Int.toNat_natCast, h]
    have hdr : csl 1 (((iV ((qb : Int) :: (qs : Int) :: (sec : Int) :: (w : Int) :: (m : Int) :: t)).take ((iV ((qb : Int) :: (qs : Int) :: (sec : Int) :: (w : Int) :: (m : Int) :: t)).length / 1 * 1)).drop (5 * 1)) = csl 1 (iV t) := drop_iV _ 5
    generalize hV : iV ((qb : Int) :: (qs : Int) :: (sec : Int) :: (w : Int) :: (m : Int) :: t) = V at *
    have r0 : rd V (0 * 1) 1 false = some (.int .i64 (qb : Int)) := by rw [← hV]; rfl
    have r1 : rd V (1 * 1) 1 false = some (.int .i64 (qs : Int)) := by rw [← hV]; rfl
    have r2 : rd V (2 * 1) 1 false = some (.int .i64 (sec : Int)) := by rw [← hV]; rfl
    have r3 : rd V (3 * 1) 1 false = some (.int .i64 (w : Int)) := by rw [← hV]; rfl
    have r4 : rd V (4 * 1) 1 false = some (.int .i64 (m : Int)) := by rw [← hV]; rfl
    repeat (first | refine stN ?_ | intro E)
    apply p_slL_lo
    · exact rfl
    · exact csz_ok _ _
    · exact rfl
    · exact asB_n (a := 5) (by omega)
    rw [hdr]
    repeat (first | refine stN ?_ | intro E)
    clear hdr r0 r1 r2 r3 r4 gi0 gi1 gi2 gi3 gi4
    generalize hw1 : ((w : Int) == 1) = w1 at *
    refine q_loop (α := Nat × List PI × List Int × Nat × Nat) (LInv.mk (fun p => p.1 ≤ m ∧ rrPs p.1 t = some (p.2.1, p.2.2.1) ∧ U32s p.2.2.1 ∧ p.2.2.1.length + 4 * p.1 = t.length ∧ p.2.1.length = p.1) (fun p => m - p.1)
      (fun p => [(14, .int .i64 (p.1 : Int)), (13, .int .i64 (m : Int)), (12, .ref 3 0), (11, .int .i64 (j : Int)), (0, csl 1 (D.map ofB)), (2, .ref 0 0), (3, .ref 1 0), (4, csl 1 (iV p.2.2.1)), (5, .int .i64 (u : Int)), (8, .ref 2 0), (9, .int .i64 (d : Int)), (10, .int .i64 (N : Int))])
      (fun p => [(3, [.int .u32 qb, .int .u32 qs, .int .i64 sec, .bool w1, .sl p.2.2.2.1 p.2.2.2.2 (pisV p.2.1)]), (0, z7), (1, b7), (2, dvO gb gs A B (.sl 0 0 []) (.sl br z (risV Q)))]))
      (fun p lv' c' => c1 ≤ c' ∧ LA 4 lv' c' p.2.2.2.1 p.2.2.2.2 (pisV p.2.1) ∧ (p.2.2.2.1 = 0 ∨ c1 ≤ p.2.2.2.1) ∧ ∀ x, 4 ≤ x → x < c1 → lv' x = lv1 x) (0, [], t, 0, 0) ⟨Nat.zero_le _, rfl, hUt, rfl, rfl⟩ ⟨Nat.le_refl _, LA.nil, .inl rfl, fun _ _ _ => rfl⟩ (show m - 0 < k + 100999 by omega) ⟨rfl, rfl, rfl, rfl, rfl, rfl, rfl, rfl, rfl, rfl, rfl, rfl, trivial⟩ ⟨rfl, rfl, rfl, rfl, trivial⟩ ?_
    clear hV hvl
    rintro ⟨i, ps, y, b2, z2⟩ lv2 c2 T H E ⟨hi, hps, hUy, hyl, hpl⟩ ⟨hc2, hL2, hb2', hlv⟩ hμ
    dsimp only at hi hps hUy hyl hpl hL2 hb2' ⊢
    clear hμ
    rcases Nat.lt_or_ge i m with him | him
    · obtain ⟨pi, pa, pn, pw, t', rfl, g4, g5, g6, g7, hUt'⟩ := fourI (by omega) hUy
      have hlt : ((pi : Int) :: (pa : Int) :: (pn : Int) :: (pw : Int) :: t').length = t'.length + 4 := rfl
      rw [hlt] at hyl
      have gi3 : inB 3 ((iV ((pi : Int) :: (pa : Int) :: (pn : Int) :: (pw : Int) :: t')).length / 1) = some 3 := inB_iV (j := 3) (by rw [hlt]; omega)
      have gi0 : inB 0 ((iV ((pi : Int) :: (pa : Int) :: (pn : Int) :: (pw : Int) :: t')).length / 1) = some 0 := inB_iV (j := 0) (by rw [hlt]; omega)
      have gi1 : inB 1 ((iV ((pi : Int) :: (pa : Int) :: (pn : Int) :: (pw : Int) :: t')).length / 1) = some 1 := inB_iV (j := 1) (by rw [hlt]; omega)
      have gi2 : inB 2 ((iV ((pi : Int) :: (pa : Int) :: (pn : Int) :: (pw : Int) :: t')).length / 1) = some 2 := inB_iV (j := 2) (by rw [hlt]; omega)
      have hvl : (iV ((pi : Int) :: (pa : Int) :: (pn : Int) :: (pw : Int) :: t')).length / 1 = t'.length + 4 := by rw [iV_len, Nat.div_one, hlt]
      have hdr : csl 1 (((iV ((pi : Int) :: (pa : Int) :: (pn : Int) :: (pw : Int) :: t')).take ((iV ((pi : Int) :: (pa : Int) :: (pn : Int) :: (pw : Int) :: t')).length / 1 * 1)).drop (4 * 1)) = csl 1 (iV t') := drop_iV _ 4
      have hsn : pisV ps ++ [.int .i64 pi, .int .i64 pa, .int .i64 pn, .bool ((pw : Int) == 1)] = pisV (ps ++ [⟨pi, pa, pn, (pw : Int) == 1⟩]) := by unfold pisV; rw [List.flatMap_append]; rfl
      have hpv : (pisV ps).length = ps.length * 4 := fm_length piV_length ps
      generalize hV : iV ((pi : Int) :: (pa : Int) :: (pn : Int) :: (pw : Int) :: t') = V at *
      have r0 : rd V (0 * 1) 1 false = some (.int .i64 (pi : Int)) := by rw [← hV]; rfl
      have r1 : rd V (1 * 1) 1 false = some (.int .i64 (pa : Int)) := by rw [← hV]; rfl
      have r2 : rd V (2 * 1) 1 false = some (.int .i64 (pn : Int)) := by rw [← hV]; rfl
      have r3 : rd V (3 * 1) 1 false = some (.int .i64 (pw : Int)) := by rw [← hV]; rfl
      by_cases g8 : 1 < pw
      · obtain rfl := hbad (hno (by
          have := rrPs_none hps (by omega) (m - (i + 1))
          rw [show i + 1 + (m - (i + 1)) = m by omega] at this
          exact this))
        repeat (first | refine stN ?_ | intro E)
        apply n_ret
        repeat (first | refine stN ?_ | intro E)
        apply n_ret
        repeat (first | refine stN ?_ | intro E)
        exact q_ret (.inr rfl) rfl rfl rfl rfl rfl rfl
      repeat (first | refine stN ?_ | intro E)
      apply p_appL
      · exact rfl
      · exact rfl
      · exact rfl
      · exact hL2
      · exact ⟨by omega, by omega⟩
      · rw [hpv, room_val]; simp only [List.length_cons, List.length_nil]; omega
      intro lv3 m1 m2
      rw [hsn]
      repeat (first | refine stN ?_ | intro E)
      apply p_slL_lo
      · exact rfl
      · exact csz_ok _ _
      · exact rfl
      · exact asB_n (a := 4) (by omega)
      rw [hdr]
      repeat (first | refine stN ?_ | intro E)
      refine n_again (i + 1, _, t', c2, 4) ⟨by omega, ?_, hUt', by dsimp only; omega, by simp; omega⟩ ⟨by omega, LA.mine (by omega) m1, .inr hc2, fun x hx4 hx => ?_⟩ (show m - (i + 1) < m - i by omega) ⟨rfl, rfl, rfl, rfl, rfl, rfl, rfl, rfl, rfl, rfl, rfl, rfl, trivial⟩ ⟨⟨rfl, rfl⟩, ⟨rfl, rfl⟩, ⟨rfl, rfl⟩, ⟨rfl, rfl⟩, trivial⟩
      · simp only [rrPs, hps]
        rw [if_neg (by omega)]
      · rw [m2 x (by omega) (by omega)]; exact hlv x hx4 hx
    · obtain rfl : i = m := by omega
      have hq2 := hok ps y hps
      have hLq : LA 5 lv2 c2 br z (risV Q) := by
        rcases hL1 with h | ⟨l1, l2, l3, l4⟩
        · exact .inl h
        · exact .inr ⟨l1, by omega, by rw [hlv br l1 l2]; exact l3, l4⟩
      have lx := LA.can hL2
      have hrl : (risV Q).length = Q.length * 5 := ris_length Q
      have eQ : risV Q ++ riV ⟨qb, qs, sec, w1, ps⟩ = risV (Q ++ [⟨qb, qs, sec, w1, ps⟩]) := flight_snoc Q _
      have hsh : (AV.agg [.int .u32 qb, .int .u32 qs, .int .i64 sec, .bool w1, .sl b2 z2 (pisV ps)]).share = .agg (riV ⟨qb, qs, sec, w1, ps⟩) := by
        show AV.agg [_, _, _, _, canonCell (.sl b2 z2 (pisV ps))] = _
        rw [lx]; rfl
      have hql := riV_length ⟨qb, qs, sec, w1, ps⟩
      repeat (first | refine stN ?_ | intro E)
      apply n_exit
      apply b_exit
      repeat (first | refine stN ?_ | intro E)
      apply p_bslF (r := riV ⟨qb, qs, sec, w1, ps⟩)
      · exact rfl
      · exact hsh
      · exact hql
      · exact riV_flat _
      apply p_appL
      · exact rfl
      · exact rfl
      · exact rfl
      · exact hLq
      · exact ⟨by omega, by omega⟩
      · rw [hrl, hql, room_val]; omega
      intro lv3 m1 m2
      rw [eQ]
      repeat (first | refine stN ?_ | intro E)
      refine n_again (j + 1, _, y, c2, 5) ⟨by omega, ?_, hUy, by dsimp only; omega, fun q hq' => ?_, by simp; omega⟩ ⟨by omega, LA.mine (by omega) m1⟩ (show y.length < _ by rw [hlt]; omega) ⟨rfl, rfl, rfl, rfl, rfl, rfl, rfl, rfl, rfl, trivial⟩ ⟨⟨rfl, rfl⟩, ⟨rfl, rfl⟩, ⟨rfl, rfl⟩, trivial⟩
      · simp only [rrQs, hq, hq2]
      · rcases List.mem_append.1 hq' with h | h
        · exact hQ q h
        · rw [List.mem_singleton.1 h]
          exact ⟨hb0, hb1, by show ps.length ≤ 5000; omega⟩
  · obtain rfl : j = N := by omega
    rw [hq] at hR
    repeat (first | refine stN ?_ | intro E)
    apply n_exit
    apply b_exit
    apply k_norm
    exact s31e hb hu hd hg hQ (by omega) hc1 hL1 ⟨rfl, rfl, rfl, rfl, rfl, rfl, rfl, trivial⟩ ⟨rfl, rfl, rfl, trivial⟩ hR
end Go.Proofs.Ythplidagfcdibaa
