/- Part 28 of the texts on which proofs about this seat rest: each says what it proves at its own head. No condition. -/
import Derived.Test.YthplidagfcdibaaM27
set_option linter.unusedVariables false
set_option linter.unusedSimpArgs false
/- block.Encode answers what encB says. Condition: the device is small. -/
namespace Go.Proofs.Ythplidagfcdibaa
open Go.Abs
variable {k : Nat}
theorem s63 (w : Bool) : Calls0 (evCall FN (k + 1)) 63 [.bool w] (.int .i64 (one w)) := by
  refine q_call0 fn63 fun T H E lv => ?_
  cases w
  all_goals
    repeat (first | refine stN ?_ | intro E)
    exact q_ret (.inr rfl) rfl rfl rfl rfl rfl rfl
set_option maxRecDepth 100000 in
set_option maxHeartbeats 4000000 in
theorem s32 {x : BI} (h : Sml x) : Calls0 (evCall FN (k + 5400)) 32 [biV x] (csl 1 ((encB x).map ofB)) := by
  obtain ⟨b, s, at', st, d, f⟩ := x
  have hI := biI_i64 h
  have hIl := biI_len h
  obtain ⟨hb, hs, ha, ht, hf, hd, hd1, hr⟩ := h
  dsimp only at hb hs ha ht hf hd hd1 hr
  have c64 : evP (evCall FN (k + 5399)) 64 [csl 1 (iV (biI ⟨b, s, at', st, d, f⟩))] = some (.sl 2 1 ((encL (biI ⟨b, s, at', st, d, f⟩)).map ofB)) := s64 (k := k + 99) (by omega) hI
  have hE : encB ⟨b, s, at', st, d, f⟩ = encL (biI ⟨b, s, at', st, d, f⟩) ++ d := rfl
  have hEl : (encL (biI ⟨b, s, at', st, d, f⟩)).length ≤ 10 + 10 * 456 := by
    have h1 := flat_encI (biI ⟨b, s, at', st, d, f⟩)
    have h2 := encI_len (biI ⟨b, s, at', st, d, f⟩).length
    unfold encL
    rw [List.length_append]; omega
  have hbi : iV (biI ⟨b, s, at', st, d, f⟩) = [.int .i64 b, .int .i64 s, .int .i64 at', .int .i64 st, .int .i64 ((d.map ofB).length / 128 : Nat), .int .i64 ((risV f).length / 5 : Nat)] ++ iV (f.flatMap riI) := by
    unfold biI; rw [iV_append, ris_div, List.length_map]; rfl
  rw [hE]
  generalize encL (biI ⟨b, s, at', st, d, f⟩) = Y at c64 hEl ⊢
  generalize iV (biI ⟨b, s, at', st, d, f⟩) = J at c64 hbi
  refine q_call0 fn32 fun T H E lv => ?_
  dsimp only [biV, biC]
  repeat (first | refine stN ?_ | intro E)
  generalize hA : [AV.int .i64 b, .int .i64 s, .int .i64 at', .int .i64 st, .int .i64 ((d.map ofB).length / 128 : Nat), .int .i64 ((risV f).length / 5 : Nat)] = A at hbi ⊢
  have hAl : A.length = 6 := by rw [← hA]; rfl
  have hdv := ris_div f
  refine q_loop (α := Nat × Nat) (LInv.mk (fun p => p.1 ≤ f.length) (fun p => f.length - p.1)
    (fun p => [(33, .int .i64 (p.1 : Int)), (32, .int .i64 ((risV f).length / 5 : Nat)), (31, csl 5 (risV f)), (3, .sl p.2 1 (A ++ iV ((f.take p.1).flatMap riI))), (1, .ref 0 0)])
    (fun _ => [(0, [.int .u32 b, .int .u32 s, .int .i64 at', .int .i64 st, csl 128 (d.map ofB), csl 5 (risV f)])]))
    (fun p lv c => 4 ≤ c ∧ Own3 lv c p.2) (0, 3) (Nat.zero_le _) ⟨Nat.le_refl _, .three⟩ (show f.length - 0 < k + 5399 by omega) ⟨rfl, rfl, rfl, by rw [← hA]; rfl, rfl, trivial⟩ ⟨rfl, trivial⟩ ?_
  rintro ⟨i, br⟩ lv c T H E hP ⟨hc4, hL⟩ hμ
  have hP : i ≤ f.length := hP
  clear hμ
  dsimp only at hL ⊢
  rcases Nat.lt_or_ge i f.length with hi | hi
  · obtain ⟨r, hri⟩ : ∃ r, f[i]? = some r := ⟨_, List.getElem?_eq_getElem hi⟩
    have hrd := fm_agg riV_length hri
    have gi : inB (i : Int) ((risV f).length / 5) = some i := inB_n (by omega)
    have hrl := len_riI (l := f.take i) fun y hy => (hr y (List.mem_of_mem_take hy)).2.2.2.1
    rw [List.length_take] at hrl
    have hft := fm_t riI hri
    obtain ⟨r1, r2, r3, r4, r5⟩ := hr r (List.mem_of_getElem? hri)
    obtain ⟨rb, rs, rq, rw', l⟩ := r
    dsimp only at r1 r2 r3 r4 r5
    have hrd : rd (risV f) (i * 5) 5 true = some (.agg [.int .u32 rb, .int .u32 rs, .int .i64 rq, .bool rw', csl 4 (pisV l)]) := hrd
    have c63 : Calls0 (evCall FN (k + 5399)) 63 [.bool rw'] (.int .i64 (one rw')) := s63 (k := k + 5398) rw'
    repeat (first | refine stN ?_ | intro E)
    apply p_appX
    · exact rfl
    · exact rfl
    · exact fun H => rfl
    · exact ⟨by omega, by omega⟩
    · rw [List.length_append, iV_len, room_val]; simp only [List.length_cons, List.length_nil]; omega
    · exact hL
    · omega
    intro br1 lv1 c1 g1 g2 g3
    have hA2 : A ++ iV ((f.take i).flatMap riI) ++ [.int .i64 (rb : Int), .int .i64 (rs : Int), .int .i64 rq, .int .i64 (one rw'), .int .i64 ((pisV l).length / 4 : Nat)] = A ++ iV ((f.take i).flatMap riI ++ [(rb : Int), (rs : Int), rq, one rw', (l.length : Int)]) := by
      rw [iV_append, List.append_assoc, pis_div]; rfl
    rw [hA2]
    generalize hG : (f.take i).flatMap riI ++ [(rb : Int), (rs : Int), rq, one rw', (l.length : Int)] = G
    have hGl : G.length ≤ 45 * f.length + 5 := by rw [← hG, List.length_append]; simp only [List.length_cons, List.length_nil]; omega
    have hdp := pis_div l
    repeat (first | refine stN ?_ | intro E)
    refine q_loop (α := Nat × Nat) (LInv.mk (fun p => p.1 ≤ l.length) (fun p => l.length - p.1)
      (fun p => [(59, .int .i64 (p.1 : Int)), (58, .int .i64 ((pisV l).length / 4 : Nat)), (57, csl 4 (pisV l)), (33, .int .i64 (i : Int)), (32, .int .i64 ((risV f).length / 5 : Nat)), (31, csl 5 (risV f)), (3, .sl p.2 1 (A ++ iV (G ++ (l.take p.1).flatMap piI))), (1, .ref 0 0)])
      (fun _ => [(0, [.int .u32 b, .int .u32 s, .int .i64 at', .int .i64 st, csl 128 (d.map ofB), csl 5 (risV f)])]))
      (fun p lv c => 4 ≤ c ∧ Own3 lv c p.2) (0, br1) (Nat.zero_le _) ⟨by omega, g2⟩ (show l.length - 0 < k + 5399 by omega) ⟨rfl, rfl, rfl, rfl, rfl, rfl, by simp; rfl, rfl, trivial⟩ ⟨rfl, trivial⟩ ?_
    rintro ⟨j, br2⟩ lv2 c2 T H E hP2 ⟨hc5, hL2⟩ hμ
    have hP2 : j ≤ l.length := hP2
    clear hμ
    dsimp only at hL2 ⊢
    rcases Nat.lt_or_ge j l.length with hj | hj
    · obtain ⟨p, hpj⟩ : ∃ p, l[j]? = some p := ⟨_, List.getElem?_eq_getElem hj⟩
      have gj : inB (j : Int) ((pisV l).length / 4) = some j := inB_n (by omega)
      have hpt := fm_t piI hpj
      have hpl := len_piI (l.take j)
      rw [List.length_take] at hpl
      have hpd : rd (pisV l) (j * 4) 4 true = some (.agg [.int .i64 p.i, .int .i64 p.a, .int .i64 p.n, .bool p.w]) := fm_agg piV_length hpj
      have c63 : Calls0 (evCall FN (k + 5399)) 63 [.bool p.w] (.int .i64 (one p.w)) := s63 (k := k + 5398) p.w
      repeat (first | refine stN ?_ | intro E)
      apply p_appX
      · exact rfl
      · exact rfl
      · exact fun H => rfl
      · exact ⟨by omega, by omega⟩
      · rw [List.length_append, iV_len, List.length_append, room_val]; simp only [List.length_cons, List.length_nil]; omega
      · exact hL2
      · omega
      intro br3 lv3 c3 g4 g5 g6
      have hA3 : A ++ iV (G ++ (l.take j).flatMap piI) ++ [.int .i64 p.i, .int .i64 p.a, .int .i64 p.n, .int .i64 (one p.w)] = A ++ iV (G ++ (l.take (j + 1)).flatMap piI) := by
        rw [hpt, ← List.append_assoc G, iV_append (G ++ _) (piI p), ← List.append_assoc A]; rfl
      rw [hA3]
      repeat (first | refine stN ?_ | intro E)
      exact n_again (j + 1, br3) (show j + 1 ≤ l.length by omega) ⟨by omega, g5⟩ (show l.length - (j + 1) < l.length - j by omega) ⟨rfl, rfl, rfl, rfl, rfl, rfl, rfl, rfl, trivial⟩ ⟨⟨rfl, rfl⟩, trivial⟩
    · rw [List.take_of_length_le hj]
      repeat (first | refine stN ?_ | intro E)
      apply n_exit
      apply b_exit
      repeat (first | refine stN ?_ | intro E)
      have hfin : G ++ l.flatMap piI = (f.take (i + 1)).flatMap riI := by rw [hft, ← hG]; simp [riI]
      rw [hfin]
      exact n_again (i + 1, br2) (show i + 1 ≤ f.length by omega) ⟨by omega, hL2⟩ (show f.length - (i + 1) < f.length - i by omega) ⟨rfl, rfl, rfl, rfl, rfl, trivial⟩ ⟨⟨rfl, rfl⟩, trivial⟩
  · rw [List.take_of_length_le hi, ← hbi]
    repeat (first | refine stN ?_ | intro E)
    apply n_exit
    apply b_exit
    repeat (first | refine stN ?_ | intro E)
    apply p_call1
    · exact args_ne rfl hL.ne1
    · exact rfl
    · exact c64
    · exact rfl
    · exact rfl
    · exact rfl
    intro lv0 m1 m2
    rw [show mapLeaf (adoptCell 1 1 c) (AV.sl 2 1 (Y.map ofB)) = .sl c 1 (Y.map ofB) from rfl]
    repeat (first | refine stN ?_ | intro E)
    have hdl : (d.map ofB).length / 128 * 128 = d.length := by rw [List.length_map]; omega
    obtain ⟨D, hD⟩ : ∃ D, D = (d.map ofB).length / 128 := ⟨_, rfl⟩
    rw [← hD] at hdl ⊢
    refine q_loop (α := Nat × Nat) (LInv.mk (fun p => p.1 ≤ D) (fun p => D - p.1)
      (fun p => [(82, .int .i64 (p.1 : Int)), (81, .int .i64 (D : Int)), (80, csl 128 (d.map ofB)), (8, .sl p.2 1 ((Y ++ d.take (p.1 * 128)).map ofB)), (1, .ref 0 0)])
      (fun _ => []))
      (fun p lv c => 4 ≤ c ∧ LA 1 lv c p.2 1 ((Y ++ d.take (p.1 * 128)).map ofB)) (0, c) (Nat.zero_le _) ⟨by omega, LA.mine hc4 m1⟩ (show D - 0 < k + 5399 by omega) ⟨rfl, rfl, rfl, by simp; rfl, rfl, trivial⟩ trivial ?_
    rintro ⟨i, br⟩ lv c T H E hP ⟨hc4, hL⟩ hμ
    have hP : i ≤ D := hP
    clear hμ
    dsimp only at hL ⊢
    rcases Nat.lt_or_ge i D with hi | hi
    · have gi : inB (i : Int) ((d.map ofB).length / 128) = some i := inB_n (by omega)
      have hPl : ((d.drop (i * 128)).take 128).length = 128 := by rw [List.length_take, List.length_drop]; omega
      have hpr : rd (d.map ofB) (i * 128) 128 true = some (.agg (((d.drop (i * 128)).take 128).map ofB)) := by
        unfold rd
        rw [if_pos rfl, if_pos (by rw [List.length_map]; omega), ← List.map_drop, ← List.map_take]
      have hcat : (Y ++ d.take (i * 128)).map ofB ++ ((d.drop (i * 128)).take 128).map ofB = (Y ++ d.take ((i + 1) * 128)).map ofB := by
        rw [← List.map_append, List.append_assoc, show (i + 1) * 128 = i * 128 + 128 by omega, List.take_add]
      have hl2 : ((Y ++ d.take (i * 128)).map ofB).length ≤ 20000 := by rw [List.length_map, List.length_append, List.length_take]; omega
      generalize (d.drop (i * 128)).take 128 = P at *
      have hPm : (P.map ofB).length = 128 := by rw [List.length_map]; exact hPl
      repeat (first | refine stN ?_ | intro E)
      apply p_storeA
      · exact rfl
      · exact rfl
      · exact rfl
      · exact hPm
      · exact List.length_replicate
      · exact rfl
      repeat (first | refine stN ?_ | intro E)
      apply p_slA_ref (p := 0) (q := 128)
      · exact rfl
      · exact rfl
      · exact rfl
      · omega
      apply p_appO (ys := P.map ofB)
      · exact rfl
      · exact rfl
      · exact rfl
      · exact List.take_of_length_le (by rw [List.drop_zero]; omega)
      · omega
      · exact flat_ofB _
      · intro e
        rw [e] at hPm; cases hPm
      · exact hL
      · exact ⟨by omega, by omega⟩
      · rw [hPm, room_val]; omega
      intro lv1 g2 g3
      rw [hcat]
      repeat (first | refine stN ?_ | intro E)
      exact n_again (i + 1, c) (show i + 1 ≤ D by omega) ⟨by omega, LA.mine hc4 g2⟩ (show D - (i + 1) < D - i by omega) ⟨rfl, rfl, rfl, rfl, rfl, trivial⟩ trivial
    · obtain rfl : i = D := by omega
      rw [List.take_of_length_le (by omega)] at hL ⊢
      repeat (first | refine stN ?_ | intro E)
      apply n_exit
      apply b_exit
      repeat (first | refine stN ?_ | intro E)
      exact q_ret (.inr rfl) rfl rfl rfl rfl (LA.can hL) rfl
end Go.Proofs.Ythplidagfcdibaa
