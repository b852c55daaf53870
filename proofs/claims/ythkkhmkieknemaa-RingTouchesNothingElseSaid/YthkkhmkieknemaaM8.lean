/- Part 8 of the texts on which the proof in this folder rests: each says what it proves at its own head. No condition. -/
import Derived.Test.YthkkhmkieknemaaM7
import Derived.Test.YthkkhmkieknemaaRows
import Derived.ProofKit
import Derived.OpenShut
set_option linter.unusedVariables false
set_option linter.unusedSimpArgs false
/- The second law of the ring, as it is computed. Condition: the memory's bytes are whole pages; the numbers are such as their types hold. -/
namespace Go.Proofs.Ythkkhmkieknemaa
open Go.Abs
variable {k : Nat}

theorem RV.at {bs : List UInt8} {b s j : Nat} (h : RV bs b s) (hj : j < s) : b + 16 * j + 16 ≤ bs.length := by
  have hle := h.le; have hs := h.hs; omega

theorem pts_lt {bs : List UInt8} {b : Nat} {js : List Nat} : ∀ p ∈ js.map (ptOf bs b), p.n < 4294967296 ∧ p.a < 4294967296 ∧ p.w = wr bs b p.i := by
  intro p hp
  obtain ⟨j, _, rfl⟩ := List.mem_map.1 hp
  exact ⟨dw_lt _ _ _ _, dw_lt _ _ _ _, rfl⟩

theorem WOK.inM {bs cs : List UInt8} {b s : Nat} {js : List Nat} (h : WOK bs b s js) (hl : cs.length = bs.length) : InM cs.length (js.map (ptOf bs b)) := by
  intro p hp _
  obtain ⟨j, hj, rfl⟩ := List.mem_map.1 hp
  obtain ⟨_, _, _, _, h5⟩ := h.one j hj
  show dw bs b j 0 + dw bs b j 1 ≤ _
  omega

theorem markB_len {bs : List UInt8} {b s w : Nat} : ∀ {js : List Nat} {cs : List UInt8}, cs.length = bs.length → (∀ j ∈ js, b + 16 * j + 16 ≤ bs.length) → (markB cs b w js).length = bs.length
  | [], _, h, _ => h
  | j :: js, cs, h, hj => by
    have e := hj j List.mem_cons_self
    exact markB_len (js := js) (cs := mark1 b w cs j) (s := s) ((mark1_length (by omega)).trans h) fun x hx => hj x (List.mem_cons_of_mem _ hx)

set_option maxRecDepth 100000 in
set_option maxHeartbeats 4000000 in
theorem s4 {bs ys : List UInt8} {p b s i : Nat} (hp : bs.length = 128 * p) (hb : b < 4294967296) (hs0 : s < 4294967296) (hi : i < 256) : Calls0 (evCall FN (k + 20000)) 4 [memV bs, ringV b s, .int .u8 i, .str ys] (.bool true) := by
  have c10 : Calls0 (evCall FN (k + 19999)) 10 [] (.bool true) := s10.fuel (k := 300) (by omega)
  refine q_call0 fn4 fun T H E lv => ?_
  rcases s13x (k := 0) hp hb hs0 with c13 | ⟨c13, h⟩
  · have c13 : Calls0 (evCall FN (k + 19999)) 13 [memV bs, ringV b s] (.bool false) := c13.fuel (by omega)
    repeat (first | (apply o_nil; apply k_norm) | (apply p_mov; exact rfl) | (apply p_load; (iterate 4 exact rfl)) | (apply p_box; exact rfl; exact rfl; intro E) | (apply p_un; exact rfl; exact rfl) | (apply p_call; exact rfl; exact rfl; assumption) | (apply p_guard_no; exact rfl; exact rfl) | (apply p_pick_true; exact rfl; exact rfl) | apply w_seq | apply w_ops | apply k_ret | apply w_ret | (apply q_cond_true; exact rfl))
    exact q_ret (.inr rfl) rfl rfl rfl rfl rfl rfl
  have c13 : Calls0 (evCall FN (k + 19999)) 13 [memV bs, ringV b s] (.bool true) := c13.fuel (by omega)
  by_cases hy : 3000 < ys.length
  · repeat (first | (apply o_nil; apply k_norm) | (apply p_mov; exact rfl) | (apply p_load; (iterate 4 exact rfl)) | (apply p_bin; exact rfl; exact rfl; (with_reducible exact gtr_t (by omega))) | (apply p_box; exact rfl; exact rfl; intro E) | (apply p_lenS; exact rfl) | (apply p_un; exact rfl; exact rfl) | (apply p_call; exact rfl; exact rfl; assumption) | (apply p_guard_yes; exact rfl) | (apply p_pick_false; exact rfl; exact rfl) | apply w_seq | apply w_ops | apply k_ret | apply w_ret | (apply q_cond_true; exact rfl))
    exact q_ret (.inr rfl) rfl rfl rfl rfl rfl rfl
  have hs := h.hs
  have hle := h.le
  have hl := h.m.le
  have hk : i % s < s := Nat.mod_lt _ (by omega)
  have gr : evBin .rem (.int .i64 (i : Int)) (.int .i64 (s : Int)) = some (.int .i64 ((i % s : Nat) : Int)) := rem_nn (by omega)
  have c15 : Calls0 (evCall FN (k + 19999)) 15 [memV bs, ringV b s, .int .i64 ((i % s : Nat) : Int)] _ := (s15 (k := 0) h hk).fuel (by omega)
  obtain ⟨t1, t2, t3⟩ := take_props h hk
  by_cases hE : takeE bs b s (i % s) = 0
  · obtain ⟨W, eM, e5⟩ := take_good hk hE
    rw [hE] at c15
    obtain ⟨L, hL⟩ : ∃ L, L = takeL bs b s (i % s) := ⟨_, rfl⟩
    obtain ⟨M, hM⟩ : ∃ M, M = takeM bs b s (i % s) := ⟨_, rfl⟩
    rw [← hL] at c15 W eM t1 t2 e5
    rw [← hM] at c15 eM t3
    obtain ⟨l, hl0⟩ : ∃ l, l = L.map (ptOf bs b) := ⟨_, rfl⟩
    have hpl : partsV bs b L = ptsV l := by rw [hl0, parts_pts]
    have hll : l.length = L.length := by rw [hl0, List.length_map]
    have hat : ∀ j ∈ L, b + 16 * j + 16 ≤ bs.length := fun j hj => h.at (t1 j hj)
    have hML : M.length = bs.length := by rw [eM]; exact markB_len (s := s) rfl hat
    have hin : InM M.length l := hl0 ▸ W.inM hML
    have hlt : ∀ q ∈ l, q.n < 4294967296 ∧ q.a < 4294967296 ∧ q.w = wr bs b q.i := hl0 ▸ pts_lt
    have hfl := pts_flat l
    obtain ⟨q1, q2⟩ := scat_props (ys := ys) (r := (M, 0)) hin rfl (Nat.zero_le _)
    have hO : VM (scat M l ys).1 := t3.m.of_len q1
    have c26 : Calls0 (evCall FN (k + 19999)) 26 [memV M, csl 4 (ptsV l), .str ys] (.tup [memV (scat M l ys).1, .int .i64 (scat M l ys).2]) := (s26 (k := 0) t3.m (by omega) hin (by omega) fun q hq => (hlt q hq).1).fuel (by omega)
    have c20 : Calls0 (evCall FN (k + 19999)) 20 [memV M, ringV b s, csl 4 (ptsV l)] (memV (markB M b 3 L)) := by
      rw [← hpl]; exact (s20 (k := 0) t3 t1 (by omega)).fuel (by omega)
    have hst : ∀ q ∈ L.map (st b), q.a + q.n < 4611686018427387904 := by
      intro q hq
      obtain ⟨j, hj, rfl⟩ := List.mem_map.1 hq
      have := hat j hj
      show b + 16 * j + 12 + 4 < _
      omega
    have hto : ∀ q ∈ l.filter (·.w), q.a + q.n < 4611686018427387904 := by
      intro q hq
      have := hlt q (List.mem_filter.1 hq).1
      omega
    have hfn : (l.filter (·.w)).length ≤ l.length := List.length_filter_le _ _
    have a1 : Calls0 (evCall FN (k + 19999)) 24 [memV bs, memV M, csl 4 (ptsV (L.map (st b)))] (.bool true) :=
      (s24 (k := 0) h.m hML hst (by rw [List.length_map]; omega) fun t _ hne => markB_cov hat (by rw [← eM]; exact hne)).fuel (by omega)
    have a2 : Calls0 (evCall FN (k + 19999)) 24 [memV M, memV (scat M l ys).1, csl 4 (ptsV (l.filter (·.w)))] (.bool true) :=
      (s24 (k := 0) t3.m q1 hto (by omega) fun t _ hne => scat_cov (r := (M, 0)) hin rfl (Nat.zero_le _) hne).fuel (by omega)
    have hatM : ∀ j ∈ L, b + 16 * j + 16 ≤ M.length := fun j hj => by rw [hML]; exact hat j hj
    have a3 : Calls0 (evCall FN (k + 19999)) 24 [memV M, memV (markB M b 3 L), csl 4 (ptsV (L.map (st b)))] (.bool true) :=
      (s24 (k := 0) t3.m (markB_len (s := s) rfl hatM) hst (by rw [List.length_map]; omega) fun t _ hne => markB_cov hatM hne).fuel (by omega)
    rw [hpl] at c15
    repeat (first | (apply o_nil; apply k_norm) | (apply p_mov; exact rfl) | (apply p_load; (iterate 4 exact rfl)) | (apply p_bin; exact rfl; exact rfl; (with_reducible assumption)) | (apply p_bin; exact rfl; exact rfl; (with_reducible exact gtr_f (by omega))) | (apply p_bin; exact rfl; exact rfl; (with_reducible exact neq_f (by omega))) | (apply p_fadd; exact rfl) | (apply p_box; exact rfl; exact rfl; intro E) | (apply p_new; intro E) | (apply p_store; (iterate 3 exact rfl); exact rfl; exact rfl; exact rfl) | (apply p_convA; exact rfl; (with_reducible exact w64 (by omega) (by omega))) | (apply p_len; exact rfl; exact csz_ok _ _) | (apply p_lenS; exact rfl) | (apply p_ext; exact rfl; exact rfl) | (apply p_un; exact rfl; exact rfl) | (apply p_call; exact rfl; exact rfl; assumption) | (apply p_guard_yes; exact rfl) | (apply p_pick_false; exact rfl; exact rfl) | apply w_seq | apply w_ops | apply k_norm | apply w_skip | apply w_block | (apply q_cond_false; exact rfl))
    rw [pts_div]
    refine q_loop (α := Nat × Nat × Nat × Nat × Nat) (LInv.mk (fun p => p.1 ≤ l.length) (fun p => l.length - p.1)
      (fun p => [(62, .int .i64 (p.1 : Int)), (61, .int .i64 (l.length : Int)), (60, csl 4 (ptsV l)), (13, .sl p.2.1 p.2.2.1 (ptsV ((L.take p.1).map (st b)))), (14, .sl p.2.2.2.1 p.2.2.2.2 (ptsV ((l.take p.1).filter (·.w)))), (11, csl 4 (ptsV l)), (10, .ref 2 0), (5, .ref 1 0), (4, .ref 0 0), (3, .str ys)])
      (fun p => [(2, [csl 128 (M.map ofB)]), (1, [.int .u32 b, .int .u32 s]), (0, [csl 128 (bs.map ofB)])]))
      (fun p lv c => 4 ≤ c ∧ LA 4 lv c p.2.1 p.2.2.1 (ptsV ((L.take p.1).map (st b))) ∧ LA 4 lv c p.2.2.2.1 p.2.2.2.2 (ptsV ((l.take p.1).filter (·.w))) ∧ (p.2.1 = 0 ∨ p.2.1 ≠ p.2.2.2.1))
      (0, 0, 0, 0, 0) (Nat.zero_le _) ⟨Nat.le_refl _, LA.nil, LA.nil, .inl rfl⟩ (show l.length - 0 < k + 19999 by omega) ⟨rfl, rfl, rfl, rfl, rfl, rfl, rfl, rfl, rfl, rfl, trivial⟩ ⟨rfl, rfl, rfl, trivial⟩ ?_
    rintro ⟨j, br1, z1, br2, z2⟩ lv c T H E hP hB hμ
    have hP : j ≤ l.length := hP
    obtain ⟨hc4, L1, L2, hne⟩ : 4 ≤ c ∧ LA 4 lv c br1 z1 (ptsV ((L.take j).map (st b))) ∧ LA 4 lv c br2 z2 (ptsV ((l.take j).filter (·.w))) ∧ (br1 = 0 ∨ br1 ≠ br2) := hB
    clear hμ
    dsimp only
    obtain ⟨c', rfl⟩ : ∃ c', c = c' + 4 := ⟨c - 4, by omega⟩
    rcases Nat.lt_or_ge j l.length with hjl | hjl
    · obtain ⟨q, hq⟩ : ∃ q, l[j]? = some q := ⟨_, List.getElem?_eq_getElem hjl⟩
      obtain ⟨x, hx⟩ : ∃ x, L[j]? = some x := ⟨_, List.getElem?_eq_getElem (by omega)⟩
      have hqx : q = ptOf bs b x := by
        have := hq
        rw [hl0, List.getElem?_map, hx] at this
        simpa using this.symm
      have hxs := t1 x (List.mem_of_getElem? hx)
      have c25 : Calls0 (evCall FN (k + 19999)) 25 [ringV b s, .int .i64 (x : Nat)] (.agg (ptV (st b x))) := (s25 (k := 0) hb (by omega)).fuel (by omega)
      have gi : inB (j : Int) ((ptsV l).length / 4) = some j := inB_n (by rw [pts_div]; omega)
      have e1 : ptsV ((L.take j).map (st b)) ++ ptV (st b x) = ptsV ((L.take (j + 1)).map (st b)) := by
        rw [List.take_add_one, hx, List.map_append, pts_snoc]; rfl
      have hr1 : ((ptsV ((L.take j).map (st b))).length + 4) / 4 * 32 ≤ room := by rw [pts_length, List.length_map, List.length_take, room]; omega
      have hr2 : ((ptsV ((l.take j).filter (·.w))).length + 4) / 4 * 32 ≤ room := by
        have := List.length_filter_le (·.w) (l.take j)
        rw [List.length_take] at this
        rw [pts_length, room]; omega
      rcases hw : wr bs b x with _ | _
      · have hr : rd (ptsV l) (j * 4) 4 true = some (.agg [.int .i64 x, .int .i64 (dw bs b x 0), .int .i64 (dw bs b x 1), .bool false]) := by
          rw [rd_pt hq, hqx, ← hw]; rfl
        have e2 : (l.take (j + 1)).filter (·.w) = (l.take j).filter (·.w) := by
          rw [List.take_add_one, hq, List.filter_append, hqx]
          simp [ptOf, hw]
        repeat (first | (apply o_nil; apply k_norm) | (apply p_mov; exact rfl) | (apply p_load; (iterate 4 exact rfl)) | (apply p_bin; exact rfl; exact rfl; (with_reducible exact lss_t (by omega))) | (apply p_fadd; exact rfl) | (apply p_new; intro E) | (apply p_store; (iterate 3 exact rfl); exact rfl; exact rfl; exact rfl) | (apply p_bsl; (iterate 4 exact rfl); (simp only [List.length_cons, List.length_nil]; exact rfl)) | (apply p_call; exact rfl; exact rfl; assumption) | (apply p_iaS; exact rfl; exact rfl; exact csz_ok _ _; (with_reducible assumption)) | (apply p_load_pp; exact rfl; (with_reducible assumption)) | apply w_seq | apply w_ops | apply k_norm | apply w_skip | apply w_block | (apply q_cond_true; exact rfl))
        apply p_appL
        · exact rfl
        · exact rfl
        · exact rfl
        · exact L1
        · exact ⟨by omega, by omega⟩
        · exact hr1
        intro lv1 m1 m2
        rw [show ptsV ((L.take j).map (st b)) ++ [AV.int .i64 ((st b x).i : Nat), .int .i64 ((st b x).a : Nat), .int .i64 ((st b x).n : Nat), .bool (st b x).w] = _ from e1]
        repeat (first | (apply o_nil; apply k_norm) | (apply o_nil; skip) | (apply p_mov; exact rfl) | (apply p_load; (iterate 4 exact rfl)) | (apply p_bin; exact rfl; exact rfl; (with_reducible exact add_nl (by omega))) | (apply p_fadd; exact rfl) | apply w_seq | apply w_ops | apply k_norm | apply w_skip | apply b_norm | (apply q_cond_false; exact rfl))
        exact n_again (j + 1, c' + 4, 4, br2, z2) (show j + 1 ≤ l.length by omega) ⟨by omega, LA.mine (by omega) m1, by rw [e2]; exact L2.keep (Nat.le_succ _) m2 (by rcases L2 with L2 | L2 <;> omega), by rcases L2 with L2 | L2 <;> first | exact .inr (by show c' + 4 ≠ br2; omega)⟩ (show l.length - (j + 1) < l.length - j by omega)
          ⟨rfl, rfl, rfl, rfl, by rw [e2]; rfl, rfl, rfl, rfl, rfl, rfl, trivial⟩ ⟨⟨rfl, rfl⟩, ⟨rfl, rfl⟩, ⟨rfl, rfl⟩, trivial⟩
      · have hr : rd (ptsV l) (j * 4) 4 true = some (.agg [.int .i64 x, .int .i64 (dw bs b x 0), .int .i64 (dw bs b x 1), .bool true]) := by
          rw [rd_pt hq, hqx, ← hw]; rfl
        have e2 : ptsV ((l.take j).filter (·.w)) ++ [.int .i64 x, .int .i64 (dw bs b x 0), .int .i64 (dw bs b x 1), .bool true] = ptsV ((l.take (j + 1)).filter (·.w)) := by
          rw [List.take_add_one, hq, List.filter_append, hqx]
          simp [ptOf, hw, ptsV, ptV]
        repeat (first | (apply o_nil; apply k_norm) | (apply p_mov; exact rfl) | (apply p_load; (iterate 4 exact rfl)) | (apply p_bin; exact rfl; exact rfl; (with_reducible exact lss_t (by omega))) | (apply p_fadd; exact rfl) | (apply p_new; intro E) | (apply p_store; (iterate 3 exact rfl); exact rfl; exact rfl; exact rfl) | (apply p_bsl; (iterate 4 exact rfl); (simp only [List.length_cons, List.length_nil]; exact rfl)) | (apply p_call; exact rfl; exact rfl; assumption) | (apply p_iaS; exact rfl; exact rfl; exact csz_ok _ _; (with_reducible assumption)) | (apply p_load_pp; exact rfl; (with_reducible assumption)) | apply w_seq | apply w_ops | apply k_norm | apply w_skip | apply w_block | (apply q_cond_true; exact rfl))
        apply p_appL
        · exact rfl
        · exact rfl
        · exact rfl
        · exact L1
        · exact ⟨by omega, by omega⟩
        · exact hr1
        intro lv1 m1 m2
        have L3 := L2.keep (Nat.le_succ _) m2 (by rcases L2 with L2 | L2 <;> omega)
        rw [show ptsV ((L.take j).map (st b)) ++ [AV.int .i64 ((st b x).i : Nat), .int .i64 ((st b x).a : Nat), .int .i64 ((st b x).n : Nat), .bool (st b x).w] = _ from e1]
        repeat (first | (apply o_nil; apply k_norm) | (apply p_mov; exact rfl) | (apply p_load; (iterate 4 exact rfl)) | (apply p_fadd; exact rfl) | (apply p_bsl; (iterate 4 exact rfl); (simp only [List.length_cons, List.length_nil]; exact rfl)) | apply w_seq | apply w_ops | (apply q_cond_true; exact rfl))
        apply p_appL
        · exact rfl
        · exact rfl
        · exact rfl
        · exact L3
        · exact ⟨by omega, by omega⟩
        · exact hr2
        intro lv2 n1 n2
        rw [e2]
        repeat (first | (apply o_nil; apply b_norm) | (apply o_nil; skip) | (apply p_mov; exact rfl) | (apply p_bin; exact rfl; exact rfl; (with_reducible exact add_nl (by omega))) | apply w_ops | apply k_norm)
        exact n_again (j + 1, c' + 4, 4, c' + 4 + 1, 4) (show j + 1 ≤ l.length by omega) ⟨by omega, (LA.mine (by omega) m1).keep (Nat.le_succ _) n2 (by rcases L2 with L2 | L2 <;> omega), LA.mine (by omega) n1, .inr (by show c' + 4 ≠ c' + 4 + 1; omega)⟩ (show l.length - (j + 1) < l.length - j by omega)
          ⟨rfl, rfl, rfl, rfl, rfl, rfl, rfl, rfl, rfl, rfl, trivial⟩ ⟨⟨rfl, rfl⟩, ⟨rfl, rfl⟩, ⟨rfl, rfl⟩, trivial⟩
    · have hL1 : L.take j = L := List.take_of_length_le (by omega)
      have hL2 : l.take j = l := List.take_of_length_le hjl
      rw [hL1] at L1 ⊢
      rw [hL2] at L2 ⊢
      rcases L1 with ⟨rfl, rfl, k1⟩ | ⟨k1, _, _, rfl⟩
      · have e0 : ptsV (L.map (st b)) = [] := k1
        have := pts_length (L.map (st b))
        rw [e0, List.length_map] at this
        have hlen : L.length = 0 := by rw [List.length_nil] at this; omega
        obtain rfl := List.eq_nil_of_length_eq_zero hlen
        simp at e5
      · obtain ⟨q1, rfl⟩ : ∃ q, br1 = q + 4 := ⟨br1 - 4, by omega⟩
        rcases L2 with ⟨rfl, rfl, k2⟩ | ⟨k2, _, _, rfl⟩
        · have e0 : ptsV (l.filter (·.w)) = [] := k2
          rw [e0] at a2 ⊢
          repeat (first | (apply o_nil; apply k_norm) | (apply p_bin; exact rfl; exact rfl; (with_reducible exact lss_f (by omega))) | apply w_seq | apply w_ops | apply k_exit | apply w_exit | (apply q_cond_false; exact rfl))
          apply n_exit
          apply b_exit
          repeat (first | (apply o_nil; apply k_norm) | (apply p_mov; exact rfl) | (apply p_load; (iterate 4 exact rfl)) | (apply p_new; intro E) | (apply p_store; (iterate 3 exact rfl); exact rfl; exact rfl; exact rfl) | (apply p_ext; exact rfl; exact rfl) | (apply p_call; exact rfl; exact rfl; assumption) | (apply p_guard_yes; exact rfl) | (apply p_pick_true; exact rfl; exact rfl) | apply w_seq | apply w_ops | apply k_norm | apply w_ret)
          exact q_ret (.inr rfl) rfl rfl rfl rfl rfl rfl
        · obtain ⟨q2, rfl⟩ : ∃ q, br2 = q + 4 := ⟨br2 - 4, by omega⟩
          repeat (first | (apply o_nil; apply k_norm) | (apply p_bin; exact rfl; exact rfl; (with_reducible exact lss_f (by omega))) | apply w_seq | apply w_ops | apply k_exit | apply w_exit | (apply q_cond_false; exact rfl))
          apply n_exit
          apply b_exit
          repeat (first | (apply o_nil; apply k_norm) | (apply p_mov; exact rfl) | (apply p_load; (iterate 4 exact rfl)) | (apply p_new; intro E) | (apply p_store; (iterate 3 exact rfl); exact rfl; exact rfl; exact rfl) | (apply p_ext; exact rfl; exact rfl) | (apply p_call; exact rfl; exact rfl; assumption) | (apply p_guard_yes; exact rfl) | (apply p_pick_true; exact rfl; exact rfl) | apply w_seq | apply w_ops | apply k_norm | apply w_ret)
          exact q_ret (.inr rfl) rfl rfl rfl rfl rfl rfl
  · obtain ⟨e1, e2, e3, e4⟩ := take_bad hE
    obtain ⟨en, hen⟩ : ∃ en, en = takeE bs b s (i % s) := ⟨_, rfl⟩
    obtain ⟨M, hM⟩ : ∃ M, M = takeM bs b s (i % s) := ⟨_, rfl⟩
    rw [← hM] at c15 e2 t3
    rw [← hen] at c15 e2 e3 e4
    rw [e1] at c15
    have hnil : (partsV bs b []).length = 0 := rfl
    have hatk : b + 16 * (i % s) + 16 ≤ bs.length := h.at hk
    have c25 : Calls0 (evCall FN (k + 19999)) 25 [ringV b s, .int .i64 ((i % s : Nat) : Int)] (.agg (ptV (st b (i % s)))) := (s25 (k := 0) hb (by omega)).fuel (by omega)
    have hML : M.length = bs.length := by
      rw [e2]; split
      · exact mark1_length hatk
      · rfl
    have a1 : Calls0 (evCall FN (k + 19999)) 24 [memV bs, memV M, csl 4 (ptsV [st b (i % s)])] (.bool true) := by
      refine (s24 (k := 0) h.m hML (by intro q hq; rw [List.mem_singleton] at hq; subst hq; show b + 16 * (i % s) + 12 + 4 < _; omega) (by simp) fun t _ hne => ?_).fuel (by omega)
      rw [e2] at hne
      split at hne
      · exact markB_cov (js := [i % s]) (w := 4 + (en - 160)) (fun j hj => by rw [List.mem_singleton] at hj; subst hj; exact hatk) hne
      · exact absurd rfl hne
    repeat (first | (apply o_nil; apply k_norm) | (apply p_mov; exact rfl) | (apply p_load; (iterate 4 exact rfl)) | (apply p_bin; exact rfl; exact rfl; (with_reducible assumption)) | (apply p_bin; exact rfl; exact rfl; (with_reducible exact gtr_f (by omega))) | (apply p_bin; exact rfl; exact rfl; (with_reducible exact eql_t (by omega))) | (apply p_bin; exact rfl; exact rfl; (with_reducible exact neq_t (by omega))) | (apply p_fadd; exact rfl) | (apply p_box; exact rfl; exact rfl; intro E) | (apply p_new; intro E) | (apply p_store; (iterate 3 exact rfl); exact rfl; exact rfl; exact rfl) | (apply p_convA; exact rfl; (with_reducible exact w64 (by omega) (by omega))) | (apply p_len; exact rfl; exact csz_ok _ _) | (apply p_lenS; exact rfl) | (apply p_ext; exact rfl; exact rfl) | (apply p_bsl; (iterate 4 exact rfl); (simp only [List.length_cons, List.length_nil]; exact rfl)) | (apply p_un; exact rfl; exact rfl) | (apply p_call; exact rfl; exact rfl; assumption) | (apply p_guard_yes; exact rfl) | (apply p_pick_true; exact rfl; exact rfl) | (apply p_pick_false; exact rfl; exact rfl) | apply w_seq | apply w_ops | apply k_norm | apply k_ret | apply w_ret | apply w_skip | (apply q_cond_true; exact rfl) | (apply q_cond_false; exact rfl))
    exact q_ret (.inr rfl) rfl rfl rfl rfl rfl rfl

end Go.Proofs.Ythkkhmkieknemaa

/- What the arguments of the ring's laws are. No condition. -/
namespace Go.Proofs.Ythkkhmkieknemaa
open Go.Abs Go.ChangeShapes Go.WideShapes Go.ChangeAt Go.RowKit

/-- What a call that answers with a bool answers. -/
theorem eval_of {F : CallF} {f : FuncId} {vs : List AV} {b : Bool} (h : Calls0 F f vs (.bool b)) : ∃ hs', F f vs h0 (fun _ => none) = some (.bool b, hs') := by
  have h1 := evP_of h rfl
  unfold evP at h1
  split at h1
  · next r hs he =>
    split at h1
    · simp only [Option.some.injEq] at h1
      refine ⟨hs, ?_⟩
      rw [he]
      cases r <;> simp only [own, mapLeaf, ownCell] at h1 <;> first
        | (cases h1; rfl)
        | (split at h1 <;> first | cases h1 | (split at h1 <;> cases h1))
        | cases h1
    · cases h1
  · cases h1

def memSh : Sh := .agg [.sl (.arr 128 (.int .u8))]
def ringSh : Sh := .agg [.int .u32, .int .u32]

theorem own0 : ownKnob Try.prog.godebug = none := by kernel_rfl

theorem hasBytes {xs : List AV} (h : Has (.arr 128 (.int .u8)) xs) : ∃ bs : List UInt8, bs.length = 128 ∧ xs = bs.map ofB := by
  obtain ⟨ls, hl, rfl, h2⟩ := h
  have key : ∀ ls : List (List AV), (∀ y ∈ ls, Has (.int .u8) y) → ∃ bs : List UInt8, bs.length = ls.length ∧ ls.flatten = bs.map ofB := by
    intro ls
    induction ls with
    | nil => intro _; exact ⟨[], rfl, rfl⟩
    | cons y ls ih =>
      intro h
      obtain ⟨bs, e1, e2⟩ := ih fun z hz => h z (List.mem_cons_of_mem _ hz)
      obtain ⟨n, rfl, hn⟩ := h y List.mem_cons_self
      refine ⟨UInt8.ofNat n.toNat :: bs, by simp [e1], ?_⟩
      have hb : 0 ≤ n ∧ n < 256 := by
        have h1 : IntKind.u8.min = 0 := rfl
        have h2 : IntKind.u8.max = 255 := rfl
        simp only [Lit.wf, h1, h2, Bool.and_eq_true, decide_eq_true_eq] at hn
        omega
      rw [List.flatten_cons, e2, List.map_cons, ofB_le _ (by omega)]
      simp [Int.toNat_of_nonneg hb.1]
  obtain ⟨bs, e1, e2⟩ := key ls h2
  exact ⟨bs, by omega, e2⟩

theorem hasPages : ∀ ls : List (List AV), (∀ y ∈ ls, Has (.arr 128 (.int .u8)) y) → ∃ bs : List UInt8, bs.length = 128 * ls.length ∧ ls.flatten = bs.map ofB
  | [], _ => ⟨[], rfl, rfl⟩
  | y :: ls, h => by
    obtain ⟨bs, e1, e2⟩ := hasPages ls fun z hz => h z (List.mem_cons_of_mem _ hz)
    obtain ⟨b1, g1, rfl⟩ := hasBytes (h y List.mem_cons_self)
    refine ⟨b1 ++ bs, by rw [List.length_append, List.length_cons]; omega, by rw [List.flatten_cons, e2, List.map_append]⟩

theorem wf_nat {k : IntKind} {n : Int} {m : Nat} (h : (Lit.int k n).wf = true) (h1 : k.min = 0) (h2 : k.max < m) : ∃ j : Nat, n = j ∧ j < m := by
  simp only [Lit.wf, h1, Bool.and_eq_true, decide_eq_true_eq] at h
  exact ⟨n.toNat, by omega, by omega⟩

theorem hasMem {xs : List AV} (h : Has memSh xs) : ∃ (bs : List UInt8) (p : Nat), bs.length = 128 * p ∧ p ≤ maxLen ∧ xs = [csl 128 (bs.map ofB)] := by
  obtain ⟨ys, zs, ⟨ls, rfl, h2, h3⟩, rfl, rfl⟩ := h
  obtain ⟨bs, e1, e2⟩ := hasPages ls h2
  exact ⟨bs, ls.length, e1, h3, by rw [e2]; rfl⟩

theorem hasRing {xs : List AV} (h : Has ringSh xs) : ∃ b s : Nat, b < 4294967296 ∧ s < 4294967296 ∧ xs = [.int .u32 b, .int .u32 s] := by
  obtain ⟨_, _, ⟨n, rfl, hn⟩, ⟨_, _, ⟨m, rfl, hm⟩, rfl, rfl⟩, rfl⟩ := h
  obtain ⟨b, rfl, hb⟩ := wf_nat (m := 4294967296) hn rfl (by decide)
  obtain ⟨s, rfl, hs⟩ := wf_nat (m := 4294967296) hm rfl (by decide)
  exact ⟨b, s, hb, hs, rfl⟩

theorem each4 {s0 s1 s2 s3 : Sh} {xss : List (List AV)} (h : Each [s0, s1, s2, s3] xss) : ∃ x0 x1 x2 x3, xss = [x0, x1, x2, x3] ∧ Has s0 x0 ∧ Has s1 x1 ∧ Has s2 x2 ∧ Has s3 x3 := by
  rcases xss with _ | ⟨x0, _ | ⟨x1, _ | ⟨x2, _ | ⟨x3, _ | ⟨x4, t⟩⟩⟩⟩⟩
  · exact h.elim
  · exact h.2.elim
  · exact h.2.2.elim
  · exact h.2.2.2.elim
  · exact ⟨x0, x1, x2, x3, rfl, h.1, h.2.1, h.2.2.1, h.2.2.2.1⟩
  · exact h.2.2.2.2.elim

theorem hasInt {k : IntKind} {xs : List AV} (h : Has (.int k) xs) : ∃ n, xs = [.int k n] ∧ (Lit.int k n).wf = true := h

theorem table0 : Table Try.prog FN := table_of (fun f p h => by cases h)

theorem four {α : Type} {ds : List α} {n : Nat} (h : ds.length = n) (hn : n = 4) : ∃ d1 d2 d3 d4, ds = [d1, d2, d3, d4] := by
  subst hn
  rcases ds with _ | ⟨x0, _ | ⟨x1, _ | ⟨x2, _ | ⟨x3, _ | ⟨x4, t⟩⟩⟩⟩⟩ <;> simp at h
  exact ⟨x0, x1, x2, x3, rfl⟩

theorem three {α : Type} {ds : List α} {n : Nat} (h : ds.length = n) (hn : n = 3) : ∃ d1 d2 d3, ds = [d1, d2, d3] := by
  subst hn
  rcases ds with _ | ⟨x0, _ | ⟨x1, _ | ⟨x2, _ | ⟨x3, t⟩⟩⟩⟩ <;> simp at h
  exact ⟨x0, x1, x2, rfl⟩

theorem each3 {s0 s1 s2 : Sh} {xss : List (List AV)} (h : Each [s0, s1, s2] xss) : ∃ x0 x1 x2, xss = [x0, x1, x2] ∧ Has s0 x0 ∧ Has s1 x1 ∧ Has s2 x2 := by
  rcases xss with _ | ⟨x0, _ | ⟨x1, _ | ⟨x2, _ | ⟨x3, t⟩⟩⟩⟩
  · exact h.elim
  · exact h.2.elim
  · exact h.2.2.elim
  · exact ⟨x0, x1, x2, rfl, h.1, h.2.1, h.2.2.1⟩
  · exact h.2.2.2.elim

theorem hasStr {xs : List AV} (h : Has .str xs) : ∃ ys : List UInt8, xs = [.str ys] := by
  obtain ⟨l, rfl, _⟩ := h
  exact ⟨l, rfl⟩

end Go.Proofs.Ythkkhmkieknemaa
