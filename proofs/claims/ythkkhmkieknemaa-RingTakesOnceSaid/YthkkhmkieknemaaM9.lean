/- Part 9 of the texts on which the proof in this folder rests: each says what it proves at its own head. No condition. -/
import Derived.Test.YthkkhmkieknemaaM8
set_option linter.unusedVariables false
set_option linter.unusedSimpArgs false
/- The third law of the ring, as it is computed. Condition: the memory's bytes are whole pages; the numbers are such as their types hold. -/
namespace Go.Proofs.Ythkkhmkieknemaa
open Go.Abs
variable {k : Nat}

theorem rd_pt0 {p : Pt} {j : Nat} {l : List Pt} (h : l[j]? = some p) : rd (ptsV l) (j * 4 + 0) 1 false = some (.int .i64 p.i) := by
  simp only [rd, Bool.false_eq_true, if_false, pts_get (t := 0) (by omega) h]; rfl

set_option maxRecDepth 100000 in
set_option maxHeartbeats 4000000 in
theorem s5 {bs : List UInt8} {p b s i : Nat} (hp : bs.length = 128 * p) (hb : b < 4294967296) (hs0 : s < 4294967296) (hi : i < 256) : Calls0 (evCall FN (k + 20000)) 5 [memV bs, ringV b s, .int .u8 i] (.bool true) := by
  have c10 : Calls0 (evCall FN (k + 19999)) 10 [] (.bool true) := s10.fuel (k := 300) (by omega)
  refine q_call0 fn5 fun T H E lv => ?_
  rcases s13x (k := 0) hp hb hs0 with c13 | ⟨c13, h⟩
  · have c13 : Calls0 (evCall FN (k + 19999)) 13 [memV bs, ringV b s] (.bool false) := c13.fuel (by omega)
    repeat (first | (apply o_nil; apply k_norm) | (apply p_mov; exact rfl) | (apply p_load; (iterate 4 exact rfl)) | (apply p_box; exact rfl; exact rfl; intro E) | (apply p_un; exact rfl; exact rfl) | (apply p_call; exact rfl; exact rfl; assumption) | apply w_seq | apply w_ops | apply k_ret | apply w_ret | (apply q_cond_true; exact rfl))
    exact q_ret (.inr rfl) rfl rfl rfl rfl rfl rfl
  have c13 : Calls0 (evCall FN (k + 19999)) 13 [memV bs, ringV b s] (.bool true) := c13.fuel (by omega)
  have hs := h.hs
  have hle := h.le
  have hl := h.m.le
  have hk : i % s < s := Nat.mod_lt _ (by omega)
  have gr : evBin .rem (.int .i64 (i : Int)) (.int .i64 (s : Int)) = some (.int .i64 ((i % s : Nat) : Int)) := rem_nn (by omega)
  have c15 : Calls0 (evCall FN (k + 19999)) 15 [memV bs, ringV b s, .int .i64 ((i % s : Nat) : Int)] _ := (s15 (k := 0) h hk).fuel (by omega)
  obtain ⟨t1, t2, t3⟩ := take_props h hk
  by_cases hE : takeE bs b s (i % s) = 0
  · obtain ⟨W, eM, e5⟩ := take_good hk hE
    rw [hE] at c15
    obtain ⟨L, hL⟩ : ∃ L, L = takeL bs b s (i % s) := ⟨_, rfl⟩
    obtain ⟨M, hM⟩ : ∃ M, M = takeM bs b s (i % s) := ⟨_, rfl⟩
    rw [← hL] at c15 W eM t1 t2 e5
    rw [← hM] at c15 eM t3
    obtain ⟨l, hl0⟩ : ∃ l, l = L.map (ptOf bs b) := ⟨_, rfl⟩
    have hpl : partsV bs b L = ptsV l := by rw [hl0, parts_pts]
    have hll : l.length = L.length := by rw [hl0, List.length_map]
    have hat : ∀ j ∈ L, b + 16 * j + 16 ≤ bs.length := fun j hj => h.at (t1 j hj)
    have hML : M.length = bs.length := by rw [eM]; exact markB_len (s := s) rfl hat
    have hatM : ∀ j ∈ L, b + 16 * j + 16 ≤ M.length := fun j hj => by rw [hML]; exact hat j hj
    have hfl := pts_flat l
    have c20 : Calls0 (evCall FN (k + 19999)) 20 [memV M, ringV b s, csl 4 (ptsV l)] (memV (markB M b 3 L)) := by
      rw [← hpl]; exact (s20 (k := 0) t3 t1 (by omega)).fuel (by omega)
    have hD := t3.markB (w := 3) t1
    have c28 : Calls0 (evCall FN (k + 19999)) 28 [memV M, memV M] (csl 1 []) := (s28t (k := 0) t3.m).fuel (by omega)
    rw [hpl] at c15
    have hl0' : l[0]? = some (ptOf bs b (i % s)) := by rw [hl0, List.getElem?_map, e5]; rfl
    have hl1 : 0 < l.length := (List.getElem?_eq_some_iff.1 hl0').1
    have r0 : rd (ptsV l) (0 * 4 + 0) 1 false = some (.int .i64 ((i % s : Nat) : Int)) := rd_pt0 hl0'
    have g0 : inB 0 ((ptsV l).length / 4) = some 0 := inB_n (a := 0) (by rw [pts_div]; omega)
    have hdv := pts_div l
    repeat (first | (apply o_nil; apply k_norm) | (apply p_mov; exact rfl) | (apply p_load; (iterate 4 exact rfl)) | (apply p_bin; exact rfl; exact rfl; (with_reducible assumption)) | (apply p_bin; exact rfl; exact rfl; (with_reducible exact neq_f (by omega))) | (apply p_fadd; exact rfl) | (apply p_box; exact rfl; exact rfl; intro E) | (apply p_new; intro E) | (apply p_store; (iterate 3 exact rfl); exact rfl; exact rfl; exact rfl) | (apply p_convA; exact rfl; (with_reducible exact w64 (by omega) (by omega))) | (apply p_len; exact rfl; exact csz_ok _ _) | (apply p_ext; exact rfl; exact rfl) | (apply p_un; exact rfl; exact rfl) | (apply p_call; exact rfl; exact rfl; assumption) | apply w_seq | apply w_ops | apply k_norm | apply w_skip | apply w_block | (apply q_cond_false; exact rfl))
    rw [pts_div]
    refine q_loop (α := Nat) (LInv.mk (fun j => j ≤ l.length) (fun j => l.length - j)
      (fun j => [(88, .int .i64 (j : Int)), (87, .int .i64 (l.length : Int)), (86, csl 4 (ptsV l)), (9, csl 4 (ptsV l)), (7, .int .i64 ((i % s : Nat) : Int)), (13, .ref 3 0), (8, .ref 2 0), (4, .ref 1 0), (3, .ref 0 0)])
      (fun j => [(3, [csl 128 ((markB M b 3 L).map ofB)]), (2, [csl 128 (M.map ofB)]), (1, [.int .u32 b, .int .u32 s]), (0, [csl 128 (bs.map ofB)])]))
      (fun _ _ c => c = 4) 0 (Nat.zero_le _) rfl (show l.length - 0 < k + 19999 by omega) ⟨rfl, rfl, rfl, rfl, rfl, rfl, rfl, rfl, rfl, trivial⟩ ⟨rfl, rfl, rfl, rfl, trivial⟩ ?_
    rintro j lv c T H E hP rfl hμ
    have hP : j ≤ l.length := hP
    clear hμ
    dsimp only
    rcases Nat.lt_or_ge j l.length with hjl | hjl
    · obtain ⟨q, hq⟩ : ∃ q, l[j]? = some q := ⟨_, List.getElem?_eq_getElem hjl⟩
      obtain ⟨x, hx⟩ : ∃ x, L[j]? = some x := ⟨_, List.getElem?_eq_getElem (by omega)⟩
      have hqx : q = ptOf bs b x := by
        have := hq
        rw [hl0, List.getElem?_map, hx] at this
        simpa using this.symm
      have hxm := List.mem_of_getElem? hx
      have hxs := t1 x hxm
      have d1 := (W.one x hxm).2.1
      have d2 : dw M b x 3 = 2 := by rw [eM, dw_markB (by omega) hat, if_pos hxm]
      have d3 : dw (markB M b 3 L) b x 3 = 3 := by rw [dw_markB (by omega) hatM, if_pos hxm]
      have gi : inB (j : Int) ((ptsV l).length / 4) = some j := inB_n (by rw [pts_div]; omega)
      have hr : rd (ptsV l) (j * 4) 4 true = some (.agg [.int .i64 x, .int .i64 (dw bs b x 0), .int .i64 (dw bs b x 1), .bool (wr bs b x)]) := by
        rw [rd_pt hq, hqx]; rfl
      obtain ⟨u1, u2, u3⟩ := take_un (bs := M) (b := b) (s := s) (i := x) (by omega)
      have cu : Calls0 (evCall FN (k + 19999)) 15 [memV M, ringV b s, .int .i64 (x : Int)] (.tup [memV M, csl 4 [], .int .i64 ((165 : Nat) : Int)]) := by
        have := s15 (k := 0) t3 hxs
        rw [u1, u2, u3] at this
        exact this.fuel (by omega)
      have ca : Calls0 (evCall FN (k + 19999)) 27 [memV bs, ringV b s, .int .i64 (x : Int)] (.int .u32 (dw bs b x 3)) := (s27 (k := 0) h hxs).fuel (by omega)
      have cb : Calls0 (evCall FN (k + 19999)) 27 [memV M, ringV b s, .int .i64 (x : Int)] (.int .u32 (dw M b x 3)) := (s27 (k := 0) t3 hxs).fuel (by omega)
      have cd : Calls0 (evCall FN (k + 19999)) 27 [memV (markB M b 3 L), ringV b s, .int .i64 (x : Int)] (.int .u32 (dw (markB M b 3 L) b x 3)) := (s27 (k := 0) hD hxs).fuel (by omega)
      repeat (first | (apply o_nil; apply k_norm) | (apply o_nil; skip) | (apply p_mov; exact rfl) | (apply p_load; (iterate 4 exact rfl)) | (apply p_bin; exact rfl; exact rfl; (with_reducible exact add_nl (by omega))) | (apply p_bin; exact rfl; exact rfl; (with_reducible exact lss_t (by omega))) | (apply p_bin; exact rfl; exact rfl; (with_reducible exact neq_f (by omega))) | (apply p_bin; exact rfl; exact rfl; exact rfl) | (apply p_fadd; exact rfl) | (apply p_new; intro E) | (apply p_store; (iterate 3 exact rfl); exact rfl; exact rfl; exact rfl) | (apply p_len; exact rfl; exact csz_ok _ _) | (apply p_ext; exact rfl; exact rfl) | (apply p_call; exact rfl; exact rfl; assumption) | (apply p_iaS; exact rfl; exact rfl; exact csz_ok _ _; (with_reducible assumption)) | (apply p_load_pp; exact rfl; (with_reducible assumption)) | (apply p_guard_yes; exact rfl) | (apply p_pick_false; exact rfl; exact rfl) | apply w_seq | apply w_ops | apply k_norm | apply w_skip | apply w_block | apply b_norm | (apply q_cond_true; exact rfl) | (apply q_cond_false; exact rfl))
      exact n_again (j + 1) (show j + 1 ≤ l.length by omega) rfl (show l.length - (j + 1) < l.length - j by omega) ⟨rfl, rfl, rfl, rfl, rfl, rfl, rfl, rfl, rfl, trivial⟩ ⟨⟨rfl, rfl⟩, ⟨rfl, rfl⟩, ⟨rfl, rfl⟩, ⟨rfl, rfl⟩, trivial⟩
    · repeat (first | (apply o_nil; apply k_norm) | (apply p_bin; exact rfl; exact rfl; (with_reducible exact lss_f (by omega))) | apply w_seq | apply w_ops | apply k_exit | apply w_exit | (apply q_cond_false; exact rfl))
      apply n_exit
      apply b_exit
      repeat (first | (apply o_nil; apply k_norm) | (apply p_mov; exact rfl) | (apply p_bin; exact rfl; exact rfl; (with_reducible exact gtr_t (by omega))) | (apply p_bin; exact rfl; exact rfl; (with_reducible exact eql_t (by omega))) | (apply p_len; exact rfl; exact csz_ok _ _) | (apply p_call; exact rfl; exact rfl; assumption) | (apply p_iaS; exact rfl; exact rfl; exact csz_ok _ _; (with_reducible assumption)) | (apply p_load_pp; exact rfl; (with_reducible assumption)) | (apply p_fadd_pp; exact rfl) | (apply p_guard_yes; exact rfl) | (apply p_pick_true; exact rfl; exact rfl) | apply w_seq | apply w_ops | apply k_norm | apply w_ret)
      exact q_ret (.inr rfl) rfl rfl rfl rfl rfl rfl
  · obtain ⟨e1, e2, e3, e4⟩ := take_bad hE
    have hun := take_un (bs := bs) (b := b) (s := s) (i := i % s)
    obtain ⟨en, hen⟩ : ∃ en, en = takeE bs b s (i % s) := ⟨_, rfl⟩
    obtain ⟨M, hM⟩ : ∃ M, M = takeM bs b s (i % s) := ⟨_, rfl⟩
    rw [← hM] at c15 e2 t3 hun
    rw [← hen] at c15 e2 e3 e4 hun
    rw [e1] at c15
    have hatk : b + 16 * (i % s) + 16 ≤ bs.length := h.at hk
    have ca : Calls0 (evCall FN (k + 19999)) 27 [memV bs, ringV b s, .int .i64 ((i % s : Nat) : Int)] (.int .u32 (dw bs b (i % s) 3)) := (s27 (k := 0) h hk).fuel (by omega)
    have cb : Calls0 (evCall FN (k + 19999)) 27 [memV M, ringV b s, .int .i64 ((i % s : Nat) : Int)] (.int .u32 (dw M b (i % s) 3)) := (s27 (k := 0) t3 hk).fuel (by omega)
    have fa : evBin .add (.int .u32 4) (.int .u32 ((en - 160 : Nat) : Int)) = some (.int .u32 ((4 + (en - 160) : Nat) : Int)) := by
      simp only [evBin, evInt, reduceCtorEq, or_self, if_false, if_true]
      rw [w32 (by omega) (by omega)]
      exact congrArg (fun z => some (AV.int .u32 z)) (by omega)
    by_cases h1 : dw bs b (i % s) 3 = 1
    · rw [if_pos h1] at e2
      have h2 : dw M b (i % s) 3 = 4 + (en - 160) := by rw [e2, dw_mark1_eq hatk (by omega)]
      repeat (first | (apply o_nil; apply k_norm) | (apply p_mov; exact rfl) | (apply p_load; (iterate 4 exact rfl)) | (apply p_bin; exact rfl; exact rfl; (with_reducible assumption)) | (apply p_bin; exact rfl; exact rfl; (with_reducible exact sub_nl (by omega))) | (apply p_bin; exact rfl; exact rfl; (with_reducible exact leq_t (by omega))) | (apply p_bin; exact rfl; exact rfl; (with_reducible exact gtr_t (by omega))) | (apply p_bin; exact rfl; exact rfl; (with_reducible exact eql_t (by omega))) | (apply p_bin; exact rfl; exact rfl; (with_reducible exact neq_t (by omega))) | (apply p_bin; exact rfl; exact rfl; (with_reducible exact neq_f (by omega))) | (apply p_fadd; exact rfl) | (apply p_box; exact rfl; exact rfl; intro E) | (apply p_new; intro E) | (apply p_store; (iterate 3 exact rfl); exact rfl; exact rfl; exact rfl) | (apply p_convA; exact rfl; (with_reducible exact w64 (by omega) (by omega))) | (apply p_convA; exact rfl; (with_reducible exact w32 (by omega) (by omega))) | (apply p_ext; exact rfl; exact rfl) | (apply p_un; exact rfl; exact rfl) | (apply p_call; exact rfl; exact rfl; assumption) | (apply p_guard_yes; exact rfl) | (apply p_guard_no; exact rfl; exact rfl) | (apply p_pick_true; exact rfl; exact rfl) | (apply p_pick_false; exact rfl; exact rfl) | apply w_seq | apply w_ops | apply k_norm | apply k_ret | apply w_ret | apply w_skip | (apply q_cond_true; exact rfl) | (apply q_cond_false; exact rfl))
      exact q_ret (.inr rfl) rfl rfl rfl rfl rfl rfl
    · rw [if_neg h1] at e2
      obtain ⟨u1, _, _⟩ := hun h1
      have h2 : dw M b (i % s) 3 = dw bs b (i % s) 3 := by rw [e2]
      repeat (first | (apply o_nil; apply k_norm) | (apply p_mov; exact rfl) | (apply p_load; (iterate 4 exact rfl)) | (apply p_bin; exact rfl; exact rfl; (with_reducible assumption)) | (apply p_bin; exact rfl; exact rfl; (with_reducible exact eql_t (by omega))) | (apply p_bin; exact rfl; exact rfl; (with_reducible exact neq_t (by omega))) | (apply p_fadd; exact rfl) | (apply p_box; exact rfl; exact rfl; intro E) | (apply p_new; intro E) | (apply p_store; (iterate 3 exact rfl); exact rfl; exact rfl; exact rfl) | (apply p_convA; exact rfl; (with_reducible exact w64 (by omega) (by omega))) | (apply p_ext; exact rfl; exact rfl) | (apply p_un; exact rfl; exact rfl) | (apply p_call; exact rfl; exact rfl; assumption) | (apply p_guard_yes; exact rfl) | (apply p_guard_no; exact rfl; exact rfl) | (apply p_guard_skip; exact rfl) | (apply p_pick_true; exact rfl; exact rfl) | apply w_seq | apply w_ops | apply k_norm | apply k_ret | apply w_ret | apply w_skip | (apply q_cond_true; exact rfl) | (apply q_cond_false; exact rfl))
      exact q_ret (.inr rfl) rfl rfl rfl rfl rfl rfl

end Go.Proofs.Ythkkhmkieknemaa
