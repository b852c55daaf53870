/- Part 9 of the texts on which the proof in this folder rests: each says what it proves at its own head. No condition. -/
import Derived.Test.YthkkhmkieknemaaM8
set_option linter.unusedVariables false
set_option linter.unusedSimpArgs false
/- Take, Fail with any error, Finish: what they come to. Condition: the memory is valid, the ring is there, the indices are of the ring. -/
namespace Go.Proofs.Ythkkhmkieknemaa
open Go.Abs
variable {k : Nat}

set_option maxRecDepth 100000 in
set_option maxHeartbeats 1000000 in
theorem s15 {bs : List UInt8} {b s i : Nat} (h : RV bs b s) (hi : i < s) : Calls0 (evCall FN (k + 10400)) 15 [memV bs, ringV b s, .int .i64 i] (.tup [memV (takeM bs b s i), csl 4 (partsV bs b (takeL bs b s i)), .int .i64 (takeE bs b s i)]) := by
  have hl := h.m.le
  have hs := h.hs
  have hle := h.le
  have hb16 := h.hb
  have c39 : Calls0 (evCall FN (k + 10399)) 39 [memV bs, ringV b s, .int .i64 i] (dcV i (dw bs b i 0) (dw bs b i 1) (wr bs b i) (dw bs b i 2) (dw bs b i 3)) := (s39' (k := 0) h hi).fuel (by omega)
  have c22 : ∀ e, 161 ≤ e → e ≤ 165 → Calls0 (evCall FN (k + 10399)) 22 [memV bs, ringV b s, .int .i64 i, .int .i64 (e : Nat)] (memV (mark1 b (4 + (e - 160)) bs i)) := fun e h1 h2 => (s22 (k := 0) h hi (by omega)).fuel (by omega)
  refine q_call0 fn15 fun T H E lv => ?_
  repeat (first | (apply o_nil; apply k_norm) | (apply p_mov; exact rfl) | (apply p_box; exact rfl; exact rfl; intro E) | (apply p_new; intro E) | apply w_seq | apply w_ops)
  apply p_mks
  · exact rfl
  · exact rfl
  · exact ⟨by decide, by decide, by decide, by decide, rfl, by decide, rfl⟩
  intro lv' l1 l2
  repeat (first | (apply o_nil; apply k_norm) | (apply p_mov; exact rfl) | apply w_seq | apply w_ops | apply k_norm | apply w_skip | apply w_block)
  refine take_loop h hi l1 ⟨rfl, rfl, rfl, rfl, rfl, rfl, rfl, rfl, rfl, trivial⟩ ⟨rfl, rfl, rfl, trivial⟩ ?_ ?_
  · intro e js n lv c T H E hw he1 he2
    obtain ⟨e1, e2, e3⟩ := take_err hw (by omega)
    have c22 := c22 e he1 he2
    rw [e1, e2, e3]
    apply b_exit
    by_cases h3 : dw bs b i 3 = 1
    · rw [if_pos h3]
      repeat (first | (apply o_nil; apply k_norm) | (apply p_mov; exact rfl) | (apply p_load; (iterate 4 exact rfl)) | (apply p_bin; exact rfl; exact rfl; (with_reducible exact eql_t (by omega))) | (apply p_store; (iterate 3 exact rfl); exact rfl; exact rfl; exact rfl) | (apply p_call; exact rfl; exact rfl; assumption) | (apply p_fld; (iterate 3 exact rfl)) | apply w_seq | apply w_ops | apply k_norm | apply w_ret | (apply q_cond_true; exact rfl))
      exact q_ret (.inr rfl) rfl rfl rfl rfl rfl rfl
    · rw [if_neg h3]
      repeat (first | (apply o_nil; apply k_norm) | (apply p_mov; exact rfl) | (apply p_load; (iterate 4 exact rfl)) | (apply p_bin; exact rfl; exact rfl; (with_reducible exact eql_f (by omega))) | (apply p_store; (iterate 3 exact rfl); exact rfl; exact rfl; exact rfl) | (apply p_call; exact rfl; exact rfl; assumption) | (apply p_fld; (iterate 3 exact rfl)) | apply w_seq | apply w_ops | apply k_norm | apply w_ret | apply w_skip | (apply q_cond_false; exact rfl))
      exact q_ret (.inr rfl) rfl rfl rfl rfl rfl rfl
  · intro br js n lv c T H E hw
    obtain ⟨e1, e2, e3⟩ := take_ok hw
    rw [e1, e2, e3]
    repeat (first | apply k_ret | apply b_ret)
    exact q_ret (.inr rfl) rfl rfl rfl rfl rfl rfl

set_option maxRecDepth 100000 in
theorem s22' {bs : List UInt8} {b s i : Nat} {e : Int} (he : e < 160 ∨ 165 < e) : Calls0 (evCall FN (k + 10300)) 22 [memV bs, ringV b s, .int .i64 i, .int .i64 e] (memV bs) := by
  refine q_call0 fn22 fun T H E lv => ?_
  rcases he with he | he
  · repeat (first | (apply o_nil; apply k_norm) | (apply p_mov; exact rfl) | (apply p_load; (iterate 4 exact rfl)) | (apply p_bin; exact rfl; exact rfl; (with_reducible exact lss_t (by omega))) | (apply p_box; exact rfl; exact rfl; intro E) | (apply p_new; intro E) | (apply p_store; (iterate 3 exact rfl); exact rfl; exact rfl; exact rfl) | (apply p_guard_no; exact rfl; exact rfl) | (apply p_pick_true; exact rfl; exact rfl) | apply w_seq | apply w_ops | apply k_ret | apply w_ret | (apply q_cond_true; exact rfl))
    exact q_ret (.inr rfl) rfl rfl rfl rfl rfl rfl
  · repeat (first | (apply o_nil; apply k_norm) | (apply p_mov; exact rfl) | (apply p_load; (iterate 4 exact rfl)) | (apply p_bin; exact rfl; exact rfl; (with_reducible exact lss_f (by omega))) | (apply p_bin; exact rfl; exact rfl; (with_reducible exact gtr_t (by omega))) | (apply p_box; exact rfl; exact rfl; intro E) | (apply p_new; intro E) | (apply p_store; (iterate 3 exact rfl); exact rfl; exact rfl; exact rfl) | (apply p_guard_yes; exact rfl) | (apply p_pick_false; exact rfl; exact rfl) | apply w_seq | apply w_ops | apply k_ret | apply w_ret | (apply q_cond_true; exact rfl))
    exact q_ret (.inr rfl) rfl rfl rfl rfl rfl rfl

set_option maxRecDepth 100000 in
theorem s23' {bs : List UInt8} {b s i : Nat} {e : Int} (he : e < 160 ∨ 165 < e) : Calls0 (evCall FN (k + 10300)) 23 [memV bs, ringV b s, .int .i64 i, .int .i64 e] (memV bs) := by
  refine q_call0 fn23 fun T H E lv => ?_
  rcases he with he | he
  · repeat (first | (apply o_nil; apply k_norm) | (apply p_mov; exact rfl) | (apply p_load; (iterate 4 exact rfl)) | (apply p_bin; exact rfl; exact rfl; (with_reducible exact lss_t (by omega))) | (apply p_box; exact rfl; exact rfl; intro E) | (apply p_new; intro E) | (apply p_store; (iterate 3 exact rfl); exact rfl; exact rfl; exact rfl) | (apply p_guard_no; exact rfl; exact rfl) | (apply p_pick_true; exact rfl; exact rfl) | apply w_seq | apply w_ops | apply k_ret | apply w_ret | (apply q_cond_true; exact rfl))
    exact q_ret (.inr rfl) rfl rfl rfl rfl rfl rfl
  · repeat (first | (apply o_nil; apply k_norm) | (apply p_mov; exact rfl) | (apply p_load; (iterate 4 exact rfl)) | (apply p_bin; exact rfl; exact rfl; (with_reducible exact lss_f (by omega))) | (apply p_bin; exact rfl; exact rfl; (with_reducible exact gtr_t (by omega))) | (apply p_box; exact rfl; exact rfl; intro E) | (apply p_new; intro E) | (apply p_store; (iterate 3 exact rfl); exact rfl; exact rfl; exact rfl) | (apply p_guard_yes; exact rfl) | (apply p_pick_false; exact rfl; exact rfl) | apply w_seq | apply w_ops | apply k_ret | apply w_ret | (apply q_cond_true; exact rfl))
    exact q_ret (.inr rfl) rfl rfl rfl rfl rfl rfl

set_option maxRecDepth 100000 in
theorem s21 {bs bs0 : List UInt8} {b s : Nat} {js : List Nat} (h : RV bs b s) (hj : ∀ j ∈ js, j < s) (hn : js.length ≤ 100) : Calls0 (evCall FN (k + 201)) 21 [memV bs, ringV b s, csl 4 (partsV bs0 b js)] (memV (markB bs b 3 js)) := by
  have c47 : Calls0 (evCall FN (k + 200)) 47 [memV bs, ringV b s, csl 4 (partsV bs0 b js), .int .i64 ((3 : Nat) : Int)] (memV (markB bs b 3 js)) := s47 h hj (by omega) hn
  refine q_call0 fn21 fun T H E lv => ?_
  repeat (first | (apply o_nil; apply k_norm) | (apply p_mov; exact rfl) | (apply p_load; (iterate 4 exact rfl)) | (apply p_box; exact rfl; exact rfl; intro E) | (apply p_new; intro E) | (apply p_store; (iterate 3 exact rfl); exact rfl; exact rfl; exact rfl) | (apply p_call; exact rfl; exact rfl; assumption) | apply w_seq | apply w_ops | apply w_ret)
  exact q_ret (.inr rfl) rfl rfl rfl rfl rfl rfl

theorem rd_part {bs : List UInt8} {b j i : Nat} {js : List Nat} (h : js[j]? = some i) : rd (partsV bs b js) (j * 4) 4 true = some (.agg (partV bs b i)) := by
  have hlt : j < js.length := (List.getElem?_eq_some_iff.1 h).1
  have hl := parts_length bs b js
  simp only [rd, if_true]
  rw [if_pos (by omega)]
  congr 2
  apply List.ext_getElem?
  intro t
  by_cases ht : t < 4
  · rw [List.getElem?_take_of_lt ht, List.getElem?_drop, parts_get ht h]
  · rw [List.getElem?_eq_none (by rw [List.length_take]; omega), List.getElem?_eq_none (by rw [partV_length]; omega)]

set_option maxRecDepth 100000 in
theorem s20 {bs bs0 : List UInt8} {b s : Nat} {js : List Nat} (h : RV bs b s) (hj : ∀ j ∈ js, j < s) (hn : js.length ≤ 100) : Calls0 (evCall FN (k + 10400)) 20 [memV bs, ringV b s, csl 4 (partsV bs0 b js)] (memV (markB bs b 3 js)) := by
  have hl := h.m.le
  have hs := h.hs
  have hle := h.le
  have hb16 := h.hb
  refine q_call0 fn20 fun T H E lv => ?_
  repeat (first | (apply o_nil; apply k_norm) | (apply p_mov; exact rfl) | (apply p_box; exact rfl; exact rfl; intro E) | (apply p_new; intro E) | (apply p_len; exact rfl; exact csz_ok _ _) | apply w_seq | apply w_ops | apply w_block)
  rw [parts_div]
  refine q_loop (α := Nat) (LInv.mk (fun j => j ≤ js.length) (fun j => js.length - j)
    (fun j => [(11, .int .i64 (j : Int)), (10, .int .i64 (js.length : Int)), (9, csl 4 (partsV bs0 b js)), (6, .ref 2 0), (4, .ref 1 0), (3, .ref 0 0)])
    (fun j => [(2, [.sl 0 0 []]), (1, [.int .u32 b, .int .u32 s]), (0, [csl 128 ((markB bs b 3 (js.take j)).map ofB)])]))
    (fun _ _ c => c = 4) 0 (Nat.zero_le _) rfl (show js.length - 0 < k + 10399 by omega) ⟨rfl, rfl, rfl, rfl, rfl, rfl, trivial⟩ ⟨rfl, rfl, rfl, trivial⟩ ?_
  rintro j lv c T H E hP rfl hμ
  have hP : j ≤ js.length := hP
  clear hμ
  dsimp only
  rcases Nat.lt_or_ge j js.length with hlt | hge
  · obtain ⟨i, hi⟩ : ∃ i, js[j]? = some i := ⟨_, List.getElem?_eq_getElem hlt⟩
    have his : i < s := hj i (List.mem_of_getElem? hi)
    have hr := rd_part (bs := bs0) (b := b) hi
    have gi : inB (j : Int) ((partsV bs0 b js).length / 4) = some j := inB_n (by rw [parts_div]; omega)
    have hV : RV (markB bs b 3 (js.take j)) b s := h.markB fun x hx => hj x (List.mem_of_mem_take hx)
    have c43 : Calls0 (evCall FN (k + 10399)) 43 [memV (markB bs b 3 (js.take j)), ringV b s, .int .i64 ((3 : Nat) : Int), csl 1 (intsV [i])] (memV (mark1 b 3 (markB bs b 3 (js.take j)) i)) := (s43 (k := 0) (js := [i]) hV (by simp [his]) (by omega) (by simp)).fuel (by omega)
    repeat (first | (apply o_nil; apply k_norm) | (apply o_nil; apply b_norm) | (apply o_nil; skip) | (apply p_mov; exact rfl) | (apply p_load; (iterate 4 exact rfl)) | (apply p_bin; exact rfl; exact rfl; (with_reducible exact add_nl (by omega))) | (apply p_bin; exact rfl; exact rfl; (with_reducible exact lss_t (by omega))) | (apply p_fadd; exact rfl) | (apply p_new; intro E) | (apply p_store; (iterate 3 exact rfl); exact rfl; exact rfl; exact rfl) | (apply p_bsl; (iterate 4 exact rfl); (simp only [List.length_cons, List.length_nil]; exact rfl)) | (apply p_call; exact rfl; exact rfl; assumption) | (apply p_iaS; exact rfl; exact rfl; exact csz_ok _ _; (with_reducible assumption)) | (apply p_load_pp; exact rfl; (with_reducible assumption)) | apply w_seq | apply w_ops | apply k_norm | apply w_skip | apply w_block | (apply q_cond_true; exact rfl))
    exact n_again (j + 1) (show j + 1 ≤ js.length by omega) rfl (show js.length - (j + 1) < js.length - j by omega) ⟨rfl, rfl, rfl, rfl, rfl, rfl, trivial⟩ ⟨⟨rfl, rfl⟩, ⟨rfl, rfl⟩, ⟨by rw [markB_take hi]; rfl, rfl⟩, trivial⟩
  · repeat (first | (apply o_nil; apply k_norm) | (apply p_bin; exact rfl; exact rfl; (with_reducible exact lss_f (by omega))) | apply w_seq | apply w_ops | apply k_exit | apply w_exit | (apply q_cond_false; exact rfl))
    apply n_exit
    apply b_exit
    repeat (first | (apply o_nil; apply k_norm) | (apply p_load; (iterate 4 exact rfl)) | (apply p_store; (iterate 3 exact rfl); exact rfl; exact rfl; exact rfl) | apply w_seq | apply w_ops | apply k_norm | apply w_ret)
    rw [List.take_of_length_le hge]
    exact q_ret (.inr rfl) rfl rfl rfl rfl rfl rfl

end Go.Proofs.Ythkkhmkieknemaa

/- First: what it comes to, and the reference's. Condition: the memory is valid, the ring is there. -/
namespace Go.Proofs.Ythkkhmkieknemaa
open Go.Abs
variable {k : Nat}

/-- The first index from a place on that is offered. -/
def fstR (bs : List UInt8) (b s pos : Nat) : Nat → Nat → Nat × Bool
  | 0, _ => (0, false)
  | f + 1, j => if dw bs b ((pos + j) % s) 3 = 1 then ((pos + j) % s, true) else fstR bs b s pos f (j + 1)

theorem fstR_step {bs : List UInt8} {b s pos j : Nat} (h : j < s) : fstR bs b s pos (s - j) j = if dw bs b ((pos + j) % s) 3 = 1 then ((pos + j) % s, true) else fstR bs b s pos (s - (j + 1)) (j + 1) := by
  obtain ⟨f, hf⟩ : ∃ f, s - j = f + 1 := ⟨s - j - 1, by omega⟩
  have hf' : s - (j + 1) = f := by omega
  rw [hf, hf', fstR]

set_option maxRecDepth 100000 in
theorem s14 {bs : List UInt8} {b s pos x : Nat} {y : Bool} (h : RV bs b s) (hp : pos < 256) (hx : fstR bs b s pos s 0 = (x, y)) : Calls0 (evCall FN (k + 100)) 14 [memV bs, ringV b s, .int .i64 pos] (.tup [.int .i64 x, .bool y]) := by
  have hl := h.m.le
  have hs := h.hs
  have hle := h.le
  have hb16 := h.hb
  refine q_call0 fn14 fun T H E lv => ?_
  repeat (first | (apply o_nil; apply k_norm) | (apply p_mov; exact rfl) | (apply p_load; (iterate 4 exact rfl)) | (apply p_fadd; exact rfl) | (apply p_box; exact rfl; exact rfl; intro E) | (apply p_convA; exact rfl; (with_reducible exact w64 (by omega) (by omega))) | apply w_seq | apply w_ops | apply w_block)
  refine q_loop (α := Nat) (LInv.mk (fun j => j ≤ s ∧ fstR bs b s pos (s - j) j = (x, y)) (fun j => s - j)
    (fun j => [(13, .int .i64 (j : Int)), (12, .int .i64 (s : Int)), (4, .ref 1 0), (3, .ref 0 0), (2, .int .i64 pos)])
    (fun j => [(1, [.int .u32 b, .int .u32 s]), (0, [csl 128 (bs.map ofB)])]))
    (fun _ _ c => c = 4) 0 ⟨Nat.zero_le _, hx⟩ rfl (show s - 0 < k + 99 by omega) ⟨rfl, rfl, rfl, rfl, rfl, trivial⟩ ⟨rfl, rfl, trivial⟩ ?_
  rintro j lv c T H E ⟨hP, hj⟩ rfl hμ
  have hP : j ≤ s := hP
  have hj : fstR bs b s pos (s - j) j = (x, y) := hj
  clear hμ
  dsimp only
  rcases Nat.lt_or_ge j s with hlt | hge
  · rw [fstR_step hlt] at hj
    have his : (pos + j) % s < s := Nat.mod_lt _ (by omega)
    have c39 : Calls0 (evCall FN (k + 99)) 39 [memV bs, ringV b s, .int .i64 (((pos + j) % s : Nat) : Int)] (dcV ((pos + j) % s) (dw bs b ((pos + j) % s) 0) (dw bs b ((pos + j) % s) 1) (wr bs b ((pos + j) % s)) (dw bs b ((pos + j) % s) 2) (dw bs b ((pos + j) % s) 3)) := (s39' (k := 0) h his).fuel (by omega)
    have gr : evBin .rem (.int .i64 ((pos + j : Nat) : Int)) (.int .i64 (s : Int)) = some (.int .i64 (((pos + j) % s : Nat) : Int)) := rem_nn (by omega)
    by_cases hd : dw bs b ((pos + j) % s) 3 = 1
    · rw [if_pos hd, Prod.mk.injEq] at hj
      obtain ⟨rfl, rfl⟩ := hj
      repeat (first | (apply o_nil; apply k_norm) | (apply p_mov; exact rfl) | (apply p_load; (iterate 4 exact rfl)) | (apply p_bin; exact rfl; exact rfl; (with_reducible assumption)) | (apply p_bin; exact rfl; exact rfl; (with_reducible exact add_nn (by omega))) | (apply p_bin; exact rfl; exact rfl; (with_reducible exact lss_t (by omega))) | (apply p_bin; exact rfl; exact rfl; (with_reducible exact eql_t (by omega))) | (apply p_fadd; exact rfl) | (apply p_convA; exact rfl; (with_reducible exact w64 (by omega) (by omega))) | (apply p_call; exact rfl; exact rfl; assumption) | (apply p_fld; (iterate 3 exact rfl)) | apply w_seq | apply w_ops | apply k_norm | apply k_ret | apply w_ret | apply w_skip | apply w_block | apply b_ret | (apply q_cond_true; exact rfl))
      apply n_ret
      repeat (first | apply k_ret | apply b_ret)
      exact q_ret (.inr rfl) rfl rfl rfl rfl rfl rfl
    · rw [if_neg hd] at hj
      repeat (first | (apply o_nil; apply k_norm) | (apply o_nil; skip) | (apply p_mov; exact rfl) | (apply p_load; (iterate 4 exact rfl)) | (apply p_bin; exact rfl; exact rfl; (with_reducible assumption)) | (apply p_bin; exact rfl; exact rfl; (with_reducible exact add_nn (by omega))) | (apply p_bin; exact rfl; exact rfl; (with_reducible exact add_nl (by omega))) | (apply p_bin; exact rfl; exact rfl; (with_reducible exact lss_t (by omega))) | (apply p_bin; exact rfl; exact rfl; (with_reducible exact eql_f (by omega))) | (apply p_fadd; exact rfl) | (apply p_convA; exact rfl; (with_reducible exact w64 (by omega) (by omega))) | (apply p_call; exact rfl; exact rfl; assumption) | (apply p_fld; (iterate 3 exact rfl)) | apply w_seq | apply w_ops | apply k_norm | apply w_skip | apply w_block | apply b_norm | (apply q_cond_true; exact rfl) | (apply q_cond_false; exact rfl))
      exact n_again (j + 1) ⟨by omega, hj⟩ rfl (show s - (j + 1) < s - j by omega) ⟨rfl, rfl, rfl, rfl, rfl, trivial⟩ ⟨⟨rfl, rfl⟩, ⟨rfl, rfl⟩, trivial⟩
  · have hjs : s - j = 0 := by omega
    rw [hjs, fstR, Prod.mk.injEq] at hj
    obtain ⟨rfl, rfl⟩ := hj
    repeat (first | (apply o_nil; apply k_norm) | (apply p_bin; exact rfl; exact rfl; (with_reducible exact lss_f (by omega))) | apply w_seq | apply w_ops | apply k_exit | apply w_exit | (apply q_cond_false; exact rfl))
    apply n_exit
    apply b_exit
    repeat (first | (apply o_nil; apply k_norm) | (apply p_mov; exact rfl) | apply w_seq | apply w_ops | apply k_norm | apply w_ret)
    exact q_ret (.inr rfl) rfl rfl rfl rfl rfl rfl

set_option maxRecDepth 100000 in
theorem s16 {bs : List UInt8} {b s pos x : Nat} {y : Bool} (h : RV bs b s) (hp : pos < 256) (hx : fstR bs b s pos s 0 = (x, y)) : Calls0 (evCall FN (k + 100)) 16 [memV bs, ringV b s, .int .i64 pos] (.agg [.int .i64 x, .bool y]) := by
  have hl := h.m.le
  have hs := h.hs
  have hle := h.le
  have hb16 := h.hb
  refine q_call0 fn16 fun T H E lv => ?_
  repeat (first | (apply o_nil; apply k_norm) | (apply p_mov; exact rfl) | (apply p_load; (iterate 4 exact rfl)) | (apply p_fadd; exact rfl) | (apply p_box; exact rfl; exact rfl; intro E) | (apply p_new; intro E) | (apply p_convA; exact rfl; (with_reducible exact w64 (by omega) (by omega))) | apply w_seq | apply w_ops | apply w_block)
  refine q_loop (α := Nat) (LInv.mk (fun j => j ≤ s ∧ fstR bs b s pos (s - j) j = (x, y)) (fun j => s - j)
    (fun j => [(8, .int .i64 (j : Int)), (7, .int .i64 (s : Int)), (6, .ref 2 0), (4, .ref 1 0), (3, .ref 0 0), (2, .int .i64 pos)])
    (fun j => [(2, [.int .i64 0, .bool false]), (1, [.int .u32 b, .int .u32 s]), (0, [csl 128 (bs.map ofB)])]))
    (fun _ _ c => c = 4) 0 ⟨Nat.zero_le _, hx⟩ rfl (show s - 0 < k + 99 by omega) ⟨rfl, rfl, rfl, rfl, rfl, rfl, trivial⟩ ⟨rfl, rfl, rfl, trivial⟩ ?_
  rintro j lv c T H E ⟨hP, hj⟩ rfl hμ
  have hP : j ≤ s := hP
  have hj : fstR bs b s pos (s - j) j = (x, y) := hj
  clear hμ
  dsimp only
  rcases Nat.lt_or_ge j s with hlt | hge
  · rw [fstR_step hlt] at hj
    have his : (pos + j) % s < s := Nat.mod_lt _ (by omega)
    have c44 : Calls0 (evCall FN (k + 99)) 44 [memV bs, ringV b s, .int .i64 (((pos + j) % s : Nat) : Int), .int .i64 ((3 : Nat) : Int)] (.int .i64 (dw bs b ((pos + j) % s) 3)) := (s44 (k := 0) h his (by omega)).fuel (by omega)
    have gr : evBin .rem (.int .i64 ((pos + j : Nat) : Int)) (.int .i64 (s : Int)) = some (.int .i64 (((pos + j) % s : Nat) : Int)) := rem_nn (by omega)
    by_cases hd : dw bs b ((pos + j) % s) 3 = 1
    · rw [if_pos hd, Prod.mk.injEq] at hj
      obtain ⟨rfl, rfl⟩ := hj
      repeat (first | (apply o_nil; apply k_norm) | (apply p_mov; exact rfl) | (apply p_load; (iterate 4 exact rfl)) | (apply p_bin; exact rfl; exact rfl; (with_reducible assumption)) | (apply p_bin; exact rfl; exact rfl; (with_reducible exact add_nn (by omega))) | (apply p_bin; exact rfl; exact rfl; (with_reducible exact lss_t (by omega))) | (apply p_bin; exact rfl; exact rfl; (with_reducible exact eql_t (by omega))) | (apply p_store; (iterate 3 exact rfl); exact rfl; exact rfl; exact rfl) | (apply p_build; exact rfl; exact rfl) | (apply p_call; exact rfl; exact rfl; assumption) | apply w_seq | apply w_ops | apply k_norm | apply k_ret | apply w_ret | apply w_skip | apply w_block | apply b_ret | (apply q_cond_true; exact rfl))
      apply n_ret
      repeat (first | apply k_ret | apply b_ret)
      exact q_ret (.inr rfl) rfl rfl rfl rfl rfl rfl
    · rw [if_neg hd] at hj
      repeat (first | (apply o_nil; apply k_norm) | (apply o_nil; skip) | (apply p_mov; exact rfl) | (apply p_load; (iterate 4 exact rfl)) | (apply p_bin; exact rfl; exact rfl; (with_reducible assumption)) | (apply p_bin; exact rfl; exact rfl; (with_reducible exact add_nn (by omega))) | (apply p_bin; exact rfl; exact rfl; (with_reducible exact add_nl (by omega))) | (apply p_bin; exact rfl; exact rfl; (with_reducible exact lss_t (by omega))) | (apply p_bin; exact rfl; exact rfl; (with_reducible exact eql_f (by omega))) | (apply p_call; exact rfl; exact rfl; assumption) | apply w_seq | apply w_ops | apply k_norm | apply w_skip | apply w_block | apply b_norm | (apply q_cond_true; exact rfl) | (apply q_cond_false; exact rfl))
      exact n_again (j + 1) ⟨by omega, hj⟩ rfl (show s - (j + 1) < s - j by omega) ⟨rfl, rfl, rfl, rfl, rfl, rfl, trivial⟩ ⟨⟨rfl, rfl⟩, ⟨rfl, rfl⟩, ⟨rfl, rfl⟩, trivial⟩
  · have hjs : s - j = 0 := by omega
    rw [hjs, fstR, Prod.mk.injEq] at hj
    obtain ⟨rfl, rfl⟩ := hj
    repeat (first | (apply o_nil; apply k_norm) | (apply p_mov; exact rfl) | (apply p_bin; exact rfl; exact rfl; (with_reducible exact lss_f (by omega))) | apply w_seq | apply w_ops | apply k_exit | apply w_exit | (apply q_cond_false; exact rfl))
    apply n_exit
    apply b_exit
    repeat (first | (apply o_nil; apply k_norm) | (apply p_store; (iterate 3 exact rfl); exact rfl; exact rfl; exact rfl) | (apply p_build; exact rfl; exact rfl) | apply w_seq | apply w_ops | apply k_norm | apply w_ret)
    exact q_ret (.inr rfl) rfl rfl rfl rfl rfl rfl

end Go.Proofs.Ythkkhmkieknemaa

/- What is valid, and what is there. Condition: the numbers of the ring are words. -/
namespace Go.Proofs.Ythkkhmkieknemaa
open Go.Abs
variable {k : Nat}

set_option maxRecDepth 100000 in
theorem s9t {bs : List UInt8} (h : VM bs) : Calls0 (evCall FN (k + 1)) 9 [memV bs] (.bool true) := by
  have hl := h.le
  have hd : (bs.map ofB).length / 128 = bs.length / 128 := by rw [List.length_map]
  refine q_call0 fn9 fun T H E lv => ?_
  repeat (first | (apply o_nil; apply k_norm) | (apply p_mov; exact rfl) | (apply p_load; (iterate 4 exact rfl)) | (apply p_bin; exact rfl; exact rfl; (with_reducible exact leq_t (by omega))) | (apply p_bin; exact rfl; exact rfl; (with_reducible exact geq_t (by omega))) | (apply p_fadd; exact rfl) | (apply p_box; exact rfl; exact rfl; intro E) | (apply p_len; exact rfl; exact csz_ok _ _) | (apply p_guard_yes; exact rfl) | (apply p_pick_true; exact rfl; exact rfl) | apply w_seq | apply w_ops | apply w_ret)
  exact q_ret (.inr rfl) rfl rfl rfl rfl rfl rfl

set_option maxRecDepth 100000 in
theorem s9f {bs : List UInt8} {p : Nat} (hp : bs.length = 128 * p) (h : p = 0 ∨ 64 < p) : Calls0 (evCall FN (k + 1)) 9 [memV bs] (.bool false) := by
  have hd : (bs.map ofB).length / 128 = p := by rw [List.length_map]; omega
  refine q_call0 fn9 fun T H E lv => ?_
  rcases h with h | h
  · repeat (first | (apply o_nil; apply k_norm) | (apply p_mov; exact rfl) | (apply p_load; (iterate 4 exact rfl)) | (apply p_bin; exact rfl; exact rfl; (with_reducible exact geq_f (by omega))) | (apply p_fadd; exact rfl) | (apply p_box; exact rfl; exact rfl; intro E) | (apply p_len; exact rfl; exact csz_ok _ _) | (apply p_guard_no; exact rfl; exact rfl) | (apply p_pick_false; exact rfl; exact rfl) | apply w_seq | apply w_ops | apply w_ret)
    exact q_ret (.inr rfl) rfl rfl rfl rfl rfl rfl
  · repeat (first | (apply o_nil; apply k_norm) | (apply p_mov; exact rfl) | (apply p_load; (iterate 4 exact rfl)) | (apply p_bin; exact rfl; exact rfl; (with_reducible exact leq_f (by omega))) | (apply p_bin; exact rfl; exact rfl; (with_reducible exact geq_t (by omega))) | (apply p_fadd; exact rfl) | (apply p_box; exact rfl; exact rfl; intro E) | (apply p_len; exact rfl; exact csz_ok _ _) | (apply p_guard_yes; exact rfl) | (apply p_pick_true; exact rfl; exact rfl) | apply w_seq | apply w_ops | apply w_ret)
    exact q_ret (.inr rfl) rfl rfl rfl rfl rfl rfl

/-- Whether a ring is there, as a number. -/
def chkN (n b s : Nat) : Nat := if (s = 1 ∨ s = 2 ∨ s = 4 ∨ s = 8) ∧ b % 16 = 0 ∧ b + 16 * s ≤ n then 0 else 160

theorem chkN_ok {bs : List UInt8} {b s : Nat} (h : VM bs) (hc : chkN bs.length b s = 0) : RV bs b s := by
  unfold chkN at hc
  split at hc
  · next h1 => exact ⟨h, h1.1, h1.2.1, h1.2.2⟩
  · omega

theorem rem_u32 (b : Nat) : evBin .rem (.int .u32 (b : Int)) (.int .u32 16) = some (.int .u32 ((b % 16 : Nat) : Int)) := by
  simp only [evBin, reduceCtorEq, or_self, if_false, if_true, evInt]
  rw [if_neg (by decide), Int.tmod_eq_emod_of_nonneg (by omega)]
  simp

set_option maxRecDepth 100000 in
theorem s11 {bs : List UInt8} {b s : Nat} (h : VM bs) (hb : b < 4294967296) (hs : s < 4294967296) : Calls0 (evCall FN (k + 2)) 11 [memV bs, ringV b s] (.int .i64 (chkN bs.length b s)) := by
  have hl := h.le
  have gr := rem_u32 b
  have c34 : Calls0 (evCall FN (k + 1)) 34 [memV bs] (.int .i64 bs.length) := s34 h
  refine q_call0 fn11 fun T H E lv => ?_
  repeat' (first | (apply o_nil; apply k_norm) | (apply p_mov; exact rfl) | (apply p_load; (iterate 4 exact rfl)) | (apply p_bin; exact rfl; exact rfl; (with_reducible assumption)) | (apply p_bin; exact rfl; exact rfl; (with_reducible exact add_nn (by omega))) | (apply p_bin; exact rfl; exact rfl; (with_reducible exact mul_ln (by omega))) | (apply p_leq_split; exact rfl; exact rfl; all_goals intro hc) | (apply p_eql_split; exact rfl; exact rfl; all_goals intro hc) | (apply p_fadd; exact rfl) | (apply p_box; exact rfl; exact rfl; intro E) | (apply p_convA; exact rfl; (with_reducible exact w64 (by omega) (by omega))) | (apply p_call; exact rfl; exact rfl; assumption) | (apply p_guard_yes; exact rfl) | (apply p_guard_no; exact rfl; exact rfl) | (apply p_pick_true; exact rfl; exact rfl) | (apply p_pick_false; exact rfl; exact rfl) | apply w_seq | apply w_ops | apply k_norm | apply k_ret | apply w_ret | apply w_skip | apply w_block | apply b_norm | apply b_ret | (apply q_cond_true; exact rfl) | (apply q_cond_false; exact rfl))
  all_goals
    refine q_ret (.inr rfl) rfl rfl rfl rfl ?_ rfl
    refine congrArg (AV.int .i64) ?_
    unfold chkN
    split <;> omega

set_option maxRecDepth 100000 in
theorem s12 {bs : List UInt8} {b s : Nat} (h : VM bs) (hb : b < 4294967296) (hs : s < 4294967296) : Calls0 (evCall FN (k + 2)) 12 [memV bs, ringV b s] (.int .i64 (chkN bs.length b s)) := by
  have hl := h.le
  have gr := rem_u32 b
  have c38 : Calls0 (evCall FN (k + 1)) 38 [memV bs] (.int .i64 bs.length) := s38 h
  refine q_call0 fn12 fun T H E lv => ?_
  repeat' (first | (apply o_nil; apply k_norm) | (apply p_mov; exact rfl) | (apply p_load; (iterate 4 exact rfl)) | (apply p_bin; exact rfl; exact rfl; (with_reducible assumption)) | (apply p_bin; exact rfl; exact rfl; (with_reducible exact add_nn (by omega))) | (apply p_bin; exact rfl; exact rfl; (with_reducible exact mul_ln (by omega))) | (apply p_gtr_split; exact rfl; exact rfl; all_goals intro hc) | (apply p_neq_split; exact rfl; exact rfl; all_goals intro hc) | (apply p_fadd; exact rfl) | (apply p_box; exact rfl; exact rfl; intro E) | (apply p_convA; exact rfl; (with_reducible exact w64 (by omega) (by omega))) | (apply p_call; exact rfl; exact rfl; assumption) | (apply p_guard_yes; exact rfl) | (apply p_guard_no; exact rfl; exact rfl) | (apply p_pick_true; exact rfl; exact rfl) | (apply p_pick_false; exact rfl; exact rfl) | apply w_seq | apply w_ops | apply k_norm | apply k_ret | apply w_ret | apply w_skip | (apply q_cond_true; exact rfl) | (apply q_cond_false; exact rfl))
  all_goals
    refine q_ret (.inr rfl) rfl rfl rfl rfl ?_ rfl
    refine congrArg (AV.int .i64) ?_
    unfold chkN
    split <;> omega

set_option maxRecDepth 100000 in
theorem s13 {bs : List UInt8} {b s : Nat} {v : Bool} (h : VM bs) (hb : b < 4294967296) (hs : s < 4294967296) (hv : decide (chkN bs.length b s = 0) = v) : Calls0 (evCall FN (k + 3)) 13 [memV bs, ringV b s] (.bool v) := by
  have c9 : Calls0 (evCall FN (k + 2)) 9 [memV bs] (.bool true) := (s9t (k := 0) h).fuel (by omega)
  have c12 : Calls0 (evCall FN (k + 2)) 12 [memV bs, ringV b s] (.int .i64 (chkN bs.length b s)) := s12 h hb hs
  refine q_call0 fn13 fun T H E lv => ?_
  by_cases hc : chkN bs.length b s = 0
  · rw [decide_eq_true hc] at hv
    subst hv
    repeat (first | (apply o_nil; apply k_norm) | (apply p_mov; exact rfl) | (apply p_load; (iterate 4 exact rfl)) | (apply p_bin; exact rfl; exact rfl; (with_reducible exact eql_t (by omega))) | (apply p_box; exact rfl; exact rfl; intro E) | (apply p_call; exact rfl; exact rfl; assumption) | (apply p_guard_yes; exact rfl) | (apply p_pick_true; exact rfl; exact rfl) | apply w_seq | apply w_ops | apply w_ret)
    exact q_ret (.inr rfl) rfl rfl rfl rfl rfl rfl
  · rw [decide_eq_false hc] at hv
    subst hv
    repeat (first | (apply o_nil; apply k_norm) | (apply p_mov; exact rfl) | (apply p_load; (iterate 4 exact rfl)) | (apply p_bin; exact rfl; exact rfl; (with_reducible exact eql_f (by omega))) | (apply p_box; exact rfl; exact rfl; intro E) | (apply p_call; exact rfl; exact rfl; assumption) | (apply p_guard_yes; exact rfl) | (apply p_pick_true; exact rfl; exact rfl) | apply w_seq | apply w_ops | apply w_ret)
    exact q_ret (.inr rfl) rfl rfl rfl rfl rfl rfl

end Go.Proofs.Ythkkhmkieknemaa

/- The same lists, and the same memories, are found to be the same. Condition: the memory is valid. -/
namespace Go.Proofs.Ythkkhmkieknemaa
open Go.Abs
variable {k : Nat}

theorem eqK_part (bs : List UInt8) (b i : Nat) : eqKs [0, 0, 0, 1] (partV bs b i) (partV bs b i) = some true := by simp [eqKs, eqK, partV]

theorem eqK_bytes : ∀ (n : Nat) (xs : List UInt8), xs.length = n → eqKs (List.replicate n 0) (xs.map ofB) (xs.map ofB) = some true
  | 0, [], _ => rfl
  | n + 1, x :: xs, h => by
    have ih := eqK_bytes n xs (by simpa using h)
    simp only [List.replicate_succ, List.map_cons, eqKs, ih, ofB, eqK, if_true, beq_self_eq_true, Bool.and_self]

set_option maxRecDepth 100000 in
theorem s18t {bs : List UInt8} {b : Nat} {js : List Nat} (hn : js.length ≤ 100) : Calls0 (evCall FN (k + 200)) 18 [csl 4 (partsV bs b js), csl 4 (partsV bs b js)] (.bool true) := by
  have hd := parts_div bs b js
  refine q_call0 fn18 fun T H E lv => ?_
  repeat (first | (apply o_nil; apply k_norm) | (apply p_mov; exact rfl) | (apply p_bin; exact rfl; exact rfl; (with_reducible exact neq_f (by omega))) | (apply p_len; exact rfl; exact csz_ok _ _) | apply w_seq | apply w_ops | apply k_norm | apply w_skip | apply w_block | (apply q_cond_false; exact rfl))
  refine q_loop (α := Nat) (LInv.mk (fun j => j ≤ js.length) (fun j => js.length - j)
    (fun j => [(5, .int .i64 (j : Int)), (0, csl 4 (partsV bs b js)), (1, csl 4 (partsV bs b js))]) (fun j => []))
    (fun _ _ c => c = 4) 0 (Nat.zero_le _) rfl (show js.length - 0 < k + 199 by omega) ⟨rfl, rfl, rfl, trivial⟩ trivial ?_
  rintro j lv c T H E hP rfl hμ
  have hP : j ≤ js.length := hP
  clear hμ
  dsimp only
  rcases Nat.lt_or_ge j js.length with hlt | hge
  · obtain ⟨i, hi⟩ : ∃ i, js[j]? = some i := ⟨_, List.getElem?_eq_getElem hlt⟩
    have hr := rd_part (bs := bs) (b := b) hi
    have gi : inB (j : Int) ((partsV bs b js).length / 4) = some j := inB_n (by rw [parts_div]; omega)
    repeat (first | (apply o_nil; apply k_norm) | (apply p_mov; exact rfl) | (apply p_bin; exact rfl; exact rfl; (with_reducible exact lss_t (by omega))) | (apply p_len; exact rfl; exact csz_ok _ _) | (apply p_iaS; exact rfl; exact rfl; exact csz_ok _ _; (with_reducible assumption)) | (apply p_load_pp; exact rfl; (with_reducible assumption)) | apply w_seq | apply w_ops | apply k_norm | apply w_skip | apply w_block | (apply q_cond_true; exact rfl))
    apply p_eqA
    · exact rfl
    · exact rfl
    · exact eqK_part _ _ _
    repeat (first | (apply o_nil; apply k_norm) | (apply o_nil; skip) | (apply p_mov; exact rfl) | (apply p_bin; exact rfl; exact rfl; (with_reducible exact add_nl (by omega))) | apply w_ops | apply k_norm | apply w_skip | apply b_norm | (apply q_cond_false; exact rfl))
    exact n_again (j + 1) (show j + 1 ≤ js.length by omega) rfl (show js.length - (j + 1) < js.length - j by omega) ⟨rfl, rfl, rfl, trivial⟩ trivial
  · repeat (first | (apply o_nil; apply k_norm) | (apply p_mov; exact rfl) | (apply p_bin; exact rfl; exact rfl; (with_reducible exact lss_f (by omega))) | (apply p_len; exact rfl; exact csz_ok _ _) | apply w_seq | apply w_ops | apply k_exit | apply w_exit | (apply q_cond_false; exact rfl))
    apply n_exit
    apply b_exit
    repeat (first | (apply o_nil; apply k_norm) | (apply p_mov; exact rfl) | apply w_seq | apply w_ops | apply k_norm | apply w_ret)
    exact q_ret (.inr rfl) rfl rfl rfl rfl rfl rfl

set_option maxRecDepth 100000 in
set_option maxHeartbeats 1000000 in
theorem s48t {bs : List UInt8} (h : VM bs) : Calls0 (evCall FN (k + 200)) 48 [memV bs, memV bs] (csl 1 []) := by
  have hl := h.le
  obtain ⟨P, hP1, hP2, hP3⟩ := h
  have hd : (bs.map ofB).length / 128 = P := by rw [List.length_map]; omega
  have hmx : (if true = true then max ((P : Nat) : Int) P else min ((P : Nat) : Int) P) = P := by simp
  refine q_call0 fn48 fun T H E lv => ?_
  repeat (first | (apply o_nil; apply k_norm) | (apply p_mov; exact rfl) | (apply p_box; exact rfl; exact rfl; intro E) | apply w_seq | apply w_ops | apply w_block)
  refine q_loop (α := Nat) (LInv.mk (fun j => j ≤ P) (fun j => P - j)
    (fun j => [(6, .int .i64 (j : Int)), (5, .sl 0 0 []), (2, .ref 0 0), (3, .ref 1 0)]) (fun j => [(1, [csl 128 (bs.map ofB)]), (0, [csl 128 (bs.map ofB)])]))
    (fun _ _ c => c = 4) 0 (Nat.zero_le _) rfl (show P - 0 < k + 199 by omega) ⟨rfl, rfl, rfl, rfl, trivial⟩ ⟨rfl, rfl, trivial⟩ ?_
  rintro j lv c T H E hP rfl hμ
  have hP : j ≤ P := hP
  clear hμ
  dsimp only
  rcases Nat.lt_or_ge j P with hlt | hge
  · have hr : rd (bs.map ofB) (j * 128) 128 true = some (.agg (((bs.drop (j * 128)).take 128).map ofB)) := by
      simp only [rd, if_true]
      rw [if_pos (by rw [List.length_map]; omega), List.map_take, List.map_drop]
    have he := eqK_bytes 128 ((bs.drop (j * 128)).take 128) (by rw [List.length_take, List.length_drop]; omega)
    repeat (first | (apply p_mov; exact rfl) | (apply p_load; (iterate 4 exact rfl)) | (apply p_fadd; exact rfl) | (apply p_len; exact rfl; exact csz_ok _ _) | apply w_seq | apply w_ops)
    apply p_mn2
    · exact rfl
    · exact rfl
    rw [hd, hmx]
    repeat (first | (apply o_nil; apply k_norm) | (apply p_mov; exact rfl) | (apply p_load; (iterate 4 exact rfl)) | (apply p_bin; exact rfl; exact rfl; (with_reducible exact lss_t (by omega))) | (apply p_bin; exact rfl; exact rfl; (with_reducible exact geq_f (by omega))) | (apply p_fadd; exact rfl) | (apply p_len; exact rfl; exact csz_ok _ _) | (apply p_iaS; exact rfl; exact rfl; exact csz_ok _ _; (with_reducible exact inB_n (by simp only [List.length_map, List.length_cons, List.length_nil]; omega))) | (apply p_load_pp; exact rfl; (with_reducible assumption)) | (apply p_guard_yes; exact rfl) | (apply p_pick_false; exact rfl; exact rfl) | apply w_seq | apply w_ops | apply k_norm | apply w_skip | apply w_block | (apply q_cond_true; exact rfl))
    apply p_eqA
    · exact rfl
    · exact rfl
    · exact he
    repeat (first | (apply o_nil; apply k_norm) | (apply o_nil; skip) | (apply p_mov; exact rfl) | (apply p_bin; exact rfl; exact rfl; (with_reducible exact add_nl (by omega))) | (apply p_pick_false; exact rfl; exact rfl) | apply w_ops | apply k_norm | apply w_skip | apply b_norm | (apply q_cond_false; exact rfl))
    exact n_again (j + 1) (show j + 1 ≤ P by omega) rfl (show P - (j + 1) < P - j by omega) ⟨rfl, rfl, rfl, rfl, trivial⟩ ⟨⟨rfl, rfl⟩, ⟨rfl, rfl⟩, trivial⟩
  · repeat (first | (apply p_mov; exact rfl) | (apply p_load; (iterate 4 exact rfl)) | (apply p_fadd; exact rfl) | (apply p_len; exact rfl; exact csz_ok _ _) | apply w_seq | apply w_ops)
    apply p_mn2
    · exact rfl
    · exact rfl
    rw [hd, hmx]
    repeat (first | (apply o_nil; apply k_norm) | (apply p_bin; exact rfl; exact rfl; (with_reducible exact lss_f (by omega))) | apply k_exit | apply w_exit | (apply q_cond_false; exact rfl))
    apply n_exit
    apply b_exit
    repeat (first | (apply o_nil; apply k_norm) | (apply p_mov; exact rfl) | apply w_seq | apply w_ops | apply k_norm | apply w_ret)
    exact q_ret (.inr rfl) rfl rfl rfl rfl rfl rfl

set_option maxRecDepth 100000 in
theorem s19t {bs : List UInt8} (h : VM bs) : Calls0 (evCall FN (k + 201)) 19 [memV bs, memV bs] (.bool true) := by
  have c48 : Calls0 (evCall FN (k + 200)) 48 [memV bs, memV bs] (csl 1 []) := s48t h
  refine q_call0 fn19 fun T H E lv => ?_
  repeat (first | (apply o_nil; apply k_norm) | (apply p_mov; exact rfl) | (apply p_load; (iterate 4 exact rfl)) | (apply p_bin; exact rfl; exact rfl; exact rfl) | (apply p_box; exact rfl; exact rfl; intro E) | (apply p_len; exact rfl; exact csz_ok _ _) | (apply p_call; exact rfl; exact rfl; assumption) | apply w_seq | apply w_ops | apply w_ret)
  exact q_ret (.inr rfl) rfl rfl rfl rfl rfl rfl

end Go.Proofs.Ythkkhmkieknemaa

/- The first law of the ring, as it is computed. Condition: the memory's bytes are whole pages; the numbers are such as their types hold. -/
namespace Go.Proofs.Ythkkhmkieknemaa
open Go.Abs
variable {k : Nat}

theorem walk_props {bs : List UInt8} {b s : Nat} : ∀ (f : Nat) (js : List Nat) (i : Nat), (∀ j ∈ js, j < s) → i < s → (∀ j ∈ (walk bs b s f js i).1, j < s) ∧ (walk bs b s f js i).1.length ≤ js.length + f
  | 0, js, i, h, _ => ⟨h, Nat.le_refl _⟩
  | f + 1, js, i, h, hi => by
    unfold walk
    have hs : ∀ j ∈ js ++ [i], j < s := by
      intro j hj
      rcases List.mem_append.1 hj with hh | hh
      · exact h j hh
      · rw [List.mem_singleton] at hh; omega
    split
    · exact ⟨h, Nat.le_add_right _ _⟩
    · next he =>
      split
      · next hm =>
        have ok := errAt_ok (Decidable.not_not.1 he)
        have ih := walk_props (bs := bs) (b := b) f (js ++ [i]) (dw bs b i 2 / 256 % 256) hs (ok.2.2.2.2.2.2 hm)
        refine ⟨ih.1, ?_⟩
        have := ih.2
        rw [List.length_append, List.length_singleton] at this
        omega
      · refine ⟨hs, ?_⟩
        show (js ++ [i]).length ≤ _
        rw [List.length_append, List.length_singleton]; omega

theorem take_props {bs : List UInt8} {b s i : Nat} (h : RV bs b s) (hi : i < s) : (∀ j ∈ takeL bs b s i, j < s) ∧ (takeL bs b s i).length ≤ 5 ∧ RV (takeM bs b s i) b s := by
  obtain ⟨p1, p2⟩ := walk_props (bs := bs) (b := b) 5 [] i (by simp) hi
  obtain ⟨W, hW⟩ : ∃ W, W = walk bs b s 5 [] i := ⟨_, rfl⟩
  unfold takeL takeM
  rw [← hW] at p1 p2 ⊢
  obtain ⟨js, e⟩ := W
  unfold tL tM
  split
  · exact ⟨p1, by simpa using p2, h.markB p1⟩
  · refine ⟨by simp, by simp, ?_⟩
    split
    · exact h.mark1 hi
    · exact h

theorem s10l : call0 (evCall FNl 300) 10 [] = some (.bool true) := by kernel_rfl
theorem s10 : Calls0 (evCall FN (k + 300)) 10 [] (.bool true) :=
  Calls0.fuel (k := 300) ⟨call0_mono (evCall_mono (fun f d h => FNl_le f d h) 300 300 (Nat.le_refl _)) s10l⟩ (by omega)

set_option maxRecDepth 100000 in
set_option maxHeartbeats 2000000 in
theorem s3 {bs : List UInt8} {p b s i : Nat} {e : Int} (hp : bs.length = 128 * p) (hb : b < 4294967296) (hs0 : s < 4294967296) (hi : i < 256) : Calls0 (evCall FN (k + 20000)) 3 [memV bs, ringV b s, .int .u8 i, .int .i64 e] (.bool true) := by
  have c10 : Calls0 (evCall FN (k + 19999)) 10 [] (.bool true) := s10.fuel (k := 300) (by omega)
  refine q_call0 fn3 fun T H E lv => ?_
  by_cases hv : p = 0 ∨ 64 < p
  · have c9 : Calls0 (evCall FN (k + 19999)) 9 [memV bs] (.bool false) := (s9f (k := 0) hp hv).fuel (by omega)
    repeat (first | (apply o_nil; apply k_norm) | (apply p_mov; exact rfl) | (apply p_load; (iterate 4 exact rfl)) | (apply p_box; exact rfl; exact rfl; intro E) | (apply p_un; exact rfl; exact rfl) | (apply p_call; exact rfl; exact rfl; assumption) | apply w_seq | apply w_ops | apply k_ret | apply w_ret | (apply q_cond_true; exact rfl))
    exact q_ret (.inr rfl) rfl rfl rfl rfl rfl rfl
  have hV : VM bs := ⟨p, by omega, by omega, hp⟩
  have c9 : Calls0 (evCall FN (k + 19999)) 9 [memV bs] (.bool true) := (s9t (k := 0) hV).fuel (by omega)
  have c11 : Calls0 (evCall FN (k + 19999)) 11 [memV bs, ringV b s] (.int .i64 (chkN bs.length b s)) := (s11 (k := 0) hV hb hs0).fuel (by omega)
  have c12 : Calls0 (evCall FN (k + 19999)) 12 [memV bs, ringV b s] (.int .i64 (chkN bs.length b s)) := (s12 (k := 0) hV hb hs0).fuel (by omega)
  by_cases hc : chkN bs.length b s = 0
  · have c13 : Calls0 (evCall FN (k + 19999)) 13 [memV bs, ringV b s] (.bool true) := (s13 (k := 0) hV hb hs0 (decide_eq_true hc)).fuel (by omega)
    have h := chkN_ok hV hc
    have hs := h.hs
    have hle := h.le
    have hl := hV.le
    have hk : i % s < s := Nat.mod_lt _ (by omega)
    obtain ⟨⟨x, y⟩, hx⟩ : ∃ r, fstR bs b s (i % s) s 0 = r := ⟨_, rfl⟩
    have gr : evBin .rem (.int .i64 (i : Int)) (.int .i64 (s : Int)) = some (.int .i64 ((i % s : Nat) : Int)) := rem_nn (by omega)
    have c14 : Calls0 (evCall FN (k + 19999)) 14 [memV bs, ringV b s, .int .i64 ((i % s : Nat) : Int)] (.tup [.int .i64 x, .bool y]) := (s14 (k := 0) h (by omega) hx).fuel (by omega)
    have c16 : Calls0 (evCall FN (k + 19999)) 16 [memV bs, ringV b s, .int .i64 ((i % s : Nat) : Int)] (.agg [.int .i64 x, .bool y]) := (s16 (k := 0) h (by omega) hx).fuel (by omega)
    have c15 : Calls0 (evCall FN (k + 19999)) 15 [memV bs, ringV b s, .int .i64 ((i % s : Nat) : Int)] _ := (s15 (k := 0) h hk).fuel (by omega)
    have c17 : Calls0 (evCall FN (k + 19999)) 17 [memV bs, ringV b s, .int .i64 ((i % s : Nat) : Int)] _ := (s17 (k := 0) h hk).fuel (by omega)
    obtain ⟨t1, t2, t3⟩ := take_props h hk
    generalize takeM bs b s (i % s) = M at c15 c17 t3
    generalize takeL bs b s (i % s) = L at c15 c17 t1 t2
    generalize takeE bs b s (i % s) = En at c15 c17
    have c18 : Calls0 (evCall FN (k + 19999)) 18 [csl 4 (partsV bs b L), csl 4 (partsV bs b L)] (.bool true) := (s18t (k := 0) (by omega)).fuel (by omega)
    have c19 : Calls0 (evCall FN (k + 19999)) 19 [memV M, memV M] (.bool true) := (s19t (k := 0) t3.m).fuel (by omega)
    have c20 : Calls0 (evCall FN (k + 19999)) 20 [memV M, ringV b s, csl 4 (partsV bs b L)] (memV (markB M b 3 L)) := (s20 (k := 0) t3 t1 (by omega)).fuel (by omega)
    have c21 : Calls0 (evCall FN (k + 19999)) 21 [memV M, ringV b s, csl 4 (partsV bs b L)] (memV (markB M b 3 L)) := (s21 (k := 0) t3 t1 (by omega)).fuel (by omega)
    have c19' : Calls0 (evCall FN (k + 19999)) 19 [memV (markB M b 3 L), memV (markB M b 3 L)] (.bool true) := (s19t (k := 0) (t3.markB t1).m).fuel (by omega)
    obtain ⟨F, hF, c22, c23⟩ : ∃ F, VM F ∧ Calls0 (evCall FN (k + 19999)) 22 [memV bs, ringV b s, .int .i64 ((i % s : Nat) : Int), .int .i64 e] (memV F) ∧ Calls0 (evCall FN (k + 19999)) 23 [memV bs, ringV b s, .int .i64 ((i % s : Nat) : Int), .int .i64 e] (memV F) := by
      by_cases he : 160 ≤ e ∧ e ≤ 165
      · obtain ⟨g, rfl⟩ : ∃ g : Nat, e = g := ⟨e.toNat, by omega⟩
        exact ⟨_, (h.mark1 hk).m, (s22 (k := 0) h hk (by omega)).fuel (by omega), (s23 (k := 0) h hk (by omega)).fuel (by omega)⟩
      · exact ⟨_, hV, (s22' (k := 0) (by omega)).fuel (by omega), (s23' (k := 0) (by omega)).fuel (by omega)⟩
    have c19f : Calls0 (evCall FN (k + 19999)) 19 [memV F, memV F] (.bool true) := (s19t (k := 0) hF).fuel (by omega)
    cases y
    all_goals
      repeat (first | (apply o_nil; apply k_norm) | (apply p_mov; exact rfl) | (apply p_load; (iterate 4 exact rfl)) | (apply p_bin; exact rfl; exact rfl; (with_reducible assumption)) | (apply p_bin; exact rfl; exact rfl; (with_reducible exact neq_f (by omega))) | (apply p_fadd; exact rfl) | (apply p_box; exact rfl; exact rfl; intro E) | (apply p_new; intro E) | (apply p_store; (iterate 3 exact rfl); exact rfl; exact rfl; exact rfl) | (apply p_convA; exact rfl; (with_reducible exact w64 (by omega) (by omega))) | (apply p_ext; exact rfl; exact rfl) | (apply p_un; exact rfl; exact rfl) | (apply p_call; exact rfl; exact rfl; assumption) | (apply p_eq; (iterate 3 exact rfl)) | (apply p_guard_yes; exact rfl) | (apply p_pick_true; exact rfl; exact rfl) | (apply p_pick_false; exact rfl; exact rfl) | apply w_seq | apply w_ops | apply k_norm | apply w_ret | apply w_skip | (apply q_cond_false; exact rfl))
      exact q_ret (.inr rfl) rfl rfl rfl rfl rfl rfl
  · have c13 : Calls0 (evCall FN (k + 19999)) 13 [memV bs, ringV b s] (.bool false) := (s13 (k := 0) hV hb hs0 (decide_eq_false hc)).fuel (by omega)
    repeat (first | (apply o_nil; apply k_norm) | (apply p_mov; exact rfl) | (apply p_load; (iterate 4 exact rfl)) | (apply p_bin; exact rfl; exact rfl; (with_reducible exact neq_f (by omega))) | (apply p_box; exact rfl; exact rfl; intro E) | (apply p_un; exact rfl; exact rfl) | (apply p_call; exact rfl; exact rfl; assumption) | apply w_seq | apply w_ops | apply k_norm | apply k_ret | apply w_ret | apply w_skip | (apply q_cond_true; exact rfl) | (apply q_cond_false; exact rfl))
    exact q_ret (.inr rfl) rfl rfl rfl rfl rfl rfl

end Go.Proofs.Ythkkhmkieknemaa

/- Parts cs a list, what covers a byte, and 'apart'. Conditions: the memories are valid and cs long; the parts' ends are numbers. -/
namespace Go.Proofs.Ythkkhmkieknemaa
open Go.Abs
variable {k : Nat}

/-- A part: its index, its place, its length, whether it is written. -/
structure Pt where
  i : Nat
  a : Nat
  n : Nat
  w : Bool

def ptV (p : Pt) : List AV := [.int .i64 p.i, .int .i64 p.a, .int .i64 p.n, .bool p.w]
def ptsV (l : List Pt) : List AV := l.flatMap ptV
def ptOf (bs : List UInt8) (b i : Nat) : Pt := ⟨i, dw bs b i 0, dw bs b i 1, wr bs b i⟩

theorem parts_pts (bs : List UInt8) (b : Nat) (js : List Nat) : partsV bs b js = ptsV (js.map (ptOf bs b)) := by
  simp only [partsV, ptsV, List.flatMap_map]; rfl

theorem ptV_length (p : Pt) : (ptV p).length = 4 := rfl
theorem pts_length : ∀ (l : List Pt), (ptsV l).length = l.length * 4
  | [] => rfl
  | p :: l => by
    have := pts_length l
    simp only [ptsV, List.flatMap_cons, List.length_append, ptV_length, List.length_cons] at this ⊢
    omega
theorem pts_div (l : List Pt) : (ptsV l).length / 4 = l.length := by rw [pts_length]; omega

theorem pts_get {t : Nat} {p : Pt} (ht : t < 4) : ∀ {l : List Pt} {j : Nat}, l[j]? = some p → (ptsV l)[j * 4 + t]? = (ptV p)[t]?
  | [], j, h => by simp at h
  | x :: l, 0, h => by
    simp only [List.getElem?_cons_zero, Option.some.injEq] at h
    subst h
    simp only [ptsV, List.flatMap_cons]
    rw [List.getElem?_append_left (by rw [ptV_length]; omega)]
    congr 1; omega
  | x :: l, j + 1, h => by
    have ih := pts_get (p := p) ht (l := l) (j := j) (by simpa using h)
    simp only [ptsV, List.flatMap_cons] at ih ⊢
    rw [List.getElem?_append_right (by rw [ptV_length]; omega), ptV_length, ← ih]
    congr 1; omega

theorem rd_pt {p : Pt} {j : Nat} {l : List Pt} (h : l[j]? = some p) : rd (ptsV l) (j * 4) 4 true = some (.agg (ptV p)) := by
  have hlt : j < l.length := (List.getElem?_eq_some_iff.1 h).1
  have hl := pts_length l
  simp only [rd, if_true]
  rw [if_pos (by omega)]
  congr 2
  apply List.ext_getElem?
  intro t
  by_cases ht : t < 4
  · rw [List.getElem?_take_of_lt ht, List.getElem?_drop, pts_get ht h]
  · rw [List.getElem?_eq_none (by rw [List.length_take]; omega), List.getElem?_eq_none (by rw [ptV_length]; omega)]

theorem rd_pt1 {p : Pt} {j : Nat} {l : List Pt} (h : l[j]? = some p) : rd (ptsV l) (j * 4 + 1) 1 false = some (.int .i64 p.a) := by
  simp only [rd, Bool.false_eq_true, if_false, pts_get (t := 1) (by omega) h]; rfl
theorem rd_pt2 {p : Pt} {j : Nat} {l : List Pt} (h : l[j]? = some p) : rd (ptsV l) (j * 4 + 2) 1 false = some (.int .i64 p.n) := by
  simp only [rd, Bool.false_eq_true, if_false, pts_get (t := 2) (by omega) h]; rfl
theorem rd_pt3 {p : Pt} {j : Nat} {l : List Pt} (h : l[j]? = some p) : rd (ptsV l) (j * 4 + 3) 1 false = some (.bool p.w) := by
  simp only [rd, Bool.false_eq_true, if_false, pts_get (t := 3) (by omega) h]; rfl

theorem pts_flat : ∀ (l : List Pt), flatL (ptsV l) = true
  | [] => rfl
  | p :: l => by
    have ih := pts_flat l
    simp only [ptsV, List.flatMap_cons, ptV, List.cons_append, List.nil_append, flatL, AV.flat, Bool.true_and] at ih ⊢
    exact ih

theorem pts_snoc (l : List Pt) (p : Pt) : ptsV l ++ ptV p = ptsV (l ++ [p]) := by simp [ptsV]

theorem any_take {α : Type} {l : List α} {f : α → Bool} {i : Nat} {p : α} (h : l[i]? = some p) : (l.take (i + 1)).any f = ((l.take i).any f || f p) := by
  rw [List.take_add_one, h]; simp

theorem rd_bt {bs : List UInt8} {a : Nat} (hb : a < bs.length) : rd (bs.map ofB) (a / 128 * 128 + a % 128 * 1) 1 false = some (.int .u8 (bt bs a)) := by
  rw [show a / 128 * 128 + a % 128 * 1 = a by omega]
  simp only [rd, ofB_bt hb, Bool.false_eq_true, if_false]; rfl

/-- Whether a part has a byte. -/
def cov (t : Nat) (p : Pt) : Bool := decide (p.a ≤ t) && decide (t < p.a + p.n)

set_option maxRecDepth 100000 in
theorem s25 {b s i : Nat} (hb : b < 4294967296) (hi : i < 4294967296) : Calls0 (evCall FN (k + 1)) 25 [ringV b s, .int .i64 i] (.agg (ptV ⟨0, b + 16 * i + 12, 4, false⟩)) := by
  refine q_call0 fn25 fun T H E lv => ?_
  repeat (first | (apply o_nil; apply k_norm) | (apply p_mov; exact rfl) | (apply p_load; (iterate 4 exact rfl)) | (apply p_bin; exact rfl; exact rfl; (with_reducible exact add_nn (by omega))) | (apply p_bin; exact rfl; exact rfl; (with_reducible exact add_nl (by omega))) | (apply p_bin; exact rfl; exact rfl; (with_reducible exact mul_ln (by omega))) | (apply p_fadd; exact rfl) | (apply p_box; exact rfl; exact rfl; intro E) | (apply p_new; intro E) | (apply p_store; (iterate 3 exact rfl); exact rfl; exact rfl; exact rfl) | (apply p_convA; exact rfl; (with_reducible exact w64 (by omega) (by omega))) | (apply p_build; exact rfl; exact rfl) | apply w_seq | apply w_ops | apply w_ret)
  exact q_ret (.inr rfl) rfl rfl rfl rfl rfl rfl

set_option maxRecDepth 100000 in
set_option maxHeartbeats 1000000 in
theorem s24 {cs bs : List UInt8} {l : List Pt} (h : VM cs) (he : bs.length = cs.length) (hl : ∀ p ∈ l, p.a + p.n < 4611686018427387904) (hn : l.length ≤ 100)
    (hc : ∀ t, t < cs.length → bt cs t ≠ bt bs t → l.any (cov t) = true) : Calls0 (evCall FN (k + 9000)) 24 [memV cs, memV bs, csl 4 (ptsV l)] (.bool true) := by
  have hle := h.le
  have hA : (cs.map ofB).length = cs.length := List.length_map ..
  have hB : (bs.map ofB).length = cs.length := (List.length_map ..).trans he
  have hfl := pts_flat l
  have c34 : Calls0 (evCall FN (k + 8999)) 34 [memV cs] (.int .i64 cs.length) := (s34 (k := 0) h).fuel (by omega)
  refine q_call0 fn24 fun T H E lv => ?_
  repeat (first | (apply o_nil; apply k_norm) | (apply p_mov; exact rfl) | (apply p_load; (iterate 4 exact rfl)) | (apply p_bin; exact rfl; exact rfl; (with_reducible exact neq_f (by omega))) | (apply p_fadd; exact rfl) | (apply p_box; exact rfl; exact rfl; intro E) | (apply p_len; exact rfl; exact csz_ok _ _) | (apply p_call; exact rfl; exact rfl; assumption) | apply w_seq | apply w_ops | apply k_norm | apply w_skip | apply w_block | (apply q_cond_false; exact rfl))
  refine q_loop (α := Nat) (LInv.mk (fun t => t ≤ cs.length) (fun t => cs.length - t)
    (fun t => [(20, .int .i64 (t : Int)), (19, .int .i64 (cs.length : Int)), (4, .ref 1 0), (3, .ref 0 0), (2, csl 4 (ptsV l))])
    (fun t => [(1, [csl 128 (bs.map ofB)]), (0, [csl 128 (cs.map ofB)])]))
    (fun _ _ c => c = 4) 0 (Nat.zero_le _) rfl (show cs.length - 0 < k + 8999 by omega) ⟨rfl, rfl, rfl, rfl, rfl, trivial⟩ ⟨rfl, rfl, trivial⟩ ?_
  rintro t lv c T H E hP rfl hμ
  have hP : t ≤ cs.length := hP
  clear hμ
  dsimp only
  rcases Nat.lt_or_ge t cs.length with hlt | hge
  · have r1 := rd_bt hlt
    have r2 := rd_bt (bs := bs) (a := t) (by omega)
    by_cases hd : bt cs t = bt bs t
    · repeat (first | (apply o_nil; apply k_norm) | (apply o_nil; skip) | (apply p_mov; exact rfl) | (apply p_load; (iterate 4 exact rfl)) | (apply p_bin; exact rfl; exact rfl; (with_reducible exact add_nl (by omega))) | (apply p_bin; exact rfl; exact rfl; (with_reducible exact quo_nl (by omega))) | (apply p_bin; exact rfl; exact rfl; (with_reducible exact rem_nl (by omega))) | (apply p_bin; exact rfl; exact rfl; (with_reducible exact lss_t (by omega))) | (apply p_bin; exact rfl; exact rfl; (with_reducible exact eql_t (by omega))) | (apply p_fadd; exact rfl) | (apply p_iaS; exact rfl; exact rfl; exact csz_ok _ _; (with_reducible exact inB_n (by simp only [List.length_map, List.length_cons, List.length_nil]; omega))) | (apply p_iaA_pp; exact rfl; exact rfl; (with_reducible exact inB_n (by omega))) | (apply p_load_pp; exact rfl; (with_reducible assumption)) | apply w_seq | apply w_ops | apply k_norm | apply k_exit | apply w_exit | apply w_skip | apply w_block | apply b_exit | (apply q_cond_true; exact rfl))
      exact n_again (t + 1) (show t + 1 ≤ cs.length by omega) rfl (show cs.length - (t + 1) < cs.length - t by omega) ⟨rfl, rfl, rfl, rfl, rfl, trivial⟩ ⟨⟨rfl, rfl⟩, ⟨rfl, rfl⟩, trivial⟩
    · have hct := hc t hlt hd
      repeat (first | (apply o_nil; apply k_norm) | (apply p_mov; exact rfl) | (apply p_load; (iterate 4 exact rfl)) | (apply p_bin; exact rfl; exact rfl; (with_reducible exact quo_nl (by omega))) | (apply p_bin; exact rfl; exact rfl; (with_reducible exact rem_nl (by omega))) | (apply p_bin; exact rfl; exact rfl; (with_reducible exact lss_t (by omega))) | (apply p_bin; exact rfl; exact rfl; (with_reducible exact eql_f (by omega))) | (apply p_fadd; exact rfl) | (apply p_len; exact rfl; exact csz_ok _ _) | (apply p_iaS; exact rfl; exact rfl; exact csz_ok _ _; (with_reducible exact inB_n (by simp only [List.length_map, List.length_cons, List.length_nil]; omega))) | (apply p_iaA_pp; exact rfl; exact rfl; (with_reducible exact inB_n (by omega))) | (apply p_load_pp; exact rfl; (with_reducible assumption)) | apply w_seq | apply w_ops | apply k_norm | apply w_skip | apply w_block | (apply q_cond_true; exact rfl) | (apply q_cond_false; exact rfl))
      rw [pts_div]
      refine q_loop (α := Nat) (LInv.mk (fun i => i ≤ l.length) (fun i => l.length - i)
        (fun i => [(44, .int .i64 (i : Int)), (43, .int .i64 (l.length : Int)), (42, csl 4 (ptsV l)), (8, .bool ((l.take i).any (cov t))), (7, .int .i64 (t : Int)), (20, .int .i64 (t : Int)), (19, .int .i64 (cs.length : Int)), (4, .ref 1 0), (3, .ref 0 0), (2, csl 4 (ptsV l))])
        (fun _ => [(1, [csl 128 (bs.map ofB)]), (0, [csl 128 (cs.map ofB)])]))
        (fun _ _ c => c = 4) 0 (Nat.zero_le _) rfl (show l.length - 0 < k + 8999 by omega) ⟨rfl, rfl, rfl, rfl, rfl, rfl, rfl, rfl, rfl, rfl, trivial⟩ ⟨rfl, rfl, trivial⟩ ?_
      rintro i lv c T H E hPi rfl hμ
      have hPi : i ≤ l.length := hPi
      clear hμ
      dsimp only
      rcases Nat.lt_or_ge i l.length with hi | hi
      · obtain ⟨p, hp⟩ : ∃ p, l[i]? = some p := ⟨_, List.getElem?_eq_getElem hi⟩
        have hpb := hl p (List.mem_of_getElem? hp)
        have hr := rd_pt hp
        have gi : inB (i : Int) ((ptsV l).length / 4) = some i := inB_n (by rw [pts_div]; omega)
        have ha := any_take (f := cov t) hp
        rcases hv : (l.take i).any (cov t) with _ | _
        · rw [hv, Bool.false_or] at ha
          by_cases c1 : p.a ≤ t
          · by_cases c2 : t < p.a + p.n
            · have e : (l.take (i + 1)).any (cov t) = true := by rw [ha]; simp [cov, c1, c2]
              repeat (first | (apply o_nil; apply k_norm) | (apply o_nil; apply b_norm) | (apply o_nil; skip) | (apply p_mov; exact rfl) | (apply p_load; (iterate 4 exact rfl)) | (apply p_bin; exact rfl; exact rfl; (with_reducible exact add_nn (by omega))) | (apply p_bin; exact rfl; exact rfl; (with_reducible exact add_nl (by omega))) | (apply p_bin; exact rfl; exact rfl; (with_reducible exact lss_t (by omega))) | (apply p_bin; exact rfl; exact rfl; (with_reducible exact geq_t (by omega))) | (apply p_fadd; exact rfl) | (apply p_new; intro E) | (apply p_store; (iterate 3 exact rfl); exact rfl; exact rfl; exact rfl) | (apply p_iaS; exact rfl; exact rfl; exact csz_ok _ _; (with_reducible assumption)) | (apply p_load_pp; exact rfl; (with_reducible assumption)) | (apply p_guard_yes; exact rfl) | (apply p_pick_true; exact rfl; exact rfl) | (apply p_pick_false; exact rfl; exact rfl) | apply w_seq | apply w_ops | apply k_norm | apply w_skip | apply w_block | (apply q_cond_true; exact rfl))
              exact n_again (i + 1) (show i + 1 ≤ l.length by omega) rfl (show l.length - (i + 1) < l.length - i by omega) ⟨rfl, rfl, rfl, by rw [e]; rfl, rfl, rfl, rfl, rfl, rfl, rfl, trivial⟩ ⟨⟨rfl, rfl⟩, ⟨rfl, rfl⟩, trivial⟩
            · have e : (l.take (i + 1)).any (cov t) = false := by rw [ha]; simp [cov, c2]
              repeat (first | (apply o_nil; apply k_norm) | (apply o_nil; apply b_norm) | (apply o_nil; skip) | (apply p_mov; exact rfl) | (apply p_load; (iterate 4 exact rfl)) | (apply p_bin; exact rfl; exact rfl; (with_reducible exact add_nn (by omega))) | (apply p_bin; exact rfl; exact rfl; (with_reducible exact add_nl (by omega))) | (apply p_bin; exact rfl; exact rfl; (with_reducible exact lss_t (by omega))) | (apply p_bin; exact rfl; exact rfl; (with_reducible exact lss_f (by omega))) | (apply p_bin; exact rfl; exact rfl; (with_reducible exact geq_t (by omega))) | (apply p_fadd; exact rfl) | (apply p_new; intro E) | (apply p_store; (iterate 3 exact rfl); exact rfl; exact rfl; exact rfl) | (apply p_iaS; exact rfl; exact rfl; exact csz_ok _ _; (with_reducible assumption)) | (apply p_load_pp; exact rfl; (with_reducible assumption)) | (apply p_guard_yes; exact rfl) | (apply p_pick_true; exact rfl; exact rfl) | (apply p_pick_false; exact rfl; exact rfl) | apply w_seq | apply w_ops | apply k_norm | apply w_skip | apply w_block | (apply q_cond_true; exact rfl))
              exact n_again (i + 1) (show i + 1 ≤ l.length by omega) rfl (show l.length - (i + 1) < l.length - i by omega) ⟨rfl, rfl, rfl, by rw [e]; rfl, rfl, rfl, rfl, rfl, rfl, rfl, trivial⟩ ⟨⟨rfl, rfl⟩, ⟨rfl, rfl⟩, trivial⟩
          · have e : (l.take (i + 1)).any (cov t) = false := by rw [ha]; simp [cov, c1]
            repeat (first | (apply o_nil; apply k_norm) | (apply o_nil; apply b_norm) | (apply o_nil; skip) | (apply p_mov; exact rfl) | (apply p_load; (iterate 4 exact rfl)) | (apply p_bin; exact rfl; exact rfl; (with_reducible exact add_nl (by omega))) | (apply p_bin; exact rfl; exact rfl; (with_reducible exact lss_t (by omega))) | (apply p_bin; exact rfl; exact rfl; (with_reducible exact geq_f (by omega))) | (apply p_fadd; exact rfl) | (apply p_new; intro E) | (apply p_store; (iterate 3 exact rfl); exact rfl; exact rfl; exact rfl) | (apply p_iaS; exact rfl; exact rfl; exact csz_ok _ _; (with_reducible assumption)) | (apply p_load_pp; exact rfl; (with_reducible assumption)) | (apply p_guard_yes; exact rfl) | (apply p_guard_no; exact rfl; exact rfl) | (apply p_pick_false; exact rfl; exact rfl) | apply w_seq | apply w_ops | apply k_norm | apply w_skip | apply w_block | (apply q_cond_true; exact rfl))
            exact n_again (i + 1) (show i + 1 ≤ l.length by omega) rfl (show l.length - (i + 1) < l.length - i by omega) ⟨rfl, rfl, rfl, by rw [e]; rfl, rfl, rfl, rfl, rfl, rfl, rfl, trivial⟩ ⟨⟨rfl, rfl⟩, ⟨rfl, rfl⟩, trivial⟩
        · rw [hv, Bool.true_or] at ha
          repeat (first | (apply o_nil; apply k_norm) | (apply o_nil; apply b_norm) | (apply o_nil; skip) | (apply p_mov; exact rfl) | (apply p_bin; exact rfl; exact rfl; (with_reducible exact add_nl (by omega))) | (apply p_bin; exact rfl; exact rfl; (with_reducible exact lss_t (by omega))) | (apply p_new; intro E) | (apply p_store; (iterate 3 exact rfl); exact rfl; exact rfl; exact rfl) | (apply p_iaS; exact rfl; exact rfl; exact csz_ok _ _; (with_reducible assumption)) | (apply p_load_pp; exact rfl; (with_reducible assumption)) | (apply p_guard_no; exact rfl; exact rfl) | (apply p_guard_skip; exact rfl) | (apply p_pick_true; exact rfl; exact rfl) | apply w_seq | apply w_ops | apply k_norm | apply w_skip | apply w_block | (apply q_cond_true; exact rfl))
          exact n_again (i + 1) (show i + 1 ≤ l.length by omega) rfl (show l.length - (i + 1) < l.length - i by omega) ⟨rfl, rfl, rfl, by rw [ha]; rfl, rfl, rfl, rfl, rfl, rfl, rfl, trivial⟩ ⟨⟨rfl, rfl⟩, ⟨rfl, rfl⟩, trivial⟩
      · rw [List.take_of_length_le hi, hct]
        repeat (first | (apply o_nil; apply k_norm) | (apply p_bin; exact rfl; exact rfl; (with_reducible exact lss_f (by omega))) | apply w_seq | apply w_ops | apply k_exit | apply w_exit | (apply q_cond_false; exact rfl))
        apply n_exit
        apply b_exit
        repeat (first | (apply o_nil; apply k_norm) | (apply o_nil; skip) | (apply p_mov; exact rfl) | (apply p_bin; exact rfl; exact rfl; (with_reducible exact add_nl (by omega))) | (apply p_un; exact rfl; exact rfl) | apply w_seq | apply w_ops | apply k_norm | apply w_skip | apply b_norm | (apply q_cond_false; exact rfl))
        exact n_again (t + 1) (show t + 1 ≤ cs.length by omega) rfl (show cs.length - (t + 1) < cs.length - t by omega) ⟨rfl, rfl, rfl, rfl, rfl, trivial⟩ ⟨⟨rfl, rfl⟩, ⟨rfl, rfl⟩, trivial⟩
  · repeat (first | (apply o_nil; apply k_norm) | (apply p_bin; exact rfl; exact rfl; (with_reducible exact lss_f (by omega))) | apply w_seq | apply w_ops | apply k_exit | apply w_exit | (apply q_cond_false; exact rfl))
    apply n_exit
    apply b_exit
    repeat (first | (apply o_nil; apply k_norm) | (apply p_mov; exact rfl) | apply w_seq | apply w_ops | apply k_norm | apply w_ret)
    exact q_ret (.inr rfl) rfl rfl rfl rfl rfl rfl

end Go.Proofs.Ythkkhmkieknemaa

/- Bytes are written, and scattered over parts, by the program. Condition: the memory is valid, the places are there. -/
namespace Go.Proofs.Ythkkhmkieknemaa
open Go.Abs
variable {k : Nat}

set_option maxRecDepth 100000 in
theorem s49 {bs ys : List UInt8} {a : Nat} (h : VM bs) (hb : a + ys.length ≤ bs.length) : Calls0 (evCall FN (k + 10010)) 49 [memV bs, .int .i64 a, .str ys] (.tup [memV (putB bs a ys), .bool true]) := by
  have hl := h.le
  have c34 : Calls0 (evCall FN (k + 10009)) 34 [memV bs] (.int .i64 bs.length) := (s34 (k := 0) h).fuel (by omega)
  have c61 : evP (evCall FN (k + 10009)) 61 [csl 128 (bs.map ofB)] = some (.sl 2 128 (bs.map ofB)) := s61 h
  refine q_call0 fn49 fun T H E lv => ?_
  repeat (first | (apply o_nil; apply k_norm) | (apply p_mov; exact rfl) | (apply p_load; (iterate 4 exact rfl)) | (apply p_bin; exact rfl; exact rfl; (with_reducible exact sub_nn (by omega))) | (apply p_bin; exact rfl; exact rfl; (with_reducible exact lss_f (by omega))) | (apply p_bin; exact rfl; exact rfl; (with_reducible exact gtr_f (by omega))) | (apply p_fadd; exact rfl) | (apply p_box; exact rfl; exact rfl; intro E) | (apply p_new; intro E) | (apply p_lenS; exact rfl) | (apply p_call; exact rfl; exact rfl; assumption) | (apply p_guard_yes; exact rfl) | (apply p_pick_false; exact rfl; exact rfl) | apply w_seq | apply w_ops | apply k_norm | apply w_skip | (apply q_cond_false; exact rfl))
  apply p_call2
  · exact rfl
  · exact rfl
  · exact c61
  · exact rfl
  · exact rfl
  · exact rfl
  · exact scal_ofB _
  · omega
  intro E
  rw [show mapLeaf (adoptCell 2 (0 + 1 + 1) 4) (AV.sl 2 128 (bs.map ofB)) = .osl 2 0 ((bs.map ofB).length / 128) 128 from rfl]
  have hLn : bs.length = 128 * ((bs.map ofB).length / 128) := by rw [List.length_map]; omega
  obtain ⟨L, hL⟩ : ∃ L, L = (bs.map ofB).length / 128 := ⟨_, rfl⟩
  rw [← hL] at hLn ⊢
  repeat (first | (apply o_nil; apply k_norm) | (apply p_mov; exact rfl) | (apply p_load; (iterate 4 exact rfl)) | (apply p_new; intro E) | (apply p_store; (iterate 3 exact rfl); exact rfl; exact rfl; exact rfl) | (apply p_build; exact rfl; exact rfl) | apply w_seq | apply w_ops)
  apply p_s2b
  · exact rfl
  · simp only [room]; omega
  intro lv' l1 l2
  repeat (first | done)
  apply p_writes (os' := [(3, [.osl 2 0 L 128]), (2, (putB bs a ys).map ofB), (1, [.sl 0 0 []]), (0, [csl 128 (bs.map ofB)])])
  · exact rfl
  · exact fun H E => s62_4 (k := k + 9) hb hLn (by omega) (.inr (.inr ⟨rfl, rfl⟩)) rfl
  · exact ⟨.inr ⟨rfl, rfl, rfl, rfl⟩, .inl ⟨rfl, rfl⟩, .inr ⟨rfl, rfl, rfl, rfl⟩, .inr ⟨rfl, rfl, rfl, rfl⟩, trivial⟩
  intro H
  repeat (first | (apply o_nil; apply k_norm) | (apply p_mov; exact rfl) | (apply p_load; (iterate 4 exact rfl)) | (apply p_fadd; exact rfl) | (apply p_store; (iterate 3 exact rfl); exact rfl; exact rfl; exact rfl) | (apply p_build; exact rfl; exact rfl) | apply w_seq | apply w_ops | apply w_ret)
  have hn : (putB bs a ys).length = 128 * L := by rw [putB_length hb, hLn]
  have hf := fun os H ho => fin_osl (os := os) (H := H) (id := 2) ho hn
  refine q_ret (.inr rfl) rfl rfl ?_ ?_ ?_ rfl
  · show (finOk _ 0 (.osl 2 0 L 128) && (finOk _ 0 (.bool true) && true)) = true
    rw [(hf _ _ rfl).1]; rfl
  · show AV.under 0 (.tup [.agg [finCell _ 0 (.osl 2 0 L 128)], .bool true]) = true
    rw [(hf _ _ rfl).2]; rfl
  · show mapLeaf canonCell (.tup [.agg [finCell _ 0 (.osl 2 0 L 128)], .bool true]) = _
    rw [(hf _ _ rfl).2]; rfl

/-- A part takes its bytes. -/
def scS (ys : List UInt8) (r : List UInt8 × Nat) (p : Pt) : List UInt8 × Nat :=
  if p.w then (putB r.1 p.a ((ys.take (r.2 + min p.n (ys.length - r.2))).drop r.2), r.2 + min p.n (ys.length - r.2)) else r
def scat (bs : List UInt8) (l : List Pt) (ys : List UInt8) : List UInt8 × Nat := l.foldl (scS ys) (bs, 0)

theorem foldl_take {α β : Type} {f : β → α → β} {x : β} {l : List α} {i : Nat} {p : α} (h : l[i]? = some p) : (l.take (i + 1)).foldl f x = f ((l.take i).foldl f x) p := by
  rw [List.take_add_one, h, List.foldl_append]; rfl

/-- The parts that are written lie in the memory. -/
def InM (n : Nat) (l : List Pt) : Prop := ∀ p ∈ l, p.w = true → p.a + p.n ≤ n

theorem slice_length (ys : List UInt8) (m z : Nat) (h : m + z ≤ ys.length) : ((ys.take (m + z)).drop m).length = z := by
  rw [List.length_drop, List.length_take]; omega

theorem scS_props {ys : List UInt8} {n : Nat} {r : List UInt8 × Nat} {p : Pt} (h1 : r.1.length = n) (h2 : r.2 ≤ ys.length) (h3 : p.w = true → p.a + p.n ≤ n) : (scS ys r p).1.length = n ∧ (scS ys r p).2 ≤ ys.length := by
  unfold scS
  split
  · next hw =>
    have := h3 hw
    exact ⟨by rw [putB_length (by rw [slice_length _ _ _ (by omega)]; omega)]; exact h1, show _ + _ ≤ _ by omega⟩
  · exact ⟨h1, h2⟩

theorem scat_props {ys : List UInt8} {n : Nat} : ∀ {l : List Pt} {r : List UInt8 × Nat}, InM n l → r.1.length = n → r.2 ≤ ys.length → (l.foldl (scS ys) r).1.length = n ∧ (l.foldl (scS ys) r).2 ≤ ys.length
  | [], _, _, h1, h2 => ⟨h1, h2⟩
  | p :: l, r, h, h1, h2 => by
    obtain ⟨q1, q2⟩ := scS_props (ys := ys) h1 h2 (h p List.mem_cons_self)
    exact scat_props (l := l) (fun q hq => h q (List.mem_cons_of_mem _ hq)) q1 q2

theorem VM.of_len {bs cs : List UInt8} (h : VM bs) (he : cs.length = bs.length) : VM cs := by
  obtain ⟨p, h1, h2, h3⟩ := h; exact ⟨p, h1, h2, by omega⟩

set_option maxRecDepth 100000 in
set_option maxHeartbeats 1000000 in
theorem s26 {bs ys : List UInt8} {l : List Pt} (h : VM bs) (hy : ys.length ≤ 3000) (hin : InM bs.length l) (hn : l.length ≤ 100) (hs : ∀ p ∈ l, p.n < 4294967296) : Calls0 (evCall FN (k + 10200)) 26 [memV bs, csl 4 (ptsV l), .str ys] (.tup [memV (scat bs l ys).1, .int .i64 (scat bs l ys).2]) := by
  have hl := h.le
  have hfl := pts_flat l
  refine q_call0 fn26 fun T H E lv => ?_
  repeat (first | (apply o_nil; apply k_norm) | (apply p_mov; exact rfl) | (apply p_box; exact rfl; exact rfl; intro E) | (apply p_new; intro E) | (apply p_len; exact rfl; exact csz_ok _ _) | apply w_seq | apply w_ops | apply w_block)
  rw [pts_div]
  refine q_loop (α := Nat) (LInv.mk (fun i => i ≤ l.length) (fun i => l.length - i)
    (fun i => [(14, .int .i64 (i : Int)), (13, .int .i64 (l.length : Int)), (12, csl 4 (ptsV l)), (8, .int .i64 (((l.take i).foldl (scS ys) (bs, 0)).2 : Int)), (6, .ref 1 0), (3, .ref 0 0), (2, .str ys)])
    (fun i => [(1, [.sl 0 0 []]), (0, [csl 128 (((l.take i).foldl (scS ys) (bs, 0)).1.map ofB)])]))
    (fun _ _ c => c = 4) 0 (Nat.zero_le _) rfl (show l.length - 0 < k + 10199 by omega) ⟨rfl, rfl, rfl, rfl, rfl, rfl, rfl, trivial⟩ ⟨rfl, rfl, trivial⟩ ?_
  rintro i lv c T H E hP rfl hμ
  have hP : i ≤ l.length := hP
  clear hμ
  dsimp only
  rcases Nat.lt_or_ge i l.length with hi | hi
  · obtain ⟨p, hp⟩ : ∃ p, l[i]? = some p := ⟨_, List.getElem?_eq_getElem hi⟩
    have hpm := List.mem_of_getElem? hp
    have hpb := hin p hpm
    have hps := hs p hpm
    have hr := rd_pt hp
    have gi : inB (i : Int) ((ptsV l).length / 4) = some i := inB_n (by rw [pts_div]; omega)
    have hft := foldl_take (f := scS ys) (x := (bs, 0)) hp
    obtain ⟨q1, q2⟩ := scat_props (ys := ys) (n := bs.length) (l := l.take i) (r := (bs, 0)) (fun q hq => hin q (List.mem_of_mem_take hq)) rfl (Nat.zero_le _)
    obtain ⟨r, hr0⟩ : ∃ r, r = (l.take i).foldl (scS ys) (bs, 0) := ⟨_, rfl⟩
    rw [← hr0] at hft q1 q2 ⊢
    obtain ⟨B, m⟩ := r
    obtain ⟨pi, pa, pn, pw⟩ := p
    dsimp only at q1 q2 hpb hps
    cases pw
    · have e : scS ys (B, m) ⟨pi, pa, pn, false⟩ = (B, m) := rfl
      rw [e] at hft
      repeat (first | (apply o_nil; apply k_norm) | (apply o_nil; skip) | (apply p_mov; exact rfl) | (apply p_load; (iterate 4 exact rfl)) | (apply p_bin; exact rfl; exact rfl; (with_reducible exact add_nl (by omega))) | (apply p_bin; exact rfl; exact rfl; (with_reducible exact sub_nn (by omega))) | (apply p_bin; exact rfl; exact rfl; (with_reducible exact lss_t (by omega))) | (apply p_fadd; exact rfl) | (apply p_new; intro E) | (apply p_store; (iterate 3 exact rfl); exact rfl; exact rfl; exact rfl) | (apply p_lenS; exact rfl) | (apply p_iaS; exact rfl; exact rfl; exact csz_ok _ _; (with_reducible assumption)) | (apply p_load_pp; exact rfl; (with_reducible assumption)) | apply w_seq | apply w_ops | apply k_norm | apply w_skip | apply w_block | apply b_norm | (apply q_cond_true; exact rfl) | (apply q_cond_false; exact rfl) | (apply p_mnN; exact rfl; exact rfl))
      exact n_again (i + 1) (show i + 1 ≤ l.length by omega) rfl (show l.length - (i + 1) < l.length - i by omega) ⟨rfl, rfl, rfl, by rw [hft]; rfl, rfl, rfl, rfl, trivial⟩ ⟨⟨rfl, rfl⟩, ⟨by rw [hft]; rfl, rfl⟩, trivial⟩
    · have hpb := hpb rfl
      obtain ⟨z, hz⟩ : ∃ z, z = min pn (ys.length - m) := ⟨_, rfl⟩
      have e : scS ys (B, m) ⟨pi, pa, pn, true⟩ = (putB B pa ((ys.take (m + z)).drop m), m + z) := by rw [hz]; rfl
      rw [e] at hft
      have hzl := slice_length ys m z (by omega)
      have c49 : Calls0 (evCall FN (k + 10199)) 49 [memV B, .int .i64 pa, .str ((ys.take (m + z)).drop m)] (.tup [memV (putB B pa ((ys.take (m + z)).drop m)), .bool true]) := (s49 (k := 0) (h.of_len q1) (by omega)).fuel (by omega)
      repeat (first | (apply o_nil; apply k_norm) | (apply p_mov; exact rfl) | (apply p_load; (iterate 4 exact rfl)) | (apply p_bin; exact rfl; exact rfl; (with_reducible exact add_nn (by omega))) | (apply p_bin; exact rfl; exact rfl; (with_reducible exact sub_nn (by omega))) | (apply p_bin; exact rfl; exact rfl; (with_reducible exact lss_t (by omega))) | (apply p_fadd; exact rfl) | (apply p_new; intro E) | (apply p_store; (iterate 3 exact rfl); exact rfl; exact rfl; exact rfl) | (apply p_lenS; exact rfl) | (apply p_iaS; exact rfl; exact rfl; exact csz_ok _ _; (with_reducible assumption)) | (apply p_load_pp; exact rfl; (with_reducible assumption)) | apply w_seq | apply w_ops | apply k_norm | apply w_skip | apply w_block | (apply q_cond_true; exact rfl) | (apply p_mnN; exact rfl; exact rfl) | (apply p_slS_both; exact rfl; exact rfl; exact rfl; exact asB_n (by omega); exact asB_n (by omega)))
      rw [← hz]
      repeat (first | (apply o_nil; apply k_norm) | (apply o_nil; apply b_norm) | (apply o_nil; skip) | (apply p_mov; exact rfl) | (apply p_bin; exact rfl; exact rfl; (with_reducible exact add_nn (by omega))) | (apply p_bin; exact rfl; exact rfl; (with_reducible exact add_nl (by omega))) | (apply p_store; (iterate 3 exact rfl); exact rfl; exact rfl; exact rfl) | (apply p_ext; exact rfl; exact rfl) | (apply p_call; exact rfl; exact rfl; assumption) | apply w_ops | apply k_norm)
      exact n_again (i + 1) (show i + 1 ≤ l.length by omega) rfl (show l.length - (i + 1) < l.length - i by omega) ⟨rfl, rfl, rfl, by rw [hft]; rfl, rfl, rfl, rfl, trivial⟩ ⟨⟨rfl, rfl⟩, ⟨by rw [hft]; rfl, rfl⟩, trivial⟩
  · rw [List.take_of_length_le hi]
    repeat (first | (apply o_nil; apply k_norm) | (apply p_bin; exact rfl; exact rfl; (with_reducible exact lss_f (by omega))) | apply w_seq | apply w_ops | apply k_exit | apply w_exit | (apply q_cond_false; exact rfl))
    apply n_exit
    apply b_exit
    repeat (first | (apply o_nil; apply k_norm) | (apply p_mov; exact rfl) | (apply p_load; (iterate 4 exact rfl)) | (apply p_store; (iterate 3 exact rfl); exact rfl; exact rfl; exact rfl) | apply w_seq | apply w_ops | apply k_norm | apply w_ret)
    exact q_ret (.inr rfl) rfl rfl rfl rfl rfl rfl

end Go.Proofs.Ythkkhmkieknemaa

/- Bytes are written, and scattered over parts, by the reference; the room of parts. Condition: the memory is valid, the places are there. -/
namespace Go.Proofs.Ythkkhmkieknemaa
open Go.Abs
variable {k : Nat}

set_option maxRecDepth 100000 in
theorem s51 {bs ys : List UInt8} {a : Nat} (h : VM bs) (hb : a + ys.length ≤ bs.length) : Calls0 (evCall FN (k + 9000)) 51 [memV bs, .int .i64 a, .str ys] (.agg [csl 128 ((putB bs a ys).map ofB), .bool true]) := by
  have hl := h.le
  have c38 : Calls0 (evCall FN (k + 8999)) 38 [memV bs] (.int .i64 bs.length) := (s38 (k := 0) h).fuel (by omega)
  have c64 : evP (evCall FN (k + 8999)) 64 [memV bs] = some (.agg [.sl 2 128 (bs.map ofB)]) := s64 h
  refine q_call0 fn51 fun T H E lv => ?_
  repeat (first | (apply o_nil; apply k_norm) | (apply p_mov; exact rfl) | (apply p_load; (iterate 4 exact rfl)) | (apply p_bin; exact rfl; exact rfl; (with_reducible exact sub_nn (by omega))) | (apply p_bin; exact rfl; exact rfl; (with_reducible exact lss_f (by omega))) | (apply p_bin; exact rfl; exact rfl; (with_reducible exact gtr_f (by omega))) | (apply p_box; exact rfl; exact rfl; intro E) | (apply p_new; intro E) | (apply p_lenS; exact rfl) | (apply p_call; exact rfl; exact rfl; assumption) | (apply p_guard_yes; exact rfl) | (apply p_pick_false; exact rfl; exact rfl) | apply w_seq | apply w_ops | apply k_norm | apply w_skip | (apply q_cond_false; exact rfl))
  apply p_call2
  · exact rfl
  · exact rfl
  · exact c64
  · exact rfl
  · exact rfl
  · exact rfl
  · exact scal_ofB _
  · omega
  intro E
  rw [show mapLeaf (adoptCell 2 (0 + 1 + 1) 4) (AV.agg [AV.sl 2 128 (bs.map ofB)]) = .agg [.osl 2 0 ((bs.map ofB).length / 128) 128] from rfl]
  repeat (first | (apply o_nil; apply k_norm) | (apply p_mov; exact rfl) | (apply p_new; intro E) | (apply p_store; (iterate 3 exact rfl); exact rfl; exact rfl; exact rfl) | apply w_seq | apply w_ops | apply w_block)
  have hLn : bs.length = 128 * ((bs.map ofB).length / 128) := by rw [List.length_map]; omega
  obtain ⟨L, hL⟩ : ∃ L, L = (bs.map ofB).length / 128 := ⟨_, rfl⟩
  rw [← hL] at hLn ⊢
  refine q_loop (α := Nat) (LInv.mk (fun i => i ≤ ys.length) (fun i => ys.length - i)
    (fun i => [(8, .int .i64 (i : Int)), (7, .ref 3 0), (6, .ref 1 0), (3, .ref 0 0), (2, .str ys), (1, .int .i64 (a : Int))])
    (fun i => [(3, [.osl 2 0 L 128]), (2, (putB bs a (ys.take i)).map ofB), (1, [.sl 0 0 [], .bool false]), (0, [csl 128 (bs.map ofB)])]))
    (fun _ _ c => c = 4) 0 (Nat.zero_le _) rfl (show ys.length - 0 < k + 8999 by omega) ⟨rfl, rfl, rfl, rfl, rfl, rfl, trivial⟩ ⟨rfl, by rw [List.take_zero, putB_nil]; rfl, rfl, rfl, trivial⟩ ?_
  rintro i lv c T H E hP rfl hμ
  have hP : i ≤ ys.length := hP
  clear hμ
  dsimp only
  rcases Nat.lt_or_ge i ys.length with hi | hi
  · obtain ⟨u, hu⟩ : ∃ u, ys[i]? = some u := ⟨_, List.getElem?_eq_getElem hi⟩
    have hst : putS ((putB bs a (ys.take i)).map ofB) (0 + (a + i) / 128 * 128 + (a + i) % 128 * 1) 1 (ofB u) = some ((putB bs a (ys.take (i + 1))).map ofB) := by
      rw [show 0 + (a + i) / 128 * 128 + (a + i) % 128 * 1 = a + i by omega, ← putB_succ (by omega) hu]
      exact setS_map (by rw [putB_length (by rw [List.length_take]; omega)]; omega)
    repeat (first | (apply o_nil; apply k_norm) | (apply o_nil; apply b_norm) | (apply o_nil; skip) | (apply p_mov; exact rfl) | (apply p_load; (iterate 4 exact rfl)) | (apply p_bin; exact rfl; exact rfl; (with_reducible exact add_nn (by omega))) | (apply p_bin; exact rfl; exact rfl; (with_reducible exact add_nl (by omega))) | (apply p_bin; exact rfl; exact rfl; (with_reducible exact quo_nl (by omega))) | (apply p_bin; exact rfl; exact rfl; (with_reducible exact rem_nl (by omega))) | (apply p_bin; exact rfl; exact rfl; (with_reducible exact lss_t (by omega))) | (apply p_fadd; exact rfl) | (apply p_store; (iterate 3 exact rfl); (with_reducible assumption); exact rfl; exact rfl) | (apply p_lenS; exact rfl) | (apply p_iaA; exact rfl; exact rfl; (with_reducible exact inB_n (by omega))) | (apply p_iaS_osl; exact rfl; exact rfl; (with_reducible exact inB_n (by omega))) | apply w_seq | apply w_ops | apply k_norm | apply w_skip | apply w_block | (apply q_cond_true; exact rfl) | (apply p_ixSn; exact rfl; exact rfl; (with_reducible assumption)))
    exact n_again (i + 1) (show i + 1 ≤ ys.length by omega) rfl (show ys.length - (i + 1) < ys.length - i by omega) ⟨rfl, rfl, rfl, rfl, rfl, rfl, trivial⟩ ⟨⟨rfl, rfl⟩, ⟨rfl, under_ofB _ _⟩, ⟨rfl, rfl⟩, ⟨rfl, rfl⟩, trivial⟩
  · rw [List.take_of_length_le hi]
    repeat (first | (apply o_nil; apply k_norm) | (apply p_mov; exact rfl) | (apply p_bin; exact rfl; exact rfl; (with_reducible exact lss_f (by omega))) | (apply p_lenS; exact rfl) | apply w_seq | apply w_ops | apply k_exit | apply w_exit | (apply q_cond_false; exact rfl))
    apply n_exit
    apply b_exit
    repeat (first | (apply o_nil; apply k_norm) | (apply p_load; (iterate 4 exact rfl)) | (apply p_store; (iterate 3 exact rfl); exact rfl; exact rfl; exact rfl) | (apply p_build; exact rfl; exact rfl) | apply w_seq | apply w_ops | apply k_norm | apply w_ret)
    have hn : (putB bs a ys).length = 128 * L := by rw [putB_length hb, hLn]
    have hf := fun os H ho => fin_osl (os := os) (H := H) (id := 2) ho hn
    refine q_ret (.inr rfl) rfl rfl ?_ ?_ ?_ rfl
    · show (finOk _ 0 (.osl 2 0 L 128) && (finOk _ 0 (.bool true) && true)) = true
      rw [(hf _ _ rfl).1]; rfl
    · show AV.under 0 (.agg [finCell _ 0 (.osl 2 0 L 128), .bool true]) = true
      rw [(hf _ _ rfl).2]; rfl
    · show mapLeaf canonCell (.agg [finCell _ 0 (.osl 2 0 L 128), .bool true]) = _
      rw [(hf _ _ rfl).2]; rfl

set_option maxRecDepth 100000 in
set_option maxHeartbeats 1000000 in
theorem s29 {bs ys : List UInt8} {l : List Pt} (h : VM bs) (hy : ys.length ≤ 3000) (hin : InM bs.length l) (hn : l.length ≤ 100) (hs : ∀ p ∈ l, p.n < 4294967296) : Calls0 (evCall FN (k + 10200)) 29 [memV bs, csl 4 (ptsV l), .str ys] (.agg [csl 128 ((scat bs l ys).1.map ofB), .int .i64 (scat bs l ys).2]) := by
  have hl := h.le
  have hfl := pts_flat l
  have hdv := pts_div l
  refine q_call0 fn29 fun T H E lv => ?_
  repeat (first | (apply o_nil; apply k_norm) | (apply p_mov; exact rfl) | (apply p_box; exact rfl; exact rfl; intro E) | (apply p_new; intro E) | apply w_seq | apply w_ops | apply w_block)
  refine q_loop (α := Nat) (LInv.mk (fun i => i ≤ l.length) (fun i => l.length - i)
    (fun i => [(8, .int .i64 (i : Int)), (7, .int .i64 (((l.take i).foldl (scS ys) (bs, 0)).2 : Int)), (6, .ref 1 0), (3, .ref 0 0), (2, .str ys), (1, csl 4 (ptsV l))])
    (fun i => [(1, [.sl 0 0 [], .int .i64 0]), (0, [csl 128 (((l.take i).foldl (scS ys) (bs, 0)).1.map ofB)])]))
    (fun _ _ c => c = 4) 0 (Nat.zero_le _) rfl (show l.length - 0 < k + 10199 by omega) ⟨rfl, rfl, rfl, rfl, rfl, rfl, trivial⟩ ⟨rfl, rfl, trivial⟩ ?_
  rintro i lv c T H E hP rfl hμ
  have hP : i ≤ l.length := hP
  clear hμ
  dsimp only
  rcases Nat.lt_or_ge i l.length with hi | hi
  · obtain ⟨p, hp⟩ : ∃ p, l[i]? = some p := ⟨_, List.getElem?_eq_getElem hi⟩
    have hpm := List.mem_of_getElem? hp
    have hpb := hin p hpm
    have hps := hs p hpm
    have r1 := rd_pt1 hp
    have r2 := rd_pt2 hp
    have r3 := rd_pt3 hp
    have gi : inB (i : Int) ((ptsV l).length / 4) = some i := inB_n (by rw [pts_div]; omega)
    have hft := foldl_take (f := scS ys) (x := (bs, 0)) hp
    obtain ⟨q1, q2⟩ := scat_props (ys := ys) (n := bs.length) (l := l.take i) (r := (bs, 0)) (fun q hq => hin q (List.mem_of_mem_take hq)) rfl (Nat.zero_le _)
    obtain ⟨r, hr0⟩ : ∃ r, r = (l.take i).foldl (scS ys) (bs, 0) := ⟨_, rfl⟩
    rw [← hr0] at hft q1 q2 ⊢
    obtain ⟨B, m⟩ := r
    obtain ⟨pi, pa, pn, pw⟩ := p
    dsimp only at q1 q2 hpb hps r1 r2 r3
    cases pw
    · have e : scS ys (B, m) ⟨pi, pa, pn, false⟩ = (B, m) := rfl
      rw [e] at hft
      repeat (first | (apply o_nil; apply k_norm) | (apply o_nil; skip) | (apply p_mov; exact rfl) | (apply p_bin; exact rfl; exact rfl; (with_reducible exact add_nl (by omega))) | (apply p_bin; exact rfl; exact rfl; (with_reducible exact lss_t (by omega))) | (apply p_len; exact rfl; exact csz_ok _ _) | (apply p_iaS; exact rfl; exact rfl; exact csz_ok _ _; (with_reducible assumption)) | (apply p_load_pp; exact rfl; (with_reducible assumption)) | (apply p_fadd_pp; exact rfl) | apply w_seq | apply w_ops | apply k_norm | apply w_skip | apply w_block | apply b_norm | (apply q_cond_true; exact rfl) | (apply q_cond_false; exact rfl))
      exact n_again (i + 1) (show i + 1 ≤ l.length by omega) rfl (show l.length - (i + 1) < l.length - i by omega) ⟨rfl, by rw [hft]; rfl, rfl, rfl, rfl, rfl, trivial⟩ ⟨⟨rfl, rfl⟩, ⟨by rw [hft]; rfl, rfl⟩, trivial⟩
    · have hpb := hpb rfl
      obtain ⟨z, hz⟩ : ∃ z, z = min pn (ys.length - m) := ⟨_, rfl⟩
      have e : scS ys (B, m) ⟨pi, pa, pn, true⟩ = (putB B pa ((ys.take (m + z)).drop m), m + z) := by rw [hz]; rfl
      rw [e] at hft
      have hzl := slice_length ys m z (by omega)
      have c51 : Calls0 (evCall FN (k + 10199)) 51 [memV B, .int .i64 pa, .str ((ys.take (m + z)).drop m)] (.agg [csl 128 ((putB B pa ((ys.take (m + z)).drop m)).map ofB), .bool true]) := (s51 (k := 0) (h.of_len q1) (by omega)).fuel (by omega)
      repeat (first | (apply o_nil; apply k_norm) | (apply p_mov; exact rfl) | (apply p_load; (iterate 4 exact rfl)) | (apply p_bin; exact rfl; exact rfl; (with_reducible exact add_nn (by omega))) | (apply p_bin; exact rfl; exact rfl; (with_reducible exact sub_nn (by omega))) | (apply p_bin; exact rfl; exact rfl; (with_reducible exact lss_t (by omega))) | (apply p_len; exact rfl; exact csz_ok _ _) | (apply p_lenS; exact rfl) | (apply p_iaS; exact rfl; exact rfl; exact csz_ok _ _; (with_reducible assumption)) | (apply p_load_pp; exact rfl; (with_reducible assumption)) | (apply p_fadd_pp; exact rfl) | apply w_seq | apply w_ops | apply k_norm | apply w_skip | apply w_block | (apply q_cond_true; exact rfl) | (apply p_mnN; exact rfl; exact rfl) | (apply p_slS_both; exact rfl; exact rfl; exact rfl; exact asB_n (by omega); exact asB_n (by omega)))
      rw [← hz]
      repeat (first | (apply o_nil; apply k_norm) | (apply o_nil; apply b_norm) | (apply o_nil; skip) | (apply p_mov; exact rfl) | (apply p_bin; exact rfl; exact rfl; (with_reducible exact add_nn (by omega))) | (apply p_bin; exact rfl; exact rfl; (with_reducible exact add_nl (by omega))) | (apply p_store; (iterate 3 exact rfl); exact rfl; exact rfl; exact rfl) | (apply p_call; exact rfl; exact rfl; assumption) | (apply p_fld; (iterate 3 exact rfl)) | apply w_ops | apply k_norm)
      exact n_again (i + 1) (show i + 1 ≤ l.length by omega) rfl (show l.length - (i + 1) < l.length - i by omega) ⟨rfl, by rw [hft]; rfl, rfl, rfl, rfl, rfl, trivial⟩ ⟨⟨rfl, rfl⟩, ⟨by rw [hft]; rfl, rfl⟩, trivial⟩
  · rw [List.take_of_length_le hi]
    repeat (first | (apply o_nil; apply k_norm) | (apply p_mov; exact rfl) | (apply p_bin; exact rfl; exact rfl; (with_reducible exact lss_f (by omega))) | (apply p_len; exact rfl; exact csz_ok _ _) | apply w_seq | apply w_ops | apply k_exit | apply w_exit | (apply q_cond_false; exact rfl))
    apply n_exit
    apply b_exit
    repeat (first | (apply o_nil; apply k_norm) | (apply p_mov; exact rfl) | (apply p_load; (iterate 4 exact rfl)) | (apply p_store; (iterate 3 exact rfl); exact rfl; exact rfl; exact rfl) | (apply p_build; exact rfl; exact rfl) | apply w_seq | apply w_ops | apply k_norm | apply w_ret)
    exact q_ret (.inr rfl) rfl rfl rfl rfl rfl rfl

/-- The room of parts. -/
def rmS (n : Nat) (p : Pt) : Nat := if p.w then n + p.n else n
def rm (l : List Pt) : Nat := l.foldl rmS 0

theorem rm_le : ∀ {l : List Pt} {n : Nat}, (∀ p ∈ l, p.n < 4294967296) → l.foldl rmS n ≤ n + l.length * 4294967296
  | [], n, _ => by simp
  | p :: l, n, h => by
    have := rm_le (l := l) (n := rmS n p) fun q hq => h q (List.mem_cons_of_mem _ hq)
    have h2 := h p List.mem_cons_self
    have h3 : rmS n p ≤ n + 4294967296 := by unfold rmS; split <;> omega
    rw [List.foldl_cons, List.length_cons]; omega

set_option maxRecDepth 100000 in
theorem s32 {l : List Pt} (hn : l.length ≤ 100) (hs : ∀ p ∈ l, p.n < 4294967296) : Calls0 (evCall FN (k + 200)) 32 [csl 4 (ptsV l)] (.int .i64 (rm l)) := by
  refine q_call0 fn32 fun T H E lv => ?_
  repeat (first | (apply o_nil; apply k_norm) | (apply p_mov; exact rfl) | (apply p_len; exact rfl; exact csz_ok _ _) | apply w_seq | apply w_ops | apply w_block)
  rw [pts_div]
  refine q_loop (α := Nat) (LInv.mk (fun i => i ≤ l.length) (fun i => l.length - i)
    (fun i => [(8, .int .i64 (i : Int)), (7, .int .i64 (l.length : Int)), (6, csl 4 (ptsV l)), (3, .int .i64 ((l.take i).foldl rmS 0 : Nat))]) (fun i => []))
    (fun _ _ c => c = 4) 0 (Nat.zero_le _) rfl (show l.length - 0 < k + 199 by omega) ⟨rfl, rfl, rfl, rfl, trivial⟩ trivial ?_
  rintro i lv c T H E hP rfl hμ
  have hP : i ≤ l.length := hP
  clear hμ
  dsimp only
  rcases Nat.lt_or_ge i l.length with hi | hi
  · obtain ⟨p, hp⟩ : ∃ p, l[i]? = some p := ⟨_, List.getElem?_eq_getElem hi⟩
    have hps := hs p (List.mem_of_getElem? hp)
    have gi : inB (i : Int) ((ptsV l).length / 4) = some i := inB_n (by rw [pts_div]; omega)
    have hft := foldl_take (f := rmS) (x := 0) hp
    have hle := rm_le (l := l.take i) (n := 0) fun q hq => hs q (List.mem_of_mem_take hq)
    rw [List.length_take] at hle
    obtain ⟨r, hr0⟩ : ∃ r, r = (l.take i).foldl rmS 0 := ⟨_, rfl⟩
    rw [← hr0] at hft hle ⊢
    obtain ⟨pi, pa, pn, pw⟩ := p
    dsimp only at hps
    have hr : rd (ptsV l) (i * 4) 4 true = some (.agg [.int .i64 pi, .int .i64 pa, .int .i64 pn, .bool pw]) := rd_pt hp
    cases pw
    · have e : rmS r ⟨pi, pa, pn, false⟩ = r := rfl
      rw [e] at hft
      repeat (first | (apply o_nil; apply k_norm) | (apply o_nil; skip) | (apply p_mov; exact rfl) | (apply p_load; (iterate 4 exact rfl)) | (apply p_bin; exact rfl; exact rfl; (with_reducible exact add_nl (by omega))) | (apply p_bin; exact rfl; exact rfl; (with_reducible exact lss_t (by omega))) | (apply p_fadd; exact rfl) | (apply p_new; intro E) | (apply p_store; (iterate 3 exact rfl); exact rfl; exact rfl; exact rfl) | (apply p_iaS; exact rfl; exact rfl; exact csz_ok _ _; (with_reducible assumption)) | (apply p_load_pp; exact rfl; (with_reducible assumption)) | apply w_seq | apply w_ops | apply k_norm | apply w_skip | apply w_block | apply b_norm | (apply q_cond_true; exact rfl) | (apply q_cond_false; exact rfl))
      exact n_again (i + 1) (show i + 1 ≤ l.length by omega) rfl (show l.length - (i + 1) < l.length - i by omega) ⟨rfl, rfl, rfl, by rw [hft]; rfl, trivial⟩ trivial
    · have e : rmS r ⟨pi, pa, pn, true⟩ = r + pn := rfl
      rw [e] at hft
      repeat (first | (apply o_nil; apply k_norm) | (apply o_nil; apply b_norm) | (apply o_nil; skip) | (apply p_mov; exact rfl) | (apply p_load; (iterate 4 exact rfl)) | (apply p_bin; exact rfl; exact rfl; (with_reducible exact add_nn (by omega))) | (apply p_bin; exact rfl; exact rfl; (with_reducible exact add_nl (by omega))) | (apply p_bin; exact rfl; exact rfl; (with_reducible exact lss_t (by omega))) | (apply p_fadd; exact rfl) | (apply p_new; intro E) | (apply p_store; (iterate 3 exact rfl); exact rfl; exact rfl; exact rfl) | (apply p_iaS; exact rfl; exact rfl; exact csz_ok _ _; (with_reducible assumption)) | (apply p_load_pp; exact rfl; (with_reducible assumption)) | apply w_seq | apply w_ops | apply k_norm | apply w_skip | apply w_block | (apply q_cond_true; exact rfl))
      exact n_again (i + 1) (show i + 1 ≤ l.length by omega) rfl (show l.length - (i + 1) < l.length - i by omega) ⟨rfl, rfl, rfl, by rw [hft]; rfl, trivial⟩ trivial
  · rw [List.take_of_length_le hi]
    repeat (first | (apply o_nil; apply k_norm) | (apply p_bin; exact rfl; exact rfl; (with_reducible exact lss_f (by omega))) | apply w_seq | apply w_ops | apply k_exit | apply w_exit | (apply q_cond_false; exact rfl))
    apply n_exit
    apply b_exit
    repeat (first | (apply o_nil; apply k_norm) | (apply p_mov; exact rfl) | apply w_seq | apply w_ops | apply k_norm | apply w_ret)
    exact q_ret (.inr rfl) rfl rfl rfl rfl rfl rfl

set_option maxRecDepth 100000 in
theorem s33 {l : List Pt} (hn : l.length ≤ 100) (hs : ∀ p ∈ l, p.n < 4294967296) : Calls0 (evCall FN (k + 200)) 33 [csl 4 (ptsV l)] (.int .i64 (rm l)) := by
  have hdv := pts_div l
  refine q_call0 fn33 fun T H E lv => ?_
  repeat (first | (apply o_nil; apply k_norm) | (apply p_mov; exact rfl) | apply w_seq | apply w_ops | apply w_block)
  refine q_loop (α := Nat) (LInv.mk (fun i => i ≤ l.length) (fun i => l.length - i)
    (fun i => [(4, .int .i64 (i : Int)), (3, .int .i64 ((l.take i).foldl rmS 0 : Nat)), (0, csl 4 (ptsV l))]) (fun i => []))
    (fun _ _ c => c = 4) 0 (Nat.zero_le _) rfl (show l.length - 0 < k + 199 by omega) ⟨rfl, rfl, rfl, trivial⟩ trivial ?_
  rintro i lv c T H E hP rfl hμ
  have hP : i ≤ l.length := hP
  clear hμ
  dsimp only
  rcases Nat.lt_or_ge i l.length with hi | hi
  · obtain ⟨p, hp⟩ : ∃ p, l[i]? = some p := ⟨_, List.getElem?_eq_getElem hi⟩
    have hps := hs p (List.mem_of_getElem? hp)
    have r2 := rd_pt2 hp
    have r3 := rd_pt3 hp
    have gi : inB (i : Int) ((ptsV l).length / 4) = some i := inB_n (by rw [pts_div]; omega)
    have hft := foldl_take (f := rmS) (x := 0) hp
    have hle := rm_le (l := l.take i) (n := 0) fun q hq => hs q (List.mem_of_mem_take hq)
    rw [List.length_take] at hle
    obtain ⟨r, hr0⟩ : ∃ r, r = (l.take i).foldl rmS 0 := ⟨_, rfl⟩
    rw [← hr0] at hft hle ⊢
    obtain ⟨pi, pa, pn, pw⟩ := p
    dsimp only at hps r2 r3
    cases pw
    · have e : rmS r ⟨pi, pa, pn, false⟩ = r := rfl
      rw [e] at hft
      repeat (first | (apply o_nil; apply k_norm) | (apply o_nil; skip) | (apply p_mov; exact rfl) | (apply p_bin; exact rfl; exact rfl; (with_reducible exact add_nl (by omega))) | (apply p_bin; exact rfl; exact rfl; (with_reducible exact lss_t (by omega))) | (apply p_len; exact rfl; exact csz_ok _ _) | (apply p_iaS; exact rfl; exact rfl; exact csz_ok _ _; (with_reducible assumption)) | (apply p_load_pp; exact rfl; (with_reducible assumption)) | (apply p_fadd_pp; exact rfl) | apply w_seq | apply w_ops | apply k_norm | apply w_skip | apply w_block | apply b_norm | (apply q_cond_true; exact rfl) | (apply q_cond_false; exact rfl))
      exact n_again (i + 1) (show i + 1 ≤ l.length by omega) rfl (show l.length - (i + 1) < l.length - i by omega) ⟨rfl, by rw [hft]; rfl, rfl, trivial⟩ trivial
    · have e : rmS r ⟨pi, pa, pn, true⟩ = r + pn := rfl
      rw [e] at hft
      repeat (first | (apply o_nil; apply k_norm) | (apply o_nil; apply b_norm) | (apply o_nil; skip) | (apply p_mov; exact rfl) | (apply p_bin; exact rfl; exact rfl; (with_reducible exact add_nn (by omega))) | (apply p_bin; exact rfl; exact rfl; (with_reducible exact add_nl (by omega))) | (apply p_bin; exact rfl; exact rfl; (with_reducible exact lss_t (by omega))) | (apply p_len; exact rfl; exact csz_ok _ _) | (apply p_iaS; exact rfl; exact rfl; exact csz_ok _ _; (with_reducible assumption)) | (apply p_load_pp; exact rfl; (with_reducible assumption)) | (apply p_fadd_pp; exact rfl) | apply w_seq | apply w_ops | apply k_norm | apply w_skip | apply w_block | (apply q_cond_true; exact rfl))
      exact n_again (i + 1) (show i + 1 ≤ l.length by omega) rfl (show l.length - (i + 1) < l.length - i by omega) ⟨rfl, by rw [hft]; rfl, rfl, trivial⟩ trivial
  · rw [List.take_of_length_le hi]
    repeat (first | (apply o_nil; apply k_norm) | (apply p_mov; exact rfl) | (apply p_bin; exact rfl; exact rfl; (with_reducible exact lss_f (by omega))) | (apply p_len; exact rfl; exact csz_ok _ _) | apply w_seq | apply w_ops | apply k_exit | apply w_exit | (apply q_cond_false; exact rfl))
    apply n_exit
    apply b_exit
    repeat (first | (apply o_nil; apply k_norm) | (apply p_mov; exact rfl) | apply w_seq | apply w_ops | apply k_norm | apply w_ret)
    exact q_ret (.inr rfl) rfl rfl rfl rfl rfl rfl

end Go.Proofs.Ythkkhmkieknemaa
