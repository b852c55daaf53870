/- Part 12 of the texts on which the proof in this folder rests: each says what it proves at its own head. No condition. -/
import Derived.Test.YthkkhmkieknemaaM11
set_option linter.unusedVariables false
set_option linter.unusedSimpArgs false
/- The sixth law of the ring, as it is computed. Condition: the memory's bytes are whole pages; the numbers are such as their types hold. -/
namespace Go.Proofs.Ythkkhmkieknemaa
open Go.Abs
variable {k : Nat}

/-- No byte is in both. -/
def ap (p q : Pt) : Prop := p.a + p.n ≤ q.a ∨ q.a + q.n ≤ p.a

def unw (p : Pt) : Pt := ⟨p.i, p.a, p.n, false⟩

theorem scS_false {ys : List UInt8} {r : List UInt8 × Nat} {p : Pt} (h : p.w = false) : scS ys r p = r := by
  unfold scS; rw [if_neg (by rw [h]; simp)]

theorem scat_filter {ys : List UInt8} : ∀ {l : List Pt} {r : List UInt8 × Nat}, l.foldl (scS ys) r = (l.filter (·.w)).foldl (scS ys) r
  | [], _ => rfl
  | p :: l, r => by
    rw [List.foldl_cons, scat_filter (l := l)]
    cases h : p.w with
    | true => rw [List.filter_cons_of_pos h, List.foldl_cons]
    | false => rw [List.filter_cons_of_neg (by simp [h]), scS_false h]

theorem rm_filter : ∀ {l : List Pt} {n : Nat}, l.foldl rmS n = (l.filter (·.w)).foldl rmS n
  | [], _ => rfl
  | p :: l, n => by
    rw [List.foldl_cons, rm_filter (l := l)]
    cases h : p.w with
    | true => rw [List.filter_cons_of_pos h, List.foldl_cons]
    | false =>
      rw [List.filter_cons_of_neg (by simp [h])]
      unfold rmS; rw [if_neg (by rw [h]; simp)]

/-- The bytes of a place. -/
def at_ (bs : List UInt8) (a n : Nat) : List UInt8 := (bs.drop a).take n

theorem at_put_ne {bs ys : List UInt8} {a c n : Nat} (h : a + ys.length ≤ bs.length) (hc : c + n ≤ a ∨ a + ys.length ≤ c) : at_ (putB bs a ys) c n = at_ bs c n := by
  unfold at_
  apply List.ext_getElem?
  intro t
  by_cases ht : t < n
  · rw [List.getElem?_take_of_lt ht, List.getElem?_take_of_lt ht, List.getElem?_drop, List.getElem?_drop, putB_get h]
    by_cases h1 : c + t < a
    · rw [if_pos h1]
    · rw [if_neg h1, if_neg (by omega)]
  · rw [List.getElem?_eq_none (by rw [List.length_take]; omega), List.getElem?_eq_none (by rw [List.length_take]; omega)]

theorem at_put {bs ys : List UInt8} {a n : Nat} (h : a + n ≤ bs.length) (hy : ys.length ≤ n) : at_ (putB bs a ys) a n = ys ++ (at_ bs a n).drop ys.length := by
  unfold at_
  apply List.ext_getElem?
  intro t
  by_cases ht : t < n
  · rw [List.getElem?_take_of_lt ht, List.getElem?_drop, putB_get (by omega), if_neg (by omega)]
    by_cases h1 : a + t < a + ys.length
    · rw [if_pos h1, List.getElem?_append_left (by omega)]
      congr 1; omega
    · rw [if_neg h1, List.getElem?_append_right (by omega), List.getElem?_drop, List.getElem?_take_of_lt (by omega), List.getElem?_drop]
      congr 1; omega
  · rw [List.getElem?_eq_none (by rw [List.length_take]; omega), List.getElem?_eq_none (by rw [List.length_append, List.length_drop, List.length_take, List.length_drop]; omega)]

/-- What scattering has brought about, part by part. -/
structure Sc (bs ys : List UInt8) (V : List Pt) (r : List UInt8 × Nat) : Prop where
  n : r.2 = min ys.length (rm V)
  len : r.1.length = bs.length
  g : gath r.1 (V.map unw) = ys.take r.2 ++ (gath bs (V.map unw)).drop r.2
  far : ∀ c n, (∀ p ∈ V, p.a + p.n ≤ c ∨ c + n ≤ p.a) → at_ r.1 c n = at_ bs c n
  gl : (gath bs (V.map unw)).length = rm V

theorem gath_same {B C : List UInt8} {V : List Pt} (h : ∀ p ∈ V, at_ B p.a p.n = at_ C p.a p.n) : gath B (V.map unw) = gath C (V.map unw) := by
  unfold gath
  rw [List.flatMap_map, List.flatMap_map]
  exact flatMap_same fun p hp => by
    show (if false = true then [] else (B.drop p.a).take p.n) = (if false = true then [] else (C.drop p.a).take p.n)
    simp only [Bool.false_eq_true, if_false]
    exact h p hp

theorem gath_snoc1 {B : List UInt8} {V : List Pt} {p : Pt} : gath B ((V ++ [p]).map unw) = gath B (V.map unw) ++ at_ B p.a p.n := by
  unfold gath
  rw [List.map_append, List.flatMap_append]
  simp [rdP, unw, at_]

theorem Sc.snoc {bs ys : List UInt8} {V : List Pt} {r : List UInt8 × Nat} {p : Pt} (h : Sc bs ys V r) (hw : p.w = true) (hp : p.a + p.n ≤ bs.length) (hd : ∀ q ∈ V, ap q p) : Sc bs ys (V ++ [p]) (scS ys r p) := by
  obtain ⟨B, m⟩ := r
  obtain ⟨h1, h2, h3, h4, h5⟩ := h
  dsimp only at h1 h2 h3 h4
  obtain ⟨z, hz⟩ : ∃ z, z = min p.n (ys.length - m) := ⟨_, rfl⟩
  have hs : scS ys (B, m) p = (putB B p.a ((ys.take (m + z)).drop m), m + z) := by unfold scS; rw [if_pos hw, hz]
  have hrm : rm (V ++ [p]) = rm V + p.n := by
    unfold rm; rw [List.foldl_append]
    show rmS _ p = _
    unfold rmS; rw [if_pos hw]
  have hzl := slice_length ys m z (by omega)
  have hpr : at_ B p.a p.n = at_ bs p.a p.n := h4 _ _ fun q hq => hd q hq
  have hle : p.a + ((ys.take (m + z)).drop m).length ≤ B.length := by omega
  rw [hs]
  refine ⟨by rw [hrm]; show m + z = _; omega, by rw [putB_length hle]; exact h2, ?_, ?_, ?_⟩
  · show gath (putB B p.a ((ys.take (m + z)).drop m)) _ = ys.take (m + z) ++ (gath bs _).drop (m + z)
    rw [gath_snoc1, gath_snoc1, at_put (by omega) (by omega), hzl, hpr]
    have e : gath (putB B p.a ((ys.take (m + z)).drop m)) (V.map unw) = gath B (V.map unw) := gath_same fun q hq => at_put_ne hle (by
      rcases hd q hq with hh | hh
      · exact .inl hh
      · exact .inr (by omega))
    rw [e, h3, List.drop_append, h5, List.append_assoc]
    have e1 : ys.take (m + z) = ys.take m ++ (ys.take (m + z)).drop m := by
      have := List.take_append_drop m (ys.take (m + z))
      rw [List.take_take, show min m (m + z) = m by omega] at this
      exact this.symm
    obtain ⟨Y, hY⟩ : ∃ Y, Y = (ys.take (m + z)).drop m := ⟨_, rfl⟩
    rw [← hY] at e1 hzl ⊢
    rw [e1, List.append_assoc]
    congr 1
    rcases Nat.lt_or_ge (rm V) ys.length with hc | hc
    · have e2 : (gath bs (V.map unw)).drop m = [] := List.drop_of_length_le (by omega)
      have e3 : (gath bs (V.map unw)).drop (m + z) = [] := List.drop_of_length_le (by omega)
      rw [e2, e3, List.nil_append, List.nil_append, show m + z - rm V = z by omega]
    · have e2 : z = 0 := by omega
      have e4 : Y = [] := List.eq_nil_of_length_eq_zero (by omega)
      rw [e4, e2, List.nil_append, List.nil_append, List.drop_zero, Nat.add_zero, show m - rm V = 0 by omega, List.drop_zero]
  · intro c n hc
    show at_ (putB B p.a _) c n = _
    rw [at_put_ne hle ?_]
    · exact h4 c n fun q hq => hc q (List.mem_append_left _ hq)
    · have := hc p (List.mem_append_right _ List.mem_cons_self)
      omega
  · rw [gath_snoc1, List.length_append, h5, hrm]
    congr 1
    unfold at_
    rw [List.length_take, List.length_drop]; omega

theorem Sc.nil (bs ys : List UInt8) : Sc bs ys [] (bs, 0) := ⟨by simp [rm], rfl, by simp [gath], fun _ _ _ => rfl, by simp [gath, rm]⟩

theorem sc_all {bs ys : List UInt8} : ∀ {W V : List Pt} {r : List UInt8 × Nat}, Sc bs ys V r → (∀ p ∈ W, p.w = true ∧ p.a + p.n ≤ bs.length) → (∀ q ∈ V, ∀ p ∈ W, ap q p) → W.Pairwise ap → Sc bs ys (V ++ W) (W.foldl (scS ys) r)
  | [], V, r, h, _, _, _ => by rw [List.append_nil]; exact h
  | p :: W, V, r, h, h1, h2, h3 => by
    obtain ⟨a1, a2⟩ := h1 p List.mem_cons_self
    rw [List.pairwise_cons] at h3
    have := sc_all (W := W) (V := V ++ [p]) (h.snoc a1 a2 fun q hq => h2 q hq p List.mem_cons_self) (fun q hq => h1 q (List.mem_cons_of_mem _ hq)) (fun q hq x hx => by
      rcases List.mem_append.1 hq with hh | hh
      · exact h2 q hh x (List.mem_cons_of_mem _ hx)
      · rw [List.mem_singleton] at hh; subst hh; exact h3.1 x hx) h3.2
    rw [List.append_assoc] at this
    exact this

theorem scat_carries {bs ys : List UInt8} {l : List Pt} (hin : InM bs.length l) (hd : (l.filter (·.w)).Pairwise ap) : Sc bs ys (l.filter (·.w)) (scat bs l ys) := by
  unfold scat
  rw [scat_filter]
  have := sc_all (Sc.nil bs ys) (W := l.filter (·.w)) (fun p hp => by
    rw [List.mem_filter] at hp
    exact ⟨hp.2, hin p hp.1 hp.2⟩) (by simp) hd
  rw [List.nil_append] at this
  exact this

end Go.Proofs.Ythkkhmkieknemaa

/- The sixth law of the ring, as it is computed. Condition: the memory's bytes are whole pages; the numbers are such as their types hold. -/
namespace Go.Proofs.Ythkkhmkieknemaa
open Go.Abs
variable {k : Nat}

theorem filter_take {l : List Pt} {j : Nat} {p : Pt} (h : l[j]? = some p) : (l.take (j + 1)).filter (·.w) = if p.w then (l.take j).filter (·.w) ++ [p] else (l.take j).filter (·.w) := by
  rw [List.take_add_one, h, List.filter_append]
  cases hw : p.w <;> simp [hw]

set_option maxRecDepth 100000 in
set_option maxHeartbeats 8000000 in
theorem s8 {bs ys : List UInt8} {p b s i : Nat} (hp : bs.length = 128 * p) (hb : b < 4294967296) (hs0 : s < 4294967296) (hi : i < 256) : Calls0 (evCall FN (k + 20000)) 8 [memV bs, ringV b s, .int .u8 i, .str ys] (.bool true) := by
  have c10 : Calls0 (evCall FN (k + 19999)) 10 [] (.bool true) := s10.fuel (k := 300) (by omega)
  refine q_call0 fn8 fun T H E lv => ?_
  rcases s13x (k := 0) hp hb hs0 with c13 | ⟨c13, h⟩
  · have c13 : Calls0 (evCall FN (k + 19999)) 13 [memV bs, ringV b s] (.bool false) := c13.fuel (by omega)
    repeat (first | (apply o_nil; apply k_norm) | (apply p_mov; exact rfl) | (apply p_load; (iterate 4 exact rfl)) | (apply p_box; exact rfl; exact rfl; intro E) | (apply p_un; exact rfl; exact rfl) | (apply p_call; exact rfl; exact rfl; assumption) | (apply p_guard_no; exact rfl; exact rfl) | (apply p_pick_true; exact rfl; exact rfl) | apply w_seq | apply w_ops | apply k_ret | apply w_ret | (apply q_cond_true; exact rfl))
    exact q_ret (.inr rfl) rfl rfl rfl rfl rfl rfl
  have c13 : Calls0 (evCall FN (k + 19999)) 13 [memV bs, ringV b s] (.bool true) := c13.fuel (by omega)
  by_cases hy : 3000 < ys.length
  · repeat (first | (apply o_nil; apply k_norm) | (apply p_mov; exact rfl) | (apply p_load; (iterate 4 exact rfl)) | (apply p_bin; exact rfl; exact rfl; (with_reducible exact gtr_t (by omega))) | (apply p_box; exact rfl; exact rfl; intro E) | (apply p_lenS; exact rfl) | (apply p_un; exact rfl; exact rfl) | (apply p_call; exact rfl; exact rfl; assumption) | (apply p_guard_yes; exact rfl) | (apply p_pick_false; exact rfl; exact rfl) | apply w_seq | apply w_ops | apply k_ret | apply w_ret | (apply q_cond_true; exact rfl))
    exact q_ret (.inr rfl) rfl rfl rfl rfl rfl rfl
  have hs := h.hs
  have hle := h.le
  have hl := h.m.le
  have hk : i % s < s := Nat.mod_lt _ (by omega)
  have gr : evBin .rem (.int .i64 (i : Int)) (.int .i64 (s : Int)) = some (.int .i64 ((i % s : Nat) : Int)) := rem_nn (by omega)
  have c15 : Calls0 (evCall FN (k + 19999)) 15 [memV bs, ringV b s, .int .i64 ((i % s : Nat) : Int)] _ := (s15 (k := 0) h hk).fuel (by omega)
  have W := takeL_ok (bs := bs) (b := b) hk
  obtain ⟨L, hL⟩ : ∃ L, L = takeL bs b s (i % s) := ⟨_, rfl⟩
  obtain ⟨M, hM⟩ : ∃ M, M = takeM bs b s (i % s) := ⟨_, rfl⟩
  rw [← hL, ← hM] at c15
  rw [← hL] at W
  obtain ⟨l, hl0⟩ : ∃ l, l = L.map (ptOf bs b) := ⟨_, rfl⟩
  have hpl : partsV bs b L = ptsV l := by rw [hl0, parts_pts]
  have hll : l.length = L.length := by rw [hl0, List.length_map]
  have hn := W.len
  have hin : InM bs.length l := hl0 ▸ W.inM rfl
  have hlt : ∀ q ∈ l, q.n < 4294967296 ∧ q.a < 4294967296 ∧ q.w = wr bs b q.i := hl0 ▸ pts_lt
  have hfl := pts_flat l
  have hdv := pts_div l
  rw [hpl] at c15
  have hln : l.length ≤ 4 := by omega
  clear hl0 hpl hll hL hM
  repeat (first | (apply o_nil; apply k_norm) | (apply p_mov; exact rfl) | (apply p_load; (iterate 4 exact rfl)) | (apply p_bin; exact rfl; exact rfl; (with_reducible assumption)) | (apply p_bin; exact rfl; exact rfl; (with_reducible exact gtr_f (by omega))) | (apply p_fadd; exact rfl) | (apply p_box; exact rfl; exact rfl; intro E) | (apply p_new; intro E) | (apply p_store; (iterate 3 exact rfl); exact rfl; exact rfl; exact rfl) | (apply p_convA; exact rfl; (with_reducible exact w64 (by omega) (by omega))) | (apply p_len; exact rfl; exact csz_ok _ _) | (apply p_lenS; exact rfl) | (apply p_ext; exact rfl; exact rfl) | (apply p_un; exact rfl; exact rfl) | (apply p_call; exact rfl; exact rfl; assumption) | (apply p_guard_yes; exact rfl) | (apply p_pick_false; exact rfl; exact rfl) | apply w_seq | apply w_ops | apply k_norm | apply w_skip | apply w_block | (apply q_cond_false; exact rfl))
  rw [pts_div]
  refine q_loop (α := Nat × Nat × Nat) (LInv.mk (fun p => p.1 ≤ l.length ∧ ((l.take p.1).filter (·.w)).Pairwise ap) (fun p => l.length - p.1)
    (fun p => [(46, .int .i64 (p.1 : Int)), (45, .int .i64 (l.length : Int)), (44, csl 4 (ptsV l)), (12, .sl p.2.1 p.2.2 (ptsV (((l.take p.1).filter (·.w)).map unw))), (10, csl 4 (ptsV l)), (5, .ref 1 0), (4, .ref 0 0), (3, .str ys)])
    (fun p => [(1, [.int .u32 b, .int .u32 s]), (0, [csl 128 (bs.map ofB)])]))
    (fun p lv c => 4 ≤ c ∧ LA 4 lv c p.2.1 p.2.2 (ptsV (((l.take p.1).filter (·.w)).map unw)))
    (0, 0, 0) ⟨Nat.zero_le _, by simp⟩ ⟨Nat.le_refl _, LA.nil⟩ (show l.length - 0 < k + 19999 by omega) ⟨rfl, rfl, rfl, rfl, rfl, rfl, rfl, rfl, trivial⟩ ⟨rfl, rfl, trivial⟩ ?_
  rintro ⟨j, br, z⟩ lv c T H E ⟨hP, hpw⟩ hB hμ
  have hP : j ≤ l.length := hP
  have hpw : ((l.take j).filter (·.w)).Pairwise ap := hpw
  obtain ⟨hc4, LL⟩ : 4 ≤ c ∧ LA 4 lv c br z (ptsV (((l.take j).filter (·.w)).map unw)) := hB
  clear hμ
  dsimp only
  obtain ⟨c', rfl⟩ : ∃ c', c = c' + 4 := ⟨c - 4, by omega⟩
  rcases Nat.lt_or_ge j l.length with hjl | hjl
  · obtain ⟨q, hq⟩ : ∃ q, l[j]? = some q := ⟨_, List.getElem?_eq_getElem hjl⟩
    obtain ⟨k1, k2, _⟩ := hlt q (List.mem_of_getElem? hq)
    have gi : inB (j : Int) ((ptsV l).length / 4) = some j := inB_n (by rw [pts_div]; omega)
    have hft := filter_take hq
    obtain ⟨pi, pa, pn, pw⟩ := q
    dsimp only at k1 k2
    cases pw
    · have hr : rd (ptsV l) (j * 4) 4 true = some (.agg [.int .i64 pi, .int .i64 pa, .int .i64 pn, .bool false]) := rd_pt hq
      have hft : (l.take (j + 1)).filter (·.w) = (l.take j).filter (·.w) := hft
      repeat (first | (apply o_nil; apply k_norm) | (apply o_nil; skip) | (apply p_mov; exact rfl) | (apply p_load; (iterate 4 exact rfl)) | (apply p_bin; exact rfl; exact rfl; (with_reducible exact add_nl (by omega))) | (apply p_bin; exact rfl; exact rfl; (with_reducible exact lss_t (by omega))) | (apply p_fadd; exact rfl) | (apply p_new; intro E) | (apply p_store; (iterate 3 exact rfl); exact rfl; exact rfl; exact rfl) | (apply p_un; exact rfl; exact rfl) | (apply p_iaS; exact rfl; exact rfl; exact csz_ok _ _; (with_reducible assumption)) | (apply p_load_pp; exact rfl; (with_reducible assumption)) | apply w_seq | apply w_ops | apply k_norm | apply k_exit | apply w_exit | apply w_skip | apply w_block | apply b_exit | (apply q_cond_true; exact rfl))
      exact n_again (j + 1, br, z) ⟨(show j + 1 ≤ l.length by omega), by rw [hft]; exact hpw⟩ ⟨hc4, by rw [hft]; exact LL⟩ (show l.length - (j + 1) < l.length - j by omega) ⟨rfl, rfl, rfl, by rw [hft]; rfl, rfl, rfl, rfl, rfl, trivial⟩ ⟨⟨rfl, rfl⟩, ⟨rfl, rfl⟩, trivial⟩
    · have hr : rd (ptsV l) (j * 4) 4 true = some (.agg [.int .i64 pi, .int .i64 pa, .int .i64 pn, .bool true]) := rd_pt hq
      have hft : (l.take (j + 1)).filter (·.w) = (l.take j).filter (·.w) ++ [⟨pi, pa, pn, true⟩] := hft
      obtain ⟨V, hV⟩ : ∃ V, V = (l.take j).filter (·.w) := ⟨_, rfl⟩
      have hVl : V.length ≤ j := by
        rw [hV]
        have := List.length_filter_le (·.w) (l.take j)
        rw [List.length_take] at this; omega
      have hVm : ∀ q ∈ V, q.n < 4294967296 ∧ q.a < 4294967296 := by
        intro q hq
        rw [hV] at hq
        have := hlt q (List.mem_of_mem_take (List.mem_filter.1 hq).1)
        exact ⟨this.1, this.2.1⟩
      rw [← hV] at hft hpw LL ⊢
      have hsz := LL.sz
      have hdV : (ptsV (V.map unw)).length / 4 = V.length := by rw [pts_div, List.length_map]
      repeat (first | (apply o_nil; apply k_norm) | (apply p_mov; exact rfl) | (apply p_load; (iterate 4 exact rfl)) | (apply p_bin; exact rfl; exact rfl; (with_reducible exact lss_t (by omega))) | (apply p_fadd; exact rfl) | (apply p_new; intro E) | (apply p_store; (iterate 3 exact rfl); exact rfl; exact rfl; exact rfl) | (apply p_len; exact rfl; assumption) | (apply p_un; exact rfl; exact rfl) | (apply p_iaS; exact rfl; exact rfl; exact csz_ok _ _; (with_reducible assumption)) | (apply p_load_pp; exact rfl; (with_reducible assumption)) | apply w_seq | apply w_ops | apply k_norm | apply w_skip | apply w_block | (apply q_cond_true; exact rfl) | (apply q_cond_false; exact rfl))
      rw [hdV]
      refine q_loop (α := Nat) (LInv.mk (fun i => i ≤ V.length ∧ ∀ q ∈ V.take i, ap q ⟨pi, pa, pn, true⟩) (fun i => V.length - i)
        (fun i => [(55, .int .i64 (i : Int)), (54, .int .i64 (V.length : Int)), (53, .sl br z (ptsV (V.map unw))), (14, .ref 3 0), (46, .int .i64 (j : Int)), (45, .int .i64 (l.length : Int)), (44, csl 4 (ptsV l)), (12, .sl br z (ptsV (V.map unw))), (10, csl 4 (ptsV l)), (5, .ref 1 0), (4, .ref 0 0), (3, .str ys)])
        (fun i => [(3, [.int .i64 pi, .int .i64 pa, .int .i64 pn, .bool true]), (1, [.int .u32 b, .int .u32 s]), (0, [csl 128 (bs.map ofB)])]))
        (fun _ lv1 c1 => lv1 = lv ∧ c1 = c' + 4) 0 ⟨Nat.zero_le _, by simp⟩ ⟨rfl, rfl⟩ (show V.length - 0 < k + 19999 by omega) ⟨rfl, rfl, rfl, rfl, rfl, rfl, rfl, rfl, rfl, rfl, rfl, rfl, trivial⟩ ⟨rfl, rfl, rfl, trivial⟩ ?_
      rintro i' lv1 c1 T H E ⟨hPi, hap⟩ ⟨rfl, rfl⟩ hμ
      have hPi : i' ≤ V.length := hPi
      have hap : ∀ q ∈ V.take i', ap q ⟨pi, pa, pn, true⟩ := hap
      clear hμ
      dsimp only
      rcases Nat.lt_or_ge i' V.length with hij | hij
      · obtain ⟨y, hy'⟩ : ∃ y, V[i']? = some y := ⟨_, List.getElem?_eq_getElem hij⟩
        have hmy : (V.map unw)[i']? = some (unw y) := by rw [List.getElem?_map, hy']; rfl
        have hap2 : ap y ⟨pi, pa, pn, true⟩ → ∀ q ∈ V.take (i' + 1), ap q ⟨pi, pa, pn, true⟩ := by
          intro h q hq
          rw [List.take_add_one, hy'] at hq
          rcases List.mem_append.1 hq with hh | hh
          · exact hap q hh
          · simp at hh; subst hh; exact h
        obtain ⟨m1, m2⟩ := hVm y (List.mem_of_getElem? hy')
        obtain ⟨yi, ya, yn, yw⟩ := y
        dsimp only at m1 m2
        have hr2 : rd (ptsV (V.map unw)) (i' * 4) 4 true = some (.agg [.int .i64 yi, .int .i64 ya, .int .i64 yn, .bool false]) := rd_pt hmy
        have gi2 : inB (i' : Int) ((ptsV (V.map unw)).length / 4) = some i' := inB_n (by rw [hdV]; omega)
        by_cases o1 : ya < pa + pn
        · by_cases o2 : pa < ya + yn
          · repeat (first | (apply o_nil; apply k_norm) | (apply p_mov; exact rfl) | (apply p_load; (iterate 4 exact rfl)) | (apply p_bin; exact rfl; exact rfl; (with_reducible exact add_nn (by omega))) | (apply p_bin; exact rfl; exact rfl; (with_reducible exact lss_t (by omega))) | (apply p_fadd; exact rfl) | (apply p_new; intro E) | (apply p_store; (iterate 3 exact rfl); exact rfl; exact rfl; exact rfl) | (apply p_call; exact rfl; exact rfl; assumption) | (apply p_iaS; exact rfl; exact rfl; assumption; (with_reducible assumption)) | (apply p_load_pp; exact rfl; (with_reducible assumption)) | (apply p_guard_yes; exact rfl) | (apply p_pick_true; exact rfl; exact rfl) | apply w_seq | apply w_ops | apply k_norm | apply k_ret | apply w_ret | apply w_skip | apply w_block | apply b_ret | (apply q_cond_true; exact rfl))
            apply n_ret
            repeat (first | apply k_ret | apply b_ret)
            apply n_ret
            repeat (first | apply k_ret | apply b_ret)
            exact q_ret (.inr rfl) rfl rfl rfl rfl rfl rfl
          · repeat (first | (apply o_nil; apply k_norm) | (apply o_nil; skip) | (apply p_mov; exact rfl) | (apply p_load; (iterate 4 exact rfl)) | (apply p_bin; exact rfl; exact rfl; (with_reducible exact add_nn (by omega))) | (apply p_bin; exact rfl; exact rfl; (with_reducible exact add_nl (by omega))) | (apply p_bin; exact rfl; exact rfl; (with_reducible exact lss_t (by omega))) | (apply p_bin; exact rfl; exact rfl; (with_reducible exact lss_f (by omega))) | (apply p_fadd; exact rfl) | (apply p_new; intro E) | (apply p_store; (iterate 3 exact rfl); exact rfl; exact rfl; exact rfl) | (apply p_iaS; exact rfl; exact rfl; assumption; (with_reducible assumption)) | (apply p_load_pp; exact rfl; (with_reducible assumption)) | (apply p_guard_yes; exact rfl) | (apply p_pick_true; exact rfl; exact rfl) | apply w_seq | apply w_ops | apply k_norm | apply w_skip | apply w_block | apply b_norm | (apply q_cond_true; exact rfl) | (apply q_cond_false; exact rfl))
            exact n_again (i' + 1) ⟨(show i' + 1 ≤ V.length by omega), hap2 (.inl (show ya + yn ≤ pa by omega))⟩ ⟨rfl, rfl⟩ (show V.length - (i' + 1) < V.length - i' by omega) ⟨rfl, rfl, rfl, rfl, rfl, rfl, rfl, rfl, rfl, rfl, rfl, rfl, trivial⟩ ⟨⟨rfl, rfl⟩, ⟨rfl, rfl⟩, ⟨rfl, rfl⟩, trivial⟩
        · repeat (first | (apply o_nil; apply k_norm) | (apply o_nil; skip) | (apply p_mov; exact rfl) | (apply p_load; (iterate 4 exact rfl)) | (apply p_bin; exact rfl; exact rfl; (with_reducible exact add_nn (by omega))) | (apply p_bin; exact rfl; exact rfl; (with_reducible exact add_nl (by omega))) | (apply p_bin; exact rfl; exact rfl; (with_reducible exact lss_t (by omega))) | (apply p_bin; exact rfl; exact rfl; (with_reducible exact lss_f (by omega))) | (apply p_fadd; exact rfl) | (apply p_new; intro E) | (apply p_store; (iterate 3 exact rfl); exact rfl; exact rfl; exact rfl) | (apply p_iaS; exact rfl; exact rfl; assumption; (with_reducible assumption)) | (apply p_load_pp; exact rfl; (with_reducible assumption)) | (apply p_guard_no; exact rfl; exact rfl) | (apply p_pick_false; exact rfl; exact rfl) | apply w_seq | apply w_ops | apply k_norm | apply w_skip | apply w_block | apply b_norm | (apply q_cond_true; exact rfl) | (apply q_cond_false; exact rfl))
          exact n_again (i' + 1) ⟨(show i' + 1 ≤ V.length by omega), hap2 (.inr (show pa + pn ≤ ya by omega))⟩ ⟨rfl, rfl⟩ (show V.length - (i' + 1) < V.length - i' by omega) ⟨rfl, rfl, rfl, rfl, rfl, rfl, rfl, rfl, rfl, rfl, rfl, rfl, trivial⟩ ⟨⟨rfl, rfl⟩, ⟨rfl, rfl⟩, ⟨rfl, rfl⟩, trivial⟩
      · rw [List.take_of_length_le hij] at hap
        have hroom : ((ptsV (V.map unw)).length + 4) / 4 * 32 ≤ room := by rw [pts_length, List.length_map, room]; omega
        have e2 : ptsV (V.map unw) ++ [.int .i64 pi, .int .i64 pa, .int .i64 pn, .bool false] = ptsV ((V ++ [Pt.mk pi pa pn true]).map unw) := by
          simp [ptsV, ptV, unw]
        repeat (first | (apply o_nil; apply k_norm) | (apply p_bin; exact rfl; exact rfl; (with_reducible exact lss_f (by omega))) | apply w_seq | apply w_ops | apply k_exit | apply w_exit | (apply q_cond_false; exact rfl))
        apply n_exit
        apply b_exit
        repeat (first | (apply p_mov; exact rfl) | (apply p_load; (iterate 4 exact rfl)) | (apply p_fadd; exact rfl) | (apply p_build; exact rfl; exact rfl) | (apply p_bsl; (iterate 4 exact rfl); (simp only [List.length_cons, List.length_nil]; exact rfl)) | apply w_ops | apply k_norm)
        apply p_appL
        · exact rfl
        · exact rfl
        · exact rfl
        · exact LL
        · exact ⟨by omega, by omega⟩
        · exact hroom
        intro lv2 m1 m2
        rw [e2]
        repeat (first | (apply o_nil; apply b_norm) | (apply o_nil; skip) | (apply p_mov; exact rfl) | (apply p_bin; exact rfl; exact rfl; (with_reducible exact add_nl (by omega))) | apply w_ops | apply k_norm)
        exact n_again (j + 1, c' + 4, 4) ⟨(show j + 1 ≤ l.length by omega), by
          rw [hft, List.pairwise_append]
          exact ⟨hpw, by simp, fun x hx y hy => by rw [List.mem_singleton] at hy; subst hy; exact hap x hx⟩⟩ ⟨by omega, by rw [hft]; exact LA.mine (by omega) m1⟩ (show l.length - (j + 1) < l.length - j by omega)
          ⟨rfl, rfl, rfl, by rw [hft]; rfl, rfl, rfl, rfl, rfl, trivial⟩ ⟨⟨rfl, rfl⟩, ⟨rfl, rfl⟩, trivial⟩
  · have hjj : l.take j = l := List.take_of_length_le hjl
    rw [hjj] at hpw LL ⊢
    have S := scat_carries (ys := ys) hin hpw
    obtain ⟨V, hV⟩ : ∃ V, V = l.filter (·.w) := ⟨_, rfl⟩
    have hVl : V.length ≤ l.length := by rw [hV]; exact List.length_filter_le _ _
    have hVm : ∀ q ∈ V, q.a + q.n ≤ bs.length := by
      intro q hq
      rw [hV, List.mem_filter] at hq
      exact hin q hq.1 hq.2
    have hrm : rm l = rm V := by rw [hV]; exact rm_filter
    rw [← hV] at S LL ⊢
    have hO : VM (scat bs l ys).1 := h.m.of_len S.len
    have hR1 : InR bs.length (V.map unw) := by
      intro q hq _
      obtain ⟨x, hx, rfl⟩ := List.mem_map.1 hq
      exact hVm x hx
    have hR2 : InR (scat bs l ys).1.length (V.map unw) := by rw [S.len]; exact hR1
    have c26 : Calls0 (evCall FN (k + 19999)) 26 [memV bs, csl 4 (ptsV l), .str ys] (.tup [memV (scat bs l ys).1, .int .i64 (scat bs l ys).2]) := (s26 (k := 0) h.m (by omega) hin (by omega) fun q hq => (hlt q hq).1).fuel (by omega)
    have c30a : Calls0 (evCall FN (k + 19999)) 30 [memV bs, csl 4 (ptsV (V.map unw))] (.str (gath bs (V.map unw))) := (s30 (k := 0) h.m hR1 (by rw [List.length_map]; omega)).fuel (by omega)
    have c30b : Calls0 (evCall FN (k + 19999)) 30 [memV (scat bs l ys).1, csl 4 (ptsV (V.map unw))] (.str (gath (scat bs l ys).1 (V.map unw))) := (s30 (k := 0) hO hR2 (by rw [List.length_map]; omega)).fuel (by omega)
    have c32 : Calls0 (evCall FN (k + 19999)) 32 [csl 4 (ptsV l)] (.int .i64 (rm l)) := (s32 (k := 0) (by omega) fun q hq => (hlt q hq).1).fuel (by omega)
    have sn := S.n
    have sg := S.g
    have sgl := S.gl
    obtain ⟨O, hOe⟩ : ∃ O, O = (scat bs l ys).1 := ⟨_, rfl⟩
    obtain ⟨m, hm⟩ : ∃ m, m = (scat bs l ys).2 := ⟨_, rfl⟩
    rw [← hOe, ← hm] at c26
    rw [← hOe] at c30b sg
    rw [← hm] at sn sg
    obtain ⟨A, hA⟩ : ∃ A, A = gath O (V.map unw) := ⟨_, rfl⟩
    obtain ⟨Bf, hBf⟩ : ∃ Bf, Bf = gath bs (V.map unw) := ⟨_, rfl⟩
    rw [← hA] at c30b sg
    rw [← hBf] at c30a sg sgl
    have hAl : A.length = Bf.length := by rw [sg, List.length_append, List.length_take, List.length_drop]; omega
    have f1 : evBin .eql (.str ((A.take m).drop 0)) (.str ((ys.take m).drop 0)) = some (.bool true) := eql_str (by
      rw [sg, List.take_append, List.length_take, show m - min m ys.length = 0 by omega, List.take_zero, List.append_nil, List.take_take, Nat.min_self])
    have f2 : evBin .eql (.str ((A.take A.length).drop m)) (.str ((Bf.take Bf.length).drop m)) = some (.bool true) := eql_str (by
      rw [List.take_length, List.take_length, sg, List.drop_append, List.length_take, show m - min m ys.length = 0 by omega, List.drop_zero, List.drop_of_length_le (by rw [List.length_take]; omega), List.nil_append])
    rcases LL with ⟨rfl, rfl, k1⟩ | ⟨k1, _, _, rfl⟩
    · have e0 : ptsV (V.map unw) = [] := k1
      rw [e0] at c30a c30b ⊢
      repeat (first | (apply o_nil; apply k_norm) | (apply p_bin; exact rfl; exact rfl; (with_reducible exact lss_f (by omega))) | apply w_seq | apply w_ops | apply k_exit | apply w_exit | (apply q_cond_false; exact rfl))
      apply n_exit
      apply b_exit
      repeat (first | (apply o_nil; apply k_norm) | (apply p_mov; exact rfl) | (apply p_load; (iterate 4 exact rfl)) | (apply p_bin; exact rfl; exact rfl; (with_reducible assumption)) | (apply p_bin; exact rfl; exact rfl; (with_reducible exact neq_f (by omega))) | (apply p_new; intro E) | (apply p_store; (iterate 3 exact rfl); exact rfl; exact rfl; exact rfl) | (apply p_lenS; exact rfl) | (apply p_ext; exact rfl; exact rfl) | (apply p_call; exact rfl; exact rfl; assumption) | (apply p_guard_yes; exact rfl) | (apply p_pick_true; exact rfl; exact rfl) | (apply p_pick_false; exact rfl; exact rfl) | apply w_seq | apply w_ops | apply k_norm | apply w_ret | apply w_skip | (apply q_cond_false; exact rfl) | (apply p_mnN; exact rfl; exact rfl) | (apply p_slS_hi; exact rfl; exact rfl; exact asB_n (by omega)) | (apply p_slS_lo; exact rfl; exact rfl; exact asB_n (by omega)))
      exact q_ret (.inr rfl) rfl rfl rfl rfl rfl rfl
    · obtain ⟨q1, rfl⟩ : ∃ q, br = q + 4 := ⟨br - 4, by omega⟩
      repeat (first | (apply o_nil; apply k_norm) | (apply p_bin; exact rfl; exact rfl; (with_reducible exact lss_f (by omega))) | apply w_seq | apply w_ops | apply k_exit | apply w_exit | (apply q_cond_false; exact rfl))
      apply n_exit
      apply b_exit
      repeat (first | (apply o_nil; apply k_norm) | (apply p_mov; exact rfl) | (apply p_load; (iterate 4 exact rfl)) | (apply p_bin; exact rfl; exact rfl; (with_reducible assumption)) | (apply p_bin; exact rfl; exact rfl; (with_reducible exact neq_f (by omega))) | (apply p_new; intro E) | (apply p_store; (iterate 3 exact rfl); exact rfl; exact rfl; exact rfl) | (apply p_lenS; exact rfl) | (apply p_ext; exact rfl; exact rfl) | (apply p_call; exact rfl; exact rfl; assumption) | (apply p_guard_yes; exact rfl) | (apply p_pick_true; exact rfl; exact rfl) | (apply p_pick_false; exact rfl; exact rfl) | apply w_seq | apply w_ops | apply k_norm | apply w_ret | apply w_skip | (apply q_cond_false; exact rfl) | (apply p_mnN; exact rfl; exact rfl) | (apply p_slS_hi; exact rfl; exact rfl; exact asB_n (by omega)) | (apply p_slS_lo; exact rfl; exact rfl; exact asB_n (by omega)))
      exact q_ret (.inr rfl) rfl rfl rfl rfl rfl rfl

end Go.Proofs.Ythkkhmkieknemaa
