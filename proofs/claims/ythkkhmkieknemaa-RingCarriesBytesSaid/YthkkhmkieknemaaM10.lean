/- Part 10 of the texts on which the proof in this folder rests: each says what it proves at its own head. No condition. -/
import Derived.Test.YthkkhmkieknemaaM9
import Derived.Test.YthkkhmkieknemaaRows
import Derived.ProofKit
import Derived.OpenShut
set_option linter.unusedVariables false
set_option linter.unusedSimpArgs false
/- What marks and scattered bytes change, and what is known of a request that is taken. No condition but that the places are there. -/
namespace Go.Proofs.Ythkkhmkieknemaa
open Go.Abs

theorem bt_eq {bs cs : List UInt8} {i j : Nat} (h : bs[i]? = cs[j]?) : bt bs i = bt cs j := by
  simp only [bt, List.getD_eq_getElem?_getD, h]

theorem bt_putB_ne {bs ys : List UInt8} {a t : Nat} (h : a + ys.length ≤ bs.length) (ht : t < a ∨ a + ys.length ≤ t) : bt (putB bs a ys) t = bt bs t := by
  apply bt_eq
  rw [putB_get h]
  by_cases h1 : t < a
  · rw [if_pos h1]
  · rw [if_neg h1, if_neg (by omega)]

theorem bt_putB_eq {bs ys : List UInt8} {a t : Nat} (h : a + ys.length ≤ bs.length) (h1 : a ≤ t) (h2 : t < a + ys.length) : bt (putB bs a ys) t = bt ys (t - a) := by
  apply bt_eq
  rw [putB_get h, if_neg (by omega), if_pos h2]

theorem bt_mark1_ne {b w i t : Nat} {bs : List UInt8} (h : b + 16 * i + 16 ≤ bs.length) (ht : t < b + 16 * i + 12 ∨ b + 16 * i + 16 ≤ t) : bt (mark1 b w bs i) t = bt bs t :=
  bt_putB_ne (by rw [le4_length]; omega) (by rw [le4_length]; omega)

theorem bt_markB_ne {b w t : Nat} : ∀ {js : List Nat} {bs : List UInt8}, (∀ j ∈ js, b + 16 * j + 16 ≤ bs.length) → (∀ j ∈ js, t < b + 16 * j + 12 ∨ b + 16 * j + 16 ≤ t) → bt (markB bs b w js) t = bt bs t
  | [], _, _, _ => rfl
  | j :: js, bs, h1, h2 => by
    have e := h1 j List.mem_cons_self
    refine (bt_markB_ne (js := js) (bs := mark1 b w bs j) (fun i hi => ?_) fun i hi => h2 i (List.mem_cons_of_mem _ hi)).trans (bt_mark1_ne e (h2 j List.mem_cons_self))
    rw [mark1_length e]; exact h1 i (List.mem_cons_of_mem _ hi)

/-- The place of a status. -/
def st (b j : Nat) : Pt := ⟨0, b + 16 * j + 12, 4, false⟩

theorem cov_st {b j t : Nat} : cov t (st b j) = true ↔ b + 16 * j + 12 ≤ t ∧ t < b + 16 * j + 16 := by
  show (decide (b + 16 * j + 12 ≤ t) && decide (t < b + 16 * j + 12 + 4)) = true ↔ _
  rw [Bool.and_eq_true, decide_eq_true_iff, decide_eq_true_iff]

theorem markB_cov {bs : List UInt8} {b w t : Nat} {js : List Nat} (h : ∀ j ∈ js, b + 16 * j + 16 ≤ bs.length) (hne : bt bs t ≠ bt (markB bs b w js) t) : (js.map (st b)).any (cov t) = true := by
  apply Decidable.byContradiction
  intro hc
  apply hne
  rw [bt_markB_ne h]
  intro j hj
  apply Decidable.byContradiction
  intro hn
  apply hc
  rw [List.any_eq_true]
  exact ⟨st b j, List.mem_map_of_mem hj, cov_st.2 (by omega)⟩

theorem scat_cov {ys : List UInt8} {t n : Nat} : ∀ {l : List Pt} {r : List UInt8 × Nat}, InM n l → r.1.length = n → r.2 ≤ ys.length → bt r.1 t ≠ bt (l.foldl (scS ys) r).1 t → (l.filter (·.w)).any (cov t) = true
  | [], _, _, _, _, h => absurd rfl h
  | p :: l, r, hin, h1, h2, h => by
    have hp := hin p List.mem_cons_self
    obtain ⟨q1, q2⟩ := scS_props (ys := ys) h1 h2 hp
    by_cases he : bt r.1 t = bt (scS ys r p).1 t
    · have ih := scat_cov (l := l) (r := scS ys r p) (fun q hq => hin q (List.mem_cons_of_mem _ hq)) q1 q2 (by rw [← he]; exact h)
      rw [List.any_eq_true] at ih ⊢
      obtain ⟨x, hx, hc⟩ := ih
      rw [List.mem_filter] at hx
      exact ⟨x, List.mem_filter.2 ⟨List.mem_cons_of_mem _ hx.1, hx.2⟩, hc⟩
    · by_cases hw : p.w = true
      · have hp := hp hw
        rw [List.any_eq_true]
        refine ⟨p, List.mem_filter.2 ⟨List.mem_cons_self, hw⟩, ?_⟩
        have hl := slice_length ys r.2 (min p.n (ys.length - r.2)) (by omega)
        simp only [scS, hw, if_true] at he
        simp only [cov, Bool.and_eq_true, decide_eq_true_eq]
        apply Decidable.byContradiction
        intro hn
        apply he
        rw [bt_putB_ne (by omega) (by omega)]
      · exact absurd (by simp only [scS, if_neg hw]) he

theorem word_le4 {bs : List UInt8} {a w : Nat} (h : a + 4 ≤ bs.length) (hw : w < 4294967296) : word (putB bs a (le4 w)) a = w := by
  have e : ∀ i, i < 4 → bt (putB bs a (le4 w)) (a + i) = w / 2 ^ (8 * i) % 256 := by
    intro i hi
    rw [bt_putB_eq (by rw [le4_length]; omega) (by omega) (by rw [le4_length]; omega), show a + i - a = i by omega]
    simp only [bt, List.getD_eq_getElem?_getD, le4_get w i hi, Option.getD_some, UInt8.toNat_ofNat']
    omega
  have e0 := e 0 (by omega); have e1 := e 1 (by omega); have e2 := e 2 (by omega); have e3 := e 3 (by omega)
  unfold word
  rw [Nat.add_zero] at e0
  rw [e0, e1, e2, e3]
  omega

theorem dw_mark1_ne {bs : List UInt8} {b w i j t : Nat} (h : b + 16 * i + 16 ≤ bs.length) (ht : t < 4) (hne : j ≠ i ∨ t ≠ 3) : dw (mark1 b w bs i) b j t = dw bs b j t := by
  unfold dw word
  rw [bt_mark1_ne h (by omega), bt_mark1_ne h (by omega), bt_mark1_ne h (by omega), bt_mark1_ne h (by omega)]

theorem dw_mark1_eq {bs : List UInt8} {b w i : Nat} (h : b + 16 * i + 16 ≤ bs.length) (hw : w < 4294967296) : dw (mark1 b w bs i) b i 3 = w := by
  unfold dw mark1
  rw [show b + 16 * i + 4 * 3 = b + 16 * i + 12 by omega]
  exact word_le4 (by omega) hw

theorem dw_markB {b w : Nat} (hw : w < 4294967296) : ∀ {js : List Nat} {bs : List UInt8} {j : Nat}, (∀ x ∈ js, b + 16 * x + 16 ≤ bs.length) → dw (markB bs b w js) b j 3 = if j ∈ js then w else dw bs b j 3
  | [], _, _, _ => by simp [markB]
  | x :: js, bs, j, h => by
    have e := h x List.mem_cons_self
    have ih := dw_markB hw (js := js) (bs := mark1 b w bs x) (j := j) fun y hy => by rw [mark1_length e]; exact h y (List.mem_cons_of_mem _ hy)
    refine ih.trans ?_
    by_cases h1 : j ∈ js
    · rw [if_pos h1, if_pos (List.mem_cons_of_mem _ h1)]
    · rw [if_neg h1]
      by_cases h2 : j = x
      · subst h2
        rw [if_pos List.mem_cons_self, dw_mark1_eq e hw]
      · rw [if_neg (by rw [List.mem_cons]; exact fun h => h.elim h2 h1), dw_mark1_ne e (by omega) (.inl h2)]

/-- What is known of the indices of a request. -/
structure WOK (bs : List UInt8) (b s : Nat) (js : List Nat) : Prop where
  len : js.length ≤ 4
  one : ∀ j ∈ js, j < s ∧ dw bs b j 3 = 1 ∧ 1 ≤ dw bs b j 1 ∧ dw bs b j 1 ≤ 512 ∧ dw bs b j 0 + dw bs b j 1 ≤ bs.length
  nd : js.Nodup
  ord : js.Pairwise fun x y => wr bs b x = true → wr bs b y = true

theorem WOK.snoc {bs : List UInt8} {b s i : Nat} {js : List Nat} (h : WOK bs b s js) (hi : i < s) (he : errAt bs b s js i = 0) : WOK bs b s (js ++ [i]) := by
  obtain ⟨e1, e2, e3, e4, e5, e6, _⟩ := errAt_ok he
  refine ⟨by rw [List.length_append, List.length_singleton]; omega, fun j hj => ?_, ?_, ?_⟩
  · rcases List.mem_append.1 hj with hh | hh
    · exact h.one j hh
    · rw [List.mem_singleton] at hh; subst hh; exact ⟨hi, e3, e4, e5, e6⟩
  · rw [List.nodup_append]
    exact ⟨h.nd, by simp, fun x hx y hy => by rw [List.mem_singleton] at hy; subst hy; exact fun hxy => e1 (hxy ▸ hx)⟩
  · rw [List.pairwise_append]
    refine ⟨h.ord, by simp, fun x hx y hy hw => ?_⟩
    rw [List.mem_singleton] at hy; subst hy
    have ha : js.any (wr bs b) = true := List.any_eq_true.2 ⟨x, hx, hw⟩
    unfold errAt errN at he
    rw [ha] at he
    have hb1 : bn true = 1 := rfl
    simp only [wr, decide_eq_true_eq]
    split at he <;> try omega
    split at he <;> try omega
    split at he <;> try omega
    split at he <;> omega

theorem walk_ok {bs : List UInt8} {b s : Nat} : ∀ (f : Nat) (js : List Nat) (i : Nat), WOK bs b s js → i < s → (walk bs b s f js i).2 = 0 → WOK bs b s (walk bs b s f js i).1
  | 0, js, i, h, _, _ => h
  | f + 1, js, i, h, hi, hz => by
    unfold walk at hz ⊢
    split at hz
    · next he => exact absurd hz he
    · next he =>
      have he := Decidable.not_not.1 he
      split at hz
      · next hm =>
        rw [if_neg (by rw [he]; simp), if_pos hm]
        exact walk_ok f _ _ (h.snoc hi he) ((errAt_ok he).2.2.2.2.2.2 hm) hz
      · next hm =>
        rw [if_neg (by rw [he]; simp), if_neg hm]
        exact h.snoc hi he

theorem walk_pre {bs : List UInt8} {b s : Nat} : ∀ (f : Nat) (js : List Nat) (i : Nat), ∃ t, (walk bs b s f js i).1 = js ++ t
  | 0, js, i => ⟨[], by simp [walk]⟩
  | f + 1, js, i => by
    unfold walk
    split
    · exact ⟨[], by simp⟩
    · split
      · obtain ⟨t, ht⟩ := walk_pre (bs := bs) (b := b) (s := s) f (js ++ [i]) (dw bs b i 2 / 256 % 256)
        exact ⟨i :: t, by rw [ht]; simp⟩
      · exact ⟨[i], rfl⟩

theorem wok_nil (bs : List UInt8) (b s : Nat) : WOK bs b s [] := ⟨by simp, by simp, by simp, by simp⟩

/-- Take without an error. -/
theorem take_good {bs : List UInt8} {b s i : Nat} (hi : i < s) (h : takeE bs b s i = 0) : WOK bs b s (takeL bs b s i) ∧ takeM bs b s i = markB bs b 2 (takeL bs b s i) ∧ (takeL bs b s i)[0]? = some i := by
  obtain ⟨W, hW⟩ : ∃ W, W = walk bs b s 5 [] i := ⟨_, rfl⟩
  have h1 := walk_ok 5 [] i (wok_nil bs b s) hi
  have h2 : W.2 = 0 → W.1[0]? = some i := by
    intro hz
    rw [hW] at hz ⊢
    unfold walk at hz ⊢
    split at hz
    · next he => exact absurd hz he
    · next he =>
      rw [if_neg he]
      split at hz
      · next hm =>
        rw [if_pos hm]
        obtain ⟨t, ht⟩ := walk_pre (bs := bs) (b := b) (s := s) 4 ([] ++ [i]) (dw bs b i 2 / 256 % 256)
        rw [ht]; simp
      · next hm => rw [if_neg hm]; simp
  unfold takeE at h
  unfold takeL takeM
  rw [← hW] at h h1 ⊢
  unfold tE at h
  unfold tL tM
  rw [if_pos h, if_pos h]
  exact ⟨h1 h, rfl, h2 h⟩

/-- Take with an error. -/
theorem take_bad {bs : List UInt8} {b s i : Nat} (h : takeE bs b s i ≠ 0) : takeL bs b s i = [] ∧ takeM bs b s i = (if dw bs b i 3 = 1 then mark1 b (4 + (takeE bs b s i - 160)) bs i else bs) ∧ 161 ≤ takeE bs b s i ∧ takeE bs b s i ≤ 165 := by
  have h3 : ∀ (f : Nat) (js : List Nat) (j : Nat), (walk bs b s f js j).2 = 0 ∨ (161 ≤ (walk bs b s f js j).2 ∧ (walk bs b s f js j).2 ≤ 165) := by
    intro f
    induction f with
    | zero => intro js j; exact .inl rfl
    | succ f ih =>
      intro js j
      unfold walk
      split
      · exact errN_range _ _ _ _ _ _ _ _ _
      · split
        · exact ih _ _
        · exact .inl rfl
  have h4 := h3 5 [] i
  obtain ⟨W, hW⟩ : ∃ W, W = walk bs b s 5 [] i := ⟨_, rfl⟩
  unfold takeE at h ⊢
  unfold takeL takeM
  rw [← hW] at h h4 ⊢
  unfold tE at h ⊢
  unfold tL tM
  rw [if_neg h, if_neg h]
  exact ⟨rfl, rfl, by omega, by omega⟩

/-- The first one is not offered. -/
theorem take_un {bs : List UInt8} {b s i : Nat} (h : dw bs b i 3 ≠ 1) : takeE bs b s i = 165 ∧ takeL bs b s i = [] ∧ takeM bs b s i = bs := by
  have he : errAt bs b s [] i = 165 := by
    unfold errAt errN
    have h0 : bn (decide (i ∈ ([] : List Nat))) = 0 := rfl
    rw [h0, if_neg (by simp), if_pos h]
  have hw : walk bs b s 5 [] i = ([], 165) := by
    unfold walk
    rw [he]; rfl
  obtain ⟨e1, e2, e3⟩ := take_err hw (by omega)
  exact ⟨e3, e2, by rw [e1, if_neg h]⟩

end Go.Proofs.Ythkkhmkieknemaa

/- A status, the pages that differ, and what is not there. No condition but what is said. -/
namespace Go.Proofs.Ythkkhmkieknemaa
open Go.Abs
variable {k : Nat}

set_option maxRecDepth 100000 in
theorem s27 {bs : List UInt8} {b s i : Nat} (h : RV bs b s) (hi : i < s) : Calls0 (evCall FN (k + 4)) 27 [memV bs, ringV b s, .int .i64 i] (.int .u32 (dw bs b i 3)) := by
  have hl := h.m.le
  have hs := h.hs
  have hle := h.le
  have hb16 := h.hb
  have c50 : Calls0 (evCall FN (k + 3)) 50 [memV bs, .int .i64 ((b + 16 * i + 12 : Nat) : Int), .int .i64 4] (.tup [.int .u32 (dw bs b i 3), .bool true]) := s50 h.m (by omega) (by omega)
  refine q_call0 fn27 fun T H E lv => ?_
  repeat (first | (apply o_nil; apply k_norm) | (apply p_mov; exact rfl) | (apply p_load; (iterate 4 exact rfl)) | (apply p_bin; exact rfl; exact rfl; (with_reducible exact add_nn (by omega))) | (apply p_bin; exact rfl; exact rfl; (with_reducible exact add_nl (by omega))) | (apply p_bin; exact rfl; exact rfl; (with_reducible exact mul_ln (by omega))) | (apply p_fadd; exact rfl) | (apply p_box; exact rfl; exact rfl; intro E) | (apply p_convA; exact rfl; (with_reducible exact w64 (by omega) (by omega))) | (apply p_ext; exact rfl; exact rfl) | (apply p_call; exact rfl; exact rfl; assumption) | apply w_seq | apply w_ops | apply w_ret)
  exact q_ret (.inr rfl) rfl rfl rfl rfl rfl rfl

set_option maxRecDepth 100000 in
set_option maxHeartbeats 1000000 in
theorem s28t {bs : List UInt8} (h : VM bs) : Calls0 (evCall FN (k + 200)) 28 [memV bs, memV bs] (csl 1 []) := by
  have hl := h.le
  obtain ⟨P, hP1, hP2, hP3⟩ := h
  have hd : (bs.map ofB).length / 128 = P := by rw [List.length_map]; omega
  have hmx : max P P = P := by omega
  refine q_call0 fn28 fun T H E lv => ?_
  repeat (first | (apply o_nil; apply k_norm) | (apply p_mov; exact rfl) | (apply p_load; (iterate 4 exact rfl)) | (apply p_fadd; exact rfl) | (apply p_box; exact rfl; exact rfl; intro E) | (apply p_len; exact rfl; exact csz_ok _ _) | apply w_seq | apply w_ops | apply w_block | (apply p_mxN; exact rfl; exact rfl))
  rw [hd, hmx]
  refine q_loop (α := Nat) (LInv.mk (fun j => j ≤ P) (fun j => P - j)
    (fun j => [(14, .int .i64 (j : Int)), (13, .int .i64 (P : Int)), (5, .sl 0 0 []), (2, .ref 0 0), (3, .ref 1 0)]) (fun j => [(1, [csl 128 (bs.map ofB)]), (0, [csl 128 (bs.map ofB)])]))
    (fun _ _ c => c = 4) 0 (Nat.zero_le _) rfl (show P - 0 < k + 199 by omega) ⟨rfl, rfl, rfl, rfl, rfl, trivial⟩ ⟨rfl, rfl, trivial⟩ ?_
  rintro j lv c T H E hP rfl hμ
  have hP : j ≤ P := hP
  clear hμ
  dsimp only
  rcases Nat.lt_or_ge j P with hlt | hge
  · have hr : rd (bs.map ofB) (j * 128) 128 true = some (.agg (((bs.drop (j * 128)).take 128).map ofB)) := by
      simp only [rd, if_true]
      rw [if_pos (by rw [List.length_map]; omega), List.map_take, List.map_drop]
    have he := eqK_bytes 128 ((bs.drop (j * 128)).take 128) (by rw [List.length_take, List.length_drop]; omega)
    repeat (first | (apply o_nil; apply k_norm) | (apply p_mov; exact rfl) | (apply p_load; (iterate 4 exact rfl)) | (apply p_bin; exact rfl; exact rfl; (with_reducible exact lss_t (by omega))) | (apply p_bin; exact rfl; exact rfl; (with_reducible exact geq_f (by omega))) | (apply p_fadd; exact rfl) | (apply p_len; exact rfl; exact csz_ok _ _) | (apply p_iaS; exact rfl; exact rfl; exact csz_ok _ _; (with_reducible exact inB_n (by simp only [List.length_map, List.length_cons, List.length_nil]; omega))) | (apply p_load_pp; exact rfl; (with_reducible assumption)) | (apply p_guard_yes; exact rfl) | (apply p_pick_false; exact rfl; exact rfl) | apply w_seq | apply w_ops | apply k_norm | apply w_skip | apply w_block | (apply q_cond_true; exact rfl))
    apply p_eqA
    · exact rfl
    · exact rfl
    · exact he
    repeat (first | (apply o_nil; apply k_norm) | (apply o_nil; skip) | (apply p_mov; exact rfl) | (apply p_bin; exact rfl; exact rfl; (with_reducible exact add_nl (by omega))) | (apply p_pick_false; exact rfl; exact rfl) | apply w_ops | apply k_norm | apply w_skip | apply b_norm | (apply q_cond_false; exact rfl))
    exact n_again (j + 1) (show j + 1 ≤ P by omega) rfl (show P - (j + 1) < P - j by omega) ⟨rfl, rfl, rfl, rfl, rfl, trivial⟩ ⟨⟨rfl, rfl⟩, ⟨rfl, rfl⟩, trivial⟩
  · repeat (first | (apply o_nil; apply k_norm) | (apply p_bin; exact rfl; exact rfl; (with_reducible exact lss_f (by omega))) | apply w_seq | apply w_ops | apply k_exit | apply w_exit | (apply q_cond_false; exact rfl))
    apply n_exit
    apply b_exit
    repeat (first | (apply o_nil; apply k_norm) | (apply p_mov; exact rfl) | apply w_seq | apply w_ops | apply k_norm | apply w_ret)
    exact q_ret (.inr rfl) rfl rfl rfl rfl rfl rfl

set_option maxRecDepth 100000 in
theorem s13x {bs : List UInt8} {p b s : Nat} (hp : bs.length = 128 * p) (hb : b < 4294967296) (hs : s < 4294967296) :
    (Calls0 (evCall FN (k + 3)) 13 [memV bs, ringV b s] (.bool false)) ∨ (Calls0 (evCall FN (k + 3)) 13 [memV bs, ringV b s] (.bool true) ∧ RV bs b s) := by
  by_cases hv : p = 0 ∨ 64 < p
  · have c9 : Calls0 (evCall FN (k + 2)) 9 [memV bs] (.bool false) := (s9f (k := 0) hp hv).fuel (by omega)
    refine .inl (q_call0 fn13 fun T H E lv => ?_)
    repeat (first | (apply o_nil; apply k_norm) | (apply p_mov; exact rfl) | (apply p_load; (iterate 4 exact rfl)) | (apply p_box; exact rfl; exact rfl; intro E) | (apply p_call; exact rfl; exact rfl; assumption) | (apply p_guard_no; exact rfl; exact rfl) | (apply p_pick_false; exact rfl; exact rfl) | apply w_seq | apply w_ops | apply w_ret)
    exact q_ret (.inr rfl) rfl rfl rfl rfl rfl rfl
  · have hV : VM bs := ⟨p, by omega, by omega, hp⟩
    by_cases hc : chkN bs.length b s = 0
    · exact .inr ⟨s13 hV hb hs (decide_eq_true hc), chkN_ok hV hc⟩
    · exact .inl (s13 hV hb hs (decide_eq_false hc))

end Go.Proofs.Ythkkhmkieknemaa

/- The second law of the ring, as it is computed. Condition: the memory's bytes are whole pages; the numbers are such as their types hold. -/
namespace Go.Proofs.Ythkkhmkieknemaa
open Go.Abs
variable {k : Nat}

theorem RV.at {bs : List UInt8} {b s j : Nat} (h : RV bs b s) (hj : j < s) : b + 16 * j + 16 ≤ bs.length := by
  have hle := h.le; have hs := h.hs; omega

theorem pts_lt {bs : List UInt8} {b : Nat} {js : List Nat} : ∀ p ∈ js.map (ptOf bs b), p.n < 4294967296 ∧ p.a < 4294967296 ∧ p.w = wr bs b p.i := by
  intro p hp
  obtain ⟨j, _, rfl⟩ := List.mem_map.1 hp
  exact ⟨dw_lt _ _ _ _, dw_lt _ _ _ _, rfl⟩

theorem WOK.inM {bs cs : List UInt8} {b s : Nat} {js : List Nat} (h : WOK bs b s js) (hl : cs.length = bs.length) : InM cs.length (js.map (ptOf bs b)) := by
  intro p hp _
  obtain ⟨j, hj, rfl⟩ := List.mem_map.1 hp
  obtain ⟨_, _, _, _, h5⟩ := h.one j hj
  show dw bs b j 0 + dw bs b j 1 ≤ _
  omega

theorem markB_len {bs : List UInt8} {b s w : Nat} : ∀ {js : List Nat} {cs : List UInt8}, cs.length = bs.length → (∀ j ∈ js, b + 16 * j + 16 ≤ bs.length) → (markB cs b w js).length = bs.length
  | [], _, h, _ => h
  | j :: js, cs, h, hj => by
    have e := hj j List.mem_cons_self
    exact markB_len (js := js) (cs := mark1 b w cs j) (s := s) ((mark1_length (by omega)).trans h) fun x hx => hj x (List.mem_cons_of_mem _ hx)

set_option maxRecDepth 100000 in
set_option maxHeartbeats 4000000 in
theorem s4 {bs ys : List UInt8} {p b s i : Nat} (hp : bs.length = 128 * p) (hb : b < 4294967296) (hs0 : s < 4294967296) (hi : i < 256) : Calls0 (evCall FN (k + 20000)) 4 [memV bs, ringV b s, .int .u8 i, .str ys] (.bool true) := by
  have c10 : Calls0 (evCall FN (k + 19999)) 10 [] (.bool true) := s10.fuel (k := 300) (by omega)
  refine q_call0 fn4 fun T H E lv => ?_
  rcases s13x (k := 0) hp hb hs0 with c13 | ⟨c13, h⟩
  · have c13 : Calls0 (evCall FN (k + 19999)) 13 [memV bs, ringV b s] (.bool false) := c13.fuel (by omega)
    repeat (first | (apply o_nil; apply k_norm) | (apply p_mov; exact rfl) | (apply p_load; (iterate 4 exact rfl)) | (apply p_box; exact rfl; exact rfl; intro E) | (apply p_un; exact rfl; exact rfl) | (apply p_call; exact rfl; exact rfl; assumption) | (apply p_guard_no; exact rfl; exact rfl) | (apply p_pick_true; exact rfl; exact rfl) | apply w_seq | apply w_ops | apply k_ret | apply w_ret | (apply q_cond_true; exact rfl))
    exact q_ret (.inr rfl) rfl rfl rfl rfl rfl rfl
  have c13 : Calls0 (evCall FN (k + 19999)) 13 [memV bs, ringV b s] (.bool true) := c13.fuel (by omega)
  by_cases hy : 3000 < ys.length
  · repeat (first | (apply o_nil; apply k_norm) | (apply p_mov; exact rfl) | (apply p_load; (iterate 4 exact rfl)) | (apply p_bin; exact rfl; exact rfl; (with_reducible exact gtr_t (by omega))) | (apply p_box; exact rfl; exact rfl; intro E) | (apply p_lenS; exact rfl) | (apply p_un; exact rfl; exact rfl) | (apply p_call; exact rfl; exact rfl; assumption) | (apply p_guard_yes; exact rfl) | (apply p_pick_false; exact rfl; exact rfl) | apply w_seq | apply w_ops | apply k_ret | apply w_ret | (apply q_cond_true; exact rfl))
    exact q_ret (.inr rfl) rfl rfl rfl rfl rfl rfl
  have hs := h.hs
  have hle := h.le
  have hl := h.m.le
  have hk : i % s < s := Nat.mod_lt _ (by omega)
  have gr : evBin .rem (.int .i64 (i : Int)) (.int .i64 (s : Int)) = some (.int .i64 ((i % s : Nat) : Int)) := rem_nn (by omega)
  have c15 : Calls0 (evCall FN (k + 19999)) 15 [memV bs, ringV b s, .int .i64 ((i % s : Nat) : Int)] _ := (s15 (k := 0) h hk).fuel (by omega)
  obtain ⟨t1, t2, t3⟩ := take_props h hk
  by_cases hE : takeE bs b s (i % s) = 0
  · obtain ⟨W, eM, e5⟩ := take_good hk hE
    rw [hE] at c15
    obtain ⟨L, hL⟩ : ∃ L, L = takeL bs b s (i % s) := ⟨_, rfl⟩
    obtain ⟨M, hM⟩ : ∃ M, M = takeM bs b s (i % s) := ⟨_, rfl⟩
    rw [← hL] at c15 W eM t1 t2 e5
    rw [← hM] at c15 eM t3
    obtain ⟨l, hl0⟩ : ∃ l, l = L.map (ptOf bs b) := ⟨_, rfl⟩
    have hpl : partsV bs b L = ptsV l := by rw [hl0, parts_pts]
    have hll : l.length = L.length := by rw [hl0, List.length_map]
    have hat : ∀ j ∈ L, b + 16 * j + 16 ≤ bs.length := fun j hj => h.at (t1 j hj)
    have hML : M.length = bs.length := by rw [eM]; exact markB_len (s := s) rfl hat
    have hin : InM M.length l := hl0 ▸ W.inM hML
    have hlt : ∀ q ∈ l, q.n < 4294967296 ∧ q.a < 4294967296 ∧ q.w = wr bs b q.i := hl0 ▸ pts_lt
    have hfl := pts_flat l
    obtain ⟨q1, q2⟩ := scat_props (ys := ys) (r := (M, 0)) hin rfl (Nat.zero_le _)
    have hO : VM (scat M l ys).1 := t3.m.of_len q1
    have c26 : Calls0 (evCall FN (k + 19999)) 26 [memV M, csl 4 (ptsV l), .str ys] (.tup [memV (scat M l ys).1, .int .i64 (scat M l ys).2]) := (s26 (k := 0) t3.m (by omega) hin (by omega) fun q hq => (hlt q hq).1).fuel (by omega)
    have c20 : Calls0 (evCall FN (k + 19999)) 20 [memV M, ringV b s, csl 4 (ptsV l)] (memV (markB M b 3 L)) := by
      rw [← hpl]; exact (s20 (k := 0) t3 t1 (by omega)).fuel (by omega)
    have hst : ∀ q ∈ L.map (st b), q.a + q.n < 4611686018427387904 := by
      intro q hq
      obtain ⟨j, hj, rfl⟩ := List.mem_map.1 hq
      have := hat j hj
      show b + 16 * j + 12 + 4 < _
      omega
    have hto : ∀ q ∈ l.filter (·.w), q.a + q.n < 4611686018427387904 := by
      intro q hq
      have := hlt q (List.mem_filter.1 hq).1
      omega
    have hfn : (l.filter (·.w)).length ≤ l.length := List.length_filter_le _ _
    have a1 : Calls0 (evCall FN (k + 19999)) 24 [memV bs, memV M, csl 4 (ptsV (L.map (st b)))] (.bool true) :=
      (s24 (k := 0) h.m hML hst (by rw [List.length_map]; omega) fun t _ hne => markB_cov hat (by rw [← eM]; exact hne)).fuel (by omega)
    have a2 : Calls0 (evCall FN (k + 19999)) 24 [memV M, memV (scat M l ys).1, csl 4 (ptsV (l.filter (·.w)))] (.bool true) :=
      (s24 (k := 0) t3.m q1 hto (by omega) fun t _ hne => scat_cov (r := (M, 0)) hin rfl (Nat.zero_le _) hne).fuel (by omega)
    have hatM : ∀ j ∈ L, b + 16 * j + 16 ≤ M.length := fun j hj => by rw [hML]; exact hat j hj
    have a3 : Calls0 (evCall FN (k + 19999)) 24 [memV M, memV (markB M b 3 L), csl 4 (ptsV (L.map (st b)))] (.bool true) :=
      (s24 (k := 0) t3.m (markB_len (s := s) rfl hatM) hst (by rw [List.length_map]; omega) fun t _ hne => markB_cov hatM hne).fuel (by omega)
    rw [hpl] at c15
    repeat (first | (apply o_nil; apply k_norm) | (apply p_mov; exact rfl) | (apply p_load; (iterate 4 exact rfl)) | (apply p_bin; exact rfl; exact rfl; (with_reducible assumption)) | (apply p_bin; exact rfl; exact rfl; (with_reducible exact gtr_f (by omega))) | (apply p_bin; exact rfl; exact rfl; (with_reducible exact neq_f (by omega))) | (apply p_fadd; exact rfl) | (apply p_box; exact rfl; exact rfl; intro E) | (apply p_new; intro E) | (apply p_store; (iterate 3 exact rfl); exact rfl; exact rfl; exact rfl) | (apply p_convA; exact rfl; (with_reducible exact w64 (by omega) (by omega))) | (apply p_len; exact rfl; exact csz_ok _ _) | (apply p_lenS; exact rfl) | (apply p_ext; exact rfl; exact rfl) | (apply p_un; exact rfl; exact rfl) | (apply p_call; exact rfl; exact rfl; assumption) | (apply p_guard_yes; exact rfl) | (apply p_pick_false; exact rfl; exact rfl) | apply w_seq | apply w_ops | apply k_norm | apply w_skip | apply w_block | (apply q_cond_false; exact rfl))
    rw [pts_div]
    refine q_loop (α := Nat × Nat × Nat × Nat × Nat) (LInv.mk (fun p => p.1 ≤ l.length) (fun p => l.length - p.1)
      (fun p => [(62, .int .i64 (p.1 : Int)), (61, .int .i64 (l.length : Int)), (60, csl 4 (ptsV l)), (13, .sl p.2.1 p.2.2.1 (ptsV ((L.take p.1).map (st b)))), (14, .sl p.2.2.2.1 p.2.2.2.2 (ptsV ((l.take p.1).filter (·.w)))), (11, csl 4 (ptsV l)), (10, .ref 2 0), (5, .ref 1 0), (4, .ref 0 0), (3, .str ys)])
      (fun p => [(2, [csl 128 (M.map ofB)]), (1, [.int .u32 b, .int .u32 s]), (0, [csl 128 (bs.map ofB)])]))
      (fun p lv c => 4 ≤ c ∧ LA 4 lv c p.2.1 p.2.2.1 (ptsV ((L.take p.1).map (st b))) ∧ LA 4 lv c p.2.2.2.1 p.2.2.2.2 (ptsV ((l.take p.1).filter (·.w))) ∧ (p.2.1 = 0 ∨ p.2.1 ≠ p.2.2.2.1))
      (0, 0, 0, 0, 0) (Nat.zero_le _) ⟨Nat.le_refl _, LA.nil, LA.nil, .inl rfl⟩ (show l.length - 0 < k + 19999 by omega) ⟨rfl, rfl, rfl, rfl, rfl, rfl, rfl, rfl, rfl, rfl, trivial⟩ ⟨rfl, rfl, rfl, trivial⟩ ?_
    rintro ⟨j, br1, z1, br2, z2⟩ lv c T H E hP hB hμ
    have hP : j ≤ l.length := hP
    obtain ⟨hc4, L1, L2, hne⟩ : 4 ≤ c ∧ LA 4 lv c br1 z1 (ptsV ((L.take j).map (st b))) ∧ LA 4 lv c br2 z2 (ptsV ((l.take j).filter (·.w))) ∧ (br1 = 0 ∨ br1 ≠ br2) := hB
    clear hμ
    dsimp only
    obtain ⟨c', rfl⟩ : ∃ c', c = c' + 4 := ⟨c - 4, by omega⟩
    rcases Nat.lt_or_ge j l.length with hjl | hjl
    · obtain ⟨q, hq⟩ : ∃ q, l[j]? = some q := ⟨_, List.getElem?_eq_getElem hjl⟩
      obtain ⟨x, hx⟩ : ∃ x, L[j]? = some x := ⟨_, List.getElem?_eq_getElem (by omega)⟩
      have hqx : q = ptOf bs b x := by
        have := hq
        rw [hl0, List.getElem?_map, hx] at this
        simpa using this.symm
      have hxs := t1 x (List.mem_of_getElem? hx)
      have c25 : Calls0 (evCall FN (k + 19999)) 25 [ringV b s, .int .i64 (x : Nat)] (.agg (ptV (st b x))) := (s25 (k := 0) hb (by omega)).fuel (by omega)
      have gi : inB (j : Int) ((ptsV l).length / 4) = some j := inB_n (by rw [pts_div]; omega)
      have e1 : ptsV ((L.take j).map (st b)) ++ ptV (st b x) = ptsV ((L.take (j + 1)).map (st b)) := by
        rw [List.take_add_one, hx, List.map_append, pts_snoc]; rfl
      have hr1 : ((ptsV ((L.take j).map (st b))).length + 4) / 4 * 32 ≤ room := by rw [pts_length, List.length_map, List.length_take, room]; omega
      have hr2 : ((ptsV ((l.take j).filter (·.w))).length + 4) / 4 * 32 ≤ room := by
        have := List.length_filter_le (·.w) (l.take j)
        rw [List.length_take] at this
        rw [pts_length, room]; omega
      rcases hw : wr bs b x with _ | _
      · have hr : rd (ptsV l) (j * 4) 4 true = some (.agg [.int .i64 x, .int .i64 (dw bs b x 0), .int .i64 (dw bs b x 1), .bool false]) := by
          rw [rd_pt hq, hqx, ← hw]; rfl
        have e2 : (l.take (j + 1)).filter (·.w) = (l.take j).filter (·.w) := by
          rw [List.take_add_one, hq, List.filter_append, hqx]
          simp [ptOf, hw]
        repeat (first | (apply o_nil; apply k_norm) | (apply p_mov; exact rfl) | (apply p_load; (iterate 4 exact rfl)) | (apply p_bin; exact rfl; exact rfl; (with_reducible exact lss_t (by omega))) | (apply p_fadd; exact rfl) | (apply p_new; intro E) | (apply p_store; (iterate 3 exact rfl); exact rfl; exact rfl; exact rfl) | (apply p_bsl; (iterate 4 exact rfl); (simp only [List.length_cons, List.length_nil]; exact rfl)) | (apply p_call; exact rfl; exact rfl; assumption) | (apply p_iaS; exact rfl; exact rfl; exact csz_ok _ _; (with_reducible assumption)) | (apply p_load_pp; exact rfl; (with_reducible assumption)) | apply w_seq | apply w_ops | apply k_norm | apply w_skip | apply w_block | (apply q_cond_true; exact rfl))
        apply p_appL
        · exact rfl
        · exact rfl
        · exact rfl
        · exact L1
        · exact ⟨by omega, by omega⟩
        · exact hr1
        intro lv1 m1 m2
        rw [show ptsV ((L.take j).map (st b)) ++ [AV.int .i64 ((st b x).i : Nat), .int .i64 ((st b x).a : Nat), .int .i64 ((st b x).n : Nat), .bool (st b x).w] = _ from e1]
        repeat (first | (apply o_nil; apply k_norm) | (apply o_nil; skip) | (apply p_mov; exact rfl) | (apply p_load; (iterate 4 exact rfl)) | (apply p_bin; exact rfl; exact rfl; (with_reducible exact add_nl (by omega))) | (apply p_fadd; exact rfl) | apply w_seq | apply w_ops | apply k_norm | apply w_skip | apply b_norm | (apply q_cond_false; exact rfl))
        exact n_again (j + 1, c' + 4, 4, br2, z2) (show j + 1 ≤ l.length by omega) ⟨by omega, LA.mine (by omega) m1, by rw [e2]; exact L2.keep (Nat.le_succ _) m2 (by rcases L2 with L2 | L2 <;> omega), by rcases L2 with L2 | L2 <;> first | exact .inr (by show c' + 4 ≠ br2; omega)⟩ (show l.length - (j + 1) < l.length - j by omega)
          ⟨rfl, rfl, rfl, rfl, by rw [e2]; rfl, rfl, rfl, rfl, rfl, rfl, trivial⟩ ⟨⟨rfl, rfl⟩, ⟨rfl, rfl⟩, ⟨rfl, rfl⟩, trivial⟩
      · have hr : rd (ptsV l) (j * 4) 4 true = some (.agg [.int .i64 x, .int .i64 (dw bs b x 0), .int .i64 (dw bs b x 1), .bool true]) := by
          rw [rd_pt hq, hqx, ← hw]; rfl
        have e2 : ptsV ((l.take j).filter (·.w)) ++ [.int .i64 x, .int .i64 (dw bs b x 0), .int .i64 (dw bs b x 1), .bool true] = ptsV ((l.take (j + 1)).filter (·.w)) := by
          rw [List.take_add_one, hq, List.filter_append, hqx]
          simp [ptOf, hw, ptsV, ptV]
        repeat (first | (apply o_nil; apply k_norm) | (apply p_mov; exact rfl) | (apply p_load; (iterate 4 exact rfl)) | (apply p_bin; exact rfl; exact rfl; (with_reducible exact lss_t (by omega))) | (apply p_fadd; exact rfl) | (apply p_new; intro E) | (apply p_store; (iterate 3 exact rfl); exact rfl; exact rfl; exact rfl) | (apply p_bsl; (iterate 4 exact rfl); (simp only [List.length_cons, List.length_nil]; exact rfl)) | (apply p_call; exact rfl; exact rfl; assumption) | (apply p_iaS; exact rfl; exact rfl; exact csz_ok _ _; (with_reducible assumption)) | (apply p_load_pp; exact rfl; (with_reducible assumption)) | apply w_seq | apply w_ops | apply k_norm | apply w_skip | apply w_block | (apply q_cond_true; exact rfl))
        apply p_appL
        · exact rfl
        · exact rfl
        · exact rfl
        · exact L1
        · exact ⟨by omega, by omega⟩
        · exact hr1
        intro lv1 m1 m2
        have L3 := L2.keep (Nat.le_succ _) m2 (by rcases L2 with L2 | L2 <;> omega)
        rw [show ptsV ((L.take j).map (st b)) ++ [AV.int .i64 ((st b x).i : Nat), .int .i64 ((st b x).a : Nat), .int .i64 ((st b x).n : Nat), .bool (st b x).w] = _ from e1]
        repeat (first | (apply o_nil; apply k_norm) | (apply p_mov; exact rfl) | (apply p_load; (iterate 4 exact rfl)) | (apply p_fadd; exact rfl) | (apply p_bsl; (iterate 4 exact rfl); (simp only [List.length_cons, List.length_nil]; exact rfl)) | apply w_seq | apply w_ops | (apply q_cond_true; exact rfl))
        apply p_appL
        · exact rfl
        · exact rfl
        · exact rfl
        · exact L3
        · exact ⟨by omega, by omega⟩
        · exact hr2
        intro lv2 n1 n2
        rw [e2]
        repeat (first | (apply o_nil; apply b_norm) | (apply o_nil; skip) | (apply p_mov; exact rfl) | (apply p_bin; exact rfl; exact rfl; (with_reducible exact add_nl (by omega))) | apply w_ops | apply k_norm)
        exact n_again (j + 1, c' + 4, 4, c' + 4 + 1, 4) (show j + 1 ≤ l.length by omega) ⟨by omega, (LA.mine (by omega) m1).keep (Nat.le_succ _) n2 (by rcases L2 with L2 | L2 <;> omega), LA.mine (by omega) n1, .inr (by show c' + 4 ≠ c' + 4 + 1; omega)⟩ (show l.length - (j + 1) < l.length - j by omega)
          ⟨rfl, rfl, rfl, rfl, rfl, rfl, rfl, rfl, rfl, rfl, trivial⟩ ⟨⟨rfl, rfl⟩, ⟨rfl, rfl⟩, ⟨rfl, rfl⟩, trivial⟩
    · have hL1 : L.take j = L := List.take_of_length_le (by omega)
      have hL2 : l.take j = l := List.take_of_length_le hjl
      rw [hL1] at L1 ⊢
      rw [hL2] at L2 ⊢
      rcases L1 with ⟨rfl, rfl, k1⟩ | ⟨k1, _, _, rfl⟩
      · have e0 : ptsV (L.map (st b)) = [] := k1
        have := pts_length (L.map (st b))
        rw [e0, List.length_map] at this
        have hlen : L.length = 0 := by rw [List.length_nil] at this; omega
        obtain rfl := List.eq_nil_of_length_eq_zero hlen
        simp at e5
      · obtain ⟨q1, rfl⟩ : ∃ q, br1 = q + 4 := ⟨br1 - 4, by omega⟩
        rcases L2 with ⟨rfl, rfl, k2⟩ | ⟨k2, _, _, rfl⟩
        · have e0 : ptsV (l.filter (·.w)) = [] := k2
          rw [e0] at a2 ⊢
          repeat (first | (apply o_nil; apply k_norm) | (apply p_bin; exact rfl; exact rfl; (with_reducible exact lss_f (by omega))) | apply w_seq | apply w_ops | apply k_exit | apply w_exit | (apply q_cond_false; exact rfl))
          apply n_exit
          apply b_exit
          repeat (first | (apply o_nil; apply k_norm) | (apply p_mov; exact rfl) | (apply p_load; (iterate 4 exact rfl)) | (apply p_new; intro E) | (apply p_store; (iterate 3 exact rfl); exact rfl; exact rfl; exact rfl) | (apply p_ext; exact rfl; exact rfl) | (apply p_call; exact rfl; exact rfl; assumption) | (apply p_guard_yes; exact rfl) | (apply p_pick_true; exact rfl; exact rfl) | apply w_seq | apply w_ops | apply k_norm | apply w_ret)
          exact q_ret (.inr rfl) rfl rfl rfl rfl rfl rfl
        · obtain ⟨q2, rfl⟩ : ∃ q, br2 = q + 4 := ⟨br2 - 4, by omega⟩
          repeat (first | (apply o_nil; apply k_norm) | (apply p_bin; exact rfl; exact rfl; (with_reducible exact lss_f (by omega))) | apply w_seq | apply w_ops | apply k_exit | apply w_exit | (apply q_cond_false; exact rfl))
          apply n_exit
          apply b_exit
          repeat (first | (apply o_nil; apply k_norm) | (apply p_mov; exact rfl) | (apply p_load; (iterate 4 exact rfl)) | (apply p_new; intro E) | (apply p_store; (iterate 3 exact rfl); exact rfl; exact rfl; exact rfl) | (apply p_ext; exact rfl; exact rfl) | (apply p_call; exact rfl; exact rfl; assumption) | (apply p_guard_yes; exact rfl) | (apply p_pick_true; exact rfl; exact rfl) | apply w_seq | apply w_ops | apply k_norm | apply w_ret)
          exact q_ret (.inr rfl) rfl rfl rfl rfl rfl rfl
  · obtain ⟨e1, e2, e3, e4⟩ := take_bad hE
    obtain ⟨en, hen⟩ : ∃ en, en = takeE bs b s (i % s) := ⟨_, rfl⟩
    obtain ⟨M, hM⟩ : ∃ M, M = takeM bs b s (i % s) := ⟨_, rfl⟩
    rw [← hM] at c15 e2 t3
    rw [← hen] at c15 e2 e3 e4
    rw [e1] at c15
    have hnil : (partsV bs b []).length = 0 := rfl
    have hatk : b + 16 * (i % s) + 16 ≤ bs.length := h.at hk
    have c25 : Calls0 (evCall FN (k + 19999)) 25 [ringV b s, .int .i64 ((i % s : Nat) : Int)] (.agg (ptV (st b (i % s)))) := (s25 (k := 0) hb (by omega)).fuel (by omega)
    have hML : M.length = bs.length := by
      rw [e2]; split
      · exact mark1_length hatk
      · rfl
    have a1 : Calls0 (evCall FN (k + 19999)) 24 [memV bs, memV M, csl 4 (ptsV [st b (i % s)])] (.bool true) := by
      refine (s24 (k := 0) h.m hML (by intro q hq; rw [List.mem_singleton] at hq; subst hq; show b + 16 * (i % s) + 12 + 4 < _; omega) (by simp) fun t _ hne => ?_).fuel (by omega)
      rw [e2] at hne
      split at hne
      · exact markB_cov (js := [i % s]) (w := 4 + (en - 160)) (fun j hj => by rw [List.mem_singleton] at hj; subst hj; exact hatk) hne
      · exact absurd rfl hne
    repeat (first | (apply o_nil; apply k_norm) | (apply p_mov; exact rfl) | (apply p_load; (iterate 4 exact rfl)) | (apply p_bin; exact rfl; exact rfl; (with_reducible assumption)) | (apply p_bin; exact rfl; exact rfl; (with_reducible exact gtr_f (by omega))) | (apply p_bin; exact rfl; exact rfl; (with_reducible exact eql_t (by omega))) | (apply p_bin; exact rfl; exact rfl; (with_reducible exact neq_t (by omega))) | (apply p_fadd; exact rfl) | (apply p_box; exact rfl; exact rfl; intro E) | (apply p_new; intro E) | (apply p_store; (iterate 3 exact rfl); exact rfl; exact rfl; exact rfl) | (apply p_convA; exact rfl; (with_reducible exact w64 (by omega) (by omega))) | (apply p_len; exact rfl; exact csz_ok _ _) | (apply p_lenS; exact rfl) | (apply p_ext; exact rfl; exact rfl) | (apply p_bsl; (iterate 4 exact rfl); (simp only [List.length_cons, List.length_nil]; exact rfl)) | (apply p_un; exact rfl; exact rfl) | (apply p_call; exact rfl; exact rfl; assumption) | (apply p_guard_yes; exact rfl) | (apply p_pick_true; exact rfl; exact rfl) | (apply p_pick_false; exact rfl; exact rfl) | apply w_seq | apply w_ops | apply k_norm | apply k_ret | apply w_ret | apply w_skip | (apply q_cond_true; exact rfl) | (apply q_cond_false; exact rfl))
    exact q_ret (.inr rfl) rfl rfl rfl rfl rfl rfl

end Go.Proofs.Ythkkhmkieknemaa

/- What the arguments of the ring's laws are. No condition. -/
namespace Go.Proofs.Ythkkhmkieknemaa
open Go.Abs Go.ChangeShapes Go.WideShapes Go.ChangeAt Go.RowKit

/-- What a call that answers with a bool answers. -/
theorem eval_of {F : CallF} {f : FuncId} {vs : List AV} {b : Bool} (h : Calls0 F f vs (.bool b)) : ∃ hs', F f vs h0 (fun _ => none) = some (.bool b, hs') := by
  have h1 := evP_of h rfl
  unfold evP at h1
  split at h1
  · next r hs he =>
    split at h1
    · simp only [Option.some.injEq] at h1
      refine ⟨hs, ?_⟩
      rw [he]
      cases r <;> simp only [own, mapLeaf, ownCell] at h1 <;> first
        | (cases h1; rfl)
        | (split at h1 <;> first | cases h1 | (split at h1 <;> cases h1))
        | cases h1
    · cases h1
  · cases h1

def memSh : Sh := .agg [.sl (.arr 128 (.int .u8))]
def ringSh : Sh := .agg [.int .u32, .int .u32]

theorem own0 : ownKnob Try.prog.godebug = none := by kernel_rfl

theorem hasBytes {xs : List AV} (h : Has (.arr 128 (.int .u8)) xs) : ∃ bs : List UInt8, bs.length = 128 ∧ xs = bs.map ofB := by
  obtain ⟨ls, hl, rfl, h2⟩ := h
  have key : ∀ ls : List (List AV), (∀ y ∈ ls, Has (.int .u8) y) → ∃ bs : List UInt8, bs.length = ls.length ∧ ls.flatten = bs.map ofB := by
    intro ls
    induction ls with
    | nil => intro _; exact ⟨[], rfl, rfl⟩
    | cons y ls ih =>
      intro h
      obtain ⟨bs, e1, e2⟩ := ih fun z hz => h z (List.mem_cons_of_mem _ hz)
      obtain ⟨n, rfl, hn⟩ := h y List.mem_cons_self
      refine ⟨UInt8.ofNat n.toNat :: bs, by simp [e1], ?_⟩
      have hb : 0 ≤ n ∧ n < 256 := by
        have h1 : IntKind.u8.min = 0 := rfl
        have h2 : IntKind.u8.max = 255 := rfl
        simp only [Lit.wf, h1, h2, Bool.and_eq_true, decide_eq_true_eq] at hn
        omega
      rw [List.flatten_cons, e2, List.map_cons, ofB_le _ (by omega)]
      simp [Int.toNat_of_nonneg hb.1]
  obtain ⟨bs, e1, e2⟩ := key ls h2
  exact ⟨bs, by omega, e2⟩

theorem hasPages : ∀ ls : List (List AV), (∀ y ∈ ls, Has (.arr 128 (.int .u8)) y) → ∃ bs : List UInt8, bs.length = 128 * ls.length ∧ ls.flatten = bs.map ofB
  | [], _ => ⟨[], rfl, rfl⟩
  | y :: ls, h => by
    obtain ⟨bs, e1, e2⟩ := hasPages ls fun z hz => h z (List.mem_cons_of_mem _ hz)
    obtain ⟨b1, g1, rfl⟩ := hasBytes (h y List.mem_cons_self)
    refine ⟨b1 ++ bs, by rw [List.length_append, List.length_cons]; omega, by rw [List.flatten_cons, e2, List.map_append]⟩

theorem wf_nat {k : IntKind} {n : Int} {m : Nat} (h : (Lit.int k n).wf = true) (h1 : k.min = 0) (h2 : k.max < m) : ∃ j : Nat, n = j ∧ j < m := by
  simp only [Lit.wf, h1, Bool.and_eq_true, decide_eq_true_eq] at h
  exact ⟨n.toNat, by omega, by omega⟩

theorem hasMem {xs : List AV} (h : Has memSh xs) : ∃ (bs : List UInt8) (p : Nat), bs.length = 128 * p ∧ p ≤ maxLen ∧ xs = [csl 128 (bs.map ofB)] := by
  obtain ⟨ys, zs, ⟨ls, rfl, h2, h3⟩, rfl, rfl⟩ := h
  obtain ⟨bs, e1, e2⟩ := hasPages ls h2
  exact ⟨bs, ls.length, e1, h3, by rw [e2]; rfl⟩

theorem hasRing {xs : List AV} (h : Has ringSh xs) : ∃ b s : Nat, b < 4294967296 ∧ s < 4294967296 ∧ xs = [.int .u32 b, .int .u32 s] := by
  obtain ⟨_, _, ⟨n, rfl, hn⟩, ⟨_, _, ⟨m, rfl, hm⟩, rfl, rfl⟩, rfl⟩ := h
  obtain ⟨b, rfl, hb⟩ := wf_nat (m := 4294967296) hn rfl (by decide)
  obtain ⟨s, rfl, hs⟩ := wf_nat (m := 4294967296) hm rfl (by decide)
  exact ⟨b, s, hb, hs, rfl⟩

theorem each4 {s0 s1 s2 s3 : Sh} {xss : List (List AV)} (h : Each [s0, s1, s2, s3] xss) : ∃ x0 x1 x2 x3, xss = [x0, x1, x2, x3] ∧ Has s0 x0 ∧ Has s1 x1 ∧ Has s2 x2 ∧ Has s3 x3 := by
  rcases xss with _ | ⟨x0, _ | ⟨x1, _ | ⟨x2, _ | ⟨x3, _ | ⟨x4, t⟩⟩⟩⟩⟩
  · exact h.elim
  · exact h.2.elim
  · exact h.2.2.elim
  · exact h.2.2.2.elim
  · exact ⟨x0, x1, x2, x3, rfl, h.1, h.2.1, h.2.2.1, h.2.2.2.1⟩
  · exact h.2.2.2.2.elim

theorem hasInt {k : IntKind} {xs : List AV} (h : Has (.int k) xs) : ∃ n, xs = [.int k n] ∧ (Lit.int k n).wf = true := h

theorem table0 : Table Try.prog FN := table_of (fun f p h => by
  unfold prims at h
  split at h
  · rename_i hf
    subst hf
    cases h
    exact gather_sound (table_sound tabl0 _)
  · cases h)

theorem four {α : Type} {ds : List α} {n : Nat} (h : ds.length = n) (hn : n = 4) : ∃ d1 d2 d3 d4, ds = [d1, d2, d3, d4] := by
  subst hn
  rcases ds with _ | ⟨x0, _ | ⟨x1, _ | ⟨x2, _ | ⟨x3, _ | ⟨x4, t⟩⟩⟩⟩⟩ <;> simp at h
  exact ⟨x0, x1, x2, x3, rfl⟩

theorem three {α : Type} {ds : List α} {n : Nat} (h : ds.length = n) (hn : n = 3) : ∃ d1 d2 d3, ds = [d1, d2, d3] := by
  subst hn
  rcases ds with _ | ⟨x0, _ | ⟨x1, _ | ⟨x2, _ | ⟨x3, t⟩⟩⟩⟩ <;> simp at h
  exact ⟨x0, x1, x2, rfl⟩

theorem each3 {s0 s1 s2 : Sh} {xss : List (List AV)} (h : Each [s0, s1, s2] xss) : ∃ x0 x1 x2, xss = [x0, x1, x2] ∧ Has s0 x0 ∧ Has s1 x1 ∧ Has s2 x2 := by
  rcases xss with _ | ⟨x0, _ | ⟨x1, _ | ⟨x2, _ | ⟨x3, t⟩⟩⟩⟩
  · exact h.elim
  · exact h.2.elim
  · exact h.2.2.elim
  · exact ⟨x0, x1, x2, rfl, h.1, h.2.1, h.2.2.1⟩
  · exact h.2.2.2.elim

theorem hasStr {xs : List AV} (h : Has .str xs) : ∃ ys : List UInt8, xs = [.str ys] := by
  obtain ⟨l, rfl, _⟩ := h
  exact ⟨l, rfl⟩

end Go.Proofs.Ythkkhmkieknemaa
