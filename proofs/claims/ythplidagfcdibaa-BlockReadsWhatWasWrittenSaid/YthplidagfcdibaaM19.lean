/- Part 19 of the texts on which proofs about this seat rest: each says what it proves at its own head. No condition. -/
import Derived.Test.YthplidagfcdibaaM18
set_option linter.unusedVariables false
set_option linter.unusedSimpArgs false
/- What a law asks of bytes that changed; a small device; a new device; a new memory; equal answers. Condition: the memories are valid, the numbers fit. -/
namespace Go.Proofs.Ythplidagfcdibaa
open Go.Abs
variable {k : Nat}
/-- A byte of a ring, or of a part that is written. -/
def wthB (t b s : Nat) (l : List Pt) : Bool := decide (b ≤ t ∧ t < b + 16 * s) || l.any fun p => p.w && decide (p.a ≤ t ∧ t < p.a + p.n)
set_option maxRecDepth 100000 in
set_option maxHeartbeats 1000000 in
theorem s51 {t b s : Nat} {l : List Pt} (ht : t < 4294967296) (hb : b < 4294967296) (hs : s < 4294967296) (hl : ∀ p ∈ l, p.a + p.n < 4611686018427387904) (hn : l.length ≤ 100) :
    Calls0 (evCall FN (k + 200)) 51 [.int .i64 t, ringV b s, csl 4 (ptsV l)] (.bool (wthB t b s l)) := by
  refine q_call0 fn51 fun T H E lv => ?_
  unfold wthB
  have hdv := pts_div l
  by_cases hr : b ≤ t ∧ t < b + 16 * s
  · obtain ⟨h1, h2⟩ := hr
    rw [decide_eq_true (⟨h1, h2⟩ : b ≤ t ∧ t < b + 16 * s), Bool.true_or]
    repeat (first | refine stN ?_ | intro E)
    exact q_ret (.inr rfl) rfl rfl rfl rfl rfl rfl
  · rw [decide_eq_false hr, Bool.false_or]
    obtain h1 | ⟨h1, h2⟩ : t < b ∨ (b ≤ t ∧ b + 16 * s ≤ t) := by omega
    all_goals
      repeat (first | refine stN ?_ | intro E)
      refine q_loop (α := Nat) (LInv.mk (fun i => i ≤ l.length ∧ (l.take i).any (fun p => p.w && decide (p.a ≤ t ∧ t < p.a + p.n)) = false) (fun i => l.length - i)
        (fun i => [(7, .int .i64 (i : Int)), (2, csl 4 (ptsV l)), (0, .int .i64 (t : Int))]) (fun i => []))
        (fun _ _ c => c = 4) 0 ⟨Nat.zero_le _, rfl⟩ rfl (show l.length - 0 < k + 199 by omega) ⟨rfl, rfl, rfl, trivial⟩ trivial ?_
      rintro i lv c T H E ⟨hP, hA⟩ rfl hμ
      have hP : i ≤ l.length := hP
      clear hμ
      dsimp only at hA ⊢
      rcases Nat.lt_or_ge i l.length with hi | hi
      · obtain ⟨p, hp⟩ : ∃ p, l[i]? = some p := ⟨_, List.getElem?_eq_getElem hi⟩
        have hpm := List.mem_of_getElem? hp
        have hpb := hl p hpm
        have r1 := rd_pt1 hp
        have r2 := rd_pt2 hp
        have r3 := rd_pt3 hp
        have gi : inB (i : Int) ((ptsV l).length / 4) = some i := inB_n (by omega)
        have hat := any_take (f := fun p : Pt => p.w && decide (p.a ≤ t ∧ t < p.a + p.n)) hp
        rw [hA, Bool.false_or] at hat
        obtain ⟨pi, pa, pn, pw⟩ := p
        dsimp only at hpb r1 r2 r3 hat
        by_cases hc : pw = true ∧ pa ≤ t ∧ t < pa + pn
        · obtain ⟨rfl, g1, g2⟩ := hc
          have : l.any (fun p => p.w && decide (p.a ≤ t ∧ t < p.a + p.n)) = true := List.any_eq_true.2 ⟨_, hpm, by simp [g1, g2]⟩
          rw [this]
          repeat (first | refine stN ?_ | intro E)
          apply n_ret
          repeat (first | refine stN ?_ | intro E)
          exact q_ret (.inr rfl) rfl rfl rfl rfl rfl rfl
        · have hno : (pw && decide (pa ≤ t ∧ t < pa + pn)) = false := by
            cases pw
            · rfl
            · simp only [Bool.true_and, decide_eq_false_iff_not]; exact fun hq => hc ⟨rfl, hq⟩
          rw [hno] at hat
          obtain rfl | ⟨rfl, g1⟩ | ⟨rfl, g1, g2⟩ : pw = false ∨ (pw = true ∧ t < pa) ∨ (pw = true ∧ pa ≤ t ∧ pa + pn ≤ t) := by
            cases pw
            · exact .inl rfl
            · by_cases g : t < pa
              · exact .inr (.inl ⟨rfl, g⟩)
              · exact .inr (.inr ⟨rfl, by omega, Nat.le_of_not_lt fun g3 => hc ⟨rfl, by omega, g3⟩⟩)
          all_goals
            repeat (first | refine stN ?_ | intro E)
            exact n_again (i + 1) ⟨show i + 1 ≤ l.length by omega, hat⟩ rfl (show l.length - (i + 1) < l.length - i by omega) ⟨rfl, rfl, rfl, trivial⟩ trivial
      · rw [List.take_of_length_le hi] at hA
        rw [hA]
        repeat (first | refine stN ?_ | intro E)
        apply n_exit
        apply b_exit
        repeat (first | refine stN ?_ | intro E)
        exact q_ret (.inr rfl) rfl rfl rfl rfl rfl rfl
/-- Only such bytes have changed. -/
def ChgP (m c : List UInt8) (b s : Nat) (l : List Pt) : Prop := ∀ t, t < m.length → bt m t ≠ bt c t → wthB t b s l = true
set_option maxRecDepth 100000 in
set_option maxHeartbeats 1000000 in
theorem s22 {m c : List UInt8} {b s : Nat} {l : List Pt} (h : VM m) (he : c.length = m.length) (hb : b < 4294967296) (hs : s < 4294967296) (hl : ∀ p ∈ l, p.a + p.n < 4611686018427387904) (hn : l.length ≤ 100) (hc : ChgP m c b s l) :
    Calls0 (evCall FN (k + 400)) 22 [memV m, memV c, ringV b s, csl 4 (ptsV l)] (.bool true) := by
  have hle := h.le
  obtain ⟨P, hP0, hP1, hP2⟩ := h
  have d1 : (m.map ofB).length / 128 = P := by rw [List.length_map]; omega
  have d2 : (c.map ofB).length / 128 = P := by rw [List.length_map]; omega
  refine q_call0 fn22 fun T H E lv => ?_
  repeat (first | refine stN ?_ | intro E)
  refine q_loop (α := Nat) (LInv.mk (fun i => i ≤ P) (fun i => P - i)
    (fun i => [(9, .int .i64 (i : Int)), (6, .ref 2 0), (5, .ref 1 0), (4, .ref 0 0), (3, csl 4 (ptsV l))]) (fun i => [(2, [.int .u32 b, .int .u32 s]), (1, [csl 128 (c.map ofB)]), (0, [csl 128 (m.map ofB)])]))
    (fun _ _ c => c = 4) 0 (Nat.zero_le _) rfl (show P - 0 < k + 399 by omega) ⟨rfl, rfl, rfl, rfl, rfl, trivial⟩ ⟨rfl, rfl, rfl, trivial⟩ ?_
  rintro i lv cc T H E hP rfl hμ
  have hP : i ≤ P := hP
  clear hμ
  dsimp only
  rcases Nat.lt_or_ge i P with hi | hi
  · repeat (first | refine stN ?_ | intro E)
    refine q_loop (α := Nat) (LInv.mk (fun j => j ≤ 128) (fun j => 128 - j)
      (fun j => [(10, .int .i64 (j : Int)), (9, .int .i64 (i : Int)), (6, .ref 2 0), (5, .ref 1 0), (4, .ref 0 0), (3, csl 4 (ptsV l))]) (fun j => [(2, [.int .u32 b, .int .u32 s]), (1, [csl 128 (c.map ofB)]), (0, [csl 128 (m.map ofB)])]))
      (fun _ _ c => c = 4) 0 (Nat.zero_le _) rfl (show 128 - 0 < k + 399 by omega) ⟨rfl, rfl, rfl, rfl, rfl, rfl, trivial⟩ ⟨rfl, rfl, rfl, trivial⟩ ?_
    rintro j lv cc T H E hP2 rfl hμ
    have hP2 : j ≤ 128 := hP2
    clear hμ
    dsimp only
    rcases Nat.lt_or_ge j 128 with hj | hj
    · have r1 : rd (m.map ofB) (i * 128 + j * 1) 1 false = some (.int .u8 (bt m (128 * i + j))) := by
        have := rd_bt (bs := m) (a := 128 * i + j) (by omega)
        rwa [show (128 * i + j) / 128 * 128 + (128 * i + j) % 128 * 1 = i * 128 + j * 1 by omega] at this
      have r2 : rd (c.map ofB) (i * 128 + j * 1) 1 false = some (.int .u8 (bt c (128 * i + j))) := by
        have := rd_bt (bs := c) (a := 128 * i + j) (by omega)
        rwa [show (128 * i + j) / 128 * 128 + (128 * i + j) % 128 * 1 = i * 128 + j * 1 by omega] at this
      have g1 : inB (i : Int) ((m.map ofB).length / 128) = some i := inB_n (by omega)
      have g2 : inB (i : Int) ((c.map ofB).length / 128) = some i := inB_n (by omega)
      by_cases hne : bt m (128 * i + j) = bt c (128 * i + j)
      · rw [hne] at r1
        repeat (first | refine stN ?_ | intro E)
        exact n_again (j + 1) (show j + 1 ≤ 128 by omega) rfl (show 128 - (j + 1) < 128 - j by omega) ⟨rfl, rfl, rfl, rfl, rfl, rfl, trivial⟩ ⟨⟨rfl, rfl⟩, ⟨rfl, rfl⟩, ⟨rfl, rfl⟩, trivial⟩
      · have c51 : Calls0 (evCall FN (k + 399)) 51 [.int .i64 ((128 * i + j : Nat) : Int), ringV b s, csl 4 (ptsV l)] (.bool true) := by
          have := s51 (k := k + 199) (t := 128 * i + j) (by omega) hb hs hl hn
          rwa [hc (128 * i + j) (by omega) hne] at this
        repeat (first | refine stN ?_ | intro E)
        exact n_again (j + 1) (show j + 1 ≤ 128 by omega) rfl (show 128 - (j + 1) < 128 - j by omega) ⟨rfl, rfl, rfl, rfl, rfl, rfl, trivial⟩ ⟨⟨rfl, rfl⟩, ⟨rfl, rfl⟩, ⟨rfl, rfl⟩, trivial⟩
    · repeat (first | refine stN ?_ | intro E)
      apply n_exit
      apply b_exit
      repeat (first | refine stN ?_ | intro E)
      exact n_again (i + 1) (show i + 1 ≤ P by omega) rfl (show P - (i + 1) < P - i by omega) ⟨rfl, rfl, rfl, rfl, rfl, trivial⟩ ⟨⟨rfl, rfl⟩, ⟨rfl, rfl⟩, ⟨rfl, rfl⟩, trivial⟩
  · repeat (first | refine stN ?_ | intro E)
    apply n_exit
    apply b_exit
    repeat (first | refine stN ?_ | intro E)
    exact q_ret (.inr rfl) rfl rfl rfl rfl rfl rfl
/-- Equal answers. -/
theorem s19 {m : List UInt8} {v : Nat} {r ok : Bool} (h : VM m) : Calls0 (evCall FN (k + 300)) 19 [.agg [csl 128 (m.map ofB), .int .u32 v, .sl 1 0 [], .bool r, .bool ok], .agg [csl 128 (m.map ofB), .int .u32 v, .sl 1 0 [], .bool r, .bool ok]] (.bool true) := by
  have c25 : Calls0 (evCall FN (k + 299)) 25 [memV m, memV m] (.bool true) := (s25t (k := 0) h).fuel (by omega)
  have hz : (0 : Nat) = 1 ∨ ([] : List AV) = [] := .inr rfl
  refine q_call0 fn19 fun T H E lv => ?_
  cases r <;> cases ok
  all_goals
    repeat (first | refine stN ?_ | intro E)
    exact q_ret (.inr rfl) rfl rfl rfl rfl rfl rfl
noncomputable def smallB (bs : List UInt8) (x : BI) : Bool := @decide (FewP bs x ∧ VM bs ∧ ValidP bs.length x) (Classical.propDecidable _)
theorem smallB_t {bs : List UInt8} {x : BI} (h : FewP bs x ∧ VM bs ∧ ValidP bs.length x) : smallB bs x = true := @decide_eq_true _ (Classical.propDecidable _) h
theorem smallB_f {bs : List UInt8} {x : BI} (h : ¬ (FewP bs x ∧ VM bs ∧ ValidP bs.length x)) : smallB bs x = false := @decide_eq_false _ (Classical.propDecidable _) h
/-- A new device. -/
theorem s21 {d : List UInt8} {n : Nat} (hd : d.length = 128 * n) (hn : n ≤ maxLen) : Calls0 (evCall FN (k + 1)) 21 [csl 128 (d.map ofB)]
    (if n ≤ 64 then .tup [.agg [.int .u32 0, .int .u32 0, .int .i64 0, .int .i64 0, csl 128 (d.map ofB), .sl 1 0 []], .int .i64 0] else .tup [.agg [.int .u32 0, .int .u32 0, .int .i64 0, .int .i64 0, .sl 1 0 [], .sl 1 0 []], .int .i64 2]) := by
  have hdv : (d.map ofB).length / 128 = n := by rw [List.length_map]; omega
  refine q_call0 fn21 fun T H E lv => ?_
  by_cases h : n ≤ 64
  · rw [if_pos h]
    repeat (first | refine stN ?_ | intro E)
    by_cases hne : d.map ofB = []
    · apply p_app_nil
      · exact rfl
      · exact .inr ⟨rfl, by omega⟩
      · exact rfl
      · exact fun H => by rw [hne]; rfl
      · exact ⟨by omega, by omega⟩
      · rw [room_val]; simp
      · exact .inl rfl
      rw [hne]
      repeat (first | refine stN ?_ | intro E)
      exact q_ret (.inr rfl) rfl rfl rfl rfl rfl rfl
    · apply p_app
      · exact rfl
      · exact .inr ⟨rfl, by omega⟩
      · exact rfl
      · exact fun H => src_csl _ _ _
      · exact ⟨by omega, by omega⟩
      · rw [room_val, List.length_nil, Nat.zero_add, hdv]; omega
      · exact .inl ⟨rfl, rfl⟩
      · exact hne
      intro lv' l1 l2
      rw [List.nil_append]
      repeat (first | refine stN ?_ | intro E)
      exact q_ret (.inr rfl) rfl rfl rfl rfl rfl rfl
  · rw [if_neg h]
    repeat (first | refine stN ?_ | intro E)
    exact q_ret (.inr rfl) rfl rfl rfl rfl rfl rfl
/-- A small device, that is right. -/
theorem s20 {bs : List UInt8} {x : BI} {p : Nat} (hp : bs.length = 128 * p) (hb : x.b < 4294967296) (hs : x.s < 4294967296) (hr : ∀ r ∈ x.f, r.b < 4294967296 ∧ r.s < 4294967296) : Calls0 (evCall FN (k + 700)) 20 [biV x, memV bs] (.bool (smallB bs x)) := by
  have c9 : Calls0 (evCall FN (k + 699)) 9 [biV x, memV bs] (.bool (fewB bs x)) := s9 (k := k + 599)
  refine q_call0 fn20 fun T H E lv => ?_
  by_cases hF : FewP bs x
  · rw [fewB_t hF] at c9
    obtain ⟨f1, f2, f3, f4⟩ := hF
    have hpl : p ≤ 16 := by rw [List.length_map] at f2; omega
    by_cases h0 : p = 0
    · have c10 : Calls0 (evCall FN (k + 699)) 10 [memV bs] (.bool false) := s10f (k := k + 698) hp (.inl h0)
      rw [smallB_f fun h => by obtain ⟨_, ⟨q, q1, q2, q3⟩, _⟩ := h; omega]
      dsimp only [biV, biC] at c9 ⊢
      repeat (first | refine stN ?_ | intro E)
      exact q_ret (.inr rfl) rfl rfl rfl rfl rfl rfl
    · have h : VM bs := ⟨p, by omega, by omega, hp⟩
      have c10 : Calls0 (evCall FN (k + 699)) 10 [memV bs] (.bool true) := s10t (k := k + 698) h
      have hri : ∀ r ∈ x.f, RIok r := fun r hr' => ⟨(hr r hr').1, (hr r hr').2, by
        have := f1 r (by rw [List.take_of_length_le (by omega)]; exact hr'); omega⟩
      have c12 : Calls0 (evCall FN (k + 699)) 12 [biV x, memV bs] (.bool (validB bs.length x)) := s12 (k := k + 99) h hb hs (by omega) (by omega) hri
      by_cases hV : ValidP bs.length x
      · rw [validB_t hV] at c12
        rw [smallB_t ⟨⟨f1, f2, f3, f4⟩, h, hV⟩]
        dsimp only [biV, biC] at c9 c12 ⊢
        repeat (first | refine stN ?_ | intro E)
        exact q_ret (.inr rfl) rfl rfl rfl rfl rfl rfl
      · rw [validB_f hV] at c12
        rw [smallB_f fun h => hV h.2.2]
        dsimp only [biV, biC] at c9 c12 ⊢
        repeat (first | refine stN ?_ | intro E)
        exact q_ret (.inr rfl) rfl rfl rfl rfl rfl rfl
  · rw [fewB_f hF] at c9
    rw [smallB_f fun h => hF h.1]
    dsimp only [biV, biC] at c9 ⊢
    repeat (first | refine stN ?_ | intro E)
    exact q_ret (.inr rfl) rfl rfl rfl rfl rfl rfl
end Go.Proofs.Ythplidagfcdibaa
