/- Part 13 of the texts on which proofs about this seat rest: each says what it proves at its own head. No condition. -/
import Derived.Test.YthplidagfcdibaaM12
import Derived.ProofKit
import Derived.OpenShut
import Derived.Test.YthplidagfcdibaaRows
set_option linter.unusedVariables false
set_option linter.unusedSimpArgs false
/- What a law asks of bytes that changed; a small device; a new device; a new memory; equal answers. Condition: the memories are valid, the numbers fit. -/
namespace Go.Proofs.Ythplidagfcdibaa
open Go.Abs
variable {k : Nat}
/-- A byte of a ring, or of a part that is written. -/
def wthB (t b s : Nat) (l : List Pt) : Bool := decide (b ≤ t ∧ t < b + 16 * s) || l.any fun p => p.w && decide (p.a ≤ t ∧ t < p.a + p.n)
set_option maxRecDepth 100000 in
set_option maxHeartbeats 1000000 in
theorem s51 {t b s : Nat} {l : List Pt} (ht : t < 4294967296) (hb : b < 4294967296) (hs : s < 4294967296) (hl : ∀ p ∈ l, p.a + p.n < 4611686018427387904) (hn : l.length ≤ 100) :
    Calls0 (evCall FN (k + 200)) 51 [.int .i64 t, ringV b s, csl 4 (ptsV l)] (.bool (wthB t b s l)) := by
  refine q_call0 fn51 fun T H E lv => ?_
  unfold wthB
  have hdv := pts_div l
  by_cases hr : b ≤ t ∧ t < b + 16 * s
  · obtain ⟨h1, h2⟩ := hr
    rw [decide_eq_true (⟨h1, h2⟩ : b ≤ t ∧ t < b + 16 * s), Bool.true_or]
    repeat (first | refine stN ?_ | intro E)
    exact q_ret (.inr rfl) rfl rfl rfl rfl rfl rfl
  · rw [decide_eq_false hr, Bool.false_or]
    obtain h1 | ⟨h1, h2⟩ : t < b ∨ (b ≤ t ∧ b + 16 * s ≤ t) := by omega
    all_goals
      repeat (first | refine stN ?_ | intro E)
      refine q_loop (α := Nat) (LInv.mk (fun i => i ≤ l.length ∧ (l.take i).any (fun p => p.w && decide (p.a ≤ t ∧ t < p.a + p.n)) = false) (fun i => l.length - i)
        (fun i => [(7, .int .i64 (i : Int)), (2, csl 4 (ptsV l)), (0, .int .i64 (t : Int))]) (fun i => []))
        (fun _ _ c => c = 4) 0 ⟨Nat.zero_le _, rfl⟩ rfl (show l.length - 0 < k + 199 by omega) ⟨rfl, rfl, rfl, trivial⟩ trivial ?_
      rintro i lv c T H E ⟨hP, hA⟩ rfl hμ
      have hP : i ≤ l.length := hP
      clear hμ
      dsimp only at hA ⊢
      rcases Nat.lt_or_ge i l.length with hi | hi
      · obtain ⟨p, hp⟩ : ∃ p, l[i]? = some p := ⟨_, List.getElem?_eq_getElem hi⟩
        have hpm := List.mem_of_getElem? hp
        have hpb := hl p hpm
        have r1 := rd_pt1 hp
        have r2 := rd_pt2 hp
        have r3 := rd_pt3 hp
        have gi : inB (i : Int) ((ptsV l).length / 4) = some i := inB_n (by omega)
        have hat := any_take (f := fun p : Pt => p.w && decide (p.a ≤ t ∧ t < p.a + p.n)) hp
        rw [hA, Bool.false_or] at hat
        obtain ⟨pi, pa, pn, pw⟩ := p
        dsimp only at hpb r1 r2 r3 hat
        by_cases hc : pw = true ∧ pa ≤ t ∧ t < pa + pn
        · obtain ⟨rfl, g1, g2⟩ := hc
          have : l.any (fun p => p.w && decide (p.a ≤ t ∧ t < p.a + p.n)) = true := List.any_eq_true.2 ⟨_, hpm, by simp [g1, g2]⟩
          rw [this]
          repeat (first | refine stN ?_ | intro E)
          apply n_ret
          repeat (first | refine stN ?_ | intro E)
          exact q_ret (.inr rfl) rfl rfl rfl rfl rfl rfl
        · have hno : (pw && decide (pa ≤ t ∧ t < pa + pn)) = false := by
            cases pw
            · rfl
            · simp only [Bool.true_and, decide_eq_false_iff_not]; exact fun hq => hc ⟨rfl, hq⟩
          rw [hno] at hat
          obtain rfl | ⟨rfl, g1⟩ | ⟨rfl, g1, g2⟩ : pw = false ∨ (pw = true ∧ t < pa) ∨ (pw = true ∧ pa ≤ t ∧ pa + pn ≤ t) := by
            cases pw
            · exact .inl rfl
            · by_cases g : t < pa
              · exact .inr (.inl ⟨rfl, g⟩)
              · exact .inr (.inr ⟨rfl, by omega, Nat.le_of_not_lt fun g3 => hc ⟨rfl, by omega, g3⟩⟩)
          all_goals
            repeat (first | refine stN ?_ | intro E)
            exact n_again (i + 1) ⟨show i + 1 ≤ l.length by omega, hat⟩ rfl (show l.length - (i + 1) < l.length - i by omega) ⟨rfl, rfl, rfl, trivial⟩ trivial
      · rw [List.take_of_length_le hi] at hA
        rw [hA]
        repeat (first | refine stN ?_ | intro E)
        apply n_exit
        apply b_exit
        repeat (first | refine stN ?_ | intro E)
        exact q_ret (.inr rfl) rfl rfl rfl rfl rfl rfl
/-- Only such bytes have changed. -/
def ChgP (m c : List UInt8) (b s : Nat) (l : List Pt) : Prop := ∀ t, t < m.length → bt m t ≠ bt c t → wthB t b s l = true
set_option maxRecDepth 100000 in
set_option maxHeartbeats 1000000 in
theorem s22 {m c : List UInt8} {b s : Nat} {l : List Pt} (h : VM m) (he : c.length = m.length) (hb : b < 4294967296) (hs : s < 4294967296) (hl : ∀ p ∈ l, p.a + p.n < 4611686018427387904) (hn : l.length ≤ 100) (hc : ChgP m c b s l) :
    Calls0 (evCall FN (k + 400)) 22 [memV m, memV c, ringV b s, csl 4 (ptsV l)] (.bool true) := by
  have hle := h.le
  obtain ⟨P, hP0, hP1, hP2⟩ := h
  have d1 : (m.map ofB).length / 128 = P := by rw [List.length_map]; omega
  have d2 : (c.map ofB).length / 128 = P := by rw [List.length_map]; omega
  refine q_call0 fn22 fun T H E lv => ?_
  repeat (first | refine stN ?_ | intro E)
  refine q_loop (α := Nat) (LInv.mk (fun i => i ≤ P) (fun i => P - i)
    (fun i => [(9, .int .i64 (i : Int)), (6, .ref 2 0), (5, .ref 1 0), (4, .ref 0 0), (3, csl 4 (ptsV l))]) (fun i => [(2, [.int .u32 b, .int .u32 s]), (1, [csl 128 (c.map ofB)]), (0, [csl 128 (m.map ofB)])]))
    (fun _ _ c => c = 4) 0 (Nat.zero_le _) rfl (show P - 0 < k + 399 by omega) ⟨rfl, rfl, rfl, rfl, rfl, trivial⟩ ⟨rfl, rfl, rfl, trivial⟩ ?_
  rintro i lv cc T H E hP rfl hμ
  have hP : i ≤ P := hP
  clear hμ
  dsimp only
  rcases Nat.lt_or_ge i P with hi | hi
  · repeat (first | refine stN ?_ | intro E)
    refine q_loop (α := Nat) (LInv.mk (fun j => j ≤ 128) (fun j => 128 - j)
      (fun j => [(10, .int .i64 (j : Int)), (9, .int .i64 (i : Int)), (6, .ref 2 0), (5, .ref 1 0), (4, .ref 0 0), (3, csl 4 (ptsV l))]) (fun j => [(2, [.int .u32 b, .int .u32 s]), (1, [csl 128 (c.map ofB)]), (0, [csl 128 (m.map ofB)])]))
      (fun _ _ c => c = 4) 0 (Nat.zero_le _) rfl (show 128 - 0 < k + 399 by omega) ⟨rfl, rfl, rfl, rfl, rfl, rfl, trivial⟩ ⟨rfl, rfl, rfl, trivial⟩ ?_
    rintro j lv cc T H E hP2 rfl hμ
    have hP2 : j ≤ 128 := hP2
    clear hμ
    dsimp only
    rcases Nat.lt_or_ge j 128 with hj | hj
    · have r1 : rd (m.map ofB) (i * 128 + j * 1) 1 false = some (.int .u8 (bt m (128 * i + j))) := by
        have := rd_bt (bs := m) (a := 128 * i + j) (by omega)
        rwa [show (128 * i + j) / 128 * 128 + (128 * i + j) % 128 * 1 = i * 128 + j * 1 by omega] at this
      have r2 : rd (c.map ofB) (i * 128 + j * 1) 1 false = some (.int .u8 (bt c (128 * i + j))) := by
        have := rd_bt (bs := c) (a := 128 * i + j) (by omega)
        rwa [show (128 * i + j) / 128 * 128 + (128 * i + j) % 128 * 1 = i * 128 + j * 1 by omega] at this
      have g1 : inB (i : Int) ((m.map ofB).length / 128) = some i := inB_n (by omega)
      have g2 : inB (i : Int) ((c.map ofB).length / 128) = some i := inB_n (by omega)
      by_cases hne : bt m (128 * i + j) = bt c (128 * i + j)
      · rw [hne] at r1
        repeat (first | refine stN ?_ | intro E)
        exact n_again (j + 1) (show j + 1 ≤ 128 by omega) rfl (show 128 - (j + 1) < 128 - j by omega) ⟨rfl, rfl, rfl, rfl, rfl, rfl, trivial⟩ ⟨⟨rfl, rfl⟩, ⟨rfl, rfl⟩, ⟨rfl, rfl⟩, trivial⟩
      · have c51 : Calls0 (evCall FN (k + 399)) 51 [.int .i64 ((128 * i + j : Nat) : Int), ringV b s, csl 4 (ptsV l)] (.bool true) := by
          have := s51 (k := k + 199) (t := 128 * i + j) (by omega) hb hs hl hn
          rwa [hc (128 * i + j) (by omega) hne] at this
        repeat (first | refine stN ?_ | intro E)
        exact n_again (j + 1) (show j + 1 ≤ 128 by omega) rfl (show 128 - (j + 1) < 128 - j by omega) ⟨rfl, rfl, rfl, rfl, rfl, rfl, trivial⟩ ⟨⟨rfl, rfl⟩, ⟨rfl, rfl⟩, ⟨rfl, rfl⟩, trivial⟩
    · repeat (first | refine stN ?_ | intro E)
      apply n_exit
      apply b_exit
      repeat (first | refine stN ?_ | intro E)
      exact n_again (i + 1) (show i + 1 ≤ P by omega) rfl (show P - (i + 1) < P - i by omega) ⟨rfl, rfl, rfl, rfl, rfl, trivial⟩ ⟨⟨rfl, rfl⟩, ⟨rfl, rfl⟩, ⟨rfl, rfl⟩, trivial⟩
  · repeat (first | refine stN ?_ | intro E)
    apply n_exit
    apply b_exit
    repeat (first | refine stN ?_ | intro E)
    exact q_ret (.inr rfl) rfl rfl rfl rfl rfl rfl
/-- Equal answers. -/
theorem s19 {m : List UInt8} {v : Nat} {r ok : Bool} (h : VM m) : Calls0 (evCall FN (k + 300)) 19 [.agg [csl 128 (m.map ofB), .int .u32 v, .sl 1 0 [], .bool r, .bool ok], .agg [csl 128 (m.map ofB), .int .u32 v, .sl 1 0 [], .bool r, .bool ok]] (.bool true) := by
  have c25 : Calls0 (evCall FN (k + 299)) 25 [memV m, memV m] (.bool true) := (s25t (k := 0) h).fuel (by omega)
  have hz : (0 : Nat) = 1 ∨ ([] : List AV) = [] := .inr rfl
  refine q_call0 fn19 fun T H E lv => ?_
  cases r <;> cases ok
  all_goals
    repeat (first | refine stN ?_ | intro E)
    exact q_ret (.inr rfl) rfl rfl rfl rfl rfl rfl
noncomputable def smallB (bs : List UInt8) (x : BI) : Bool := @decide (FewP bs x ∧ VM bs ∧ ValidP bs.length x) (Classical.propDecidable _)
theorem smallB_t {bs : List UInt8} {x : BI} (h : FewP bs x ∧ VM bs ∧ ValidP bs.length x) : smallB bs x = true := @decide_eq_true _ (Classical.propDecidable _) h
theorem smallB_f {bs : List UInt8} {x : BI} (h : ¬ (FewP bs x ∧ VM bs ∧ ValidP bs.length x)) : smallB bs x = false := @decide_eq_false _ (Classical.propDecidable _) h
/-- A new device. -/
theorem s21 {d : List UInt8} {n : Nat} (hd : d.length = 128 * n) (hn : n ≤ maxLen) : Calls0 (evCall FN (k + 1)) 21 [csl 128 (d.map ofB)]
    (if n ≤ 64 then .tup [.agg [.int .u32 0, .int .u32 0, .int .i64 0, .int .i64 0, csl 128 (d.map ofB), .sl 1 0 []], .int .i64 0] else .tup [.agg [.int .u32 0, .int .u32 0, .int .i64 0, .int .i64 0, .sl 1 0 [], .sl 1 0 []], .int .i64 2]) := by
  have hdv : (d.map ofB).length / 128 = n := by rw [List.length_map]; omega
  refine q_call0 fn21 fun T H E lv => ?_
  by_cases h : n ≤ 64
  · rw [if_pos h]
    repeat (first | refine stN ?_ | intro E)
    by_cases hne : d.map ofB = []
    · apply p_app_nil
      · exact rfl
      · exact .inr ⟨rfl, by omega⟩
      · exact rfl
      · exact fun H => by rw [hne]; rfl
      · exact ⟨by omega, by omega⟩
      · rw [room_val]; simp
      · exact .inl rfl
      rw [hne]
      repeat (first | refine stN ?_ | intro E)
      exact q_ret (.inr rfl) rfl rfl rfl rfl rfl rfl
    · apply p_app
      · exact rfl
      · exact .inr ⟨rfl, by omega⟩
      · exact rfl
      · exact fun H => src_csl _ _ _
      · exact ⟨by omega, by omega⟩
      · rw [room_val, List.length_nil, Nat.zero_add, hdv]; omega
      · exact .inl ⟨rfl, rfl⟩
      · exact hne
      intro lv' l1 l2
      rw [List.nil_append]
      repeat (first | refine stN ?_ | intro E)
      exact q_ret (.inr rfl) rfl rfl rfl rfl rfl rfl
  · rw [if_neg h]
    repeat (first | refine stN ?_ | intro E)
    exact q_ret (.inr rfl) rfl rfl rfl rfl rfl rfl
/-- A small device, that is right. -/
theorem s20 {bs : List UInt8} {x : BI} {p : Nat} (hp : bs.length = 128 * p) (hb : x.b < 4294967296) (hs : x.s < 4294967296) (hr : ∀ r ∈ x.f, r.b < 4294967296 ∧ r.s < 4294967296) : Calls0 (evCall FN (k + 700)) 20 [biV x, memV bs] (.bool (smallB bs x)) := by
  have c9 : Calls0 (evCall FN (k + 699)) 9 [biV x, memV bs] (.bool (fewB bs x)) := s9 (k := k + 599)
  refine q_call0 fn20 fun T H E lv => ?_
  by_cases hF : FewP bs x
  · rw [fewB_t hF] at c9
    obtain ⟨f1, f2, f3, f4⟩ := hF
    have hpl : p ≤ 16 := by rw [List.length_map] at f2; omega
    by_cases h0 : p = 0
    · have c10 : Calls0 (evCall FN (k + 699)) 10 [memV bs] (.bool false) := s10f (k := k + 698) hp (.inl h0)
      rw [smallB_f fun h => by obtain ⟨_, ⟨q, q1, q2, q3⟩, _⟩ := h; omega]
      dsimp only [biV, biC] at c9 ⊢
      repeat (first | refine stN ?_ | intro E)
      exact q_ret (.inr rfl) rfl rfl rfl rfl rfl rfl
    · have h : VM bs := ⟨p, by omega, by omega, hp⟩
      have c10 : Calls0 (evCall FN (k + 699)) 10 [memV bs] (.bool true) := s10t (k := k + 698) h
      have hri : ∀ r ∈ x.f, RIok r := fun r hr' => ⟨(hr r hr').1, (hr r hr').2, by
        have := f1 r (by rw [List.take_of_length_le (by omega)]; exact hr'); omega⟩
      have c12 : Calls0 (evCall FN (k + 699)) 12 [biV x, memV bs] (.bool (validB bs.length x)) := s12 (k := k + 99) h hb hs (by omega) (by omega) hri
      by_cases hV : ValidP bs.length x
      · rw [validB_t hV] at c12
        rw [smallB_t ⟨⟨f1, f2, f3, f4⟩, h, hV⟩]
        dsimp only [biV, biC] at c9 c12 ⊢
        repeat (first | refine stN ?_ | intro E)
        exact q_ret (.inr rfl) rfl rfl rfl rfl rfl rfl
      · rw [validB_f hV] at c12
        rw [smallB_f fun h => hV h.2.2]
        dsimp only [biV, biC] at c9 c12 ⊢
        repeat (first | refine stN ?_ | intro E)
        exact q_ret (.inr rfl) rfl rfl rfl rfl rfl rfl
  · rw [fewB_f hF] at c9
    rw [smallB_f fun h => hF h.1]
    dsimp only [biV, biC] at c9 ⊢
    repeat (first | refine stN ?_ | intro E)
    exact q_ret (.inr rfl) rfl rfl rfl rfl rfl rfl
end Go.Proofs.Ythplidagfcdibaa

/- The examples of the documentation: evaluated. No condition. -/
namespace Go.Proofs.Ythplidagfcdibaa
open Go.Abs
variable {k : Nat}
theorem s11l : call0 (evCall FNl 300) 11 [] = some (.bool true) := by kernel_rfl
theorem s11 : Calls0 (evCall FN (k + 300)) 11 [] (.bool true) :=
  Calls0.fuel (k := 300) ⟨call0_mono (evCall_mono (fun f d h => FNl_le f d h) 300 300 (Nat.le_refl _)) s11l⟩ (by omega)
end Go.Proofs.Ythplidagfcdibaa

/- What a port and a completion do, for a device that is right. Condition: the memory is valid, the device is right. -/
namespace Go.Proofs.Ythplidagfcdibaa
open Go.Abs
variable {k : Nat}
/-- A device that is right for a memory, as a law meets it. -/
structure Rt (m : List UInt8) (b s a : Nat) (st : Int) (d : List UInt8) (f : List RI) : Prop where
  vm : VM m
  hb : b < 4294967296
  hs : s < 4294967296
  hd : d.length % 128 = 0
  v : ValidP m.length ⟨b, s, a, st, d, f⟩
theorem Rt.f {m d : List UInt8} {b s a : Nat} {st : Int} {f : List RI} (h : Rt m b s a st d f) : f.length ≤ 8 := h.v.2.2.2.1
theorem Rt.secs {m d : List UInt8} {b s a : Nat} {st : Int} {f : List RI} (h : Rt m b s a st d f) : (d.map ofB).length / 128 ≤ 64 := h.v.2.2.1
theorem Rt.st {m d : List UInt8} {b s a : Nat} {st : Int} {f : List RI} (h : Rt m b s a st d f) : st = 0 ∨ (160 ≤ st ∧ st ≤ 165) := h.v.2.1
theorem Rt.at0 {m d : List UInt8} {b s a : Nat} {st : Int} {f : List RI} (h : Rt m b s a st d f) : a = 0 ∨ (0 < a ∧ wholeB s = true ∧ a < s) := by
  have := h.v.1
  dsimp only at this
  rcases this with h1 | ⟨h1, h2, h3⟩
  · exact .inl (by omega)
  · exact .inr ⟨by omega, h2, by omega⟩
theorem Rt.at {m d : List UInt8} {b s a : Nat} {st : Int} {f : List RI} (h : Rt m b s a st d f) (hc : chkN m.length b s = 0) : a < s := by
  have h1 := h.at0
  have h2 := (chkN_ok h.vm hc).hs
  omega
theorem Rt.right {m d : List UInt8} {b s a : Nat} {st : Int} {f : List RI} (h : Rt m b s a st d f) {r : RI} (hr : r ∈ f) : RightP m.length ((d.map ofB).length / 128) r := rightB_iff.1 (h.v.2.2.2.2 r hr)
theorem Rt.sml {m d : List UInt8} {b s a : Nat} {st : Int} {f : List RI} (h : Rt m b s a st d f) : Sml ⟨b, s, a, st, d, f⟩ := valid_sml h.vm.le.1 h.hb h.hs h.hd h.v
theorem Rt.nr {m d : List UInt8} {b s a : Nat} {st : Int} {f : List RI} (h : Rt m b s a st d f) : NR m ((d.map ofB).length / 128) b s f.length (ntf b s ((d.map ofB).length / 128) ⟨a, st, f, m, false⟩) := ntf_nr h.vm h.at0 h.st h.f fun _ hr => h.right hr
/-- A device that is right has what is asked. -/
theorem rt_of {m d : List UInt8} {b s : Nat} {at' st : Int} {f : List RI} (hm : VM m) (hb : b < 4294967296) (hs : s < 4294967296) (hd : d.length % 128 = 0) (h : ValidP m.length ⟨b, s, at', st, d, f⟩) : ∃ a : Nat, at' = a ∧ Rt m b s a st d f := by
  have h1 := h.1
  dsimp only at h1
  obtain ⟨a, rfl⟩ : ∃ a : Nat, at' = a := ⟨at'.toNat, by rcases h1 with h1 | ⟨h1, _⟩ <;> omega⟩
  exact ⟨a, rfl, hm, hb, hs, hd, h⟩
/-- .. and keeps it, whatever part of it is replaced by what is right. -/
theorem Rt.next {m d m' d' : List UInt8} {b s b' s' a a' : Nat} {st st' : Int} {f f' : List RI} (h : Rt m b s a st d f) (hm : m'.length = m.length) (hb : b' < 4294967296) (hs : s' < 4294967296) (hd : d'.length = d.length) (ha : a' = 0 ∨ (0 < a' ∧ wholeB s' = true ∧ a' < s')) (hst : st' = 0 ∨ (160 ≤ st' ∧ st' ≤ 165)) (hf : f'.length ≤ 8) (hr : ∀ r ∈ f', RightP m.length ((d.map ofB).length / 128) r) : Rt m' b' s' a' st' d' f' := by
  refine ⟨h.vm.of_len hm, hb, hs, by rw [hd]; exact h.hd, ?_, hst, ?_, hf, fun r hr' => ?_⟩
  · dsimp only
    rcases ha with ha | ⟨h1, h2, h3⟩
    · exact .inl (by omega)
    · exact .inr ⟨by omega, h2, by omega⟩
  · show (d'.map ofB).length / 128 ≤ 64
    have := h.secs
    rw [List.length_map] at this ⊢; rw [hd]; exact this
  · have := hr r hr'
    rw [hm]
    show rightB m.length ((d'.map ofB).length / 128) r = true
    have e : (d'.map ofB).length = (d.map ofB).length := by rw [List.length_map, List.length_map, hd]
    rw [e]
    exact rightB_t this
theorem Rt.port {m d : List UInt8} {b s a val : Nat} {st port : Int} {f : List RI} {inn : Bool} (h : Rt m b s a st d f) (hv : val < 4294967296) {p : PO} (hp : port1 b s ((d.map ofB).length / 128) ⟨a, st, f, m, false⟩ inn port val = p) :
    (∀ k, Calls0 (evCall FN (k + 10800)) 14 [biV ⟨b, s, a, st, d, f⟩, memV m, .agg [.bool inn, .int .i64 port, .int .u32 val]] (.tup [biV ⟨p.b, p.s, p.a, p.st, d, p.f⟩, diV ⟨p.m, p.v, p.r, p.ok⟩])) ∧
    (∀ k, Calls0 (evCall FN (k + 10800)) 16 [biV ⟨b, s, a, st, d, f⟩, memV m, .agg [.bool inn, .int .i64 port, .int .u32 val]] (.agg (biC ⟨p.b, p.s, p.a, p.st, d, p.f⟩ ++ diC ⟨p.m, p.v, p.r, p.ok⟩))) ∧
    Rt p.m p.b p.s p.a p.st d p.f := by
  have hst : 0 ≤ st ∧ st < 4294967296 := by have := h.st; omega
  have hr : ∀ r ∈ f, RightP m.length ((d.map ofB).length / 128) r := fun r hr => h.right hr
  have hn := h.nr
  subst hp
  cases inn
  · refine ⟨fun k => s14o (k := k) (port := port) (val := val) h.vm h.hb h.hs h.at h.secs h.f, fun k => s16o (k := k) (port := port) (val := val) h.vm h.hb h.hs h.at h.secs h.f, ?_⟩
    unfold port1
    rw [if_neg (by simp)]
    split
    · exact h.next rfl hv h.hs rfl (.inl rfl) h.st h.f hr
    · split
      · exact h.next rfl h.hb hv rfl (.inl rfl) h.st h.f hr
      · split
        · exact h.next hn.len h.hb h.hs rfl hn.a hn.st hn.f hn.right
        · exact h
  · refine ⟨fun k => s14i (k := k) (port := port) (val := val) hst, fun k => s16i (k := k) (port := port) (val := val) hst, ?_⟩
    unfold port1
    rw [if_pos rfl]
    split
    · exact h
    · split
      · exact h
      · split
        · exact h.next rfl h.hb h.hs rfl h.at0 (.inl rfl) h.f hr
        · exact h
/-- A request that is taken off. -/
def offL (f : List RI) (j : Nat) : List RI := f.take j ++ f.drop (j + 1)
theorem ris_off (f : List RI) (j : Nat) : risV (f.take j) ++ risV (f.drop (j + 1)) = risV (offL f j) := by unfold offL risV; rw [List.flatMap_append]
theorem off_mem {f : List RI} {j : Nat} {r : RI} (h : r ∈ offL f j) : r ∈ f := by
  rcases List.mem_append.1 h with h | h
  · exact List.mem_of_mem_take h
  · exact List.mem_of_mem_drop h
theorem off_len {f : List RI} {j : Nat} (h : j < f.length) : (offL f j).length = f.length - 1 := by
  unfold offL; rw [List.length_append, List.length_take, List.length_drop]; omega
/-- What the completion of a request does to the memory, and to the disk. -/
def doneM (m d : List UInt8) (b q : Nat) (w : Bool) (p : Pt) (t : List Pt) : List UInt8 := if w then markB m b 3 (ix (p :: t)) else markB (scat m t (secB d q (rm t))).1 b 3 (ix (p :: t))
def doneD (m d : List UInt8) (q : Nat) (w : Bool) (t : List Pt) : List UInt8 := if w then putB d (q * 128) (gath m t) else d
theorem doneM_len {m d : List UInt8} {D b s q : Nat} {w : Bool} {p : Pt} {t : List Pt} (h : VM m) (hr : RN m.length D b s w q p t) : (doneM m d b q w p t).length = m.length := by
  have hrv := rn_rv h hr
  have hj : ∀ j ∈ ix (p :: t), j < s := fun j hj => by
    obtain ⟨x, hx, rfl⟩ := List.mem_map.1 hj
    exact (hr.one x hx).1
  unfold doneM
  split
  · exact markB_len hrv hj
  · have hin : InM m.length t := fun x hx _ => (hr.one x (List.mem_cons_of_mem _ hx)).2.2.2
    have e : (scat m t (secB d q (rm t))).1.length = m.length := (scat_props (ys := secB d q (rm t)) (n := m.length) (l := t) (r := (m, 0)) hin rfl (Nat.zero_le _)).1
    have hS : RV (scat m t (secB d q (rm t))).1 b s := ⟨h.of_len e, hrv.hs, hrv.hb, by rw [e]; exact hrv.le⟩
    rw [markB_len hS hj, e]
theorem doneD_len {m d : List UInt8} {D b s q : Nat} {w : Bool} {p : Pt} {t : List Pt} (hr : RN m.length D b s w q p t) (hq : q * 128 + 128 ≤ d.length) : (doneD m d q w t).length = d.length := by
  unfold doneD
  split
  · next hw =>
    subst hw
    have := gath_128 hr
    exact putB_length (by omega)
  · rfl
theorem Rt.done {m d : List UInt8} {b0 s0 a j b s q : Nat} {st : Int} {f : List RI} {w : Bool} {p : Pt} {t : List Pt} (h : Rt m b0 s0 a st d f) (hj : f[j]? = some ⟨b, s, q, w, (p :: t).map Pt.toI⟩) (hr : RN m.length ((d.map ofB).length / 128) b s w q p t) :
    (∀ k, Calls0 (evCall FN (k + 10800)) 15 [biV ⟨b0, s0, a, st, d, f⟩, memV m, .int .i64 j] (.tup [biV ⟨b0, s0, a, st, doneD m d q w t, offL f j⟩, diV ⟨doneM m d b q w p t, 0, true, true⟩])) ∧
    (∀ k, Calls0 (evCall FN (k + 10800)) 17 [biV ⟨b0, s0, a, st, d, f⟩, memV m, .int .i64 j] (.agg (biC ⟨b0, s0, a, st, doneD m d q w t, offL f j⟩ ++ diC ⟨doneM m d b q w p t, 0, true, true⟩))) ∧
    Rt (doneM m d b q w p t) b0 s0 a st (doneD m d q w t) (offL f j) := by
  have hdl := h.hd
  have hq : q * 128 + 128 ≤ d.length := by have := hr.q; rw [List.length_map] at this; omega
  refine ⟨fun k => ?_, fun k => ?_, ?_⟩
  · cases w
    · have := s15r (k := k) (b0 := b0) (s0 := s0) (at' := a) (st := st) h.vm hr h.f hj
      rw [ris_off] at this; exact this
    · have := s15w (k := k) (b0 := b0) (s0 := s0) (at' := a) (st := st) h.vm hr h.f hdl h.secs hj
      rw [ris_off] at this; exact this
  · cases w
    · have := s17r (k := k) (b0 := b0) (s0 := s0) (at' := a) (st := st) h.vm hr h.f hj
      rw [ris_off] at this; exact this
    · have := s17w (k := k) (b0 := b0) (s0 := s0) (at' := a) (st := st) h.vm hr h.f hdl h.secs hj
      rw [ris_off] at this; exact this
  · have hjl : j < f.length := (List.getElem?_eq_some_iff.1 hj).1
    have hf := h.f
    exact h.next (doneM_len h.vm hr) h.hb h.hs (doneD_len hr hq) h.at0 h.st (by rw [off_len hjl]; omega) fun r hr' => h.right (off_mem hr')
/-- Completion, whatever number is given. -/
theorem Rt.any {m d : List UInt8} {b s a : Nat} {st j : Int} {f : List RI} (h : Rt m b s a st d f) : ∃ (m' d' : List UInt8) (f' : List RI) (r : Bool),
    (∀ k, Calls0 (evCall FN (k + 10800)) 15 [biV ⟨b, s, a, st, d, f⟩, memV m, .int .i64 j] (.tup [biV ⟨b, s, a, st, d', f'⟩, diV ⟨m', 0, r, r⟩])) ∧
    (∀ k, Calls0 (evCall FN (k + 10800)) 17 [biV ⟨b, s, a, st, d, f⟩, memV m, .int .i64 j] (.agg (biC ⟨b, s, a, st, d', f'⟩ ++ diC ⟨m', 0, r, r⟩))) ∧ Rt m' b s a st d' f' := by
  by_cases hj : j < 0 ∨ (f.length : Int) ≤ j
  · exact ⟨m, d, f, false, fun k => s15x (k := k) hj, fun k => s17x (k := k) hj, h⟩
  · obtain ⟨i, rfl⟩ : ∃ i : Nat, j = i := ⟨j.toNat, by omega⟩
    obtain ⟨r, hri⟩ : ∃ r, f[i]? = some r := ⟨_, List.getElem?_eq_getElem (by omega)⟩
    obtain ⟨q, p, t, e, hr⟩ := right_nat (h.right (List.mem_of_getElem? hri))
    rw [e] at hri
    obtain ⟨h1, h2, h3⟩ := h.done hri hr
    exact ⟨_, _, _, true, h1, h2, h3⟩
end Go.Proofs.Ythplidagfcdibaa

/- BlockPortsAsSpecified, BlockNotifiesAsSpecified: what they answer. Condition: the arguments are such as their types hold. -/
namespace Go.Proofs.Ythplidagfcdibaa
open Go.Abs
variable {k : Nat}
/-- A device as its type holds it. -/
structure Raw (x : BI) : Prop where
  hb : x.b < 4294967296
  hs : x.s < 4294967296
  hd : x.d.length % 128 = 0
  hr : ∀ r ∈ x.f, r.b < 4294967296 ∧ r.s < 4294967296
theorem few_ok {m : List UInt8} {x : BI} (h : FewP m x) (hx : Raw x) : secs x < 1000000 ∧ x.f.length ≤ 100 ∧ ∀ r ∈ x.f, RIok r := by
  obtain ⟨f1, f2, f3, f4⟩ := h
  refine ⟨by omega, by omega, fun r hr => ⟨(hx.hr r hr).1, (hx.hr r hr).2, ?_⟩⟩
  have := f1 r (by rw [List.take_of_length_le (by omega)]; exact hr)
  omega
set_option maxRecDepth 100000 in
set_option maxHeartbeats 4000000 in
theorem s3 {x : BI} {m : List UInt8} {p val : Nat} {inn : Bool} {port kk : Int} (hp : m.length = 128 * p) (hx : Raw x) (hv : val < 4294967296) : Calls0 (evCall FN (k + 20000)) 3 [biV x, memV m, .agg [.bool inn, .int .i64 port, .int .u32 val], .int .i64 kk] (.bool true) := by
  have c11 : Calls0 (evCall FN (k + 19999)) 11 [] (.bool true) := s11.fuel (k := 300) (by omega)
  have c9 : Calls0 (evCall FN (k + 19999)) 9 [biV x, memV m] (.bool (fewB m x)) := s9 (k := k + 19899)
  refine q_call0 fn3 fun T H E lv => ?_
  by_cases hF : FewP m x
  · rw [fewB_t hF] at c9
    obtain ⟨g1, g2, g3⟩ := few_ok hF hx
    have hpl : p ≤ 16 := by have := hF.2.1; rw [List.length_map] at this; omega
    by_cases h0 : p = 0
    · have c10 : Calls0 (evCall FN (k + 19999)) 10 [memV m] (.bool false) := s10f (k := k + 19998) hp (.inl h0)
      dsimp only [biV, biC] at c9 ⊢
      repeat (first | refine stN ?_ | intro E)
      exact q_ret (.inr rfl) rfl rfl rfl rfl rfl rfl
    · have hm : VM m := ⟨p, by omega, by omega, hp⟩
      have c10 : Calls0 (evCall FN (k + 19999)) 10 [memV m] (.bool true) := s10t (k := k + 19998) hm
      have c12 : Calls0 (evCall FN (k + 19999)) 12 [biV x, memV m] (.bool (validB m.length x)) := s12 (k := k + 19399) hm hx.hb hx.hs g1 g2 g3
      have c13 : Calls0 (evCall FN (k + 19999)) 13 [biV x, memV m] (.bool (validB m.length x)) := s13 (k := k + 19399) hm hx.hb hx.hs g1 g2 g3
      by_cases hV : ValidP m.length x
      · rw [validB_t hV] at c12 c13
        obtain ⟨b, s, at', st, d, f⟩ := x
        obtain ⟨a, rfl, hR⟩ := rt_of hm hx.hb hx.hs hx.hd hV
        obtain ⟨P, hP⟩ : ∃ P, port1 b s ((d.map ofB).length / 128) ⟨a, st, f, m, false⟩ inn port val = P := ⟨_, rfl⟩
        obtain ⟨p1, p2, p3⟩ := hR.port hv hP
        obtain ⟨m', d', f', r, q1, q2, q3⟩ := hR.any (j := kk)
        have c14 := p1 (k + 9199)
        have c16 := p2 (k + 9199)
        have c15 := q1 (k + 9199)
        have c17 := q2 (k + 9199)
        have c18 : Calls0 (evCall FN (k + 19999)) 18 [biV ⟨P.b, P.s, P.a, P.st, d, P.f⟩, biV ⟨P.b, P.s, P.a, P.st, d, P.f⟩] (.bool true) := s18 (k := k + 14698) p3.sml
        have d18 : Calls0 (evCall FN (k + 19999)) 18 [biV ⟨b, s, a, st, d', f'⟩, biV ⟨b, s, a, st, d', f'⟩] (.bool true) := s18 (k := k + 14698) q3.sml
        have c19 : Calls0 (evCall FN (k + 19999)) 19 [diV ⟨P.m, P.v, P.r, P.ok⟩, diV ⟨P.m, P.v, P.r, P.ok⟩] (.bool true) := s19 (k := k + 19699) p3.vm
        have d19 : Calls0 (evCall FN (k + 19999)) 19 [diV ⟨m', 0, r, r⟩, diV ⟨m', 0, r, r⟩] (.bool true) := s19 (k := k + 19699) q3.vm
        obtain ⟨Pb, Ps, Pa, Pst, Pf, Pm, Pv, Pr, Pok⟩ := P
        dsimp only [biV, biC, diV, diC, List.cons_append, List.nil_append] at c9 c12 c13 c14 c15 c16 c17 c18 d18 c19 d19 ⊢
        repeat (first | refine stN ?_ | intro E)
        exact q_ret (.inr rfl) rfl rfl rfl rfl rfl rfl
      · rw [validB_f hV] at c12 c13
        dsimp only [biV, biC] at c9 c12 c13 ⊢
        repeat (first | refine stN ?_ | intro E)
        exact q_ret (.inr rfl) rfl rfl rfl rfl rfl rfl
  · rw [fewB_f hF] at c9
    dsimp only [biV, biC] at c9 ⊢
    repeat (first | refine stN ?_ | intro E)
    exact q_ret (.inr rfl) rfl rfl rfl rfl rfl rfl
end Go.Proofs.Ythplidagfcdibaa

/- BlockNotifiesAsSpecified: what it answers. Condition: the arguments are such as their types hold. -/
namespace Go.Proofs.Ythplidagfcdibaa
open Go.Abs
variable {k : Nat}
set_option maxRecDepth 100000 in
set_option maxHeartbeats 4000000 in
theorem s4 {x : BI} {m dd : List UInt8} {p n : Nat} (hp : m.length = 128 * p) (hx : Raw x) (hd : dd.length = 128 * n) (hn : n ≤ maxLen) : Calls0 (evCall FN (k + 20000)) 4 [biV x, memV m, csl 128 (dd.map ofB)] (.bool true) := by
  have c11 : Calls0 (evCall FN (k + 19999)) 11 [] (.bool true) := s11.fuel (k := 300) (by omega)
  have c20 : Calls0 (evCall FN (k + 19999)) 20 [biV x, memV m] (.bool (smallB m x)) := s20 (k := k + 19299) hp hx.hb hx.hs hx.hr
  have hdv : (dd.map ofB).length / 128 = n := by rw [List.length_map]; omega
  refine q_call0 fn4 fun T H E lv => ?_
  by_cases hS : FewP m x ∧ VM m ∧ ValidP m.length x
  · rw [smallB_t hS] at c20
    obtain ⟨_, hm, hV⟩ := hS
    obtain ⟨b, s, at', st, d, f⟩ := x
    obtain ⟨a, rfl, hR⟩ := rt_of hm hx.hb hx.hs hx.hd hV
    obtain ⟨P, hP⟩ : ∃ P, port1 b s ((d.map ofB).length / 128) ⟨a, st, f, m, false⟩ false 50 0 = P := ⟨_, rfl⟩
    obtain ⟨p1, p2, p3⟩ := hR.port (by omega) hP
    have c14 := p1 (k + 9199)
    have c16 := p2 (k + 9199)
    have c18 : Calls0 (evCall FN (k + 19999)) 18 [biV ⟨P.b, P.s, P.a, P.st, d, P.f⟩, biV ⟨P.b, P.s, P.a, P.st, d, P.f⟩] (.bool true) := s18 (k := k + 14698) p3.sml
    have c19 : Calls0 (evCall FN (k + 19999)) 19 [diV ⟨P.m, P.v, P.r, P.ok⟩, diV ⟨P.m, P.v, P.r, P.ok⟩] (.bool true) := s19 (k := k + 19699) p3.vm
    obtain ⟨Pb, Ps, Pa, Pst, Pf, Pm, Pv, Pr, Pok⟩ := P
    have c21 : Calls0 (evCall FN (k + 19999)) 21 [csl 128 (dd.map ofB)] _ := s21 (k := k + 19998) hd hn
    dsimp only [biV, biC, diV, diC, List.cons_append, List.nil_append] at c20 c14 c16 c18 c19 ⊢
    by_cases h1 : n ≤ 100
    · by_cases h2 : n ≤ 64
      · rw [if_pos h2] at c21
        have d18 : Calls0 (evCall FN (k + 19999)) 18 [biV ⟨0, 0, 0, 0, dd, []⟩, biV ⟨0, 0, 0, 0, dd, []⟩] (.bool true) := s18 (k := k + 14698) ⟨by dsimp only; omega, by dsimp only; omega, ⟨by dsimp only; omega, by dsimp only; omega⟩, ⟨by dsimp only; omega, by dsimp only; omega⟩, Nat.zero_le _, by show dd.length ≤ 8192; omega, by show dd.length % 128 = 0; omega, fun r hr => by cases hr⟩
        have d18 : Calls0 (evCall FN (k + 19999)) 18 [.agg [.int .u32 0, .int .u32 0, .int .i64 0, .int .i64 0, csl 128 (dd.map ofB), .sl 1 0 []], .agg [.int .u32 0, .int .u32 0, .int .i64 0, .int .i64 0, csl 128 (dd.map ofB), .sl 1 0 []]] (.bool true) := d18
        repeat (first | refine stN ?_ | intro E)
        exact q_ret (.inr rfl) rfl rfl rfl rfl rfl rfl
      · rw [if_neg h2] at c21
        have hz : (0 : Nat) = 128 ∨ ([] : List AV) = [] := .inr rfl
        repeat (first | refine stN ?_ | intro E)
        exact q_ret (.inr rfl) rfl rfl rfl rfl rfl rfl
    · repeat (first | refine stN ?_ | intro E)
      exact q_ret (.inr rfl) rfl rfl rfl rfl rfl rfl
  · rw [smallB_f hS] at c20
    dsimp only [biV, biC] at c20 ⊢
    repeat (first | refine stN ?_ | intro E)
    exact q_ret (.inr rfl) rfl rfl rfl rfl rfl rfl
end Go.Proofs.Ythplidagfcdibaa

/- BlockStaysInBounds: what it answers. Condition: the arguments are such as their types hold. -/
namespace Go.Proofs.Ythplidagfcdibaa
open Go.Abs
variable {k : Nat}
theorem bt_ofB {d : List UInt8} {j : Nat} {u : UInt8} (h : d[j]? = some u) : bt d j = u.toNat := by simp [bt, List.getD_eq_getElem?_getD, h]
/-- Cells of bytes can be compared. -/
theorem eqK_any : ∀ (n : Nat) (xs ys : List UInt8), xs.length = n → ys.length = n → ∃ r, eqKs (List.replicate n 0) (xs.map ofB) (ys.map ofB) = some r
  | 0, [], [], _, _ => ⟨true, rfl⟩
  | n + 1, x :: xs, y :: ys, h1, h2 => by
    obtain ⟨r, hr⟩ := eqK_any n xs ys (by simpa using h1) (by simpa using h2)
    refine ⟨((x.toNat : Int) == (y.toNat : Int)) && r, ?_⟩
    simp only [List.replicate_succ, List.map_cons, eqKs, hr, ofB, eqK, if_true]
theorem rd_page {d : List UInt8} {n : Nat} (h : n * 128 + 128 ≤ d.length) : rd (d.map ofB) (n * 128) 128 true = some (.agg (((d.drop (n * 128)).take 128).map ofB)) := by
  simp only [rd, if_true]
  rw [if_pos (by rw [List.length_map]; omega), List.map_take, List.map_drop]
theorem page_ne {d Y : List UInt8} {n q : Nat} (hY : Y.length ≤ 128) (hq : q * 128 + 128 ≤ d.length) (hn : n ≠ q) : ((putB d (q * 128) Y).drop (n * 128)).take 128 = (d.drop (n * 128)).take 128 := by
  apply List.ext_getElem?
  intro i
  rw [List.getElem?_take, List.getElem?_take]
  split
  · rw [List.getElem?_drop, List.getElem?_drop, putB_get (by omega)]
    split
    · rfl
    · rw [if_neg (by rcases Nat.lt_or_ge n q with h | h <;> omega)]
  · rfl
theorem doneD_page {m d : List UInt8} {D b s q n : Nat} {w : Bool} {p : Pt} {t : List Pt} (hr : RN m.length D b s w q p t) (hq : q * 128 + 128 ≤ d.length) (hn : n ≠ q ∨ w = false) : ((doneD m d q w t).drop (n * 128)).take 128 = (d.drop (n * 128)).take 128 := by
  unfold doneD
  split
  · next hw =>
    subst hw
    exact page_ne (gath_128 hr) hq (hn.resolve_right (by simp))
  · rfl
theorem wth_ring {t b s : Nat} {l : List Pt} (h : b ≤ t ∧ t < b + 16 * s) : wthB t b s l = true := by
  unfold wthB; rw [decide_eq_true h, Bool.true_or]
theorem wth_part {t b s : Nat} {l : List Pt} (h : (l.filter (·.w)).any (cov t) = true) : wthB t b s l = true := by
  obtain ⟨p, hp, hc⟩ := List.any_eq_true.1 h
  obtain ⟨h1, h2⟩ := List.mem_filter.1 hp
  unfold wthB
  rw [Bool.or_eq_true]
  refine .inr (List.any_eq_true.2 ⟨p, h1, ?_⟩)
  unfold cov at hc
  simp only [Bool.and_eq_true, decide_eq_true_eq] at hc ⊢
  exact ⟨h2, hc⟩
theorem chg_done {m d : List UInt8} {D b s q : Nat} {w : Bool} {p : Pt} {t : List Pt} (h : VM m) (hr : RN m.length D b s w q p t) : ChgP m (doneM m d b q w p t) b s (p :: t) := by
  intro x hx hne
  have hrv := rn_rv h hr
  by_cases hring : b ≤ x ∧ x < b + 16 * s
  · exact wth_ring hring
  have hj : ∀ j ∈ ix (p :: t), j < s := fun j hj => by
    obtain ⟨y, hy, rfl⟩ := List.mem_map.1 hj
    exact (hr.one y hy).1
  unfold doneM at hne
  split at hne
  · rw [bt_markB_ne (fun j hj' => hrv.top (hj j hj')) fun j hj' => by have := hj j hj'; omega] at hne
    exact absurd rfl hne
  · have hin : InM m.length t := fun y hy _ => (hr.one y (List.mem_cons_of_mem _ hy)).2.2.2
    have e : (scat m t (secB d q (rm t))).1.length = m.length := (scat_props (ys := secB d q (rm t)) (n := m.length) (l := t) (r := (m, 0)) hin rfl (Nat.zero_le _)).1
    rw [bt_markB_ne (fun j hj' => by rw [e]; exact hrv.top (hj j hj')) fun j hj' => by have := hj j hj'; omega] at hne
    have := scat_cov (ys := secB d q (rm t)) (t := x) (l := t) (r := (m, 0)) hin rfl (Nat.zero_le _) hne
    apply wth_part
    rw [List.filter_cons]
    split
    · rw [List.any_cons, this, Bool.or_true]
    · exact this
set_option maxRecDepth 100000 in
set_option maxHeartbeats 8000000 in
theorem s5 {x : BI} {m : List UInt8} {p0 kk : Nat} (hp : m.length = 128 * p0) (hx : Raw x) (hk : kk < 256) : Calls0 (evCall FN (k + 20000)) 5 [biV x, memV m, .int .u8 kk] (.bool true) := by
  have c11 : Calls0 (evCall FN (k + 19999)) 11 [] (.bool true) := s11.fuel (k := 300) (by omega)
  have c20 : Calls0 (evCall FN (k + 19999)) 20 [biV x, memV m] (.bool (smallB m x)) := s20 (k := k + 19299) hp hx.hb hx.hs hx.hr
  refine q_call0 fn5 fun T H E lv => ?_
  by_cases hS : FewP m x ∧ VM m ∧ ValidP m.length x
  · rw [smallB_t hS] at c20
    obtain ⟨_, hm, hV⟩ := hS
    obtain ⟨b, s, at', st, d, f⟩ := x
    obtain ⟨a, rfl, hR⟩ := rt_of hm hx.hb hx.hs hx.hd hV
    have hnr := hR.nr
    obtain ⟨N, hN⟩ : ∃ N, ntf b s ((d.map ofB).length / 128) ⟨a, st, f, m, false⟩ = N := ⟨_, rfl⟩
    have hP : port1 b s ((d.map ofB).length / 128) ⟨a, st, f, m, false⟩ false 50 0 = ⟨b, s, N.a, N.st, N.f, N.m, 0, N.r, true⟩ := by rw [← hN]; rfl
    obtain ⟨p1, _, p3⟩ := hR.port (by omega) hP
    rw [hN] at hnr
    have hml := hm.le
    have hb : b < 4294967296 := hR.hb
    have hs : s < 4294967296 := hR.hs
    have hdm : d.length % 128 = 0 := hR.hd
    have hsec : (d.map ofB).length / 128 ≤ 64 := hR.secs
    have hRm := p3.vm
    have c14 := p1 (k + 9199)
    have c22 : Calls0 (evCall FN (k + 19999)) 22 [memV m, memV N.m, ringV b s, csl 4 (ptsV [])] (.bool true) := s22 (k := k + 19599) hm hnr.len hb hs (fun p hp => by cases hp) (Nat.zero_le _) fun t _ hne => wth_ring (Decidable.byContradiction fun hq => hne (hnr.out t hq).symm)
    have d22 : chkN m.length b s ≠ 0 → Calls0 (evCall FN (k + 19999)) 22 [memV m, memV N.m, ringV 0 0, csl 4 (ptsV [])] (.bool true) := fun hc => s22 (k := k + 19599) hm hnr.len (by omega) (by omega) (fun p hp => by cases hp) (Nat.zero_le _) fun t _ hne => absurd (by rw [hnr.same hc]) hne
    have c23 : Calls0 (evCall FN (k + 19999)) 23 [memV m, ringV b s] (.int .i64 (chkN m.length b s)) := (s23 (k := 0) hm hb hs).fuel (by omega)
    have c13 : Calls0 (evCall FN (k + 19999)) 13 [biV ⟨b, s, N.a, N.st, d, N.f⟩, memV N.m] (.bool true) := by
      have h1 := s13 (k := k + 19399) (x := ⟨b, s, N.a, N.st, d, N.f⟩) hRm hb hs (by show (d.map ofB).length / 128 < 1000000; omega) (by have := p3.f; show N.f.length ≤ 100; dsimp only at this; omega) fun r hr => by
        have := p3.right hr
        obtain ⟨g1, g2⟩ := right_bs hRm.le.1 this
        exact ⟨g1, g2, by have := this.1.2.2.2.2; omega⟩
      rwa [validB_t p3.v] at h1
    have hf0 := hnr.f0
    have hf1 := hnr.f
    have hz : (0 : Nat) = 4 ∨ ([] : List AV) = [] := .inr rfl
    obtain ⟨Na, Nst, Nf, Nm, Nr⟩ := N
    dsimp only at p1 p3 c14 c22 d22 c13 hf0 hf1 hnr hRm
    have dv1 := ris_div f
    have dv2 := ris_div Nf
    by_cases he : Nf = []
    · subst he
      have : f = [] := List.length_eq_zero_iff.1 (by simpa using hf0)
      subst this
      by_cases hc : chkN m.length b s = 0
      · rw [hc] at c23
        dsimp only [biV, biC, diV, diC] at c20 c14 c13 ⊢
        repeat (first | refine stN ?_ | intro E)
        exact q_ret (.inr rfl) rfl rfl rfl rfl rfl rfl
      · have d22 := d22 hc
        have hc2 := (chk_cases m.length b s).resolve_left hc
        rw [hc2] at c23
        dsimp only [biV, biC, diV, diC] at c20 c14 c13 ⊢
        repeat (first | refine stN ?_ | intro E)
        exact q_ret (.inr rfl) rfl rfl rfl rfl rfl rfl
    · have hfl := List.length_pos_iff.2 he
      have hil : kk % Nf.length < Nf.length := Nat.mod_lt _ hfl
      obtain ⟨r, hri⟩ : ∃ r, Nf[kk % Nf.length]? = some r := ⟨_, List.getElem?_eq_getElem hil⟩
      obtain ⟨q, p, t, e, hr⟩ := right_nat (p3.right (List.mem_of_getElem? hri))
      rw [e] at hri
      obtain ⟨q1, _, q3⟩ := p3.done hri hr
      have gr : evBin .rem (.int .i64 (kk : Int)) (.int .i64 ((risV Nf).length / 5 : Nat)) = some (.int .i64 ((kk % Nf.length : Nat) : Int)) := by rw [dv2]; exact rem_nn hfl
      obtain ⟨rb, rs, rq, rw', rl⟩ := r
      dsimp only at hri hr q1 q3 e
      generalize hi : kk % Nf.length = i at hri q1 q3 gr hil
      have gi : inB (i : Int) ((risV Nf).length / 5) = some i := inB_n (by omega)
      have hrd := fm_agg riV_length hri
      have hrd : rd (risV Nf) (i * 5) 5 true = some (.agg [.int .u32 rb, .int .u32 rs, .int .i64 q, .bool rw', csl 4 (ptsV (p :: t))]) := by
        rw [← pis_of]; exact hrd
      have hqd : q * 128 + 128 ≤ d.length := by have := hr.q; rw [List.length_map] at this; omega
      have hMl := doneM_len (d := d) hRm hr
      have hDl := doneD_len hr hqd
      have hpg := fun n hn => doneD_page (n := n) hr hqd hn
      obtain ⟨g1, g2⟩ := right_bs hRm.le.1 (p3.right (List.mem_of_getElem? hri))
      dsimp only at g1 g2
      have hRml := hRm.le
      have e22 : Calls0 (evCall FN (k + 19999)) 22 [memV Nm, memV (doneM Nm d rb q rw' p t), ringV rb rs, csl 4 (ptsV (p :: t))] (.bool true) := s22 (k := k + 19599) hRm hMl g1 g2 (fun p hp => by have := hr.one p hp; omega) (by have := hr.len; simp only [List.length_cons]; omega) (chg_done hRm hr)
      have c15 := q1 (k + 9199)
      have d13 : Calls0 (evCall FN (k + 19999)) 13 [biV ⟨b, s, Na, Nst, doneD Nm d q rw' t, offL Nf i⟩, memV (doneM Nm d rb q rw' p t)] (.bool true) := by
        have h1 := s13 (k := k + 19399) (x := ⟨b, s, Na, Nst, doneD Nm d q rw' t, offL Nf i⟩) q3.vm hb hs (by have := q3.secs; show ((doneD Nm d q rw' t).map ofB).length / 128 < 1000000; omega) (by have := q3.f; show (offL Nf i).length ≤ 100; omega) fun r hr => by
          have := q3.right hr
          obtain ⟨g1, g2⟩ := right_bs q3.vm.le.1 this
          exact ⟨g1, g2, by have := this.1.2.2.2.2; omega⟩
        rwa [validB_t q3.v] at h1
      have hol := off_len hil
      have dv3 := ris_div (offL Nf i)
      generalize offL Nf i = F' at c15 d13 hol dv3
      generalize doneM Nm d rb q rw' p t = M' at c15 d13 e22
      generalize doneD Nm d q rw' t = D' at c15 d13 hDl hpg
      have hd1 : (D'.map ofB).length / 128 = (d.map ofB).length / 128 := by rw [List.length_map, List.length_map, hDl]
      have hd2 : (d.map ofB).length / 128 * 128 = d.length := by rw [List.length_map]; omega
      have body : chkN m.length b s = 0 ∨ chkN m.length b s = 160 := chk_cases _ _ _
      rcases body with hc | hc
      case' inr => have d22 := d22 (by omega)
      all_goals
        rw [hc] at c23
        dsimp only [biV, biC, diV, diC] at c20 c14 c15 c13 d13 ⊢
        repeat (first | refine stN ?_ | intro E)
        generalize hDn : (d.map ofB).length / 128 = Dn at *
        refine q_loop (α := Nat) (LInv.mk (fun n => n ≤ Dn) (fun n => Dn - n)
          (fun n => [(14, .int .i64 (n : Int)), (12, .ref 5 0), (11, .ref 4 0), (8, .ref 2 0)])
          (fun n => [(5, [.int .u32 b, .int .u32 s, .int .i64 Na, .int .i64 Nst, csl 128 (D'.map ofB), csl 5 (risV F')]), (4, [.int .u32 rb, .int .u32 rs, .int .i64 q, .bool rw', csl 4 (ptsV (p :: t))]), (2, [.int .u32 b, .int .u32 s, .int .i64 Na, .int .i64 Nst, csl 128 (d.map ofB), csl 5 (risV Nf)])]))
          (fun _ _ c => c = 4) 0 (Nat.zero_le _) rfl (show Dn - 0 < k + 19999 by omega) ⟨rfl, rfl, rfl, rfl, trivial⟩ ⟨rfl, rfl, rfl, trivial⟩ ?_
        rintro n lv cc T H E hP rfl hμ
        have hP : n ≤ Dn := hP
        clear hμ
        dsimp only
        rcases Nat.lt_or_ge n Dn with hn | hn
        · have gn : inB (n : Int) ((d.map ofB).length / 128) = some n := inB_n (by omega)
          have gn2 : inB (n : Int) ((D'.map ofB).length / 128) = some n := inB_n (by omega)
          have r1 := rd_page (d := d) (n := n) (by omega)
          have r2 := rd_page (d := D') (n := n) (by omega)
          by_cases hsame : n ≠ q ∨ rw' = false
          · rw [hpg n hsame] at r2
            have he := eqK_bytes 128 ((d.drop (n * 128)).take 128) (by rw [List.length_take, List.length_drop]; omega)
            repeat (first | refine stN ?_ | intro E)
            apply p_eqA
            · exact rfl
            · exact rfl
            · exact he
            repeat (first | refine stN ?_ | intro E)
            exact n_again (n + 1) (show n + 1 ≤ Dn by omega) rfl (show Dn - (n + 1) < Dn - n by omega) ⟨rfl, rfl, rfl, rfl, trivial⟩ ⟨⟨rfl, rfl⟩, ⟨rfl, rfl⟩, ⟨rfl, rfl⟩, trivial⟩
          · obtain ⟨rfl, rfl⟩ : n = q ∧ rw' = true := by
              refine ⟨Decidable.byContradiction fun h => hsame (.inl h), ?_⟩
              cases rw' with
              | true => rfl
              | false => exact absurd (.inr rfl) hsame
            obtain ⟨r, he⟩ := eqK_any 128 ((d.drop (n * 128)).take 128) ((D'.drop (n * 128)).take 128) (by rw [List.length_take, List.length_drop]; omega) (by rw [List.length_take, List.length_drop]; omega)
            cases r
            all_goals
              repeat (first | refine stN ?_ | intro E)
              apply p_eqA
              · exact rfl
              · exact rfl
              · exact he
              repeat (first | refine stN ?_ | intro E)
              exact n_again (n + 1) (show n + 1 ≤ Dn by omega) rfl (show Dn - (n + 1) < Dn - n by omega) ⟨rfl, rfl, rfl, rfl, trivial⟩ ⟨⟨rfl, rfl⟩, ⟨rfl, rfl⟩, ⟨rfl, rfl⟩, trivial⟩
        · repeat (first | refine stN ?_ | intro E)
          apply n_exit
          apply b_exit
          repeat (first | refine stN ?_ | intro E)
          exact q_ret (.inr rfl) rfl rfl rfl rfl rfl rfl
  · rw [smallB_f hS] at c20
    dsimp only [biV, biC] at c20 ⊢
    repeat (first | refine stN ?_ | intro E)
    exact q_ret (.inr rfl) rfl rfl rfl rfl rfl rfl
end Go.Proofs.Ythplidagfcdibaa

/- What the arguments of the ring's laws are. No condition. -/
namespace Go.Proofs.Ythplidagfcdibaa
open Go.Abs Go.ChangeShapes Go.WideShapes Go.ChangeAt Go.RowKit
/-- What a call that answers with a bool answers. -/
theorem eval_of {F : CallF} {f : FuncId} {vs : List AV} {b : Bool} (h : Calls0 F f vs (.bool b)) : ∃ hs', F f vs h0 (fun _ => none) = some (.bool b, hs') := by
  have h1 := evP_of h rfl
  unfold evP at h1
  split at h1
  · next r hs he =>
    split at h1
    · simp only [Option.some.injEq] at h1
      refine ⟨hs, ?_⟩
      rw [he]
      cases r <;> simp only [own, mapLeaf, ownCell] at h1 <;> first
        | (cases h1; rfl)
        | (split at h1 <;> first | cases h1 | (split at h1 <;> cases h1))
        | cases h1
    · cases h1
  · cases h1
def memSh : Sh := .agg [.sl (.arr 128 (.int .u8))]
def ringSh : Sh := .agg [.int .u32, .int .u32]
theorem own0 : ownKnob Try.prog.godebug = none := by kernel_rfl
theorem hasBytes {xs : List AV} (h : Has (.arr 128 (.int .u8)) xs) : ∃ bs : List UInt8, bs.length = 128 ∧ xs = bs.map ofB := by
  obtain ⟨ls, hl, rfl, h2⟩ := h
  have key : ∀ ls : List (List AV), (∀ y ∈ ls, Has (.int .u8) y) → ∃ bs : List UInt8, bs.length = ls.length ∧ ls.flatten = bs.map ofB := by
    intro ls
    induction ls with
    | nil => intro _; exact ⟨[], rfl, rfl⟩
    | cons y ls ih =>
      intro h
      obtain ⟨bs, e1, e2⟩ := ih fun z hz => h z (List.mem_cons_of_mem _ hz)
      obtain ⟨n, rfl, hn⟩ := h y List.mem_cons_self
      refine ⟨UInt8.ofNat n.toNat :: bs, by simp [e1], ?_⟩
      have hb : 0 ≤ n ∧ n < 256 := by
        have h1 : IntKind.u8.min = 0 := rfl
        have h2 : IntKind.u8.max = 255 := rfl
        simp only [Lit.wf, h1, h2, Bool.and_eq_true, decide_eq_true_eq] at hn
        omega
      rw [List.flatten_cons, e2, List.map_cons, ofB_le _ (by omega)]
      simp [Int.toNat_of_nonneg hb.1]
  obtain ⟨bs, e1, e2⟩ := key ls h2
  exact ⟨bs, by omega, e2⟩
theorem hasPages : ∀ ls : List (List AV), (∀ y ∈ ls, Has (.arr 128 (.int .u8)) y) → ∃ bs : List UInt8, bs.length = 128 * ls.length ∧ ls.flatten = bs.map ofB
  | [], _ => ⟨[], rfl, rfl⟩
  | y :: ls, h => by
    obtain ⟨bs, e1, e2⟩ := hasPages ls fun z hz => h z (List.mem_cons_of_mem _ hz)
    obtain ⟨b1, g1, rfl⟩ := hasBytes (h y List.mem_cons_self)
    refine ⟨b1 ++ bs, by rw [List.length_append, List.length_cons]; omega, by rw [List.flatten_cons, e2, List.map_append]⟩
theorem wf_nat {k : IntKind} {n : Int} {m : Nat} (h : (Lit.int k n).wf = true) (h1 : k.min = 0) (h2 : k.max < m) : ∃ j : Nat, n = j ∧ j < m := by
  simp only [Lit.wf, h1, Bool.and_eq_true, decide_eq_true_eq] at h
  exact ⟨n.toNat, by omega, by omega⟩
theorem hasMem {xs : List AV} (h : Has memSh xs) : ∃ (bs : List UInt8) (p : Nat), bs.length = 128 * p ∧ p ≤ maxLen ∧ xs = [csl 128 (bs.map ofB)] := by
  obtain ⟨ys, zs, ⟨ls, rfl, h2, h3⟩, rfl, rfl⟩ := h
  obtain ⟨bs, e1, e2⟩ := hasPages ls h2
  exact ⟨bs, ls.length, e1, h3, by rw [e2]; rfl⟩
theorem hasRing {xs : List AV} (h : Has ringSh xs) : ∃ b s : Nat, b < 4294967296 ∧ s < 4294967296 ∧ xs = [.int .u32 b, .int .u32 s] := by
  obtain ⟨_, _, ⟨n, rfl, hn⟩, ⟨_, _, ⟨m, rfl, hm⟩, rfl, rfl⟩, rfl⟩ := h
  obtain ⟨b, rfl, hb⟩ := wf_nat (m := 4294967296) hn rfl (by decide)
  obtain ⟨s, rfl, hs⟩ := wf_nat (m := 4294967296) hm rfl (by decide)
  exact ⟨b, s, hb, hs, rfl⟩
theorem each4 {s0 s1 s2 s3 : Sh} {xss : List (List AV)} (h : Each [s0, s1, s2, s3] xss) : ∃ x0 x1 x2 x3, xss = [x0, x1, x2, x3] ∧ Has s0 x0 ∧ Has s1 x1 ∧ Has s2 x2 ∧ Has s3 x3 := by
  rcases xss with _ | ⟨x0, _ | ⟨x1, _ | ⟨x2, _ | ⟨x3, _ | ⟨x4, t⟩⟩⟩⟩⟩
  · exact h.elim
  · exact h.2.elim
  · exact h.2.2.elim
  · exact h.2.2.2.elim
  · exact ⟨x0, x1, x2, x3, rfl, h.1, h.2.1, h.2.2.1, h.2.2.2.1⟩
  · exact h.2.2.2.2.elim
theorem hasInt {k : IntKind} {xs : List AV} (h : Has (.int k) xs) : ∃ n, xs = [.int k n] ∧ (Lit.int k n).wf = true := h
theorem table0 : Table Try.prog FN := table_of (fun f p h => by
  unfold prims at h
  split at h
  · rename_i hf
    subst hf
    cases h
    exact gather_sound (table_sound tabl0 _)
  · cases h)
theorem four {α : Type} {ds : List α} {n : Nat} (h : ds.length = n) (hn : n = 4) : ∃ d1 d2 d3 d4, ds = [d1, d2, d3, d4] := by
  subst hn
  rcases ds with _ | ⟨x0, _ | ⟨x1, _ | ⟨x2, _ | ⟨x3, _ | ⟨x4, t⟩⟩⟩⟩⟩ <;> simp at h
  exact ⟨x0, x1, x2, x3, rfl⟩
theorem three {α : Type} {ds : List α} {n : Nat} (h : ds.length = n) (hn : n = 3) : ∃ d1 d2 d3, ds = [d1, d2, d3] := by
  subst hn
  rcases ds with _ | ⟨x0, _ | ⟨x1, _ | ⟨x2, _ | ⟨x3, t⟩⟩⟩⟩ <;> simp at h
  exact ⟨x0, x1, x2, rfl⟩
theorem each3 {s0 s1 s2 : Sh} {xss : List (List AV)} (h : Each [s0, s1, s2] xss) : ∃ x0 x1 x2, xss = [x0, x1, x2] ∧ Has s0 x0 ∧ Has s1 x1 ∧ Has s2 x2 := by
  rcases xss with _ | ⟨x0, _ | ⟨x1, _ | ⟨x2, _ | ⟨x3, t⟩⟩⟩⟩
  · exact h.elim
  · exact h.2.elim
  · exact h.2.2.elim
  · exact ⟨x0, x1, x2, rfl, h.1, h.2.1, h.2.2.1⟩
  · exact h.2.2.2.elim
theorem hasStr {xs : List AV} (h : Has .str xs) : ∃ ys : List UInt8, xs = [.str ys] := by
  obtain ⟨l, rfl, _⟩ := h
  exact ⟨l, rfl⟩
end Go.Proofs.Ythplidagfcdibaa

/- What the arguments of the block's laws are. No condition. -/
namespace Go.Proofs.Ythplidagfcdibaa
open Go.Abs Go.ChangeShapes Go.WideShapes Go.ChangeAt Go.RowKit
def partSh : Sh := .agg [.int .i64, .int .i64, .int .i64, .bool]
def reqSh : Sh := .agg [.agg [.int .u32, .int .u32], .int .i64, .bool, .sl partSh]
def blkSh : Sh := .agg [.agg [.int .u32, .int .u32], .int .i64, .int .i64, .sl (.arr 128 (.int .u8)), .sl reqSh]
def ioSh : Sh := .agg [.bool, .int .i64, .int .u32]
def diskSh : Sh := .sl (.arr 128 (.int .u8))
theorem hasPart {xs : List AV} (h : Has partSh xs) : ∃ p : PI, xs = piV p := by
  obtain ⟨_, _, ⟨i, rfl, _⟩, ⟨_, _, ⟨a, rfl, _⟩, ⟨_, _, ⟨n, rfl, _⟩, ⟨_, _, ⟨w, rfl⟩, rfl, rfl⟩, rfl⟩, rfl⟩, rfl⟩ := h
  exact ⟨⟨i, a, n, w⟩, rfl⟩
theorem hasParts : ∀ ls : List (List AV), (∀ y ∈ ls, Has partSh y) → ∃ l : List PI, ls.flatten = pisV l
  | [], _ => ⟨[], rfl⟩
  | y :: ls, h => by
    obtain ⟨l, e⟩ := hasParts ls fun z hz => h z (List.mem_cons_of_mem _ hz)
    obtain ⟨p, rfl⟩ := hasPart (h y List.mem_cons_self)
    exact ⟨p :: l, by rw [List.flatten_cons, e]; rfl⟩
theorem hasReq {xs : List AV} (h : Has reqSh xs) : ∃ r : RI, xs = riV r ∧ r.b < 4294967296 ∧ r.s < 4294967296 := by
  obtain ⟨_, _, hr, ⟨_, _, ⟨q, rfl, _⟩, ⟨_, _, ⟨w, rfl⟩, ⟨_, _, ⟨ls, rfl, h2, _⟩, rfl, rfl⟩, rfl⟩, rfl⟩, rfl⟩ := h
  obtain ⟨b, s, hb, hs, rfl⟩ := hasRing hr
  obtain ⟨l, e⟩ := hasParts ls h2
  exact ⟨⟨b, s, q, w, l⟩, by rw [e]; rfl, hb, hs⟩
theorem hasReqs : ∀ ls : List (List AV), (∀ y ∈ ls, Has reqSh y) → ∃ l : List RI, ls.flatten = risV l ∧ ∀ r ∈ l, r.b < 4294967296 ∧ r.s < 4294967296
  | [], _ => ⟨[], rfl, fun r hr => by cases hr⟩
  | y :: ls, h => by
    obtain ⟨l, e, h1⟩ := hasReqs ls fun z hz => h z (List.mem_cons_of_mem _ hz)
    obtain ⟨p, rfl, h2⟩ := hasReq (h y List.mem_cons_self)
    refine ⟨p :: l, by rw [List.flatten_cons, e]; rfl, fun r hr => ?_⟩
    rcases List.mem_cons.1 hr with rfl | hr
    · exact h2
    · exact h1 r hr
theorem hasBlk {xs : List AV} (h : Has blkSh xs) : ∃ x : BI, xs = biC x ∧ Raw x := by
  obtain ⟨_, _, hr, ⟨_, _, ⟨a, rfl, _⟩, ⟨_, _, ⟨st, rfl, _⟩, ⟨_, _, ⟨ls, rfl, h2, _⟩, ⟨_, _, ⟨lr, rfl, h4, _⟩, rfl, rfl⟩, rfl⟩, rfl⟩, rfl⟩, rfl⟩ := h
  obtain ⟨b, s, hb, hs, rfl⟩ := hasRing hr
  obtain ⟨d, hd, e⟩ := hasPages ls h2
  obtain ⟨f, e2, hf⟩ := hasReqs lr h4
  refine ⟨⟨b, s, a, st, d, f⟩, by rw [e, e2]; rfl, hb, hs, ?_, hf⟩
  show d.length % 128 = 0
  omega
theorem hasIO {xs : List AV} (h : Has ioSh xs) : ∃ (i : Bool) (port : Int) (v : Nat), v < 4294967296 ∧ xs = [.bool i, .int .i64 port, .int .u32 v] := by
  obtain ⟨_, _, ⟨i, rfl⟩, ⟨_, _, ⟨port, rfl, _⟩, ⟨_, _, ⟨n, rfl, hn⟩, rfl, rfl⟩, rfl⟩, rfl⟩ := h
  obtain ⟨v, rfl, hv⟩ := wf_nat (m := 4294967296) hn rfl (by decide)
  exact ⟨i, port, v, hv, rfl⟩
theorem hasDisk {xs : List AV} (h : Has diskSh xs) : ∃ (bs : List UInt8) (p : Nat), bs.length = 128 * p ∧ p ≤ maxLen ∧ xs = [csl 128 (bs.map ofB)] := by
  obtain ⟨ls, rfl, h2, h3⟩ := h
  obtain ⟨bs, e1, e2⟩ := hasPages ls h2
  exact ⟨bs, ls.length, e1, h3, by rw [e2]; rfl⟩
theorem two {α : Type} {ds : List α} {n : Nat} (h : ds.length = n) (hn : n = 2) : ∃ d1 d2, ds = [d1, d2] := by
  subst hn
  rcases ds with _ | ⟨x0, _ | ⟨x1, _ | ⟨x2, t⟩⟩⟩ <;> simp at h
  exact ⟨x0, x1, rfl⟩
theorem five {α : Type} {ds : List α} {n : Nat} (h : ds.length = n) (hn : n = 5) : ∃ d1 d2 d3 d4 d5, ds = [d1, d2, d3, d4, d5] := by
  subst hn
  rcases ds with _ | ⟨x0, _ | ⟨x1, _ | ⟨x2, _ | ⟨x3, _ | ⟨x4, _ | ⟨x5, t⟩⟩⟩⟩⟩⟩ <;> simp at h
  exact ⟨x0, x1, x2, x3, x4, rfl⟩
theorem each2 {s0 s1 : Sh} {xss : List (List AV)} (h : Each [s0, s1] xss) : ∃ x0 x1, xss = [x0, x1] ∧ Has s0 x0 ∧ Has s1 x1 := by
  rcases xss with _ | ⟨x0, _ | ⟨x1, _ | ⟨x2, t⟩⟩⟩
  · exact h.elim
  · exact h.2.elim
  · exact ⟨x0, x1, rfl, h.1, h.2.1⟩
  · exact h.2.2.elim
theorem each5 {s0 s1 s2 s3 s4 : Sh} {xss : List (List AV)} (h : Each [s0, s1, s2, s3, s4] xss) : ∃ x0 x1 x2 x3 x4, xss = [x0, x1, x2, x3, x4] ∧ Has s0 x0 ∧ Has s1 x1 ∧ Has s2 x2 ∧ Has s3 x3 ∧ Has s4 x4 := by
  rcases xss with _ | ⟨x0, _ | ⟨x1, _ | ⟨x2, _ | ⟨x3, _ | ⟨x4, _ | ⟨x5, t⟩⟩⟩⟩⟩⟩
  · exact h.elim
  · exact h.2.elim
  · exact h.2.2.elim
  · exact h.2.2.2.elim
  · exact h.2.2.2.2.elim
  · exact ⟨x0, x1, x2, x3, x4, rfl, h.1, h.2.1, h.2.2.1, h.2.2.2.1, h.2.2.2.2.1⟩
  · exact h.2.2.2.2.2.elim
end Go.Proofs.Ythplidagfcdibaa
