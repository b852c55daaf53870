/- Part 20 of the texts on which proofs about this seat rest: each says what it proves at its own head. No condition. -/
import Derived.Test.YthplidagfcdibaaM19
set_option linter.unusedVariables false
set_option linter.unusedSimpArgs false
/- The encoding of a device, by the reference; devices that are equal, by it. Condition: the numbers fit, the lists are not long. -/
namespace Go.Proofs.Ythplidagfcdibaa
open Go.Abs
variable {k : Nat}
structure Sml (x : BI) : Prop where
  hb : x.b < 4294967296
  hs : x.s < 4294967296
  ha : I64 x.at'
  ht : I64 x.st
  hf : x.f.length ≤ 10
  hd : x.d.length ≤ 8192
  hd1 : x.d.length % 128 = 0
  hr : ∀ r ∈ x.f, r.b < 4294967296 ∧ r.s < 4294967296 ∧ I64 r.q ∧ r.l.length ≤ 10 ∧ ∀ p ∈ r.l, I64 p.i ∧ I64 p.a ∧ I64 p.n
def one (w : Bool) : Int := if w then 1 else 0
def piI (p : PI) : List Int := [p.i, p.a, p.n, one p.w]
def riI (r : RI) : List Int := [(r.b : Int), (r.s : Int), r.q, one r.w, (r.l.length : Int)] ++ r.l.flatMap piI
def biI (x : BI) : List Int := [(x.b : Int), (x.s : Int), x.at', x.st, (x.d.length / 128 : Nat), (x.f.length : Int)] ++ x.f.flatMap riI
def encB (x : BI) : List UInt8 := encL (biI x) ++ x.d
theorem one_i64 (w : Bool) : I64 (one w) := by cases w <;> exact ⟨by decide, by decide⟩
theorem nat_i64 {n : Nat} (h : n < 9223372036854775808) : I64 (n : Int) := ⟨by omega, by omega⟩
theorem len_piI (l : List PI) : (l.flatMap piI).length = 4 * l.length := by
  induction l with
  | nil => rfl
  | cons p l ih => rw [List.flatMap_cons, List.length_append, List.length_cons, ih, show (piI p).length = 4 from rfl]; omega
theorem len_riI {l : List RI} (h : ∀ r ∈ l, r.l.length ≤ 10) : (l.flatMap riI).length ≤ 45 * l.length := by
  induction l with
  | nil => simp
  | cons r l ih =>
    have := ih fun x hx => h x (List.mem_cons_of_mem _ hx)
    have h2 := h r List.mem_cons_self
    rw [List.flatMap_cons, List.length_append, List.length_cons]
    have : (riI r).length = 5 + 4 * r.l.length := by unfold riI; rw [List.length_append, len_piI]; simp only [List.length_cons, List.length_nil]
    omega
theorem biI_len {x : BI} (h : Sml x) : (biI x).length ≤ 456 := by
  have h1 := len_riI (l := x.f) fun r hr => (h.hr r hr).2.2.2.1
  have h2 := h.hf
  unfold biI
  rw [List.length_append]; simp only [List.length_cons, List.length_nil]; omega
theorem biI_i64 {x : BI} (h : Sml x) : ∀ n ∈ biI x, I64 n := by
  intro n hn
  have hb := h.hb
  have hs := h.hs
  have hf := h.hf
  have hd := h.hd
  unfold biI at hn
  rcases List.mem_append.1 hn with hn | hn
  · simp only [List.mem_cons, List.not_mem_nil, or_false] at hn
    rcases hn with rfl | rfl | rfl | rfl | rfl | rfl
    · exact nat_i64 (by omega)
    · exact nat_i64 (by omega)
    · exact h.ha
    · exact h.ht
    · exact nat_i64 (by omega)
    · exact nat_i64 (by omega)
  · obtain ⟨r, hr, hn⟩ := List.mem_flatMap.1 hn
    obtain ⟨r1, r2, r3, r4, r5⟩ := h.hr r hr
    unfold riI at hn
    rcases List.mem_append.1 hn with hn | hn
    · simp only [List.mem_cons, List.not_mem_nil, or_false] at hn
      rcases hn with rfl | rfl | rfl | rfl | rfl
      · exact nat_i64 (by omega)
      · exact nat_i64 (by omega)
      · exact r3
      · exact one_i64 _
      · exact nat_i64 (by omega)
    · obtain ⟨p, hp, hn⟩ := List.mem_flatMap.1 hn
      obtain ⟨p1, p2, p3⟩ := r5 p hp
      simp only [piI, List.mem_cons, List.not_mem_nil, or_false] at hn
      rcases hn with rfl | rfl | rfl | rfl
      · exact p1
      · exact p2
      · exact p3
      · exact one_i64 _
theorem csz_b2s (Y : List UInt8) : csz 1 (Y.map ofB) = 1 ∨ (csz 1 (Y.map ofB) = 0 ∧ Y = []) := by cases Y <;> simp [csz]
theorem s65 (w : Bool) : Calls0 (evCall FN (k + 1)) 65 [.bool w] (.int .i64 (one w)) := by
  refine q_call0 fn65 fun T H E lv => ?_
  cases w
  all_goals
    repeat (first | refine stN ?_ | intro E)
    exact q_ret (.inr rfl) rfl rfl rfl rfl rfl rfl
theorem iV_append (a b : List Int) : iV (a ++ b) = iV a ++ iV b := List.map_append
theorem fm_t {α β : Type} (f : α → List β) {l : List α} {j : Nat} {p : α} (h : l[j]? = some p) : (l.take (j + 1)).flatMap f = (l.take j).flatMap f ++ f p := by
  rw [List.take_add_one, h, List.flatMap_append]; simp
set_option maxRecDepth 100000 in
set_option maxHeartbeats 4000000 in
theorem s33 {x : BI} (h : Sml x) : Calls0 (evCall FN (k + 5300)) 33 [biV x] (csl 1 ((encB x).map ofB)) := by
  obtain ⟨b, s, at', st, d, f⟩ := x
  have hI := biI_i64 h
  have hIl := biI_len h
  obtain ⟨hb, hs, ha, ht, hf, hd, hd1, hr⟩ := h
  dsimp only at hb hs ha ht hf hd hd1 hr
  have c66 : evP (evCall FN (k + 5299)) 66 [csl 1 (iV (biI ⟨b, s, at', st, d, f⟩))] = some (.sl 2 1 ((encL (biI ⟨b, s, at', st, d, f⟩)).map ofB)) := s66 (k := k + 99) (by omega) hI
  have hE : encB ⟨b, s, at', st, d, f⟩ = encL (biI ⟨b, s, at', st, d, f⟩) ++ d := rfl
  have hEl : (encL (biI ⟨b, s, at', st, d, f⟩)).length ≤ 10 + 10 * 456 := by
    have h1 := flat_encI (biI ⟨b, s, at', st, d, f⟩)
    have h2 := encI_len (biI ⟨b, s, at', st, d, f⟩).length
    unfold encL
    rw [List.length_append]; omega
  have hbi : iV (biI ⟨b, s, at', st, d, f⟩) = [.int .i64 b, .int .i64 s, .int .i64 at', .int .i64 st, .int .i64 ((d.map ofB).length / 128 : Nat), .int .i64 ((risV f).length / 5 : Nat)] ++ iV (f.flatMap riI) := by
    unfold biI; rw [iV_append, ris_div, List.length_map]; rfl
  rw [hE]
  generalize encL (biI ⟨b, s, at', st, d, f⟩) = Y at c66 hEl ⊢
  generalize iV (biI ⟨b, s, at', st, d, f⟩) = J at c66 hbi
  refine q_call0 fn33 fun T H E lv => ?_
  dsimp only [biV, biC]
  repeat (first | refine stN ?_ | intro E)
  generalize hA : [AV.int .i64 b, .int .i64 s, .int .i64 at', .int .i64 st, .int .i64 ((d.map ofB).length / 128 : Nat), .int .i64 ((risV f).length / 5 : Nat)] = A at hbi ⊢
  have hAl : A.length = 6 := by rw [← hA]; rfl
  refine q_loop (α := Nat × Nat) (LInv.mk (fun p => p.1 ≤ f.length) (fun p => f.length - p.1)
    (fun p => [(4, .int .i64 (p.1 : Int)), (3, .sl p.2 1 (A ++ iV ((f.take p.1).flatMap riI))), (1, .ref 0 0)])
    (fun _ => [(0, [.int .u32 b, .int .u32 s, .int .i64 at', .int .i64 st, csl 128 (d.map ofB), csl 5 (risV f)])]))
    (fun p lv c => 4 ≤ c ∧ Own3 lv c p.2) (0, 3) (Nat.zero_le _) ⟨Nat.le_refl _, .three⟩ (show f.length - 0 < k + 5299 by omega) ⟨rfl, by rw [← hA]; rfl, rfl, trivial⟩ ⟨rfl, trivial⟩ ?_
  rintro ⟨i, br⟩ lv c T H E hP ⟨hc4, hL⟩ hμ
  have hP : i ≤ f.length := hP
  clear hμ
  dsimp only at hL ⊢
  have hdv := ris_div f
  rcases Nat.lt_or_ge i f.length with hi | hi
  · obtain ⟨r, hri⟩ : ∃ r, f[i]? = some r := ⟨_, List.getElem?_eq_getElem hi⟩
    have hrd := fm_agg riV_length hri
    have gi : inB (i : Int) ((risV f).length / 5) = some i := inB_n (by omega)
    have hrl := len_riI (l := f.take i) fun y hy => (hr y (List.mem_of_mem_take hy)).2.2.2.1
    rw [List.length_take] at hrl
    have hft := fm_t riI hri
    obtain ⟨r1, r2, r3, r4, r5⟩ := hr r (List.mem_of_getElem? hri)
    obtain ⟨rb, rs, rq, rw', l⟩ := r
    dsimp only at r1 r2 r3 r4 r5
    have hrd : rd (risV f) (i * 5) 5 true = some (.agg [.int .u32 rb, .int .u32 rs, .int .i64 rq, .bool rw', csl 4 (pisV l)]) := hrd
    have c65 : Calls0 (evCall FN (k + 5299)) 65 [.bool rw'] (.int .i64 (one rw')) := s65 (k := k + 5298) rw'
    repeat (first | refine stN ?_ | intro E)
    apply p_appX
    · exact rfl
    · exact rfl
    · exact fun H => rfl
    · exact ⟨by omega, by omega⟩
    · rw [List.length_append, iV_len, room_val]; simp only [List.length_cons, List.length_nil]; omega
    · exact hL
    · omega
    intro br1 lv1 c1 g1 g2 g3
    have hA2 : A ++ iV ((f.take i).flatMap riI) ++ [.int .i64 (rb : Int), .int .i64 (rs : Int), .int .i64 rq, .int .i64 (one rw'), .int .i64 ((pisV l).length / 4 : Nat)] = A ++ iV ((f.take i).flatMap riI ++ [(rb : Int), (rs : Int), rq, one rw', (l.length : Int)]) := by
      rw [iV_append, List.append_assoc, pis_div]; rfl
    rw [hA2]
    generalize hG : (f.take i).flatMap riI ++ [(rb : Int), (rs : Int), rq, one rw', (l.length : Int)] = G
    have hGl : G.length ≤ 45 * f.length + 5 := by rw [← hG, List.length_append]; simp only [List.length_cons, List.length_nil]; omega
    repeat (first | refine stN ?_ | intro E)
    have hdp := pis_div l
    refine q_loop (α := Nat × Nat) (LInv.mk (fun p => p.1 ≤ l.length) (fun p => l.length - p.1)
      (fun p => [(6, .int .i64 (p.1 : Int)), (5, .ref 1 0), (4, .int .i64 (i : Int)), (3, .sl p.2 1 (A ++ iV (G ++ (l.take p.1).flatMap piI))), (1, .ref 0 0)])
      (fun _ => [(1, [.int .u32 rb, .int .u32 rs, .int .i64 rq, .bool rw', csl 4 (pisV l)]), (0, [.int .u32 b, .int .u32 s, .int .i64 at', .int .i64 st, csl 128 (d.map ofB), csl 5 (risV f)])]))
      (fun p lv c => 4 ≤ c ∧ Own3 lv c p.2) (0, br1) (Nat.zero_le _) ⟨by omega, g2⟩ (show l.length - 0 < k + 5299 by omega) ⟨rfl, rfl, rfl, by simp; rfl, rfl, trivial⟩ ⟨rfl, rfl, trivial⟩ ?_
    rintro ⟨j, br2⟩ lv2 c2 T H E hP2 ⟨hc5, hL2⟩ hμ
    have hP2 : j ≤ l.length := hP2
    clear hμ
    dsimp only at hL2 ⊢
    rcases Nat.lt_or_ge j l.length with hj | hj
    · obtain ⟨p, hpj⟩ : ∃ p, l[j]? = some p := ⟨_, List.getElem?_eq_getElem hj⟩
      have gj : inB (j : Int) ((pisV l).length / 4) = some j := inB_n (by omega)
      have q0 : rd (pisV l) (j * 4 + 0) 1 false = some (.int .i64 p.i) := fm_rd piV_length (by omega) hpj rfl rfl
      have q1 : rd (pisV l) (j * 4 + 1) 1 false = some (.int .i64 p.a) := fm_rd piV_length (by omega) hpj rfl rfl
      have q2 : rd (pisV l) (j * 4 + 2) 1 false = some (.int .i64 p.n) := fm_rd piV_length (by omega) hpj rfl rfl
      have q3 : rd (pisV l) (j * 4 + 3) 1 false = some (.bool p.w) := fm_rd piV_length (by omega) hpj rfl rfl
      have hpt := fm_t piI hpj
      have hpl := len_piI (l.take j)
      rw [List.length_take] at hpl
      have c65 : Calls0 (evCall FN (k + 5299)) 65 [.bool p.w] (.int .i64 (one p.w)) := s65 (k := k + 5298) p.w
      repeat (first | refine stN ?_ | intro E)
      apply p_appX
      · exact rfl
      · exact rfl
      · exact fun H => rfl
      · exact ⟨by omega, by omega⟩
      · rw [List.length_append, iV_len, List.length_append, room_val]; simp only [List.length_cons, List.length_nil]; omega
      · exact hL2
      · omega
      intro br3 lv3 c3 g4 g5 g6
      have hA3 : A ++ iV (G ++ (l.take j).flatMap piI) ++ [.int .i64 p.i, .int .i64 p.a, .int .i64 p.n, .int .i64 (one p.w)] = A ++ iV (G ++ (l.take (j + 1)).flatMap piI) := by
        rw [hpt, ← List.append_assoc G, iV_append (G ++ _) (piI p), ← List.append_assoc A]; rfl
      rw [hA3]
      repeat (first | refine stN ?_ | intro E)
      exact n_again (j + 1, br3) (show j + 1 ≤ l.length by omega) ⟨by omega, g5⟩ (show l.length - (j + 1) < l.length - j by omega) ⟨rfl, rfl, rfl, rfl, rfl, trivial⟩ ⟨⟨rfl, rfl⟩, ⟨rfl, rfl⟩, trivial⟩
    · rw [List.take_of_length_le hj]
      repeat (first | refine stN ?_ | intro E)
      apply n_exit
      apply b_exit
      repeat (first | refine stN ?_ | intro E)
      have hfin : G ++ l.flatMap piI = (f.take (i + 1)).flatMap riI := by rw [hft, ← hG]; simp [riI]
      rw [hfin]
      exact n_again (i + 1, br2) (show i + 1 ≤ f.length by omega) ⟨by omega, hL2⟩ (show f.length - (i + 1) < f.length - i by omega) ⟨rfl, rfl, rfl, trivial⟩ ⟨⟨rfl, rfl⟩, trivial⟩
  · rw [List.take_of_length_le hi, ← hbi]
    repeat (first | refine stN ?_ | intro E)
    apply n_exit
    apply b_exit
    repeat (first | refine stN ?_ | intro E)
    apply p_call1
    · exact args_ne rfl hL.ne1
    · exact rfl
    · exact c66
    · exact rfl
    · exact rfl
    · exact rfl
    intro lv0 m1 m2
    rw [show mapLeaf (adoptCell 1 1 c) (AV.sl 2 1 (Y.map ofB)) = .sl c 1 (Y.map ofB) from rfl]
    repeat (first | refine stN ?_ | intro E)
    have hdl : (d.map ofB).length / 128 * 128 = d.length := by rw [List.length_map]; omega
    obtain ⟨D, hD⟩ : ∃ D, D = (d.map ofB).length / 128 := ⟨_, rfl⟩
    rw [← hD] at hdl
    refine q_loop (α := Nat × Nat) (LInv.mk (fun p => p.1 ≤ D) (fun p => D - p.1)
      (fun p => [(8, .int .i64 (p.1 : Int)), (7, .sl p.2 1 ((Y ++ d.take (p.1 * 128)).map ofB)), (1, .ref 0 0)])
      (fun _ => [(0, [.int .u32 b, .int .u32 s, .int .i64 at', .int .i64 st, csl 128 (d.map ofB), csl 5 (risV f)])]))
      (fun p lv c => 4 ≤ c ∧ Own4 lv c p.2) (0, c) (Nat.zero_le _) ⟨by omega, hc4, by omega, m1⟩ (show D - 0 < k + 5299 by omega) ⟨rfl, by simp; rfl, rfl, trivial⟩ ⟨rfl, trivial⟩ ?_
    rintro ⟨i, br⟩ lv c T H E hP ⟨hc4, hL⟩ hμ
    have hP : i ≤ D := hP
    clear hμ
    dsimp only at hL ⊢
    rcases Nat.lt_or_ge i D with hi | hi
    · have gi : inB (i : Int) ((d.map ofB).length / 128) = some i := inB_n (by omega)
      repeat (first | refine stN ?_ | intro E)
      refine q_loop (α := Nat × Nat) (LInv.mk (fun p => p.1 ≤ 128) (fun p => 128 - p.1)
        (fun p => [(9, .int .i64 (p.1 : Int)), (8, .int .i64 (i : Int)), (7, .sl p.2 1 ((Y ++ d.take (i * 128 + p.1)).map ofB)), (1, .ref 0 0)])
        (fun _ => [(0, [.int .u32 b, .int .u32 s, .int .i64 at', .int .i64 st, csl 128 (d.map ofB), csl 5 (risV f)])]))
        (fun p lv c => 4 ≤ c ∧ Own4 lv c p.2) (0, br) (Nat.zero_le _) ⟨hc4, hL⟩ (show 128 - 0 < k + 5299 by omega) ⟨rfl, rfl, rfl, rfl, trivial⟩ ⟨rfl, trivial⟩ ?_
      rintro ⟨j, br2⟩ lv2 c2 T H E hP2 ⟨hc5, hL2⟩ hμ
      have hP2 : j ≤ 128 := hP2
      clear hμ
      dsimp only at hL2 ⊢
      rcases Nat.lt_or_ge j 128 with hj | hj
      · obtain ⟨u, hu⟩ : ∃ u, d[i * 128 + j]? = some u := ⟨_, List.getElem?_eq_getElem (by omega)⟩
        have hru : rd (d.map ofB) (i * 128 + j * 1) 1 false = some (ofB u) := by
          simp only [rd, Bool.false_eq_true, if_false, Nat.mul_one, List.getElem?_map, hu, Option.map_some, ofB, AV.leaf, if_true]
        obtain ⟨c', rfl⟩ : ∃ c', c2 = c' + 4 := ⟨c2 - 4, by omega⟩
        repeat (first | refine stN ?_ | intro E)
        apply p_appZ
        · exact rfl
        · exact rfl
        · exact fun H => rfl
        · exact ⟨by omega, by omega⟩
        · rw [List.length_map, List.length_append, List.length_take, room_val]; simp only [List.length_cons, List.length_nil]; omega
        · exact hL2
        · omega
        intro lv1 g2 g3
        rw [show (Y ++ d.take (i * 128 + j)).map ofB ++ [ofB u] = (Y ++ d.take (i * 128 + (j + 1))).map ofB from by
          rw [← Nat.add_assoc, List.take_add_one, hu, ← List.append_assoc, List.map_append (l₁ := Y ++ _)]; rfl]
        repeat (first | refine stN ?_ | intro E)
        exact n_again (j + 1, c' + 4) (show j + 1 ≤ 128 by omega) ⟨by omega, g2⟩ (show 128 - (j + 1) < 128 - j by omega) ⟨rfl, rfl, rfl, rfl, trivial⟩ ⟨⟨rfl, rfl⟩, trivial⟩
      · obtain rfl : j = 128 := by omega
        repeat (first | refine stN ?_ | intro E)
        apply n_exit
        apply b_exit
        repeat (first | refine stN ?_ | intro E)
        exact n_again (i + 1, br2) (show i + 1 ≤ D by omega) ⟨by omega, hL2⟩ (show D - (i + 1) < D - i by omega) ⟨rfl, by rw [Nat.add_mul, Nat.one_mul]; rfl, rfl, trivial⟩ ⟨⟨rfl, rfl⟩, trivial⟩
    · obtain rfl : i = D := by omega
      rw [List.take_of_length_le (by omega)]
      repeat (first | refine stN ?_ | intro E)
      apply n_exit
      apply b_exit
      repeat (first | refine stN ?_ | intro E)
      exact q_ret (.inr rfl) rfl rfl rfl rfl hL.canon rfl
theorem s18 {x : BI} (h : Sml x) : Calls0 (evCall FN (k + 5301)) 18 [biV x, biV x] (.bool true) := by
  have c33 : Calls0 (evCall FN (k + 5300)) 33 [biV x] (csl 1 ((encB x).map ofB)) := s33 h
  obtain ⟨b, s, at', st, d, f⟩ := x
  generalize encB ⟨b, s, at', st, d, f⟩ = Y at c33
  dsimp only [biV, biC] at c33 ⊢
  refine q_call0 fn18 fun T H E lv => ?_
  repeat (first | refine stN ?_ | intro E)
  apply p_b2s
  · exact rfl
  · exact csz_b2s Y
  repeat (first | refine stN ?_ | intro E)
  apply p_b2s
  · exact rfl
  · exact csz_b2s Y
  have e : evBin .eql (.str Y) (.str Y) = some (.bool true) := by simp [evBin, evStr]
  repeat (first | refine stN ?_ | intro E)
  exact q_ret (.inr rfl) rfl rfl rfl rfl rfl rfl
end Go.Proofs.Ythplidagfcdibaa

/- A notification, and the completion of a request, keep a device right, and touch no other byte. Condition: the memory is valid, the device is right. -/
namespace Go.Proofs.Ythplidagfcdibaa
open Go.Abs
variable {k : Nat}
end Go.Proofs.Ythplidagfcdibaa
