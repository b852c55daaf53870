/- Part 14 of the texts on which proofs about this seat rest: each says what it proves at its own head. No condition. -/
import Derived.Test.YthplidagfcdibaaM13
set_option linter.unusedVariables false
set_option linter.unusedSimpArgs false
/- Whether there is little of a device; words of a memory. Condition: the numbers are such as their types hold. -/
namespace Go.Proofs.Ythplidagfcdibaa
open Go.Abs
variable {k : Nat}
/-- There is little of a device. -/
def FewP (bs : List UInt8) (x : BI) : Prop := (∀ r ∈ x.f.take 11, r.l.length ≤ 10) ∧ (bs.map ofB).length / 128 ≤ 16 ∧ secs x ≤ 16 ∧ x.f.length ≤ 10
noncomputable def fewB (bs : List UInt8) (x : BI) : Bool := @decide (FewP bs x) (Classical.propDecidable _)
theorem fewB_t {bs : List UInt8} {x : BI} (h : FewP bs x) : fewB bs x = true := @decide_eq_true _ (Classical.propDecidable _) h
theorem fewB_f {bs : List UInt8} {x : BI} (h : ¬ FewP bs x) : fewB bs x = false := @decide_eq_false _ (Classical.propDecidable _) h
theorem fewB_iff {bs : List UInt8} {x : BI} : fewB bs x = true ↔ FewP bs x := ⟨fun h => @of_decide_eq_true _ (Classical.propDecidable _) h, fewB_t⟩
set_option maxRecDepth 100000 in
set_option maxHeartbeats 2000000 in
theorem s9 {bs : List UInt8} {x : BI} : Calls0 (evCall FN (k + 100)) 9 [biV x, memV bs] (.bool (fewB bs x)) := by
  obtain ⟨b, s, at', st, d, f⟩ := x
  have hD : secs ⟨b, s, at', st, d, f⟩ = (d.map ofB).length / 128 := rfl
  have hdv := ris_div f
  change Calls0 _ _ [AV.agg [.int .u32 b, .int .u32 s, .int .i64 at', .int .i64 st, csl 128 (d.map ofB), csl 5 (risV f)], _] _
  refine q_call0 fn9 fun T H E lv => ?_
  repeat (first | refine stN ?_ | intro E)
  refine q_loop (α := Nat) (LInv.mk (fun i => i ≤ f.length ∧ i ≤ 11 ∧ (∀ r ∈ f.take i, r.l.length ≤ 10)) (fun i => 11 - i)
    (fun i => [(5, .int .i64 (i : Int)), (4, .bool false), (3, .ref 1 0), (2, .ref 0 0)])
    (fun i => [(1, [csl 128 (bs.map ofB)]), (0, [.int .u32 b, .int .u32 s, .int .i64 at', .int .i64 st, csl 128 (d.map ofB), csl 5 (risV f)])]))
    (fun _ _ c => c = 4) 0 ⟨Nat.zero_le _, by omega, by simp⟩ rfl (show 11 - 0 < k + 99 by omega) ⟨rfl, rfl, rfl, rfl, trivial⟩ ⟨rfl, rfl, trivial⟩ ?_
  rintro i lv c T H E hP rfl hμ
  have hP : i ≤ f.length ∧ i ≤ 11 ∧ (∀ r ∈ f.take i, r.l.length ≤ 10) := hP
  obtain ⟨hP, hP2, hok⟩ := hP
  clear hμ
  dsimp only
  by_cases hi : i < f.length ∧ i < 11
  · obtain ⟨hi, hi2⟩ := hi
    obtain ⟨r, hp⟩ : ∃ p, f[i]? = some p := ⟨_, List.getElem?_eq_getElem hi⟩
    have gi : inB (i : Int) ((risV f).length / 5) = some i := inB_n (by rw [ris_div]; omega)
    have hrd : rd (risV f) (i * 5 + 4) 1 false = some (csl 4 (pisV r.l)) := fm_rd riV_length (by omega) hp rfl rfl
    have hdp := pis_div r.l
    have hmem : r ∈ f.take 11 := List.mem_of_getElem? (i := i) (by rw [List.getElem?_take_of_lt hi2]; exact hp)
    by_cases hq : r.l.length ≤ 10
    · repeat (first | refine stN ?_ | intro E)
      refine n_again (i + 1) ⟨by omega, by omega, ?_⟩ rfl (show 11 - (i + 1) < 11 - i by omega) ⟨rfl, rfl, rfl, rfl, trivial⟩ ⟨⟨rfl, rfl⟩, ⟨rfl, rfl⟩, trivial⟩
      intro p' hp'
      rw [List.take_add_one, hp] at hp'
      rcases List.mem_append.1 hp' with hh | hh
      · exact hok p' hh
      · simp only [Option.toList_some, List.mem_singleton] at hh; rw [hh]; exact hq
    · rw [fewB_f fun hF => hq (hF.1 r hmem)]
      repeat (first | refine stN ?_ | intro E)
      apply n_ret
      repeat (first | refine stN ?_ | intro E)
      exact q_ret (.inr rfl) rfl rfl rfl rfl rfl rfl
  · have hall : ∀ r ∈ f.take 11, r.l.length ≤ 10 := by
      intro r hr
      rcases Nat.lt_or_ge i 11 with h1 | h1
      · have : i = f.length := by omega
        subst this
        rw [List.take_length] at hok
        exact hok r (List.mem_of_mem_take hr)
      · have : i = 11 := by omega
        subst this
        exact hok r hr
    by_cases hF : (bs.map ofB).length / 128 ≤ 16 ∧ (d.map ofB).length / 128 ≤ 16 ∧ f.length ≤ 10
    · rw [fewB_t ⟨hall, hF.1, by rw [hD]; exact hF.2.1, hF.2.2⟩]
      have hi : i = f.length := by omega
      subst hi
      repeat (first | refine stN ?_ | intro E)
      apply n_exit
      apply b_exit
      repeat (first | refine stN ?_ | intro E)
      exact q_ret (.inr rfl) rfl rfl rfl rfl rfl rfl
    · rw [fewB_f fun h => hF ⟨h.2.1, by rw [← hD]; exact h.2.2.1, h.2.2.2⟩]
      obtain hx | hx | hx : 16 < (bs.map ofB).length / 128 ∨ ((bs.map ofB).length / 128 ≤ 16 ∧ 16 < (d.map ofB).length / 128) ∨ ((bs.map ofB).length / 128 ≤ 16 ∧ (d.map ofB).length / 128 ≤ 16 ∧ 10 < f.length) := by omega
      all_goals obtain hi1 | hi1 : i = f.length ∨ (i < f.length ∧ i = 11) := by omega
      all_goals
        repeat (first | refine stN ?_ | intro E)
        apply n_exit
        apply b_exit
        repeat (first | refine stN ?_ | intro E)
        exact q_ret (.inr rfl) rfl rfl rfl rfl rfl rfl
/-- The four bytes of a word, taken out of a memory. -/
theorem four_bytes {bs : List UInt8} {a : Nat} (h : a + 4 ≤ bs.length) : (bs.drop a).take 4 = [bs.getD a 0, bs.getD (a + 1) 0, bs.getD (a + 2) 0, bs.getD (a + 3) 0] := by
  apply List.ext_getElem?
  intro t
  match t with
  | 0 => simp [List.getD_eq_getElem?_getD, List.getElem?_eq_getElem (show a < bs.length by omega)]
  | 1 => simp [List.getD_eq_getElem?_getD, List.getElem?_eq_getElem (show a + 1 < bs.length by omega)]
  | 2 => simp [List.getD_eq_getElem?_getD, List.getElem?_eq_getElem (show a + 2 < bs.length by omega)]
  | 3 => simp [List.getD_eq_getElem?_getD, List.getElem?_eq_getElem (show a + 3 < bs.length by omega)]
  | t + 4 => rw [List.getElem?_take_eq_none (by omega)]; simp
theorem s29 {bs : List UInt8} {a n : Nat} (h : VM bs) (hb : a + n ≤ bs.length) : Calls0 (evCall FN (k + 9000)) 29 [memV bs, .int .i64 a, .int .i64 n] (.tup [.str ((bs.drop a).take n), .bool true]) := s29x fn55 fn29 h hb
set_option maxRecDepth 100000 in
theorem s97 {bs : List UInt8} {a : Nat} (h : VM bs) (hb : a + 4 ≤ bs.length) : Calls0 (evCall FN (k + 9001)) 97 [memV bs, .int .i64 a] (.int .u32 (word bs a)) := by
  have hl := h.le
  have c29 : Calls0 (evCall FN (k + 9000)) 29 [memV bs, .int .i64 a, .int .i64 ((4 : Nat) : Int)] (.tup [.str ((bs.drop a).take 4), .bool true]) := s29 h hb
  rw [four_bytes hb] at c29
  have b0 := bt_lt bs a; have b1 := bt_lt bs (a + 1); have b2 := bt_lt bs (a + 2); have b3 := bt_lt bs (a + 3)
  have w0 : IntKind.u32.wrap (((bs.getD a 0).toNat : Nat) : Int) = (bt bs a : Nat) := w32 (by omega) (show ((bt bs a : Nat) : Int) < _ by omega)
  have w1 : IntKind.u32.wrap (((bs.getD (a + 1) 0).toNat : Nat) : Int) = (bt bs (a + 1) : Nat) := w32 (by omega) (show ((bt bs (a + 1) : Nat) : Int) < _ by omega)
  have w2 : IntKind.u32.wrap (((bs.getD (a + 2) 0).toNat : Nat) : Int) = (bt bs (a + 2) : Nat) := w32 (by omega) (show ((bt bs (a + 2) : Nat) : Int) < _ by omega)
  have w3 : IntKind.u32.wrap (((bs.getD (a + 3) 0).toNat : Nat) : Int) = (bt bs (a + 3) : Nat) := w32 (by omega) (show ((bt bs (a + 3) : Nat) : Int) < _ by omega)
  have h1 : evBin .shl (.int .u32 (bt bs (a + 1) : Nat)) (.int .u64 8) = some (.int .u32 ((bt bs (a + 1) * 2 ^ 8 : Nat) : Int)) := shl_u32 (s := 8) (by omega) (by omega) rfl
  have h2 : evBin .shl (.int .u32 (bt bs (a + 2) : Nat)) (.int .u64 16) = some (.int .u32 ((bt bs (a + 2) * 2 ^ 16 : Nat) : Int)) := shl_u32 (s := 16) (by omega) (by omega) rfl
  have h3 : evBin .shl (.int .u32 (bt bs (a + 3) : Nat)) (.int .u64 24) = some (.int .u32 ((bt bs (a + 3) * 2 ^ 24 : Nat) : Int)) := shl_u32 (s := 24) (by omega) (by omega) rfl
  have o1 : evBin .or (.int .u32 (bt bs a : Nat)) (.int .u32 ((bt bs (a + 1) * 2 ^ 8 : Nat) : Int)) = some (.int .u32 ((bt bs a + bt bs (a + 1) * 2 ^ 8 : Nat) : Int)) := or_u32 (by omega) (by omega) rfl
  have o2 : evBin .or (.int .u32 ((bt bs a + bt bs (a + 1) * 2 ^ 8 : Nat) : Int)) (.int .u32 ((bt bs (a + 2) * 2 ^ 16 : Nat) : Int)) = some (.int .u32 ((bt bs a + bt bs (a + 1) * 2 ^ 8 + bt bs (a + 2) * 2 ^ 16 : Nat) : Int)) := or_u32 (by omega) (by omega) rfl
  have o3 : evBin .or (.int .u32 ((bt bs a + bt bs (a + 1) * 2 ^ 8 + bt bs (a + 2) * 2 ^ 16 : Nat) : Int)) (.int .u32 ((bt bs (a + 3) * 2 ^ 24 : Nat) : Int)) = some (.int .u32 (word bs a)) := or_u32 (by omega) (by omega) rfl
  refine q_call0 fn97 fun T H E lv => ?_
  repeat (first | refine stN ?_ | intro E)
  exact q_ret (.inr rfl) rfl rfl rfl rfl rfl rfl
theorem s81n {bs : List UInt8} {a n : Nat} (h : VM bs) (hb : a + n ≤ bs.length) : Calls0 (evCall FN (k + 9000)) 81 [memV bs, .int .i64 a, .int .i64 n] (.agg [.str ((bs.drop a).take n), .bool true]) := s81 h hb
set_option maxRecDepth 100000 in
theorem s104 {bs : List UInt8} {a : Nat} (h : VM bs) (hb : a + 4 ≤ bs.length) : Calls0 (evCall FN (k + 9001)) 104 [memV bs, .int .i64 a] (.int .i64 (word bs a)) := by
  have hl := h.le
  have c81 : Calls0 (evCall FN (k + 9000)) 81 [memV bs, .int .i64 a, .int .i64 ((4 : Nat) : Int)] (.agg [.str ((bs.drop a).take 4), .bool true]) := s81n h hb
  rw [four_bytes hb] at c81
  have b0 := bt_lt bs a; have b1 := bt_lt bs (a + 1); have b2 := bt_lt bs (a + 2); have b3 := bt_lt bs (a + 3)
  have w0 : IntKind.i64.wrap (((bs.getD a 0).toNat : Nat) : Int) = (bt bs a : Nat) := w64 (by omega) (show ((bt bs a : Nat) : Int) < _ by omega)
  have w1 : IntKind.i64.wrap (((bs.getD (a + 1) 0).toNat : Nat) : Int) = (bt bs (a + 1) : Nat) := w64 (by omega) (show ((bt bs (a + 1) : Nat) : Int) < _ by omega)
  have w2 : IntKind.i64.wrap (((bs.getD (a + 2) 0).toNat : Nat) : Int) = (bt bs (a + 2) : Nat) := w64 (by omega) (show ((bt bs (a + 2) : Nat) : Int) < _ by omega)
  have w3 : IntKind.i64.wrap (((bs.getD (a + 3) 0).toNat : Nat) : Int) = (bt bs (a + 3) : Nat) := w64 (by omega) (show ((bt bs (a + 3) : Nat) : Int) < _ by omega)
  have e : 256 * bt bs (a + 1) + bt bs a + 65536 * bt bs (a + 2) + 16777216 * bt bs (a + 3) = word bs a := by unfold word; omega
  refine q_call0 fn104 fun T H E lv => ?_
  repeat (first | refine stN ?_ | intro E)
  have e : bt bs a + 256 * bt bs (a + 1) + 65536 * bt bs (a + 2) + 16777216 * bt bs (a + 3) = word bs a := by unfold word; omega
  rw [e]
  exact q_ret (.inr rfl) rfl rfl rfl rfl rfl rfl
end Go.Proofs.Ythplidagfcdibaa

/- A request out of its parts, and a refusal: by the reference. Condition: the memory is valid, the ring is there, the parts lie in memory. -/
namespace Go.Proofs.Ythplidagfcdibaa
open Go.Abs
variable {k : Nat}
/-- The cells of a device and what it has done; the same under way, in the program. -/
abbrev gotC (b s : Nat) (at' st : Int) (d : List UInt8) (f : List RI) (m : List UInt8) (v : Nat) (r ok : Bool) : List AV :=
  [.int .u32 b, .int .u32 s, .int .i64 at', .int .i64 st, csl 128 (d.map ofB), csl 5 (risV f), csl 128 (m.map ofB), .int .u32 v, .sl 1 0 [], .bool r, .bool ok]
/-- The error of a request, and the request. -/
def reqE (M : List UInt8) (D : Nat) : List Pt → Nat
  | [] => 161
  | p :: t => if p.n ≠ 8 ∨ p.w = true then 161 else if D ≤ word M p.a ∨ (word M (p.a + 4) ≠ 1 ∧ word M (p.a + 4) ≠ 2) then 161 else fitI (t.map Pt.toI) (decide (word M (p.a + 4) = 2))
def reqR (b s : Nat) (M : List UInt8) (l : List Pt) : RI := ⟨b, s, word M (l.headD ⟨0, 0, 0, false⟩).a, decide (word M ((l.headD ⟨0, 0, 0, false⟩).a + 4) = 2), l.map Pt.toI⟩
theorem fitI_cases (l : List PI) (w : Bool) : fitI l w = 0 ∨ fitI l w = 161 ∨ fitI l w = 164 := by
  unfold fitI; split
  · exact .inr (.inl rfl)
  · split
    · exact .inr (.inr rfl)
    · exact .inl rfl
theorem reqE_cases (M : List UInt8) (D : Nat) (l : List Pt) : reqE M D l = 0 ∨ reqE M D l = 161 ∨ reqE M D l = 164 := by
  unfold reqE; split
  · exact .inr (.inl rfl)
  · split
    · exact .inr (.inl rfl)
    · split
      · exact .inr (.inl rfl)
      · exact fitI_cases _ _
set_option maxRecDepth 100000 in
theorem s103 {b s i e v : Nat} {at' st : Int} {d m : List UInt8} {f : List RI} {r ok : Bool} (h : RV m b s) (hi : i < s) (he : 160 ≤ e ∧ e ≤ 165) :
    Calls0 (evCall FN (k + 10400)) 103 [.agg (gotC b s at' st d f m v r ok), .int .i64 i, .int .i64 e] (.agg (gotC b s at' e d f (mark1 b (4 + (e - 160)) m i) v true ok)) := by
  have c114 : Calls0 (evCall FN (k + 10399)) 114 [memV m, ringV b s, .int .i64 i, .int .i64 e] (memV (mark1 b (4 + (e - 160)) m i)) := (s114 (k := 0) h hi he).fuel (by omega)
  refine q_call0 fn103 fun T H E lv => ?_
  repeat (first | refine stN ?_ | intro E)
  exact q_ret (.inr rfl) rfl rfl rfl rfl rfl rfl
/-- What is known of parts that were taken. -/
structure PtsOK (M : List UInt8) (p : Pt) (t : List Pt) : Prop where
  len : t.length ≤ 4
  one : ∀ q ∈ p :: t, 1 ≤ q.n ∧ q.n ≤ 512 ∧ q.a + q.n ≤ M.length
theorem PtsOK.okN {M : List UInt8} {p : Pt} {t : List Pt} (h : PtsOK M p t) : okN (t.map Pt.toI) := by
  intro x hx
  obtain ⟨q, hq, rfl⟩ := List.mem_map.1 hx
  have := h.one q (List.mem_cons_of_mem _ hq)
  simp only [Pt.toI]; omega
theorem tail_pts (p : Pt) (t : List Pt) : ((ptsV (p :: t)).take ((ptsV (p :: t)).length / 4 * 4)).drop (1 * 4) = pisV (t.map Pt.toI) := by
  have e : (ptsV (p :: t)).length / 4 * 4 = (ptsV (p :: t)).length := by rw [pts_length]; omega
  rw [e, List.take_length, pis_of]; rfl
theorem src_csl (H : Hp) (sz : Nat) (xs : List AV) : src H sz (csl sz xs) = some xs := by
  cases xs <;> simp [src, csl, csz]
theorem ris_length (f : List RI) : (risV f).length = f.length * 5 := fm_length riV_length f
theorem ris_ne {f : List RI} (h : f ≠ []) : risV f ≠ [] := by
  intro e
  have := ris_length f
  rw [e] at this
  have h2 := List.length_pos_iff.2 h
  simp at this; omega
theorem flight_snoc (f : List RI) (r : RI) : risV f ++ riV r = risV (f ++ [r]) := by simp [risV]
set_option maxRecDepth 100000 in
set_option maxHeartbeats 2000000 in
theorem s80 {b s i v : Nat} {at' st : Int} {d m : List UInt8} {f : List RI} {r ok : Bool} {p : Pt} {t : List Pt} (h : RV m b s) (hi : i < s) (hp : PtsOK m p t) (hd : (d.map ofB).length / 128 ≤ 64) (hf : f.length ≤ 8) :
    Calls0 (evCall FN (k + 10500)) 80 [.agg (gotC b s at' st d f m v r ok), .int .i64 i, csl 4 (ptsV (p :: t))]
      (if reqE m ((d.map ofB).length / 128) (p :: t) = 0 then .agg (gotC b s at' st d (f ++ [reqR b s m (p :: t)]) m v r ok) else .agg (gotC b s at' (reqE m ((d.map ofB).length / 128) (p :: t)) d f (mark1 b (4 + (reqE m ((d.map ofB).length / 128) (p :: t) - 160)) m i) v true ok)) := by
  have hl := h.m.le
  obtain ⟨p1, p2, p3⟩ := hp.one p List.mem_cons_self
  have gi : inB 0 ((ptsV (p :: t)).length / 4) = some 0 := inB_n (a := 0) (by rw [pts_div]; simp)
  have hab : asB 1 ((ptsV (p :: t)).length / 4) = some 1 := asB_n (a := 1) (by rw [pts_div]; simp)
  have hp0 : (p :: t)[0]? = some p := rfl
  have hr1 : rd (ptsV (p :: t)) (0 * 4 + 1) 1 false = some (.int .i64 p.a) := rd_pt1 hp0
  have hr2 : rd (ptsV (p :: t)) (0 * 4 + 2) 1 false = some (.int .i64 p.n) := rd_pt2 hp0
  have hr3 : rd (ptsV (p :: t)) (0 * 4 + 3) 1 false = some (.bool p.w) := rd_pt3 hp0
  have c103 : ∀ e, 160 ≤ e ∧ e ≤ 165 → Calls0 (evCall FN (k + 10499)) 103 [.agg (gotC b s at' st d f m v r ok), .int .i64 i, .int .i64 (e : Nat)] (.agg (gotC b s at' e d f (mark1 b (4 + (e - 160)) m i) v true ok)) := fun e he => (s103 (k := 0) h hi he).fuel (by omega)
  have c161 : Calls0 (evCall FN (k + 10499)) 103 [.agg (gotC b s at' st d f m v r ok), .int .i64 i, .int .i64 161] (.agg (gotC b s at' ((161 : Nat) : Int) d f (mark1 b (4 + (161 - 160)) m i) v true ok)) := c103 161 (by omega)
  refine q_call0 fn80 fun T H E lv => ?_
  by_cases hh : p.n ≠ 8 ∨ p.w = true
  · have e : reqE m ((d.map ofB).length / 128) (p :: t) = 161 := if_pos hh
    rw [e, if_neg (by omega)]
    by_cases hn : p.n = 8
    · have hw := hh.resolve_left fun h => h hn
      rw [hw] at hr3
      repeat (first | refine stN ?_ | intro E)
      exact q_ret (.inr rfl) rfl rfl rfl rfl rfl rfl
    · repeat (first | refine stN ?_ | intro E)
      exact q_ret (.inr rfl) rfl rfl rfl rfl rfl rfl
  · have e1 : reqE m ((d.map ofB).length / 128) (p :: t) = _ := if_neg hh
    have hn : p.n = 8 := by omega
    have hw : p.w = false := by cases hq : p.w <;> simp_all
    rw [hw] at hr3
    have c104a : Calls0 (evCall FN (k + 10499)) 104 [memV m, .int .i64 p.a] (.int .i64 (word m p.a)) := (s104 (k := 0) h.m (by omega)).fuel (by omega)
    have c104b : Calls0 (evCall FN (k + 10499)) 104 [memV m, .int .i64 ((p.a + 4 : Nat) : Int)] (.int .i64 (word m (p.a + 4))) := (s104 (k := 0) h.m (by omega)).fuel (by omega)
    have w0 := word_lt m p.a
    have w4 := word_lt m (p.a + 4)
    by_cases hc : (d.map ofB).length / 128 ≤ word m p.a ∨ (word m (p.a + 4) ≠ 1 ∧ word m (p.a + 4) ≠ 2)
    · rw [if_pos hc] at e1
      rw [e1, if_neg (by omega)]
      obtain hx | hx : (d.map ofB).length / 128 ≤ word m p.a ∨ (word m p.a < (d.map ofB).length / 128 ∧ word m (p.a + 4) ≠ 1 ∧ word m (p.a + 4) ≠ 2) := by omega
      all_goals
        repeat (first | refine stN ?_ | intro E)
        exact q_ret (.inr rfl) rfl rfl rfl rfl rfl rfl
    · rw [if_neg hc] at e1
      have hfl : ∀ w, fitI (t.map Pt.toI) w = 0 ∨ fitI (t.map Pt.toI) w = 161 ∨ fitI (t.map Pt.toI) w = 164 := fun w => fitI_cases _ w
      have c68 : ∀ w, Calls0 (evCall FN (k + 10499)) 68 [csl 4 (pisV (t.map Pt.toI)), .bool w] (.int .i64 (fitI (t.map Pt.toI) w)) := fun w => (s68 (k := 0) (by have := hp.len; simp; omega) hp.okN).fuel (by omega)
      have hlt : word m p.a < (d.map ofB).length / 128 := by omega
      obtain hx | hx : word m (p.a + 4) = 1 ∨ word m (p.a + 4) = 2 := by omega
      case' inl => have ed : decide (word m (p.a + 4) = 2) = false := decide_eq_false (by omega)
      case' inr => have ed : decide (word m (p.a + 4) = 2) = true := decide_eq_true (by omega)
      all_goals
        clear hc hh
        have eR : riV (reqR b s m (p :: t)) = [.int .u32 b, .int .u32 s, .int .i64 (word m p.a), .bool (decide (word m (p.a + 4) = 2)), csl 4 (ptsV (p :: t))] := by
          rw [← pis_of]; rfl
        rw [ed] at eR e1
        have c68 := c68 (decide (word m (p.a + 4) = 2))
        have hfl := hfl (decide (word m (p.a + 4) = 2))
        rw [ed] at c68 hfl
        obtain ⟨ft, hft⟩ : ∃ ft, ft = reqE m ((d.map ofB).length / 128) (p :: t) := ⟨_, rfl⟩
        rw [← hft]
        rw [e1] at hft
        rw [← hft] at c68 hfl
        clear e1 hft
        have eF : risV (f ++ [reqR b s m (p :: t)]) = risV f ++ riV (reqR b s m (p :: t)) := (flight_snoc f _).symm
        rw [eR] at eF
        generalize reqR b s m (p :: t) = rq at eF eR ⊢
        generalize word m p.a = sec at hlt w0 c104a eR eF
        generalize word m (p.a + 4) = cmd at w4 c104b hx ed
        by_cases h0 : ft = 0
        · subst h0
          clear hfl
          rw [if_pos rfl]
          repeat (first | refine stN ?_ | intro E)
          apply p_slL_lo
          · exact rfl
          · exact csz_ok _ _
          · exact rfl
          · exact hab
          rw [tail_pts]
          repeat (first | refine stN ?_ | intro E)
          unfold gotC
          rw [eF]
          have hlf := ris_length f
          by_cases hf0 : f = []
          · subst hf0
            apply p_app_nil
            · exact rfl
            · exact .inl rfl
            · exact rfl
            · exact fun H => src_csl _ _ _
            · exact ⟨by omega, by omega⟩
            · exact Nat.zero_le _
            · exact .inr rfl
            repeat (first | refine stN ?_ | intro E)
            apply p_app
            · exact rfl
            · exact .inl rfl
            · exact rfl
            · exact fun H => src_sl _ _ _ _
            · exact ⟨by omega, by omega⟩
            · have : room = 17592186044416 := by decide +kernel
              rw [this]; simp only [List.length_cons, List.length_nil]; omega
            · exact .inr (.inl rfl)
            · exact List.cons_ne_nil _ _
            intro lv' l1 l2
            repeat (first | refine stN ?_ | intro E)
            exact q_ret (.inr rfl) rfl rfl rfl rfl rfl rfl
          · apply p_app
            · exact rfl
            · exact .inl rfl
            · exact rfl
            · exact fun H => src_csl _ _ _
            · exact ⟨by omega, by omega⟩
            · have : room = 17592186044416 := by decide +kernel
              rw [this, hlf]; simp only [List.length_nil]; omega
            · exact .inr (.inl rfl)
            · exact ris_ne hf0
            intro lv' l1 l2
            rw [List.nil_append]
            repeat (first | refine stN ?_ | intro E)
            apply p_app
            · exact rfl
            · exact .inl rfl
            · exact rfl
            · exact fun H => src_sl _ _ _ _
            · exact ⟨by omega, by omega⟩
            · have : room = 17592186044416 := by decide +kernel
              rw [this, hlf]; simp only [List.length_cons, List.length_nil]; omega
            · exact .inr (.inr ⟨by omega, by omega, l1⟩)
            · exact List.cons_ne_nil _ _
            intro lv'' l3 l4
            repeat (first | refine stN ?_ | intro E)
            exact q_ret (.inr rfl) rfl rfl rfl rfl rfl rfl
        · rw [if_neg h0]
          have hfe : 160 ≤ ft ∧ ft ≤ 165 := by omega
          have c103 := c103 ft hfe
          clear hfl
          repeat (first | refine stN ?_ | intro E)
          apply p_slL_lo
          · exact rfl
          · exact csz_ok _ _
          · exact rfl
          · exact hab
          rw [tail_pts]
          repeat (first | refine stN ?_ | intro E)
          exact q_ret (.inr rfl) rfl rfl rfl rfl rfl rfl
end Go.Proofs.Ythplidagfcdibaa

/- A refusal and a request, by the program: methods that write and read the object of the work under way. Condition: the memory is valid, the ring is there, the parts lie in memory. -/
namespace Go.Proofs.Ythplidagfcdibaa
open Go.Abs
variable {k : Nat}
/-- The cells of the work under way. -/
abbrev wrkC (b s : Nat) (at' st : Int) (d : List UInt8) (fl : AV) (m : List UInt8) (v : Nat) (r ok : Bool) : List AV :=
  [csl 128 (m.map ofB), .int .u32 v, .sl 0 0 [], .bool r, .bool ok, .int .u32 b, .int .u32 s, .int .i64 at', .int .i64 st, csl 128 (d.map ofB), fl]
theorem writes_at {F : CallF} {f : FuncId} {args : List AV} {os : List (Nat × List AV)} {H : Hp} {n : Nat} {lv : Nat → Bool} {c : Nat} {E : Nat → Option TypeId} {R : AV} {id i : Nat} {v cells : List AV} (ho : lkO os i = some cells) (h : Writes F f args [(i, cells)] (objs os H) n lv c E R id v) : Writes F f args os H n lv c E R id v := by
  have e : objs [(i, cells)] (objs os H) = objs os H := by
    funext j
    simp only [objs, upd]
    split
    · next hj => rw [hj, lkO_objs ho]
    · rfl
  obtain ⟨h⟩ := h
  rw [e] at h
  exact ⟨h⟩
set_option maxRecDepth 100000 in
set_option maxHeartbeats 2000000 in
theorem s74 {b s i e v c : Nat} {at' st : Int} {d m : List UInt8} {fl : AV} {r ok : Bool} {H : Hp} {E : Nat → Option TypeId} {lv : Nat → Bool} (hu : fl.under 9 = true) (h : RV m b s) (hi : i < s) (he : 160 ≤ e ∧ e ≤ 165) :
    Writes (evCall FN (k + 10500)) 74 [.ref 5 0, .int .i64 i, .int .i64 e] [(5, wrkC b s at' st d fl m v r ok)] H 9 lv c E (.tup []) 5 (wrkC b s at' e d fl (mark1 b (4 + (e - 160)) m i) v true ok) := by
  have c96 : Calls0 (evCall FN (k + 10499)) 96 [memV m, ringV b s, .int .i64 i, .int .i64 e] (memV (mark1 b (4 + (e - 160)) m i)) := (s96 (k := 0) h hi he).fuel (by omega)
  refine q_writes (by omega) ?_ fn74 fun T => ?_
  · simp only [underL, AV.under, csl, hu, Bool.and_self]
  repeat (first | refine stN ?_ | intro E)
  exact q_rets (.inl rfl) rfl rfl rfl rfl rfl ⟨rfl, _, rfl, lkO_objs rfl, (((Same.refl _ _ _).upd (.inl rfl)).upd (.inl rfl)).upd (.inl rfl)⟩
/-- The request that is handed out: none, if it is refused early. -/
def early (M : List UInt8) (D : Nat) (p : Pt) : Prop := (p.n ≠ 8 ∨ p.w = true) ∨ D ≤ word M p.a ∨ (word M (p.a + 4) ≠ 1 ∧ word M (p.a + 4) ≠ 2)
instance (M : List UInt8) (D : Nat) (p : Pt) : Decidable (early M D p) := by unfold early; exact inferInstance
def reqV (M : List UInt8) (D b s : Nat) (p : Pt) (t : List Pt) : List AV := if early M D p then [.int .u32 0, .int .u32 0, .int .i64 0, .bool false, .sl 0 0 []] else riV (reqR b s M (p :: t))
theorem reqE_early {M : List UInt8} {D : Nat} {p : Pt} {t : List Pt} (h : early M D p) : reqE M D (p :: t) = 161 := by
  by_cases h1 : p.n ≠ 8 ∨ p.w = true
  · exact if_pos h1
  · exact (if_neg h1).trans (if_pos (h.resolve_left h1))
theorem reqE_late {M : List UInt8} {D : Nat} {p : Pt} {t : List Pt} (h : ¬ early M D p) : reqE M D (p :: t) = fitI (t.map Pt.toI) (decide (word M (p.a + 4) = 2)) := by
  exact (if_neg fun h1 => h (.inl h1)).trans (if_neg fun h1 => h (.inr h1))
set_option maxRecDepth 100000 in
set_option maxHeartbeats 2000000 in
theorem s73 {b s v c : Nat} {at' st : Int} {d m : List UInt8} {fl : AV} {r ok : Bool} {p : Pt} {t : List Pt} {H : Hp} {E : Nat → Option TypeId} {lv : Nat → Bool} (hu : fl.under 8 = true) (h : RV m b s) (hp : PtsOK m p t) (hd : (d.map ofB).length / 128 ≤ 64) :
    Writes (evCall FN (k + 10500)) 73 [.ref 5 0, csl 4 (ptsV (p :: t))] [(5, wrkC b s at' st d fl m v r ok)] H 8 lv c E (.tup [.agg (reqV m ((d.map ofB).length / 128) b s p t), .int .i64 (reqE m ((d.map ofB).length / 128) (p :: t))]) 5 (wrkC b s at' st d fl m v r ok) := by
  have hl := h.m.le
  obtain ⟨p1, p2, p3⟩ := hp.one p List.mem_cons_self
  have gi : inB 0 ((ptsV (p :: t)).length / 4) = some 0 := inB_n (a := 0) (by rw [pts_div]; simp)
  have hab : asB 1 ((ptsV (p :: t)).length / 4) = some 1 := asB_n (a := 1) (by rw [pts_div]; simp)
  have hp0 : (p :: t)[0]? = some p := rfl
  have hr : rd (ptsV (p :: t)) (0 * 4) 4 true = some (.agg [.int .i64 p.i, .int .i64 p.a, .int .i64 p.n, .bool p.w]) := rd_pt hp0
  have hwd : IntKind.u32.wrap (((d.map ofB).length / 128 : Nat) : Int) = ((d.map ofB).length / 128 : Nat) := w32 (by omega) (by omega)
  refine q_writes (by omega) ?_ fn73 fun T => ?_
  · simp only [underL, AV.under, csl, hu, Bool.and_self]
  by_cases hh : p.n ≠ 8 ∨ p.w = true
  · have hea : early m ((d.map ofB).length / 128) p := .inl hh
    rw [reqE_early hea, show reqV m ((d.map ofB).length / 128) b s p t = _ from if_pos hea]
    by_cases hn : p.n = 8
    · have hw := hh.resolve_left fun h => h hn
      rw [hw] at hr
      repeat (first | refine stN ?_ | intro E)
      exact q_rets (.inr rfl) rfl rfl rfl rfl rfl ⟨rfl, _, rfl, lkO_objs rfl, ((((Same.refl _ _ _).upd (.inr (by omega))).upd (.inr (by omega))).upd (.inr (by omega))).upd (.inr (by omega))⟩
    · repeat (first | refine stN ?_ | intro E)
      exact q_rets (.inr rfl) rfl rfl rfl rfl rfl ⟨rfl, _, rfl, lkO_objs rfl, ((((Same.refl _ _ _).upd (.inr (by omega))).upd (.inr (by omega))).upd (.inr (by omega))).upd (.inr (by omega))⟩
  · have hn : p.n = 8 := by omega
    have hw : p.w = false := by cases hq : p.w <;> simp_all
    rw [hw] at hr
    have c97a : Calls0 (evCall FN (k + 10499)) 97 [memV m, .int .i64 p.a] (.int .u32 (word m p.a)) := (s97 (k := 0) h.m (by omega)).fuel (by omega)
    have c97b : Calls0 (evCall FN (k + 10499)) 97 [memV m, .int .i64 ((p.a + 4 : Nat) : Int)] (.int .u32 (word m (p.a + 4))) := (s97 (k := 0) h.m (by omega)).fuel (by omega)
    have w0 := word_lt m p.a
    have w4 := word_lt m (p.a + 4)
    by_cases hc : (d.map ofB).length / 128 ≤ word m p.a ∨ (word m (p.a + 4) ≠ 1 ∧ word m (p.a + 4) ≠ 2)
    · have hea : early m ((d.map ofB).length / 128) p := .inr hc
      rw [reqE_early hea, show reqV m ((d.map ofB).length / 128) b s p t = _ from if_pos hea]
      have hx : (d.map ofB).length / 128 ≤ word m p.a ∨ (word m p.a < (d.map ofB).length / 128 ∧ word m (p.a + 4) ≠ 1 ∧ word m (p.a + 4) ≠ 2) := by omega
      clear hc hh hea
      generalize word m p.a = sec at w0 c97a hx
      generalize word m (p.a + 4) = cmd at w4 c97b hx
      obtain hx | hx := hx
      all_goals
        repeat (first | refine stN ?_ | intro E)
        exact q_rets (.inr rfl) rfl rfl rfl rfl rfl ⟨rfl, _, rfl, lkO_objs rfl, ((((Same.refl _ _ _).upd (.inr (by omega))).upd (.inr (by omega))).upd (.inr (by omega))).upd (.inr (by omega))⟩
    · have hne : ¬ early m ((d.map ofB).length / 128) p := fun h => h.elim hh hc
      rw [reqE_late hne, show reqV m ((d.map ofB).length / 128) b s p t = _ from if_neg hne]
      have hlt : word m p.a < (d.map ofB).length / 128 := by omega
      have c70 : ∀ w, Calls0 (evCall FN (k + 10499)) 70 [csl 4 (pisV (t.map Pt.toI)), .bool w] (.int .i64 (fitI (t.map Pt.toI) w)) := fun w => (s70 (k := 0) (by have := hp.len; simp; omega) hp.okN).fuel (by omega)
      have hws : IntKind.i64.wrap (word m p.a : Int) = word m p.a := w64 (by omega) (by omega)
      have eR : riV (reqR b s m (p :: t)) = [.int .u32 b, .int .u32 s, .int .i64 (word m p.a), .bool (decide (word m (p.a + 4) = 2)), csl 4 (ptsV (p :: t))] := by
        rw [← pis_of]; rfl
      rw [eR]
      have hx : word m (p.a + 4) = 1 ∨ word m (p.a + 4) = 2 := by omega
      clear hc hh hne eR
      generalize word m p.a = sec at w0 c97a hlt hws ⊢
      generalize word m (p.a + 4) = cmd at w4 c97b hx ⊢
      have c70a := c70 false
      have c70b := c70 true
      clear c70
      obtain rfl | rfl := hx
      case' inl => rw [show decide ((1 : Nat) = 2) = false from rfl]
      case' inr => rw [show decide ((2 : Nat) = 2) = true from rfl]
      all_goals
        repeat (first | refine stN ?_ | intro E)
        apply p_slL_lo
        · exact rfl
        · exact csz_ok _ _
        · exact rfl
        · exact hab
        rw [tail_pts]
        repeat (first | refine stN ?_ | intro E)
        trace_state
        exact q_rets (.inr rfl) rfl rfl rfl rfl rfl ⟨rfl, _, rfl, lkO_objs rfl, ((((((Same.refl _ _ _).upd (.inr (by omega))).upd (.inr (by omega))).upd (.inr (by omega))).upd (.inr (by omega))).upd (.inr (by omega))).upd (.inr (by omega))⟩
end Go.Proofs.Ythplidagfcdibaa
