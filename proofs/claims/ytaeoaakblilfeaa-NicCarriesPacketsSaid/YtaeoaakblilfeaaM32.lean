/- Part 32 of the texts on which proofs about this seat rest: each says what it proves at its own head. No condition. -/
import Derived.Test.YtaeoaakblilfeaaM31
set_option linter.unusedVariables false
set_option linter.unusedSimpArgs false
/- Whether two doings are the same, by the reference; what a device becomes keeps its memory's size. Conditions: the memory is valid, at most 100 strings went out. -/
namespace Go.Proofs.Ytaeoaakblilfeaa
open Go.Abs
variable {k : Nat}
theorem outV_get {o : List (List UInt8)} {i : Nat} {y : List UInt8} (h : o[i]? = some y) : rd (outV o) (i * 1) 1 false = some (.str y) := by
  simp only [rd, Bool.false_eq_true, if_false, Nat.mul_one, outV, List.getElem?_map, h, Option.map_some, AV.leaf, if_true]
theorem neq_str' (b : List UInt8) : evBin .neq (.str b) (.str b) = some (.bool false) := by simp [evBin, evStr]
set_option maxRecDepth 100000 in
set_option maxHeartbeats 4000000 in
theorem s18 {m : List UInt8} {v : Nat} {o : List (List UInt8)} {r ok : Bool} (h : VM m) (ho : o.length ≤ 100) : Calls0 (evCall FN (k + 300)) 18 [.agg [csl 128 (m.map ofB), .int .u32 v, csl 1 (outV o), .bool r, .bool ok], .agg [csl 128 (m.map ofB), .int .u32 v, csl 1 (outV o), .bool r, .bool ok]] (.bool true) := by
  have hlen : (outV o).length / 1 = o.length := by rw [outV_length, Nat.div_one]
  have c47 : Calls0 (evCall FN (k + 299)) 47 [memV m, memV m] (.bool true) := (s47t (k := 0) h).fuel (by omega)
  refine q_call0 fn18 fun T H E lv => ?_
  cases r <;> cases ok
  all_goals
    repeat (first | refine stN ?_ | intro E)
    refine q_loop (α := Nat) (LInv.mk (fun i => i ≤ o.length) (fun i => o.length - i)
      (fun i => [(5, .int .i64 (i : Int)), (3, .ref 1 0), (2, .ref 0 0)])
      (fun i => [(1, [csl 128 (m.map ofB), .int .u32 v, csl 1 (outV o), .bool _, .bool _]), (0, [csl 128 (m.map ofB), .int .u32 v, csl 1 (outV o), .bool _, .bool _])]))
      (fun _ _ c' => c' = 4) 0 (Nat.zero_le _) rfl (show o.length - 0 < k + 299 by omega) ⟨rfl, rfl, rfl, trivial⟩ ⟨rfl, rfl, trivial⟩ ?_
    rintro i lv c T H E hP rfl hμ
    have hP : i ≤ o.length := hP
    clear hμ
    dsimp only
    rcases Nat.lt_or_ge i o.length with hi | hi
    · obtain ⟨y, hy⟩ : ∃ y, o[i]? = some y := ⟨_, List.getElem?_eq_getElem hi⟩
      have hr := outV_get hy
      have gi : inB (i : Int) ((outV o).length / 1) = some i := inB_n (by omega)
      have hq := neq_str' y
      repeat (first | refine stN ?_ | intro E)
      exact n_again (i + 1) (show i + 1 ≤ o.length by omega) rfl (show o.length - (i + 1) < o.length - i by omega) ⟨rfl, rfl, rfl, trivial⟩ ⟨⟨rfl, rfl⟩, ⟨rfl, rfl⟩, trivial⟩
    · repeat (first | refine stN ?_ | intro E)
      apply n_exit
      apply b_exit
      repeat (first | refine stN ?_ | intro E)
      exact q_ret (.inr rfl) rfl rfl rfl rfl rfl rfl
theorem takeM_len {m : List UInt8} {b s i : Nat} (h : RV m b s) (hi : i < s) : (takeM m b s i).length = m.length := by
  have hle := h.le
  by_cases he : takeE m b s i = 0
  · obtain ⟨h1, h2, _⟩ := take_good hi he
    rw [h2]
    exact markB_len h fun j hj => (h1.one j hj).1
  · obtain ⟨_, h2, _⟩ := take_bad he
    rw [h2]; split
    · exact mark1_length (by omega)
    · rfl
theorem tserve_len {b s i : Nat} {x : TS} (h : RV x.m b s) (hi : i < s) : (tserve b s i x).m.length = x.m.length := by
  have hm := take_rv h hi
  have hle := hm.le
  have hl := takeM_len h hi
  unfold tserve
  split
  · exact hl
  · next he =>
    split
    · exact (mark1_length (by omega)).trans hl
    · exact (markB_len hm fun j hj => ((take_good hi (Decidable.not_not.1 he)).1.one j hj).1).trans hl
theorem trun_ti {b s : Nat} : ∀ (n : Nat) (x : TS), TI b s x → TI b s (trun b s n x) ∧ (trun b s n x).m.length = x.m.length ∧ (trun b s n x).o.length ≤ x.o.length + n
  | 0, x, h => ⟨h, rfl, Nat.le_refl _⟩
  | n + 1, x, h => by
    unfold trun
    split
    · exact ⟨h, rfl, by omega⟩
    · next hf =>
      have hs := h.m.hs
      have hlt := fstR_lt (m := x.m) (b := b) (s := s) (pos := x.a) (by omega) s 0 (by simpa using hf)
      obtain ⟨h1, h2, h3⟩ := trun_ti n _ (tserve_ti h hlt)
      have ho := tserve_o (b := b) (s := s) (i := (fstR x.m b s x.a s 0).1) (x := x)
      exact ⟨h1, h2.trans (tserve_len h.m hlt), by omega⟩
theorem rcv_len {b s a st dr : Nat} {m pk : List UInt8} (h : VM m) (ha : wholeN s → a < s) : (rcv b s a st dr m pk).m.length = m.length := by
  unfold rcv
  split
  · rfl
  split
  · rfl
  next hc =>
  split
  · rfl
  next hf =>
  have hrv := chk_rv h (Decidable.not_not.1 hc)
  have hs := hrv.hs
  have hj := fstR_lt (m := m) (b := b) (s := s) (pos := a) (by omega) s 0 (by simpa using hf)
  generalize (fstR m b s a s 0).1 = j at hj ⊢
  have hm := take_rv hrv hj
  have hl := takeM_len hrv hj
  have hle := hm.le
  unfold rserve
  split
  · exact hl
  next he =>
  split
  · exact (mark1_length (by omega)).trans hl
  · have hpo := pts_ok hrv hj (Decidable.not_not.1 he)
    have hS := scat_rv (pk := pk) hm hpo
    have hjs : ∀ q ∈ takeL m b s j, q < s := fun q hq => ((take_good hj (Decidable.not_not.1 he)).1.one q hq).1
    have hM := hS.markB (w := 3) hjs
    have e1 : (scat (takeM m b s j) (ptsOf m b s j) pk).1.length = (takeM m b s j).length := (scat_props (ys := pk) (n := (takeM m b s j).length) (l := ptsOf m b s j) (r := (takeM m b s j, 0)) hpo.inM rfl (Nat.zero_le _)).1
    have e2 := markB_len (w := 3) hS hjs
    have hMl := hM.le
    show (putB _ _ _).length = _
    rw [putB_length (by rw [le4_length]; omega), e2, e1, hl]
theorem portC_eq {tb ts rb rs ta ra st dr : Nat} {m : List UInt8} (h : VM m) (ha : wholeN ts → ta < ts) (i : Bool) (p : Int) (w : Nat) : ∃ (tb' ts' rb' rs' ta' ra' st' v : Nat) (m' : List UInt8) (o : List (List UInt8)) (r ok : Bool), portC tb ts rb rs ta ra st dr m i p w = doC tb' ts' rb' rs' ta' ra' st' dr m' v (csl 1 (outV o)) r ok ∧ VM m' ∧ o.length ≤ 100 := by
  unfold portC
  cases i
  · rw [if_neg (by decide)]
    split
    · exact ⟨_, _, _, _, _, _, _, _, _, [], _, _, rfl, h, Nat.zero_le _⟩
    split
    · exact ⟨_, _, _, _, _, _, _, _, _, [], _, _, rfl, h, Nat.zero_le _⟩
    split
    · exact ⟨_, _, _, _, _, _, _, _, _, [], _, _, rfl, h, Nat.zero_le _⟩
    split
    · exact ⟨_, _, _, _, _, _, _, _, _, [], _, _, rfl, h, Nat.zero_le _⟩
    split
    · split
      · exact ⟨_, _, _, _, _, _, _, _, _, [], _, _, rfl, h, Nat.zero_le _⟩
      · next hc =>
        have hrv := chk_rv h (Decidable.not_not.1 hc)
        have hs := hrv.hs
        obtain ⟨h1, h2, h3⟩ := trun_ti ts ⟨m, [], false, ta, st⟩ ⟨hrv, ha hrv.hs⟩
        exact ⟨_, _, _, _, _, _, _, _, _, _, _, _, rfl, h1.m.m, by simp at h3; omega⟩
    · exact ⟨_, _, _, _, _, _, _, _, _, [], _, _, rfl, h, Nat.zero_le _⟩
  · rw [if_pos rfl]
    (repeat' split) <;> exact ⟨_, _, _, _, _, _, _, _, _, [], _, _, rfl, h, Nat.zero_le _⟩
theorem nvalid_nat {x : NI} (h : nvalidB x = true) : ∃ ta ra st dr : Nat, x = ⟨x.tb, x.ts, x.rb, x.rs, ta, ra, st, dr⟩ ∧ (st = 0 ∨ (160 ≤ st ∧ st ≤ 165)) ∧ dr ≤ 1099511627776 ∧ PlaceP x.ts ta ∧ PlaceP x.rs ra := by
  unfold nvalidB at h
  simp only [Bool.and_eq_true, decide_eq_true_eq] at h
  obtain ⟨h1, h2, h3, h4⟩ := h
  have p1 : PlaceP x.ts x.ta := @of_decide_eq_true _ (Classical.propDecidable _) h2
  have p2 : PlaceP x.rs x.ra := @of_decide_eq_true _ (Classical.propDecidable _) h3
  have n1 : 0 ≤ x.ta := by rcases p1 with ⟨_, h, _⟩ | ⟨_, h⟩ <;> omega
  have n2 : 0 ≤ x.ra := by rcases p2 with ⟨_, h, _⟩ | ⟨_, h⟩ <;> omega
  obtain ⟨tb, ts, rb, rs, ta, ra, st, dr⟩ := x
  dsimp only at *
  refine ⟨ta.toNat, ra.toNat, st.toNat, dr.toNat, ?_, by omega, by omega, ?_, ?_⟩
  · rw [Int.toNat_of_nonneg n1, Int.toNat_of_nonneg n2, Int.toNat_of_nonneg (by omega), Int.toNat_of_nonneg h4.1]
  · rw [Int.toNat_of_nonneg n1]; exact p1
  · rw [Int.toNat_of_nonneg n2]; exact p2
theorem PlaceP.lt {s a : Nat} (h : PlaceP s a) (hw : wholeN s) : a < s := by
  rcases h with ⟨_, _, h⟩ | ⟨h, _⟩
  · omega
  · exact absurd hw h
end Go.Proofs.Ytaeoaakblilfeaa
