/- Part 15 of the texts on which proofs about this seat rest: each says what it proves at its own head. No condition. -/
import Derived.Test.YthplidagfcdibaaM14
set_option linter.unusedVariables false
set_option linter.unusedSimpArgs false
/- What a notification does, and the reference's. Condition: the memory is valid, the ring is there. -/
namespace Go.Proofs.Ythplidagfcdibaa
open Go.Abs
variable {k : Nat}
/-- What a notification changes: where it goes on, the status, the requests in flight, the memory, the interrupt. -/
structure NS where
  a : Nat
  st : Int
  f : List RI
  m : List UInt8
  r : Bool
def ptsOf (m : List UInt8) (b s i : Nat) : List Pt := (takeL m b s i).map (ptOf m b)
/-- What is done with one that is offered. -/
def nserve (b s D i : Nat) (x : NS) : NS :=
  if takeE x.m b s i ≠ 0 then ⟨(i + 1) % s, takeE x.m b s i, x.f, takeM x.m b s i, true⟩
  else if reqE (takeM x.m b s i) D (ptsOf x.m b s i) = 0 then ⟨(i + 1) % s, x.st, x.f ++ [reqR b s (takeM x.m b s i) (ptsOf x.m b s i)], takeM x.m b s i, x.r⟩
  else ⟨(i + 1) % s, reqE (takeM x.m b s i) D (ptsOf x.m b s i), x.f, mark1 b (4 + (reqE (takeM x.m b s i) D (ptsOf x.m b s i) - 160)) (takeM x.m b s i) i, true⟩
def nrun (b s D : Nat) : Nat → NS → NS
  | 0, x => x
  | n + 1, x => if (fstR x.m b s x.a s 0).2 = false ∨ 8 ≤ x.f.length then x else nrun b s D n (nserve b s D (fstR x.m b s x.a s 0).1 x)
structure NI (b s : Nat) (x : NS) : Prop where
  m : RV x.m b s
  a : x.a < s
  f : x.f.length ≤ 8
theorem fstR_lt {m : List UInt8} {b s pos : Nat} (hs : 0 < s) : ∀ (f j : Nat), (fstR m b s pos f j).2 = true → (fstR m b s pos f j).1 < s
  | 0, j, h => by cases h
  | f + 1, j, h => by
    unfold fstR at h ⊢
    split
    · exact Nat.mod_lt _ hs
    · next hn => rw [if_neg hn] at h; exact fstR_lt hs f (j + 1) h
theorem take_rv {m : List UInt8} {b s i : Nat} (h : RV m b s) (hi : i < s) : RV (takeM m b s i) b s := by
  by_cases he : takeE m b s i = 0
  · obtain ⟨h1, h2, _⟩ := take_good hi he
    rw [h2]; exact h.markB fun j hj => (h1.one j hj).1
  · obtain ⟨_, h2, _⟩ := take_bad he
    rw [h2]; split
    · exact h.mark1 hi
    · exact h
theorem markB_len {b s w : Nat} : ∀ {js : List Nat} {m : List UInt8}, RV m b s → (∀ j ∈ js, j < s) → (markB m b w js).length = m.length
  | [], _, _, _ => rfl
  | j :: js, m, h, hj => by
    have hjs := hj j List.mem_cons_self
    have hle := h.le
    have := markB_len (w := w) (h.mark1 (w := w) hjs) fun x hx => hj x (List.mem_cons_of_mem _ hx)
    rw [show markB m b w (j :: js) = markB (mark1 b w m j) b w js from rfl, this]
    exact mark1_length (by omega)
theorem pts_ok {m : List UInt8} {b s i : Nat} (h : RV m b s) (hi : i < s) (he : takeE m b s i = 0) : ∃ p t, ptsOf m b s i = p :: t ∧ PtsOK (takeM m b s i) p t := by
  obtain ⟨h1, h2, h3⟩ := take_good hi he
  obtain ⟨j, js, hj⟩ : ∃ j js, takeL m b s i = j :: js := by
    cases hq : takeL m b s i with
    | nil => rw [hq] at h3; cases h3
    | cons j js => exact ⟨j, js, rfl⟩
  refine ⟨ptOf m b j, js.map (ptOf m b), by unfold ptsOf; rw [hj]; rfl, ?_, ?_⟩
  · have := h1.len
    rw [hj] at this
    simp only [List.length_cons] at this
    rw [List.length_map]; omega
  · intro q hq
    have hq' : q ∈ (takeL m b s i).map (ptOf m b) := by rw [hj]; exact hq
    obtain ⟨x, hx, rfl⟩ := List.mem_map.1 hq'
    obtain ⟨_, _, o3, o4, o5⟩ := h1.one x hx
    have hl : (takeM m b s i).length = m.length := by rw [h2]; exact markB_len h fun j hj => (h1.one j hj).1
    rw [hl]
    exact ⟨o3, o4, o5⟩
theorem nserve_ni {b s D i : Nat} {x : NS} (h : NI b s x) (hi : i < s) (hf : x.f.length < 8) : NI b s (nserve b s D i x) := by
  have hm := take_rv h.m hi
  have hs := h.a
  have hlt : (i + 1) % s < s := Nat.mod_lt _ (by omega)
  unfold nserve
  split
  · exact ⟨hm, hlt, h.f⟩
  · split
    · exact ⟨hm, hlt, by simp only [List.length_append, List.length_singleton]; omega⟩
    · exact ⟨hm.mark1 hi, hlt, h.f⟩
set_option maxRecDepth 100000 in
set_option maxHeartbeats 4000000 in
theorem s46 {b s v at0 : Nat} {st : Int} {d m : List UInt8} {f : List RI} {r ok : Bool} (h : RV m b s) (ha : at0 < s) (hd : (d.map ofB).length / 128 ≤ 64) (hf : f.length ≤ 8) :
    Calls0 (evCall FN (k + 10600)) 46 [.agg (gotC b s at0 st d f m v r ok)]
      (.agg (gotC b s (nrun b s ((d.map ofB).length / 128) s ⟨at0, st, f, m, r⟩).a (nrun b s ((d.map ofB).length / 128) s ⟨at0, st, f, m, r⟩).st d (nrun b s ((d.map ofB).length / 128) s ⟨at0, st, f, m, r⟩).f (nrun b s ((d.map ofB).length / 128) s ⟨at0, st, f, m, r⟩).m v (nrun b s ((d.map ofB).length / 128) s ⟨at0, st, f, m, r⟩).r ok)) := by
  have hb : b < 4294967296 := by have := h.le; have := h.m.le; omega
  have hs := h.hs
  have hs' : s < 4294967296 := by omega
  have hws : IntKind.i64.wrap (s : Int) = s := w64 (by omega) (by omega)
  have hck : chkN m.length b s = 0 := by
    unfold chkN
    rw [if_pos ⟨h.hs, h.hb, h.le⟩]
  have c23 : Calls0 (evCall FN (k + 10599)) 23 [memV m, ringV b s] (.int .i64 (chkN m.length b s)) := (s23 (k := 0) h.m hb hs').fuel (by omega)
  rw [hck] at c23
  generalize hR : nrun b s ((d.map ofB).length / 128) s ⟨at0, st, f, m, r⟩ = R
  refine q_call0 fn46 fun T H E lv => ?_
  repeat (first | refine stN ?_ | intro E)
  refine q_loop (α := Nat × NS) (LInv.mk (fun p => p.1 ≤ s ∧ NI b s p.2 ∧ nrun b s ((d.map ofB).length / 128) (s - p.1) p.2 = R) (fun p => s - p.1)
    (fun p => [(5, .int .i64 (p.1 : Int)), (4, .int .i64 (s : Int)), (2, .ref 1 0), (1, .ref 0 0)])
    (fun p => [(1, [.int .u32 0, .int .u32 0, .int .i64 0, .int .i64 0, .sl 0 0 [], .sl 0 0 [], .sl 0 0 [], .int .u32 0, .sl 0 0 [], .bool false, .bool false]), (0, gotC b s p.2.a p.2.st d p.2.f p.2.m v p.2.r ok)]))
    (fun _ _ c => c = 4) (0, ⟨at0, st, f, m, r⟩) ⟨Nat.zero_le _, ⟨h, ha, hf⟩, hR⟩ rfl (show s - 0 < k + 10599 by omega) ⟨rfl, rfl, rfl, rfl, trivial⟩ ⟨rfl, rfl, trivial⟩ ?_
  rintro ⟨i, x⟩ lv c T H E hP rfl hμ
  obtain ⟨hP, hN, hRx⟩ : i ≤ s ∧ NI b s x ∧ nrun b s ((d.map ofB).length / 128) (s - i) x = R := hP
  clear hμ hR
  dsimp only
  obtain ⟨xa, xst, xf, xm, xr⟩ := x
  obtain ⟨n1, n2, n3⟩ := hN
  dsimp only at n1 n2 n3 hRx ⊢
  have hdv := ris_div xf
  rcases Nat.lt_or_ge i s with hi | hi
  · have hsi : s - i = (s - (i + 1)) + 1 := by omega
    rw [hsi] at hRx
    unfold nrun at hRx
    dsimp only at hRx
    obtain ⟨⟨y, z⟩, hyz⟩ : ∃ q, fstR xm b s xa s 0 = q := ⟨_, rfl⟩
    have hylt := fstR_lt (m := xm) (b := b) (s := s) (pos := xa) (by omega) s 0
    rw [hyz] at hRx hylt
    dsimp only at hRx hylt
    have c78 : Calls0 (evCall FN (k + 10599)) 78 [memV xm, ringV b s, .int .i64 xa] (.agg [.int .i64 y, .bool z]) := (s78 (k := 0) n1 (by omega) hyz).fuel (by omega)
    by_cases hstop : z = false ∨ 8 ≤ xf.length
    · rw [if_pos hstop] at hRx
      subst hRx
      cases z
      · repeat (first | refine stN ?_ | intro E)
        apply n_ret
        repeat (first | refine stN ?_ | intro E)
        exact q_ret (.inr rfl) rfl rfl rfl rfl rfl rfl
      · have hstop : 8 ≤ xf.length := by simpa using hstop
        repeat (first | refine stN ?_ | intro E)
        apply n_ret
        repeat (first | refine stN ?_ | intro E)
        exact q_ret (.inr rfl) rfl rfl rfl rfl rfl rfl
    · rw [if_neg hstop] at hRx
      have hz : z = true := by cases z <;> simp_all
      have hf8 : xf.length < 8 := by omega
      subst hz
      clear hstop
      have hy := hylt rfl
      have c79 : Calls0 (evCall FN (k + 10599)) 79 [memV xm, ringV b s, .int .i64 y] (.agg [csl 128 ((takeM xm b s y).map ofB), csl 4 (partsV xm b (takeL xm b s y)), .int .i64 (takeE xm b s y)]) := (s79 (k := 0) n1 hy).fuel (by omega)
      have hni := nserve_ni (D := (d.map ofB).length / 128) (x := ⟨xa, xst, xf, xm, xr⟩) ⟨n1, n2, n3⟩ hy hf8
      have hrv := take_rv n1 hy
      have hmod : evBin .rem (.int .i64 ((y + 1 : Nat) : Int)) (.int .i64 (s : Int)) = some (.int .i64 (((y + 1) % s : Nat) : Int)) := rem_nn (by omega)
      by_cases he : takeE xm b s y ≠ 0
      · have hsv : nserve b s ((d.map ofB).length / 128) y ⟨xa, xst, xf, xm, xr⟩ = ⟨(y + 1) % s, takeE xm b s y, xf, takeM xm b s y, true⟩ := if_pos he
        rw [hsv] at hni hRx
        generalize takeM xm b s y = M at c79 hni hRx hrv
        generalize partsV xm b (takeL xm b s y) = L at c79
        generalize takeE xm b s y = e at c79 hni hRx he
        clear hsv
        repeat (first | refine stN ?_ | intro E)
        exact n_again (i + 1, ⟨(y + 1) % s, e, xf, M, true⟩) ⟨by omega, hni, hRx⟩ rfl (show s - (i + 1) < s - i by omega) ⟨rfl, rfl, rfl, rfl, trivial⟩ ⟨⟨rfl, rfl⟩, ⟨rfl, rfl⟩, trivial⟩
      · have he : takeE xm b s y = 0 := by omega
        obtain ⟨p, t, hpt, hok⟩ := pts_ok n1 hy he
        have c80 := fun stx rx => s80 (k := k + 99) (b := b) (s := s) (i := y) (v := v) (at' := (((y + 1) % s : Nat) : Int)) (st := stx) (d := d) (m := takeM xm b s y) (f := xf) (r := rx) (ok := ok) hrv hy hok hd n3
        have c80 : Calls0 (evCall FN (k + 10599)) 80 _ _ := c80 xst xr
        have hLp : partsV xm b (takeL xm b s y) = ptsV (p :: t) := by rw [parts_pts, ← hpt]; rfl
        rw [hLp, he] at c79
        have hsv : nserve b s ((d.map ofB).length / 128) y ⟨xa, xst, xf, xm, xr⟩ = _ := if_neg (by simpa using he)
        rw [hpt] at hsv
        rw [hsv] at hni hRx
        clear hsv hLp
        generalize takeM xm b s y = M at c79 c80 hni hRx hrv hok
        clear hok
        by_cases hq : reqE M ((d.map ofB).length / 128) (p :: t) = 0
        · rw [if_pos hq] at hni hRx c80
          clear hq
          generalize reqR b s M (p :: t) = rq at c80 hni hRx
          repeat (first | refine stN ?_ | intro E)
          exact n_again (i + 1, ⟨(y + 1) % s, xst, xf ++ [rq], M, xr⟩) ⟨by omega, hni, hRx⟩ rfl (show s - (i + 1) < s - i by omega) ⟨rfl, rfl, rfl, rfl, trivial⟩ ⟨⟨rfl, rfl⟩, ⟨rfl, rfl⟩, trivial⟩
        · rw [if_neg hq] at hni hRx c80
          generalize reqE M ((d.map ofB).length / 128) (p :: t) = e at c80 hni hRx hq
          clear hq
          repeat (first | refine stN ?_ | intro E)
          exact n_again (i + 1, ⟨(y + 1) % s, e, xf, mark1 b (4 + (e - 160)) M y, true⟩) ⟨by omega, hni, hRx⟩ rfl (show s - (i + 1) < s - i by omega) ⟨rfl, rfl, rfl, rfl, trivial⟩ ⟨⟨rfl, rfl⟩, ⟨rfl, rfl⟩, trivial⟩
  · have : s - i = 0 := by omega
    rw [this] at hRx
    subst hRx
    repeat (first | refine stN ?_ | intro E)
    apply n_exit
    apply b_exit
    repeat (first | refine stN ?_ | intro E)
    exact q_ret (.inr rfl) rfl rfl rfl rfl rfl rfl
end Go.Proofs.Ythplidagfcdibaa

/- A notification, by the program: a method that writes the object of the work under way. Condition: the memory is valid, the ring is there. -/
namespace Go.Proofs.Ythplidagfcdibaa
open Go.Abs
variable {k : Nat}
theorem add_u32 {i : Nat} (h : i + 1 < 4294967296) : evBin .add (.int .u32 (i : Int)) (.int .u32 1) = some (.int .u32 ((i + 1 : Nat) : Int)) := by
  have e : ((i : Int) + 1) = ((i + 1 : Nat) : Int) := by omega
  simp only [evBin, reduceCtorEq, or_self, if_false, if_true, evInt, e]
  rw [w32 (by omega) (by omega)]
/-- The slice of the requests in flight. -/
def FB (br z : Nat) (f : List RI) : Prop := (br = 1 ∧ z = csz 5 (risV f)) ∨ (4 ≤ br ∧ z = 5)
theorem FB.len {br z : Nat} {f : List RI} (h : FB br z f) : z = 5 ∨ risV f = [] := by
  rcases h with ⟨_, rfl⟩ | ⟨_, rfl⟩
  · exact csz_ok _ _
  · exact .inl rfl
theorem FB.cut {br z : Nat} {f : List RI} (h : FB br z f) : z = 5 ∨ (risV f = [] ∧ br < 2) := by
  rcases h with ⟨rfl, rfl⟩ | ⟨_, rfl⟩
  · exact (csz_ok _ _).imp id fun h => ⟨h, by omega⟩
  · exact .inl rfl
theorem FB.ne {br z : Nat} {f : List RI} (h : FB br z f) : br ≠ 0 := by
  rcases h with ⟨rfl, _⟩ | ⟨_, _⟩ <;> omega
theorem zero_late {m : List UInt8} {D b s : Nat} {p : Pt} {t : List Pt} (h : reqE m D (p :: t) = 0) : reqV m D b s p t = riV (reqR b s m (p :: t)) := by
  unfold reqV
  rw [if_neg fun hc => by rw [reqE_early hc] at h; cases h]
set_option maxRecDepth 100000 in
set_option maxHeartbeats 4000000 in
theorem s41 {b s v c at0 x0 : Nat} {st : Int} {d m : List UInt8} {f : List RI} {r ok : Bool} {H : Hp} {E : Nat → Option TypeId} {lv : Nat → Bool} (hc4 : 4 ≤ c) (h : RV m b s) (ha : at0 < s) (hd : (d.map ofB).length / 128 ≤ 64) (hf : f.length ≤ 8) :
    WritesB (evCall FN (k + 10700)) 41 [.ref 5 0, .int .u32 x0] [(5, wrkC b s at0 st d (csl 5 (risV f)) m v r ok)] H 7 lv c E (.tup []) 5
      (fun cs => ∃ br z, FB br z (nrun b s ((d.map ofB).length / 128) s ⟨at0, st, f, m, r⟩).f ∧ cs = wrkC b s (nrun b s ((d.map ofB).length / 128) s ⟨at0, st, f, m, r⟩).a (nrun b s ((d.map ofB).length / 128) s ⟨at0, st, f, m, r⟩).st d (.sl br z (risV (nrun b s ((d.map ofB).length / 128) s ⟨at0, st, f, m, r⟩).f)) (nrun b s ((d.map ofB).length / 128) s ⟨at0, st, f, m, r⟩).m v (nrun b s ((d.map ofB).length / 128) s ⟨at0, st, f, m, r⟩).r ok) := by
  have hb : b < 4294967296 := by have := h.le; have := h.m.le; omega
  have hs := h.hs
  have hs' : s < 4294967296 := by omega
  have hws : IntKind.i64.wrap (s : Int) = s := w64 (by omega) (by omega)
  have hck : chkN m.length b s = 0 := by
    unfold chkN
    rw [if_pos ⟨h.hs, h.hb, h.le⟩]
  have c69 : Calls0 (evCall FN (k + 10699)) 69 [memV m, ringV b s] (.int .i64 (chkN m.length b s)) := (s69 (k := 0) h.m hb hs').fuel (by omega)
  rw [hck] at c69
  generalize hR : nrun b s ((d.map ofB).length / 128) s ⟨at0, st, f, m, r⟩ = R
  refine q_writesB (by omega) fn41 fun T => ?_
  repeat (first | refine stN ?_ | intro E)
  refine q_loopX (α := Nat × NS × Nat × Nat) (LInv.mk (fun p => p.1 ≤ s ∧ NI b s p.2.1 ∧ FB p.2.2.1 p.2.2.2 p.2.1.f ∧ nrun b s ((d.map ofB).length / 128) (s - p.1) p.2.1 = R) (fun p => s - p.1)
    (fun p => [(35, .int .u32 (p.1 : Int)), (34, .int .u32 (s : Int)), (0, .ref 5 0)])
    (fun p => [(5, wrkC b s p.2.1.a p.2.1.st d (.sl p.2.2.1 p.2.2.2 (risV p.2.1.f)) p.2.1.m v p.2.1.r ok)]))
    (fun _ _ c' => c ≤ c') (Same 7 5 (objs [(5, wrkC b s at0 st d (csl 5 (risV f)) m v r ok)] H)) (0, ⟨at0, st, f, m, r⟩, 1, csz 5 (risV f)) ⟨Nat.zero_le _, ⟨h, ha, hf⟩, .inl ⟨rfl, rfl⟩, hR⟩ (Nat.le_refl _) (Same.refl _ _ _) (show s - 0 < k + 10699 by omega) ⟨rfl, rfl, rfl, trivial⟩ ⟨rfl, trivial⟩ ?_
  rintro ⟨i, x, br, z⟩ lv c1 T H1 E hP hc1 hS hμ
  obtain ⟨hP, hN, hB, hRx⟩ : i ≤ s ∧ NI b s x ∧ FB br z x.f ∧ nrun b s ((d.map ofB).length / 128) (s - i) x = R := hP
  have hc1 : c ≤ c1 := hc1
  clear hμ hR c69
  dsimp only at hS ⊢
  generalize objs [(5, wrkC b s at0 st d (csl 5 (risV f)) m v r ok)] H = H0 at hS ⊢
  obtain ⟨xa, xst, xf, xm, xr⟩ := x
  obtain ⟨n1, n2, n3⟩ := hN
  dsimp only at n1 n2 n3 hRx hB hS ⊢
  have hdv := ris_div xf
  have hzl := hB.len
  rcases Nat.lt_or_ge i s with hi | hi
  · have hsi : s - i = (s - (i + 1)) + 1 := by omega
    rw [hsi] at hRx
    unfold nrun at hRx
    dsimp only at hRx
    obtain ⟨⟨y, w⟩, hyz⟩ : ∃ q, fstR xm b s xa s 0 = q := ⟨_, rfl⟩
    have hylt := fstR_lt (m := xm) (b := b) (s := s) (pos := xa) (by omega) s 0
    rw [hyz] at hRx hylt
    dsimp only at hRx hylt
    have c71 : Calls0 (evCall FN (k + 10699)) 71 [memV xm, ringV b s, .int .i64 xa] (.tup [.int .i64 y, .bool w]) := (s71 (k := 0) n1 (by omega) hyz).fuel (by omega)
    have hadd := add_u32 (i := i) (by omega)
    by_cases hstop : w = false ∨ 8 ≤ xf.length
    · rw [if_pos hstop] at hRx
      subst hRx
      cases w
      · repeat (first | refine stN ?_ | intro E)
        apply x_exit
        repeat (first | refine stN ?_ | intro E)
        exact q_rets (.inl rfl) rfl rfl rfl rfl rfl ⟨rfl, _, _, _, rfl, hc1, ⟨br, z, hB, lkO_objs rfl⟩, by rw [lkO_objs (show lkO _ 5 = some _ from rfl)]; rfl, hS⟩
      · have hstop : 8 ≤ xf.length := by simpa using hstop
        repeat (first | refine stN ?_ | intro E)
        apply x_exit
        repeat (first | refine stN ?_ | intro E)
        exact q_rets (.inl rfl) rfl rfl rfl rfl rfl ⟨rfl, _, _, _, rfl, hc1, ⟨br, z, hB, lkO_objs rfl⟩, by rw [lkO_objs (show lkO _ 5 = some _ from rfl)]; rfl, hS⟩
    · rw [if_neg hstop] at hRx
      have hw : w = true := by cases w <;> simp_all
      have hf8 : xf.length < 8 := by omega
      subst hw
      clear hstop
      have hy := hylt rfl
      have c72 : Calls0 (evCall FN (k + 10699)) 72 [memV xm, ringV b s, .int .i64 y] (.tup [memV (takeM xm b s y), csl 4 (partsV xm b (takeL xm b s y)), .int .i64 (takeE xm b s y)]) := (s72 (k := 0) n1 hy).fuel (by omega)
      have hni := nserve_ni (D := (d.map ofB).length / 128) (x := ⟨xa, xst, xf, xm, xr⟩) ⟨n1, n2, n3⟩ hy hf8
      have hrv := take_rv n1 hy
      have hmod : evBin .rem (.int .i64 ((y + 1 : Nat) : Int)) (.int .i64 (s : Int)) = some (.int .i64 (((y + 1) % s : Nat) : Int)) := rem_nn (by omega)
      by_cases he : takeE xm b s y ≠ 0
      · have hsv : nserve b s ((d.map ofB).length / 128) y ⟨xa, xst, xf, xm, xr⟩ = ⟨(y + 1) % s, takeE xm b s y, xf, takeM xm b s y, true⟩ := if_pos he
        rw [hsv] at hni hRx
        generalize takeM xm b s y = M at c72 hni hRx hrv
        generalize partsV xm b (takeL xm b s y) = L at c72
        generalize takeE xm b s y = e at c72 hni hRx he
        clear hsv
        repeat (first | refine stN ?_ | intro E)
        exact x_again (i + 1, ⟨(y + 1) % s, e, xf, M, true⟩, br, z) ⟨by omega, hni, hB, hRx⟩ hc1 (Same.keep (by repeat (first | exact hS | refine Same.cons ?_ rfl)) (by omega)) (show s - (i + 1) < s - i by omega) ⟨rfl, rfl, rfl, trivial⟩ ⟨⟨rfl, rfl⟩, trivial⟩
      · have he : takeE xm b s y = 0 := by omega
        obtain ⟨p, t, hpt, hok⟩ := pts_ok n1 hy he
        have hLp : partsV xm b (takeL xm b s y) = ptsV (p :: t) := by rw [parts_pts, ← hpt]; rfl
        rw [hLp, he] at c72
        have hsv : nserve b s ((d.map ofB).length / 128) y ⟨xa, xst, xf, xm, xr⟩ = _ := if_neg (by simpa using he)
        rw [hpt] at hsv
        rw [hsv] at hni hRx
        clear hsv hLp
        generalize takeM xm b s y = M at c72 hni hRx hrv hok
        have c73 := fun H E lv => s73 (k := k + 199) (b := b) (s := s) (v := v) (c := c1) (at' := (((y + 1) % s : Nat) : Int)) (st := xst) (d := d) (m := M) (fl := .sl br z (risV xf)) (r := xr) (ok := ok) (H := H) (E := E) (lv := lv) rfl hrv hok hd
        by_cases hq : reqE M ((d.map ofB).length / 128) (p :: t) = 0
        · rw [if_pos hq] at hni hRx
          simp only [hq, zero_late hq] at c73
          clear hq hok
          generalize reqR b s M (p :: t) = rq at c73 hni hRx
          have htk : (risV xf).take ((risV xf).length / 5 * 5) = risV xf := List.take_of_length_le (by rw [ris_div, ris_length]; exact Nat.le_refl _)
          repeat (first | refine stN ?_ | intro E)
          apply p_writesX (args := [.ref 5 0, csl 4 (ptsV (p :: t))]) (id := 5) (n0 := 7) (H0 := H0) (os' := [(5, wrkC b s (((y + 1) % s : Nat) : Int) xst d (.sl br z (risV xf)) M v xr ok), (7, [csl 128 (M.map ofB)])])
          · exact rfl
          · exact fun H E => writes_at rfl (c73 (objs _ H) E lv)
          · exact ⟨.inl ⟨rfl, rfl⟩, .inr ⟨rfl, rfl, rfl, rfl⟩, trivial⟩
          · exact (by repeat (first | exact hS | refine Same.cons ?_ rfl))
          · omega
          intro H2 hS2
          repeat (first | refine stN ?_ | intro E)
          apply p_slL_m3
          · exact rfl
          · exact hB.ne
          · exact hB.cut
          · exact rfl
          · exact rfl
          · exact Nat.le_refl _
          rw [htk]
          repeat (first | refine stN ?_ | intro E)
          apply p_app
          · exact rfl
          · exact .inl rfl
          · exact rfl
          · exact fun H => src_sl _ _ _ _
          · exact ⟨by omega, by omega⟩
          · have : room = 17592186044416 := by decide +kernel
            rw [this, ris_length]; simp only [List.length_cons, List.length_nil]; omega
          · exact .inr (.inl rfl)
          · exact List.cons_ne_nil _ _
          intro lv' l1 l2
          repeat (first | refine stN ?_ | intro E)
          exact x_again (i + 1, ⟨(y + 1) % s, xst, xf ++ [rq], M, xr⟩, c1, 5) ⟨by omega, hni, .inr ⟨show 4 ≤ c1 by omega, rfl⟩, hRx⟩ (show c ≤ c1 + 1 by omega) (Same.keep (by repeat (first | exact hS2 | refine Same.cons ?_ rfl)) (by omega)) (show s - (i + 1) < s - i by omega) ⟨rfl, rfl, rfl, trivial⟩ ⟨⟨by rw [← flight_snoc]; rfl, rfl⟩, trivial⟩
        · rw [if_neg hq] at hni hRx
          have hV : ∃ u0 u1 u2 u3 u4, reqV M ((d.map ofB).length / 128) b s p t = [u0, u1, u2, u3, u4] := by
            unfold reqV
            split
            · exact ⟨_, _, _, _, _, rfl⟩
            · exact ⟨_, _, _, _, _, rfl⟩
          obtain ⟨u0, u1, u2, u3, u4, hV⟩ := hV
          have hec := reqE_cases M ((d.map ofB).length / 128) (p :: t)
          simp only [hV] at c73
          clear hV hok
          generalize reqE M ((d.map ofB).length / 128) (p :: t) = e at c73 hni hRx hq hec
          have he' : 160 ≤ e ∧ e ≤ 165 := by omega
          have c74 := fun H E lv => s74 (k := k + 199) (b := b) (s := s) (i := y) (v := v) (c := c1) (at' := (((y + 1) % s : Nat) : Int)) (st := xst) (d := d) (m := M) (fl := .sl br z (risV xf)) (r := xr) (ok := ok) (H := H) (E := E) (lv := lv) rfl hrv hy he'
          clear hec
          repeat (first | refine stN ?_ | intro E)
          apply p_writesX (args := [.ref 5 0, csl 4 (ptsV (p :: t))]) (id := 5) (n0 := 7) (H0 := H0) (os' := [(5, wrkC b s (((y + 1) % s : Nat) : Int) xst d (.sl br z (risV xf)) M v xr ok), (7, [csl 128 (M.map ofB)])])
          · exact rfl
          · exact fun H E => writes_at rfl (c73 (objs _ H) E lv)
          · exact ⟨.inl ⟨rfl, rfl⟩, .inr ⟨rfl, rfl, rfl, rfl⟩, trivial⟩
          · exact (by repeat (first | exact hS | refine Same.cons ?_ rfl))
          · omega
          intro H2 hS2
          repeat (first | refine stN ?_ | intro E)
          apply p_writesX (args := [.ref 5 0, .int .i64 y, .int .i64 e]) (id := 5) (n0 := 7) (H0 := H0) (os' := [(5, wrkC b s (((y + 1) % s : Nat) : Int) e d (.sl br z (risV xf)) (mark1 b (4 + (e - 160)) M y) v true ok)])
          · exact rfl
          · exact fun H E => writes_at rfl (c74 (objs _ H) E lv)
          · exact ⟨.inl ⟨rfl, rfl⟩, trivial⟩
          · exact (by repeat (first | exact hS2 | refine Same.cons ?_ rfl))
          · omega
          intro H3 hS3
          repeat (first | refine stN ?_ | intro E)
          exact x_again (i + 1, ⟨(y + 1) % s, e, xf, mark1 b (4 + (e - 160)) M y, true⟩, br, z) ⟨by omega, hni, hB, hRx⟩ hc1 (Same.keep (by repeat (first | exact hS3 | refine Same.cons ?_ rfl)) (by omega)) (show s - (i + 1) < s - i by omega) ⟨rfl, rfl, rfl, trivial⟩ ⟨⟨rfl, rfl⟩, trivial⟩
  · have : s - i = 0 := by omega
    rw [this] at hRx
    subst hRx
    repeat (first | refine stN ?_ | intro E)
    apply x_exit
    repeat (first | refine stN ?_ | intro E)
    exact q_rets (.inl rfl) rfl rfl rfl rfl rfl ⟨rfl, _, _, _, rfl, hc1, ⟨br, z, hB, lkO_objs rfl⟩, by rw [lkO_objs (show lkO _ 5 = some _ from rfl)]; rfl, hS⟩
end Go.Proofs.Ythplidagfcdibaa

/- A notification of any ring: by the program and by the reference. Condition: the memory is valid; the numbers are words. -/
namespace Go.Proofs.Ythplidagfcdibaa
open Go.Abs
variable {k : Nat}
/-- What a notification does. -/
def ntf (b s D : Nat) (x : NS) : NS := if chkN x.m.length b s = 0 then nrun b s D s x else ⟨x.a, chkN x.m.length b s, x.f, x.m, x.r⟩
set_option maxRecDepth 100000 in
theorem ntf_ref {b s v at0 : Nat} {st : Int} {d m : List UInt8} {f : List RI} {r ok : Bool} (h : VM m) (hb : b < 4294967296) (hs : s < 4294967296) (ha : chkN m.length b s = 0 → at0 < s) (hd : (d.map ofB).length / 128 ≤ 64) (hf : f.length ≤ 8) {R : NS} (hR : ntf b s ((d.map ofB).length / 128) ⟨at0, st, f, m, r⟩ = R) :
    Calls0 (evCall FN (k + 10600)) 46 [.agg (gotC b s at0 st d f m v r ok)] (.agg (gotC b s R.a R.st d R.f R.m v R.r ok)) := by
  by_cases hc : chkN m.length b s = 0
  · have e : ntf b s ((d.map ofB).length / 128) ⟨at0, st, f, m, r⟩ = nrun b s ((d.map ofB).length / 128) s ⟨at0, st, f, m, r⟩ := if_pos hc
    rw [e] at hR
    subst hR
    exact s46 (chkN_ok h hc) (ha hc) hd hf
  · have e : ntf b s ((d.map ofB).length / 128) ⟨at0, st, f, m, r⟩ = ⟨at0, chkN m.length b s, f, m, r⟩ := if_neg hc
    rw [e] at hR
    subst hR
    have c23 : Calls0 (evCall FN (k + 10599)) 23 [memV m, ringV b s] (.int .i64 (chkN m.length b s)) := (s23 (k := 0) h hb hs).fuel (by omega)
    dsimp only
    generalize chkN m.length b s = e at c23 hc ⊢
    refine q_call0 fn46 fun T H E lv => ?_
    repeat (first | refine stN ?_ | intro E)
    exact q_ret (.inr rfl) rfl rfl rfl rfl rfl rfl
set_option maxRecDepth 100000 in
theorem ntf_prog {b s v c at0 x0 : Nat} {st : Int} {d m : List UInt8} {f : List RI} {r ok : Bool} {H : Hp} {E : Nat → Option TypeId} {lv : Nat → Bool} (hc4 : 4 ≤ c) (h : VM m) (hb : b < 4294967296) (hs : s < 4294967296) (ha : chkN m.length b s = 0 → at0 < s) (hd : (d.map ofB).length / 128 ≤ 64) (hf : f.length ≤ 8) {R : NS} (hR : ntf b s ((d.map ofB).length / 128) ⟨at0, st, f, m, r⟩ = R) :
    WritesB (evCall FN (k + 10700)) 41 [.ref 5 0, .int .u32 x0] [(5, wrkC b s at0 st d (csl 5 (risV f)) m v r ok)] H 7 lv c E (.tup []) 5 (fun cs => ∃ br z, FB br z R.f ∧ cs = wrkC b s R.a R.st d (.sl br z (risV R.f)) R.m v R.r ok) := by
  by_cases hc : chkN m.length b s = 0
  · have e : ntf b s ((d.map ofB).length / 128) ⟨at0, st, f, m, r⟩ = nrun b s ((d.map ofB).length / 128) s ⟨at0, st, f, m, r⟩ := if_pos hc
    rw [e] at hR
    subst hR
    exact s41 hc4 (chkN_ok h hc) (ha hc) hd hf
  · have e : ntf b s ((d.map ofB).length / 128) ⟨at0, st, f, m, r⟩ = ⟨at0, chkN m.length b s, f, m, r⟩ := if_neg hc
    rw [e] at hR
    subst hR
    have c69 : Calls0 (evCall FN (k + 10699)) 69 [memV m, ringV b s] (.int .i64 (chkN m.length b s)) := (s69 (k := 0) h hb hs).fuel (by omega)
    dsimp only
    generalize chkN m.length b s = e at c69 hc ⊢
    refine q_writesB (by omega) fn41 fun T => ?_
    repeat (first | refine stN ?_ | intro E)
    exact q_rets (.inr rfl) rfl rfl rfl rfl rfl ⟨rfl, _, _, _, rfl, Nat.le_refl _, ⟨1, csz 5 (risV f), .inl ⟨rfl, rfl⟩, lkO_objs rfl⟩, by rw [lkO_objs (show lkO _ 5 = some _ from rfl)]; rfl, (by repeat (first | exact Same.refl _ _ _ | refine Same.cons ?_ rfl))⟩
/-- The ring's base is set, or its size. -/
theorem s39 {b s v c x0 : Nat} {at' st : Int} {d m : List UInt8} {fl : AV} {r ok : Bool} {H : Hp} {E : Nat → Option TypeId} {lv : Nat → Bool} (hu : fl.under 7 = true) :
    Writes (evCall FN (k + 1)) 39 [.ref 5 0, .int .u32 x0] [(5, wrkC b s at' st d fl m v r ok)] H 7 lv c E (.tup []) 5 (wrkC x0 s 0 st d fl m v r ok) := by
  refine q_writes (by omega) ?_ fn39 fun T => ?_
  · simp only [underL, AV.under, csl, hu, Bool.and_self]
  repeat (first | refine stN ?_ | intro E)
  exact q_rets (.inl rfl) rfl rfl rfl rfl rfl ⟨rfl, _, rfl, lkO_objs rfl, (by repeat (first | exact Same.refl _ _ _ | refine Same.cons ?_ rfl))⟩
theorem s40 {b s v c x0 : Nat} {at' st : Int} {d m : List UInt8} {fl : AV} {r ok : Bool} {H : Hp} {E : Nat → Option TypeId} {lv : Nat → Bool} (hu : fl.under 7 = true) :
    Writes (evCall FN (k + 1)) 40 [.ref 5 0, .int .u32 x0] [(5, wrkC b s at' st d fl m v r ok)] H 7 lv c E (.tup []) 5 (wrkC b x0 0 st d fl m v r ok) := by
  refine q_writes (by omega) ?_ fn40 fun T => ?_
  · simp only [underL, AV.under, csl, hu, Bool.and_self]
  repeat (first | refine stN ?_ | intro E)
  exact q_rets (.inl rfl) rfl rfl rfl rfl rfl ⟨rfl, _, rfl, lkO_objs rfl, (by repeat (first | exact Same.refl _ _ _ | refine Same.cons ?_ rfl))⟩
end Go.Proofs.Ythplidagfcdibaa
