/- Part 17 of the texts on which proofs about this seat rest: each says what it proves at its own head. No condition. -/
import Derived.Test.YthplidagfcdibaaM16
set_option linter.unusedVariables false
set_option linter.unusedSimpArgs false
/- A request is completed that writes the disk, and none that there is not, by the program. Condition: the memory is valid, the request is right. -/
namespace Go.Proofs.Ythplidagfcdibaa
open Go.Abs
variable {k : Nat}
theorem q_ret_disk {s : List (Nat × AV)} {os : List (Nat × List AV)} {T : Nat → AV} {H : Hp} {E : Nat → Option TypeId} {n c : Nat} {lv : Nat → Bool} {fn : IFn} {e : Ex} {b0 s0 id L br z : Nat} {at' st : Int} {bs M : List UInt8} {xs : List AV} (he : e = .norm ∨ e = .ret)
    (h1 : resS s os fn.res = some [.agg [.int .u32 b0, .int .u32 s0, .int .i64 at', .int .i64 st, .osl id 0 L 128, .sl br z xs], .agg [csl 128 (M.map ofB), .int .u32 0, .sl 0 0 [], .bool true, .bool true]])
    (hz : (fn.res.all fun | .cell _ sz ag => !(ag && Nat.beq sz 0) | _ => true) = true) (ho : lkO os id = some (bs.map ofB)) (hL : bs.length = 128 * L) :
    Ret fn (.tup [.agg [.int .u32 b0, .int .u32 s0, .int .i64 at', .int .i64 st, csl 128 (bs.map ofB), canonCell (.sl br z xs)], .agg [csl 128 (M.map ofB), .int .u32 0, .sl 1 0 [], .bool true, .bool true]]) e ⟨slots s T, objs os H, E, n, lv, c⟩ := by
  have hf := fin_osl (H := H) ho hL
  refine q_ret he h1 hz ?_ ?_ ?_ ?_
  · show (true && (true && (true && (true && (finOk _ 0 (.osl id 0 L 128) && (true && (true && (true && (true && (true && (true && true))))))))))) = true
    rw [hf.1]; rfl
  · show AV.under 0 (.tup [.agg [.int .u32 b0, .int .u32 s0, .int .i64 at', .int .i64 st, finCell _ 0 (.osl id 0 L 128), .sl br z xs], .agg [csl 128 (M.map ofB), .int .u32 0, .sl 0 0 [], .bool true, .bool true]]) = true
    rw [hf.2]; rfl
  · show mapLeaf canonCell (.tup [.agg [.int .u32 b0, .int .u32 s0, .int .i64 at', .int .i64 st, finCell _ 0 (.osl id 0 L 128), .sl br z xs], .agg [csl 128 (M.map ofB), .int .u32 0, .sl 0 0 [], .bool true, .bool true]]) = _
    rw [hf.2]; rfl
  · by_cases hb : br = 1
    · simp [AV.flat, flatL, canonCell, csl, hb]
    · simp [AV.flat, flatL, canonCell, csl, hb]
theorem gath_len {m : List UInt8} : ∀ {t : List Pt}, (∀ x ∈ t, x.w = false ∧ x.a + x.n ≤ m.length) → ∀ (n : Int), n + ((gath m t).length : Int) = (t.map Pt.toI).foldl (fun n p => n + p.n) n
  | [], _, n => by simp [gath]
  | x :: t, h, n => by
    obtain ⟨h1, h2⟩ := h x List.mem_cons_self
    have e : (rdP m x).length = x.n := by unfold rdP; rw [h1]; simp [List.length_take, List.length_drop]; omega
    have ih := gath_len (m := m) (t := t) (fun y hy => h y (List.mem_cons_of_mem _ hy)) (n + x.n)
    have e2 : (gath m (x :: t)).length = (rdP m x).length + (gath m t).length := by unfold gath; rw [List.flatMap_cons, List.length_append]
    simp only [List.map_cons, List.foldl_cons]
    rw [show (Pt.toI x).n = (x.n : Int) from rfl, ← ih, e2, e]
    omega
theorem gath_128 {m : List UInt8} {D b s q : Nat} {p : Pt} {t : List Pt} (hr : RN m.length D b s true q p t) : (gath m t).length ≤ 128 := by
  have h1 := gath_len (m := m) (t := t) (fun x hx => ⟨hr.dir x hx, (hr.one x (List.mem_cons_of_mem _ hx)).2.2.2⟩) 0
  have h2 : (0 : Int) + ((gath m t).length : Int) = smI (t.map Pt.toI) := h1
  have h3 := hr.sum
  omega
theorem src_str (H : Hp) (l : List UInt8) : src H 1 (.str l) = some (l.map ofB) := by simp [src]
theorem cpy_disk {d Y : List UInt8} {q : Nat} (hY : Y.length ≤ 128) : splice ([] ++ d.map ofB) (0 + q * 128 + 0 * 1) ((Y.map ofB).take (min ((Y.map ofB).length / 1) (128 - 0) * 1)) = (putB d (q * 128) Y).map ofB := by
  have e : min ((Y.map ofB).length / 1) (128 - 0) * 1 = (Y.map ofB).length := by rw [List.length_map]; omega
  rw [e, List.take_length, List.nil_append, show 0 + q * 128 + 0 * 1 = q * 128 by omega]
  exact splice_ofB d Y (q * 128)
set_option maxRecDepth 100000 in
set_option maxHeartbeats 4000000 in
theorem s15x {b0 s0 : Nat} {at' st kk : Int} {d m : List UInt8} {f : List RI} (hk : kk < 0 ∨ (f.length : Int) ≤ kk) :
    Calls0 (evCall FN (k + 10800)) 15 [.agg [.int .u32 b0, .int .u32 s0, .int .i64 at', .int .i64 st, csl 128 (d.map ofB), csl 5 (risV f)], memV m, .int .i64 kk]
      (.tup [.agg [.int .u32 b0, .int .u32 s0, .int .i64 at', .int .i64 st, csl 128 (d.map ofB), csl 5 (risV f)], .agg [csl 128 (m.map ofB), .int .u32 0, .sl 1 0 [], .bool false, .bool false]]) := by
  have hdv := ris_div f
  refine q_call0 fn15 fun T H E lv => ?_
  obtain hk | hk : kk < 0 ∨ (0 ≤ kk ∧ (f.length : Int) ≤ kk) := by omega
  all_goals
    repeat (first | refine stN ?_ | intro E)
    exact q_ret (.inr rfl) rfl rfl rfl rfl rfl rfl
set_option maxRecDepth 100000 in
set_option maxHeartbeats 4000000 in
/-- A request that writes the disk is completed. -/
theorem s15w {b0 s0 b s q kk : Nat} {at' st : Int} {d m : List UInt8} {f : List RI} {p : Pt} {t : List Pt} (h : VM m) (hr : RN m.length ((d.map ofB).length / 128) b s true q p t) (hf : f.length ≤ 8) (hdl : d.length % 128 = 0) (hd : (d.map ofB).length / 128 ≤ 64) (hk : f[kk]? = some ⟨b, s, q, true, (p :: t).map Pt.toI⟩) :
    Calls0 (evCall FN (k + 10800)) 15 [.agg [.int .u32 b0, .int .u32 s0, .int .i64 at', .int .i64 st, csl 128 (d.map ofB), csl 5 (risV f)], memV m, .int .i64 kk]
      (.tup [.agg [.int .u32 b0, .int .u32 s0, .int .i64 at', .int .i64 st, csl 128 ((putB d (q * 128) (gath m t)).map ofB), csl 5 (risV (f.take kk) ++ risV (f.drop (kk + 1)))], .agg [csl 128 ((markB m b 3 (ix (p :: t))).map ofB), .int .u32 0, .sl 1 0 [], .bool true, .bool true]]) := by
  have hl := h.le
  have hrv := rn_rv h hr
  have hkl : kk < f.length := (List.getElem?_eq_some_iff.1 hk).1
  have hdv := ris_div f
  have gi : inB (kk : Int) ((risV f).length / 5) = some kk := inB_n (by rw [ris_div]; omega)
  have hrd : rd (risV f) (kk * 5) 5 true = some (.agg [.int .u32 b, .int .u32 s, .int .i64 q, .bool true, csl 4 (ptsV (p :: t))]) := by
    rw [← pis_of]; exact fm_agg riV_length hk
  have hab : asB 1 ((ptsV (p :: t)).length / 4) = some 1 := asB_n (a := 1) (by rw [pts_div]; simp)
  have hq := hr.q
  have hq2 : q * 128 + 128 ≤ d.length := by have := hr.q; rw [List.length_map] at this; omega
  have gq : inB (q : Int) ((([] : List AV).length + (d.map ofB).length) / 128) = some q := inB_n (by simp only [List.length_nil, Nat.zero_add]; exact hq)
  have htl := hr.len
  have hin : InR m.length t := fun x hx _ => (hr.one x (List.mem_cons_of_mem _ hx)).2.2.2
  have c42 : Calls0 (evCall FN (k + 10799)) 42 [memV m, csl 4 (ptsV t)] (.str (gath m t)) := (s42 (k := 0) h hin (by omega)).fuel (by omega)
  have hY := gath_128 hr
  have c45 : Calls0 (evCall FN (k + 10799)) 45 [memV m, ringV b s, csl 4 (ptsV (p :: t))] (memV (markB m b 3 (ix (p :: t)))) := (s45p (k := 0) hrv (fun x hx => (hr.one x hx).1) (by simp; omega)).fuel (by omega)
  have hcp := cpy_disk (d := d) (q := q) hY
  have hpl : (putB d (q * 128) (gath m t)).length = 128 * ((([] : List AV).length + (d.map ofB).length) / 128) := by
    rw [putB_length (by omega), List.length_map]; simp only [List.length_nil]; omega
  refine q_call0 fn15 fun T H E lv => ?_
  repeat (first | refine stN ?_ | intro E)
  apply p_slL_lo
  · exact rfl
  · exact csz_ok _ _
  · exact rfl
  · exact hab
  rw [tail_pts, pis_of]
  repeat (first | refine stN ?_ | intro E)
  apply p_appo
  · exact rfl
  · exact .inl rfl
  · exact .inr ⟨rfl, by omega⟩
  · exact rfl
  · exact src_csl _ _ _
  · exact ⟨by omega, by omega⟩
  · intro e
    have : (d.map ofB).length = 0 := by rw [e]; rfl
    rw [List.length_map] at this; omega
  · have : room = 17592186044416 := by decide +kernel
    rw [this]; simp only [List.length_nil]; omega
  intro E
  repeat (first | refine stN ?_ | intro E)
  apply p_slA_ref (p := 0) (q := 128)
  · exact rfl
  · exact rfl
  · exact rfl
  · omega
  generalize markB m b 3 (ix (p :: t)) = M2 at c45 ⊢
  generalize gath m t = Y at c42 hY hcp hpl ⊢
  repeat (first | refine stN ?_ | intro E)
  apply p_cpy
  · exact rfl
  · exact rfl
  · exact fun H => src_str _ _
  · exact rfl
  · omega
  · rw [List.nil_append, List.length_map]; omega
  rw [hcp]
  repeat (first | refine stN ?_ | intro E)
  apply p_slL_m3
  · exact rfl
  · exact Nat.one_ne_zero
  · exact (csz_ok _ _).imp id fun h => ⟨h, by omega⟩
  · exact rfl
  · exact rfl
  · rw [ris_div]; omega
  rw [show (risV f).take (kk * 5) = risV (f.take kk) from fm_take riV_length f kk]
  repeat (first | refine stN ?_ | intro E)
  apply p_slL_lo
  · exact rfl
  · exact csz_ok _ _
  · exact rfl
  · exact asB_n (by rw [ris_div]; omega)
  rw [drop_ris]
  by_cases hd0 : f.drop (kk + 1) = []
  · rw [hd0]
    apply p_app_nil
    · exact rfl
    · exact .inl rfl
    · exact rfl
    · exact fun H => src_csl _ _ _
    · exact ⟨by omega, by omega⟩
    · have : room = 17592186044416 := by decide +kernel
      rw [this, ris_length, List.length_take]; omega
    · exact .inr rfl
    repeat (first | refine stN ?_ | intro E)
    rw [show risV (f.take kk) ++ risV [] = risV (f.take kk) from List.append_nil _]
    refine q_ret_disk (br := 3) (z := 5) (id := 5) (bs := putB d (q * 128) Y) (M := M2) (.inr rfl) ?_ rfl ?_ hpl
    · exact rfl
    · exact rfl
  · apply p_app
    · exact rfl
    · exact .inl rfl
    · exact rfl
    · exact fun H => src_csl _ _ _
    · exact ⟨by omega, by omega⟩
    · have : room = 17592186044416 := by decide +kernel
      rw [this, ris_length, ris_length, List.length_take, List.length_drop]; omega
    · exact .inr (.inl rfl)
    · exact ris_ne hd0
    intro lv' l1 l2
    repeat (first | refine stN ?_ | intro E)
    refine q_ret_disk (br := 4) (z := 5) (id := 5) (bs := putB d (q * 128) Y) (M := M2) (.inr rfl) ?_ rfl ?_ hpl
    · exact rfl
    · exact rfl
end Go.Proofs.Ythplidagfcdibaa

/- A request is completed, by the reference. Condition: the memory is valid, the request is right. -/
namespace Go.Proofs.Ythplidagfcdibaa
open Go.Abs
variable {k : Nat}
set_option maxRecDepth 100000 in
set_option maxHeartbeats 4000000 in
theorem s17x {b0 s0 : Nat} {at' st kk : Int} {d m : List UInt8} {f : List RI} (hk : kk < 0 ∨ (f.length : Int) ≤ kk) :
    Calls0 (evCall FN (k + 10800)) 17 [.agg [.int .u32 b0, .int .u32 s0, .int .i64 at', .int .i64 st, csl 128 (d.map ofB), csl 5 (risV f)], memV m, .int .i64 kk]
      (.agg [.int .u32 b0, .int .u32 s0, .int .i64 at', .int .i64 st, csl 128 (d.map ofB), csl 5 (risV f), csl 128 (m.map ofB), .int .u32 0, .sl 1 0 [], .bool false, .bool false]) := by
  have hdv := ris_div f
  refine q_call0 fn17 fun T H E lv => ?_
  obtain hk | hk : kk < 0 ∨ (0 ≤ kk ∧ (f.length : Int) ≤ kk) := by omega
  all_goals
    repeat (first | refine stN ?_ | intro E)
    exact q_ret (.inr rfl) rfl rfl rfl rfl rfl rfl
theorem canon_own3 {lv : Nat → Bool} {c br sz : Nat} {xs : List AV} (h : Own3 lv c br) : canonCell (.sl br sz xs) = csl sz xs := if_neg h.ne1
/-- The end, where the new list of requests is at hand. -/
theorem q_ret17 {s : List (Nat × AV)} {os : List (Nat × List AV)} {T : Nat → AV} {H : Hp} {E : Nat → Option TypeId} {n c : Nat} {lv lv' : Nat → Bool} {fn : IFn} {e : Ex} {b0 s0 br cc : Nat} {at' st : Int} {D M xs : List AV} (he : e = .norm ∨ e = .ret) (ho : Own3 lv' cc br)
    (h1 : resS s os fn.res = some [.agg [.int .u32 b0, .int .u32 s0, .int .i64 at', .int .i64 st, csl 128 D, .sl br 5 xs, csl 128 M, .int .u32 0, .sl 0 0 [], .bool true, .bool true]])
    (hz : (fn.res.all fun | .cell _ sz ag => !(ag && Nat.beq sz 0) | _ => true) = true) :
    Ret fn (.agg [.int .u32 b0, .int .u32 s0, .int .i64 at', .int .i64 st, csl 128 D, csl 5 xs, csl 128 M, .int .u32 0, .sl 1 0 [], .bool true, .bool true]) e ⟨slots s T, objs os H, E, n, lv, c⟩ := by
  refine q_ret he h1 hz rfl rfl ?_ ?_
  · rw [← canon_own3 (sz := 5) (xs := xs) ho]; rfl
  · simp [AV.flat, flatL, csl]
set_option maxRecDepth 100000 in
set_option maxHeartbeats 4000000 in
/-- A request that reads the disk is completed. -/
theorem s17r {b0 s0 b s q kk : Nat} {at' st : Int} {d m : List UInt8} {f : List RI} {p : Pt} {t : List Pt} (h : VM m) (hr : RN m.length ((d.map ofB).length / 128) b s false q p t) (hf : f.length ≤ 8) (hk : f[kk]? = some ⟨b, s, q, false, (p :: t).map Pt.toI⟩) :
    Calls0 (evCall FN (k + 10800)) 17 [.agg [.int .u32 b0, .int .u32 s0, .int .i64 at', .int .i64 st, csl 128 (d.map ofB), csl 5 (risV f)], memV m, .int .i64 kk]
      (.agg [.int .u32 b0, .int .u32 s0, .int .i64 at', .int .i64 st, csl 128 (d.map ofB), csl 5 (risV (f.take kk) ++ risV (f.drop (kk + 1))), csl 128 ((markB (scat m t (secB d q (rm t))).1 b 3 (ix (p :: t))).map ofB), .int .u32 0, .sl 1 0 [], .bool true, .bool true]) := by
  have hl := h.le
  have hrv := rn_rv h hr
  have hkl : kk < f.length := (List.getElem?_eq_some_iff.1 hk).1
  have hdv := ris_div f
  have gi : inB (kk : Int) ((risV f).length / 5) = some kk := inB_n (by rw [ris_div]; omega)
  have hrd : rd (risV f) (kk * 5) 5 true = some (.agg [.int .u32 b, .int .u32 s, .int .i64 q, .bool false, csl 4 (ptsV (p :: t))]) := by
    rw [← pis_of]; exact fm_agg riV_length hk
  have hab : asB 1 ((ptsV (p :: t)).length / 4) = some 1 := asB_n (a := 1) (by rw [pts_div]; simp)
  obtain ⟨r1, r2⟩ := rm_pos hr
  have hq := hr.q
  have hq2 : q * 128 + 128 ≤ d.length := by have := hr.q; rw [List.length_map] at this; omega
  have gq : inB (q : Int) ((d.map ofB).length / 128) = some q := inB_n hq
  have hts : ∀ x ∈ t, x.n < 4294967296 := fun x hx => by have := hr.one x (List.mem_cons_of_mem _ hx); omega
  have htl := hr.len
  have c48 : Calls0 (evCall FN (k + 10799)) 48 [csl 4 (ptsV t)] (.int .i64 (rm t)) := (s48 (k := 0) (by omega) hts).fuel (by omega)
  have hin : InM m.length t := fun x hx _ => (hr.one x (List.mem_cons_of_mem _ hx)).2.2.2
  have hsl : (secB d q (rm t)).length ≤ 3000 := by unfold secB; rw [List.length_take]; omega
  have hsn : (secB d q (rm t)).length = rm t := by unfold secB; rw [List.length_take, List.length_drop]; omega
  have c49 : Calls0 (evCall FN (k + 10799)) 49 [memV m, csl 4 (ptsV t), .str (secB d q (rm t))] (.agg [csl 128 ((scat m t (secB d q (rm t))).1.map ofB), .int .i64 (scat m t (secB d q (rm t))).2]) := (s49 (k := 0) h hsl hin (by omega) hts).fuel (by omega)
  have hsm := scat_props (ys := secB d q (rm t)) (n := m.length) (l := t) (r := (m, 0)) hin rfl (Nat.zero_le _)
  have hS : RV (scat m t (secB d q (rm t))).1 b s := by
    have e : (scat m t (secB d q (rm t))).1.length = m.length := hsm.1
    exact ⟨h.of_len e, hrv.hs, hrv.hb, by rw [e]; exact hrv.le⟩
  have c50 : Calls0 (evCall FN (k + 10799)) 50 [memV (scat m t (secB d q (rm t))).1, ringV b s, csl 4 (ptsV (p :: t))] (memV (markB (scat m t (secB d q (rm t))).1 b 3 (ix (p :: t)))) := (s50p (k := 0) hS (fun x hx => (hr.one x hx).1) (by simp; omega)).fuel (by omega)
  have hget : ∀ i, i < rm t → ∃ u, (secB d q (rm t))[i]? = some u ∧ rd (d.map ofB) (q * 128 + i * 1) 1 false = some (ofB u) := by
    intro i hi
    obtain ⟨u, hu⟩ : ∃ u, (secB d q (rm t))[i]? = some u := ⟨_, List.getElem?_eq_getElem (by omega)⟩
    refine ⟨u, hu, ?_⟩
    have : d[q * 128 + i]? = some u := by
      unfold secB at hu
      rw [List.getElem?_take, if_pos hi, List.getElem?_drop] at hu; exact hu
    simp only [rd, Bool.false_eq_true, if_false, Nat.mul_one, List.getElem?_map, this, Option.map_some, ofB, AV.leaf, if_true]
  generalize markB (scat m t (secB d q (rm t))).1 b 3 (ix (p :: t)) = M2 at c50 ⊢
  generalize scat m t (secB d q (rm t)) = S at c49 c50
  generalize secB d q (rm t) = Y at c49 hget hsn
  refine q_call0 fn17 fun T H E lv => ?_
  repeat (first | refine stN ?_ | intro E)
  apply p_slL_lo
  · exact rfl
  · exact csz_ok _ _
  · exact rfl
  · exact hab
  rw [tail_pts, pis_of]
  repeat (first | refine stN ?_ | intro E)
  generalize rm t = R at *
  refine q_loop (α := Nat × Nat × Nat) (LInv.mk (fun i => i.1 ≤ R) (fun i => R - i.1)
    (fun i => [(13, .int .i64 (i.1 : Int)), (12, .sl i.2.1 i.2.2 ((Y.take i.1).map ofB)), (9, .ref 4 0), (8, csl 4 (ptsV t)), (7, .ref 3 0), (6, .ref 2 0), (4, .ref 1 0), (3, .ref 0 0), (2, .int .i64 (kk : Int))])
    (fun i => [(4, [.int .u32 b0, .int .u32 s0, .int .i64 at', .int .i64 st, csl 128 (d.map ofB), csl 5 (risV f)]), (3, [.int .u32 b, .int .u32 s, .int .i64 q, .bool false, csl 4 (ptsV (p :: t))]), (2, [.int .u32 0, .int .u32 0, .int .i64 0, .int .i64 0, .sl 0 0 [], .sl 0 0 [], .sl 0 0 [], .int .u32 0, .sl 0 0 [], .bool false, .bool false]), (1, [csl 128 (m.map ofB)]), (0, [.int .u32 b0, .int .u32 s0, .int .i64 at', .int .i64 st, csl 128 (d.map ofB), csl 5 (risV f)])]))
    (fun i lv c => 4 ≤ c ∧ LA 1 lv c i.2.1 i.2.2 ((Y.take i.1).map ofB)) (0, 0, 0) (Nat.zero_le _) ⟨Nat.le_refl _, LA.nil⟩ (show R - 0 < k + 10799 by omega) ⟨rfl, rfl, rfl, rfl, rfl, rfl, rfl, rfl, rfl, trivial⟩ ⟨rfl, rfl, rfl, rfl, rfl, trivial⟩ ?_
  rintro ⟨i, br, z⟩ lv c T H E hP ⟨hc4, hL⟩ hμ
  have hP : i ≤ R := hP
  clear hμ
  dsimp only at hL ⊢
  rcases Nat.lt_or_ge i R with hi | hi
  · obtain ⟨u, hu, hru⟩ := hget i hi
    have e2 : (Y.take i).map ofB ++ [ofB u] = (Y.take (i + 1)).map ofB := by
      rw [List.take_add_one, hu, List.map_append]; rfl
    obtain ⟨c', rfl⟩ : ∃ c', c = c' + 4 := ⟨c - 4, by omega⟩
    repeat (first | refine stN ?_ | intro E)
    apply p_appL
    · exact rfl
    · exact rfl
    · exact rfl
    · exact hL
    · exact ⟨by omega, by omega⟩
    · rw [List.length_map, List.length_take, room_val]; simp only [List.length_cons, List.length_nil]; omega
    intro lv1 m1 m2
    rw [e2]
    repeat (first | refine stN ?_ | intro E)
    exact n_again (i + 1, c' + 4, 1) (show i + 1 ≤ R by omega) ⟨by omega, LA.mine (by omega) m1⟩ (show R - (i + 1) < R - i by omega) ⟨rfl, rfl, rfl, rfl, rfl, rfl, rfl, rfl, rfl, trivial⟩ ⟨⟨rfl, rfl⟩, ⟨rfl, rfl⟩, ⟨rfl, rfl⟩, ⟨rfl, rfl⟩, ⟨rfl, rfl⟩, trivial⟩
  · obtain rfl : i = R := by omega
    rw [List.take_of_length_le (by omega)] at *
    repeat (first | refine stN ?_ | intro E)
    apply n_exit
    apply b_exit
    repeat (first | refine stN ?_ | intro E)
    apply p_b2s
    · exact rfl
    · rcases hL with ⟨_, h2, h3⟩ | ⟨_, _, _, h2⟩
      · exact .inr ⟨h2, by simpa using h3⟩
      · exact .inl h2
    repeat (first | refine stN ?_ | intro E)
    apply p_slL_hi
    · exact rfl
    · exact csz_ok _ _
    · exact rfl
    · exact asB_n (by rw [ris_div]; omega)
    rw [show ((risV f).take (kk * 5)).drop (0 * 5) = risV (f.take kk) from by rw [Nat.zero_mul, List.drop_zero]; exact fm_take riV_length f kk]
    apply p_appX
    · exact rfl
    · exact rfl
    · exact fun H => src_csl _ _ _
    · exact ⟨by omega, by omega⟩
    · rw [room_val, ris_length, List.length_take]; simp only [List.length_nil]; omega
    · exact .three
    · exact hc4
    intro br1 lv1 c1 g1 g2 g3
    rw [List.nil_append]
    repeat (first | refine stN ?_ | intro E)
    apply p_slL_lo
    · exact rfl
    · exact csz_ok _ _
    · exact rfl
    · exact asB_n (by rw [ris_div]; omega)
    rw [drop_ris]
    apply p_appX
    · exact rfl
    · exact rfl
    · exact fun H => src_csl _ _ _
    · exact ⟨by omega, by omega⟩
    · rw [room_val, ris_length, ris_length, List.length_take, List.length_drop]; omega
    · exact g2
    · omega
    intro br2 lv2 c2 g4 g5 g6
    repeat (first | refine stN ?_ | intro E)
    exact q_ret17 (.inr rfl) g5 rfl rfl
/-- .. where the disk is new too. -/
theorem q_ret17w {s : List (Nat × AV)} {os : List (Nat × List AV)} {T : Nat → AV} {H : Hp} {E : Nat → Option TypeId} {n c : Nat} {lv lv' : Nat → Bool} {fn : IFn} {e : Ex} {b0 s0 br cc id L : Nat} {at' st : Int} {bs : List UInt8} {M xs : List AV} (he : e = .norm ∨ e = .ret) (hw : Own3 lv' cc br)
    (h1 : resS s os fn.res = some [.agg [.int .u32 b0, .int .u32 s0, .int .i64 at', .int .i64 st, .osl id 0 L 128, .sl br 5 xs, csl 128 M, .int .u32 0, .sl 0 0 [], .bool true, .bool true]])
    (hz : (fn.res.all fun | .cell _ sz ag => !(ag && Nat.beq sz 0) | _ => true) = true) (ho : lkO os id = some (bs.map ofB)) (hL : bs.length = 128 * L) :
    Ret fn (.agg [.int .u32 b0, .int .u32 s0, .int .i64 at', .int .i64 st, csl 128 (bs.map ofB), csl 5 xs, csl 128 M, .int .u32 0, .sl 1 0 [], .bool true, .bool true]) e ⟨slots s T, objs os H, E, n, lv, c⟩ := by
  have hf := fin_osl (H := H) ho hL
  refine q_ret he h1 hz ?_ ?_ ?_ ?_
  · show (true && (true && (true && (true && (finOk _ 0 (.osl id 0 L 128) && (true && (true && (true && (true && (true && (true && true))))))))))) = true
    rw [hf.1]; rfl
  · show AV.under 0 (.agg [.int .u32 b0, .int .u32 s0, .int .i64 at', .int .i64 st, finCell _ 0 (.osl id 0 L 128), .sl br 5 xs, csl 128 M, .int .u32 0, .sl 0 0 [], .bool true, .bool true]) = true
    rw [hf.2]; rfl
  · show mapLeaf canonCell (.agg [.int .u32 b0, .int .u32 s0, .int .i64 at', .int .i64 st, finCell _ 0 (.osl id 0 L 128), .sl br 5 xs, csl 128 M, .int .u32 0, .sl 0 0 [], .bool true, .bool true]) = _
    rw [hf.2, ← canon_own3 (sz := 5) (xs := xs) hw]; rfl
  · simp [AV.flat, flatL, csl]
set_option maxRecDepth 100000 in
set_option maxHeartbeats 4000000 in
/-- A request that writes the disk is completed. -/
theorem s17w {b0 s0 b s q kk : Nat} {at' st : Int} {d m : List UInt8} {f : List RI} {p : Pt} {t : List Pt} (h : VM m) (hr : RN m.length ((d.map ofB).length / 128) b s true q p t) (hf : f.length ≤ 8) (hdl : d.length % 128 = 0) (hd : (d.map ofB).length / 128 ≤ 64) (hk : f[kk]? = some ⟨b, s, q, true, (p :: t).map Pt.toI⟩) :
    Calls0 (evCall FN (k + 10800)) 17 [.agg [.int .u32 b0, .int .u32 s0, .int .i64 at', .int .i64 st, csl 128 (d.map ofB), csl 5 (risV f)], memV m, .int .i64 kk]
      (.agg [.int .u32 b0, .int .u32 s0, .int .i64 at', .int .i64 st, csl 128 ((putB d (q * 128) (gath m t)).map ofB), csl 5 (risV (f.take kk) ++ risV (f.drop (kk + 1))), csl 128 ((markB m b 3 (ix (p :: t))).map ofB), .int .u32 0, .sl 1 0 [], .bool true, .bool true]) := by
  have hl := h.le
  have hrv := rn_rv h hr
  have hkl : kk < f.length := (List.getElem?_eq_some_iff.1 hk).1
  have hdv := ris_div f
  have gi : inB (kk : Int) ((risV f).length / 5) = some kk := inB_n (by rw [ris_div]; omega)
  have hrd : rd (risV f) (kk * 5) 5 true = some (.agg [.int .u32 b, .int .u32 s, .int .i64 q, .bool true, csl 4 (ptsV (p :: t))]) := by
    rw [← pis_of]; exact fm_agg riV_length hk
  have hab : asB 1 ((ptsV (p :: t)).length / 4) = some 1 := asB_n (a := 1) (by rw [pts_div]; simp)
  have hq := hr.q
  have hq2 : q * 128 + 128 ≤ d.length := by have := hr.q; rw [List.length_map] at this; omega
  obtain ⟨L, hL⟩ : ∃ L, L = (([] : List AV).length + (d.map ofB).length) / 128 := ⟨_, rfl⟩
  have hL64 : L ≤ 64 := by rw [hL, List.length_nil, Nat.zero_add]; exact hd
  have hLq : q < L := by rw [hL, List.length_nil, Nat.zero_add]; exact hq
  have hdL : d.length = 128 * L := by rw [hL, List.length_nil, Nat.zero_add, List.length_map]; omega
  have gq : inB (q : Int) L = some q := inB_n hLq
  have htl := hr.len
  have hin : InR m.length t := fun x hx _ => (hr.one x (List.mem_cons_of_mem _ hx)).2.2.2
  have c47 : Calls0 (evCall FN (k + 10799)) 47 [memV m, csl 4 (ptsV t)] (.str (gath m t)) := (s47 (k := 0) h hin (by omega)).fuel (by omega)
  have hY := gath_128 hr
  have c50 : Calls0 (evCall FN (k + 10799)) 50 [memV m, ringV b s, csl 4 (ptsV (p :: t))] (memV (markB m b 3 (ix (p :: t)))) := (s50p (k := 0) hrv (fun x hx => (hr.one x hx).1) (by simp; omega)).fuel (by omega)
  generalize markB m b 3 (ix (p :: t)) = M2 at c50 ⊢
  generalize gath m t = Y at c47 hY ⊢
  refine q_call0 fn17 fun T H E lv => ?_
  repeat (first | refine stN ?_ | intro E)
  apply p_slL_lo
  · exact rfl
  · exact csz_ok _ _
  · exact rfl
  · exact hab
  rw [tail_pts, pis_of]
  repeat (first | refine stN ?_ | intro E)
  apply p_appo
  · exact rfl
  · exact .inr rfl
  · exact .inl rfl
  · exact rfl
  · exact src_csl _ _ _
  · exact ⟨by omega, by omega⟩
  · intro e
    have : (d.map ofB).length = 0 := by rw [e]; rfl
    rw [List.length_map] at this; omega
  · rw [room_val, ← hL]; omega
  intro E
  rw [← hL]
  repeat (first | refine stN ?_ | intro E)
  refine q_loop (α := Nat) (LInv.mk (fun i => i ≤ Y.length) (fun i => Y.length - i)
    (fun i => [(11, .int .i64 (i : Int)), (10, .str Y), (9, .ref 4 0), (8, csl 4 (ptsV t)), (7, .ref 3 0), (6, .ref 2 0), (4, .ref 1 0), (3, .ref 0 0), (2, .int .i64 (kk : Int))])
    (fun i => [(5, (putB d (q * 128) (Y.take i)).map ofB), (4, [.int .u32 b0, .int .u32 s0, .int .i64 at', .int .i64 st, .osl 5 0 L 128, csl 5 (risV f)]), (3, [.int .u32 b, .int .u32 s, .int .i64 q, .bool true, csl 4 (ptsV (p :: t))]), (2, [.int .u32 0, .int .u32 0, .int .i64 0, .int .i64 0, .sl 0 0 [], .sl 0 0 [], .sl 0 0 [], .int .u32 0, .sl 0 0 [], .bool false, .bool false]), (1, [csl 128 (m.map ofB)]), (0, [.int .u32 b0, .int .u32 s0, .int .i64 at', .int .i64 st, csl 128 (d.map ofB), csl 5 (risV f)])]))
    (fun _ _ c => c = 4) 0 (Nat.zero_le _) rfl (show Y.length - 0 < k + 10799 by omega) ⟨rfl, rfl, rfl, rfl, rfl, rfl, rfl, rfl, rfl, trivial⟩ ⟨by rw [List.take_zero, putB_nil]; rfl, rfl, rfl, rfl, rfl, rfl, trivial⟩ ?_
  rintro i lv c T H E hP rfl hμ
  have hP : i ≤ Y.length := hP
  clear hμ
  dsimp only
  rcases Nat.lt_or_ge i Y.length with hi | hi
  · obtain ⟨u, hu⟩ : ∃ u, Y[i]? = some u := ⟨_, List.getElem?_eq_getElem hi⟩
    have hst : putS ((putB d (q * 128) (Y.take i)).map ofB) (0 + q * 128 + i * 1) 1 (ofB u) = some ((putB d (q * 128) (Y.take (i + 1))).map ofB) := by
      rw [show 0 + q * 128 + i * 1 = q * 128 + i by omega, ← putB_succ (by omega) hu]
      exact setS_map (by rw [putB_length (by rw [List.length_take]; omega)]; omega)
    repeat (first | refine stN ?_ | intro E)
    exact n_again (i + 1) (show i + 1 ≤ Y.length by omega) rfl (show Y.length - (i + 1) < Y.length - i by omega) ⟨rfl, rfl, rfl, rfl, rfl, rfl, rfl, rfl, rfl, trivial⟩ ⟨⟨rfl, under_ofB _ _⟩, ⟨rfl, rfl⟩, ⟨rfl, rfl⟩, ⟨rfl, rfl⟩, ⟨rfl, rfl⟩, ⟨rfl, rfl⟩, trivial⟩
  · rw [List.take_of_length_le hi]
    repeat (first | refine stN ?_ | intro E)
    apply n_exit
    apply b_exit
    repeat (first | refine stN ?_ | intro E)
    apply p_slL_hi
    · exact rfl
    · exact csz_ok _ _
    · exact rfl
    · exact asB_n (by rw [ris_div]; omega)
    rw [show ((risV f).take (kk * 5)).drop (0 * 5) = risV (f.take kk) from by rw [Nat.zero_mul, List.drop_zero]; exact fm_take riV_length f kk]
    apply p_appX
    · exact rfl
    · exact rfl
    · exact fun H => src_csl _ _ _
    · exact ⟨by omega, by omega⟩
    · rw [room_val, ris_length, List.length_take]; simp only [List.length_nil]; omega
    · exact .three
    · omega
    intro br1 lv1 c1 g1 g2 g3
    rw [List.nil_append]
    repeat (first | refine stN ?_ | intro E)
    apply p_slL_lo
    · exact rfl
    · exact csz_ok _ _
    · exact rfl
    · exact asB_n (by rw [ris_div]; omega)
    rw [drop_ris]
    apply p_appX
    · exact rfl
    · exact rfl
    · exact fun H => src_csl _ _ _
    · exact ⟨by omega, by omega⟩
    · rw [room_val, ris_length, ris_length, List.length_take, List.length_drop]; omega
    · exact g2
    · omega
    intro br2 lv2 c2 g4 g5 g6
    repeat (first | refine stN ?_ | intro E)
    refine q_ret17w (.inr rfl) g5 rfl rfl rfl (by rw [putB_length (by omega)]; exact hdL)
end Go.Proofs.Ythplidagfcdibaa

/- The encoding of an integer, and of a list of them, by the reference. Condition: the integers fit 64 bits. -/
namespace Go.Proofs.Ythplidagfcdibaa
open Go.Abs
variable {k : Nat}
/-- The digits of a number, seven bits each, at most so many. -/
def vlF : Nat → Nat → List UInt8
  | 0, _ => []
  | j + 1, z => if z < 128 then [UInt8.ofNat z] else UInt8.ofNat (z % 128 + 128) :: vlF j (z / 128)
def zz (n : Int) : Nat := if n < 0 then (-1 - n).toNat * 2 + 1 else n.toNat * 2
def encI (n : Int) : List UInt8 := vlF 10 (zz n)
/-- The encoding of a list. -/
def encL (l : List Int) : List UInt8 := encI l.length ++ l.flatMap encI
theorem vlF_len : ∀ (j z : Nat), (vlF j z).length ≤ j
  | 0, _ => Nat.le_refl _
  | j + 1, z => by
    unfold vlF
    split
    · simp
    · have := vlF_len j (z / 128)
      rw [List.length_cons]; omega
theorem vlF_ne {j z : Nat} : vlF (j + 1) z ≠ [] := by
  unfold vlF; split <;> simp
theorem encI_ne (n : Int) : encI n ≠ [] := vlF_ne
theorem encI_len (n : Int) : (encI n).length ≤ 10 := vlF_len _ _
/-- An integer of 64 bits. -/
def I64 (n : Int) : Prop := -9223372036854775808 ≤ n ∧ n < 9223372036854775808
set_option maxRecDepth 100000 in
set_option maxHeartbeats 1000000 in
theorem s91 {n : Int} (h : I64 n) : evP (evCall FN (k + 100)) 91 [.int .i64 n] = some (.sl 2 1 ((encI n).map ofB)) := by
  obtain ⟨h0, h1⟩ := h
  refine q_evP fn91 rfl fun T H E lv => ?_
  obtain ⟨m, hm, hz⟩ : ∃ m : Nat, m < 9223372036854775808 ∧ ((n = m ∧ zz n = m * 2) ∨ (n < 0 ∧ -1 - n = m ∧ zz n = m * 2 + 1)) := by
    by_cases hn : n < 0
    · refine ⟨(-1 - n).toNat, by omega, .inr ⟨hn, by omega, ?_⟩⟩
      unfold zz; rw [if_pos hn]
    · refine ⟨n.toNat, by omega, .inl ⟨by omega, ?_⟩⟩
      unfold zz; rw [if_neg hn]
  have cw : IntKind.u64.wrap (m : Int) = ((m : Nat) : Int) := wu64 (by omega) (by omega)
  have em : evBin .mul (.int .u64 (m : Int)) (.int .u64 2) = some (.int .u64 ((m * 2 : Nat) : Int)) := by
    show some (AV.int .u64 (IntKind.u64.wrap ((m : Int) * 2))) = _
    rw [wu64 (by omega) (by omega)]; simp
  have ea : evBin .add (.int .u64 ((m * 2 : Nat) : Int)) (.int .u64 1) = some (.int .u64 ((m * 2 + 1 : Nat) : Int)) := by
    show some (AV.int .u64 (IntKind.u64.wrap (((m * 2 : Nat) : Int) + 1))) = _
    rw [wu64 (by omega) (by omega)]; simp
  have hE : encI n = vlF 10 (zz n) := rfl
  have hzb : zz n < 128 ^ 10 := by
    have : (128 : Nat) ^ 10 = 1180591620717411303424 := by decide +kernel
    omega
  generalize zz n = Z at hz hE hzb
  rw [hE]
  rcases hz with ⟨rfl, rfl⟩ | ⟨hn, e1, rfl⟩
  case' inr => have es : evBin .sub (.int .i64 (-1)) (.int .i64 n) = some (.int .i64 ((m : Nat) : Int)) := sub_w e1 (by omega) (by omega)
  all_goals
    repeat (first | refine stN ?_ | intro E)
    refine q_loop (α := Nat × Nat × List UInt8 × Nat × Nat) (LInv.mk (fun p => 1 ≤ p.1 ∧ p.2.1 < 128 ^ p.1 ∧ p.2.1 < 18446744073709551616 ∧ p.1 + p.2.2.1.length ≤ 10 ∧ p.2.2.1 ++ vlF p.1 p.2.1 = vlF 10 _) (fun p => p.1)
      (fun p => [(4, .sl p.2.2.2.1 p.2.2.2.2 (p.2.2.1.map ofB)), (3, .int .u64 (p.2.1 : Int))]) (fun p => []))
      (fun p lv c => 4 ≤ c ∧ LA 1 lv c p.2.2.2.1 p.2.2.2.2 (p.2.2.1.map ofB)) (10, _, [], 0, 0) ⟨by omega, hzb, by dsimp only; omega, by simp, rfl⟩ ⟨Nat.le_refl _, LA.nil⟩ (show 10 < k + 99 by omega) ⟨rfl, rfl, trivial⟩ trivial ?_
    rintro ⟨j, z, pre, br, s0⟩ lv c T H E ⟨hj, hz1, hz2, hjl, hp⟩ ⟨hc4, hL⟩ hμ
    dsimp only at hj hz1 hz2 hp hL hjl ⊢
    obtain ⟨j, rfl⟩ : ∃ i, j = i + 1 := ⟨j - 1, by omega⟩
    rcases Nat.lt_or_ge z 128 with hlt | hge
    · rw [vlF, if_pos hlt] at hp
      have cz : IntKind.u8.wrap (z : Int) = ((z : Nat) : Int) := by rw [w8]; omega
      repeat (first | refine stN ?_ | intro E)
      apply n_exit
      apply b_exit
      repeat (first | refine stN ?_ | intro E)
      apply p_appL
      · exact rfl
      · exact rfl
      · exact rfl
      · exact hL
      · exact ⟨by omega, by omega⟩
      · rw [List.length_map, room_val]; simp only [List.length_cons, List.length_nil]; omega
      intro lv' m1 m2
      rw [← hp, List.map_append, List.map_cons, List.map_nil, ofB_le z (by omega)]
      repeat (first | refine stN ?_ | intro E)
      refine q_rets (.inr rfl) rfl rfl rfl rfl rfl ?_
      show ownCell true lv' (.sl c 1 _) = _
      have : ¬ c ≤ 1 := by omega
      simp [ownCell, m1, this, hc4]
    · rw [vlF, if_neg (by omega)] at hp
      have ed : evBin .rem (.int .u64 (z : Int)) (.int .u64 128) = some (.int .u64 ((z % 128 : Nat) : Int)) := rfl
      have eq : evBin .quo (.int .u64 (z : Int)) (.int .u64 128) = some (.int .u64 ((z / 128 : Nat) : Int)) := by
        show some (AV.int .u64 (IntKind.u64.wrap (Int.tdiv (z : Int) 128))) = _
        rw [show Int.tdiv (z : Int) 128 = ((z / 128 : Nat) : Int) from rfl, wu64 (by omega) (by omega)]
      have cz : IntKind.u8.wrap ((z % 128 : Nat) : Int) = ((z % 128 : Nat) : Int) := by rw [w8]; omega
      have e8 : evBin .add (.int .u8 ((z % 128 : Nat) : Int)) (.int .u8 128) = some (.int .u8 ((z % 128 + 128 : Nat) : Int)) := by
        show some (AV.int .u8 (IntKind.u8.wrap (((z % 128 : Nat) : Int) + 128))) = _
        rw [w8]; congr 2; omega
      obtain ⟨c', rfl⟩ : ∃ c', c = c' + 4 := ⟨c - 4, by omega⟩
      repeat (first | refine stN ?_ | intro E)
      apply p_appL
      · exact rfl
      · exact rfl
      · exact rfl
      · exact hL
      · exact ⟨by omega, by omega⟩
      · rw [List.length_map, room_val]; simp only [List.length_cons, List.length_nil]; omega
      intro lv' m1 m2
      have ex : pre.map ofB ++ [AV.int .u8 ((z % 128 + 128 : Nat) : Int)] = (pre ++ [UInt8.ofNat (z % 128 + 128)]).map ofB := by
        rw [List.map_append, List.map_cons, List.map_nil, ofB_le _ (by omega)]
      rw [ex]
      repeat (first | refine stN ?_ | intro E)
      have hj2 : 1 ≤ j := by
        rcases Nat.eq_zero_or_pos j with e | e
        · subst e; simp at hz1; omega
        · exact e
      exact n_again (j, z / 128, pre ++ [UInt8.ofNat (z % 128 + 128)], c' + 4, 1) ⟨hj2, show z / 128 < 128 ^ j from Nat.div_lt_of_lt_mul (by rw [Nat.pow_succ] at hz1; omega), by dsimp only; omega, by simp; omega, by rw [List.append_assoc]; exact hp⟩ ⟨by omega, LA.mine (by omega) m1⟩ (show j < j + 1 by omega) ⟨rfl, rfl, trivial⟩ trivial
theorem c91 {n : Int} (h : I64 n) : Calls0 (evCall FN (k + 100)) 91 [.int .i64 n] (csl 1 ((encI n).map ofB)) := evP_call0 (s91 h) rfl
def iV (l : List Int) : List AV := l.map fun n => .int .i64 n
theorem iV_get {l : List Int} {i : Nat} {n : Int} (h : l[i]? = some n) : rd (iV l) (i * 1) 1 false = some (.int .i64 n) := by
  simp only [rd, Bool.false_eq_true, if_false, Nat.mul_one, iV, List.getElem?_map, h, Option.map_some, AV.leaf, if_true]
theorem encT {l : List Int} {i : Nat} {n : Int} (h : l[i]? = some n) : (l.take (i + 1)).flatMap encI = (l.take i).flatMap encI ++ encI n := by
  rw [List.take_add_one, h, List.flatMap_append]; simp
theorem flat_encI (l : List Int) : (l.flatMap encI).length ≤ 10 * l.length := by
  induction l with
  | nil => simp
  | cons n l ih =>
    have := encI_len n
    simp only [List.flatMap_cons, List.length_append, List.length_cons]; omega
set_option maxRecDepth 100000 in
set_option maxHeartbeats 1000000 in
theorem s66 {l : List Int} (hl : l.length ≤ 5000) (h : ∀ n ∈ l, I64 n) : evP (evCall FN (k + 5200)) 66 [csl 1 (iV l)] = some (.sl 2 1 ((encL l).map ofB)) := by
  have hlen : (iV l).length / 1 = l.length := by unfold iV; simp
  have c0 : evP (evCall FN (k + 5199)) 91 [.int .i64 (l.length : Int)] = some (.sl 2 1 ((encI l.length).map ofB)) := s91 (k := k + 5099) ⟨by omega, by omega⟩
  refine q_evP fn66 rfl fun T H E lv => ?_
  repeat (first | refine stN ?_ | intro E)
  rw [hlen]
  apply p_call1
  · exact rfl
  · exact rfl
  · exact c0
  · exact rfl
  · exact rfl
  · exact rfl
  intro lv0 m1 m2
  rw [show mapLeaf (adoptCell 1 0 4) (AV.sl 2 1 ((encI l.length).map ofB)) = .sl 4 1 ((encI l.length).map ofB) from rfl]
  repeat (first | refine stN ?_ | intro E)
  refine q_loop (α := Nat × Nat) (LInv.mk (fun p => p.1 ≤ l.length) (fun p => l.length - p.1)
    (fun p => [(4, .int .i64 (p.1 : Int)), (3, .sl p.2 1 ((encI l.length ++ (l.take p.1).flatMap encI).map ofB)), (0, csl 1 (iV l))]) (fun p => []))
    (fun p lv c => 4 ≤ c ∧ Own4 lv c p.2) (0, 4) (Nat.zero_le _) ⟨by omega, by omega, by omega, m1⟩ (show l.length - 0 < k + 5199 by omega) ⟨rfl, by simp; rfl, rfl, trivial⟩ trivial ?_
  rintro ⟨i, br⟩ lv c T H E hP ⟨hc4, hL⟩ hμ
  have hP : i ≤ l.length := hP
  clear hμ
  dsimp only at hL ⊢
  rcases Nat.lt_or_ge i l.length with hi | hi
  · obtain ⟨n, hn⟩ : ∃ n, l[i]? = some n := ⟨_, List.getElem?_eq_getElem hi⟩
    have hr := iV_get hn
    have c1 : Calls0 (evCall FN (k + 5199)) 91 [.int .i64 n] (csl 1 ((encI n).map ofB)) := c91 (k := k + 5099) (h n (List.mem_of_getElem? hn))
    have hb := flat_encI (l.take i)
    have hb2 := encI_len n
    have hb3 := encI_len l.length
    rw [List.length_take] at hb
    obtain ⟨c', rfl⟩ : ∃ c', c = c' + 4 := ⟨c - 4, by omega⟩
    repeat (first | refine stN ?_ | intro E)
    apply p_appZ
    · exact rfl
    · exact rfl
    · exact fun H => src_csl _ _ _
    · exact ⟨by omega, by omega⟩
    · rw [List.length_map, List.length_map, List.length_append, room_val]; omega
    · exact hL
    · omega
    intro lv1 g2 g3
    rw [← List.map_append, List.append_assoc, ← encT hn]
    repeat (first | refine stN ?_ | intro E)
    exact n_again (i + 1, c' + 4) (show i + 1 ≤ l.length by omega) ⟨by omega, g2⟩ (show l.length - (i + 1) < l.length - i by omega) ⟨rfl, rfl, rfl, trivial⟩ trivial
  · rw [List.take_of_length_le hi]
    repeat (first | refine stN ?_ | intro E)
    apply n_exit
    apply b_exit
    repeat (first | refine stN ?_ | intro E)
    exact q_rets (.inr rfl) rfl rfl rfl rfl rfl hL.own
end Go.Proofs.Ythplidagfcdibaa
