/- Part 11 of the texts on which proofs about this seat rest: each says what it proves at its own head. No condition. -/
import Derived.Test.YthplidagfcdibaaM10
set_option linter.unusedVariables false
set_option linter.unusedSimpArgs false
/- A request out of its parts, and a refusal: by the reference. Condition: the memory is valid, the ring is there, the parts lie in memory. -/
namespace Go.Proofs.Ythplidagfcdibaa
open Go.Abs
variable {k : Nat}
/-- The cells of a device and what it has done; the same under way, in the program. -/
abbrev gotC (b s : Nat) (at' st : Int) (d : List UInt8) (f : List RI) (m : List UInt8) (v : Nat) (r ok : Bool) : List AV :=
  [.int .u32 b, .int .u32 s, .int .i64 at', .int .i64 st, csl 128 (d.map ofB), csl 5 (risV f), csl 128 (m.map ofB), .int .u32 v, .sl 1 0 [], .bool r, .bool ok]
/-- The error of a request, and the request. -/
def reqE (M : List UInt8) (D : Nat) : List Pt → Nat
  | [] => 161
  | p :: t => if p.n ≠ 8 ∨ p.w = true then 161 else if D ≤ word M p.a ∨ (word M (p.a + 4) ≠ 1 ∧ word M (p.a + 4) ≠ 2) then 161 else fitI (t.map Pt.toI) (decide (word M (p.a + 4) = 2))
def reqR (b s : Nat) (M : List UInt8) (l : List Pt) : RI := ⟨b, s, word M (l.headD ⟨0, 0, 0, false⟩).a, decide (word M ((l.headD ⟨0, 0, 0, false⟩).a + 4) = 2), l.map Pt.toI⟩
theorem fitI_cases (l : List PI) (w : Bool) : fitI l w = 0 ∨ fitI l w = 161 ∨ fitI l w = 164 := by
  unfold fitI; split
  · exact .inr (.inl rfl)
  · split
    · exact .inr (.inr rfl)
    · exact .inl rfl
theorem reqE_cases (M : List UInt8) (D : Nat) (l : List Pt) : reqE M D l = 0 ∨ reqE M D l = 161 ∨ reqE M D l = 164 := by
  unfold reqE; split
  · exact .inr (.inl rfl)
  · split
    · exact .inr (.inl rfl)
    · split
      · exact .inr (.inl rfl)
      · exact fitI_cases _ _
set_option maxRecDepth 100000 in
theorem s103 {b s i e v : Nat} {at' st : Int} {d m : List UInt8} {f : List RI} {r ok : Bool} (h : RV m b s) (hi : i < s) (he : 160 ≤ e ∧ e ≤ 165) :
    Calls0 (evCall FN (k + 10400)) 103 [.agg (gotC b s at' st d f m v r ok), .int .i64 i, .int .i64 e] (.agg (gotC b s at' e d f (mark1 b (4 + (e - 160)) m i) v true ok)) := by
  have c114 : Calls0 (evCall FN (k + 10399)) 114 [memV m, ringV b s, .int .i64 i, .int .i64 e] (memV (mark1 b (4 + (e - 160)) m i)) := (s114 (k := 0) h hi he).fuel (by omega)
  refine q_call0 fn103 fun T H E lv => ?_
  repeat (first | refine stN ?_ | intro E)
  exact q_ret (.inr rfl) rfl rfl rfl rfl rfl rfl
/-- What is known of parts that were taken. -/
structure PtsOK (M : List UInt8) (p : Pt) (t : List Pt) : Prop where
  len : t.length ≤ 4
  one : ∀ q ∈ p :: t, 1 ≤ q.n ∧ q.n ≤ 512 ∧ q.a + q.n ≤ M.length
theorem PtsOK.okN {M : List UInt8} {p : Pt} {t : List Pt} (h : PtsOK M p t) : okN (t.map Pt.toI) := by
  intro x hx
  obtain ⟨q, hq, rfl⟩ := List.mem_map.1 hx
  have := h.one q (List.mem_cons_of_mem _ hq)
  simp only [Pt.toI]; omega
theorem tail_pts (p : Pt) (t : List Pt) : ((ptsV (p :: t)).take ((ptsV (p :: t)).length / 4 * 4)).drop (1 * 4) = pisV (t.map Pt.toI) := by
  have e : (ptsV (p :: t)).length / 4 * 4 = (ptsV (p :: t)).length := by rw [pts_length]; omega
  rw [e, List.take_length, pis_of]; rfl
theorem src_csl (H : Hp) (sz : Nat) (xs : List AV) : src H sz (csl sz xs) = some xs := by
  cases xs <;> simp [src, csl, csz]
theorem ris_length (f : List RI) : (risV f).length = f.length * 5 := fm_length riV_length f
theorem ris_ne {f : List RI} (h : f ≠ []) : risV f ≠ [] := by
  intro e
  have := ris_length f
  rw [e] at this
  have h2 := List.length_pos_iff.2 h
  simp at this; omega
theorem flight_snoc (f : List RI) (r : RI) : risV f ++ riV r = risV (f ++ [r]) := by simp [risV]
set_option maxRecDepth 100000 in
set_option maxHeartbeats 2000000 in
theorem s80 {b s i v : Nat} {at' st : Int} {d m : List UInt8} {f : List RI} {r ok : Bool} {p : Pt} {t : List Pt} (h : RV m b s) (hi : i < s) (hp : PtsOK m p t) (hd : (d.map ofB).length / 128 ≤ 64) (hf : f.length ≤ 8) :
    Calls0 (evCall FN (k + 10500)) 80 [.agg (gotC b s at' st d f m v r ok), .int .i64 i, csl 4 (ptsV (p :: t))]
      (if reqE m ((d.map ofB).length / 128) (p :: t) = 0 then .agg (gotC b s at' st d (f ++ [reqR b s m (p :: t)]) m v r ok) else .agg (gotC b s at' (reqE m ((d.map ofB).length / 128) (p :: t)) d f (mark1 b (4 + (reqE m ((d.map ofB).length / 128) (p :: t) - 160)) m i) v true ok)) := by
  have hl := h.m.le
  obtain ⟨p1, p2, p3⟩ := hp.one p List.mem_cons_self
  have gi : inB 0 ((ptsV (p :: t)).length / 4) = some 0 := inB_n (a := 0) (by rw [pts_div]; simp)
  have hab : asB 1 ((ptsV (p :: t)).length / 4) = some 1 := asB_n (a := 1) (by rw [pts_div]; simp)
  have hp0 : (p :: t)[0]? = some p := rfl
  have hr1 : rd (ptsV (p :: t)) (0 * 4 + 1) 1 false = some (.int .i64 p.a) := rd_pt1 hp0
  have hr2 : rd (ptsV (p :: t)) (0 * 4 + 2) 1 false = some (.int .i64 p.n) := rd_pt2 hp0
  have hr3 : rd (ptsV (p :: t)) (0 * 4 + 3) 1 false = some (.bool p.w) := rd_pt3 hp0
  have c103 : ∀ e, 160 ≤ e ∧ e ≤ 165 → Calls0 (evCall FN (k + 10499)) 103 [.agg (gotC b s at' st d f m v r ok), .int .i64 i, .int .i64 (e : Nat)] (.agg (gotC b s at' e d f (mark1 b (4 + (e - 160)) m i) v true ok)) := fun e he => (s103 (k := 0) h hi he).fuel (by omega)
  have c161 : Calls0 (evCall FN (k + 10499)) 103 [.agg (gotC b s at' st d f m v r ok), .int .i64 i, .int .i64 161] (.agg (gotC b s at' ((161 : Nat) : Int) d f (mark1 b (4 + (161 - 160)) m i) v true ok)) := c103 161 (by omega)
  refine q_call0 fn80 fun T H E lv => ?_
  by_cases hh : p.n ≠ 8 ∨ p.w = true
  · have e : reqE m ((d.map ofB).length / 128) (p :: t) = 161 := if_pos hh
    rw [e, if_neg (by omega)]
    by_cases hn : p.n = 8
    · have hw := hh.resolve_left fun h => h hn
      rw [hw] at hr3
      repeat (first | refine stN ?_ | intro E)
      exact q_ret (.inr rfl) rfl rfl rfl rfl rfl rfl
    · repeat (first | refine stN ?_ | intro E)
      exact q_ret (.inr rfl) rfl rfl rfl rfl rfl rfl
  · have e1 : reqE m ((d.map ofB).length / 128) (p :: t) = _ := if_neg hh
    have hn : p.n = 8 := by omega
    have hw : p.w = false := by cases hq : p.w <;> simp_all
    rw [hw] at hr3
    have c104a : Calls0 (evCall FN (k + 10499)) 104 [memV m, .int .i64 p.a] (.int .i64 (word m p.a)) := (s104 (k := 0) h.m (by omega)).fuel (by omega)
    have c104b : Calls0 (evCall FN (k + 10499)) 104 [memV m, .int .i64 ((p.a + 4 : Nat) : Int)] (.int .i64 (word m (p.a + 4))) := (s104 (k := 0) h.m (by omega)).fuel (by omega)
    have w0 := word_lt m p.a
    have w4 := word_lt m (p.a + 4)
    by_cases hc : (d.map ofB).length / 128 ≤ word m p.a ∨ (word m (p.a + 4) ≠ 1 ∧ word m (p.a + 4) ≠ 2)
    · rw [if_pos hc] at e1
      rw [e1, if_neg (by omega)]
      obtain hx | hx : (d.map ofB).length / 128 ≤ word m p.a ∨ (word m p.a < (d.map ofB).length / 128 ∧ word m (p.a + 4) ≠ 1 ∧ word m (p.a + 4) ≠ 2) := by omega
      all_goals
        repeat (first | refine stN ?_ | intro E)
        exact q_ret (.inr rfl) rfl rfl rfl rfl rfl rfl
    · rw [if_neg hc] at e1
      have hfl : ∀ w, fitI (t.map Pt.toI) w = 0 ∨ fitI (t.map Pt.toI) w = 161 ∨ fitI (t.map Pt.toI) w = 164 := fun w => fitI_cases _ w
      have c68 : ∀ w, Calls0 (evCall FN (k + 10499)) 68 [csl 4 (pisV (t.map Pt.toI)), .bool w] (.int .i64 (fitI (t.map Pt.toI) w)) := fun w => (s68 (k := 0) (by have := hp.len; simp; omega) hp.okN).fuel (by omega)
      have hlt : word m p.a < (d.map ofB).length / 128 := by omega
      obtain hx | hx : word m (p.a + 4) = 1 ∨ word m (p.a + 4) = 2 := by omega
      case' inl => have ed : decide (word m (p.a + 4) = 2) = false := decide_eq_false (by omega)
      case' inr => have ed : decide (word m (p.a + 4) = 2) = true := decide_eq_true (by omega)
      all_goals
        clear hc hh
        have eR : riV (reqR b s m (p :: t)) = [.int .u32 b, .int .u32 s, .int .i64 (word m p.a), .bool (decide (word m (p.a + 4) = 2)), csl 4 (ptsV (p :: t))] := by
          rw [← pis_of]; rfl
        rw [ed] at eR e1
        have c68 := c68 (decide (word m (p.a + 4) = 2))
        have hfl := hfl (decide (word m (p.a + 4) = 2))
        rw [ed] at c68 hfl
        obtain ⟨ft, hft⟩ : ∃ ft, ft = reqE m ((d.map ofB).length / 128) (p :: t) := ⟨_, rfl⟩
        rw [← hft]
        rw [e1] at hft
        rw [← hft] at c68 hfl
        clear e1 hft
        have eF : risV (f ++ [reqR b s m (p :: t)]) = risV f ++ riV (reqR b s m (p :: t)) := (flight_snoc f _).symm
        rw [eR] at eF
        generalize reqR b s m (p :: t) = rq at eF eR ⊢
        generalize word m p.a = sec at hlt w0 c104a eR eF
        generalize word m (p.a + 4) = cmd at w4 c104b hx ed
        by_cases h0 : ft = 0
        · subst h0
          clear hfl
          rw [if_pos rfl]
          repeat (first | refine stN ?_ | intro E)
          apply p_slL_lo
          · exact rfl
          · exact csz_ok _ _
          · exact rfl
          · exact hab
          rw [tail_pts]
          repeat (first | refine stN ?_ | intro E)
          unfold gotC
          rw [eF]
          have hlf := ris_length f
          by_cases hf0 : f = []
          · subst hf0
            apply p_app_nil
            · exact rfl
            · exact .inl rfl
            · exact rfl
            · exact fun H => src_csl _ _ _
            · exact ⟨by omega, by omega⟩
            · exact Nat.zero_le _
            · exact .inr rfl
            repeat (first | refine stN ?_ | intro E)
            apply p_app
            · exact rfl
            · exact .inl rfl
            · exact rfl
            · exact fun H => src_sl _ _ _ _
            · exact ⟨by omega, by omega⟩
            · have : room = 17592186044416 := by decide +kernel
              rw [this]; simp only [List.length_cons, List.length_nil]; omega
            · exact .inr (.inl rfl)
            · exact List.cons_ne_nil _ _
            intro lv' l1 l2
            repeat (first | refine stN ?_ | intro E)
            exact q_ret (.inr rfl) rfl rfl rfl rfl rfl rfl
          · apply p_app
            · exact rfl
            · exact .inl rfl
            · exact rfl
            · exact fun H => src_csl _ _ _
            · exact ⟨by omega, by omega⟩
            · have : room = 17592186044416 := by decide +kernel
              rw [this, hlf]; simp only [List.length_nil]; omega
            · exact .inr (.inl rfl)
            · exact ris_ne hf0
            intro lv' l1 l2
            rw [List.nil_append]
            repeat (first | refine stN ?_ | intro E)
            apply p_app
            · exact rfl
            · exact .inl rfl
            · exact rfl
            · exact fun H => src_sl _ _ _ _
            · exact ⟨by omega, by omega⟩
            · have : room = 17592186044416 := by decide +kernel
              rw [this, hlf]; simp only [List.length_cons, List.length_nil]; omega
            · exact .inr (.inr ⟨by omega, by omega, l1⟩)
            · exact List.cons_ne_nil _ _
            intro lv'' l3 l4
            repeat (first | refine stN ?_ | intro E)
            exact q_ret (.inr rfl) rfl rfl rfl rfl rfl rfl
        · rw [if_neg h0]
          have hfe : 160 ≤ ft ∧ ft ≤ 165 := by omega
          have c103 := c103 ft hfe
          clear hfl
          repeat (first | refine stN ?_ | intro E)
          apply p_slL_lo
          · exact rfl
          · exact csz_ok _ _
          · exact rfl
          · exact hab
          rw [tail_pts]
          repeat (first | refine stN ?_ | intro E)
          exact q_ret (.inr rfl) rfl rfl rfl rfl rfl rfl
end Go.Proofs.Ythplidagfcdibaa

/- A refusal and a request, by the program: methods that write and read the object of the work under way. Condition: the memory is valid, the ring is there, the parts lie in memory. -/
namespace Go.Proofs.Ythplidagfcdibaa
open Go.Abs
variable {k : Nat}
/-- The cells of the work under way. -/
abbrev wrkC (b s : Nat) (at' st : Int) (d : List UInt8) (fl : AV) (m : List UInt8) (v : Nat) (r ok : Bool) : List AV :=
  [csl 128 (m.map ofB), .int .u32 v, .sl 0 0 [], .bool r, .bool ok, .int .u32 b, .int .u32 s, .int .i64 at', .int .i64 st, csl 128 (d.map ofB), fl]
theorem writes_at {F : CallF} {f : FuncId} {args : List AV} {os : List (Nat × List AV)} {H : Hp} {n : Nat} {lv : Nat → Bool} {c : Nat} {E : Nat → Option TypeId} {R : AV} {id i : Nat} {v cells : List AV} (ho : lkO os i = some cells) (h : Writes F f args [(i, cells)] (objs os H) n lv c E R id v) : Writes F f args os H n lv c E R id v := by
  have e : objs [(i, cells)] (objs os H) = objs os H := by
    funext j
    simp only [objs, upd]
    split
    · next hj => rw [hj, lkO_objs ho]
    · rfl
  obtain ⟨h⟩ := h
  rw [e] at h
  exact ⟨h⟩
set_option maxRecDepth 100000 in
set_option maxHeartbeats 2000000 in
theorem s74 {b s i e v c : Nat} {at' st : Int} {d m : List UInt8} {fl : AV} {r ok : Bool} {H : Hp} {E : Nat → Option TypeId} {lv : Nat → Bool} (hu : fl.under 9 = true) (h : RV m b s) (hi : i < s) (he : 160 ≤ e ∧ e ≤ 165) :
    Writes (evCall FN (k + 10500)) 74 [.ref 5 0, .int .i64 i, .int .i64 e] [(5, wrkC b s at' st d fl m v r ok)] H 9 lv c E (.tup []) 5 (wrkC b s at' e d fl (mark1 b (4 + (e - 160)) m i) v true ok) := by
  have c96 : Calls0 (evCall FN (k + 10499)) 96 [memV m, ringV b s, .int .i64 i, .int .i64 e] (memV (mark1 b (4 + (e - 160)) m i)) := (s96 (k := 0) h hi he).fuel (by omega)
  refine q_writes (by omega) ?_ fn74 fun T => ?_
  · simp only [underL, AV.under, csl, hu, Bool.and_self]
  repeat (first | refine stN ?_ | intro E)
  exact q_rets (.inl rfl) rfl rfl rfl rfl rfl ⟨rfl, _, rfl, lkO_objs rfl, (((Same.refl _ _ _).upd (.inl rfl)).upd (.inl rfl)).upd (.inl rfl)⟩
/-- The request that is handed out: none, if it is refused early. -/
def early (M : List UInt8) (D : Nat) (p : Pt) : Prop := (p.n ≠ 8 ∨ p.w = true) ∨ D ≤ word M p.a ∨ (word M (p.a + 4) ≠ 1 ∧ word M (p.a + 4) ≠ 2)
instance (M : List UInt8) (D : Nat) (p : Pt) : Decidable (early M D p) := by unfold early; exact inferInstance
def reqV (M : List UInt8) (D b s : Nat) (p : Pt) (t : List Pt) : List AV := if early M D p then [.int .u32 0, .int .u32 0, .int .i64 0, .bool false, .sl 0 0 []] else riV (reqR b s M (p :: t))
theorem reqE_early {M : List UInt8} {D : Nat} {p : Pt} {t : List Pt} (h : early M D p) : reqE M D (p :: t) = 161 := by
  by_cases h1 : p.n ≠ 8 ∨ p.w = true
  · exact if_pos h1
  · exact (if_neg h1).trans (if_pos (h.resolve_left h1))
theorem reqE_late {M : List UInt8} {D : Nat} {p : Pt} {t : List Pt} (h : ¬ early M D p) : reqE M D (p :: t) = fitI (t.map Pt.toI) (decide (word M (p.a + 4) = 2)) := by
  exact (if_neg fun h1 => h (.inl h1)).trans (if_neg fun h1 => h (.inr h1))
set_option maxRecDepth 100000 in
set_option maxHeartbeats 2000000 in
theorem s73 {b s v c : Nat} {at' st : Int} {d m : List UInt8} {fl : AV} {r ok : Bool} {p : Pt} {t : List Pt} {H : Hp} {E : Nat → Option TypeId} {lv : Nat → Bool} (hu : fl.under 8 = true) (h : RV m b s) (hp : PtsOK m p t) (hd : (d.map ofB).length / 128 ≤ 64) :
    Writes (evCall FN (k + 10500)) 73 [.ref 5 0, csl 4 (ptsV (p :: t))] [(5, wrkC b s at' st d fl m v r ok)] H 8 lv c E (.tup [.agg (reqV m ((d.map ofB).length / 128) b s p t), .int .i64 (reqE m ((d.map ofB).length / 128) (p :: t))]) 5 (wrkC b s at' st d fl m v r ok) := by
  have hl := h.m.le
  obtain ⟨p1, p2, p3⟩ := hp.one p List.mem_cons_self
  have gi : inB 0 ((ptsV (p :: t)).length / 4) = some 0 := inB_n (a := 0) (by rw [pts_div]; simp)
  have hab : asB 1 ((ptsV (p :: t)).length / 4) = some 1 := asB_n (a := 1) (by rw [pts_div]; simp)
  have hp0 : (p :: t)[0]? = some p := rfl
  have hr : rd (ptsV (p :: t)) (0 * 4) 4 true = some (.agg [.int .i64 p.i, .int .i64 p.a, .int .i64 p.n, .bool p.w]) := rd_pt hp0
  have hwd : IntKind.u32.wrap (((d.map ofB).length / 128 : Nat) : Int) = ((d.map ofB).length / 128 : Nat) := w32 (by omega) (by omega)
  refine q_writes (by omega) ?_ fn73 fun T => ?_
  · simp only [underL, AV.under, csl, hu, Bool.and_self]
  by_cases hh : p.n ≠ 8 ∨ p.w = true
  · have hea : early m ((d.map ofB).length / 128) p := .inl hh
    rw [reqE_early hea, show reqV m ((d.map ofB).length / 128) b s p t = _ from if_pos hea]
    by_cases hn : p.n = 8
    · have hw := hh.resolve_left fun h => h hn
      rw [hw] at hr
      repeat (first | refine stN ?_ | intro E)
      exact q_rets (.inr rfl) rfl rfl rfl rfl rfl ⟨rfl, _, rfl, lkO_objs rfl, ((((Same.refl _ _ _).upd (.inr (by omega))).upd (.inr (by omega))).upd (.inr (by omega))).upd (.inr (by omega))⟩
    · repeat (first | refine stN ?_ | intro E)
      exact q_rets (.inr rfl) rfl rfl rfl rfl rfl ⟨rfl, _, rfl, lkO_objs rfl, ((((Same.refl _ _ _).upd (.inr (by omega))).upd (.inr (by omega))).upd (.inr (by omega))).upd (.inr (by omega))⟩
  · have hn : p.n = 8 := by omega
    have hw : p.w = false := by cases hq : p.w <;> simp_all
    rw [hw] at hr
    have c97a : Calls0 (evCall FN (k + 10499)) 97 [memV m, .int .i64 p.a] (.int .u32 (word m p.a)) := (s97 (k := 0) h.m (by omega)).fuel (by omega)
    have c97b : Calls0 (evCall FN (k + 10499)) 97 [memV m, .int .i64 ((p.a + 4 : Nat) : Int)] (.int .u32 (word m (p.a + 4))) := (s97 (k := 0) h.m (by omega)).fuel (by omega)
    have w0 := word_lt m p.a
    have w4 := word_lt m (p.a + 4)
    by_cases hc : (d.map ofB).length / 128 ≤ word m p.a ∨ (word m (p.a + 4) ≠ 1 ∧ word m (p.a + 4) ≠ 2)
    · have hea : early m ((d.map ofB).length / 128) p := .inr hc
      rw [reqE_early hea, show reqV m ((d.map ofB).length / 128) b s p t = _ from if_pos hea]
      have hx : (d.map ofB).length / 128 ≤ word m p.a ∨ (word m p.a < (d.map ofB).length / 128 ∧ word m (p.a + 4) ≠ 1 ∧ word m (p.a + 4) ≠ 2) := by omega
      clear hc hh hea
      generalize word m p.a = sec at w0 c97a hx
      generalize word m (p.a + 4) = cmd at w4 c97b hx
      obtain hx | hx := hx
      all_goals
        repeat (first | refine stN ?_ | intro E)
        exact q_rets (.inr rfl) rfl rfl rfl rfl rfl ⟨rfl, _, rfl, lkO_objs rfl, ((((Same.refl _ _ _).upd (.inr (by omega))).upd (.inr (by omega))).upd (.inr (by omega))).upd (.inr (by omega))⟩
    · have hne : ¬ early m ((d.map ofB).length / 128) p := fun h => h.elim hh hc
      rw [reqE_late hne, show reqV m ((d.map ofB).length / 128) b s p t = _ from if_neg hne]
      have hlt : word m p.a < (d.map ofB).length / 128 := by omega
      have c70 : ∀ w, Calls0 (evCall FN (k + 10499)) 70 [csl 4 (pisV (t.map Pt.toI)), .bool w] (.int .i64 (fitI (t.map Pt.toI) w)) := fun w => (s70 (k := 0) (by have := hp.len; simp; omega) hp.okN).fuel (by omega)
      have hws : IntKind.i64.wrap (word m p.a : Int) = word m p.a := w64 (by omega) (by omega)
      have eR : riV (reqR b s m (p :: t)) = [.int .u32 b, .int .u32 s, .int .i64 (word m p.a), .bool (decide (word m (p.a + 4) = 2)), csl 4 (ptsV (p :: t))] := by
        rw [← pis_of]; rfl
      rw [eR]
      have hx : word m (p.a + 4) = 1 ∨ word m (p.a + 4) = 2 := by omega
      clear hc hh hne eR
      generalize word m p.a = sec at w0 c97a hlt hws ⊢
      generalize word m (p.a + 4) = cmd at w4 c97b hx ⊢
      have c70a := c70 false
      have c70b := c70 true
      clear c70
      obtain rfl | rfl := hx
      case' inl => rw [show decide ((1 : Nat) = 2) = false from rfl]
      case' inr => rw [show decide ((2 : Nat) = 2) = true from rfl]
      all_goals
        repeat (first | refine stN ?_ | intro E)
        apply p_slL_lo
        · exact rfl
        · exact csz_ok _ _
        · exact rfl
        · exact hab
        rw [tail_pts]
        repeat (first | refine stN ?_ | intro E)
        trace_state
        exact q_rets (.inr rfl) rfl rfl rfl rfl rfl ⟨rfl, _, rfl, lkO_objs rfl, ((((((Same.refl _ _ _).upd (.inr (by omega))).upd (.inr (by omega))).upd (.inr (by omega))).upd (.inr (by omega))).upd (.inr (by omega))).upd (.inr (by omega))⟩
end Go.Proofs.Ythplidagfcdibaa

/- What a notification does, and the reference's. Condition: the memory is valid, the ring is there. -/
namespace Go.Proofs.Ythplidagfcdibaa
open Go.Abs
variable {k : Nat}
/-- What a notification changes: where it goes on, the status, the requests in flight, the memory, the interrupt. -/
structure NS where
  a : Nat
  st : Int
  f : List RI
  m : List UInt8
  r : Bool
def ptsOf (m : List UInt8) (b s i : Nat) : List Pt := (takeL m b s i).map (ptOf m b)
/-- What is done with one that is offered. -/
def nserve (b s D i : Nat) (x : NS) : NS :=
  if takeE x.m b s i ≠ 0 then ⟨(i + 1) % s, takeE x.m b s i, x.f, takeM x.m b s i, true⟩
  else if reqE (takeM x.m b s i) D (ptsOf x.m b s i) = 0 then ⟨(i + 1) % s, x.st, x.f ++ [reqR b s (takeM x.m b s i) (ptsOf x.m b s i)], takeM x.m b s i, x.r⟩
  else ⟨(i + 1) % s, reqE (takeM x.m b s i) D (ptsOf x.m b s i), x.f, mark1 b (4 + (reqE (takeM x.m b s i) D (ptsOf x.m b s i) - 160)) (takeM x.m b s i) i, true⟩
def nrun (b s D : Nat) : Nat → NS → NS
  | 0, x => x
  | n + 1, x => if (fstR x.m b s x.a s 0).2 = false ∨ 8 ≤ x.f.length then x else nrun b s D n (nserve b s D (fstR x.m b s x.a s 0).1 x)
structure NI (b s : Nat) (x : NS) : Prop where
  m : RV x.m b s
  a : x.a < s
  f : x.f.length ≤ 8
theorem fstR_lt {m : List UInt8} {b s pos : Nat} (hs : 0 < s) : ∀ (f j : Nat), (fstR m b s pos f j).2 = true → (fstR m b s pos f j).1 < s
  | 0, j, h => by cases h
  | f + 1, j, h => by
    unfold fstR at h ⊢
    split
    · exact Nat.mod_lt _ hs
    · next hn => rw [if_neg hn] at h; exact fstR_lt hs f (j + 1) h
theorem take_rv {m : List UInt8} {b s i : Nat} (h : RV m b s) (hi : i < s) : RV (takeM m b s i) b s := by
  by_cases he : takeE m b s i = 0
  · obtain ⟨h1, h2, _⟩ := take_good hi he
    rw [h2]; exact h.markB fun j hj => (h1.one j hj).1
  · obtain ⟨_, h2, _⟩ := take_bad he
    rw [h2]; split
    · exact h.mark1 hi
    · exact h
theorem markB_len {b s w : Nat} : ∀ {js : List Nat} {m : List UInt8}, RV m b s → (∀ j ∈ js, j < s) → (markB m b w js).length = m.length
  | [], _, _, _ => rfl
  | j :: js, m, h, hj => by
    have hjs := hj j List.mem_cons_self
    have hle := h.le
    have := markB_len (w := w) (h.mark1 (w := w) hjs) fun x hx => hj x (List.mem_cons_of_mem _ hx)
    rw [show markB m b w (j :: js) = markB (mark1 b w m j) b w js from rfl, this]
    exact mark1_length (by omega)
theorem pts_ok {m : List UInt8} {b s i : Nat} (h : RV m b s) (hi : i < s) (he : takeE m b s i = 0) : ∃ p t, ptsOf m b s i = p :: t ∧ PtsOK (takeM m b s i) p t := by
  obtain ⟨h1, h2, h3⟩ := take_good hi he
  obtain ⟨j, js, hj⟩ : ∃ j js, takeL m b s i = j :: js := by
    cases hq : takeL m b s i with
    | nil => rw [hq] at h3; cases h3
    | cons j js => exact ⟨j, js, rfl⟩
  refine ⟨ptOf m b j, js.map (ptOf m b), by unfold ptsOf; rw [hj]; rfl, ?_, ?_⟩
  · have := h1.len
    rw [hj] at this
    simp only [List.length_cons] at this
    rw [List.length_map]; omega
  · intro q hq
    have hq' : q ∈ (takeL m b s i).map (ptOf m b) := by rw [hj]; exact hq
    obtain ⟨x, hx, rfl⟩ := List.mem_map.1 hq'
    obtain ⟨_, _, o3, o4, o5⟩ := h1.one x hx
    have hl : (takeM m b s i).length = m.length := by rw [h2]; exact markB_len h fun j hj => (h1.one j hj).1
    rw [hl]
    exact ⟨o3, o4, o5⟩
theorem nserve_ni {b s D i : Nat} {x : NS} (h : NI b s x) (hi : i < s) (hf : x.f.length < 8) : NI b s (nserve b s D i x) := by
  have hm := take_rv h.m hi
  have hs := h.a
  have hlt : (i + 1) % s < s := Nat.mod_lt _ (by omega)
  unfold nserve
  split
  · exact ⟨hm, hlt, h.f⟩
  · split
    · exact ⟨hm, hlt, by simp only [List.length_append, List.length_singleton]; omega⟩
    · exact ⟨hm.mark1 hi, hlt, h.f⟩
set_option maxRecDepth 100000 in
set_option maxHeartbeats 4000000 in
theorem s46 {b s v at0 : Nat} {st : Int} {d m : List UInt8} {f : List RI} {r ok : Bool} (h : RV m b s) (ha : at0 < s) (hd : (d.map ofB).length / 128 ≤ 64) (hf : f.length ≤ 8) :
    Calls0 (evCall FN (k + 10600)) 46 [.agg (gotC b s at0 st d f m v r ok)]
      (.agg (gotC b s (nrun b s ((d.map ofB).length / 128) s ⟨at0, st, f, m, r⟩).a (nrun b s ((d.map ofB).length / 128) s ⟨at0, st, f, m, r⟩).st d (nrun b s ((d.map ofB).length / 128) s ⟨at0, st, f, m, r⟩).f (nrun b s ((d.map ofB).length / 128) s ⟨at0, st, f, m, r⟩).m v (nrun b s ((d.map ofB).length / 128) s ⟨at0, st, f, m, r⟩).r ok)) := by
  have hb : b < 4294967296 := by have := h.le; have := h.m.le; omega
  have hs := h.hs
  have hs' : s < 4294967296 := by omega
  have hws : IntKind.i64.wrap (s : Int) = s := w64 (by omega) (by omega)
  have hck : chkN m.length b s = 0 := by
    unfold chkN
    rw [if_pos ⟨h.hs, h.hb, h.le⟩]
  have c23 : Calls0 (evCall FN (k + 10599)) 23 [memV m, ringV b s] (.int .i64 (chkN m.length b s)) := (s23 (k := 0) h.m hb hs').fuel (by omega)
  rw [hck] at c23
  generalize hR : nrun b s ((d.map ofB).length / 128) s ⟨at0, st, f, m, r⟩ = R
  refine q_call0 fn46 fun T H E lv => ?_
  repeat (first | refine stN ?_ | intro E)
  refine q_loop (α := Nat × NS) (LInv.mk (fun p => p.1 ≤ s ∧ NI b s p.2 ∧ nrun b s ((d.map ofB).length / 128) (s - p.1) p.2 = R) (fun p => s - p.1)
    (fun p => [(5, .int .i64 (p.1 : Int)), (4, .int .i64 (s : Int)), (2, .ref 1 0), (1, .ref 0 0)])
    (fun p => [(1, [.int .u32 0, .int .u32 0, .int .i64 0, .int .i64 0, .sl 0 0 [], .sl 0 0 [], .sl 0 0 [], .int .u32 0, .sl 0 0 [], .bool false, .bool false]), (0, gotC b s p.2.a p.2.st d p.2.f p.2.m v p.2.r ok)]))
    (fun _ _ c => c = 4) (0, ⟨at0, st, f, m, r⟩) ⟨Nat.zero_le _, ⟨h, ha, hf⟩, hR⟩ rfl (show s - 0 < k + 10599 by omega) ⟨rfl, rfl, rfl, rfl, trivial⟩ ⟨rfl, rfl, trivial⟩ ?_
  rintro ⟨i, x⟩ lv c T H E hP rfl hμ
  obtain ⟨hP, hN, hRx⟩ : i ≤ s ∧ NI b s x ∧ nrun b s ((d.map ofB).length / 128) (s - i) x = R := hP
  clear hμ hR
  dsimp only
  obtain ⟨xa, xst, xf, xm, xr⟩ := x
  obtain ⟨n1, n2, n3⟩ := hN
  dsimp only at n1 n2 n3 hRx ⊢
  have hdv := ris_div xf
  rcases Nat.lt_or_ge i s with hi | hi
  · have hsi : s - i = (s - (i + 1)) + 1 := by omega
    rw [hsi] at hRx
    unfold nrun at hRx
    dsimp only at hRx
    obtain ⟨⟨y, z⟩, hyz⟩ : ∃ q, fstR xm b s xa s 0 = q := ⟨_, rfl⟩
    have hylt := fstR_lt (m := xm) (b := b) (s := s) (pos := xa) (by omega) s 0
    rw [hyz] at hRx hylt
    dsimp only at hRx hylt
    have c78 : Calls0 (evCall FN (k + 10599)) 78 [memV xm, ringV b s, .int .i64 xa] (.agg [.int .i64 y, .bool z]) := (s78 (k := 0) n1 (by omega) hyz).fuel (by omega)
    by_cases hstop : z = false ∨ 8 ≤ xf.length
    · rw [if_pos hstop] at hRx
      subst hRx
      cases z
      · repeat (first | refine stN ?_ | intro E)
        apply n_ret
        repeat (first | refine stN ?_ | intro E)
        exact q_ret (.inr rfl) rfl rfl rfl rfl rfl rfl
      · have hstop : 8 ≤ xf.length := by simpa using hstop
        repeat (first | refine stN ?_ | intro E)
        apply n_ret
        repeat (first | refine stN ?_ | intro E)
        exact q_ret (.inr rfl) rfl rfl rfl rfl rfl rfl
    · rw [if_neg hstop] at hRx
      have hz : z = true := by cases z <;> simp_all
      have hf8 : xf.length < 8 := by omega
      subst hz
      clear hstop
      have hy := hylt rfl
      have c79 : Calls0 (evCall FN (k + 10599)) 79 [memV xm, ringV b s, .int .i64 y] (.agg [csl 128 ((takeM xm b s y).map ofB), csl 4 (partsV xm b (takeL xm b s y)), .int .i64 (takeE xm b s y)]) := (s79 (k := 0) n1 hy).fuel (by omega)
      have hni := nserve_ni (D := (d.map ofB).length / 128) (x := ⟨xa, xst, xf, xm, xr⟩) ⟨n1, n2, n3⟩ hy hf8
      have hrv := take_rv n1 hy
      have hmod : evBin .rem (.int .i64 ((y + 1 : Nat) : Int)) (.int .i64 (s : Int)) = some (.int .i64 (((y + 1) % s : Nat) : Int)) := rem_nn (by omega)
      by_cases he : takeE xm b s y ≠ 0
      · have hsv : nserve b s ((d.map ofB).length / 128) y ⟨xa, xst, xf, xm, xr⟩ = ⟨(y + 1) % s, takeE xm b s y, xf, takeM xm b s y, true⟩ := if_pos he
        rw [hsv] at hni hRx
        generalize takeM xm b s y = M at c79 hni hRx hrv
        generalize partsV xm b (takeL xm b s y) = L at c79
        generalize takeE xm b s y = e at c79 hni hRx he
        clear hsv
        repeat (first | refine stN ?_ | intro E)
        exact n_again (i + 1, ⟨(y + 1) % s, e, xf, M, true⟩) ⟨by omega, hni, hRx⟩ rfl (show s - (i + 1) < s - i by omega) ⟨rfl, rfl, rfl, rfl, trivial⟩ ⟨⟨rfl, rfl⟩, ⟨rfl, rfl⟩, trivial⟩
      · have he : takeE xm b s y = 0 := by omega
        obtain ⟨p, t, hpt, hok⟩ := pts_ok n1 hy he
        have c80 := fun stx rx => s80 (k := k + 99) (b := b) (s := s) (i := y) (v := v) (at' := (((y + 1) % s : Nat) : Int)) (st := stx) (d := d) (m := takeM xm b s y) (f := xf) (r := rx) (ok := ok) hrv hy hok hd n3
        have c80 : Calls0 (evCall FN (k + 10599)) 80 _ _ := c80 xst xr
        have hLp : partsV xm b (takeL xm b s y) = ptsV (p :: t) := by rw [parts_pts, ← hpt]; rfl
        rw [hLp, he] at c79
        have hsv : nserve b s ((d.map ofB).length / 128) y ⟨xa, xst, xf, xm, xr⟩ = _ := if_neg (by simpa using he)
        rw [hpt] at hsv
        rw [hsv] at hni hRx
        clear hsv hLp
        generalize takeM xm b s y = M at c79 c80 hni hRx hrv hok
        clear hok
        by_cases hq : reqE M ((d.map ofB).length / 128) (p :: t) = 0
        · rw [if_pos hq] at hni hRx c80
          clear hq
          generalize reqR b s M (p :: t) = rq at c80 hni hRx
          repeat (first | refine stN ?_ | intro E)
          exact n_again (i + 1, ⟨(y + 1) % s, xst, xf ++ [rq], M, xr⟩) ⟨by omega, hni, hRx⟩ rfl (show s - (i + 1) < s - i by omega) ⟨rfl, rfl, rfl, rfl, trivial⟩ ⟨⟨rfl, rfl⟩, ⟨rfl, rfl⟩, trivial⟩
        · rw [if_neg hq] at hni hRx c80
          generalize reqE M ((d.map ofB).length / 128) (p :: t) = e at c80 hni hRx hq
          clear hq
          repeat (first | refine stN ?_ | intro E)
          exact n_again (i + 1, ⟨(y + 1) % s, e, xf, mark1 b (4 + (e - 160)) M y, true⟩) ⟨by omega, hni, hRx⟩ rfl (show s - (i + 1) < s - i by omega) ⟨rfl, rfl, rfl, rfl, trivial⟩ ⟨⟨rfl, rfl⟩, ⟨rfl, rfl⟩, trivial⟩
  · have : s - i = 0 := by omega
    rw [this] at hRx
    subst hRx
    repeat (first | refine stN ?_ | intro E)
    apply n_exit
    apply b_exit
    repeat (first | refine stN ?_ | intro E)
    exact q_ret (.inr rfl) rfl rfl rfl rfl rfl rfl
end Go.Proofs.Ythplidagfcdibaa

/- A notification, by the program: a method that writes the object of the work under way. Condition: the memory is valid, the ring is there. -/
namespace Go.Proofs.Ythplidagfcdibaa
open Go.Abs
variable {k : Nat}
theorem add_u32 {i : Nat} (h : i + 1 < 4294967296) : evBin .add (.int .u32 (i : Int)) (.int .u32 1) = some (.int .u32 ((i + 1 : Nat) : Int)) := by
  have e : ((i : Int) + 1) = ((i + 1 : Nat) : Int) := by omega
  simp only [evBin, reduceCtorEq, or_self, if_false, if_true, evInt, e]
  rw [w32 (by omega) (by omega)]
/-- The slice of the requests in flight. -/
def FB (br z : Nat) (f : List RI) : Prop := (br = 1 ∧ z = csz 5 (risV f)) ∨ (4 ≤ br ∧ z = 5)
theorem FB.len {br z : Nat} {f : List RI} (h : FB br z f) : z = 5 ∨ risV f = [] := by
  rcases h with ⟨_, rfl⟩ | ⟨_, rfl⟩
  · exact csz_ok _ _
  · exact .inl rfl
theorem FB.cut {br z : Nat} {f : List RI} (h : FB br z f) : z = 5 ∨ (risV f = [] ∧ br < 2) := by
  rcases h with ⟨rfl, rfl⟩ | ⟨_, rfl⟩
  · exact (csz_ok _ _).imp id fun h => ⟨h, by omega⟩
  · exact .inl rfl
theorem FB.ne {br z : Nat} {f : List RI} (h : FB br z f) : br ≠ 0 := by
  rcases h with ⟨rfl, _⟩ | ⟨_, _⟩ <;> omega
theorem zero_late {m : List UInt8} {D b s : Nat} {p : Pt} {t : List Pt} (h : reqE m D (p :: t) = 0) : reqV m D b s p t = riV (reqR b s m (p :: t)) := by
  unfold reqV
  rw [if_neg fun hc => by rw [reqE_early hc] at h; cases h]
set_option maxRecDepth 100000 in
set_option maxHeartbeats 4000000 in
theorem s41 {b s v c at0 x0 : Nat} {st : Int} {d m : List UInt8} {f : List RI} {r ok : Bool} {H : Hp} {E : Nat → Option TypeId} {lv : Nat → Bool} (hc4 : 4 ≤ c) (h : RV m b s) (ha : at0 < s) (hd : (d.map ofB).length / 128 ≤ 64) (hf : f.length ≤ 8) :
    WritesB (evCall FN (k + 10700)) 41 [.ref 5 0, .int .u32 x0] [(5, wrkC b s at0 st d (csl 5 (risV f)) m v r ok)] H 7 lv c E (.tup []) 5
      (fun cs => ∃ br z, FB br z (nrun b s ((d.map ofB).length / 128) s ⟨at0, st, f, m, r⟩).f ∧ cs = wrkC b s (nrun b s ((d.map ofB).length / 128) s ⟨at0, st, f, m, r⟩).a (nrun b s ((d.map ofB).length / 128) s ⟨at0, st, f, m, r⟩).st d (.sl br z (risV (nrun b s ((d.map ofB).length / 128) s ⟨at0, st, f, m, r⟩).f)) (nrun b s ((d.map ofB).length / 128) s ⟨at0, st, f, m, r⟩).m v (nrun b s ((d.map ofB).length / 128) s ⟨at0, st, f, m, r⟩).r ok) := by
  have hb : b < 4294967296 := by have := h.le; have := h.m.le; omega
  have hs := h.hs
  have hs' : s < 4294967296 := by omega
  have hws : IntKind.i64.wrap (s : Int) = s := w64 (by omega) (by omega)
  have hck : chkN m.length b s = 0 := by
    unfold chkN
    rw [if_pos ⟨h.hs, h.hb, h.le⟩]
  have c69 : Calls0 (evCall FN (k + 10699)) 69 [memV m, ringV b s] (.int .i64 (chkN m.length b s)) := (s69 (k := 0) h.m hb hs').fuel (by omega)
  rw [hck] at c69
  generalize hR : nrun b s ((d.map ofB).length / 128) s ⟨at0, st, f, m, r⟩ = R
  refine q_writesB (by omega) fn41 fun T => ?_
  repeat (first | refine stN ?_ | intro E)
  refine q_loopX (α := Nat × NS × Nat × Nat) (LInv.mk (fun p => p.1 ≤ s ∧ NI b s p.2.1 ∧ FB p.2.2.1 p.2.2.2 p.2.1.f ∧ nrun b s ((d.map ofB).length / 128) (s - p.1) p.2.1 = R) (fun p => s - p.1)
    (fun p => [(35, .int .u32 (p.1 : Int)), (34, .int .u32 (s : Int)), (0, .ref 5 0)])
    (fun p => [(5, wrkC b s p.2.1.a p.2.1.st d (.sl p.2.2.1 p.2.2.2 (risV p.2.1.f)) p.2.1.m v p.2.1.r ok)]))
    (fun _ _ c' => c ≤ c') (Same 7 5 (objs [(5, wrkC b s at0 st d (csl 5 (risV f)) m v r ok)] H)) (0, ⟨at0, st, f, m, r⟩, 1, csz 5 (risV f)) ⟨Nat.zero_le _, ⟨h, ha, hf⟩, .inl ⟨rfl, rfl⟩, hR⟩ (Nat.le_refl _) (Same.refl _ _ _) (show s - 0 < k + 10699 by omega) ⟨rfl, rfl, rfl, trivial⟩ ⟨rfl, trivial⟩ ?_
  rintro ⟨i, x, br, z⟩ lv c1 T H1 E hP hc1 hS hμ
  obtain ⟨hP, hN, hB, hRx⟩ : i ≤ s ∧ NI b s x ∧ FB br z x.f ∧ nrun b s ((d.map ofB).length / 128) (s - i) x = R := hP
  have hc1 : c ≤ c1 := hc1
  clear hμ hR c69
  dsimp only at hS ⊢
  generalize objs [(5, wrkC b s at0 st d (csl 5 (risV f)) m v r ok)] H = H0 at hS ⊢
  obtain ⟨xa, xst, xf, xm, xr⟩ := x
  obtain ⟨n1, n2, n3⟩ := hN
  dsimp only at n1 n2 n3 hRx hB hS ⊢
  have hdv := ris_div xf
  have hzl := hB.len
  rcases Nat.lt_or_ge i s with hi | hi
  · have hsi : s - i = (s - (i + 1)) + 1 := by omega
    rw [hsi] at hRx
    unfold nrun at hRx
    dsimp only at hRx
    obtain ⟨⟨y, w⟩, hyz⟩ : ∃ q, fstR xm b s xa s 0 = q := ⟨_, rfl⟩
    have hylt := fstR_lt (m := xm) (b := b) (s := s) (pos := xa) (by omega) s 0
    rw [hyz] at hRx hylt
    dsimp only at hRx hylt
    have c71 : Calls0 (evCall FN (k + 10699)) 71 [memV xm, ringV b s, .int .i64 xa] (.tup [.int .i64 y, .bool w]) := (s71 (k := 0) n1 (by omega) hyz).fuel (by omega)
    have hadd := add_u32 (i := i) (by omega)
    by_cases hstop : w = false ∨ 8 ≤ xf.length
    · rw [if_pos hstop] at hRx
      subst hRx
      cases w
      · repeat (first | refine stN ?_ | intro E)
        apply x_exit
        repeat (first | refine stN ?_ | intro E)
        exact q_rets (.inl rfl) rfl rfl rfl rfl rfl ⟨rfl, _, _, _, rfl, hc1, ⟨br, z, hB, lkO_objs rfl⟩, by rw [lkO_objs (show lkO _ 5 = some _ from rfl)]; rfl, hS⟩
      · have hstop : 8 ≤ xf.length := by simpa using hstop
        repeat (first | refine stN ?_ | intro E)
        apply x_exit
        repeat (first | refine stN ?_ | intro E)
        exact q_rets (.inl rfl) rfl rfl rfl rfl rfl ⟨rfl, _, _, _, rfl, hc1, ⟨br, z, hB, lkO_objs rfl⟩, by rw [lkO_objs (show lkO _ 5 = some _ from rfl)]; rfl, hS⟩
    · rw [if_neg hstop] at hRx
      have hw : w = true := by cases w <;> simp_all
      have hf8 : xf.length < 8 := by omega
      subst hw
      clear hstop
      have hy := hylt rfl
      have c72 : Calls0 (evCall FN (k + 10699)) 72 [memV xm, ringV b s, .int .i64 y] (.tup [memV (takeM xm b s y), csl 4 (partsV xm b (takeL xm b s y)), .int .i64 (takeE xm b s y)]) := (s72 (k := 0) n1 hy).fuel (by omega)
      have hni := nserve_ni (D := (d.map ofB).length / 128) (x := ⟨xa, xst, xf, xm, xr⟩) ⟨n1, n2, n3⟩ hy hf8
      have hrv := take_rv n1 hy
      have hmod : evBin .rem (.int .i64 ((y + 1 : Nat) : Int)) (.int .i64 (s : Int)) = some (.int .i64 (((y + 1) % s : Nat) : Int)) := rem_nn (by omega)
      by_cases he : takeE xm b s y ≠ 0
      · have hsv : nserve b s ((d.map ofB).length / 128) y ⟨xa, xst, xf, xm, xr⟩ = ⟨(y + 1) % s, takeE xm b s y, xf, takeM xm b s y, true⟩ := if_pos he
        rw [hsv] at hni hRx
        generalize takeM xm b s y = M at c72 hni hRx hrv
        generalize partsV xm b (takeL xm b s y) = L at c72
        generalize takeE xm b s y = e at c72 hni hRx he
        clear hsv
        repeat (first | refine stN ?_ | intro E)
        exact x_again (i + 1, ⟨(y + 1) % s, e, xf, M, true⟩, br, z) ⟨by omega, hni, hB, hRx⟩ hc1 (Same.keep (by repeat (first | exact hS | refine Same.cons ?_ rfl)) (by omega)) (show s - (i + 1) < s - i by omega) ⟨rfl, rfl, rfl, trivial⟩ ⟨⟨rfl, rfl⟩, trivial⟩
      · have he : takeE xm b s y = 0 := by omega
        obtain ⟨p, t, hpt, hok⟩ := pts_ok n1 hy he
        have hLp : partsV xm b (takeL xm b s y) = ptsV (p :: t) := by rw [parts_pts, ← hpt]; rfl
        rw [hLp, he] at c72
        have hsv : nserve b s ((d.map ofB).length / 128) y ⟨xa, xst, xf, xm, xr⟩ = _ := if_neg (by simpa using he)
        rw [hpt] at hsv
        rw [hsv] at hni hRx
        clear hsv hLp
        generalize takeM xm b s y = M at c72 hni hRx hrv hok
        have c73 := fun H E lv => s73 (k := k + 199) (b := b) (s := s) (v := v) (c := c1) (at' := (((y + 1) % s : Nat) : Int)) (st := xst) (d := d) (m := M) (fl := .sl br z (risV xf)) (r := xr) (ok := ok) (H := H) (E := E) (lv := lv) rfl hrv hok hd
        by_cases hq : reqE M ((d.map ofB).length / 128) (p :: t) = 0
        · rw [if_pos hq] at hni hRx
          simp only [hq, zero_late hq] at c73
          clear hq hok
          generalize reqR b s M (p :: t) = rq at c73 hni hRx
          have htk : (risV xf).take ((risV xf).length / 5 * 5) = risV xf := List.take_of_length_le (by rw [ris_div, ris_length]; exact Nat.le_refl _)
          repeat (first | refine stN ?_ | intro E)
          apply p_writesX (args := [.ref 5 0, csl 4 (ptsV (p :: t))]) (id := 5) (n0 := 7) (H0 := H0) (os' := [(5, wrkC b s (((y + 1) % s : Nat) : Int) xst d (.sl br z (risV xf)) M v xr ok), (7, [csl 128 (M.map ofB)])])
          · exact rfl
          · exact fun H E => writes_at rfl (c73 (objs _ H) E lv)
          · exact ⟨.inl ⟨rfl, rfl⟩, .inr ⟨rfl, rfl, rfl, rfl⟩, trivial⟩
          · exact (by repeat (first | exact hS | refine Same.cons ?_ rfl))
          · omega
          intro H2 hS2
          repeat (first | refine stN ?_ | intro E)
          apply p_slL_m3
          · exact rfl
          · exact hB.ne
          · exact hB.cut
          · exact rfl
          · exact rfl
          · exact Nat.le_refl _
          rw [htk]
          repeat (first | refine stN ?_ | intro E)
          apply p_app
          · exact rfl
          · exact .inl rfl
          · exact rfl
          · exact fun H => src_sl _ _ _ _
          · exact ⟨by omega, by omega⟩
          · have : room = 17592186044416 := by decide +kernel
            rw [this, ris_length]; simp only [List.length_cons, List.length_nil]; omega
          · exact .inr (.inl rfl)
          · exact List.cons_ne_nil _ _
          intro lv' l1 l2
          repeat (first | refine stN ?_ | intro E)
          exact x_again (i + 1, ⟨(y + 1) % s, xst, xf ++ [rq], M, xr⟩, c1, 5) ⟨by omega, hni, .inr ⟨show 4 ≤ c1 by omega, rfl⟩, hRx⟩ (show c ≤ c1 + 1 by omega) (Same.keep (by repeat (first | exact hS2 | refine Same.cons ?_ rfl)) (by omega)) (show s - (i + 1) < s - i by omega) ⟨rfl, rfl, rfl, trivial⟩ ⟨⟨by rw [← flight_snoc]; rfl, rfl⟩, trivial⟩
        · rw [if_neg hq] at hni hRx
          have hV : ∃ u0 u1 u2 u3 u4, reqV M ((d.map ofB).length / 128) b s p t = [u0, u1, u2, u3, u4] := by
            unfold reqV
            split
            · exact ⟨_, _, _, _, _, rfl⟩
            · exact ⟨_, _, _, _, _, rfl⟩
          obtain ⟨u0, u1, u2, u3, u4, hV⟩ := hV
          have hec := reqE_cases M ((d.map ofB).length / 128) (p :: t)
          simp only [hV] at c73
          clear hV hok
          generalize reqE M ((d.map ofB).length / 128) (p :: t) = e at c73 hni hRx hq hec
          have he' : 160 ≤ e ∧ e ≤ 165 := by omega
          have c74 := fun H E lv => s74 (k := k + 199) (b := b) (s := s) (i := y) (v := v) (c := c1) (at' := (((y + 1) % s : Nat) : Int)) (st := xst) (d := d) (m := M) (fl := .sl br z (risV xf)) (r := xr) (ok := ok) (H := H) (E := E) (lv := lv) rfl hrv hy he'
          clear hec
          repeat (first | refine stN ?_ | intro E)
          apply p_writesX (args := [.ref 5 0, csl 4 (ptsV (p :: t))]) (id := 5) (n0 := 7) (H0 := H0) (os' := [(5, wrkC b s (((y + 1) % s : Nat) : Int) xst d (.sl br z (risV xf)) M v xr ok), (7, [csl 128 (M.map ofB)])])
          · exact rfl
          · exact fun H E => writes_at rfl (c73 (objs _ H) E lv)
          · exact ⟨.inl ⟨rfl, rfl⟩, .inr ⟨rfl, rfl, rfl, rfl⟩, trivial⟩
          · exact (by repeat (first | exact hS | refine Same.cons ?_ rfl))
          · omega
          intro H2 hS2
          repeat (first | refine stN ?_ | intro E)
          apply p_writesX (args := [.ref 5 0, .int .i64 y, .int .i64 e]) (id := 5) (n0 := 7) (H0 := H0) (os' := [(5, wrkC b s (((y + 1) % s : Nat) : Int) e d (.sl br z (risV xf)) (mark1 b (4 + (e - 160)) M y) v true ok)])
          · exact rfl
          · exact fun H E => writes_at rfl (c74 (objs _ H) E lv)
          · exact ⟨.inl ⟨rfl, rfl⟩, trivial⟩
          · exact (by repeat (first | exact hS2 | refine Same.cons ?_ rfl))
          · omega
          intro H3 hS3
          repeat (first | refine stN ?_ | intro E)
          exact x_again (i + 1, ⟨(y + 1) % s, e, xf, mark1 b (4 + (e - 160)) M y, true⟩, br, z) ⟨by omega, hni, hB, hRx⟩ hc1 (Same.keep (by repeat (first | exact hS3 | refine Same.cons ?_ rfl)) (by omega)) (show s - (i + 1) < s - i by omega) ⟨rfl, rfl, rfl, trivial⟩ ⟨⟨rfl, rfl⟩, trivial⟩
  · have : s - i = 0 := by omega
    rw [this] at hRx
    subst hRx
    repeat (first | refine stN ?_ | intro E)
    apply x_exit
    repeat (first | refine stN ?_ | intro E)
    exact q_rets (.inl rfl) rfl rfl rfl rfl rfl ⟨rfl, _, _, _, rfl, hc1, ⟨br, z, hB, lkO_objs rfl⟩, by rw [lkO_objs (show lkO _ 5 = some _ from rfl)]; rfl, hS⟩
end Go.Proofs.Ythplidagfcdibaa

/- A notification of any ring: by the program and by the reference. Condition: the memory is valid; the numbers are words. -/
namespace Go.Proofs.Ythplidagfcdibaa
open Go.Abs
variable {k : Nat}
/-- What a notification does. -/
def ntf (b s D : Nat) (x : NS) : NS := if chkN x.m.length b s = 0 then nrun b s D s x else ⟨x.a, chkN x.m.length b s, x.f, x.m, x.r⟩
set_option maxRecDepth 100000 in
theorem ntf_ref {b s v at0 : Nat} {st : Int} {d m : List UInt8} {f : List RI} {r ok : Bool} (h : VM m) (hb : b < 4294967296) (hs : s < 4294967296) (ha : chkN m.length b s = 0 → at0 < s) (hd : (d.map ofB).length / 128 ≤ 64) (hf : f.length ≤ 8) {R : NS} (hR : ntf b s ((d.map ofB).length / 128) ⟨at0, st, f, m, r⟩ = R) :
    Calls0 (evCall FN (k + 10600)) 46 [.agg (gotC b s at0 st d f m v r ok)] (.agg (gotC b s R.a R.st d R.f R.m v R.r ok)) := by
  by_cases hc : chkN m.length b s = 0
  · have e : ntf b s ((d.map ofB).length / 128) ⟨at0, st, f, m, r⟩ = nrun b s ((d.map ofB).length / 128) s ⟨at0, st, f, m, r⟩ := if_pos hc
    rw [e] at hR
    subst hR
    exact s46 (chkN_ok h hc) (ha hc) hd hf
  · have e : ntf b s ((d.map ofB).length / 128) ⟨at0, st, f, m, r⟩ = ⟨at0, chkN m.length b s, f, m, r⟩ := if_neg hc
    rw [e] at hR
    subst hR
    have c23 : Calls0 (evCall FN (k + 10599)) 23 [memV m, ringV b s] (.int .i64 (chkN m.length b s)) := (s23 (k := 0) h hb hs).fuel (by omega)
    dsimp only
    generalize chkN m.length b s = e at c23 hc ⊢
    refine q_call0 fn46 fun T H E lv => ?_
    repeat (first | refine stN ?_ | intro E)
    exact q_ret (.inr rfl) rfl rfl rfl rfl rfl rfl
set_option maxRecDepth 100000 in
theorem ntf_prog {b s v c at0 x0 : Nat} {st : Int} {d m : List UInt8} {f : List RI} {r ok : Bool} {H : Hp} {E : Nat → Option TypeId} {lv : Nat → Bool} (hc4 : 4 ≤ c) (h : VM m) (hb : b < 4294967296) (hs : s < 4294967296) (ha : chkN m.length b s = 0 → at0 < s) (hd : (d.map ofB).length / 128 ≤ 64) (hf : f.length ≤ 8) {R : NS} (hR : ntf b s ((d.map ofB).length / 128) ⟨at0, st, f, m, r⟩ = R) :
    WritesB (evCall FN (k + 10700)) 41 [.ref 5 0, .int .u32 x0] [(5, wrkC b s at0 st d (csl 5 (risV f)) m v r ok)] H 7 lv c E (.tup []) 5 (fun cs => ∃ br z, FB br z R.f ∧ cs = wrkC b s R.a R.st d (.sl br z (risV R.f)) R.m v R.r ok) := by
  by_cases hc : chkN m.length b s = 0
  · have e : ntf b s ((d.map ofB).length / 128) ⟨at0, st, f, m, r⟩ = nrun b s ((d.map ofB).length / 128) s ⟨at0, st, f, m, r⟩ := if_pos hc
    rw [e] at hR
    subst hR
    exact s41 hc4 (chkN_ok h hc) (ha hc) hd hf
  · have e : ntf b s ((d.map ofB).length / 128) ⟨at0, st, f, m, r⟩ = ⟨at0, chkN m.length b s, f, m, r⟩ := if_neg hc
    rw [e] at hR
    subst hR
    have c69 : Calls0 (evCall FN (k + 10699)) 69 [memV m, ringV b s] (.int .i64 (chkN m.length b s)) := (s69 (k := 0) h hb hs).fuel (by omega)
    dsimp only
    generalize chkN m.length b s = e at c69 hc ⊢
    refine q_writesB (by omega) fn41 fun T => ?_
    repeat (first | refine stN ?_ | intro E)
    exact q_rets (.inr rfl) rfl rfl rfl rfl rfl ⟨rfl, _, _, _, rfl, Nat.le_refl _, ⟨1, csz 5 (risV f), .inl ⟨rfl, rfl⟩, lkO_objs rfl⟩, by rw [lkO_objs (show lkO _ 5 = some _ from rfl)]; rfl, (by repeat (first | exact Same.refl _ _ _ | refine Same.cons ?_ rfl))⟩
/-- The ring's base is set, or its size. -/
theorem s39 {b s v c x0 : Nat} {at' st : Int} {d m : List UInt8} {fl : AV} {r ok : Bool} {H : Hp} {E : Nat → Option TypeId} {lv : Nat → Bool} (hu : fl.under 7 = true) :
    Writes (evCall FN (k + 1)) 39 [.ref 5 0, .int .u32 x0] [(5, wrkC b s at' st d fl m v r ok)] H 7 lv c E (.tup []) 5 (wrkC x0 s 0 st d fl m v r ok) := by
  refine q_writes (by omega) ?_ fn39 fun T => ?_
  · simp only [underL, AV.under, csl, hu, Bool.and_self]
  repeat (first | refine stN ?_ | intro E)
  exact q_rets (.inl rfl) rfl rfl rfl rfl rfl ⟨rfl, _, rfl, lkO_objs rfl, (by repeat (first | exact Same.refl _ _ _ | refine Same.cons ?_ rfl))⟩
theorem s40 {b s v c x0 : Nat} {at' st : Int} {d m : List UInt8} {fl : AV} {r ok : Bool} {H : Hp} {E : Nat → Option TypeId} {lv : Nat → Bool} (hu : fl.under 7 = true) :
    Writes (evCall FN (k + 1)) 40 [.ref 5 0, .int .u32 x0] [(5, wrkC b s at' st d fl m v r ok)] H 7 lv c E (.tup []) 5 (wrkC b x0 0 st d fl m v r ok) := by
  refine q_writes (by omega) ?_ fn40 fun T => ?_
  · simp only [underL, AV.under, csl, hu, Bool.and_self]
  repeat (first | refine stN ?_ | intro E)
  exact q_rets (.inl rfl) rfl rfl rfl rfl rfl ⟨rfl, _, rfl, lkO_objs rfl, (by repeat (first | exact Same.refl _ _ _ | refine Same.cons ?_ rfl))⟩
end Go.Proofs.Ythplidagfcdibaa

/- What an instruction of the device does, by the program. Condition: the memory is valid; the numbers are words. -/
namespace Go.Proofs.Ythplidagfcdibaa
open Go.Abs
variable {k : Nat}
theorem writes_atB {F : CallF} {f : FuncId} {args : List AV} {os : List (Nat × List AV)} {H : Hp} {n : Nat} {lv : Nat → Bool} {c : Nat} {E : Nat → Option TypeId} {R : AV} {id i : Nat} {cells : List AV} {V : List AV → Prop} (ho : lkO os i = some cells) (h : WritesB F f args [(i, cells)] (objs os H) n lv c E R id V) : WritesB F f args os H n lv c E R id V := by
  have e : objs [(i, cells)] (objs os H) = objs os H := by
    funext j
    simp only [objs, upd]
    split
    · next hj => rw [hj, lkO_objs ho]
    · rfl
  obtain ⟨h⟩ := h
  rw [e] at h
  exact ⟨h⟩
/-- A device, and what it has done. -/
structure PO where
  b : Nat
  s : Nat
  a : Nat
  st : Int
  f : List RI
  m : List UInt8
  v : Nat
  r : Bool
  ok : Bool
def port1 (b s D : Nat) (x : NS) (inn : Bool) (port : Int) (val : Nat) : PO :=
  if inn then
    if port = 48 then ⟨b, s, x.a, x.st, x.f, x.m, b, x.r, true⟩
    else if port = 49 then ⟨b, s, x.a, x.st, x.f, x.m, s, x.r, true⟩
    else if port = 51 then ⟨b, s, x.a, 0, x.f, x.m, x.st.toNat, x.r, true⟩
    else ⟨b, s, x.a, x.st, x.f, x.m, 0, x.r, false⟩
  else
    if port = 48 then ⟨val, s, 0, x.st, x.f, x.m, 0, x.r, true⟩
    else if port = 49 then ⟨b, val, 0, x.st, x.f, x.m, 0, x.r, true⟩
    else if port = 50 then ⟨b, s, (ntf b s D x).a, (ntf b s D x).st, (ntf b s D x).f, (ntf b s D x).m, 0, (ntf b s D x).r, true⟩
    else ⟨b, s, x.a, x.st, x.f, x.m, 0, x.r, false⟩
abbrev poB (d : List UInt8) (p : PO) : List AV := [.int .u32 p.b, .int .u32 p.s, .int .i64 p.a, .int .i64 p.st, csl 128 (d.map ofB), csl 5 (risV p.f)]
abbrev poD (p : PO) : List AV := [csl 128 (p.m.map ofB), .int .u32 p.v, .sl 1 0 [], .bool p.r, .bool p.ok]
set_option maxRecDepth 100000 in
set_option maxHeartbeats 4000000 in
theorem s14i {b s a val : Nat} {st port : Int} {d m : List UInt8} {f : List RI} (hst : 0 ≤ st ∧ st < 4294967296) :
    Calls0 (evCall FN (k + 10800)) 14 [.agg [.int .u32 b, .int .u32 s, .int .i64 a, .int .i64 st, csl 128 (d.map ofB), csl 5 (risV f)], memV m, .agg [.bool true, .int .i64 port, .int .u32 val]]
      (.tup [.agg (poB d (port1 b s ((d.map ofB).length / 128) ⟨a, st, f, m, false⟩ true port val)), .agg (poD (port1 b s ((d.map ofB).length / 128) ⟨a, st, f, m, false⟩ true port val))]) := by
  have hws : IntKind.u32.wrap st = (st.toNat : Int) := by rw [w32 (by omega) (by omega)]; omega
  refine q_call0 fn14 fun T H E lv => ?_
  unfold port1
  rw [if_pos rfl]
  by_cases h1 : port = 48
  · subst h1
    rw [if_pos rfl]
    repeat (first | refine stN ?_ | intro E)
    exact q_ret (.inr rfl) rfl rfl rfl rfl rfl rfl
  · rw [if_neg h1]
    by_cases h2 : port = 49
    · subst h2
      rw [if_pos rfl]
      repeat (first | refine stN ?_ | intro E)
      exact q_ret (.inr rfl) rfl rfl rfl rfl rfl rfl
    · rw [if_neg h2]
      by_cases h3 : port = 51
      · subst h3
        rw [if_pos rfl]
        repeat (first | refine stN ?_ | intro E)
        exact q_ret (.inr rfl) rfl rfl rfl rfl rfl rfl
      · rw [if_neg h3]
        repeat (first | refine stN ?_ | intro E)
        exact q_ret (.inr rfl) rfl rfl rfl rfl rfl rfl
set_option maxRecDepth 100000 in
set_option maxHeartbeats 4000000 in
theorem s14o {b s a val : Nat} {st port : Int} {d m : List UInt8} {f : List RI} (h : VM m) (hb : b < 4294967296) (hs : s < 4294967296) (ha : chkN m.length b s = 0 → a < s) (hd : (d.map ofB).length / 128 ≤ 64) (hf : f.length ≤ 8) :
    Calls0 (evCall FN (k + 10800)) 14 [.agg [.int .u32 b, .int .u32 s, .int .i64 a, .int .i64 st, csl 128 (d.map ofB), csl 5 (risV f)], memV m, .agg [.bool false, .int .i64 port, .int .u32 val]]
      (.tup [.agg (poB d (port1 b s ((d.map ofB).length / 128) ⟨a, st, f, m, false⟩ false port val)), .agg (poD (port1 b s ((d.map ofB).length / 128) ⟨a, st, f, m, false⟩ false port val))]) := by
  refine q_call0 fn14 fun T H E lv => ?_
  unfold port1
  rw [if_neg (by decide)]
  by_cases h1 : port = 48
  · subst h1
    rw [if_pos rfl]
    repeat (first | refine stN ?_ | intro E)
    apply p_callvR (os' := [(5, wrkC val s 0 st d (csl 5 (risV f)) m 0 false true), (3, [.int .u32 0, .int .u32 0, .int .i64 0, .int .i64 0, .sl 0 0 [], .sl 0 0 []]), (4, [.sl 0 0 [], .int .u32 0, .sl 0 0 [], .bool false, .bool false])])
    · exact rfl
    · exact rfl
    · exact fun H E => writes_at rfl ((s39 (k := 0) rfl).fuel (by omega))
    · exact ⟨.inl ⟨rfl, rfl⟩, .inr ⟨rfl, rfl, rfl, rfl⟩, .inr ⟨rfl, rfl, rfl, rfl⟩, trivial⟩
    intro H2
    repeat (first | refine stN ?_ | intro E)
    exact q_ret (.inr rfl) rfl rfl rfl rfl rfl rfl
  · rw [if_neg h1]
    by_cases h2 : port = 49
    · subst h2
      rw [if_pos rfl]
      repeat (first | refine stN ?_ | intro E)
      apply p_callvR (os' := [(5, wrkC b val 0 st d (csl 5 (risV f)) m 0 false true), (3, [.int .u32 0, .int .u32 0, .int .i64 0, .int .i64 0, .sl 0 0 [], .sl 0 0 []]), (4, [.sl 0 0 [], .int .u32 0, .sl 0 0 [], .bool false, .bool false])])
      · exact rfl
      · exact rfl
      · exact fun H E => writes_at rfl ((s40 (k := 0) rfl).fuel (by omega))
      · exact ⟨.inl ⟨rfl, rfl⟩, .inr ⟨rfl, rfl, rfl, rfl⟩, .inr ⟨rfl, rfl, rfl, rfl⟩, trivial⟩
      intro H2
      repeat (first | refine stN ?_ | intro E)
      exact q_ret (.inr rfl) rfl rfl rfl rfl rfl rfl
    · rw [if_neg h2]
      by_cases h3 : port = 50
      · subst h3
        rw [if_pos rfl]
        generalize hR : ntf b s ((d.map ofB).length / 128) ⟨a, st, f, m, false⟩ = R
        repeat (first | refine stN ?_ | intro E)
        apply p_callvB (os' := fun v => [(5, v), (3, [.int .u32 0, .int .u32 0, .int .i64 0, .int .i64 0, .sl 0 0 [], .sl 0 0 []]), (4, [.sl 0 0 [], .int .u32 0, .sl 0 0 [], .bool false, .bool false])]) (V := fun cs => ∃ br z, FB br z R.f ∧ cs = wrkC b s R.a R.st d (.sl br z (risV R.f)) R.m 0 R.r true)
        · exact rfl
        · exact rfl
        · exact fun H E => writes_atB rfl ((ntf_prog (k := 0) (Nat.le_refl _) h hb hs ha hd hf hR).fuel (by omega))
        · exact fun v hv => ⟨.inl ⟨rfl, rfl⟩, .inr ⟨rfl, rfl, rfl, rfl⟩, .inr ⟨rfl, rfl, rfl, rfl⟩, trivial⟩
        rintro v H2 lv' c' ⟨br, z, hB, rfl⟩ hc
        repeat (first | refine stN ?_ | intro E)
        rcases hB with ⟨rfl, rfl⟩ | ⟨h4, rfl⟩
        · exact q_ret (.inr rfl) rfl rfl rfl rfl rfl rfl
        · obtain ⟨q, rfl⟩ : ∃ q, br = q + 4 := ⟨br - 4, by omega⟩
          exact q_ret (.inr rfl) rfl rfl rfl rfl rfl rfl
      · rw [if_neg h3]
        have hg : ∀ (x y z : AV), getM 0 (.int .i64 port) [.int .i64 48, x, .int .i64 49, y, .int .i64 50, z] = some none := by
          intro x y z
          have e1 : (port == 48) = false := by simpa using h1
          have e2 : (port == 49) = false := by simpa using h2
          have e3 : (port == 50) = false := by simpa using h3
          simp only [getM, eqK, if_true, e1, e2, e3]
        repeat (first | refine stN ?_ | intro E)
        apply p_mget2
        · exact rfl
        · exact rfl
        · exact rfl
        · exact rfl
        · exact rfl
        · exact hg _ _ _
        repeat (first | refine stN ?_ | intro E)
        exact q_ret (.inr rfl) rfl rfl rfl rfl rfl rfl
end Go.Proofs.Ythplidagfcdibaa

/- What an instruction of the device does, by the reference. Condition: the memory is valid; the numbers are words. -/
namespace Go.Proofs.Ythplidagfcdibaa
open Go.Abs
variable {k : Nat}
abbrev poG (d : List UInt8) (p : PO) : List AV := gotC p.b p.s p.a p.st d p.f p.m p.v p.r p.ok
set_option maxRecDepth 100000 in
set_option maxHeartbeats 4000000 in
theorem s16i {b s a val : Nat} {st port : Int} {d m : List UInt8} {f : List RI} (hst : 0 ≤ st ∧ st < 4294967296) :
    Calls0 (evCall FN (k + 10800)) 16 [.agg [.int .u32 b, .int .u32 s, .int .i64 a, .int .i64 st, csl 128 (d.map ofB), csl 5 (risV f)], memV m, .agg [.bool true, .int .i64 port, .int .u32 val]]
      (.agg (poG d (port1 b s ((d.map ofB).length / 128) ⟨a, st, f, m, false⟩ true port val))) := by
  have hws : IntKind.u32.wrap st = (st.toNat : Int) := by rw [w32 (by omega) (by omega)]; omega
  refine q_call0 fn16 fun T H E lv => ?_
  unfold port1
  rw [if_pos rfl]
  by_cases h1 : port = 48
  · subst h1
    rw [if_pos rfl]
    repeat (first | refine stN ?_ | intro E)
    exact q_ret (.inr rfl) rfl rfl rfl rfl rfl rfl
  · rw [if_neg h1]
    by_cases h2 : port = 49
    · subst h2
      rw [if_pos rfl]
      repeat (first | refine stN ?_ | intro E)
      exact q_ret (.inr rfl) rfl rfl rfl rfl rfl rfl
    · rw [if_neg h2]
      by_cases h3 : port = 51
      · subst h3
        rw [if_pos rfl]
        repeat (first | refine stN ?_ | intro E)
        exact q_ret (.inr rfl) rfl rfl rfl rfl rfl rfl
      · rw [if_neg h3]
        repeat (first | refine stN ?_ | intro E)
        exact q_ret (.inr rfl) rfl rfl rfl rfl rfl rfl
set_option maxRecDepth 100000 in
set_option maxHeartbeats 4000000 in
theorem s16o {b s a val : Nat} {st port : Int} {d m : List UInt8} {f : List RI} (h : VM m) (hb : b < 4294967296) (hs : s < 4294967296) (ha : chkN m.length b s = 0 → a < s) (hd : (d.map ofB).length / 128 ≤ 64) (hf : f.length ≤ 8) :
    Calls0 (evCall FN (k + 10800)) 16 [.agg [.int .u32 b, .int .u32 s, .int .i64 a, .int .i64 st, csl 128 (d.map ofB), csl 5 (risV f)], memV m, .agg [.bool false, .int .i64 port, .int .u32 val]]
      (.agg (poG d (port1 b s ((d.map ofB).length / 128) ⟨a, st, f, m, false⟩ false port val))) := by
  refine q_call0 fn16 fun T H E lv => ?_
  unfold port1
  rw [if_neg (by decide)]
  by_cases h1 : port = 48
  · subst h1
    rw [if_pos rfl]
    repeat (first | refine stN ?_ | intro E)
    exact q_ret (.inr rfl) rfl rfl rfl rfl rfl rfl
  · rw [if_neg h1]
    by_cases h2 : port = 49
    · subst h2
      rw [if_pos rfl]
      repeat (first | refine stN ?_ | intro E)
      exact q_ret (.inr rfl) rfl rfl rfl rfl rfl rfl
    · rw [if_neg h2]
      by_cases h3 : port = 50
      · subst h3
        rw [if_pos rfl]
        generalize hR : ntf b s ((d.map ofB).length / 128) ⟨a, st, f, m, false⟩ = R
        have c46 : Calls0 (evCall FN (k + 10799)) 46 [.agg (gotC b s a st d f m 0 false true)] (.agg (gotC b s R.a R.st d R.f R.m 0 R.r true)) := (ntf_ref (k := 0) h hb hs ha hd hf hR).fuel (by omega)
        repeat (first | refine stN ?_ | intro E)
        exact q_ret (.inr rfl) rfl rfl rfl rfl rfl rfl
      · rw [if_neg h3]
        repeat (first | refine stN ?_ | intro E)
        exact q_ret (.inr rfl) rfl rfl rfl rfl rfl rfl
end Go.Proofs.Ythplidagfcdibaa

/- A request is finished, whatever its parts say. Condition: the memory is valid, the ring is there, the indices are of the ring. -/
namespace Go.Proofs.Ythplidagfcdibaa
open Go.Abs
variable {k : Nat}
def ix (l : List Pt) : List Nat := l.map (·.i)
theorem ix_take {m : List UInt8} {b w j : Nat} {p : Pt} {l : List Pt} (h : l[j]? = some p) : markB m b w (ix (l.take (j + 1))) = mark1 b w (markB m b w (ix (l.take j))) p.i := by
  have e : ∀ n, ix (l.take n) = (ix l).take n := fun n => by unfold ix; rw [List.map_take]
  rw [e, e]
  exact markB_take (by unfold ix; rw [List.getElem?_map, h]; rfl)
theorem rd_pt0 {p : Pt} {j : Nat} {l : List Pt} (h : l[j]? = some p) : rd (ptsV l) (j * 4 + 0) 1 false = some (.int .i64 p.i) := by
  simp only [rd, Bool.false_eq_true, if_false, pts_get (t := 0) (by omega) h]; rfl
theorem rv_ix {m : List UInt8} {b s w : Nat} {l : List Pt} (h : RV m b s) (hj : ∀ p ∈ l, p.i < s) (j : Nat) : RV (markB m b w (ix (l.take j))) b s := h.markB fun x hx => by
  obtain ⟨p, hp, rfl⟩ := List.mem_map.1 hx
  exact hj p (List.mem_of_mem_take hp)
set_option maxRecDepth 100000 in
theorem s45p {m : List UInt8} {b s : Nat} {l : List Pt} (h : RV m b s) (hj : ∀ p ∈ l, p.i < s) (hn : l.length ≤ 100) : Calls0 (evCall FN (k + 10400)) 45 [memV m, ringV b s, csl 4 (ptsV l)] (memV (markB m b 3 (ix l))) := by
  have hl := h.m.le
  have hs := h.hs
  have hle := h.le
  have hb16 := h.hb
  refine q_call0 fn45 fun T H E lv => ?_
  repeat (first | refine stN ?_ | intro E)
  rw [pts_div]
  refine q_loop (α := Nat) (LInv.mk (fun j => j ≤ l.length) (fun j => l.length - j)
    (fun j => [(11, .int .i64 (j : Int)), (10, .int .i64 (l.length : Int)), (9, csl 4 (ptsV l)), (6, .ref 2 0), (4, .ref 1 0), (3, .ref 0 0)])
    (fun j => [(2, [.sl 0 0 []]), (1, [.int .u32 b, .int .u32 s]), (0, [csl 128 ((markB m b 3 (ix (l.take j))).map ofB)])]))
    (fun _ _ c => c = 4) 0 (Nat.zero_le _) rfl (show l.length - 0 < k + 10399 by omega) ⟨rfl, rfl, rfl, rfl, rfl, rfl, trivial⟩ ⟨rfl, rfl, rfl, trivial⟩ ?_
  rintro j lv c T H E hP rfl hμ
  have hP : j ≤ l.length := hP
  clear hμ
  dsimp only
  rcases Nat.lt_or_ge j l.length with hlt | hge
  · obtain ⟨p, hi⟩ : ∃ i, l[j]? = some i := ⟨_, List.getElem?_eq_getElem hlt⟩
    have his : p.i < s := hj p (List.mem_of_getElem? hi)
    have hr : rd (ptsV l) (j * 4) 4 true = some (.agg [.int .i64 p.i, .int .i64 p.a, .int .i64 p.n, .bool p.w]) := rd_pt hi
    have gi : inB (j : Int) ((ptsV l).length / 4) = some j := inB_n (by rw [pts_div]; omega)
    have hV := rv_ix (w := 3) h hj j
    have c77 : Calls0 (evCall FN (k + 10399)) 77 [memV (markB m b 3 (ix (l.take j))), ringV b s, .int .i64 ((3 : Nat) : Int), csl 1 (intsV [p.i])] (memV (mark1 b 3 (markB m b 3 (ix (l.take j))) p.i)) := (s77 (k := 0) (js := [p.i]) hV (by simp [his]) (by omega) (by simp)).fuel (by omega)
    repeat (first | refine stN ?_ | intro E)
    exact n_again (j + 1) (show j + 1 ≤ l.length by omega) rfl (show l.length - (j + 1) < l.length - j by omega) ⟨rfl, rfl, rfl, rfl, rfl, rfl, trivial⟩ ⟨⟨rfl, rfl⟩, ⟨rfl, rfl⟩, ⟨by rw [ix_take hi]; rfl, rfl⟩, trivial⟩
  · repeat (first | refine stN ?_ | intro E)
    apply n_exit
    apply b_exit
    repeat (first | refine stN ?_ | intro E)
    rw [List.take_of_length_le hge]
    exact q_ret (.inr rfl) rfl rfl rfl rfl rfl rfl
set_option maxRecDepth 100000 in
theorem s83p {m : List UInt8} {b s w : Nat} {l : List Pt} (h : RV m b s) (hj : ∀ p ∈ l, p.i < s) (hw : w < 4294967296) (hn : l.length ≤ 100) : Calls0 (evCall FN (k + 200)) 83 [memV m, ringV b s, csl 4 (ptsV l), .int .i64 w] (memV (markB m b w (ix l))) := by
  have hl := h.m.le
  have hs := h.hs
  have hle := h.le
  have hb16 := h.hb
  have hdv := pts_div l
  refine q_call0 fn83 fun T H E lv => ?_
  repeat (first | refine stN ?_ | intro E)
  refine q_loop (α := Nat) (LInv.mk (fun j => j ≤ l.length) (fun j => l.length - j)
    (fun j => [(9, .int .i64 (j : Int)), (8, .ref 2 0), (5, .ref 1 0), (4, .ref 0 0), (2, csl 4 (ptsV l)), (3, .int .i64 w)])
    (fun j => [(2, [.sl 0 0 []]), (1, [.int .u32 b, .int .u32 s]), (0, [csl 128 ((markB m b w (ix (l.take j))).map ofB)])]))
    (fun _ _ c => c = 4) 0 (Nat.zero_le _) rfl (show l.length - 0 < k + 199 by omega) ⟨rfl, rfl, rfl, rfl, rfl, rfl, trivial⟩ ⟨rfl, rfl, rfl, trivial⟩ ?_
  rintro j lv c T H E hP rfl hμ
  have hP : j ≤ l.length := hP
  clear hμ
  dsimp only
  rcases Nat.lt_or_ge j l.length with hlt | hge
  · obtain ⟨p, hi⟩ : ∃ i, l[j]? = some i := ⟨_, List.getElem?_eq_getElem hlt⟩
    have his : p.i < s := hj p (List.mem_of_getElem? hi)
    have hr := rd_pt0 hi
    have gi : inB (j : Int) ((ptsV l).length / 4) = some j := inB_n (by rw [pts_div]; omega)
    have hV := rv_ix (w := w) h hj j
    have c102 : Calls0 (evCall FN (k + 199)) 102 [memV (markB m b w (ix (l.take j))), ringV b s, .int .i64 p.i, .int .i64 w] (memV (mark1 b w (markB m b w (ix (l.take j))) p.i)) := (s102 (k := 0) hV his hw).fuel (by omega)
    repeat (first | refine stN ?_ | intro E)
    exact n_again (j + 1) (show j + 1 ≤ l.length by omega) rfl (show l.length - (j + 1) < l.length - j by omega) ⟨rfl, rfl, rfl, rfl, rfl, rfl, trivial⟩ ⟨⟨rfl, rfl⟩, ⟨rfl, rfl⟩, ⟨by rw [ix_take hi]; rfl, rfl⟩, trivial⟩
  · repeat (first | refine stN ?_ | intro E)
    apply n_exit
    apply b_exit
    repeat (first | refine stN ?_ | intro E)
    rw [List.take_of_length_le hge]
    exact q_ret (.inr rfl) rfl rfl rfl rfl rfl rfl
set_option maxRecDepth 100000 in
theorem s50p {m : List UInt8} {b s : Nat} {l : List Pt} (h : RV m b s) (hj : ∀ p ∈ l, p.i < s) (hn : l.length ≤ 100) : Calls0 (evCall FN (k + 201)) 50 [memV m, ringV b s, csl 4 (ptsV l)] (memV (markB m b 3 (ix l))) := by
  have c83 : Calls0 (evCall FN (k + 200)) 83 [memV m, ringV b s, csl 4 (ptsV l), .int .i64 ((3 : Nat) : Int)] (memV (markB m b 3 (ix l))) := s83p h hj (by omega) hn
  refine q_call0 fn50 fun T H E lv => ?_
  repeat (first | refine stN ?_ | intro E)
  exact q_ret (.inr rfl) rfl rfl rfl rfl rfl rfl
end Go.Proofs.Ythplidagfcdibaa

/- A request that is right, in natural numbers; what completing it does. No condition but what is said. -/
namespace Go.Proofs.Ythplidagfcdibaa
open Go.Abs
variable {k : Nat}
/-- What is known of a request that is right. -/
structure RN (L D : Nat) (b s : Nat) (w : Bool) (q : Nat) (p : Pt) (t : List Pt) : Prop where
  ck : chkN L b s = 0
  q : q < D
  len : t.length ≤ 3
  pos : t ≠ []
  one : ∀ x ∈ p :: t, x.i < s ∧ 1 ≤ x.n ∧ x.n ≤ 512 ∧ x.a + x.n ≤ L
  hw : p.w = false
  hn : p.n = 8
  sum : smI (t.map Pt.toI) ≤ 128
  dir : ∀ x ∈ t, x.w = !w
theorem nat_pts {L s : Nat} : ∀ {l : List PI}, (∀ p ∈ l, okP L s p) → ∃ l' : List Pt, l = l'.map Pt.toI ∧ ∀ x ∈ l', x.i < s ∧ 1 ≤ x.n ∧ x.n ≤ 512 ∧ x.a + x.n ≤ L
  | [], _ => ⟨[], rfl, by simp⟩
  | p :: l, h => by
    obtain ⟨l', h1, h2⟩ := nat_pts (l := l) fun x hx => h x (List.mem_cons_of_mem _ hx)
    obtain ⟨o1, o2, o3, o4, o5, o6⟩ := h p List.mem_cons_self
    obtain ⟨pi, pa, pn, pw⟩ := p
    dsimp only at o1 o2 o3 o4 o5 o6
    refine ⟨⟨pi.toNat, pa.toNat, pn.toNat, pw⟩ :: l', ?_, ?_⟩
    · rw [h1, List.map_cons]
      congr 1
      simp only [Pt.toI, PI.mk.injEq, and_true]
      omega
    · intro x hx
      rcases List.mem_cons.1 hx with rfl | hx
      · dsimp only; omega
      · exact h2 x hx
theorem right_nat {L D : Nat} {r : RI} (h : RightP L D r) : ∃ (q : Nat) (p : Pt) (t : List Pt), r = ⟨r.b, r.s, q, r.w, (p :: t).map Pt.toI⟩ ∧ RN L D r.b r.s r.w q p t := by
  obtain ⟨⟨a1, a2, a3, a4, a5⟩, ⟨b1, _⟩, pp, tt, e1, e2, e3, e4⟩ := h
  obtain ⟨b, s, q, w, l⟩ := r
  dsimp only at a1 a2 a3 a4 a5 b1 e1 e4 ⊢
  subst e1
  obtain ⟨l', h1, h2⟩ := nat_pts b1
  obtain ⟨p, t, rfl⟩ : ∃ p t, l' = p :: t := by
    rcases l' with _ | ⟨p, t⟩
    · cases h1
    · exact ⟨p, t, rfl⟩
  rw [List.map_cons, List.cons.injEq] at h1
  obtain ⟨rfl, rfl⟩ := h1
  refine ⟨q.toNat, p, t, ?_, ?_⟩
  · simp only [RI.mk.injEq, List.map_cons, true_and, and_true]; omega
  · have hne : t ≠ [] := by
      intro e; subst e; simp at a4
    have hfit : ¬ (t.map Pt.toI = [] ∨ 128 < smI (t.map Pt.toI)) := by
      intro hc
      have : fitI (t.map Pt.toI) w = 161 := if_pos hc
      rw [this] at e4; cases e4
    have hany : (t.map Pt.toI).any (fun p => p.w == w) = false := by
      have : fitI (t.map Pt.toI) w = if (t.map Pt.toI).any (fun p => p.w == w) then 164 else 0 := if_neg hfit
      rw [this] at e4
      cases hq : (t.map Pt.toI).any (fun p => p.w == w) with
      | false => rfl
      | true => rw [hq] at e4; cases e4
    refine ⟨a1, by omega, ?_, hne, h2, e2, ?_, by omega, ?_⟩
    · simp at a5; omega
    · have : (p.n : Int) = 8 := e3
      omega
    · intro x hx
      rw [List.any_eq_false] at hany
      have := hany x.toI (List.mem_map.2 ⟨x, hx, rfl⟩)
      have hw : x.toI.w = x.w := rfl
      rw [hw] at this
      cases hxw : x.w <;> cases w <;> simp_all
end Go.Proofs.Ythplidagfcdibaa

/- A request is completed that reads the disk, by the program. Condition: the memory is valid, the request is right. -/
namespace Go.Proofs.Ythplidagfcdibaa
open Go.Abs
variable {k : Nat}
theorem rn_rv {m : List UInt8} {D b s q : Nat} {w : Bool} {p : Pt} {t : List Pt} (h : VM m) (hr : RN m.length D b s w q p t) : RV m b s := chkN_ok h hr.ck
/-- What is read of the disk. -/
def secB (d : List UInt8) (q n : Nat) : List UInt8 := (d.drop (q * 128)).take n
theorem rm_sum : ∀ {t : List Pt} {n : Nat}, (∀ x ∈ t, x.w = true) → ((t.foldl rmS n : Nat) : Int) = (t.map Pt.toI).foldl (fun n p => n + p.n) (n : Int)
  | [], n, _ => rfl
  | x :: t, n, h => by
    have hx := h x List.mem_cons_self
    have e : rmS n x = n + x.n := by unfold rmS; rw [if_pos hx]
    rw [List.foldl_cons, e, rm_sum fun y hy => h y (List.mem_cons_of_mem _ hy)]
    simp only [List.map_cons, List.foldl_cons, Pt.toI]
    congr 1
theorem rm_pos {m : List UInt8} {D b s q : Nat} {p : Pt} {t : List Pt} (hr : RN m.length D b s false q p t) : 1 ≤ rm t ∧ rm t ≤ 128 := by
  have h1 : ∀ x ∈ t, x.w = true := fun x hx => hr.dir x hx
  have e := rm_sum (n := 0) h1
  have h2 := hr.sum
  have h3 : ((rm t : Nat) : Int) = smI (t.map Pt.toI) := e
  have hok : okN (t.map Pt.toI) := by
    intro x hx
    obtain ⟨y, hy, rfl⟩ := List.mem_map.1 hx
    have := hr.one y (List.mem_cons_of_mem _ hy)
    simp only [Pt.toI]; omega
  have h4 := (sm_range (n := 0) hok).1
  rw [List.length_map] at h4
  have h5 := List.length_pos_iff.2 hr.pos
  have h6 : (0 : Int) + t.length ≤ smI (t.map Pt.toI) := h4
  omega
theorem sec_sl {d : List UInt8} {q n : Nat} (h0 : 1 ≤ n) (hn : n ≤ 128) (hq : q * 128 + 128 ≤ d.length) : ∃ br, mkSl (if 128 = n then 3 else 1) 1 (((d.map ofB).take (q * 128 + n * 1)).drop (q * 128 + 0 * 1)) = .sl br 1 ((secB d q n).map ofB) := by
  have e : ((d.map ofB).take (q * 128 + n * 1)).drop (q * 128 + 0 * 1) = (secB d q n).map ofB := by
    unfold secB
    rw [List.map_take, List.map_drop, List.drop_take]
    congr 1 <;> first | omega | (congr 1; omega)
  rw [e]
  have hl : (secB d q n).length = n := by unfold secB; rw [List.length_take, List.length_drop]; omega
  by_cases h : 128 = n
  · rw [if_pos h]; exact ⟨3, rfl⟩
  · rw [if_neg h]
    refine ⟨1, ?_⟩
    cases hx : secB d q n with
    | nil => rw [hx] at hl; simp at hl; omega
    | cons a l => rfl
theorem drop_ris (f : List RI) (j : Nat) : ((risV f).take ((risV f).length / 5 * 5)).drop (j * 5) = risV (f.drop j) := by
  have e : (risV f).length / 5 * 5 = (risV f).length := by rw [ris_div, ris_length]
  rw [e, List.take_length]
  exact fm_drop riV_length f j
set_option maxRecDepth 100000 in
set_option maxHeartbeats 4000000 in
/-- A request that reads the disk is completed. -/
theorem s15r {b0 s0 b s q kk : Nat} {at' st : Int} {d m : List UInt8} {f : List RI} {p : Pt} {t : List Pt} (h : VM m) (hr : RN m.length ((d.map ofB).length / 128) b s false q p t) (hf : f.length ≤ 8) (hk : f[kk]? = some ⟨b, s, q, false, (p :: t).map Pt.toI⟩) :
    Calls0 (evCall FN (k + 10800)) 15 [.agg [.int .u32 b0, .int .u32 s0, .int .i64 at', .int .i64 st, csl 128 (d.map ofB), csl 5 (risV f)], memV m, .int .i64 kk]
      (.tup [.agg [.int .u32 b0, .int .u32 s0, .int .i64 at', .int .i64 st, csl 128 (d.map ofB), csl 5 (risV (f.take kk) ++ risV (f.drop (kk + 1)))], .agg [csl 128 ((markB (scat m t (secB d q (rm t))).1 b 3 (ix (p :: t))).map ofB), .int .u32 0, .sl 1 0 [], .bool true, .bool true]]) := by
  have hl := h.le
  have hrv := rn_rv h hr
  have hkl : kk < f.length := (List.getElem?_eq_some_iff.1 hk).1
  have hdv := ris_div f
  have gi : inB (kk : Int) ((risV f).length / 5) = some kk := inB_n (by rw [ris_div]; omega)
  have hrd : rd (risV f) (kk * 5) 5 true = some (.agg [.int .u32 b, .int .u32 s, .int .i64 q, .bool false, csl 4 (ptsV (p :: t))]) := by
    rw [← pis_of]; exact fm_agg riV_length hk
  have hab : asB 1 ((ptsV (p :: t)).length / 4) = some 1 := asB_n (a := 1) (by rw [pts_div]; simp)
  obtain ⟨r1, r2⟩ := rm_pos hr
  have hq := hr.q
  have hq2 : q * 128 + 128 ≤ d.length := by have := hr.q; rw [List.length_map] at this; omega
  have gq : inB (q : Int) ((d.map ofB).length / 128) = some q := inB_n hq
  have hts : ∀ x ∈ t, x.n < 4294967296 := fun x hx => by have := hr.one x (List.mem_cons_of_mem _ hx); omega
  have htl := hr.len
  have c44 : Calls0 (evCall FN (k + 10799)) 44 [csl 4 (ptsV t)] (.int .i64 (rm t)) := (s44 (k := 0) (by omega) hts).fuel (by omega)
  have hin : InM m.length t := fun x hx _ => (hr.one x (List.mem_cons_of_mem _ hx)).2.2.2
  have hsl : (secB d q (rm t)).length ≤ 3000 := by unfold secB; rw [List.length_take]; omega
  have c43 : Calls0 (evCall FN (k + 10799)) 43 [memV m, csl 4 (ptsV t), .str (secB d q (rm t))] (.tup [memV (scat m t (secB d q (rm t))).1, .int .i64 (scat m t (secB d q (rm t))).2]) := (s43 (k := 0) h hsl hin (by omega) hts).fuel (by omega)
  have hsm := scat_props (ys := secB d q (rm t)) (n := m.length) (l := t) (r := (m, 0)) hin rfl (Nat.zero_le _)
  have hS : RV (scat m t (secB d q (rm t))).1 b s := by
    have e : (scat m t (secB d q (rm t))).1.length = m.length := hsm.1
    exact ⟨h.of_len e, hrv.hs, hrv.hb, by rw [e]; exact hrv.le⟩
  obtain ⟨br, hsec⟩ := sec_sl r1 r2 hq2
  have c45 : Calls0 (evCall FN (k + 10799)) 45 [memV (scat m t (secB d q (rm t))).1, ringV b s, csl 4 (ptsV (p :: t))] (memV (markB (scat m t (secB d q (rm t))).1 b 3 (ix (p :: t)))) := (s45p (k := 0) hS (fun x hx => (hr.one x hx).1) (by simp; omega)).fuel (by omega)
  have has : asB (rm t : Int) 128 = some (rm t) := asB_n (by omega)
  refine q_call0 fn15 fun T H E lv => ?_
  repeat (first | refine stN ?_ | intro E)
  apply p_slL_lo
  · exact rfl
  · exact csz_ok _ _
  · exact rfl
  · exact hab
  rw [tail_pts, pis_of]
  repeat (first | refine stN ?_ | intro E)
  apply p_slA_pp (p := 0) (q := rm t)
  · exact rfl
  · exact bL_some rfl has
  · exact rfl
  · omega
  · rw [List.length_map]; omega
  rw [hsec]
  apply p_b2s
  · exact rfl
  · exact .inl rfl
  generalize markB (scat m t (secB d q (rm t))).1 b 3 (ix (p :: t)) = M2 at c45 ⊢
  generalize scat m t (secB d q (rm t)) = S at c43 c45
  generalize secB d q (rm t) = Y at c43 ⊢
  repeat (first | refine stN ?_ | intro E)
  apply p_slL_m3
  · exact rfl
  · exact Nat.one_ne_zero
  · exact (csz_ok _ _).imp id fun h => ⟨h, by omega⟩
  · exact rfl
  · exact rfl
  · rw [ris_div]; omega
  rw [show (risV f).take (kk * 5) = risV (f.take kk) from fm_take riV_length f kk]
  repeat (first | refine stN ?_ | intro E)
  apply p_slL_lo
  · exact rfl
  · exact csz_ok _ _
  · exact rfl
  · exact asB_n (by rw [ris_div]; omega)
  rw [drop_ris]
  by_cases hd0 : f.drop (kk + 1) = []
  · rw [hd0]
    apply p_app_nil
    · exact rfl
    · exact .inl rfl
    · exact rfl
    · exact fun H => src_csl _ _ _
    · exact ⟨by omega, by omega⟩
    · have : room = 17592186044416 := by decide +kernel
      rw [this, ris_length, List.length_take]; omega
    · exact .inr rfl
    repeat (first | refine stN ?_ | intro E)
    rw [show risV (f.take kk) ++ risV [] = risV (f.take kk) from List.append_nil _]
    exact q_ret (.inr rfl) rfl rfl rfl rfl rfl rfl
  · apply p_app
    · exact rfl
    · exact .inl rfl
    · exact rfl
    · exact fun H => src_csl _ _ _
    · exact ⟨by omega, by omega⟩
    · have : room = 17592186044416 := by decide +kernel
      rw [this, ris_length, ris_length, List.length_take, List.length_drop]; omega
    · exact .inr (.inl rfl)
    · exact ris_ne hd0
    intro lv' l1 l2
    repeat (first | refine stN ?_ | intro E)
    exact q_ret (.inr rfl) rfl rfl rfl rfl rfl rfl
end Go.Proofs.Ythplidagfcdibaa
