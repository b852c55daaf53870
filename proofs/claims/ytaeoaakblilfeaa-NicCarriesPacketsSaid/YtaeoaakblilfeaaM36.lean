/- Part 36 of the texts on which proofs about this seat rest: each says what it proves at its own head. No condition. -/
import Derived.Test.YtaeoaakblilfeaaM35
set_option linter.unusedVariables false
set_option linter.unusedSimpArgs false
/- NicWritesWhereItMay: what it answers. Condition: the arguments are such as their types hold. -/
namespace Go.Proofs.Ytaeoaakblilfeaa
open Go.Abs
variable {k : Nat}
theorem chk_eq (n b s : Nat) : evBin .eql (.int .i64 (chkN n b s : Nat)) (.int .i64 0) = some (.bool (decide (chkN n b s = 0))) := by
  rcases chk_cases n b s with h | h <;> rw [h] <;> rfl
set_option maxRecDepth 100000 in
set_option maxHeartbeats 16000000 in
theorem s5 {x : NI} {m pk : List UInt8} {p w : Nat} {i : Bool} {port : Int} (hx : NR x) (hp : m.length = 128 * p) : Calls0 (evCall FN (k + 11000)) 5 [niV x, memV m, .agg [.bool i, .int .i64 port, .int .u32 w], .str pk] (.bool true) := by
  have c9 : Calls0 (evCall FN (k + 10999)) 9 [] (.bool true) := s9.fuel (k := 400) (by omega)
  have hb1 := hx.tb; have hb2 := hx.ts; have hb3 := hx.rb; have hb4 := hx.rs
  by_cases hv : p = 0 ∨ 64 < p
  · have c8 : Calls0 (evCall FN (k + 10999)) 8 [memV m] (.bool false) := (s8f (k := 0) hp hv).fuel (by omega)
    refine q_call0 fn5 fun T H E lv => ?_
    repeat (first | refine stN ?_ | intro E)
    exact q_ret (.inr rfl) rfl rfl rfl rfl rfl rfl
  have hm : VM m := ⟨p, by omega, by omega, hp⟩
  have c8 : Calls0 (evCall FN (k + 10999)) 8 [memV m] (.bool true) := (s8t (k := 0) hm).fuel (by omega)
  have c11 : Calls0 (evCall FN (k + 10999)) 11 [niV x] (.bool (nvalidB x)) := (s11 (k := 0) hx.ts hx.rs).fuel (by omega)
  cases hV : nvalidB x
  · rw [hV] at c11
    refine q_call0 fn5 fun T H E lv => ?_
    repeat (first | refine stN ?_ | intro E)
    exact q_ret (.inr rfl) rfl rfl rfl rfl rfl rfl
  rw [hV] at c11
  obtain ⟨ta, ra, st, dr, hxe, hst, hdr, hpt, hpr⟩ := nvalid_nat hV
  obtain ⟨tb, ts, rb, rs, xta, xra, xst, xdr⟩ := x
  dsimp only at *
  simp only [NI.mk.injEq, true_and] at hxe
  obtain ⟨rfl, rfl, rfl, rfl⟩ := hxe
  by_cases hpk : 600 < pk.length
  · refine q_call0 fn5 fun T H E lv => ?_
    repeat (first | refine stN ?_ | intro E)
    exact q_ret (.inr rfl) rfl rfl rfl rfl rfl rfl
  have c14 : Calls0 (evCall FN (k + 10999)) 14 _ _ := (s14 (k := 0) (tb := tb) (ts := ts) (rb := rb) (rs := rs) (ta := ta) (ra := ra) (st := st) (dr := dr) (p := port) (w := w) (i := i) hm hb1 hb2 (by omega) (fun h => hpt.lt h)).fuel (by omega)
  have c15 : Calls0 (evCall FN (k + 10999)) 15 _ _ := (s15 (k := 0) (tb := tb) (ts := ts) (rb := rb) (rs := rs) (ta := ta) (ra := ra) (st := st) (dr := dr) (pk := pk) hm hb3 hb4 hdr (by omega) (fun h => hpr.lt h)).fuel (by omega)
  obtain ⟨tb', ts', rb', rs', ta', ra', st', v', m', o, r, ok, he, hP⟩ := portC_w (rb := rb) (rs := rs) (ra := ra) (st := st) (dr := dr) hm (fun h => hpt.lt h) i port w
  unfold portV at c14
  rw [he] at c14
  unfold recvV at c15
  have hrl := rcv_len (st := st) (dr := dr) (pk := pk) (b := rb) hm (fun h => hpr.lt (s := rs) (a := ra) h)
  obtain ⟨hrok, hrw⟩ := rcv_w (st := st) (dr := dr) (pk := pk) (b := rb) hm (fun h => hpr.lt (s := rs) (a := ra) h)
  clear he hV hst hdr hpt hpr
  generalize rcv rb rs ra st dr m pk = R at *
  obtain ⟨rm, rr, rok, ra2, st2, dr2⟩ := R
  dsimp only at *
  obtain ⟨pl, pf, po, pc, pb⟩ := hP
  have c21a : Calls0 (evCall FN (k + 10999)) 21 [memV m, ringV tb ts] (.int .i64 (chkN m.length tb ts)) := (s21 (k := 0) hm hb1 hb2).fuel (by omega)
  have c21b : Calls0 (evCall FN (k + 10999)) 21 [memV m, ringV rb rs] (.int .i64 (chkN m.length rb rs)) := (s21 (k := 0) hm hb3 hb4).fuel (by omega)
  have q1 := chk_eq m.length tb ts
  have q2 := chk_eq m.length rb rs
  have hml := hm.le
  have hm1 : (m.map ofB).length / 128 = p := by rw [List.length_map]; omega
  have hm2 : (m'.map ofB).length / 128 = p := by rw [List.length_map]; omega
  have hm3 : (rm.map ofB).length / 128 = p := by rw [List.length_map]; omega
  have hlen : (outV o).length / 1 = o.length := by rw [outV_length, Nat.div_one]
  have w1 : IntKind.i64.wrap (tb : Int) = tb := w64 (by omega) (by omega)
  have w2 : IntKind.i64.wrap (ts : Int) = ts := w64 (by omega) (by omega)
  have w3 : IntKind.i64.wrap (rb : Int) = rb := w64 (by omega) (by omega)
  refine q_call0 fn5 fun T H E lv => ?_
  show Wp _ _ _ ⟨slots (argSlots 0 [AV.agg [.int .u32 tb, .int .u32 ts, .int .u32 rb, .int .u32 rs, .int .i64 ta, .int .i64 ra, .int .i64 st, .int .i64 dr], memV m, .agg [.bool i, .int .i64 port, .int .u32 w], .str pk]) _, _, _, _, _, _⟩ _
  have pc' : o ≠ [] → decide (chkN m.length tb ts = 0) = true ∧ o.length ≤ ts := fun h => ⟨decide_eq_true (pc h).1, (pc h).2⟩
  have pb' : ∀ t, bt m' t ≠ bt m t → decide (chkN m.length tb ts = 0) = true ∧ Stat tb ts t := fun t h => ⟨decide_eq_true (pb t h).1, (pb t h).2⟩
  have hrok' : rok = true → decide (chkN m.length rb rs = 0) = true := fun h => decide_eq_true (hrok h)
  have hrw' : ∀ t, bt rm t ≠ bt m t → decide (chkN m.length rb rs = 0) = true ∧ RV m rb rs ∧ ((rb ≤ t ∧ t < rb + 16 * rs) ∨ Named m rb rs t) := fun t h => ⟨decide_eq_true (hrw t h).1, chk_rv hm (hrw t h).1, (hrw t h).2⟩
  clear pc pb hrok hrw
  generalize decide (chkN m.length tb ts = 0) = TX at *
  generalize decide (chkN m.length rb rs = 0) = RX at *
  generalize chkN m.length tb ts = n1 at *
  generalize chkN m.length rb rs = n2 at *
  repeat (first | refine stN ?_ | intro E)
  refine q_loop (α := Nat) (LInv.mk (fun i => i ≤ o.length) (fun i => o.length - i)
    (fun i => [(13, .int .i64 (i : Int)), (12, .ref 6 0), (10, .ref 4 0), (5, .ref 1 0), (4, .ref 0 0)])
    (fun _ => [(6, [csl 128 (rm.map ofB), .int .u32 0, .sl 1 0 [], .bool rr, .bool rok]), (4, [csl 128 (m'.map ofB), .int .u32 v', csl 1 (outV o), .bool r, .bool ok]), (1, [csl 128 (m.map ofB)]), (0, [.int .u32 tb, .int .u32 ts, .int .u32 rb, .int .u32 rs, .int .i64 ta, .int .i64 ra, .int .i64 st, .int .i64 dr])]))
    (fun _ _ c' => c' = 4) 0 (Nat.zero_le _) rfl (show o.length - 0 < k + 10999 by omega) ⟨rfl, rfl, rfl, rfl, rfl, trivial⟩ ⟨rfl, rfl, rfl, rfl, trivial⟩ ?_
  clear c14 c15 c8 c11
  rintro i lv c T H E hI rfl hμ
  have hI : i ≤ o.length := hI
  clear hμ
  dsimp only
  rcases Nat.lt_or_ge i o.length with hi | hi
  · obtain ⟨y, hy⟩ : ∃ y, o[i]? = some y := ⟨_, List.getElem?_eq_getElem hi⟩
    obtain ⟨y1, y2⟩ := po y (List.mem_of_getElem? hy)
    have hr := outV_get hy
    have gi : inB (i : Int) ((outV o).length / 1) = some i := inB_n (by omega)
    clear pb' hrw' pc' hrok' po
    repeat (first | refine stN ?_ | intro E)
    exact n_again (i + 1) (show i + 1 ≤ o.length by omega) rfl (show o.length - (i + 1) < o.length - i by omega) ⟨rfl, rfl, rfl, rfl, rfl, trivial⟩ ⟨⟨rfl, rfl⟩, ⟨rfl, rfl⟩, ⟨rfl, rfl⟩, ⟨rfl, rfl⟩, trivial⟩
  · clear po hI
    have ho : o.length = 0 ∨ (0 < o.length ∧ TX = true ∧ o.length ≤ ts) := by
      rcases Nat.eq_zero_or_pos o.length with h | h
      · exact .inl h
      · have := pc' (fun e => by subst e; simp at h)
        exact .inr ⟨h, this.1, this.2⟩
    have hrk : rok = false ∨ (rok = true ∧ RX = true) := by
      cases rok
      · exact .inl rfl
      · exact .inr ⟨rfl, hrok' rfl⟩
    clear pc' hrok'
    have key : ∀ (rok : Bool) (T : Nat → AV) (H : Hp) (E : Nat → Option TypeId) (lv : Nat → Bool), Wp (evCall FN (k + 10999)) (k + 10999) (.loop f5l25) ⟨slots [(16, .int .i64 0), (15, .bool RX), (14, .bool TX), (12, .ref 6 0), (10, .ref 4 0), (5, .ref 1 0), (4, .ref 0 0)] T, objs [(6, [csl 128 (rm.map ofB), .int .u32 0, .sl 1 0 [], .bool rr, .bool rok]), (4, [csl 128 (m'.map ofB), .int .u32 v', csl 1 (outV o), .bool r, .bool ok]), (1, [csl 128 (m.map ofB)]), (0, [.int .u32 tb, .int .u32 ts, .int .u32 rb, .int .u32 rs, .int .i64 ta, .int .i64 ra, .int .i64 st, .int .i64 dr])] H, E, 7, lv, 4⟩ (fun e S => e = .exit 2) := by
      clear ho hrk hi hlen q1 q2 c21a c21b
      intro rok T H E lv
      refine q_loop (α := Nat) (LInv.mk (fun t => t ≤ p * 128) (fun t => p * 128 - t)
        (fun t => [(16, .int .i64 (t : Int)), (15, .bool RX), (14, .bool TX), (12, .ref 6 0), (10, .ref 4 0), (5, .ref 1 0), (4, .ref 0 0)])
        (fun _ => [(6, [csl 128 (rm.map ofB), .int .u32 0, .sl 1 0 [], .bool rr, .bool rok]), (4, [csl 128 (m'.map ofB), .int .u32 v', csl 1 (outV o), .bool r, .bool ok]), (1, [csl 128 (m.map ofB)]), (0, [.int .u32 tb, .int .u32 ts, .int .u32 rb, .int .u32 rs, .int .i64 ta, .int .i64 ra, .int .i64 st, .int .i64 dr])]))
        (fun _ _ c' => c' = 4) 0 (Nat.zero_le _) rfl (show p * 128 - 0 < k + 10999 by omega) ⟨rfl, rfl, rfl, rfl, rfl, rfl, rfl, trivial⟩ ⟨rfl, rfl, rfl, rfl, trivial⟩ ?_
      rintro t lv c T H E hI rfl hμ
      have hI : t ≤ p * 128 := hI
      clear hμ
      dsimp only
      rcases Nat.lt_or_ge t (p * 128) with ht | ht
      · have ca : Calls0 (evCall FN (k + 10999)) 22 [memV m, .int .i64 t] (.int .u8 (bt m t)) := (s22 (k := 0) hm (by omega)).fuel (by omega)
        have cb : Calls0 (evCall FN (k + 10999)) 22 [memV m', .int .i64 t] (.int .u8 (bt m' t)) := (s22 (k := 0) (hm.of_len pl) (by omega)).fuel (by omega)
        have cc : Calls0 (evCall FN (k + 10999)) 22 [memV rm, .int .i64 t] (.int .u8 (bt rm t)) := (s22 (k := 0) (hm.of_len hrl) (by omega)).fuel (by omega)
        have hx1 : bt m t = bt m' t ∨ (bt m t ≠ bt m' t ∧ TX = true ∧ 12 ≤ (t - tb) % 16 ∧ tb ≤ t ∧ Calls0 (evCall FN (k + 10999)) 23 [ringV tb ts, .int .i64 t] (.bool true)) := by
          by_cases e : bt m t = bt m' t
          · exact .inl e
          · obtain ⟨h1, j, h2, h3, h4⟩ := pb' t (fun h => e h.symm)
            refine .inr ⟨e, h1, by omega, by omega, ?_⟩
            have c23 : Calls0 (evCall FN (k + 10999)) 23 [ringV tb ts, .int .i64 t] _ := (s23 (k := 0) hb1 hb2 (by omega)).fuel (by omega)
            rwa [decide_eq_true (by omega)] at c23
        have hx2 : bt m t = bt rm t ∨ (bt m t ≠ bt rm t ∧ RX = true ∧ (Calls0 (evCall FN (k + 10999)) 23 [ringV rb rs, .int .i64 t] (.bool true) ∨ (Calls0 (evCall FN (k + 10999)) 23 [ringV rb rs, .int .i64 t] (.bool false) ∧ Calls0 (evCall FN (k + 10999)) 24 [memV m, ringV rb rs, .int .i64 t] (.bool true)))) := by
          by_cases e : bt m t = bt rm t
          · exact .inl e
          · obtain ⟨h1, h2, h3⟩ := hrw' t (fun h => e h.symm)
            refine .inr ⟨e, h1, ?_⟩
            have c23 : Calls0 (evCall FN (k + 10999)) 23 [ringV rb rs, .int .i64 t] _ := (s23 (k := 0) hb3 hb4 (by omega)).fuel (by omega)
            by_cases hin : rb ≤ t ∧ t < rb + 16 * rs
            · rw [decide_eq_true hin] at c23
              exact .inl c23
            · rw [decide_eq_false hin] at c23
              exact .inr ⟨c23, (s24t (k := 0) h2 (by omega) (h3.resolve_left hin)).fuel (by omega)⟩
        have l0 := bt_lt256 m t
        clear pb' hrw' pl hrl hm
        generalize bt m t = b0 at *
        generalize bt m' t = b1 at *
        generalize bt rm t = b2 at *
        rcases hx1 with h1 | ⟨h1, rfl, h2, h3, h4⟩
        all_goals
          rcases hx2 with g1 | ⟨g1, rfl, g2 | ⟨g2, g3⟩⟩
          all_goals
            repeat (first | refine stN ?_ | intro E)
            exact n_again (t + 1) (show t + 1 ≤ p * 128 by omega) rfl (show p * 128 - (t + 1) < p * 128 - t by omega) ⟨rfl, rfl, rfl, rfl, rfl, rfl, rfl, trivial⟩ ⟨⟨rfl, rfl⟩, ⟨rfl, rfl⟩, ⟨rfl, rfl⟩, ⟨rfl, rfl⟩, trivial⟩
      · clear pb' hrw'
        repeat (first | refine stN ?_ | intro E)
        apply n_exit
        rfl
    rcases ho with ho | ⟨ho, rfl, ho2⟩
    all_goals
      rcases hrk with rfl | ⟨rfl, rfl⟩
      all_goals
        clear hrw' pb'
        repeat (first | refine stN ?_ | intro E)
        apply n_exit
        repeat (first | refine stN ?_ | intro E)
        refine q_known (P := fun S => Wp _ _ (.loop f5l25) S _) [(16, .int .i64 0), (15, .bool _), (14, .bool _), (12, .ref 6 0), (10, .ref 4 0), (5, .ref 1 0), (4, .ref 0 0)] [(6, [csl 128 (rm.map ofB), .int .u32 0, .sl 1 0 [], .bool rr, .bool _]), (4, [csl 128 (m'.map ofB), .int .u32 v', csl 1 (outV o), .bool r, .bool ok]), (1, [csl 128 (m.map ofB)]), (0, [.int .u32 tb, .int .u32 ts, .int .u32 rb, .int .u32 rs, .int .i64 ta, .int .i64 ra, .int .i64 st, .int .i64 dr])] ⟨rfl, rfl, rfl, rfl, rfl, rfl, rfl, trivial⟩ ⟨rfl, rfl, rfl, rfl, trivial⟩ fun T H E => wp_imp (key _ T H E _) ?_
        rintro e ⟨T, H, E, n, lv, c⟩ rfl
        show blockK 2 _ (.exit 2) ⟨slots [] T, objs [] H, E, n, lv, c⟩
        repeat (first | refine stN ?_ | intro E)
        exact q_ret (.inr rfl) rfl rfl rfl rfl rfl rfl
end Go.Proofs.Ytaeoaakblilfeaa
