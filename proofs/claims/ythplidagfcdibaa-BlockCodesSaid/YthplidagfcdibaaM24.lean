/- Part 24 of the texts on which proofs about this seat rest: each says what it proves at its own head. No condition. -/
import Derived.Test.YthplidagfcdibaaM23
set_option linter.unusedVariables false
set_option linter.unusedSimpArgs false
/- block.Decode answers what decB says. Condition: at most 3000 bytes. -/
namespace Go.Proofs.Ythplidagfcdibaa
open Go.Abs
variable {k : Nat}
def decV (x : BI × Nat) : AV := .tup [biV x.1, .int .i64 x.2]
theorem p_writesZ {F : CallF} {l : List IOper} {s : List (Nat × AV)} {os os' : List (Nat × List AV)} {T : Nat → AV} {H : Hp} {E : Nat → Option TypeId} {n c d : Nat} {lv : Nat → Bool} {Q : St → Prop} {f : FuncId} {xs : List X} {args : List AV} {R : AV} {id : Nat} {v : List AV}
    (ha : evsS s xs = some args) (hc : ∀ H E, Writes F f args os H n lv c E R id v) (hx : HoldsX n id v os os') (k : ∀ H', WpO F l ⟨slots ((d, R) :: s) T, objs os' H', E, n, lv, c⟩ Q) :
    WpO F (⟨some d, .calls f xs, none⟩ :: l) ⟨slots s T, objs os H, E, n, lv, c⟩ Q := p_writes (evsS_eq ha) hc hx k
theorem p_bslF {F : CallF} {l : List IOper} {s : List (Nat × AV)} {os : List (Nat × List AV)} {T : Nat → AV} {H : Hp} {E : Nat → Option TypeId} {n c d t : Nat} {lv : Nat → Bool} {Q : St → Prop} {v a1 a2 a3 a4 a5 : AV} {r : List AV} (hv : evL s (.t t) = some v) (hs : v.share = .agg r) (hl : r.length = 5) (hf : flatL r = true)
    (k : WpO F l ⟨slots ((d, .sl 3 5 r) :: s) T, objs os H, E, n, lv, c⟩ Q) : WpO F (⟨some d, .bsl false 5 [a1, a2, a3, a4, a5] [(0, 5, .t t)], none⟩ :: l) ⟨slots s T, objs os H, E, n, lv, c⟩ Q :=
  o_eff rfl (by
    have e : fill (slots s T) true [a1, a2, a3, a4, a5] [(0, 5, .t t)] = some r := by
      have hd : List.drop (0 + r.length) [a1, a2, a3, a4, a5] = [] := by rw [hl]; rfl
      simp only [fill, if_true, evL_ev hv, hs, show Go.Abs.stored (AV.agg r) = some r from rfl, hl, put1, splice]
      simp
    simp only [evOp, e, hf, hl]
    simp [hl]) k
theorem p_bslG {F : CallF} {l : List IOper} {s : List (Nat × AV)} {os : List (Nat × List AV)} {T : Nat → AV} {H : Hp} {E : Nat → Option TypeId} {n c d t m : Nat} {lv : Nat → Bool} {Q : St → Prop} {v : AV} {z r : List AV} (hv : evL s (.t t) = some v) (hs : v.share = .agg r) (hl : r.length = m) (hz : z.length = m) (hm : 0 < m) (hf : flatL r = true)
    (k : WpO F l ⟨slots ((d, .sl 3 m r) :: s) T, objs os H, E, n, lv, c⟩ Q) : WpO F (⟨some d, .bsl false m z [(0, m, .t t)], none⟩ :: l) ⟨slots s T, objs os H, E, n, lv, c⟩ Q :=
  o_eff rfl (by
    have e : fill (slots s T) true z [(0, m, .t t)] = some r := by
      simp only [fill, if_true, evL_ev hv, hs, show Go.Abs.stored (AV.agg r) = some r from rfl, hl, put1, splice]
      have : z.drop m = [] := List.drop_eq_nil_of_le (by omega)
      simp [hz, this]
    simp only [evOp, e, hf, hl]
    simp [hm]) k
theorem cut_ofB (b : List UInt8) (a : Nat) (h : a + 128 ≤ b.length) : csl 1 (((b.map ofB).take ((a + 128) * 1)).drop (a * 1)) = .sl 1 1 (((b.drop a).take 128).map ofB) := by
  have e : ((b.map ofB).take ((a + 128) * 1)).drop (a * 1) = ((b.drop a).take 128).map ofB := by
    rw [Nat.mul_one, Nat.mul_one, ← List.map_take, ← List.map_drop, List.drop_take]
    congr 2; omega
  rw [e]
  have hl : (((b.drop a).take 128).map ofB).length = 128 := by rw [List.length_map, List.length_take, List.length_drop]; omega
  cases hx : ((b.drop a).take 128).map ofB with
  | nil => rw [hx] at hl; cases hl
  | cons y ys => rfl
theorem rReqs_len (r : Rdr) : ∀ n, (rReqs n r).1.length = n
  | 0 => rfl
  | n + 1 => by simp [rReqs, rReqs_len r n]
theorem rRing_rng (r : Rdr) : (rRing r).1.1 < 4294967296 ∧ (rRing r).1.2 < 4294967296 := by
  have g1 := nx_rng (m := 4294967295) (by omega) r
  have g2 := nx_rng (m := 4294967295) (by omega) (nx 4294967295 r).2
  constructor
  · show (nx 4294967295 r).1.toNat < _
    omega
  · show (nx 4294967295 (nx 4294967295 r).2).1.toNat < _
    omega
theorem rReq_rng (r : Rdr) : RIok (rReq r).1 := by
  have g1 := rRing_rng r
  have g2 := nx_rng (m := 4) (by omega) (nx 1 (nx 64 (rRing r).2).2).2
  refine ⟨g1.1, g1.2, ?_⟩
  show (rParts (nx 4 (nx 1 (nx 64 (rRing r).2).2).2).1.toNat (nx 4 (nx 1 (nx 64 (rRing r).2).2).2).2).1.length ≤ 5000
  rw [rParts_len]; omega
theorem rReqs_rng (r : Rdr) : ∀ n, ∀ q ∈ (rReqs n r).1, RIok q
  | 0, q, h => by cases h
  | n + 1, q, h => by
    have e : (rReqs (n + 1) r).1 = (rReqs n r).1 ++ [(rReq (rReqs n r).2).1] := rfl
    rw [e, List.mem_append, List.mem_singleton] at h
    rcases h with h | rfl
    · exact rReqs_rng r n q h
    · exact rReq_rng _
theorem p_callH {F : CallF} {l : List IOper} {s : List (Nat × AV)} {os : List (Nat × List AV)} {T : Nat → AV} {H : Hp} {E : Nat → Option TypeId} {n c d : Nat} {lv : Nat → Bool} {Q : St → Prop} {f : FuncId} {xs : List X} {vs args : List AV} {R : AV} (ha : evsS s xs = some vs) (hs : vs.map AV.share = args) (hf : flatL args = true) (hc : Calls0 F f args R)
    (k : WpO F l ⟨slots ((d, R) :: s) T, objs os H, E, n, lv, c⟩ Q) : WpO F (⟨some d, .callp 0 f xs, none⟩ :: l) ⟨slots s T, objs os H, E, n, lv, c⟩ Q :=
  o_call (by rw [← hs, ← evL_all (T := T) (evsS_eq ha), List.map_map]; rfl) hf hc.eq k
theorem LA.can {sz br z c : Nat} {lv : Nat → Bool} {xs : List AV} (h : LA sz lv c br z xs) : canonCell (.sl br z xs) = csl sz xs := by
  rcases h with ⟨rfl, rfl, rfl⟩ | ⟨h4, _, _, rfl⟩
  · rfl
  · exact if_neg (by omega)
theorem pages0 : (List.replicate (64 : Int).toNat (List.replicate 128 (AV.int .u8 0))).flatten = (List.replicate 8192 (0 : UInt8)).map ofB := by
  rw [List.flatten_replicate_replicate, List.map_replicate]; rfl
theorem zs_flat : flatL (List.replicate 128 (AV.int .u8 0)) = true := by decide +kernel
set_option maxRecDepth 100000 in
set_option maxHeartbeats 4000000 in
theorem s30 {b : List UInt8} (hb : b.length ≤ 9000) : Calls0 (evCall FN (k + 101000)) 30 [csl 1 (b.map ofB)] (decV (decB b)) := by
  have c58 : Calls0 (evCall FN (k + 100999)) 58 [csl 1 (b.map ofB)] (tripL (getL b)) := (s58 (k := 0) (by omega)).fuel (by omega)
  have c60 : ∀ (n : Nat) (m : Int) (r : Rdr) (H : Hp) (E : Nat → Option TypeId) (lv : Nat → Bool) (c : Nat), Writes (evCall FN (k + 100999)) 60 [.ref 1 0, .int .i64 m] [(1, rdrV r)] H (n + 2) lv c E (.int .i64 (nx m r).1) 1 (rdrV (nx m r).2) := fun n m r H E lv c => (s60 (k := 0)).fuel (by omega)
  have c59 : ∀ (r : Rdr) (H : Hp) (E : Nat → Option TypeId) (lv : Nat → Bool) (c : Nat), Writes (evCall FN (k + 100999)) 59 [.ref 1 0] [(1, rdrV r)] H 2 lv c E (rgV (rRing r).1) 1 (rdrV (rRing r).2) := fun r H E lv c => (s59_2 (k := 0)).fuel (by omega)
  refine q_call0 fn30 fun T H E lv => ?_
  have hD : decB b = decB b := rfl
  conv at hD => rhs; unfold decB
  rw [hD]
  clear hD
  have hu : (getL b).2.2 = 0 → (getL b).2.1 ≤ b.length := fun h => (getL_ok (b := b) (l := (getL b).1) (u := (getL b).2.1) (by rw [← h])).1
  generalize getL b = G at *
  obtain ⟨L, u, e⟩ := G
  dsimp only at *
  by_cases he : e ≠ 0
  · rw [if_pos he]
    have hbe : (((e : Nat) : Int) != 0) = true := by simpa using he
    repeat (first | refine stN ?_ | intro E)
    dsimp only
    rw [hbe]
    repeat (first | refine stN ?_ | intro E)
    exact q_ret (.inr rfl) rfl rfl rfl rfl rfl rfl
  · rw [if_neg he]
    have he : e = 0 := by omega
    subst he
    have hu := hu rfl
    have eD : rDev L = (⟨(rRing (L, false)).1.1, (rRing (L, false)).1.2, (nx 8 (rRing (L, false)).2).1, (nx 165 (nx 8 (rRing (L, false)).2).2).1, [], (rReqs (nx 8 (nx 64 (nx 165 (nx 8 (rRing (L, false)).2).2).2).2).1.toNat (nx 8 (nx 64 (nx 165 (nx 8 (rRing (L, false)).2).2).2).2).2).1⟩, (nx 64 (nx 165 (nx 8 (rRing (L, false)).2).2).2).1, (rReqs (nx 8 (nx 64 (nx 165 (nx 8 (rRing (L, false)).2).2).2).2).1.toNat (nx 8 (nx 64 (nx 165 (nx 8 (rRing (L, false)).2).2).2).2).2).2) := rfl
    rw [eD]
    clear eD
    have hg8 := nx_rng (m := 8) (by omega) (nx 64 (nx 165 (nx 8 (rRing (L, false)).2).2).2).2
    have hg64 := nx_rng (m := 64) (by omega) (nx 165 (nx 8 (rRing (L, false)).2).2).2
    have cG := c59 (L, false)
    have hgg := rRing_rng (L, false)
    generalize rRing (L, false) = G at *
    have cA := c60 0 8 G.2
    generalize nx 8 G.2 = A at *
    have cB := c60 0 165 A.2
    generalize nx 165 A.2 = B at *
    have cS := c60 1 64 B.2
    generalize nx 64 B.2 = S at *
    have cF := c60 1 8 S.2
    generalize nx 8 S.2 = F at *
    obtain ⟨N, hN⟩ : ∃ N : Nat, F.1 = (N : Int) := ⟨F.1.toNat, by omega⟩
    obtain ⟨M, hM⟩ : ∃ M : Nat, S.1 = (M : Int) := ⟨S.1.toNat, by omega⟩
    have hN8 : N ≤ 8 := by omega
    have hM64 : M ≤ 64 := by omega
    rw [hN] at cF
    rw [hM] at cS
    rw [hN, hM, show ((N : Nat) : Int).toNat = N from rfl]
    clear hg8 hg64 hN hM c60 c59
    obtain ⟨⟨gb, gs⟩, G2⟩ := G
    obtain ⟨A1, A2⟩ := A
    obtain ⟨B1, B2⟩ := B
    obtain ⟨S1, S2⟩ := S
    obtain ⟨F1, F2⟩ := F
    dsimp only at *
    repeat (first | refine stN ?_ | intro E)
    apply p_writesZ (args := [.ref 1 0]) (id := 1) (os' := [(1, rdrV G2), (0, [.int .u32 0, .int .u32 0, .int .i64 0, .int .i64 0, .sl 0 0 [], .sl 0 0 []])])
    · exact rfl
    · exact fun H E => writes_at rfl (cG (objs _ H) E _ _)
    · exact ⟨.inl ⟨rfl, rfl⟩, .inr ⟨rfl, rfl, rfl, rfl⟩, trivial⟩
    intro H1
    repeat (first | refine stN ?_ | intro E)
    apply p_writesZ (args := [.ref 1 0, .int .i64 8]) (id := 1) (os' := [(1, rdrV A2), (0, [.int .u32 0, .int .u32 0, .int .i64 0, .int .i64 0, .sl 0 0 [], .sl 0 0 []])])
    · exact rfl
    · exact fun H E => writes_at rfl (cA (objs _ H) E _ _)
    · exact ⟨.inl ⟨rfl, rfl⟩, .inr ⟨rfl, rfl, rfl, rfl⟩, trivial⟩
    intro H1
    repeat (first | refine stN ?_ | intro E)
    apply p_writesZ (args := [.ref 1 0, .int .i64 165]) (id := 1) (os' := [(1, rdrV B2), (0, [.int .u32 0, .int .u32 0, .int .i64 0, .int .i64 0, .sl 0 0 [], .sl 0 0 []])])
    · exact rfl
    · exact fun H E => writes_at rfl (cB (objs _ H) E _ _)
    · exact ⟨.inl ⟨rfl, rfl⟩, .inr ⟨rfl, rfl, rfl, rfl⟩, trivial⟩
    intro H1
    repeat (first | refine stN ?_ | intro E)
    apply p_writesZ (args := [.ref 1 0, .int .i64 64]) (id := 1) (os' := [(1, rdrV S2), (0, [.int .u32 0, .int .u32 0, .int .i64 0, .int .i64 0, .sl 0 0 [], .sl 0 0 []]), (2, [.int .u32 gb, .int .u32 gs, .int .i64 A1, .int .i64 B1, .sl 0 0 [], .sl 0 0 []])])
    · exact rfl
    · exact fun H E => writes_at rfl (cS (objs _ H) E _ _)
    · exact ⟨.inl ⟨rfl, rfl⟩, .inr ⟨rfl, rfl, rfl, rfl⟩, .inr ⟨rfl, rfl, rfl, rfl⟩, trivial⟩
    intro H1
    repeat (first | refine stN ?_ | intro E)
    apply p_writesZ (args := [.ref 1 0, .int .i64 8]) (id := 1) (os' := [(1, rdrV F2), (0, [.int .u32 0, .int .u32 0, .int .i64 0, .int .i64 0, .sl 0 0 [], .sl 0 0 []]), (2, [.int .u32 gb, .int .u32 gs, .int .i64 A1, .int .i64 B1, .sl 0 0 [], .sl 0 0 []])])
    · exact rfl
    · exact fun H E => writes_at rfl (cF (objs _ H) E _ _)
    · exact ⟨.inl ⟨rfl, rfl⟩, .inr ⟨rfl, rfl, rfl, rfl⟩, .inr ⟨rfl, rfl, rfl, rfl⟩, trivial⟩
    intro H1
    repeat (first | refine stN ?_ | intro E)
    clear cG cA cB cS cF c58 he
    refine q_loop (α := Nat × Nat × Nat) (LInv.mk (fun p => p.1 ≤ N) (fun p => N - p.1)
      (fun p => [(35, .int .i64 (p.1 : Int)), (34, .int .i64 (N : Int)), (10, .int .i64 (N : Int)), (9, .int .i64 (M : Int)), (8, .ref 2 0), (7, .ref 1 0), (5, .int .i64 (u : Int)), (3, .int .i64 0), (2, .ref 0 0), (0, csl 1 (b.map ofB))])
      (fun p => [(1, rdrV (rReqs p.1 F2).2), (0, [.int .u32 0, .int .u32 0, .int .i64 0, .int .i64 0, .sl 0 0 [], .sl 0 0 []]), (2, [.int .u32 gb, .int .u32 gs, .int .i64 A1, .int .i64 B1, .sl 0 0 [], .sl p.2.1 p.2.2 (risV (rReqs p.1 F2).1)])]))
      (fun p lv' c' => 4 ≤ c' ∧ LA 5 lv' c' p.2.1 p.2.2 (risV (rReqs p.1 F2).1)) (0, 0, 0) (Nat.zero_le _) ⟨Nat.le_refl _, LA.nil⟩ (show N - 0 < k + 100999 by omega) ⟨rfl, rfl, rfl, rfl, rfl, rfl, rfl, rfl, rfl, rfl, trivial⟩ ⟨rfl, rfl, rfl, trivial⟩ ?_
    rintro ⟨j, br, z⟩ lv1 c1 T H2 E hP ⟨hc1, hL⟩ hμ
    have hP : j ≤ N := hP
    dsimp only at hL ⊢
    clear hμ
    rcases Nat.lt_or_ge j N with hj | hj
    · have eS1 : (rReqs (j + 1) F2).1 = (rReqs j F2).1 ++ [(rReq (rReqs j F2).2).1] := rfl
      have eS2 : (rReqs (j + 1) F2).2 = (rReq (rReqs j F2).2).2 := rfl
      have hQl := rReqs_len F2 j
      generalize rReqs j F2 = RQ at *
      obtain ⟨Q, R0⟩ := RQ
      dsimp only at *
      have c61 : ∀ (H : Hp) (E : Nat → Option TypeId), WritesP (evCall FN (k + 100999)) 61 [.ref 1 0] [(1, rdrV R0)] H 3 lv1 c1 E 1 (rdrV (rReq R0).2) (RqP (rReq R0).1 lv1 c1) := fun H E => (s61 (k := 0) hc1).fuel (by omega)
      generalize rReq R0 = X at *
      obtain ⟨q, R1⟩ := X
      dsimp only at *
      repeat (first | refine stN ?_ | intro E)
      refine q_opsC 3 [37] rfl rfl ?_
      repeat (first | refine stN ?_ | intro E)
      refine q_atX ?_
      apply p_writesP (args := [.ref 1 0]) (id := 1) (os' := [(1, rdrV R1), (0, [.int .u32 0, .int .u32 0, .int .i64 0, .int .i64 0, .sl 0 0 [], .sl 0 0 []]), (2, [.int .u32 gb, .int .u32 gs, .int .i64 A1, .int .i64 B1, .sl 0 0 [], .sl br z (risV Q)])])
      · exact rfl
      · exact fun H E => WritesP.at rfl (c61 (objs _ H) E)
      · exact ⟨.inl ⟨rfl, rfl⟩, .inr ⟨rfl, rfl, rfl, rfl⟩, .inr ⟨rfl, rfl, rfl, rfl⟩, trivial⟩
      rintro R H3 lv2 c2 ⟨br2, z2, rfl, hbz, hc2, hlv2⟩
      have hL2 : LA 5 lv2 c2 br z (risV Q) := by
        rcases hL with hL | ⟨l1, l2, l3, l4⟩
        · exact .inl hL
        · exact .inr ⟨l1, by omega, by rw [hlv2 br l1 l2]; exact l3, l4⟩
      have hroom : ((risV Q).length + (riV q).length) / 5 * 48 ≤ room := by
        have h1 : (risV Q).length = Q.length * 5 := ris_length Q
        rw [h1, hQl, room_val, riV_length]
        omega
      clear c61
      have fin : ∀ lv3 : Nat → Bool, lv3 c2 = true → LA 5 lv3 (c2 + 1) c2 5 (risV Q ++ riV q) := fun lv3 m => LA.mine (by omega) m
      have eQ : risV Q ++ riV q = risV (Q ++ [q]) := flight_snoc Q q
      have hcc : canonCell (.sl br2 z2 (pisV q.l)) = csl 4 (pisV q.l) := by
        rcases hbz with ⟨rfl, rfl, hp⟩ | ⟨h1, rfl⟩
        · rw [hp]; rfl
        · show (if br2 = 1 then AV.sl 1 4 (pisV q.l) else csl 4 (pisV q.l)) = _
          rw [if_neg (by omega)]
      repeat (first | refine stN ?_ | intro E)
      refine q_behX ?_
      have hsh : (AV.agg (riVb br2 z2 q)).share = .agg (riV q) := by
        show AV.agg [_, _, _, _, canonCell (.sl br2 z2 (pisV q.l))] = _
        rw [hcc]; rfl
      generalize AV.agg (riVb br2 z2 q) = RV at *
      apply p_bslF (r := riV q)
      · exact rfl
      · exact hsh
      · exact riV_length q
      · exact riV_flat q
      clear hsh
      apply p_appL
      · exact rfl
      · exact rfl
      · exact rfl
      · exact hL2
      · exact ⟨by omega, by omega⟩
      · exact hroom
      intro lv3 m1 m2
      rw [eQ]
      repeat (first | refine stN ?_ | intro E)
      refine q_sameX (fun q' hq' => ?_) ?_
      · obtain rfl := List.mem_singleton.1 hq'
        exact ⟨2, _, lk_slots rfl, (lkO_objs rfl).trans (lkO_objs rfl).symm⟩
      refine q_andX rfl ?_
      repeat (first | refine stN ?_ | intro E)
      refine n_again (j + 1, c2, 5) hj ⟨by omega, ?_⟩ (show N - (j + 1) < N - j by omega) ⟨rfl, rfl, rfl, rfl, rfl, rfl, rfl, rfl, rfl, rfl, trivial⟩ ?_
      · dsimp only
        rw [eS1, ← eQ]; exact fin lv3 m1
      · dsimp only
        rw [eS1, eS2]
        exact ⟨⟨rfl, rfl⟩, ⟨rfl, rfl⟩, ⟨rfl, rfl⟩, trivial⟩
    · obtain rfl : j = N := by omega
      clear hj hP
      have hQ := rReqs_rng F2 j
      have hQl := rReqs_len F2 j
      generalize rReqs j F2 = RQ at *
      obtain ⟨Q, L3, bad⟩ := RQ
      have hlen3 : (iV L3).length / 1 = L3.length := by simp [iV]
      have hlenb : (b.map ofB).length / 1 = b.length := by simp
      dsimp only at *
      have hr3 : rdrV (L3, bad) = [csl 1 (iV L3), .bool bad] := rfl
      rw [hr3]
      clear hr3
      cases bad with
      | true =>
        rw [if_pos (.inl rfl)]
        repeat (first | refine stN ?_ | intro E)
        apply n_exit
        apply b_exit
        repeat (first | refine stN ?_ | intro E)
        exact q_ret (.inr rfl) rfl rfl rfl rfl rfl rfl
      | false =>
        by_cases h3 : L3 = []
        · subst h3
          by_cases h4 : (b.length : Int) ≠ u + M * 128
          · rw [if_pos (.inr (.inr h4))]
            repeat (first | refine stN ?_ | intro E)
            apply n_exit
            apply b_exit
            repeat (first | refine stN ?_ | intro E)
            exact q_ret (.inr rfl) rfl rfl rfl rfl rfl rfl
          · rw [if_neg (fun h => by
              rcases h with h | h | h
              · cases h
              · exact h rfl
              · exact h4 h)]
            repeat (first | refine stN ?_ | intro E)
            apply n_exit
            apply b_exit
            repeat (first | refine stN ?_ | intro E)
            have hub : u + M * 128 = b.length := by omega
            refine q_loop (α := Nat × Nat × Nat) (LInv.mk (fun p => p.1 ≤ M) (fun p => M - p.1)
              (fun p => [(68, .int .i64 (p.1 : Int)), (67, .int .i64 (M : Int)), (8, .ref 2 0), (5, .int .i64 ((u + p.1 * 128 : Nat) : Int)), (3, .int .i64 0), (2, .ref 0 0), (0, csl 1 (b.map ofB))])
              (fun p => [(0, [.int .u32 0, .int .u32 0, .int .i64 0, .int .i64 0, .sl 0 0 [], .sl 0 0 []]), (2, [.int .u32 gb, .int .u32 gs, .int .i64 A1, .int .i64 B1, .sl p.2.1 p.2.2 (((b.drop u).take (p.1 * 128)).map ofB), .sl br z (risV Q)])]))
              (fun p lv' c' => 4 ≤ c' ∧ LA 128 lv' c' p.2.1 p.2.2 (((b.drop u).take (p.1 * 128)).map ofB)) (0, 0, 0) (Nat.zero_le _) ⟨hc1, by simp only [Nat.zero_mul, List.take_zero, List.map_nil]; exact LA.nil⟩ (show M - 0 < k + 100999 by omega) ⟨rfl, rfl, rfl, rfl, rfl, rfl, rfl, trivial⟩ ⟨rfl, by simp only [Nat.zero_mul, List.take_zero, List.map_nil]; rfl, trivial⟩ ?_
            rintro ⟨i, br1, z1⟩ lv2 c2 T H3 E hi ⟨hc2, hL1⟩ hμ
            have hi : i ≤ M := hi
            dsimp only at hL1 ⊢
            clear hμ
            rcases Nat.lt_or_ge i M with hj | hj
            · have hcut := cut_ofB b (u + i * 128) (by omega)
              have hPl : (((b.drop (u + i * 128)).take 128).map ofB).length = 128 := by rw [List.length_map, List.length_take, List.length_drop]; omega
              have hPP : ((b.drop u).take (i * 128)).map ofB ++ ((b.drop (u + i * 128)).take 128).map ofB = ((b.drop u).take ((i + 1) * 128)).map ofB := by
                rw [← List.map_append, show (i + 1) * 128 = i * 128 + 128 by omega, List.take_add, List.drop_drop]
              have hPr : rd (((b.drop (u + i * 128)).take 128).map ofB) 0 128 true = some (.agg (((b.drop (u + i * 128)).take 128).map ofB)) := by
                unfold rd
                rw [if_pos rfl, if_pos (by omega), List.drop_zero, List.take_of_length_le (by omega)]
              have hPs : (AV.agg (((b.drop (u + i * 128)).take 128).map ofB)).share = .agg (((b.drop (u + i * 128)).take 128).map ofB) := by
                show AV.agg (List.map canonCell _) = _
                rw [List.map_map]; rfl
              have hPf : flatL (((b.drop (u + i * 128)).take 128).map ofB) = true := flat_ofB _
              have hd0 : (((b.drop u).take (i * 128)).map ofB).length = i * 128 := by rw [List.length_map, List.length_take, List.length_drop]; omega
              generalize ((b.drop (u + i * 128)).take 128).map ofB = P at *
              repeat (first | refine stN ?_ | intro E)
              apply p_slL
              · exact rfl
              · exact csz_ok _ _
              · exact bL_some rfl (asB_n (by omega))
              · exact bL_some rfl (asB_n (by omega))
              rw [hcut]
              apply p_s2a
              · exact rfl
              · exact ⟨rfl, by omega, by omega, by omega⟩
              repeat (first | refine stN ?_ | intro E)
              apply p_bslG (r := P)
              · exact rfl
              · exact hPs
              · exact hPl
              · exact rfl
              · omega
              · exact hPf
              apply p_appL
              · exact rfl
              · exact rfl
              · cases P with
                | nil => cases hPl
                | cons y ys => rfl
              · exact hL1
              · exact ⟨by omega, by omega⟩
              · rw [hd0, hPl, room_val]; omega
              intro lv3 m1 m2
              rw [hPP]
              repeat (first | refine stN ?_ | intro E)
              refine n_again (i + 1, c2, 128) hj ⟨by omega, ?_⟩ (show M - (i + 1) < M - i by omega) ⟨rfl, rfl, rfl, ?_, rfl, rfl, rfl, trivial⟩ ⟨⟨rfl, rfl⟩, ⟨rfl, rfl⟩, trivial⟩
              · exact LA.mine (by omega) m1
              · show some (AV.int .i64 ((u + i * 128 + 128 : Nat) : Int)) = some (AV.int .i64 ((u + (i + 1) * 128 : Nat) : Int))
                rw [show u + i * 128 + 128 = u + (i + 1) * 128 by omega]
            · obtain rfl : i = M := by omega
              repeat (first | refine stN ?_ | intro E)
              apply n_exit
              apply b_exit
              repeat (first | refine stN ?_ | intro E)
              apply p_mks
              · exact rfl
              · exact rfl
              · exact ⟨by omega, by omega, by rw [room_val]; omega, by omega, List.length_replicate, by omega, zs_flat⟩
              intro lv3 m1 m2
              rw [show O.Y = AV.int .u8 0 from rfl, pages0]
              have hZ : VM (List.replicate 8192 (0 : UInt8)) := ⟨64, by omega, by omega, List.length_replicate⟩
              have hZl : (List.replicate 8192 (0 : UInt8)).length = 8192 := List.length_replicate
              generalize List.replicate 8192 (0 : UInt8) = Z at *
              have hX : (b.drop u).take (i * 128) = b.drop u := List.take_of_length_le (by rw [List.length_drop]; omega)
              have lx1 := LA.can hL1
              have lx2 := LA.can hL
              rw [hX] at lx1 ⊢
              have e1 : biV ⟨gb, gs, A1, B1, b.drop u, Q⟩ = (AV.agg [.int .u32 gb, .int .u32 gs, .int .i64 A1, .int .i64 B1, .sl br1 z1 ((b.drop u).map ofB), .sl br z (risV Q)]).share := by
                show _ = AV.agg [_, _, _, _, canonCell (.sl br1 z1 _), canonCell (.sl br z _)]
                rw [lx1, lx2]; rfl
              have c13 : Calls0 (evCall FN (k + 100999)) 13 [biV ⟨gb, gs, A1, B1, b.drop u, Q⟩, memV Z] (.bool (validB 8192 ⟨gb, gs, A1, B1, b.drop u, Q⟩)) := by
                rw [← hZl]
                exact (s13 (k := 0) hZ hgg.1 hgg.2 (by show ((b.drop u).map ofB).length / 128 < _; rw [List.length_map, List.length_drop]; omega) (by show Q.length ≤ 5000; omega) hQ).fuel (by omega)
              have e2 : memV Z = (AV.agg [.sl c2 128 (Z.map ofB)]).share := by
                show _ = AV.agg [canonCell (.sl c2 128 (Z.map ofB))]
                rw [show canonCell (.sl c2 128 (Z.map ofB)) = csl 128 (Z.map ofB) from if_neg (by omega)]; rfl
              have hf2 : flatL [biV ⟨gb, gs, A1, B1, b.drop u, Q⟩, memV Z] = true := rfl
              repeat (first | refine stN ?_ | intro E)
              generalize hV : validB 8192 ⟨gb, gs, A1, B1, b.drop u, Q⟩ = V at *
              apply p_callH (args := [biV ⟨gb, gs, A1, B1, b.drop u, Q⟩, memV Z])
              · exact rfl
              · rw [e1, e2]; rfl
              · exact hf2
              · exact c13
              cases V with
              | false =>
                rw [if_pos rfl]
                repeat (first | refine stN ?_ | intro E)
                exact q_ret (.inr rfl) rfl rfl rfl rfl rfl rfl
              | true =>
                rw [if_neg (by simp), show decV (⟨gb, gs, A1, B1, b.drop u, Q⟩, 0) = .tup [biV ⟨gb, gs, A1, B1, b.drop u, Q⟩, .int .i64 0] from rfl]
                repeat (first | refine stN ?_ | intro E)
                exact q_ret (.inr rfl) rfl rfl rfl rfl (by rw [e1]; rfl) rfl
        · rw [if_pos (.inr (.inl h3))]
          have : 0 < L3.length := List.length_pos_iff.2 h3
          repeat (first | refine stN ?_ | intro E)
          apply n_exit
          apply b_exit
          repeat (first | refine stN ?_ | intro E)
          exact q_ret (.inr rfl) rfl rfl rfl rfl rfl rfl
end Go.Proofs.Ythplidagfcdibaa
