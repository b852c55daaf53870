/- Part 26 of the texts on which proofs about this seat rest: each says what it proves at its own head. No condition. -/
import Derived.Test.YtaeoaakblilfeaaM25
set_option linter.unusedVariables false
set_option linter.unusedSimpArgs false
/- A device that receives, by the program. Condition: the memory is valid, the device is valid. -/
namespace Go.Proofs.Ytaeoaakblilfeaa
open Go.Abs
variable {k : Nat}
theorem finX {tx : Bool} {tb ts rb rs oth dr c : Nat} {x : XS} {os : List (Nat × List AV)} {H H0 : Hp} {lv : Nat → Bool} {Inv : XS → (Nat → Bool) → Nat → Prop} (hI : Inv x lv c) (h5 : lkO os 5 = some (cel tx tb ts rb rs oth dr x)) (hS : Same 7 5 H0 (objs os H)) :
    AV.bool (going (.exit 0)) = .bool false ∧ ∃ x', 9 = 9 ∧ upd (trim 9 (objs os H)) 7 (stOf (exSt (.exit 0))) 5 = cel tx tb ts rb rs oth dr x' ∧ upd (trim 9 (objs os H)) 7 (stOf (exSt (.exit 0))) 7 = stOf 2 ∧ Same 7 5 H0 (upd (trim 9 (objs os H)) 7 (stOf (exSt (.exit 0)))) ∧ Inv x' lv c := by
  obtain ⟨f1, f2, f3⟩ := finR (v := stOf (exSt (.exit 0))) h5 hS
  exact ⟨rfl, x, rfl, f1, f2, f3, hI⟩
def PostR (R : RR) (dr : Nat) (x : XS) (st : Int) (_ : Nat → Bool) (_ : Nat) : Prop :=
  (st = 0 ∨ st = 2) ∧ x.br = 0 ∧ x.z = 0 ∧ x.xs = [] ∧ R = ⟨x.m, x.r, x.ok, x.a, x.st, if x.ok then dr else dropN dr⟩
set_option maxRecDepth 100000 in
set_option maxHeartbeats 4000000 in
theorem recv_round {tb ts rb rs ta ra st dr j c : Nat} {m pk : List UInt8} {H0 : Hp} {lv : Nat → Bool} {Tr : Nat → AV} (h6 : H0 6 = [.ref 5 0]) (h2 : H0 2 = [.str pk]) (hT : Tr 8 = .ref 6 0) (hT5 : Tr 5 = .ref 2 0) (hrv : RV m rb rs) (hj : j < rs) (hp : pk.length ≤ 600) :
    RoundOK (roundY (evCode (evCall FN (k + 10601)) (k + 10601) f15a6) (evCode (evCall FN (k + 10601)) (k + 10601) f15y6) Tr [30] 7) false tb ts rb rs ta dr H0 (took rb rs j ⟨m, 0, 0, [], false, false, ra, st⟩) j (ptsOf m rb rs j) (takeE m rb rs j) lv c fun bb x' _ _ => bb = false ∧ x' = delv rb j (takeL m rb rs j) (ptsOf m rb rs j) (takeE m rb rs j) pk (took rb rs j ⟨m, 0, 0, [], false, false, ra, st⟩) := by
  have htv := take_rv hrv hj
  intro H E hS h5 h7
  have h6' := six hS h6
  have h2' : H 2 = [.str pk] := keep_ne (same_at hS h2 rfl rfl rfl)
  unfold took at h5
  dsimp only at h5
  have eT : slots [(5, .ref 2 0), (8, .ref 6 0)] Tr = Tr := slots_self ⟨hT5, hT, trivial⟩
  have eH : objs [(7, stOf 0), (6, [.ref 5 0]), (2, [.str pk]), (5, cel false tb ts rb rs ta dr ⟨takeM m rb rs j, 0, 0, [], true, false, (j + 1) % rs, if takeE m rb rs j ≠ 0 then takeE m rb rs j else st⟩)] H = H := objs_self ⟨h7, h6', h2', h5, trivial⟩
  have key : ∃ r hs, roundY (evCode (evCall FN (k + 10601)) (k + 10601) f15a6) (evCode (evCall FN (k + 10601)) (k + 10601) f15y6) (slots [(5, .ref 2 0), (8, .ref 6 0)] Tr) [30] 7 [.agg [.int .i64 j, csl 4 (ptsV (ptsOf m rb rs j)), .int .i64 (takeE m rb rs j)]] ⟨objs [(7, stOf 0), (6, [.ref 5 0]), (2, [.str pk]), (5, cel false tb ts rb rs ta dr ⟨takeM m rb rs j, 0, 0, [], true, false, (j + 1) % rs, if takeE m rb rs j ≠ 0 then takeE m rb rs j else st⟩)] H, 9, lv, c⟩ E = some (r, hs) ∧ (r = .bool false ∧ ∃ x', hs.n = 9 ∧ hs.H 5 = cel false tb ts rb rs ta dr x' ∧ hs.H 7 = stOf 2 ∧ Same 7 5 H0 hs.H ∧ x' = delv rb j (takeL m rb rs j) (ptsOf m rb rs j) (takeE m rb rs j) pk (took rb rs j ⟨m, 0, 0, [], false, false, ra, st⟩)) := by
    refine q_round (s0 := [(30, .agg [.int .i64 j, csl 4 (ptsV (ptsOf m rb rs j)), .int .i64 (takeE m rb rs j)]), (5, .ref 2 0), (8, .ref 6 0)]) rfl rfl (by omega) rfl ?_
    have hS0 : Same 7 5 H0 (objs [(7, stOf 0), (6, [.ref 5 0]), (2, [.str pk]), (5, cel false tb ts rb rs ta dr ⟨takeM m rb rs j, 0, 0, [], true, false, (j + 1) % rs, if takeE m rb rs j ≠ 0 then takeE m rb rs j else st⟩)] H) := by rw [eH]; exact hS
    clear eH h5 h7 h6' h2' hS eT hT h6 h2
    have hL : takeE m rb rs j = 0 → PO (takeM m rb rs j) ((takeL m rb rs j).map (ptOf m rb)) ∧ ∀ q ∈ takeL m rb rs j, q < rs := fun he => ⟨pts_ok hrv hj he, fun q hq => ((take_good hj he).1.one q hq).1⟩
    have c37 := fun H lv c E => s37 (k := 0) (tb := tb) (ts := ts) (ta := ta) (ra := (j + 1) % rs) (st := if takeE m rb rs j ≠ 0 then takeE m rb rs j else st) (dr := dr) (ok := false) (e := takeE m rb rs j) (js := takeL m rb rs j) (bs0 := m) (H := H) (lv := lv) (c := c) (E := E) htv hj hp hL
    have ed : delv rb j (takeL m rb rs j) (ptsOf m rb rs j) (takeE m rb rs j) pk (took rb rs j ⟨m, 0, 0, [], false, false, ra, st⟩) = delv rb j (takeL m rb rs j) ((takeL m rb rs j).map (ptOf m rb)) (takeE m rb rs j) pk ⟨takeM m rb rs j, 0, 0, [], true, false, (j + 1) % rs, if takeE m rb rs j ≠ 0 then takeE m rb rs j else st⟩ := rfl
    rw [ed]
    clear ed hL
    generalize delv rb j (takeL m rb rs j) ((takeL m rb rs j).map (ptOf m rb)) (takeE m rb rs j) pk ⟨takeM m rb rs j, 0, 0, [], true, false, (j + 1) % rs, if takeE m rb rs j ≠ 0 then takeE m rb rs j else st⟩ = X at *
    generalize hst : (if takeE m rb rs j ≠ 0 then takeE m rb rs j else st) = st1 at *
    unfold ptsOf
    generalize takeM m rb rs j = M at *
    generalize ptsV ((takeL m rb rs j).map (ptOf m rb)) = L at *
    generalize takeE m rb rs j = e at *
    repeat (first | refine stN ?_ | intro E)
    refine ⟨rfl, lkO_objs rfl, ?_⟩
    dsimp only
    show Wp _ _ f15y6 ⟨slots _ _, objs ((7, stOf (-1)) :: _) _, _, _, _, _⟩ _
    repeat (first | refine stN ?_ | intro E)
    apply p_writesX (args := [.ref 5 0, .agg [.int .i64 j, csl 4 L, .int .i64 e], .str pk]) (id := 5) (n0 := 7) (H0 := H0) (os' := [(5, cel false tb ts rb rs ta dr X)])
    · exact rfl
    · exact fun H E => writes_at rfl ((c37 (objs _ H) _ _ E).fuel (by omega))
    · exact ⟨.inl ⟨rfl, rfl⟩, trivial⟩
    · exact (by repeat (first | exact hS0 | refine Same.cons ?_ rfl))
    · omega
    intro H2 hS2
    repeat (first | refine stN ?_ | intro E)
    dsimp only
    refine finX (lv := lv) (c := c) (tx := false) (tb := tb) (ts := ts) (rb := rb) (rs := rs) (oth := ta) (dr := dr) (x := X) (Inv := fun x _ _ => x = X) rfl ?_ ?_
    · exact rfl
    · exact hS2
  rw [eT, eH] at key
  obtain ⟨r, hs, g1, rfl, x', g2, g3, g4, g5, g6⟩ := key
  obtain ⟨H', n', lv', c'⟩ := hs
  dsimp only at g2 g3 g4 g5
  subst g2
  exact ⟨false, x', H', lv', c', g1, g3, by simpa using g4, g5, rfl, g6⟩
end Go.Proofs.Ytaeoaakblilfeaa

/- A device that receives, by the program: the function. Condition: the memory is valid, the device is valid. -/
namespace Go.Proofs.Ytaeoaakblilfeaa
open Go.Abs
variable {k : Nat}
theorem k_pop {K : St → Prop} {s ts : List (Nat × AV)} {os : List (Nat × List AV)} {T : Nat → AV} {H : Hp} {E : Nat → Option TypeId} {n n' c : Nat} {lv : Nat → Bool} (h1 : HoldsS n s ts) (h2 : HoldsO (keepH n H) os) (k : ∀ T' H', K ⟨slots ts T', objs os H', E, n, lv, c⟩) : K (pop n ⟨slots s T, H, E, n', lv, c⟩) := by
  obtain ⟨T', H', e⟩ := pop_known (E := E) (n' := n') (c := c) (lv := lv) (T := T) h1 h2
  rw [e]; exact k T' H'
theorem RoundOK.imp {y : Yield} {tx : Bool} {tb ts rb rs oth dr i e c : Nat} {H0 : Hp} {x : XS} {L : List Pt} {lv : Nat → Bool} {P P' : Bool → XS → (Nat → Bool) → Nat → Prop} (h : RoundOK y tx tb ts rb rs oth dr H0 x i L e lv c P) (hp : ∀ b x lv c, P b x lv c → P' b x lv c) : RoundOK y tx tb ts rb rs oth dr H0 x i L e lv c P' := by
  intro H E hS h5 h7
  obtain ⟨b, x', H', lv', c', g1, g2, g3, g4, g5⟩ := h H E hS h5 h7
  exact ⟨b, x', H', lv', c', g1, g2, g3, g4, hp _ _ _ _ g5⟩
def recvV (tb ts rb rs ta dr : Nat) (R : RR) : AV :=
  .tup [.agg [.int .u32 tb, .int .u32 ts, .int .u32 rb, .int .u32 rs, .int .i64 ta, .int .i64 R.a, .int .i64 R.st, .int .i64 R.dr], .agg [csl 128 (R.m.map ofB), .int .u32 0, .sl 1 0 [], .bool R.r, .bool R.ok]]
set_option maxRecDepth 100000 in
set_option maxHeartbeats 4000000 in
theorem s15 {tb ts rb rs ra st dr : Nat} {ta : Nat} {m pk : List UInt8} (h : VM m) (hb : rb < 4294967296) (hs : rs < 4294967296) (hd : dr ≤ 1099511627776) (hp : pk.length ≤ 600) (ha : wholeN rs → ra < rs) :
    Calls0 (evCall FN (k + 10602)) 15 [.agg [.int .u32 tb, .int .u32 ts, .int .u32 rb, .int .u32 rs, .int .i64 ta, .int .i64 ra, .int .i64 st, .int .i64 dr], memV m, .str pk] (recvV tb ts rb rs ta dr (rcv rb rs ra st dr m pk)) := by
  generalize hR : rcv rb rs ra st dr m pk = R
  unfold rcv at hR
  refine q_call0 fn15 fun T H E lv => ?_
  unfold recvV
  by_cases h0 : pk.length = 0
  · rw [if_pos (.inl h0)] at hR
    subst hR
    have hpk : pk = [] := List.length_eq_zero_iff.1 h0
    subst hpk
    unfold dropN
    repeat (first | refine stN ?_ | intro E)
    exact q_ret (.inr rfl) rfl rfl rfl rfl rfl rfl
  have hne : evBin .neq (.str pk) (.str []) = some (.bool true) := by
    cases pk with
    | nil => exact absurd rfl h0
    | cons x pk => rfl
  by_cases h1 : 512 < pk.length
  · rw [if_pos (.inr h1)] at hR
    subst hR
    unfold dropN
    repeat (first | refine stN ?_ | intro E)
    exact q_ret (.inr rfl) rfl rfl rfl rfl rfl rfl
  rw [if_neg (by omega)] at hR
  repeat (first | refine stN ?_ | intro E)
  apply p_writesX (args := [.ref 5 0, ringV rb rs, .ref 5 10]) (id := 5) (n0 := 0) (H0 := fun _ => []) (os' := [(5, cel false tb ts rb rs ta dr ⟨m, 0, 0, [], false, false, ra, st⟩), (6, [.ref 5 0]), (2, [.str pk]), (3, [.int .u32 0, .int .u32 0, .int .u32 0, .int .u32 0, .int .i64 0, .int .i64 0, .int .i64 0, .int .i64 0]), (4, [.sl 0 0 [], .int .u32 0, .sl 0 0 [], .bool false, .bool false])])
  · exact rfl
  · exact fun H E => writes_at rfl ((s36 (k := 0) rfl).fuel (by omega))
  · exact ⟨.inl ⟨rfl, rfl⟩, .inr ⟨rfl, rfl, rfl, rfl⟩, .inr ⟨rfl, rfl, rfl, rfl⟩, .inr ⟨rfl, rfl, rfl, rfl⟩, .inr ⟨rfl, rfl, rfl, rfl⟩, trivial⟩
  · exact fun j hj => by omega
  · omega
  intro H2 _
  repeat (first | refine stN ?_ | intro E)
  refine q_rangeF (k' := k + 10600) (env := fun _ => none) rfl rfl fn59 ?_
  intro y T' hy env' henv
  refine wp_imp (s59f (tb := tb) (ts := ts) (rb := rb) (rs := rs) (oth := ta) (dr := dr) (b := rb) (s := rs) (x0 := ⟨m, 0, 0, [], false, false, ra, st⟩) (H := objs [(6, [.ref 5 0]), (2, [.str pk]), (3, [.int .u32 0, .int .u32 0, .int .u32 0, .int .u32 0, .int .i64 0, .int .i64 0, .int .i64 0, .int .i64 0]), (4, [.sl 0 0 [], .int .u32 0, .sl 0 0 [], .bool false, .bool false])] H2) (H0 := objs [(7, stOf 0), (5, cel false tb ts rb rs ta dr ⟨m, 0, 0, [], false, false, ra, st⟩), (6, [.ref 5 0]), (2, [.str pk]), (3, [.int .u32 0, .int .u32 0, .int .u32 0, .int .u32 0, .int .i64 0, .int .i64 0, .int .i64 0, .int .i64 0]), (4, [.sl 0 0 [], .int .u32 0, .sl 0 0 [], .bool false, .bool false])] H2) (y := y)
    (fun i x _ _ => i = 0 ∧ x = ⟨m, 0, 0, [], false, false, ra, st⟩ ∧ RV m rb rs ∧ ra < rs) (PostR R dr) h hb hs henv (Same.refl _ _ _) ?_ ?_ ?_ ?_ ?_ ?_) ?_
  · intro hc
    rw [if_pos hc] at hR
    exact ⟨.inl rfl, rfl, rfl, rfl, hR.symm⟩
  · exact fun hr => ⟨rfl, rfl, hr, ha hr.hs⟩
  · rintro i x lv c ⟨_, rfl, h1, h2⟩
    exact ⟨h1, h2⟩
  · rintro i x lv c hi ⟨_, rfl, h1, h2⟩ hf
    rw [if_neg (by rw [rv_chk h1]; decide), if_pos hf] at hR
    exact ⟨.inl rfl, rfl, rfl, rfl, hR.symm⟩
  · rintro x lv c ⟨h0, _, h1, _⟩
    have := h1.hs
    omega
  · rintro i x lv c1 j hi hj ⟨rfl, rfl, h1, h2⟩ hf
    rw [hy]
    rw [if_neg (by rw [rv_chk h1]; decide), hf, if_neg (fun h => Bool.noConfusion h)] at hR
    refine RoundOK.imp (recv_round (k := k) (ra := ra) (st := st) (pk := pk) (m := m) rfl rfl rfl rfl h1 hj hp) ?_
    rintro _ x' lv' c' ⟨rfl, g5⟩
    rw [if_neg (by decide)]
    dsimp only at hR
    unfold rserve at hR
    unfold delv took at g5
    by_cases he : takeE m rb rs j ≠ 0
    · rw [if_pos he] at hR g5
      subst g5
      rw [if_pos he]
      exact ⟨.inr rfl, rfl, rfl, rfl, hR.symm⟩
    rw [if_neg he] at hR g5
    by_cases hf2 : mfE (ptsOf m rb rs j) true pk.length 1048576 ≠ 0
    · rw [if_pos hf2] at hR g5
      subst g5
      exact ⟨.inr rfl, rfl, rfl, rfl, hR.symm⟩
    · rw [if_neg hf2] at hR g5
      subst g5
      refine ⟨.inr rfl, rfl, rfl, rfl, ?_⟩
      rw [← hR]
      dsimp only
      rw [if_neg he, if_pos rfl]
  · intro e S hR'
    refine rets_imp hR' ?_
    rintro _ ⟨H3, n3, lv3, c3⟩ ⟨x, st', ⟨hst, hx1, hx2, hx3, hx4⟩, g1, g2, g3⟩
    obtain ⟨xm, xbr, xz, xxs, xr, xok, xa, xst⟩ := x
    dsimp only at g1 g2 g3 hx1 hx2 hx3 hx4
    subst hx1 hx2 hx3 hx4
    have k6 := same_at g3 (j := 6) (v := [.ref 5 0]) rfl rfl rfl rfl
    have k3 := same_at g3 (j := 3) (v := [.int .u32 0, .int .u32 0, .int .u32 0, .int .u32 0, .int .i64 0, .int .i64 0, .int .i64 0, .int .i64 0]) rfl rfl rfl rfl
    have k4 := same_at g3 (j := 4) (v := [.sl 0 0 [], .int .u32 0, .sl 0 0 [], .bool false, .bool false]) rfl rfl rfl rfl
    have k5 := keep_cel (n := 7) g1
    refine ⟨st', if st' = 0 then .norm else .exit 0, g2, ?_, ?_⟩
    · rcases hst with rfl | rfl <;> rfl
    · clear hR' hy henv
      have hb0 : ∀ (e : Ex), (e = .norm ∨ e = .exit 0) → ∀ {K : Ex → St → Prop} {S : St}, K .norm S → blockK 0 K e S := by
        rintro e (rfl | rfl) K S hK
        · exact b_norm hK
        · exact b_exit hK
      refine hb0 _ (by split <;> simp) ?_
      refine k_pop (K := fun S => seqK _ _ _ _ .norm S) (ts := [(8, .ref 6 0), (6, .ref 3 0), (7, .ref 4 0)]) (os := [(5, cel false tb ts rb rs ta dr ⟨xm, 0, 0, [], xr, xok, xa, xst⟩), (6, [.ref 5 0]), (3, [.int .u32 0, .int .u32 0, .int .u32 0, .int .u32 0, .int .i64 0, .int .i64 0, .int .i64 0, .int .i64 0]), (4, [.sl 0 0 [], .int .u32 0, .sl 0 0 [], .bool false, .bool false])]) ?_ ?_ ?_
      · exact ⟨rfl, rfl, rfl, trivial⟩
      · exact ⟨k5, k6, k3, k4, trivial⟩
      · intro T2 H4
        clear k5 k6 k3 k4 g1 g2 g3 hR hne
        dsimp only
        cases xok
        · rw [if_neg (by decide)]
          unfold dropN
          repeat (first | refine stN ?_ | intro E)
          exact q_ret (.inr rfl) rfl rfl rfl rfl rfl rfl
        · rw [if_pos rfl]
          repeat (first | refine stN ?_ | intro E)
          exact q_ret (.inr rfl) rfl rfl rfl rfl rfl rfl
end Go.Proofs.Ytaeoaakblilfeaa
