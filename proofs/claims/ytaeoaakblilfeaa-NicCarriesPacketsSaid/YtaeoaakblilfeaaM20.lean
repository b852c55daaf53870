/- Part 20 of the texts on which proofs about this seat rest: each says what it proves at its own head. No condition. -/
import Derived.Test.YtaeoaakblilfeaaM19
set_option linter.unusedVariables false
set_option linter.unusedSimpArgs false
/- What a device sends, by the program. Condition: the memory is valid. -/
namespace Go.Proofs.Ytaeoaakblilfeaa
open Go.Abs
variable {k : Nat}
theorem writes_atB {F : CallF} {f : FuncId} {args : List AV} {os : List (Nat × List AV)} {H : Hp} {n : Nat} {lv : Nat → Bool} {c : Nat} {E : Nat → Option TypeId} {R : AV} {id i : Nat} {V : List AV → Prop} {cells : List AV} (ho : lkO os i = some cells) (h : WritesB F f args [(i, cells)] (objs os H) n lv c E R id V) : WritesB F f args os H n lv c E R id V := by
  obtain ⟨h⟩ := h
  rw [objs_at ho] at h
  exact ⟨h⟩
theorem p_writesB {F : CallF} {l : List IOper} {s : List (Nat × AV)} {os : List (Nat × List AV)} {T : Nat → AV} {H : Hp} {E : Nat → Option TypeId} {n c d : Nat} {lv : Nat → Bool} {Q : St → Prop} {f : FuncId} {xs : List X} {args : List AV} {R : AV} {id n0 : Nat} {V : List AV → Prop} {H0 : Hp} {os' : List AV → List (Nat × List AV)} (ha : evsS s xs = some args) (hc : ∀ H E, WritesB F f args os H n lv c E R id V) (hx : ∀ v, V v → HoldsX n id v os (os' v)) (hS : Same n0 id H0 (objs os H)) (hn : n0 ≤ n)
    (k : ∀ v H lv' c', V v → c ≤ c' → Same n0 id H0 (objs (os' v) H) → WpO F l ⟨slots ((d, R) :: s) T, objs (os' v) H, E, n, lv', c'⟩ Q) :
    WpO F (⟨some d, .calls f xs, none⟩ :: l) ⟨slots s T, objs os H, E, n, lv, c⟩ Q := by
  obtain ⟨H', lv', c', h1, hcc, h2, h3⟩ := (hc H E).ex
  have e : objs (os' (H' id)) H' = H' := objs_self (holdsX rfl h3 (hx _ h2))
  have hS' : Same n0 id H0 H' := hS.after hn h3
  have := k (H' id) H' lv' c' h2 hcc (by rw [e]; exact hS')
  rw [e] at this
  exact p_calls (dd := some d) (evsS_eq ha) h1 this
theorem six {H0 H : Hp} (h : Same 7 5 H0 H) (h6 : H0 6 = [.ref 5 0]) : H 6 = [.ref 5 0] := by
  have e := h 6 (by omega) (by omega)
  have e2 : keepH 7 H0 6 = [.ref 5 0] := by unfold keepH; rw [h6]; rfl
  rw [e2] at e
  unfold keepH at e
  split at e
  · exact e
  · cases e
theorem finR {tx : Bool} {tb ts rb rs oth dr : Nat} {x : XS} {v : List AV} {os : List (Nat × List AV)} {H H0 : Hp} (h5 : lkO os 5 = some (cel tx tb ts rb rs oth dr x)) (hS : Same 7 5 H0 (objs os H)) :
    (upd (trim 9 (objs os H)) 7 v) 5 = cel tx tb ts rb rs oth dr x ∧ (upd (trim 9 (objs os H)) 7 v) 7 = v ∧ Same 7 5 H0 (upd (trim 9 (objs os H)) 7 v) := by
  refine ⟨?_, by simp [upd], Same.upd (Same.trim hS (by omega)) (.inr (Nat.le_refl _))⟩
  have e : (upd (trim 9 (objs os H)) 7 v) 5 = trim 9 (objs os H) 5 := by simp [upd]
  rw [e]; exact trim_at (n := 9) h5 rfl (cel_under ..)
theorem finR' {tx : Bool} {tb ts rb rs oth dr c : Nat} {x : XS} {os : List (Nat × List AV)} {H H0 : Hp} {lv : Nat → Bool} {Inv : XS → (Nat → Bool) → Nat → Prop} (hI : Inv x lv c) (h5 : lkO os 5 = some (cel tx tb ts rb rs oth dr x)) (hS : Same 7 5 H0 (objs os H)) :
    AV.bool (going .norm) = .bool true ∧ ∃ x', 9 = 9 ∧ upd (trim 9 (objs os H)) 7 (stOf (exSt .norm)) 5 = cel tx tb ts rb rs oth dr x' ∧ upd (trim 9 (objs os H)) 7 (stOf (exSt .norm)) 7 = stOf 0 ∧ Same 7 5 H0 (upd (trim 9 (objs os H)) 7 (stOf (exSt .norm))) ∧ Inv x' lv c := by
  obtain ⟨f1, f2, f3⟩ := finR (v := stOf (exSt .norm)) h5 hS
  exact ⟨rfl, x, rfl, f1, f2, f3, hI⟩
def OW (br z : Nat) (o : List (List UInt8)) (lv : Nat → Bool) (c : Nat) : Prop := (br = 0 ∧ z = 0 ∧ o = []) ∨ (4 ≤ br ∧ br < c ∧ lv br = true ∧ z = 1)
theorem OW.own {br z : Nat} {o : List (List UInt8)} {lv : Nat → Bool} {c : Nat} (h : OW br z o lv c) : Own lv c br (outV o) := by
  rcases h with ⟨rfl, rfl, rfl⟩ | ⟨h1, h2, h3, rfl⟩
  · exact .inl ⟨rfl, rfl⟩
  · exact .inr (.inr ⟨h1, h2, h3⟩)
theorem OW.sz {br z : Nat} {o : List (List UInt8)} {lv : Nat → Bool} {c : Nat} (h : OW br z o lv c) : z = 1 ∨ (outV o = [] ∧ br < 4) := by
  rcases h with ⟨rfl, rfl, rfl⟩ | ⟨h1, h2, h3, rfl⟩
  · exact .inr ⟨rfl, by omega⟩
  · exact .inl rfl
def TX (x : XS) (o : List (List UInt8)) : TS := ⟨x.m, o, x.r, x.a, x.st⟩
def InvS (b s c0 : Nat) (m0 : List UInt8) (R : TS) (i : Nat) (x : XS) (lv : Nat → Bool) (c : Nat) : Prop :=
  c0 ≤ c ∧ RV m0 b s ∧ RV x.m b s ∧ x.a < s ∧ x.ok = true ∧ ∃ o, x.xs = outV o ∧ o.length ≤ i ∧ OW x.br x.z o lv c ∧ trun b s (s - i) (TX x o) = R
def PostS (b s c0 : Nat) (R : TS) (x0 : XS) (x : XS) (st : Int) (lv : Nat → Bool) (c : Nat) : Prop :=
  c0 ≤ c ∧ st = 0 ∧ ((chkN x0.m.length b s ≠ 0 ∧ x = { x0 with st := chkN x0.m.length b s }) ∨ (chkN x0.m.length b s = 0 ∧ x.ok = true ∧ ∃ o, x.xs = outV o ∧ OW x.br x.z o lv c ∧ TX x o = R))
set_option maxRecDepth 100000 in
set_option maxHeartbeats 4000000 in
theorem send_round {tb ts rb rs oth dr c0 i j c : Nat} {x : XS} {H0 : Hp} {lv : Nat → Bool} {R : TS} {x0 : XS} {m0 : List UInt8} {Tr : Nat → AV} (h4 : 4 ≤ c0) (h6 : H0 6 = [.ref 5 0]) (hT : Tr 1 = .ref 6 0) (hi : i < ts) (hj : j < ts) (hI : InvS tb ts c0 m0 R i x lv c) (hf : fstR x.m tb ts x.a ts 0 = (j, true)) :
    RoundOK (roundY (evCode (evCall FN (k + 10601)) (k + 10601) f58a9) (evCode (evCall FN (k + 10601)) (k + 10601) f58y9) Tr [15] 7) true tb ts rb rs oth dr H0 (took tb ts j x) j (ptsOf x.m tb ts j) (takeE x.m tb ts j) lv c fun bb x' lv' c' => if bb = true then InvS tb ts c0 m0 R (i + 1) x' lv' c' else PostS tb ts c0 R x0 x' 2 lv' c' := by
  obtain ⟨hc0, hm0, hrv, hxa, hok, o, ho, hol, hO, hR⟩ := hI
  obtain ⟨xm, xbr, xz, xxs, xr, xok, xa, xst⟩ := x
  dsimp only at hrv hxa hok ho hO hR hf ⊢
  subst hok
  subst ho
  have hts := hrv.hs
  have hsi : ts - i = (ts - (i + 1)) + 1 := by omega
  rw [hsi] at hR
  unfold trun TX at hR
  dsimp only at hR
  rw [hf] at hR
  rw [if_neg (fun h => Bool.noConfusion h)] at hR
  dsimp only at hR
  have htv := take_rv hrv hj
  have hmod : (j + 1) % ts < ts := Nat.mod_lt _ (by omega)
  intro H E hS h5 h7
  have h6' := six hS h6
  unfold took at h5
  dsimp only at h5
  have eT : slots [(1, .ref 6 0)] Tr = Tr := slots_self ⟨hT, trivial⟩
  have eH : objs [(7, stOf 0), (6, [.ref 5 0]), (5, cel true tb ts rb rs oth dr ⟨takeM xm tb ts j, xbr, xz, outV o, true, true, (j + 1) % ts, if takeE xm tb ts j ≠ 0 then takeE xm tb ts j else xst⟩)] H = H := objs_self ⟨h7, h6', h5, trivial⟩
  have key : ∃ r hs, roundY (evCode (evCall FN (k + 10601)) (k + 10601) f58a9) (evCode (evCall FN (k + 10601)) (k + 10601) f58y9) (slots [(1, .ref 6 0)] Tr) [15] 7 [.agg [.int .i64 j, csl 4 (ptsV (ptsOf xm tb ts j)), .int .i64 (takeE xm tb ts j)]] ⟨objs [(7, stOf 0), (6, [.ref 5 0]), (5, cel true tb ts rb rs oth dr ⟨takeM xm tb ts j, xbr, xz, outV o, true, true, (j + 1) % ts, if takeE xm tb ts j ≠ 0 then takeE xm tb ts j else xst⟩)] H, 9, lv, c⟩ E = some (r, hs) ∧ (r = .bool true ∧ ∃ x', hs.n = 9 ∧ hs.H 5 = cel true tb ts rb rs oth dr x' ∧ hs.H 7 = stOf 0 ∧ Same 7 5 H0 hs.H ∧ InvS tb ts c0 m0 R (i + 1) x' hs.lv hs.c) := by
    refine q_round (s0 := [(15, .agg [.int .i64 j, csl 4 (ptsV (ptsOf xm tb ts j)), .int .i64 (takeE xm tb ts j)]), (1, .ref 6 0)]) rfl rfl (by omega) rfl ?_
    have hS0 : Same 7 5 H0 (objs [(7, stOf 0), (6, [.ref 5 0]), (5, cel true tb ts rb rs oth dr ⟨takeM xm tb ts j, xbr, xz, outV o, true, true, (j + 1) % ts, if takeE xm tb ts j ≠ 0 then takeE xm tb ts j else xst⟩)] H) := by rw [eH]; exact hS
    clear eH h5 h7 h6' hS eT hT h6
    by_cases he : takeE xm tb ts j ≠ 0
    · rw [if_pos he] at hS0 ⊢
      have hsv : tserve tb ts j ⟨xm, o, xr, xa, xst⟩ = ⟨takeM xm tb ts j, o, true, (j + 1) % ts, takeE xm tb ts j⟩ := if_pos he
      rw [hsv] at hR
      generalize takeM xm tb ts j = M at *
      generalize ptsV (ptsOf xm tb ts j) = L at *
      generalize takeE xm tb ts j = e at *
      clear hsv
      repeat (first | refine stN ?_ | intro E)
      refine ⟨rfl, lkO_objs rfl, ?_⟩
      dsimp only
      show Wp _ _ f58y9 ⟨slots _ _, objs ((7, stOf (-1)) :: _) _, _, _, _, _⟩ _
      repeat (first | refine stN ?_ | intro E)
      dsimp only
      refine finR' (tx := true) (tb := tb) (ts := ts) (rb := rb) (rs := rs) (oth := oth) (dr := dr) (x := ⟨M, xbr, xz, outV o, true, true, (j + 1) % ts, e⟩) (Inv := InvS tb ts c0 m0 R (i + 1)) ⟨hc0, hm0, htv, hmod, rfl, o, rfl, show o.length ≤ i + 1 by omega, hO, hR⟩ ?_ ?_
      · exact rfl
      · exact (by repeat (first | exact hS0 | refine Same.cons ?_ rfl))
    · rw [if_neg he] at hS0 ⊢
      have he : takeE xm tb ts j = 0 := by omega
      have hpo := pts_ok hrv hj he
      have hlen := hpo.len
      have hsv : tserve tb ts j ⟨xm, o, xr, xa, xst⟩ = _ := if_neg (by simpa using he)
      have hjs : ∀ q ∈ takeL xm tb ts j, q < ts := fun q hq => ((take_good hj he).1.one q hq).1
      have hjl : (takeL xm tb ts j).length ≤ 4 := by unfold ptsOf at hlen; rwa [List.length_map] at hlen
      rw [he]
      have c64 : Calls0 (evCall FN (k + 10601)) 64 [csl 4 (ptsV (ptsOf xm tb ts j)), .bool false, .int .i64 0, .int .i64 512] (.int .i64 (mfE (ptsOf xm tb ts j) false 0 512)) := (s64 (k := 0) (lo := 0) (hi := 512) (by omega) hpo.lt).fuel (by omega)
      by_cases hf : mfE (ptsOf xm tb ts j) false 0 512 ≠ 0
      · rw [if_pos hf] at hsv
        rw [hsv] at hR
        have hfc := (mfE_cases (ptsOf xm tb ts j) false 0 512).resolve_left hf
        have c65 := fun H lv c E => s65a (k := 0) (m := takeM xm tb ts j) (b := tb) (s := ts) (i := j) (v := 0) (tb := tb) (ts := ts) (rb := rb) (rs := rs) (ta := (((j + 1) % ts : Nat) : Int)) (ra := oth) (st := xst) (dr := dr) (br := xbr) (z := xz) (xs := outV o) (r := true) (ok := true) (H := H) (lv := lv) (c := c) (E := E) (e := mfE (ptsOf xm tb ts j) false 0 512) htv hj (by omega)
        have htv2 := htv.mark1 (w := 4 + (mfE (ptsOf xm tb ts j) false 0 512 - 160)) hj
        clear hsv hpo
        dsimp only at hR
        generalize mfE (ptsOf xm tb ts j) false 0 512 = f at *
        generalize ptsV (ptsOf xm tb ts j) = L at *
        generalize mark1 tb (4 + (f - 160)) (takeM xm tb ts j) j = M2 at *
        generalize takeM xm tb ts j = M at *
        repeat (first | refine stN ?_ | intro E)
        refine ⟨rfl, lkO_objs rfl, ?_⟩
        dsimp only
        show Wp _ _ f58y9 ⟨slots _ _, objs ((7, stOf (-1)) :: _) _, _, _, _, _⟩ _
        repeat (first | refine stN ?_ | intro E)
        apply p_writesX (args := [.ref 5 0, ringV tb ts, .int .i64 j, .int .i64 f]) (id := 5) (n0 := 7) (H0 := H0) (os' := [(5, cel true tb ts rb rs oth dr ⟨M2, xbr, xz, outV o, true, true, (j + 1) % ts, f⟩)])
        · exact rfl
        · exact fun H E => writes_at rfl ((c65 (objs _ H) _ _ E).fuel (by omega))
        · exact ⟨.inl ⟨rfl, rfl⟩, trivial⟩
        · exact (by repeat (first | exact hS0 | refine Same.cons ?_ rfl))
        · omega
        intro H2 hS2
        repeat (first | refine stN ?_ | intro E)
        dsimp only
        refine finR' (tx := true) (tb := tb) (ts := ts) (rb := rb) (rs := rs) (oth := oth) (dr := dr) (x := ⟨M2, xbr, xz, outV o, true, true, (j + 1) % ts, f⟩) (Inv := InvS tb ts c0 m0 R (i + 1)) ⟨hc0, hm0, htv2, hmod, rfl, o, rfl, show o.length ≤ i + 1 by omega, hO, hR⟩ ?_ ?_
        · exact rfl
        · exact (by repeat (first | exact hS2 | refine Same.cons ?_ rfl))
      · rw [if_neg hf] at hsv
        rw [hsv] at hR
        have hf : mfE (ptsOf xm tb ts j) false 0 512 = 0 := by omega
        rw [hf] at c64
        have c67 : Calls0 (evCall FN (k + 10601)) 67 [memV (takeM xm tb ts j), ringV tb ts, csl 4 (partsV xm tb (takeL xm tb ts j))] (memV (markB (takeM xm tb ts j) tb 3 (takeL xm tb ts j))) := (s67 (k := 0) htv hjs (by omega)).fuel (by omega)
        rw [show partsV xm tb (takeL xm tb ts j) = ptsV (ptsOf xm tb ts j) from parts_pts _ _ _] at c67
        have c80 : Calls0 (evCall FN (k + 10601)) 80 [memV (takeM xm tb ts j), csl 4 (ptsV (ptsOf xm tb ts j))] (.str (gath (takeM xm tb ts j) (ptsOf xm tb ts j))) := (s80 (k := 0) htv.m hpo.inR (by omega)).fuel (by omega)
        have htv2 := htv.markB (w := 3) hjs
        clear hsv hpo hf
        dsimp only at hR
        generalize gath (takeM xm tb ts j) (ptsOf xm tb ts j) = G at *
        generalize markB (takeM xm tb ts j) tb 3 (takeL xm tb ts j) = M2 at *
        generalize takeM xm tb ts j = M at *
        generalize ptsV (ptsOf xm tb ts j) = L at *
        repeat (first | refine stN ?_ | intro E)
        refine ⟨rfl, lkO_objs rfl, ?_⟩
        dsimp only
        show Wp _ _ f58y9 ⟨slots _ _, objs ((7, stOf (-1)) :: _) _, _, _, _, _⟩ _
        repeat (first | refine stN ?_ | intro E)
        apply p_app
        · exact rfl
        · exact hO.sz
        · exact rfl
        · exact fun H => src_sl _ _ _ _
        · exact ⟨by omega, by omega⟩
        · rw [room_val, outV_length]; simp only [List.length_nil, List.length_cons]; omega
        · exact hO.own
        · exact List.cons_ne_nil _ _
        intro lv' l1 l2
        rw [outV_snoc]
        repeat (first | refine stN ?_ | intro E)
        dsimp only
        refine finR' (tx := true) (tb := tb) (ts := ts) (rb := rb) (rs := rs) (oth := oth) (dr := dr) (x := ⟨M2, c, 1, outV (o ++ [G]), true, true, (j + 1) % ts, xst⟩) (Inv := InvS tb ts c0 m0 R (i + 1)) ⟨show c0 ≤ c + 1 by omega, hm0, htv2, hmod, rfl, o ++ [G], rfl, ?_, .inr ⟨show 4 ≤ c by omega, Nat.lt_succ_self _, l1, rfl⟩, hR⟩ ?_ ?_
        · rw [List.length_append, List.length_singleton]; omega
        · exact rfl
        · exact (by repeat (first | exact hS0 | refine Same.cons ?_ rfl))
  rw [eT, eH] at key
  obtain ⟨r, hs, g1, rfl, x', g2, g3, g4, g5, g6⟩ := key
  obtain ⟨H', n', lv', c'⟩ := hs
  dsimp only at g2 g3 g4 g5 g6
  subst g2
  exact ⟨true, x', H', lv', c', g1, g3, by simpa using g4, g5, by simpa using g6⟩
end Go.Proofs.Ytaeoaakblilfeaa

/- The encoding of an integer, and of a list of them, by the program. Condition: the integers fit 64 bits. -/
namespace Go.Proofs.Ytaeoaakblilfeaa
open Go.Abs
variable {k : Nat}
theorem zig {n : Int} (h : I64 n) : ∃ (a b r : Nat) (q : Int), IntKind.u64.wrap n = (a : Int) ∧ evBin .shl (.int .u64 (a : Int)) (.int .u64 1) = some (.int .u64 (b : Int)) ∧ evBin .shr (.int .i64 n) (.int .u64 63) = some (.int .i64 q) ∧ IntKind.u64.wrap q = (r : Int) ∧ evBin .xor (.int .u64 (b : Int)) (.int .u64 (r : Int)) = some (.int .u64 (zz n : Nat)) := by
  obtain ⟨h0, h1⟩ := h
  have hb : min (63 : Int).toNat IntKind.i64.bits = 63 := rfl
  have hf : evBin .shr (.int .i64 n) (.int .u64 63) = some (.int .i64 (n.fdiv (2 ^ 63))) := by
    show (if (63 : Int) < 0 then none else some (AV.int .i64 (n.fdiv (2 ^ min (63 : Int).toNat IntKind.i64.bits)))) = _
    rw [if_neg (by omega), hb]
  have e63 : (2 : Int) ^ 63 = 9223372036854775808 := by decide +kernel
  rw [e63] at hf
  by_cases hn : n < 0
  · refine ⟨(n + 18446744073709551616).toNat, (n * 2 + 18446744073709551616).toNat, 18446744073709551615, -1, ?_, ?_, ?_, ?_, ?_⟩
    · rw [wu64']; omega
    · exact shl_u64 (s := 1) (by omega) (by omega)
    · rw [hf]
      have : n.fdiv 9223372036854775808 = -1 := by
        rw [Int.fdiv_eq_ediv_of_nonneg _ (by omega)]; omega
      rw [this]
    · rw [wu64']; rfl
    · refine xor_u64 (by omega) (by omega) ?_
      rw [ones_xor (by omega)]
      unfold zz
      rw [if_pos hn]; omega
  · refine ⟨n.toNat, n.toNat * 2, 0, 0, ?_, ?_, ?_, ?_, ?_⟩
    · rw [wu64']; omega
    · exact shl_u64 (s := 1) (by omega) (by omega)
    · rw [hf]
      have : n.fdiv 9223372036854775808 = 0 := by
        rw [Int.fdiv_eq_ediv_of_nonneg _ (by omega)]; omega
      rw [this]
    · rw [wu64']; rfl
    · refine xor_u64 (by omega) (by omega) ?_
      rw [Nat.xor_zero]
      unfold zz
      rw [if_neg hn]
theorem zz_lt {n : Int} (h : I64 n) : zz n < 18446744073709551616 := by
  obtain ⟨h0, h1⟩ := h
  unfold zz; split <;> omega
def Fresh (c : Nat) (lv : Nat → Bool) (xs : List AV) (r : AV) (hs : Hs) : Prop := ∃ br, r = .sl br 1 xs ∧ hs.n = 0 ∧ c ≤ br ∧ br < hs.c ∧ hs.lv br = true ∧ ∀ z, 4 ≤ z → z < c → hs.lv z = lv z
set_option maxRecDepth 100000 in
set_option maxHeartbeats 1000000 in
theorem s56b {n : Int} (h : I64 n) {T : Nat → AV} {H : Hp} {E : Nat → Option TypeId} {lv : Nat → Bool} {c : Nat} (h4 : 4 ≤ c) : Wp (evCall FN (k + 99)) (k + 99) f56.body ⟨slots (argSlots 0 [.int .i64 n]) T, objs [] H, E, 0, lv, c⟩ (RetS f56 0 (Fresh c lv ((encI n).map ofB))) := by
  obtain ⟨a, b, r, q, z1, z2, z3, z4, z5⟩ := zig h
  have hzb := zz_lt h
  have hE : encI n = vlF 10 (zz n) := rfl
  rw [hE]
  generalize zz n = Z at z5 hzb
  have hz10 : Z < 128 ^ 10 := by
    have : (128 : Nat) ^ 10 = 1180591620717411303424 := by decide +kernel
    omega
  repeat (first | refine stN ?_ | intro E)
  refine q_loop (α := Nat × Nat × List UInt8 × Nat × Nat) (LInv.mk (fun p => 1 ≤ p.1 ∧ p.2.1 < 128 ^ p.1 ∧ p.2.1 < 18446744073709551616 ∧ p.1 + p.2.2.1.length ≤ 10 ∧ p.2.2.1 ++ vlF p.1 p.2.1 = vlF 10 Z) (fun p => p.1)
    (fun p => [(4, .sl p.2.2.2.1 p.2.2.2.2 (p.2.2.1.map ofB)), (3, .int .u64 (p.2.1 : Int))]) (fun p => []))
    (fun p lv' c' => c ≤ c' ∧ (p.2.2.2.1 = 0 ∨ c ≤ p.2.2.2.1) ∧ LA 1 lv' c' p.2.2.2.1 p.2.2.2.2 (p.2.2.1.map ofB) ∧ ∀ z, 4 ≤ z → z < c → lv' z = lv z) (10, _, [], 0, 0) ⟨by omega, hz10, by dsimp only; omega, by simp, rfl⟩ ⟨Nat.le_refl _, .inl rfl, LA.nil, fun _ _ _ => rfl⟩ (show 10 < k + 99 by omega) ⟨rfl, rfl, trivial⟩ trivial ?_
  clear z1 z2 z3 z4 z5 hzb hz10
  rintro ⟨j, z, pre, br, s0⟩ lv1 c1 T H E ⟨hj, hz1, hz2, hjl, hp⟩ ⟨hc4, hbr, hL, hlv⟩ hμ
  dsimp only at hj hz1 hz2 hp hL hjl hbr hlv ⊢
  obtain ⟨j, rfl⟩ : ∃ i, j = i + 1 := ⟨j - 1, by omega⟩
  obtain ⟨c', rfl⟩ : ∃ c', c1 = c' + 4 := ⟨c1 - 4, by omega⟩
  rcases Nat.lt_or_ge z 128 with hlt | hge
  · rw [vlF, if_pos hlt] at hp
    have cz : IntKind.u8.wrap (z : Int) = ((z : Nat) : Int) := by rw [w8]; omega
    repeat (first | refine stN ?_ | intro E)
    apply n_exit
    apply b_exit
    repeat (first | refine stN ?_ | intro E)
    apply p_appL
    · exact rfl
    · exact rfl
    · exact rfl
    · exact hL
    · exact ⟨by omega, by omega⟩
    · rw [List.length_map, room_val]; simp only [List.length_cons, List.length_nil]; omega
    intro lv' m1 m2
    rw [← hp, List.map_append, List.map_cons, List.map_nil, ofB_le z (by omega)]
    repeat (first | refine stN ?_ | intro E)
    refine q_rets (.inr rfl) rfl rfl rfl rfl rfl ⟨c' + 4, rfl, rfl, hc4, by dsimp only; omega, m1, fun z hz4 hz => ?_⟩
    show lv' z = lv z
    rw [m2 z (by omega) (by omega), hlv z hz4 hz]
  · rw [vlF, if_neg (by omega)] at hp
    have eq : evBin .shr (.int .u64 (z : Int)) (.int .u64 7) = some (.int .u64 ((z / 128 : Nat) : Int)) := shr_n (b := 7) (by decide)
    have e8 : evBin .or (.int .u8 ((z % 256 : Nat) : Int)) (.int .u8 128) = some (.int .u8 ((z % 128 + 128 : Nat) : Int)) := by
      rw [or128_u8 (by omega)]; congr 3; omega
    repeat (first | refine stN ?_ | intro E)
    apply p_appL
    · exact rfl
    · exact rfl
    · exact rfl
    · exact hL
    · exact ⟨by omega, by omega⟩
    · rw [List.length_map, room_val]; simp only [List.length_cons, List.length_nil]; omega
    intro lv' m1 m2
    have ex : pre.map ofB ++ [AV.int .u8 ((z % 128 + 128 : Nat) : Int)] = (pre ++ [UInt8.ofNat (z % 128 + 128)]).map ofB := by
      rw [List.map_append, List.map_cons, List.map_nil, ofB_le _ (by omega)]
    rw [ex]
    repeat (first | refine stN ?_ | intro E)
    have hj2 : 1 ≤ j := by
      rcases Nat.eq_zero_or_pos j with e | e
      · subst e; simp at hz1; omega
      · exact e
    refine n_again (j, z / 128, pre ++ [UInt8.ofNat (z % 128 + 128)], c' + 4, 1) ⟨hj2, show z / 128 < 128 ^ j from Nat.div_lt_of_lt_mul (by rw [Nat.pow_succ] at hz1; omega), by dsimp only; omega, by simp; omega, by rw [List.append_assoc]; exact hp⟩ ⟨by omega, .inr hc4, LA.mine (by omega) m1, fun z hz4 hz => ?_⟩ (show j < j + 1 by omega) ⟨rfl, rfl, trivial⟩ trivial
    rw [m2 z (by omega) (by omega), hlv z hz4 hz]
theorem Fresh.own {lv : Nat → Bool} {c : Nat} {xs : List AV} {r : AV} {hs : Hs} (h4 : 4 ≤ c) (h : Fresh c lv xs r hs) : own hs.lv r = .sl 2 1 xs := by
  obtain ⟨br, rfl, h1, h2, h3, h5, h6⟩ := h
  exact Own4.own ⟨by omega, h3, h5⟩
theorem s56 {n : Int} (h : I64 n) : evP (evCall FN (k + 100)) 56 [.int .i64 n] = some (.sl 2 1 ((encI n).map ofB)) :=
  q_evP fn56 rfl fun T H E lv => wp_imp (s56b h (Nat.le_refl 4)) fun e S hh => rets_imp hh fun r hs hf => hf.own (Nat.le_refl 4)
theorem v56 {n : Int} (h : I64 n) {H : Hp} {E : Nat → Option TypeId} {lv : Nat → Bool} {c : Nat} (h4 : 4 ≤ c) : ∃ br H' lv' c', evCall FN (k + 100) 56 [.int .i64 n] ⟨H, 0, lv, c⟩ E = some (.sl br 1 ((encI n).map ofB), ⟨H', 0, lv', c'⟩) ∧ c ≤ br ∧ br < c' ∧ lv' br = true ∧ ∀ z, 4 ≤ z → z < c → lv' z = lv z := by
  obtain ⟨r, ⟨H', n', lv', c'⟩, h1, br, rfl, h2, h3, h5, h6, h7⟩ := q_calls (os := []) (H := H) (E := E) (n := 0) (lv := lv) (c := c) (P := Fresh c lv ((encI n).map ofB)) fn56 fun T => s56b (k := k) h h4
  have h2 : n' = 0 := h2
  subst h2
  exact ⟨br, H', lv', c', h1, h3, h5, h6, h7⟩
end Go.Proofs.Ytaeoaakblilfeaa

/- The encoding of a list of integers, by the program. Condition: they fit 64 bits, there are at most 5000. -/
namespace Go.Proofs.Ytaeoaakblilfeaa
open Go.Abs
variable {k : Nat}
theorem p_callvZ {F : CallF} {l : List IOper} {s : List (Nat × AV)} {os : List (Nat × List AV)} {T : Nat → AV} {H : Hp} {E : Nat → Option TypeId} {n c d : Nat} {lv : Nat → Bool} {Q : St → Prop} {f : FuncId} {x : X} {xs : List X} {fs args : List AV} {R : AV} {H' : Hp} {n' c' : Nat} {lv' : Nat → Bool} (hf : evL s x = some (.fn f fs [])) (ha : evsS s xs = some args) (hc : F f (fs ++ args) ⟨objs os H, n, lv, c⟩ E = some (R, ⟨H', n', lv', c'⟩))
    (k : WpO F l ⟨slots ((d, R) :: s) T, objs [] H', E, n', lv', c'⟩ Q) : WpO F (⟨some d, .callv x xs, none⟩ :: l) ⟨slots s T, objs os H, E, n, lv, c⟩ Q := p_callvS hf ha hc k
set_option maxRecDepth 100000 in
set_option maxHeartbeats 1000000 in
theorem s55b {l : List Int} (hl : l.length ≤ 5000) (h : ∀ n ∈ l, I64 n) {T : Nat → AV} {H : Hp} {E : Nat → Option TypeId} {lv : Nat → Bool} {c : Nat} (h4 : 4 ≤ c) : Wp (evCall FN (k + 5199)) (k + 5199) f55.body ⟨slots (argSlots 0 [csl 1 (iV l), .fn 56 [] []]) T, objs [] H, E, 0, lv, c⟩ (RetS f55 0 (Fresh c lv ((encL l).map ofB))) := by
  have hlen : (iV l).length / 1 = l.length := by unfold iV; simp
  have c0 : evP (evCall FN (k + 5199)) 56 [.int .i64 (l.length : Int)] = some (.sl 2 1 ((encI l.length).map ofB)) := s56 (k := k + 5099) ⟨by omega, by omega⟩
  repeat (first | refine stN ?_ | intro E)
  rw [hlen]
  apply p_call1
  · exact rfl
  · exact rfl
  · exact c0
  · exact rfl
  · exact rfl
  · exact rfl
  intro lv0 m1 m2
  rw [show mapLeaf (adoptCell 1 0 c) (AV.sl 2 1 ((encI l.length).map ofB)) = .sl c 1 ((encI l.length).map ofB) from rfl]
  repeat (first | refine stN ?_ | intro E)
  rw [hlen]
  refine q_loop (α := Nat × Nat) (LInv.mk (fun p => p.1 ≤ l.length) (fun p => l.length - p.1)
    (fun p => [(13, .int .i64 (p.1 : Int)), (12, .int .i64 (l.length : Int)), (11, csl 1 (iV l)), (5, .sl p.2 1 ((encI l.length ++ (l.take p.1).flatMap encI).map ofB)), (1, .fn 56 [] [])]) (fun p => []))
    (fun p lv' c' => c ≤ p.2 ∧ Own4 lv' c' p.2 ∧ ∀ z, 4 ≤ z → z < c → lv' z = lv z) (0, c) (Nat.zero_le _) ⟨Nat.le_refl _, ⟨by omega, by omega, m1⟩, fun z _ hz => m2 z hz⟩ (show l.length - 0 < k + 5199 by omega) ⟨rfl, rfl, rfl, by simp; rfl, rfl, trivial⟩ trivial ?_
  rintro ⟨i, br⟩ lv1 c1 T H E hP ⟨hbr, hL, hlv⟩ hμ
  have hP : i ≤ l.length := hP
  clear hμ
  dsimp only at hL hbr ⊢
  rcases Nat.lt_or_ge i l.length with hi | hi
  · obtain ⟨n, hn⟩ : ∃ n, l[i]? = some n := ⟨_, List.getElem?_eq_getElem hi⟩
    have hr := iV_get hn
    have gi : inB (i : Int) ((iV l).length / 1) = some i := inB_n (by omega)
    have hc1 := hL.lt
    obtain ⟨br2, H', lv2, c2, e1, e2, e3, e4, e5⟩ := v56 (k := k + 5099) (h n (List.mem_of_getElem? hn)) (H := objs [] H) (E := E) (lv := lv1) (c := c1) (by omega)
    have hb := flat_encI (l.take i)
    have hb2 := encI_len n
    have hb3 := encI_len l.length
    rw [List.length_take] at hb
    have e1 : (evCall FN (k + 5199)).call 56 ([] ++ [.int .i64 n]) ⟨objs [] H, 0, lv1, c1⟩ E = some (.sl br2 1 ((encI n).map ofB), ⟨H', 0, lv2, c2⟩) := e1
    repeat (first | refine stN ?_ | intro E)
    apply p_callvZ
    · exact rfl
    · exact rfl
    · exact e1
    repeat (first | refine stN ?_ | intro E)
    apply p_appZ
    · exact rfl
    · exact rfl
    · exact fun H => src_sl _ _ _ _
    · exact ⟨by omega, by omega⟩
    · rw [List.length_map, List.length_map, List.length_append, room_val]; omega
    · exact ⟨hL.ge, by omega, by rw [e5 br hL.ge hL.lt]; exact hL.on⟩
    · omega
    intro lv3 g2 g3
    rw [← List.map_append, List.append_assoc, ← encT hn]
    repeat (first | refine stN ?_ | intro E)
    exact n_again (i + 1, c2) (show i + 1 ≤ l.length by omega) ⟨by dsimp only; omega, g2, fun z hz4 hz => by rw [g3 z (by omega) (by omega), e5 z hz4 (by omega), hlv z hz4 hz]⟩ (show l.length - (i + 1) < l.length - i by omega) ⟨rfl, rfl, rfl, rfl, rfl, trivial⟩ trivial
  · rw [List.take_of_length_le hi]
    repeat (first | refine stN ?_ | intro E)
    apply n_exit
    apply b_exit
    repeat (first | refine stN ?_ | intro E)
    exact q_rets (.inr rfl) rfl rfl rfl rfl rfl ⟨br, rfl, rfl, hbr, hL.lt, hL.on, hlv⟩
theorem v55 {l : List Int} (hl : l.length ≤ 5000) (h : ∀ n ∈ l, I64 n) {H : Hp} {E : Nat → Option TypeId} {lv : Nat → Bool} {c : Nat} (h4 : 4 ≤ c) : ∃ br H' lv' c', evCall FN (k + 5200) 55 [csl 1 (iV l), .fn 56 [] []] ⟨H, 0, lv, c⟩ E = some (.sl br 1 ((encL l).map ofB), ⟨H', 0, lv', c'⟩) ∧ c ≤ br ∧ br < c' ∧ lv' br = true ∧ ∀ z, 4 ≤ z → z < c → lv' z = lv z := by
  obtain ⟨r, ⟨H', n', lv', c'⟩, h1, br, rfl, h2, h3, h5, h6, h7⟩ := q_calls (os := []) (H := H) (E := E) (n := 0) (lv := lv) (c := c) (P := Fresh c lv ((encL l).map ofB)) fn55 fun T => s55b (k := k) hl h h4
  have h2 : n' = 0 := h2
  subst h2
  exact ⟨br, H', lv', c', h1, h3, h5, h6, h7⟩
set_option maxRecDepth 100000 in
theorem s32 {l : List Int} (hl : l.length ≤ 5000) (h : ∀ n ∈ l, I64 n) : evP (evCall FN (k + 5300)) 32 [csl 1 (iV l)] = some (.sl 2 1 ((encL l).map ofB)) := by
  refine q_evP fn32 rfl fun T H E lv => ?_
  obtain ⟨br, H', lv', c', e1, e2, e3, e4, e5⟩ := v55 (k := k + 99) hl h (H := objs [] H) (E := E) (lv := lv) (c := 4) (Nat.le_refl _)
  repeat (first | refine stN ?_ | intro E)
  apply p_calls (dd := some 4)
  · exact evsS_eq rfl
  · exact e1
  show WpO _ _ ⟨slots ((4, _) :: _) _, objs [] H', _, _, _, _⟩ _
  repeat (first | refine stN ?_ | intro E)
  exact q_rets (.inr rfl) rfl rfl rfl rfl rfl (Own4.own ⟨by omega, e3, e4⟩)
theorem c32 {l : List Int} (hl : l.length ≤ 5000) (h : ∀ n ∈ l, I64 n) : Calls0 (evCall FN (k + 5300)) 32 [csl 1 (iV l)] (csl 1 ((encL l).map ofB)) := evP_call0 (s32 hl h) rfl
end Go.Proofs.Ytaeoaakblilfeaa

/- What bytes say as an integer, as a list of integers: the model, and that it is the other way round of the encoding. No condition. -/
namespace Go.Proofs.Ytaeoaakblilfeaa
open Go.Abs
def gkF : Nat → List UInt8 → Nat
  | 0, _ => 0
  | _ + 1, [] => 0
  | f + 1, c :: b => if 128 ≤ c.toNat then gkF f b + 1 else 0
def gk (b : List UInt8) : Nat := gkF 10 b
end Go.Proofs.Ytaeoaakblilfeaa
