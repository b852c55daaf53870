/- Part 11 of the texts on which the proof in this folder rests: each says what it proves at its own head. No condition. -/
import Derived.Test.YthkkhmkieknemaaM10
set_option linter.unusedVariables false
set_option linter.unusedSimpArgs false
/- Bytes are read: by the program, whatever table it is looked up in, and by the reference. Condition: the memory is valid, the bytes are there. -/
namespace Go.Proofs.Ythkkhmkieknemaa
open Go.Abs
variable {k : Nat} {X : FuncId → Option FnDef}

set_option maxRecDepth 100000 in
theorem s34x (x34 : X 34 = some (.code f34)) {bs : List UInt8} (h : VM bs) : Calls0 (evCall X (k + 1)) 34 [memV bs] (.int .i64 bs.length) := by
  have hl := h.le
  refine q_call0 x34 fun T H E lv => ?_
  repeat (first | (apply o_nil; apply k_norm) | (apply p_mov; exact rfl) | (apply p_load; (iterate 4 exact rfl)) | (apply p_bin; exact rfl; exact rfl; exact rfl) | (apply p_fadd; exact rfl) | (apply p_box; exact rfl; exact rfl; intro E) | (apply p_len; exact rfl; exact csz_ok _ _) | apply w_seq | apply w_ops | apply w_ret)
  refine q_ret (.inr rfl) rfl rfl rfl rfl ?_ rfl
  show AV.int _ _ = _
  rw [List.length_map, w64 (by omega) (by omega)]
  congr 1; omega

theorem page_part {bs : List UInt8} {q r m : Nat} (h : r + m ≤ 128) : (((bs.drop (q * 128)).take 128).drop r).take m = (bs.drop (q * 128 + r)).take m := by
  rw [List.drop_take, List.drop_drop, List.take_take]
  congr 1; omega

set_option maxRecDepth 100000 in
set_option maxHeartbeats 1000000 in
theorem s37x (x34 : X 34 = some (.code f34)) (x37 : X 37 = some (.code f37)) {bs : List UInt8} {a n : Nat} (h : VM bs) (hb : a + n ≤ bs.length) : Calls0 (evCall X (k + 9000)) 37 [memV bs, .int .i64 a, .int .i64 n] (.tup [.str ((bs.drop a).take n), .bool true]) := by
  have hl := h.le
  have c34 : Calls0 (evCall X (k + 8999)) 34 [memV bs] (.int .i64 bs.length) := (s34x (k := 0) x34 h).fuel (by omega)
  refine q_call0 x37 fun T H E lv => ?_
  repeat (first | (apply o_nil; apply k_norm) | (apply p_mov; exact rfl) | (apply p_load; (iterate 4 exact rfl)) | (apply p_bin; exact rfl; exact rfl; (with_reducible exact sub_nn (by omega))) | (apply p_bin; exact rfl; exact rfl; (with_reducible exact lss_f (by omega))) | (apply p_bin; exact rfl; exact rfl; (with_reducible exact gtr_f (by omega))) | (apply p_box; exact rfl; exact rfl; intro E) | (apply p_call; exact rfl; exact rfl; assumption) | (apply p_guard_yes; exact rfl) | (apply p_pick_false; exact rfl; exact rfl) | apply w_seq | apply w_ops | apply k_norm | apply w_skip | (apply q_cond_false; exact rfl))
  apply p_mks
  · exact rfl
  · exact rfl
  · exact ⟨by decide, by omega, by simp only [Int.toNat_natCast, room]; omega, by decide, rfl, by decide, rfl⟩
  intro lv' l1 l2
  repeat (first | (apply o_nil; apply k_norm) | (apply p_mov; exact rfl) | apply w_seq | apply w_block)
  have hA : (bs.map ofB).length = bs.length := List.length_map ..
  refine q_loop (α := Nat × Nat) (LInv.mk (fun p => p.1 ≤ n) (fun p => n - p.1)
    (fun p => [(8, .sl (p.2 + 4) 1 (((bs.drop a).take p.1).map ofB)), (3, .ref 0 0), (2, .int .i64 (n : Int)), (1, .int .i64 (a : Int))])
    (fun p => [(0, [csl 128 (bs.map ofB)])]))
    (fun p lv c => 4 ≤ c ∧ p.2 + 4 < c ∧ lv (p.2 + 4) = true) (0, 0) (Nat.zero_le _) ⟨by omega, by show 0 + 4 < 5; omega, l1⟩ (show n - 0 < k + 8999 by omega) ⟨rfl, rfl, rfl, rfl, trivial⟩ ⟨rfl, trivial⟩ ?_
  rintro ⟨j, br⟩ lv c T H E hP ⟨hc4, hc5, hlv⟩ hμ
  have hP : j ≤ n := hP
  have hc5 : br + 4 < c := hc5
  clear hμ
  dsimp only at hlv ⊢
  have hjl : ((bs.drop a).take j).length = j := by rw [List.length_take, List.length_drop]; omega
  have hjm : (((bs.drop a).take j).map ofB).length / 1 = j := by rw [List.length_map, hjl, Nat.div_one]
  rcases Nat.lt_or_ge j n with hlt | hge
  · have hq : rd (bs.map ofB) ((a + j) / 128 * 128) 128 true = some (.agg (((bs.drop ((a + j) / 128 * 128)).take 128).map ofB)) := by
      simp only [rd, if_true]
      rw [if_pos (by omega), List.map_take, List.map_drop]
    have hp0 : (a + j) % 128 ≠ 128 := by omega
    have hpl : (((bs.drop ((a + j) / 128 * 128)).take 128).map ofB).length = 128 := by rw [List.length_map, List.length_take, List.length_drop]; omega
    repeat (first | (apply o_nil; apply k_norm) | (apply p_mov; exact rfl) | (apply p_load; (iterate 4 exact rfl)) | (apply p_bin; exact rfl; exact rfl; (with_reducible exact add_nn (by omega))) | (apply p_bin; exact rfl; exact rfl; (with_reducible exact quo_nl (by omega))) | (apply p_bin; exact rfl; exact rfl; (with_reducible exact lss_t (by omega))) | (apply p_fadd; exact rfl) | (apply p_len; exact rfl; exact .inl rfl) | (apply p_iaS; exact rfl; exact rfl; exact csz_ok _ _; (with_reducible exact inB_n (by simp only [List.length_map, List.length_cons, List.length_nil]; omega))) | apply w_seq | apply w_ops | apply k_norm | apply w_skip | apply w_block | (apply q_cond_true; exact rfl))
    rw [hjm]
    repeat (first | (apply p_new; intro E) | (apply p_load_pp; exact rfl; (with_reducible assumption)))
    apply p_storeA
    · exact rfl
    · exact rfl
    · exact rfl
    · exact hpl
    · exact rfl
    · exact rfl
    repeat (first | (apply o_nil; apply k_norm) | (apply p_mov; exact rfl) | (apply p_bin; exact rfl; exact rfl; (with_reducible exact sub_nn (by omega))) | (apply p_bin; exact rfl; exact rfl; (with_reducible exact rem_nl (by omega))) | (apply p_len; exact rfl; exact .inl rfl) | (apply p_len_osl; exact rfl) | (apply p_slA_ref_lo; exact rfl; exact rfl; (with_reducible exact asB_n (by omega)); (with_reducible assumption)) | apply w_seq | apply w_ops | (apply p_mnN; exact rfl; exact rfl))
    rw [hjm]
    obtain ⟨m, hm⟩ : ∃ m, m = min (128 - (a + j) % 128) (n - j) := ⟨_, rfl⟩
    rw [← hm]
    apply p_slL_osl
    · exact rfl
    · exact rfl
    · exact asB_n (show m ≤ _ by omega)
    · omega
    have e1 : ((((bs.drop ((a + j) / 128 * 128)).take 128).map ofB).drop (0 + (a + j) % 128 * 1)).take (m * 1) = ((bs.drop (a + j)).take m).map ofB := by
      rw [← List.map_drop, ← List.map_take, Nat.mul_one, Nat.mul_one, Nat.zero_add, page_part (by omega), show (a + j) / 128 * 128 + (a + j) % 128 = a + j by omega]
    have e2 : ((bs.drop a).take j).map ofB ++ ((bs.drop (a + j)).take m).map ofB = ((bs.drop a).take (j + m)).map ofB := by
      rw [← List.map_append, List.take_add, List.drop_drop]
    have hml : ((bs.drop (a + j)).take m).length = m := by rw [List.length_take, List.length_drop]; omega
    apply p_appO
    · exact rfl
    · exact rfl
    · exact rfl
    · exact e1
    · rw [hpl]; omega
    · exact flat_ofB _
    · intro e; rw [List.map_eq_nil_iff] at e; rw [e] at hml; simp at hml; omega
    · exact .inr ⟨by omega, hc5, hlv, rfl⟩
    · exact ⟨by omega, by omega⟩
    · rw [List.length_map, List.length_map, hjl, hml, room]; omega
    intro lv1 m1 m2
    rw [e2]
    obtain ⟨c', rfl⟩ : ∃ c', c = c' + 4 := ⟨c - 4, by omega⟩
    repeat (first | (apply o_nil; apply b_norm) | (apply p_mov; exact rfl))
    exact n_again (j + m, c') (show j + m ≤ n by omega) ⟨by omega, by show c' + 4 < _; omega, m1⟩ (show n - (j + m) < n - j by omega) ⟨rfl, rfl, rfl, rfl, trivial⟩ ⟨⟨rfl, rfl⟩, trivial⟩
  · obtain rfl : j = n := by omega
    repeat (first | (apply o_nil; apply k_norm) | (apply p_mov; exact rfl) | (apply p_bin; exact rfl; exact rfl; (with_reducible exact lss_f (by omega))) | (apply p_len; exact rfl; exact .inl rfl) | apply w_seq | apply w_ops | apply k_exit | apply w_exit | (apply q_cond_false; exact rfl))
    apply n_exit
    apply b_exit
    repeat (first | (apply p_mov; exact rfl) | apply w_seq | apply w_ops | apply k_norm)
    apply p_b2s
    · exact rfl
    · exact .inl rfl
    repeat (first | (apply o_nil; apply k_norm) | (apply p_mov; exact rfl) | apply w_ret)
    exact q_ret (.inr rfl) rfl rfl rfl rfl rfl rfl

set_option maxRecDepth 100000 in
set_option maxHeartbeats 1000000 in
theorem s54 {bs : List UInt8} {a n : Nat} (h : VM bs) (hb : a + n ≤ bs.length) : Calls0 (evCall FN (k + 9000)) 54 [memV bs, .int .i64 a, .int .i64 n] (.agg [.str ((bs.drop a).take n), .bool true]) := by
  have hl := h.le
  have c38 : Calls0 (evCall FN (k + 8999)) 38 [memV bs] (.int .i64 bs.length) := (s38 (k := 0) h).fuel (by omega)
  refine q_call0 fn54 fun T H E lv => ?_
  repeat (first | (apply o_nil; apply k_norm) | (apply p_mov; exact rfl) | (apply p_load; (iterate 4 exact rfl)) | (apply p_bin; exact rfl; exact rfl; (with_reducible exact sub_nn (by omega))) | (apply p_bin; exact rfl; exact rfl; (with_reducible exact lss_f (by omega))) | (apply p_bin; exact rfl; exact rfl; (with_reducible exact gtr_f (by omega))) | (apply p_box; exact rfl; exact rfl; intro E) | (apply p_new; intro E) | (apply p_call; exact rfl; exact rfl; assumption) | (apply p_guard_yes; exact rfl) | (apply p_pick_false; exact rfl; exact rfl) | apply w_seq | apply w_ops | apply k_norm | apply w_skip | apply w_block | (apply q_cond_false; exact rfl))
  refine q_loop (α := Nat × Nat × Nat) (LInv.mk (fun p => p.1 ≤ n) (fun p => n - p.1)
    (fun p => [(8, .int .i64 (p.1 : Int)), (7, .sl p.2.1 p.2.2 (((bs.drop a).take p.1).map ofB)), (6, .ref 1 0), (3, .ref 0 0), (2, .int .i64 (n : Int)), (1, .int .i64 (a : Int))])
    (fun p => [(1, [.str [], .bool false]), (0, [csl 128 (bs.map ofB)])]))
    (fun p lv c => 4 ≤ c ∧ LA 1 lv c p.2.1 p.2.2 (((bs.drop a).take p.1).map ofB)) (0, 0, 0) (Nat.zero_le _) ⟨Nat.le_refl _, LA.nil⟩ (show n - 0 < k + 8999 by omega) ⟨rfl, rfl, rfl, rfl, rfl, rfl, trivial⟩ ⟨rfl, rfl, trivial⟩ ?_
  rintro ⟨j, br, z⟩ lv c T H E hP ⟨hc4, hL⟩ hμ
  have hP : j ≤ n := hP
  clear hμ
  dsimp only at hL ⊢
  have hjl : ((bs.drop a).take j).length = j := by rw [List.length_take, List.length_drop]; omega
  rcases Nat.lt_or_ge j n with hlt | hge
  · have c66 : Calls0 (evCall FN (k + 8999)) 66 [memV bs, .int .i64 ((a + j : Nat) : Int)] (.int .u8 (bt bs (a + j))) := (s66 (k := 0) h (by omega)).fuel (by omega)
    have e2 : ((bs.drop a).take j).map ofB ++ [.int .u8 (bt bs (a + j) : Nat)] = ((bs.drop a).take (j + 1)).map ofB := by
      obtain ⟨u, hu⟩ : ∃ u, bs[a + j]? = some u := ⟨_, List.getElem?_eq_getElem (by omega)⟩
      have hb : bt bs (a + j) = u.toNat := by simp [bt, List.getD_eq_getElem?_getD, hu]
      rw [List.take_add_one, List.getElem?_drop, hu, List.map_append, hb]; rfl
    obtain ⟨c', rfl⟩ : ∃ c', c = c' + 4 := ⟨c - 4, by omega⟩
    repeat (first | (apply o_nil; apply k_norm) | (apply p_mov; exact rfl) | (apply p_load; (iterate 4 exact rfl)) | (apply p_bin; exact rfl; exact rfl; (with_reducible exact add_nn (by omega))) | (apply p_bin; exact rfl; exact rfl; (with_reducible exact lss_t (by omega))) | (apply p_bsl; (iterate 4 exact rfl); (simp only [List.length_cons, List.length_nil]; exact rfl)) | (apply p_call; exact rfl; exact rfl; assumption) | apply w_seq | apply w_ops | apply k_norm | apply w_skip | apply w_block | (apply q_cond_true; exact rfl))
    apply p_appL
    · exact rfl
    · exact rfl
    · exact rfl
    · exact hL
    · exact ⟨by omega, by omega⟩
    · rw [List.length_map, hjl, room]; show (j + 1) / 1 * 1 ≤ _; omega
    intro lv1 m1 m2
    rw [e2]
    repeat (first | (apply o_nil; apply b_norm) | (apply o_nil; skip) | (apply p_mov; exact rfl) | (apply p_bin; exact rfl; exact rfl; (with_reducible exact add_nl (by omega))) | apply w_ops | apply k_norm)
    exact n_again (j + 1, c' + 4, 1) (show j + 1 ≤ n by omega) ⟨by omega, LA.mine (by omega) m1⟩ (show n - (j + 1) < n - j by omega) ⟨rfl, rfl, rfl, rfl, rfl, rfl, trivial⟩ ⟨⟨rfl, rfl⟩, ⟨rfl, rfl⟩, trivial⟩
  · obtain rfl : j = n := by omega
    repeat (first | (apply o_nil; apply k_norm) | (apply p_mov; exact rfl) | (apply p_bin; exact rfl; exact rfl; (with_reducible exact lss_f (by omega))) | apply w_seq | apply w_ops | apply k_exit | apply w_exit | (apply q_cond_false; exact rfl))
    apply n_exit
    apply b_exit
    repeat (first | (apply p_mov; exact rfl) | apply w_seq | apply w_ops | apply k_norm)
    apply p_b2s
    · exact rfl
    · rcases hL with ⟨_, h2, h3⟩ | ⟨_, _, _, h2⟩
      · exact .inr ⟨h2, by simpa using h3⟩
      · exact .inl h2
    repeat (first | (apply o_nil; apply k_norm) | (apply p_store; (iterate 3 exact rfl); exact rfl; exact rfl; exact rfl) | (apply p_build; exact rfl; exact rfl) | apply w_ret)
    exact q_ret (.inr rfl) rfl rfl rfl rfl rfl rfl

end Go.Proofs.Ythkkhmkieknemaa

/- What the parts that are read bring: by the program, by the reference. Condition: the memory is valid, the parts that are read lie in it. -/
namespace Go.Proofs.Ythkkhmkieknemaa
open Go.Abs
variable {k : Nat}

def gpO (p : Pt) : GP := ⟨p.i, p.a, p.n, p.w⟩
def rdP (bs : List UInt8) (p : Pt) : List UInt8 := if p.w then [] else (bs.drop p.a).take p.n
def gath (bs : List UInt8) (l : List Pt) : List UInt8 := l.flatMap (rdP bs)

/-- The parts that are read lie in the memory. -/
def InR (n : Nat) (l : List Pt) : Prop := ∀ p ∈ l, p.w = false → p.a + p.n ≤ n

theorem parse_pts : ∀ (l : List Pt), parseP (ptsV l) = some (l.map gpO)
  | [] => rfl
  | p :: l => by
    have ih := parse_pts l
    have e : ptsV (p :: l) = .int .i64 p.i :: .int .i64 p.a :: .int .i64 p.n :: .bool p.w :: ptsV l := rfl
    rw [e]
    unfold parseP
    rw [if_pos ⟨by omega, by omega, by omega⟩, ih]
    simp [gpO]

theorem eval_of2 {F : CallF} {f : FuncId} {vs : List AV} {s : List UInt8} {b : Bool} (h : Calls0 F f vs (.tup [.str s, .bool b])) : ∃ hs', F f vs h0 (fun _ => none) = some (.tup [.str s, .bool b], hs') := by
  have h1 := h.eq
  unfold call0 evP at h1
  split at h1
  · next r hs he =>
    split at h1
    · simp only [Option.map_some, Option.some.injEq] at h1
      refine ⟨hs, ?_⟩
      rw [he, canon_own'] at *
      have : r = .tup [.str s, .bool b] := by
        clear he
        cases r with
        | tup vs =>
          simp only [mapLeaf, AV.tup.injEq] at h1
          rcases vs with _ | ⟨x, _ | ⟨y, _ | ⟨z, t⟩⟩⟩ <;> simp only [List.map_cons, List.map_nil, List.cons.injEq, reduceCtorEq, and_true, and_false] at h1
          obtain ⟨hx, hy⟩ := h1
          have ex : x = .str s := by
            cases x <;> simp only [canonCell, reduceCtorEq] at hx <;> first | exact hx | (split at hx <;> simp [csl] at hx)
          have ey : y = .bool b := by
            cases y <;> simp only [canonCell, reduceCtorEq] at hy <;> first | exact hy | (split at hy <;> simp [csl] at hy)
          rw [ex, ey]
        | sl br sz xs =>
          simp only [mapLeaf, canonCell] at h1
          split at h1 <;> simp [csl] at h1
        | _ => simp [mapLeaf, canonCell] at h1
      rw [this]
    · cases h1
  · cases h1

theorem rd_one {bs : List UInt8} {p : Pt} (h : VM bs) (hw : p.w = false) (hp : p.a + p.n ≤ bs.length) : rdOne (evCall FN0 20000) (csl 128 (bs.map ofB)) (gpO p) = some (rdP bs p) := by
  obtain ⟨hs', e⟩ := eval_of2 (s37x (k := 11000) fz34 fz37 h hp)
  unfold rdOne rdP
  rw [show evCall FN0 20000 37 [.agg [csl 128 (bs.map ofB)], .int .i64 ((gpO p).a : Nat), .int .i64 ((gpO p).n : Nat)] h0 (fun _ => none) = some (.tup [.str ((bs.drop p.a).take p.n), .bool true], hs') from e]
  simp [hw]

theorem prim_str {f : FuncId} {p : Prim} {vs : List AV} {s : List UInt8} {hs : Hs} (hf : FN f = some (.prim p)) (h : p vs h0 (fun _ => none) = some (.str s, hs)) : Calls0 (evCall FN (k + 1)) f vs (.str s) := by
  refine ⟨?_⟩
  unfold call0 evP
  rw [evCall_prim hf, h]
  rfl

theorem flatMap_same {α β : Type} {f g : α → List β} : ∀ {l : List α}, (∀ x ∈ l, f x = g x) → l.flatMap f = l.flatMap g
  | [], _ => rfl
  | x :: l, h => by rw [List.flatMap_cons, List.flatMap_cons, h x List.mem_cons_self, flatMap_same fun y hy => h y (List.mem_cons_of_mem _ hy)]

theorem s30 {bs : List UInt8} {l : List Pt} (h : VM bs) (hin : InR bs.length l) (hn : l.length ≤ 1000) : Calls0 (evCall FN (k + 1)) 30 [memV bs, csl 4 (ptsV l)] (.str (gath bs l)) := by
  have hl := h.le
  have hsz : ∀ p ∈ l, p.w = false → (rdP bs p).length ≤ 1000000 := by
    intro p hp hw
    unfold rdP
    simp only [hw, Bool.false_eq_true, if_false, List.length_take, List.length_drop]
    omega
  have hok : okG (evCall FN0 20000) (csl 128 (bs.map ofB)) (l.map gpO) = true := by
    unfold okG
    rw [List.all_eq_true]
    intro q hq
    obtain ⟨p, hp, rfl⟩ := List.mem_map.1 hq
    cases hw : p.w with
    | true => simp [gpO, hw]
    | false =>
      rw [rd_one h hw (hin p hp hw)]
      have := hsz p hp hw
      simp [this]
  have hg : gathB (rdAll (evCall FN0 20000) (csl 128 (bs.map ofB))) (l.map gpO) = gath bs l := by
    unfold gathB gath
    rw [List.flatMap_map]
    have : ∀ p ∈ l, (if (gpO p).w then [] else rdAll (evCall FN0 20000) (csl 128 (bs.map ofB)) (gpO p)) = rdP bs p := by
      intro p hp
      cases hw : p.w with
      | true => simp [gpO, rdP, hw]
      | false =>
        unfold rdAll
        rw [rd_one h hw (hin p hp hw)]
        simp [gpO, hw]
    exact flatMap_same this
  refine prim_str fn30 (hs := h0) ?_
  show (match parseP (ptsV l) with
    | some l' => if (csl 128 (bs.map ofB)).flat = true ∧ l'.length ≤ 1000 ∧ okG (evCall FN0 20000) (csl 128 (bs.map ofB)) l' = true ∧ csz 4 (ptsV l) = csz 4 (ptsV l) then some (AV.str (gathB (rdAll (evCall FN0 20000) (csl 128 (bs.map ofB))) l'), h0) else none
    | none => none) = _
  rw [parse_pts]
  simp only [hok, hg]
  rw [if_pos ⟨rfl, by rw [List.length_map]; exact hn, trivial, trivial⟩]

theorem add_str {x y : List UInt8} (h : x.length + y.length ≤ 4611686018427387904) : evBin .add (.str x) (.str y) = some (.str (x ++ y)) := by
  simp only [evBin, evStr]
  rw [if_pos (show _ ≤ maxStr by unfold maxStr; omega)]

theorem gath_length {bs : List UInt8} : ∀ {l : List Pt}, (gath bs l).length ≤ l.length * bs.length
  | [] => by simp [gath]
  | p :: l => by
    have ih := gath_length (bs := bs) (l := l)
    have e : (gath bs (p :: l)) = rdP bs p ++ gath bs l := by simp [gath]
    have h1 : (rdP bs p).length ≤ bs.length := by
      unfold rdP
      split
      · simp
      · rw [List.length_take, List.length_drop]; omega
    rw [e, List.length_append, List.length_cons, Nat.succ_mul]
    omega

theorem gath_take {bs : List UInt8} {l : List Pt} {i : Nat} {p : Pt} (h : l[i]? = some p) : gath bs (l.take (i + 1)) = gath bs (l.take i) ++ rdP bs p := by
  unfold gath
  rw [List.take_add_one, h]
  simp

set_option maxRecDepth 100000 in
set_option maxHeartbeats 1000000 in
theorem s31 {bs : List UInt8} {l : List Pt} (h : VM bs) (hin : InR bs.length l) (hn : l.length ≤ 100) : Calls0 (evCall FN (k + 9200)) 31 [memV bs, csl 4 (ptsV l)] (.str (gath bs l)) := by
  have hl := h.le
  have hfl := pts_flat l
  have hdv := pts_div l
  refine q_call0 fn31 fun T H E lv => ?_
  repeat (first | (apply o_nil; apply k_norm) | (apply p_mov; exact rfl) | (apply p_box; exact rfl; exact rfl; intro E) | apply w_seq | apply w_ops | apply w_block)
  refine q_loop (α := Nat) (LInv.mk (fun i => i ≤ l.length) (fun i => l.length - i)
    (fun i => [(6, .int .i64 (i : Int)), (5, .str (gath bs (l.take i))), (2, .ref 0 0), (1, csl 4 (ptsV l))])
    (fun i => [(0, [csl 128 (bs.map ofB)])]))
    (fun _ _ c => c = 4) 0 (Nat.zero_le _) rfl (show l.length - 0 < k + 9199 by omega) ⟨rfl, rfl, rfl, rfl, trivial⟩ ⟨rfl, trivial⟩ ?_
  rintro i lv c T H E hP rfl hμ
  have hP : i ≤ l.length := hP
  clear hμ
  dsimp only
  rcases Nat.lt_or_ge i l.length with hi | hi
  · obtain ⟨p, hp⟩ : ∃ p, l[i]? = some p := ⟨_, List.getElem?_eq_getElem hi⟩
    have hpb := hin p (List.mem_of_getElem? hp)
    have r1 := rd_pt1 hp
    have r2 := rd_pt2 hp
    have r3 := rd_pt3 hp
    have gi : inB (i : Int) ((ptsV l).length / 4) = some i := inB_n (by rw [pts_div]; omega)
    have hgt := gath_take (bs := bs) hp
    have hgl := gath_length (bs := bs) (l := l.take i)
    obtain ⟨pi, pa, pn, pw⟩ := p
    dsimp only at hpb r1 r2 r3
    cases pw
    · have hpb := hpb rfl
      have c54 : Calls0 (evCall FN (k + 9199)) 54 [memV bs, .int .i64 pa, .int .i64 pn] (.agg [.str ((bs.drop pa).take pn), .bool true]) := (s54 (k := 0) h hpb).fuel (by omega)
      have hmul : (l.take i).length * bs.length ≤ 100 * 8192 := Nat.mul_le_mul (by rw [List.length_take]; omega) hl.1
      have fa : evBin .add (.str (gath bs (l.take i))) (.str ((bs.drop pa).take pn)) = some (.str (gath bs (l.take i) ++ (bs.drop pa).take pn)) := add_str (by rw [List.length_take, List.length_drop]; omega)
      have e : rdP bs ⟨pi, pa, pn, false⟩ = (bs.drop pa).take pn := rfl
      rw [e] at hgt
      repeat (first | (apply o_nil; apply k_norm) | (apply o_nil; apply b_norm) | (apply o_nil; skip) | (apply p_mov; exact rfl) | (apply p_load; (iterate 4 exact rfl)) | (apply p_bin; exact rfl; exact rfl; (with_reducible assumption)) | (apply p_bin; exact rfl; exact rfl; (with_reducible exact add_nl (by omega))) | (apply p_bin; exact rfl; exact rfl; (with_reducible exact lss_t (by omega))) | (apply p_len; exact rfl; exact csz_ok _ _) | (apply p_un; exact rfl; exact rfl) | (apply p_call; exact rfl; exact rfl; assumption) | (apply p_iaS; exact rfl; exact rfl; exact csz_ok _ _; (with_reducible assumption)) | (apply p_load_pp; exact rfl; (with_reducible assumption)) | (apply p_fadd_pp; exact rfl) | (apply p_fld; (iterate 3 exact rfl)) | apply w_seq | apply w_ops | apply k_norm | apply w_skip | apply w_block | (apply q_cond_true; exact rfl))
      exact n_again (i + 1) (show i + 1 ≤ l.length by omega) rfl (show l.length - (i + 1) < l.length - i by omega) ⟨rfl, by rw [hgt]; rfl, rfl, rfl, trivial⟩ ⟨⟨rfl, rfl⟩, trivial⟩
    · have e : rdP bs ⟨pi, pa, pn, true⟩ = [] := rfl
      rw [e, List.append_nil] at hgt
      repeat (first | (apply o_nil; apply k_norm) | (apply o_nil; skip) | (apply p_mov; exact rfl) | (apply p_bin; exact rfl; exact rfl; (with_reducible exact add_nl (by omega))) | (apply p_bin; exact rfl; exact rfl; (with_reducible exact lss_t (by omega))) | (apply p_len; exact rfl; exact csz_ok _ _) | (apply p_un; exact rfl; exact rfl) | (apply p_iaS; exact rfl; exact rfl; exact csz_ok _ _; (with_reducible assumption)) | (apply p_load_pp; exact rfl; (with_reducible assumption)) | (apply p_fadd_pp; exact rfl) | apply w_seq | apply w_ops | apply k_norm | apply w_skip | apply w_block | apply b_norm | (apply q_cond_true; exact rfl) | (apply q_cond_false; exact rfl))
      exact n_again (i + 1) (show i + 1 ≤ l.length by omega) rfl (show l.length - (i + 1) < l.length - i by omega) ⟨rfl, by rw [hgt]; rfl, rfl, rfl, trivial⟩ ⟨⟨rfl, rfl⟩, trivial⟩
  · rw [List.take_of_length_le hi]
    repeat (first | (apply o_nil; apply k_norm) | (apply p_mov; exact rfl) | (apply p_bin; exact rfl; exact rfl; (with_reducible exact lss_f (by omega))) | (apply p_len; exact rfl; exact csz_ok _ _) | apply w_seq | apply w_ops | apply k_exit | apply w_exit | (apply q_cond_false; exact rfl))
    apply n_exit
    apply b_exit
    repeat (first | (apply o_nil; apply k_norm) | (apply p_mov; exact rfl) | apply w_seq | apply w_ops | apply k_norm | apply w_ret)
    exact q_ret (.inr rfl) rfl rfl rfl rfl rfl rfl

end Go.Proofs.Ythkkhmkieknemaa

/- The fourth law of the ring, as it is computed. Condition: the memory's bytes are whole pages; the numbers are such as their types hold. -/
namespace Go.Proofs.Ythkkhmkieknemaa
open Go.Abs
variable {k : Nat}

theorem takeL_ok {bs : List UInt8} {b s i : Nat} (hi : i < s) : WOK bs b s (takeL bs b s i) := by
  by_cases h : takeE bs b s i = 0
  · exact (take_good hi h).1
  · rw [(take_bad h).1]; exact wok_nil bs b s

theorem WOK.inR {bs : List UInt8} {b s : Nat} {js : List Nat} (h : WOK bs b s js) : InR bs.length (js.map (ptOf bs b)) := by
  intro p hp _
  obtain ⟨j, hj, rfl⟩ := List.mem_map.1 hp
  obtain ⟨_, _, _, _, h5⟩ := h.one j hj
  exact h5

theorem eql_str {x y : List UInt8} (h : x = y) : evBin .eql (.str x) (.str y) = some (.bool true) := by
  subst h; simp [evBin, evStr]

set_option maxRecDepth 100000 in
set_option maxHeartbeats 4000000 in
theorem s6 {bs ys : List UInt8} {p b s i : Nat} (hp : bs.length = 128 * p) (hb : b < 4294967296) (hs0 : s < 4294967296) (hi : i < 256) : Calls0 (evCall FN (k + 20000)) 6 [memV bs, ringV b s, .int .u8 i, .str ys] (.bool true) := by
  have c10 : Calls0 (evCall FN (k + 19999)) 10 [] (.bool true) := s10.fuel (k := 300) (by omega)
  refine q_call0 fn6 fun T H E lv => ?_
  rcases s13x (k := 0) hp hb hs0 with c13 | ⟨c13, h⟩
  · have c13 : Calls0 (evCall FN (k + 19999)) 13 [memV bs, ringV b s] (.bool false) := c13.fuel (by omega)
    repeat (first | (apply o_nil; apply k_norm) | (apply p_mov; exact rfl) | (apply p_load; (iterate 4 exact rfl)) | (apply p_box; exact rfl; exact rfl; intro E) | (apply p_un; exact rfl; exact rfl) | (apply p_call; exact rfl; exact rfl; assumption) | (apply p_guard_no; exact rfl; exact rfl) | (apply p_pick_true; exact rfl; exact rfl) | apply w_seq | apply w_ops | apply k_ret | apply w_ret | (apply q_cond_true; exact rfl))
    exact q_ret (.inr rfl) rfl rfl rfl rfl rfl rfl
  have c13 : Calls0 (evCall FN (k + 19999)) 13 [memV bs, ringV b s] (.bool true) := c13.fuel (by omega)
  by_cases hy : 3000 < ys.length
  · repeat (first | (apply o_nil; apply k_norm) | (apply p_mov; exact rfl) | (apply p_load; (iterate 4 exact rfl)) | (apply p_bin; exact rfl; exact rfl; (with_reducible exact gtr_t (by omega))) | (apply p_box; exact rfl; exact rfl; intro E) | (apply p_lenS; exact rfl) | (apply p_un; exact rfl; exact rfl) | (apply p_call; exact rfl; exact rfl; assumption) | (apply p_guard_yes; exact rfl) | (apply p_pick_false; exact rfl; exact rfl) | apply w_seq | apply w_ops | apply k_ret | apply w_ret | (apply q_cond_true; exact rfl))
    exact q_ret (.inr rfl) rfl rfl rfl rfl rfl rfl
  have hs := h.hs
  have hle := h.le
  have hl := h.m.le
  have hk : i % s < s := Nat.mod_lt _ (by omega)
  have gr : evBin .rem (.int .i64 (i : Int)) (.int .i64 (s : Int)) = some (.int .i64 ((i % s : Nat) : Int)) := rem_nn (by omega)
  have c17 : Calls0 (evCall FN (k + 19999)) 17 [memV bs, ringV b s, .int .i64 ((i % s : Nat) : Int)] _ := (s17 (k := 0) h hk).fuel (by omega)
  have W := takeL_ok (bs := bs) (b := b) hk
  obtain ⟨L, hL⟩ : ∃ L, L = takeL bs b s (i % s) := ⟨_, rfl⟩
  rw [← hL] at c17 W
  obtain ⟨l, hl0⟩ : ∃ l, l = L.map (ptOf bs b) := ⟨_, rfl⟩
  have hpl : partsV bs b L = ptsV l := by rw [hl0, parts_pts]
  have hll : l.length = L.length := by rw [hl0, List.length_map]
  have hn := W.len
  have hin : InM bs.length l := hl0 ▸ W.inM rfl
  have hir : InR bs.length l := hl0 ▸ W.inR
  have hlt : ∀ q ∈ l, q.n < 4294967296 := fun q hq => (pts_lt (bs := bs) (b := b) (js := L) q (hl0 ▸ hq)).1
  have hfl := pts_flat l
  rw [hpl] at c17
  obtain ⟨q1, q2⟩ := scat_props (ys := ys) (r := (bs, 0)) hin rfl (Nat.zero_le _)
  have c26 : Calls0 (evCall FN (k + 19999)) 26 [memV bs, csl 4 (ptsV l), .str ys] (.tup [memV (scat bs l ys).1, .int .i64 (scat bs l ys).2]) := (s26 (k := 0) h.m (by omega) hin (by omega) hlt).fuel (by omega)
  have c29 : Calls0 (evCall FN (k + 19999)) 29 [memV bs, csl 4 (ptsV l), .str ys] (.agg [csl 128 ((scat bs l ys).1.map ofB), .int .i64 (scat bs l ys).2]) := (s29 (k := 0) h.m (by omega) hin (by omega) hlt).fuel (by omega)
  have c30 : Calls0 (evCall FN (k + 19999)) 30 [memV bs, csl 4 (ptsV l)] (.str (gath bs l)) := (s30 (k := 0) h.m hir (by omega)).fuel (by omega)
  have c31 : Calls0 (evCall FN (k + 19999)) 31 [memV bs, csl 4 (ptsV l)] (.str (gath bs l)) := (s31 (k := 0) h.m hir (by omega)).fuel (by omega)
  have c32 : Calls0 (evCall FN (k + 19999)) 32 [csl 4 (ptsV l)] (.int .i64 (rm l)) := (s32 (k := 0) (by omega) hlt).fuel (by omega)
  have c33 : Calls0 (evCall FN (k + 19999)) 33 [csl 4 (ptsV l)] (.int .i64 (rm l)) := (s33 (k := 0) (by omega) hlt).fuel (by omega)
  have hO : VM (scat bs l ys).1 := h.m.of_len q1
  have c19 : Calls0 (evCall FN (k + 19999)) 19 [memV (scat bs l ys).1, memV (scat bs l ys).1] (.bool true) := (s19t (k := 0) hO).fuel (by omega)
  have fs : evBin .eql (.str (gath bs l)) (.str (gath bs l)) = some (.bool true) := eql_str rfl
  repeat (first | (apply o_nil; apply k_norm) | (apply p_mov; exact rfl) | (apply p_load; (iterate 4 exact rfl)) | (apply p_bin; exact rfl; exact rfl; (with_reducible assumption)) | (apply p_bin; exact rfl; exact rfl; (with_reducible exact gtr_f (by omega))) | (apply p_bin; exact rfl; exact rfl; (with_reducible exact eql_t (by omega))) | (apply p_fadd; exact rfl) | (apply p_box; exact rfl; exact rfl; intro E) | (apply p_new; intro E) | (apply p_store; (iterate 3 exact rfl); exact rfl; exact rfl; exact rfl) | (apply p_convA; exact rfl; (with_reducible exact w64 (by omega) (by omega))) | (apply p_lenS; exact rfl) | (apply p_ext; exact rfl; exact rfl) | (apply p_un; exact rfl; exact rfl) | (apply p_call; exact rfl; exact rfl; assumption) | (apply p_fld; (iterate 3 exact rfl)) | (apply p_guard_yes; exact rfl) | (apply p_pick_true; exact rfl; exact rfl) | (apply p_pick_false; exact rfl; exact rfl) | apply w_seq | apply w_ops | apply k_norm | apply w_ret | apply w_skip | (apply q_cond_false; exact rfl))
  exact q_ret (.inr rfl) rfl rfl rfl rfl rfl rfl

end Go.Proofs.Ythkkhmkieknemaa

/- The fifth law of the ring, as it is computed. Condition: the memory's bytes are whole pages; the numbers are such as their types hold. -/
namespace Go.Proofs.Ythkkhmkieknemaa
open Go.Abs
variable {k : Nat}

theorem pts_take (l : List Pt) : ∀ (j : Nat), (ptsV l).take (j * 4) = ptsV (l.take j) := by
  induction l with
  | nil => intro j; simp [ptsV]
  | cons p l ih =>
    intro j
    cases j with
    | zero => simp [ptsV]
    | succ j =>
      have e : ptsV (p :: l) = ptV p ++ ptsV l := by simp [ptsV]
      have e2 : ptsV ((p :: l).take (j + 1)) = ptV p ++ ptsV (l.take j) := by simp [ptsV]
      rw [e, e2, ← ih j, List.take_append, ptV_length, List.take_of_length_le (by rw [ptV_length]; omega)]
      congr 2; omega

/-- All bytes of parts. -/
def alS (n : Nat) (p : Pt) : Nat := n + p.n

theorem al_le : ∀ {l : List Pt} {n : Nat}, (∀ p ∈ l, p.n < 4294967296) → l.foldl alS n ≤ n + l.length * 4294967296
  | [], n, _ => by simp
  | p :: l, n, h => by
    have := al_le (l := l) (n := alS n p) fun q hq => h q (List.mem_cons_of_mem _ hq)
    have h2 := h p List.mem_cons_self
    have h3 : alS n p ≤ n + 4294967296 := by unfold alS; omega
    rw [List.foldl_cons, List.length_cons]; omega

theorem rm_add : ∀ {l : List Pt} {n : Nat}, l.foldl rmS n = n + l.foldl rmS 0
  | [], n => by simp
  | p :: l, n => by
    rw [List.foldl_cons, List.foldl_cons, rm_add (l := l) (n := rmS n p), rm_add (l := l) (n := rmS 0 p)]
    unfold rmS; split <;> omega

theorem al_split {bs : List UInt8} : ∀ {l : List Pt} {n : Nat}, InR bs.length l → l.foldl alS n = n + ((gath bs l).length + rm l)
  | [], n, _ => by simp [gath, rm]
  | p :: l, n, h => by
    have ih := al_split (l := l) (n := alS n p) fun q hq => h q (List.mem_cons_of_mem _ hq)
    have e : gath bs (p :: l) = rdP bs p ++ gath bs l := by simp [gath]
    rw [List.foldl_cons, ih, e, List.length_append]
    unfold rm
    rw [List.foldl_cons, rm_add (l := l) (n := rmS 0 p)]
    cases hw : p.w with
    | true => simp only [rdP, rmS, alS, hw, if_true, List.length_nil]; omega
    | false =>
      have hp := h p List.mem_cons_self hw
      simp only [rdP, rmS, alS, hw, Bool.false_eq_true, if_false, List.length_take, List.length_drop]; omega

set_option maxRecDepth 100000 in
set_option maxHeartbeats 4000000 in
theorem s7 {bs : List UInt8} {p b s i : Nat} (hp : bs.length = 128 * p) (hb : b < 4294967296) (hs0 : s < 4294967296) (hi : i < 256) : Calls0 (evCall FN (k + 20000)) 7 [memV bs, ringV b s, .int .u8 i] (.bool true) := by
  have c10 : Calls0 (evCall FN (k + 19999)) 10 [] (.bool true) := s10.fuel (k := 300) (by omega)
  refine q_call0 fn7 fun T H E lv => ?_
  rcases s13x (k := 0) hp hb hs0 with c13 | ⟨c13, h⟩
  · have c13 : Calls0 (evCall FN (k + 19999)) 13 [memV bs, ringV b s] (.bool false) := c13.fuel (by omega)
    repeat (first | (apply o_nil; apply k_norm) | (apply p_mov; exact rfl) | (apply p_load; (iterate 4 exact rfl)) | (apply p_box; exact rfl; exact rfl; intro E) | (apply p_un; exact rfl; exact rfl) | (apply p_call; exact rfl; exact rfl; assumption) | apply w_seq | apply w_ops | apply k_ret | apply w_ret | (apply q_cond_true; exact rfl))
    exact q_ret (.inr rfl) rfl rfl rfl rfl rfl rfl
  have c13 : Calls0 (evCall FN (k + 19999)) 13 [memV bs, ringV b s] (.bool true) := c13.fuel (by omega)
  have hs := h.hs
  have hle := h.le
  have hl := h.m.le
  have hk : i % s < s := Nat.mod_lt _ (by omega)
  have gr : evBin .rem (.int .i64 (i : Int)) (.int .i64 (s : Int)) = some (.int .i64 ((i % s : Nat) : Int)) := rem_nn (by omega)
  have c15 : Calls0 (evCall FN (k + 19999)) 15 [memV bs, ringV b s, .int .i64 ((i % s : Nat) : Int)] _ := (s15 (k := 0) h hk).fuel (by omega)
  have W := takeL_ok (bs := bs) (b := b) hk
  obtain ⟨L, hL⟩ : ∃ L, L = takeL bs b s (i % s) := ⟨_, rfl⟩
  obtain ⟨M, hM⟩ : ∃ M, M = takeM bs b s (i % s) := ⟨_, rfl⟩
  rw [← hL, ← hM] at c15
  rw [← hL] at W
  obtain ⟨l, hl0⟩ : ∃ l, l = L.map (ptOf bs b) := ⟨_, rfl⟩
  have hpl : partsV bs b L = ptsV l := by rw [hl0, parts_pts]
  have hll : l.length = L.length := by rw [hl0, List.length_map]
  have hn := W.len
  have hir : InR bs.length l := hl0 ▸ W.inR
  have hlt : ∀ q ∈ l, q.n < 4294967296 := fun q hq => (pts_lt (bs := bs) (b := b) (js := L) q (hl0 ▸ hq)).1
  have hfl := pts_flat l
  have hdv := pts_div l
  rw [hpl] at c15
  have c30 : Calls0 (evCall FN (k + 19999)) 30 [memV bs, csl 4 (ptsV l)] (.str (gath bs l)) := (s30 (k := 0) h.m hir (by omega)).fuel (by omega)
  have c32 : Calls0 (evCall FN (k + 19999)) 32 [csl 4 (ptsV l)] (.int .i64 (rm l)) := (s32 (k := 0) (by omega) hlt).fuel (by omega)
  have c34 : Calls0 (evCall FN (k + 19999)) 34 [memV bs] (.int .i64 bs.length) := (s34 (k := 0) h.m).fuel (by omega)
  have hws : IntKind.i64.wrap (s : Int) = s := w64 (by omega) (by omega)
  have hal := al_split (n := 0) hir
  have hal2 := al_le (n := 0) hlt
  repeat (first | (apply o_nil; apply k_norm) | (apply p_mov; exact rfl) | (apply p_load; (iterate 4 exact rfl)) | (apply p_bin; exact rfl; exact rfl; (with_reducible assumption)) | (apply p_fadd; exact rfl) | (apply p_box; exact rfl; exact rfl; intro E) | (apply p_new; intro E) | (apply p_store; (iterate 3 exact rfl); exact rfl; exact rfl; exact rfl) | (apply p_convA; exact rfl; (with_reducible assumption)) | (apply p_convA; exact rfl; (with_reducible exact w64 (by omega) (by omega))) | (apply p_len; exact rfl; exact csz_ok _ _) | (apply p_ext; exact rfl; exact rfl) | (apply p_un; exact rfl; exact rfl) | (apply p_call; exact rfl; exact rfl; assumption) | apply w_seq | apply w_ops | apply k_norm | apply w_skip | apply w_block | (apply q_cond_false; exact rfl))
  rw [pts_div]
  refine q_loop (α := Nat) (LInv.mk (fun j => j ≤ l.length) (fun j => l.length - j)
    (fun j => [(35, .int .i64 (j : Int)), (34, .int .i64 (l.length : Int)), (33, csl 4 (ptsV l)), (10, .int .i64 ((l.take j).foldl alS 0 : Nat)), (8, csl 4 (ptsV l)), (4, .ref 1 0), (3, .ref 0 0)])
    (fun j => [(1, [.int .u32 b, .int .u32 s]), (0, [csl 128 (bs.map ofB)])]))
    (fun _ _ c => c = 4) 0 (Nat.zero_le _) rfl (show l.length - 0 < k + 19999 by omega) ⟨rfl, rfl, rfl, rfl, rfl, rfl, rfl, trivial⟩ ⟨rfl, rfl, trivial⟩ ?_
  rintro j lv c T H E hP rfl hμ
  have hP : j ≤ l.length := hP
  clear hμ
  dsimp only
  rcases Nat.lt_or_ge j l.length with hjl | hjl
  · obtain ⟨q, hq⟩ : ∃ q, l[j]? = some q := ⟨_, List.getElem?_eq_getElem hjl⟩
    obtain ⟨x, hx⟩ : ∃ x, L[j]? = some x := ⟨_, List.getElem?_eq_getElem (by omega)⟩
    have hqx : q = ptOf bs b x := by
      have := hq
      rw [hl0, List.getElem?_map, hx] at this
      simpa using this.symm
    obtain ⟨w1, w2, w3, w4, w5⟩ := W.one x (List.mem_of_getElem? hx)
    have hr : rd (ptsV l) (j * 4) 4 true = some (.agg [.int .i64 x, .int .i64 (dw bs b x 0), .int .i64 (dw bs b x 1), .bool (wr bs b x)]) := by
      rw [rd_pt hq, hqx]; rfl
    have gi : inB (j : Int) ((ptsV l).length / 4) = some j := inB_n (by rw [pts_div]; omega)
    have gj : asB (j : Int) ((ptsV l).length / 4) = some j := asB_n (by rw [pts_div]; omega)
    have hft := foldl_take (f := alS) (x := 0) hq
    have e : ∀ r, alS r q = r + dw bs b x 1 := by intro r; rw [hqx]; rfl
    rw [e] at hft
    have hal3 := al_le (l := l.take j) (n := 0) fun q hq => hlt q (List.mem_of_mem_take hq)
    rw [List.length_take] at hal3
    obtain ⟨A, hA⟩ : ∃ A, A = (l.take j).foldl alS 0 := ⟨_, rfl⟩
    rw [← hA] at hft hal3 ⊢
    obtain ⟨wx, hwx⟩ : ∃ wx, wx = wr bs b x := ⟨_, rfl⟩
    rw [← hwx] at hr
    have d0 := dw_lt bs b x 0
    repeat (first | (apply o_nil; apply k_norm) | (apply p_mov; exact rfl) | (apply p_load; (iterate 4 exact rfl)) | (apply p_bin; exact rfl; exact rfl; (with_reducible exact add_nn (by omega))) | (apply p_bin; exact rfl; exact rfl; (with_reducible exact lss_t (by omega))) | (apply p_bin; exact rfl; exact rfl; (with_reducible exact lss_f (by omega))) | (apply p_bin; exact rfl; exact rfl; (with_reducible exact gtr_f (by omega))) | (apply p_bin; exact rfl; exact rfl; (with_reducible exact geq_f (by omega))) | (apply p_fadd; exact rfl) | (apply p_new; intro E) | (apply p_store; (iterate 3 exact rfl); exact rfl; exact rfl; exact rfl) | (apply p_convA; exact rfl; (with_reducible assumption)) | (apply p_call; exact rfl; exact rfl; assumption) | (apply p_iaS; exact rfl; exact rfl; exact csz_ok _ _; (with_reducible assumption)) | (apply p_load_pp; exact rfl; (with_reducible assumption)) | (apply p_guard_yes; exact rfl) | (apply p_pick_false; exact rfl; exact rfl) | apply w_seq | apply w_ops | apply k_norm | apply w_skip | apply w_block | (apply q_cond_true; exact rfl) | (apply q_cond_false; exact rfl))
    apply p_slL_hi
    · exact rfl
    · exact csz_ok _ _
    · exact rfl
    · exact gj
    rw [Nat.zero_mul, List.drop_zero, pts_take]
    have hdj : (ptsV (l.take j)).length / 4 = j := by rw [pts_div, List.length_take]; omega
    repeat (first | (apply o_nil; apply k_norm) | (apply p_mov; exact rfl) | (apply p_len; exact rfl; exact csz_ok _ _) | apply w_block)
    rw [hdj]
    refine q_loop (α := Nat) (LInv.mk (fun i => i ≤ j) (fun i => j - i)
      (fun i => [(80, .int .i64 (i : Int)), (79, .int .i64 (j : Int)), (78, csl 4 (ptsV (l.take j))), (12, .ref 3 0), (35, .int .i64 (j : Int)), (34, .int .i64 (l.length : Int)), (33, csl 4 (ptsV l)), (10, .int .i64 (A : Int)), (8, csl 4 (ptsV l)), (4, .ref 1 0), (3, .ref 0 0)])
      (fun i => [(3, [.int .i64 x, .int .i64 (dw bs b x 0), .int .i64 (dw bs b x 1), .bool wx]), (1, [.int .u32 b, .int .u32 s]), (0, [csl 128 (bs.map ofB)])]))
      (fun _ _ c => c = 4) 0 (Nat.zero_le _) rfl (show j - 0 < k + 19999 by omega) ⟨rfl, rfl, rfl, rfl, rfl, rfl, rfl, rfl, rfl, rfl, rfl, trivial⟩ ⟨rfl, rfl, rfl, trivial⟩ ?_
    rintro i' lv c T H E hPi rfl hμ
    have hPi : i' ≤ j := hPi
    clear hμ
    dsimp only
    rcases Nat.lt_or_ge i' j with hij | hij
    · obtain ⟨z, hz⟩ : ∃ z, L[i']? = some z := ⟨_, List.getElem?_eq_getElem (by omega)⟩
      have hlz : (l.take j)[i']? = some (ptOf bs b z) := by
        rw [List.getElem?_take_of_lt hij, hl0, List.getElem?_map, hz]; rfl
      have hr2 : rd (ptsV (l.take j)) (i' * 4) 4 true = some (.agg [.int .i64 z, .int .i64 (dw bs b z 0), .int .i64 (dw bs b z 1), .bool (wr bs b z)]) := rd_pt hlz
      have gi2 : inB (i' : Int) ((ptsV (l.take j)).length / 4) = some i' := inB_n (by rw [hdj]; omega)
      obtain ⟨hz1, hz2⟩ := List.getElem?_eq_some_iff.1 hz
      obtain ⟨hx1, hx2⟩ := List.getElem?_eq_some_iff.1 hx
      have hne : z ≠ x := by
        rw [← hz2, ← hx2]
        exact List.pairwise_iff_getElem.1 W.nd i' j hz1 hx1 hij
      have hord : wr bs b z = true → wx = true := by
        rw [hwx, ← hz2, ← hx2]
        exact List.pairwise_iff_getElem.1 W.ord i' j hz1 hx1 hij
      obtain ⟨wz, hwz⟩ : ∃ wz, wz = wr bs b z := ⟨_, rfl⟩
      rw [← hwz] at hr2 hord
      cases wz
      · repeat (first | (apply o_nil; apply k_norm) | (apply o_nil; skip) | (apply p_mov; exact rfl) | (apply p_load; (iterate 4 exact rfl)) | (apply p_bin; exact rfl; exact rfl; (with_reducible exact add_nl (by omega))) | (apply p_bin; exact rfl; exact rfl; (with_reducible exact lss_t (by omega))) | (apply p_bin; exact rfl; exact rfl; (with_reducible exact eql_f (by omega))) | (apply p_fadd; exact rfl) | (apply p_new; intro E) | (apply p_store; (iterate 3 exact rfl); exact rfl; exact rfl; exact rfl) | (apply p_iaS; exact rfl; exact rfl; exact csz_ok _ _; (with_reducible assumption)) | (apply p_load_pp; exact rfl; (with_reducible assumption)) | (apply p_guard_yes; exact rfl) | (apply p_guard_no; exact rfl; exact rfl) | (apply p_pick_false; exact rfl; exact rfl) | apply w_seq | apply w_ops | apply k_norm | apply w_skip | apply w_block | apply b_norm | (apply q_cond_true; exact rfl) | (apply q_cond_false; exact rfl))
        exact n_again (i' + 1) (show i' + 1 ≤ j by omega) rfl (show j - (i' + 1) < j - i' by omega) ⟨rfl, rfl, rfl, rfl, rfl, rfl, rfl, rfl, rfl, rfl, rfl, trivial⟩ ⟨⟨rfl, rfl⟩, ⟨rfl, rfl⟩, ⟨rfl, rfl⟩, trivial⟩
      · obtain rfl := hord rfl
        repeat (first | (apply o_nil; apply k_norm) | (apply o_nil; skip) | (apply p_mov; exact rfl) | (apply p_load; (iterate 4 exact rfl)) | (apply p_bin; exact rfl; exact rfl; (with_reducible exact add_nl (by omega))) | (apply p_bin; exact rfl; exact rfl; (with_reducible exact lss_t (by omega))) | (apply p_bin; exact rfl; exact rfl; (with_reducible exact eql_f (by omega))) | (apply p_fadd; exact rfl) | (apply p_new; intro E) | (apply p_store; (iterate 3 exact rfl); exact rfl; exact rfl; exact rfl) | (apply p_un; exact rfl; exact rfl) | (apply p_iaS; exact rfl; exact rfl; exact csz_ok _ _; (with_reducible assumption)) | (apply p_load_pp; exact rfl; (with_reducible assumption)) | (apply p_guard_yes; exact rfl) | (apply p_pick_true; exact rfl; exact rfl) | (apply p_pick_false; exact rfl; exact rfl) | apply w_seq | apply w_ops | apply k_norm | apply w_skip | apply w_block | apply b_norm | (apply q_cond_true; exact rfl) | (apply q_cond_false; exact rfl))
        exact n_again (i' + 1) (show i' + 1 ≤ j by omega) rfl (show j - (i' + 1) < j - i' by omega) ⟨rfl, rfl, rfl, rfl, rfl, rfl, rfl, rfl, rfl, rfl, rfl, trivial⟩ ⟨⟨rfl, rfl⟩, ⟨rfl, rfl⟩, ⟨rfl, rfl⟩, trivial⟩
    · repeat (first | (apply o_nil; apply k_norm) | (apply p_bin; exact rfl; exact rfl; (with_reducible exact lss_f (by omega))) | apply w_seq | apply w_ops | apply k_exit | apply w_exit | (apply q_cond_false; exact rfl))
      apply n_exit
      apply b_exit
      repeat (first | (apply o_nil; apply b_norm) | (apply o_nil; skip) | (apply p_mov; exact rfl) | (apply p_load; (iterate 4 exact rfl)) | (apply p_bin; exact rfl; exact rfl; (with_reducible exact add_nn (by omega))) | (apply p_bin; exact rfl; exact rfl; (with_reducible exact add_nl (by omega))) | (apply p_fadd; exact rfl) | apply w_ops | apply k_norm)
      exact n_again (j + 1) (show j + 1 ≤ l.length by omega) rfl (show l.length - (j + 1) < l.length - j by omega) ⟨rfl, rfl, rfl, by rw [hft]; rfl, rfl, rfl, rfl, trivial⟩ ⟨⟨rfl, rfl⟩, ⟨rfl, rfl⟩, trivial⟩
  · rw [List.take_of_length_le hjl]
    repeat (first | (apply o_nil; apply k_norm) | (apply p_bin; exact rfl; exact rfl; (with_reducible exact lss_f (by omega))) | apply w_seq | apply w_ops | apply k_exit | apply w_exit | (apply q_cond_false; exact rfl))
    apply n_exit
    apply b_exit
    repeat (first | (apply o_nil; apply k_norm) | (apply p_mov; exact rfl) | (apply p_load; (iterate 4 exact rfl)) | (apply p_bin; exact rfl; exact rfl; (with_reducible exact add_nn (by omega))) | (apply p_bin; exact rfl; exact rfl; (with_reducible exact leq_t (by omega))) | (apply p_bin; exact rfl; exact rfl; (with_reducible exact eql_t (by omega))) | (apply p_len; exact rfl; exact csz_ok _ _) | (apply p_lenS; exact rfl) | (apply p_call; exact rfl; exact rfl; assumption) | (apply p_guard_yes; exact rfl) | (apply p_pick_true; exact rfl; exact rfl) | apply w_seq | apply w_ops | apply k_norm | apply w_ret)
    exact q_ret (.inr rfl) rfl rfl rfl rfl rfl rfl

end Go.Proofs.Ythkkhmkieknemaa
