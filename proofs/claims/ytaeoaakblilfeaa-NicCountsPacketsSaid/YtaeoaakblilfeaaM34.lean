/- Part 34 of the texts on which proofs about this seat rest: each says what it proves at its own head. No condition. -/
import Derived.Test.YtaeoaakblilfeaaM33
import Derived.ProofKit
import Derived.OpenShut
import Derived.Test.YtaeoaakblilfeaaRows
set_option linter.unusedVariables false
set_option linter.unusedSimpArgs false
/- NicCountsPackets: what it answers. Condition: the arguments are such as their types hold. -/
namespace Go.Proofs.Ytaeoaakblilfeaa
open Go.Abs
variable {k : Nat}
def StV (st : Nat) : Prop := st = 0 ∨ (160 ≤ st ∧ st ≤ 165)
theorem mfE_le (l : List Pt) (w : Bool) (lo hi : Nat) (h : mfE l w lo hi ≠ 0) : 160 ≤ mfE l w lo hi ∧ mfE l w lo hi ≤ 165 := by
  have := (mfE_cases l w lo hi).resolve_left h
  omega
structure RcvOK (s a st dr : Nat) (R : RR) : Prop where
  yes : R.ok = true → R.st = st ∧ R.r = true ∧ R.dr = dr
  no : R.ok = false → R.dr = dropN dr
  st : StV st → StV R.st
  place : PlaceP s a → PlaceP s R.a
theorem place_mod {s j : Nat} (h : wholeN s) : PlaceP s (((j + 1) % s : Nat) : Int) := by
  have hs : 0 < s := by unfold wholeN at h; omega
  have := Nat.mod_lt (j + 1) hs
  exact .inl ⟨h, by omega, by omega⟩
theorem rcv_ok {b s a st dr : Nat} {m pk : List UInt8} (h : VM m) (ha : wholeN s → a < s) : RcvOK s a st dr (rcv b s a st dr m pk) := by
  have nofl : ∀ {P : Prop}, (false = true) → P := fun h => Bool.noConfusion h
  unfold rcv
  split
  · exact ⟨fun h => nofl h, fun _ => rfl, id, id⟩
  split
  · next hc =>
    refine ⟨fun h => nofl h, fun _ => rfl, fun _ => ?_, id⟩
    rcases chk_cases m.length b s with e | e
    · exact absurd e hc
    · show StV (chkN m.length b s)
      rw [e]; exact .inr ⟨by omega, by omega⟩
  next hc =>
  split
  · exact ⟨fun h => nofl h, fun _ => rfl, id, id⟩
  next hf =>
  have hrv := chk_rv h (Decidable.not_not.1 hc)
  have hs := hrv.hs
  have hj := fstR_lt (m := m) (b := b) (s := s) (pos := a) (by omega) s 0 (by simpa using hf)
  generalize (fstR m b s a s 0).1 = j at hj ⊢
  unfold rserve
  split
  · next he =>
    refine ⟨fun h => nofl h, fun _ => rfl, fun _ => ?_, fun _ => place_mod hs⟩
    obtain ⟨_, _, h3, h4⟩ := take_bad he
    exact .inr ⟨by show 160 ≤ takeE m b s j; omega, h4⟩
  split
  · next hm => exact ⟨fun h => nofl h, fun _ => rfl, fun _ => .inr (mfE_le _ _ _ _ hm), fun _ => place_mod hs⟩
  · exact ⟨fun _ => ⟨rfl, rfl, rfl⟩, fun h => nofl h.symm, id, fun _ => place_mod hs⟩
theorem dropN_le (d : Nat) : dropN d ≤ 1099511627776 := Nat.min_le_right _ _
theorem dropN_eq {d : Nat} (h : d ≤ 1099511627775) : dropN d = d + 1 := Nat.min_eq_left (by omega)
theorem nvalid_of {tb ts rb rs ta ra st dr : Nat} (h1 : StV st) (h2 : dr ≤ 1099511627776) (h3 : PlaceP ts ta) (h4 : PlaceP rs ra) : nvalidB ⟨tb, ts, rb, rs, ta, ra, st, dr⟩ = true := by
  unfold nvalidB
  dsimp only
  rw [placeB_t h3, placeB_t h4, decide_eq_true (by unfold StV at h1; omega), decide_eq_true (by omega)]
  rfl
theorem port69 {tb ts rb rs ta ra st dr : Nat} {m : List UInt8} : portV tb ts rb rs ta ra st dr m true 69 0 = .tup [.agg [.int .u32 tb, .int .u32 ts, .int .u32 rb, .int .u32 rs, .int .i64 ta, .int .i64 ra, .int .i64 (0 : Nat), .int .i64 dr], .agg [csl 128 (m.map ofB), .int .u32 st, .sl 1 0 [], .bool false, .bool true]] := by
  have e : portC tb ts rb rs ta ra st dr m true 69 0 = doC tb ts rb rs ta ra (0 : Nat) dr m st (.sl 1 0 []) false true := by
    unfold portC
    rw [if_pos rfl, if_neg (by decide), if_neg (by decide), if_neg (by decide), if_neg (by decide), if_pos rfl]
    rfl
  unfold portV
  rw [e]; rfl
set_option maxRecDepth 100000 in
set_option maxHeartbeats 8000000 in
theorem s7 {x : NI} {m : List UInt8} {l : List (List UInt8)} {p : Nat} (hx : NR x) (hp : m.length = 128 * p) : Calls0 (evCall FN (k + 11000)) 7 [niV x, memV m, csl 1 (outV l)] (.bool true) := by
  have c9 : Calls0 (evCall FN (k + 10999)) 9 [] (.bool true) := s9.fuel (k := 400) (by omega)
  have hb1 := hx.tb; have hb2 := hx.ts; have hb3 := hx.rb; have hb4 := hx.rs
  have hlen : (outV l).length / 1 = l.length := by rw [outV_length, Nat.div_one]
  by_cases hv : p = 0 ∨ 64 < p
  · have c8 : Calls0 (evCall FN (k + 10999)) 8 [memV m] (.bool false) := (s8f (k := 0) hp hv).fuel (by omega)
    refine q_call0 fn7 fun T H E lv => ?_
    repeat (first | refine stN ?_ | intro E)
    exact q_ret (.inr rfl) rfl rfl rfl rfl rfl rfl
  have hm : VM m := ⟨p, by omega, by omega, hp⟩
  have c8 : Calls0 (evCall FN (k + 10999)) 8 [memV m] (.bool true) := (s8t (k := 0) hm).fuel (by omega)
  have c11 : Calls0 (evCall FN (k + 10999)) 11 [niV x] (.bool (nvalidB x)) := (s11 (k := 0) hx.ts hx.rs).fuel (by omega)
  cases hV : nvalidB x
  · rw [hV] at c11
    refine q_call0 fn7 fun T H E lv => ?_
    repeat (first | refine stN ?_ | intro E)
    exact q_ret (.inr rfl) rfl rfl rfl rfl rfl rfl
  rw [hV] at c11
  obtain ⟨ta, ra, st, dr, hxe, hst, hdr, hpt, hpr⟩ := nvalid_nat hV
  obtain ⟨tb, ts, rb, rs, xta, xra, xst, xdr⟩ := x
  dsimp only at *
  simp only [NI.mk.injEq, true_and] at hxe
  obtain ⟨rfl, rfl, rfl, rfl⟩ := hxe
  have hst : StV st := hst
  refine q_call0 fn7 fun T H E lv => ?_
  show Wp _ _ _ ⟨slots (argSlots 0 [AV.agg [.int .u32 tb, .int .u32 ts, .int .u32 rb, .int .u32 rs, .int .i64 ta, .int .i64 ra, .int .i64 st, .int .i64 dr], memV m, csl 1 (outV l)]) _, _, _, _, _, _⟩ _
  by_cases hl : 20 < l.length
  · repeat (first | refine stN ?_ | intro E)
    exact q_ret (.inr rfl) rfl rfl rfl rfl rfl rfl
  by_cases hd20 : 1099511627756 < dr
  · repeat (first | refine stN ?_ | intro E)
    exact q_ret (.inr rfl) rfl rfl rfl rfl rfl rfl
  repeat (first | refine stN ?_ | intro E)
  refine q_loop (α := Nat × List UInt8 × Nat × Nat × Nat × Nat) (LInv.mk (fun q => q.1 ≤ l.length ∧ VM q.2.1 ∧ q.2.1.length = 128 * p ∧ PlaceP rs (q.2.2.1 : Nat) ∧ StV q.2.2.2.1 ∧ q.2.2.2.2.1 + q.2.2.2.2.2 = dr + q.1 ∧ dr ≤ q.2.2.2.2.1) (fun q => l.length - q.1)
    (fun q => [(10, .int .i64 (q.1 : Int)), (9, .int .i64 (q.2.2.2.2.2 : Int)), (8, .ref 3 0), (7, .ref 2 0), (4, .ref 1 0), (3, .ref 0 0), (2, csl 1 (outV l))])
    (fun q => [(3, [csl 128 (q.2.1.map ofB)]), (2, [.int .u32 tb, .int .u32 ts, .int .u32 rb, .int .u32 rs, .int .i64 ta, .int .i64 (q.2.2.1 : Nat), .int .i64 (q.2.2.2.1 : Nat), .int .i64 (q.2.2.2.2.1 : Nat)]), (1, [csl 128 (m.map ofB)]), (0, [.int .u32 tb, .int .u32 ts, .int .u32 rb, .int .u32 rs, .int .i64 ta, .int .i64 ra, .int .i64 st, .int .i64 dr])]))
    (fun _ _ c' => c' = 4) (0, m, ra, st, dr, 0) ⟨Nat.zero_le _, hm, hp, hpr, hst, rfl, Nat.le_refl _⟩ rfl (show l.length - 0 < k + 10999 by omega) ⟨rfl, rfl, rfl, rfl, rfl, rfl, rfl, trivial⟩ ⟨rfl, rfl, rfl, rfl, trivial⟩ ?_
  clear hpr hst c8 c11 hV
  rintro ⟨i, mm, a, st1, dr1, rc⟩ lv c T H E ⟨h1, h2, h3, h4, h5, h6, h7⟩ rfl hμ
  dsimp only at h1 h2 h3 h4 h5 h6 h7 ⊢
  clear hμ
  have hpl : wholeN rs → a < rs := fun h => h4.lt h
  have hm1 : (m.map ofB).length / 128 = p := by rw [List.length_map]; omega
  have hst165 : st1 ≤ 165 := by unfold StV at h5; omega
  rcases Nat.lt_or_ge i l.length with hi | hi
  · obtain ⟨y, hy⟩ : ∃ y, l[i]? = some y := ⟨_, List.getElem?_eq_getElem hi⟩
    have hr := outV_get hy
    have gi : inB (i : Int) ((outV l).length / 1) = some i := inB_n (by omega)
    by_cases hy6 : 600 < y.length
    · repeat (first | refine stN ?_ | intro E)
      apply n_ret
      repeat (first | refine stN ?_ | intro E)
      exact q_ret (.inr rfl) rfl rfl rfl rfl rfl rfl
    have c15 : Calls0 (evCall FN (k + 10999)) 15 _ _ := (s15 (k := 0) (tb := tb) (ts := ts) (rb := rb) (rs := rs) (ta := ta) (ra := a) (st := st1) (dr := dr1) (pk := y) h2 hb3 hb4 (by omega) (by omega) hpl).fuel (by omega)
    unfold recvV at c15
    obtain ⟨g1, g2, g3, g4⟩ := rcv_ok (b := rb) (st := st1) (dr := dr1) (pk := y) h2 hpl
    have hrl := rcv_len (st := st1) (dr := dr1) (pk := y) (b := rb) h2 hpl
    generalize rcv rb rs a st1 dr1 mm y = R at *
    obtain ⟨rm, rr, rok, ra', st', dr'⟩ := R
    dsimp only at *
    have hm2 : (rm.map ofB).length / 128 = p := by rw [List.length_map, hrl, h3]; omega
    have g3 := g3 h5
    have g4 := g4 h4
    have hdl : dr' ≤ 1099511627776 := by
      cases rok
      · rw [g2 rfl]; exact dropN_le _
      · rw [(g1 rfl).2.2]; omega
    have c10 : Calls0 (evCall FN (k + 10999)) 10 [.agg [.int .u32 tb, .int .u32 ts, .int .u32 rb, .int .u32 rs, .int .i64 ta, .int .i64 ra', .int .i64 st', .int .i64 dr']] (.bool (nvalidB ⟨tb, ts, rb, rs, ta, ra', st', dr'⟩)) := (s10 (k := 0) (x := ⟨tb, ts, rb, rs, ta, ra', st', dr'⟩) hb2 hb4).fuel (by omega)
    rw [nvalid_of g3 hdl hpt g4] at c10
    have hdn : dr1 ≤ 1099511627775 := by omega
    clear hpl hst165 hpt hdr hd20 hdl
    cases rok
    · have g2 := g2 rfl
      rw [dropN_eq (by omega)] at g2
      clear g1
      repeat (first | refine stN ?_ | intro E)
      exact n_again (i + 1, rm, ra', st', dr', rc) ⟨by omega, h2.of_len hrl, hrl.trans h3, g4, g3, by dsimp only; omega, by dsimp only; omega⟩ rfl (show l.length - (i + 1) < l.length - i by omega) ⟨rfl, rfl, rfl, rfl, rfl, rfl, rfl, trivial⟩ ⟨⟨rfl, rfl⟩, ⟨rfl, rfl⟩, ⟨rfl, rfl⟩, ⟨rfl, rfl⟩, trivial⟩
    · obtain ⟨g5, g6, g7⟩ := g1 rfl
      subst g6
      clear g2
      repeat (first | refine stN ?_ | intro E)
      exact n_again (i + 1, rm, ra', st', dr', rc + 1) ⟨by omega, h2.of_len hrl, hrl.trans h3, g4, g3, by dsimp only; omega, by dsimp only; omega⟩ rfl (show l.length - (i + 1) < l.length - i by omega) ⟨rfl, rfl, rfl, rfl, rfl, rfl, rfl, trivial⟩ ⟨⟨rfl, rfl⟩, ⟨rfl, rfl⟩, ⟨rfl, rfl⟩, ⟨rfl, rfl⟩, trivial⟩
  · have c14 : Calls0 (evCall FN (k + 10999)) 14 _ _ := (s14 (k := 0) (tb := tb) (ts := ts) (rb := rb) (rs := rs) (ta := ta) (ra := a) (st := st1) (dr := dr1) (p := 69) (w := 0) (i := true) h2 hb1 hb2 hst165 (fun h => hpt.lt h)).fuel (by omega)
    have c14b : Calls0 (evCall FN (k + 10999)) 14 _ _ := (s14 (k := 0) (tb := tb) (ts := ts) (rb := rb) (rs := rs) (ta := ta) (ra := a) (st := 0) (dr := dr1) (p := 69) (w := 0) (i := true) h2 hb1 hb2 (by omega) (fun h => hpt.lt h)).fuel (by omega)
    rw [port69] at c14 c14b
    repeat (first | refine stN ?_ | intro E)
    apply n_exit
    apply b_exit
    repeat (first | refine stN ?_ | intro E)
    exact q_ret (.inr rfl) rfl rfl rfl rfl rfl rfl
end Go.Proofs.Ytaeoaakblilfeaa

/- What the arguments of the ring's laws are. No condition. -/
namespace Go.Proofs.Ytaeoaakblilfeaa
open Go.Abs Go.ChangeShapes Go.WideShapes Go.ChangeAt Go.RowKit
theorem eval_of {F : CallF} {f : FuncId} {vs : List AV} {b : Bool} (h : Calls0 F f vs (.bool b)) : ∃ hs', F f vs h0 (fun _ => none) = some (.bool b, hs') := by
  have h1 := evP_of h rfl
  unfold evP at h1
  split at h1
  · next r hs he =>
    split at h1
    · simp only [Option.some.injEq] at h1
      refine ⟨hs, ?_⟩
      rw [he]
      cases r <;> simp only [own, mapLeaf, ownCell] at h1 <;> first
        | (cases h1; rfl)
        | (split at h1 <;> first | cases h1 | (split at h1 <;> cases h1))
        | cases h1
    · cases h1
  · cases h1
def memSh : Sh := .agg [.sl (.arr 128 (.int .u8))]
def ringSh : Sh := .agg [.int .u32, .int .u32]
theorem own0 : ownKnob Try.prog.godebug = none := by kernel_rfl
theorem hasBytes {xs : List AV} (h : Has (.arr 128 (.int .u8)) xs) : ∃ bs : List UInt8, bs.length = 128 ∧ xs = bs.map ofB := by
  obtain ⟨ls, hl, rfl, h2⟩ := h
  have key : ∀ ls : List (List AV), (∀ y ∈ ls, Has (.int .u8) y) → ∃ bs : List UInt8, bs.length = ls.length ∧ ls.flatten = bs.map ofB := by
    intro ls
    induction ls with
    | nil => intro _; exact ⟨[], rfl, rfl⟩
    | cons y ls ih =>
      intro h
      obtain ⟨bs, e1, e2⟩ := ih fun z hz => h z (List.mem_cons_of_mem _ hz)
      obtain ⟨n, rfl, hn⟩ := h y List.mem_cons_self
      refine ⟨UInt8.ofNat n.toNat :: bs, by simp [e1], ?_⟩
      have hb : 0 ≤ n ∧ n < 256 := by
        have h1 : IntKind.u8.min = 0 := rfl
        have h2 : IntKind.u8.max = 255 := rfl
        simp only [Lit.wf, h1, h2, Bool.and_eq_true, decide_eq_true_eq] at hn
        omega
      rw [List.flatten_cons, e2, List.map_cons, ofB_le _ (by omega)]
      simp [Int.toNat_of_nonneg hb.1]
  obtain ⟨bs, e1, e2⟩ := key ls h2
  exact ⟨bs, by omega, e2⟩
theorem hasPages : ∀ ls : List (List AV), (∀ y ∈ ls, Has (.arr 128 (.int .u8)) y) → ∃ bs : List UInt8, bs.length = 128 * ls.length ∧ ls.flatten = bs.map ofB
  | [], _ => ⟨[], rfl, rfl⟩
  | y :: ls, h => by
    obtain ⟨bs, e1, e2⟩ := hasPages ls fun z hz => h z (List.mem_cons_of_mem _ hz)
    obtain ⟨b1, g1, rfl⟩ := hasBytes (h y List.mem_cons_self)
    refine ⟨b1 ++ bs, by rw [List.length_append, List.length_cons]; omega, by rw [List.flatten_cons, e2, List.map_append]⟩
theorem wf_nat {k : IntKind} {n : Int} {m : Nat} (h : (Lit.int k n).wf = true) (h1 : k.min = 0) (h2 : k.max < m) : ∃ j : Nat, n = j ∧ j < m := by
  simp only [Lit.wf, h1, Bool.and_eq_true, decide_eq_true_eq] at h
  exact ⟨n.toNat, by omega, by omega⟩
theorem hasMem {xs : List AV} (h : Has memSh xs) : ∃ (bs : List UInt8) (p : Nat), bs.length = 128 * p ∧ p ≤ maxLen ∧ xs = [csl 128 (bs.map ofB)] := by
  obtain ⟨ys, zs, ⟨ls, rfl, h2, h3⟩, rfl, rfl⟩ := h
  obtain ⟨bs, e1, e2⟩ := hasPages ls h2
  exact ⟨bs, ls.length, e1, h3, by rw [e2]; rfl⟩
theorem hasRing {xs : List AV} (h : Has ringSh xs) : ∃ b s : Nat, b < 4294967296 ∧ s < 4294967296 ∧ xs = [.int .u32 b, .int .u32 s] := by
  obtain ⟨_, _, ⟨n, rfl, hn⟩, ⟨_, _, ⟨m, rfl, hm⟩, rfl, rfl⟩, rfl⟩ := h
  obtain ⟨b, rfl, hb⟩ := wf_nat (m := 4294967296) hn rfl (by decide)
  obtain ⟨s, rfl, hs⟩ := wf_nat (m := 4294967296) hm rfl (by decide)
  exact ⟨b, s, hb, hs, rfl⟩
theorem each4 {s0 s1 s2 s3 : Sh} {xss : List (List AV)} (h : Each [s0, s1, s2, s3] xss) : ∃ x0 x1 x2 x3, xss = [x0, x1, x2, x3] ∧ Has s0 x0 ∧ Has s1 x1 ∧ Has s2 x2 ∧ Has s3 x3 := by
  rcases xss with _ | ⟨x0, _ | ⟨x1, _ | ⟨x2, _ | ⟨x3, _ | ⟨x4, t⟩⟩⟩⟩⟩
  · exact h.elim
  · exact h.2.elim
  · exact h.2.2.elim
  · exact h.2.2.2.elim
  · exact ⟨x0, x1, x2, x3, rfl, h.1, h.2.1, h.2.2.1, h.2.2.2.1⟩
  · exact h.2.2.2.2.elim
theorem table0 : Table Try.prog FN := table_of (fun f p h => by
  unfold prims at h
  split at h
  · rename_i hf
    subst hf
    cases h
    exact gather_sound (table_sound tabl0 _)
  · cases h)
theorem four {α : Type} {ds : List α} {n : Nat} (h : ds.length = n) (hn : n = 4) : ∃ d1 d2 d3 d4, ds = [d1, d2, d3, d4] := by
  subst hn
  rcases ds with _ | ⟨x0, _ | ⟨x1, _ | ⟨x2, _ | ⟨x3, _ | ⟨x4, t⟩⟩⟩⟩⟩ <;> simp at h
  exact ⟨x0, x1, x2, x3, rfl⟩
theorem three {α : Type} {ds : List α} {n : Nat} (h : ds.length = n) (hn : n = 3) : ∃ d1 d2 d3, ds = [d1, d2, d3] := by
  subst hn
  rcases ds with _ | ⟨x0, _ | ⟨x1, _ | ⟨x2, _ | ⟨x3, t⟩⟩⟩⟩ <;> simp at h
  exact ⟨x0, x1, x2, rfl⟩
theorem each3 {s0 s1 s2 : Sh} {xss : List (List AV)} (h : Each [s0, s1, s2] xss) : ∃ x0 x1 x2, xss = [x0, x1, x2] ∧ Has s0 x0 ∧ Has s1 x1 ∧ Has s2 x2 := by
  rcases xss with _ | ⟨x0, _ | ⟨x1, _ | ⟨x2, _ | ⟨x3, t⟩⟩⟩⟩
  · exact h.elim
  · exact h.2.elim
  · exact h.2.2.elim
  · exact ⟨x0, x1, x2, rfl, h.1, h.2.1, h.2.2.1⟩
  · exact h.2.2.2.elim
theorem hasStr {xs : List AV} (h : Has .str xs) : ∃ ys : List UInt8, xs = [.str ys] := by
  obtain ⟨l, rfl, _⟩ := h
  exact ⟨l, rfl⟩
end Go.Proofs.Ytaeoaakblilfeaa
