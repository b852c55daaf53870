/- Part 38 of the texts on which proofs about this seat rest: each says what it proves at its own head. No condition. -/
import Derived.Test.YtaeoaakblilfeaaM37
import Derived.ProofKit
import Derived.OpenShut
import Derived.Test.YtaeoaakblilfeaaRows
set_option linter.unusedVariables false
set_option linter.unusedSimpArgs false
/- NicCarriesPackets: what it answers. Condition: the arguments are such as their types hold. -/
namespace Go.Proofs.Ytaeoaakblilfeaa
open Go.Abs
variable {k : Nat}
theorem shl_i64 {q : Nat} (h : q < 4) : ∃ kk : Nat, wholeN kk ∧ evBin .shl (.int .i64 1) (.int .i64 (q : Int)) = some (.int .i64 (kk : Int)) := by
  have : q = 0 ∨ q = 1 ∨ q = 2 ∨ q = 3 := by omega
  rcases this with rfl | rfl | rfl | rfl
  · exact ⟨1, .inl rfl, rfl⟩
  · exact ⟨2, .inr (.inl rfl), rfl⟩
  · exact ⟨4, .inr (.inr (.inl rfl)), rfl⟩
  · exact ⟨8, .inr (.inr (.inr rfl)), rfl⟩
theorem eql_str (b : List UInt8) : evBin .eql (.str b) (.str b) = some (.bool true) := by simp [evBin, evStr]
set_option maxRecDepth 100000 in
set_option maxHeartbeats 16000000 in
theorem s6 {pk : List UInt8} {fr to sz : Nat} (hf : fr < 65536) (ht : to < 65536) (hs : sz < 256) : Calls0 (evCall FN (k + 11000)) 6 [.str pk, .int .u16 fr, .int .u16 to, .int .u8 sz] (.bool true) := by
  have c9 : Calls0 (evCall FN (k + 10999)) 9 [] (.bool true) := s9.fuel (k := 400) (by omega)
  by_cases h1 : pk.length < 1
  · refine q_call0 fn6 fun T H E lv => ?_
    repeat (first | refine stN ?_ | intro E)
    exact q_ret (.inr rfl) rfl rfl rfl rfl rfl rfl
  by_cases h2 : 512 < pk.length
  · refine q_call0 fn6 fun T H E lv => ?_
    repeat (first | refine stN ?_ | intro E)
    exact q_ret (.inr rfl) rfl rfl rfl rfl rfl rfl
  have er1 : evBin .rem (.int .i64 (fr : Int)) (.int .i64 ((1792 - pk.length + 1 : Nat) : Int)) = some (.int .i64 ((fr % (1792 - pk.length + 1) : Nat) : Int)) := rem_nn (by omega)
  have er2 : evBin .rem (.int .i64 (to : Int)) (.int .i64 ((1792 - pk.length + 1 : Nat) : Int)) = some (.int .i64 ((to % (1792 - pk.length + 1) : Nat) : Int)) := rem_nn (by omega)
  have er3 : evBin .rem (.int .i64 (sz : Int)) (.int .i64 4) = some (.int .i64 ((sz % 4 : Nat) : Int)) := rem_nl (m := 4) (by decide)
  have l1 : fr % (1792 - pk.length + 1) < 1792 - pk.length + 1 := Nat.mod_lt _ (by omega)
  have l2 : to % (1792 - pk.length + 1) < 1792 - pk.length + 1 := Nat.mod_lt _ (by omega)
  have l3 : sz % 4 < 4 := Nat.mod_lt _ (by omega)
  generalize fr % (1792 - pk.length + 1) = a at *
  generalize to % (1792 - pk.length + 1) = b at *
  generalize sz % 4 = q at *
  obtain ⟨kk, hk, hshl⟩ := shl_i64 l3
  obtain ⟨k0, k8⟩ := whole_le hk
  have hA : 256 ≤ 256 + a ∧ 256 + a + pk.length ≤ 2048 := by omega
  have hC : 256 ≤ 256 + b ∧ 256 + b + pk.length ≤ 2048 := by omega
  obtain ⟨e1, e2, e3⟩ := memN_len (C := 256 + b) hA.2
  obtain ⟨d0, d1⟩ := memN_d (pk := pk) hA (C := 256 + b) (by omega) (by omega)
  have hd : ((memN (256 + a) (256 + b) pk).drop (256 + a)).take pk.length = pk := putB_self (by rw [e2]; omega)
  have W := way d0 d1 e3 hk (by omega) hA hC hd
  have vm : ∀ {X : List UInt8}, X.length = 2048 → VM X := fun h => ⟨16, by decide, by decide, h⟩
  have c25a : Calls0 (evCall FN (k + 10999)) 25 [memV (zer 2048), .int .i64 0, csl 1 (uV [256 + a, pk.length, 0, 1])] _ := (s25 (k := 0) (a := 0) (vm (zer_len 2048)) (by decide) (by rw [zer_len]; show 0 + 4 * 4 ≤ 2048; omega) (fun w hw => by simp only [List.mem_cons, List.not_mem_nil, or_false] at hw; rcases hw with rfl | rfl | rfl | rfl <;> omega)).fuel (by omega)
  have c25b : Calls0 (evCall FN (k + 10999)) 25 [memV (puts (zer 2048) (wds 0 [256 + a, pk.length, 0, 1])), .int .i64 128, csl 1 (uV [256 + b, pk.length, 1, 1])] _ := (s25 (k := 0) (a := 128) (vm e1) (by decide) (by rw [e1]; show 128 + 4 * 4 ≤ 2048; omega) (fun w hw => by simp only [List.mem_cons, List.not_mem_nil, or_false] at hw; rcases hw with rfl | rfl | rfl | rfl <;> omega)).fuel (by omega)
  have c26 : Calls0 (evCall FN (k + 10999)) 26 [memV (puts (puts (zer 2048) (wds 0 [256 + a, pk.length, 0, 1])) (wds 128 [256 + b, pk.length, 1, 1])), .int .i64 ((256 + a : Nat) : Int), .str pk] (.agg [csl 128 ((memN (256 + a) (256 + b) pk).map ofB), .bool true]) := (s26 (k := 0) (vm e2) (by rw [e2]; omega)).fuel (by omega)
  have hpl : ∀ (n : Nat), wholeN kk → n % kk < kk := fun n _ => Nat.mod_lt _ k0
  have ck : ∀ {X : List UInt8}, X.length = 2048 → chkN X.length 0 kk = 0 := fun h => chk_here hk (by decide) (by omega)
  have c14a : Calls0 (evCall FN (k + 10999)) 14 [.agg [.int .u32 (0 : Nat), .int .u32 kk, .int .u32 (128 : Nat), .int .u32 kk, .int .i64 (0 : Nat), .int .i64 (0 : Nat), .int .i64 (0 : Nat), .int .i64 (0 : Nat)], memV (memN (256 + a) (256 + b) pk), .agg [.bool false, .int .i64 68, .int .u32 (0 : Nat)]] _ := (s14 (k := 0) (tb := 0) (ts := kk) (rb := 128) (rs := kk) (ta := 0) (ra := 0) (st := 0) (dr := 0) (p := 68) (w := 0) (i := false) (vm e3) (by omega) (by omega) (by omega) (fun _ => k0)).fuel (by omega)
  rw [port68 (ck e3) W.tx] at c14a
  have c15a : Calls0 (evCall FN (k + 10999)) 15 [.agg [.int .u32 (0 : Nat), .int .u32 kk, .int .u32 (128 : Nat), .int .u32 kk, .int .i64 (1 % kk : Nat), .int .i64 (0 : Nat), .int .i64 (0 : Nat), .int .i64 (0 : Nat)], memV (memO (memN (256 + a) (256 + b) pk)), .str pk] _ := (s15 (k := 0) (tb := 0) (ts := kk) (rb := 128) (rs := kk) (ta := 1 % kk) (ra := 0) (st := 0) (dr := 0) (pk := pk) (vm W.lo) (by omega) (by omega) (by omega) (by omega) (fun _ => k0)).fuel (by omega)
  have c15b : Calls0 (evCall FN (k + 10999)) 15 [.agg [.int .u32 (0 : Nat), .int .u32 kk, .int .u32 (128 : Nat), .int .u32 kk, .int .i64 (1 % kk : Nat), .int .i64 (1 % kk : Nat), .int .i64 (0 : Nat), .int .i64 (0 : Nat)], memV (memI (memO (memN (256 + a) (256 + b) pk)) (256 + b) pk), .str pk] _ := (s15 (k := 0) (tb := 0) (ts := kk) (rb := 128) (rs := kk) (ta := 1 % kk) (ra := 1 % kk) (st := 0) (dr := 0) (pk := pk) (vm W.li) (by omega) (by omega) (by omega) (by omega) (hpl 1)).fuel (by omega)
  rw [W.rx] at c15a
  rw [W.no] at c15b
  have c14b : Calls0 (evCall FN (k + 10999)) 14 [.agg [.int .u32 (0 : Nat), .int .u32 kk, .int .u32 (128 : Nat), .int .u32 kk, .int .i64 (1 % kk : Nat), .int .i64 (1 % kk : Nat), .int .i64 (0 : Nat), .int .i64 (1 : Nat)], memV (memI (memO (memN (256 + a) (256 + b) pk)) (256 + b) pk), .agg [.bool false, .int .i64 68, .int .u32 (0 : Nat)]] _ := (s14 (k := 0) (tb := 0) (ts := kk) (rb := 128) (rs := kk) (ta := 1 % kk) (ra := 1 % kk) (st := 0) (dr := 1) (p := 68) (w := 0) (i := false) (vm W.li) (by omega) (by omega) (by omega) (hpl 1)).fuel (by omega)
  rw [port68 (ck W.li) W.out] at c14b
  have c27 : Calls0 (evCall FN (k + 10999)) 27 [memV (memI (memO (memN (256 + a) (256 + b) pk)) (256 + b) pk), .int .i64 ((256 + b : Nat) : Int), .int .i64 pk.length] _ := (s27x (k := 0) fn53 fn27 (vm W.li) (by rw [W.li]; omega)).fuel (by omega)
  rw [W.data] at c27
  have c28 : Calls0 (evCall FN (k + 10999)) 28 [memV (memI (memO (memN (256 + a) (256 + b) pk)) (256 + b) pk), .int .i64 132, .int .i64 4] _ := (s28 (k := 0) (a := 132) (vm W.li) (by decide) (by rw [W.li]; decide)).fuel (by omega)
  rw [W.size] at c28
  have ho1 : (outV [pk]).length / 1 = 1 := by simp [outV]
  have ho0 : (outV []).length / 1 = 0 := by simp [outV]
  have gi : inB 0 ((outV [pk]).length / 1) = some 0 := by rw [ho1]; rfl
  have hr : rd (outV [pk]) (0 * 1) 1 false = some (.str pk) := outV_get rfl
  have hq1 := neq_str pk
  have hq2 := eql_str pk
  unfold recvV at c15a c15b
  dsimp only at c14a c15a c15b c14b
  clear W d0 d1 hd e1 e2 e3 vm ck l3
  generalize memI (memO (memN (256 + a) (256 + b) pk)) (256 + b) pk = G at *
  generalize memO (memN (256 + a) (256 + b) pk) = M1 at *
  generalize memN (256 + a) (256 + b) pk = X2 at *
  generalize 1 % kk = o at *
  refine q_call0 fn6 fun T H E lv => ?_
  repeat (first | refine stN ?_ | intro E)
  apply p_mks
  · exact rfl
  · exact rfl
  · exact ⟨by omega, by omega, by rw [room_val]; decide, by omega, rfl, by omega, by rfl⟩
  intro lv1 m1 m2
  rw [zer_pages]
  repeat (first | refine stN ?_ | intro E)
  exact q_ret (.inr rfl) rfl rfl rfl rfl rfl rfl
end Go.Proofs.Ytaeoaakblilfeaa

/- What the arguments of the ring's laws are. No condition. -/
namespace Go.Proofs.Ytaeoaakblilfeaa
open Go.Abs Go.ChangeShapes Go.WideShapes Go.ChangeAt Go.RowKit
theorem eval_of {F : CallF} {f : FuncId} {vs : List AV} {b : Bool} (h : Calls0 F f vs (.bool b)) : ∃ hs', F f vs h0 (fun _ => none) = some (.bool b, hs') := by
  have h1 := evP_of h rfl
  unfold evP at h1
  split at h1
  · next r hs he =>
    split at h1
    · simp only [Option.some.injEq] at h1
      refine ⟨hs, ?_⟩
      rw [he]
      cases r <;> simp only [own, mapLeaf, ownCell] at h1 <;> first
        | (cases h1; rfl)
        | (split at h1 <;> first | cases h1 | (split at h1 <;> cases h1))
        | cases h1
    · cases h1
  · cases h1
def memSh : Sh := .agg [.sl (.arr 128 (.int .u8))]
def ringSh : Sh := .agg [.int .u32, .int .u32]
theorem own0 : ownKnob Try.prog.godebug = none := by kernel_rfl
theorem hasBytes {xs : List AV} (h : Has (.arr 128 (.int .u8)) xs) : ∃ bs : List UInt8, bs.length = 128 ∧ xs = bs.map ofB := by
  obtain ⟨ls, hl, rfl, h2⟩ := h
  have key : ∀ ls : List (List AV), (∀ y ∈ ls, Has (.int .u8) y) → ∃ bs : List UInt8, bs.length = ls.length ∧ ls.flatten = bs.map ofB := by
    intro ls
    induction ls with
    | nil => intro _; exact ⟨[], rfl, rfl⟩
    | cons y ls ih =>
      intro h
      obtain ⟨bs, e1, e2⟩ := ih fun z hz => h z (List.mem_cons_of_mem _ hz)
      obtain ⟨n, rfl, hn⟩ := h y List.mem_cons_self
      refine ⟨UInt8.ofNat n.toNat :: bs, by simp [e1], ?_⟩
      have hb : 0 ≤ n ∧ n < 256 := by
        have h1 : IntKind.u8.min = 0 := rfl
        have h2 : IntKind.u8.max = 255 := rfl
        simp only [Lit.wf, h1, h2, Bool.and_eq_true, decide_eq_true_eq] at hn
        omega
      rw [List.flatten_cons, e2, List.map_cons, ofB_le _ (by omega)]
      simp [Int.toNat_of_nonneg hb.1]
  obtain ⟨bs, e1, e2⟩ := key ls h2
  exact ⟨bs, by omega, e2⟩
theorem hasPages : ∀ ls : List (List AV), (∀ y ∈ ls, Has (.arr 128 (.int .u8)) y) → ∃ bs : List UInt8, bs.length = 128 * ls.length ∧ ls.flatten = bs.map ofB
  | [], _ => ⟨[], rfl, rfl⟩
  | y :: ls, h => by
    obtain ⟨bs, e1, e2⟩ := hasPages ls fun z hz => h z (List.mem_cons_of_mem _ hz)
    obtain ⟨b1, g1, rfl⟩ := hasBytes (h y List.mem_cons_self)
    refine ⟨b1 ++ bs, by rw [List.length_append, List.length_cons]; omega, by rw [List.flatten_cons, e2, List.map_append]⟩
theorem wf_nat {k : IntKind} {n : Int} {m : Nat} (h : (Lit.int k n).wf = true) (h1 : k.min = 0) (h2 : k.max < m) : ∃ j : Nat, n = j ∧ j < m := by
  simp only [Lit.wf, h1, Bool.and_eq_true, decide_eq_true_eq] at h
  exact ⟨n.toNat, by omega, by omega⟩
theorem hasMem {xs : List AV} (h : Has memSh xs) : ∃ (bs : List UInt8) (p : Nat), bs.length = 128 * p ∧ p ≤ maxLen ∧ xs = [csl 128 (bs.map ofB)] := by
  obtain ⟨ys, zs, ⟨ls, rfl, h2, h3⟩, rfl, rfl⟩ := h
  obtain ⟨bs, e1, e2⟩ := hasPages ls h2
  exact ⟨bs, ls.length, e1, h3, by rw [e2]; rfl⟩
theorem hasRing {xs : List AV} (h : Has ringSh xs) : ∃ b s : Nat, b < 4294967296 ∧ s < 4294967296 ∧ xs = [.int .u32 b, .int .u32 s] := by
  obtain ⟨_, _, ⟨n, rfl, hn⟩, ⟨_, _, ⟨m, rfl, hm⟩, rfl, rfl⟩, rfl⟩ := h
  obtain ⟨b, rfl, hb⟩ := wf_nat (m := 4294967296) hn rfl (by decide)
  obtain ⟨s, rfl, hs⟩ := wf_nat (m := 4294967296) hm rfl (by decide)
  exact ⟨b, s, hb, hs, rfl⟩
theorem each4 {s0 s1 s2 s3 : Sh} {xss : List (List AV)} (h : Each [s0, s1, s2, s3] xss) : ∃ x0 x1 x2 x3, xss = [x0, x1, x2, x3] ∧ Has s0 x0 ∧ Has s1 x1 ∧ Has s2 x2 ∧ Has s3 x3 := by
  rcases xss with _ | ⟨x0, _ | ⟨x1, _ | ⟨x2, _ | ⟨x3, _ | ⟨x4, t⟩⟩⟩⟩⟩
  · exact h.elim
  · exact h.2.elim
  · exact h.2.2.elim
  · exact h.2.2.2.elim
  · exact ⟨x0, x1, x2, x3, rfl, h.1, h.2.1, h.2.2.1, h.2.2.2.1⟩
  · exact h.2.2.2.2.elim
theorem hasInt {k : IntKind} {xs : List AV} (h : Has (.int k) xs) : ∃ n, xs = [.int k n] ∧ (Lit.int k n).wf = true := h
theorem table0 : Table Try.prog FN := table_of (fun f p h => by
  unfold prims at h
  split at h
  · rename_i hf
    subst hf
    cases h
    exact gather_sound (table_sound tabl0 _)
  · cases h)
theorem four {α : Type} {ds : List α} {n : Nat} (h : ds.length = n) (hn : n = 4) : ∃ d1 d2 d3 d4, ds = [d1, d2, d3, d4] := by
  subst hn
  rcases ds with _ | ⟨x0, _ | ⟨x1, _ | ⟨x2, _ | ⟨x3, _ | ⟨x4, t⟩⟩⟩⟩⟩ <;> simp at h
  exact ⟨x0, x1, x2, x3, rfl⟩
theorem three {α : Type} {ds : List α} {n : Nat} (h : ds.length = n) (hn : n = 3) : ∃ d1 d2 d3, ds = [d1, d2, d3] := by
  subst hn
  rcases ds with _ | ⟨x0, _ | ⟨x1, _ | ⟨x2, _ | ⟨x3, t⟩⟩⟩⟩ <;> simp at h
  exact ⟨x0, x1, x2, rfl⟩
theorem hasStr {xs : List AV} (h : Has .str xs) : ∃ ys : List UInt8, xs = [.str ys] := by
  obtain ⟨l, rfl, _⟩ := h
  exact ⟨l, rfl⟩
end Go.Proofs.Ytaeoaakblilfeaa
