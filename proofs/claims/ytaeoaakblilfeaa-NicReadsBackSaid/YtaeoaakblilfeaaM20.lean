/- Part 20 of the texts on which proofs about this seat rest: each says what it proves at its own head. No condition. -/
import Derived.Test.YtaeoaakblilfeaaM19
import Derived.ProofKit
import Derived.OpenShut
import Derived.Test.YtaeoaakblilfeaaRows
set_option linter.unusedVariables false
set_option linter.unusedSimpArgs false
/- NicReadsBack: what it answers. Condition: the arguments are such as their types hold. -/
namespace Go.Proofs.Ytaeoaakblilfeaa
open Go.Abs
variable {k : Nat}
theorem eqNi (x : NI) : eqKs [0, 0, 0, 0, 0, 0, 0, 0] (niC x) (niC x) = some true := by
  simp [niC, eqKs, eqK]
theorem niOf_niL (x : NI) : niOf (niL x) = x := rfl
theorem decN_enc {x : NI} (h : NR x) : decN (encL (niL x)) = if nvalidB x = false then (ni0, 3) else (x, 0) := by
  have hg := getL_enc (l := niL x) h.all (by simp [niL]) []
  rw [List.append_nil] at hg
  unfold decN
  rw [hg, if_neg (by simp)]
  unfold decT
  rw [if_neg (by simp [niL]), if_neg, niOf_niL]
  have h1 := h.tb; have h2 := h.ts; have h3 := h.rb; have h4 := h.rs
  have : (List.take 4 (niL x)).all inU = true := by
    simp only [niL, List.take, List.all_cons, List.all_nil, Bool.and_true, Bool.and_eq_true, inU, decide_eq_true_eq]
    omega
  rw [this]; decide
theorem decN_ok {b : List UInt8} (h : (decN b).2 = 0) : encL (niL (decN b).1) = b ∧ NR (decN b).1 := by
  unfold decN at h ⊢
  by_cases he : (getL b).2.2 ≠ 0
  · rw [if_pos he] at h; exact absurd h he
  rw [if_neg he] at h ⊢
  have he : (getL b).2.2 = 0 := by omega
  obtain ⟨o1, o2, o3⟩ := getL_ok (b := b) (l := (getL b).1) (u := (getL b).2.1) (by rw [← he])
  generalize getL b = G at *
  obtain ⟨l, u, e⟩ := G
  dsimp only at *
  unfold decT at h ⊢
  by_cases h1 : u ≠ b.length ∨ l.length ≠ 8
  · rw [if_pos h1] at h; simp at h
  rw [if_neg h1] at h ⊢
  by_cases h2 : (l.take 4).all inU = false
  · rw [if_pos h2] at h; simp at h
  rw [if_neg h2] at h ⊢
  by_cases h3 : nvalidB (niOf l) = false
  · rw [if_pos h3] at h; simp at h
  rw [if_neg h3]
  have hu : u = b.length := by omega
  have h2 : (l.take 4).all inU = true := by simpa using h2
  obtain ⟨a0, a1, a2, a3, a4, a5, a6, a7, rfl⟩ := eight (l := l) (by omega)
  have hall : (([a0, a1, a2, a3] : List Int)).all inU = true := h2
  simp only [List.all_cons, List.all_nil, Bool.and_true, Bool.and_eq_true] at hall
  obtain ⟨q0, q1, q2, q3⟩ := hall
  obtain ⟨t0, rfl, r0⟩ := inU_nat q0
  obtain ⟨t1, rfl, r1⟩ := inU_nat q1
  obtain ⟨t2, rfl, r2⟩ := inU_nat q2
  obtain ⟨t3, rfl, r3⟩ := inU_nat q3
  rw [hu, List.take_length] at o3
  refine ⟨o3.symm, ⟨r0, r1, r2, r3, o2 a4 (by simp), o2 a5 (by simp), o2 a6 (by simp), o2 a7 (by simp)⟩⟩
theorem b2s_ok (b : List UInt8) : csz 1 (b.map ofB) = 1 ∨ (csz 1 (b.map ofB) = 0 ∧ b = []) := by
  cases b with
  | nil => exact .inr ⟨rfl, rfl⟩
  | cons x b => exact .inl rfl
theorem neq_str (b : List UInt8) : evBin .neq (.str b) (.str b) = some (.bool false) := by simp [evBin, evStr]
set_option maxRecDepth 100000 in
set_option maxHeartbeats 8000000 in
theorem s4 {x : NI} {b : List UInt8} (hx : NR x) : Calls0 (evCall FN (k + 100700)) 4 [niV x, csl 1 (b.map ofB)] (.bool true) := by
  have hlen : (b.map ofB).length / 1 = b.length := by simp
  have c9 : Calls0 (evCall FN (k + 100699)) 9 [] (.bool true) := s9.fuel (k := 400) (by omega)
  refine q_call0 fn4 fun T H E lv => ?_
  by_cases h0 : 300 < b.length
  · repeat (first | refine stN ?_ | intro E)
    exact q_ret (.inr rfl) rfl rfl rfl rfl rfl rfl
  have hel : (encL (niL x)).length ≤ 100000 := by
    unfold encL
    have h1 := flat_encI (niL x)
    have h2 := encI_len (niL x).length
    rw [List.length_append]
    simp only [niL, List.length_cons, List.length_nil] at *
    omega
  have c19 : Calls0 (evCall FN (k + 100699)) 19 [csl 1 (b.map ofB)] (.tup [niV (decN b).1, .int .i64 (decN b).2]) := s19 (k := k + 199) (by omega)
  have c20 : Calls0 (evCall FN (k + 100699)) 20 [csl 1 (b.map ofB)] (.agg (niC (decN b).1 ++ [.int .i64 (decN b).2])) := s20 (k := k + 199) (by omega)
  have c12 : Calls0 (evCall FN (k + 100699)) 12 [niV x] (csl 1 ((encL (niL x)).map ofB)) := (s12 (k := 0) hx).fuel (by omega)
  have c19b : Calls0 (evCall FN (k + 100699)) 19 [csl 1 ((encL (niL x)).map ofB)] (.tup [niV (decN (encL (niL x))).1, .int .i64 (decN (encL (niL x))).2]) := s19 (k := k + 199) hel
  have c11 : Calls0 (evCall FN (k + 100699)) 11 [niV x] (.bool (nvalidB x)) := (s11 (k := 0) hx.ts hx.rs).fuel (by omega)
  have hds := decN_enc hx
  have c12b : (decN b).2 = 0 → Calls0 (evCall FN (k + 100699)) 12 [niV (decN b).1] (csl 1 (b.map ofB)) := fun h => by
    obtain ⟨h1, h2⟩ := decN_ok h
    have : Calls0 (evCall FN (k + 100699)) 12 [niV (decN b).1] _ := (s12 (k := 0) (x := (decN b).1) h2).fuel (by omega)
    rwa [h1] at this
  generalize decN (encL (niL x)) = D2 at *
  generalize encL (niL x) = enc at *
  generalize decN b = D at *
  obtain ⟨y, e⟩ := D
  dsimp only at c19 c20 c12b
  have hcsl : ∀ l : List UInt8, csl 1 (l.map ofB) = .sl 1 (csz 1 (l.map ofB)) (l.map ofB) := fun _ => rfl
  have hq := neq_str b
  have key : ∀ V, nvalidB x = V → D2 = (if V = false then (ni0, 3) else (x, 0)) := fun V h => by rw [← h]; exact hds
  clear hds
  cases hV : nvalidB x
  all_goals
    have hds := key _ hV
    rw [hV] at c11
    clear key
    first | rw [if_pos rfl] at hds | rw [if_neg (by decide)] at hds
    subst hds
    dsimp only at c19b
    by_cases he : e = 0
    · have c12b := c12b he
      subst he
      repeat (first | refine stN ?_ | intro E)
      apply p_eqA
      · exact rfl
      · exact rfl
      · exact eqNi y
      repeat (first | refine stN ?_ | intro E)
      apply p_b2s
      · exact rfl
      · exact b2s_ok b
      repeat (first | refine stN ?_ | intro E)
      apply p_b2s
      · exact rfl
      · exact b2s_ok b
      repeat (first | refine stN ?_ | intro E)
      first
        | exact q_ret (.inr rfl) rfl rfl rfl rfl rfl rfl
        | (apply p_eqA
           · exact rfl
           · exact rfl
           · exact eqNi x
           repeat (first | refine stN ?_ | intro E)
           exact q_ret (.inr rfl) rfl rfl rfl rfl rfl rfl)
    · clear c12b
      repeat (first | refine stN ?_ | intro E)
      apply p_eqA
      · exact rfl
      · exact rfl
      · exact eqNi y
      repeat (first | refine stN ?_ | intro E)
      first
        | exact q_ret (.inr rfl) rfl rfl rfl rfl rfl rfl
        | (apply p_eqA
           · exact rfl
           · exact rfl
           · exact eqNi x
           repeat (first | refine stN ?_ | intro E)
           exact q_ret (.inr rfl) rfl rfl rfl rfl rfl rfl)
end Go.Proofs.Ytaeoaakblilfeaa

/- What the arguments of the ring's laws are. No condition. -/
namespace Go.Proofs.Ytaeoaakblilfeaa
open Go.Abs Go.ChangeShapes Go.WideShapes Go.ChangeAt Go.RowKit
theorem eval_of {F : CallF} {f : FuncId} {vs : List AV} {b : Bool} (h : Calls0 F f vs (.bool b)) : ∃ hs', F f vs h0 (fun _ => none) = some (.bool b, hs') := by
  have h1 := evP_of h rfl
  unfold evP at h1
  split at h1
  · next r hs he =>
    split at h1
    · simp only [Option.some.injEq] at h1
      refine ⟨hs, ?_⟩
      rw [he]
      cases r <;> simp only [own, mapLeaf, ownCell] at h1 <;> first
        | (cases h1; rfl)
        | (split at h1 <;> first | cases h1 | (split at h1 <;> cases h1))
        | cases h1
    · cases h1
  · cases h1
def ringSh : Sh := .agg [.int .u32, .int .u32]
theorem own0 : ownKnob Try.prog.godebug = none := by kernel_rfl
theorem wf_nat {k : IntKind} {n : Int} {m : Nat} (h : (Lit.int k n).wf = true) (h1 : k.min = 0) (h2 : k.max < m) : ∃ j : Nat, n = j ∧ j < m := by
  simp only [Lit.wf, h1, Bool.and_eq_true, decide_eq_true_eq] at h
  exact ⟨n.toNat, by omega, by omega⟩
theorem hasRing {xs : List AV} (h : Has ringSh xs) : ∃ b s : Nat, b < 4294967296 ∧ s < 4294967296 ∧ xs = [.int .u32 b, .int .u32 s] := by
  obtain ⟨_, _, ⟨n, rfl, hn⟩, ⟨_, _, ⟨m, rfl, hm⟩, rfl, rfl⟩, rfl⟩ := h
  obtain ⟨b, rfl, hb⟩ := wf_nat (m := 4294967296) hn rfl (by decide)
  obtain ⟨s, rfl, hs⟩ := wf_nat (m := 4294967296) hm rfl (by decide)
  exact ⟨b, s, hb, hs, rfl⟩
theorem table0 : Table Try.prog FN := table_of (fun f p h => by
  unfold prims at h
  split at h
  · rename_i hf
    subst hf
    cases h
    exact gather_sound (table_sound tabl0 _)
  · cases h)
end Go.Proofs.Ytaeoaakblilfeaa
