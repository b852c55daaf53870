/- Part 29 of the texts on which proofs about this seat rest: each says what it proves at its own head. No condition. -/
import Derived.Test.YthplidagfcdibaaM28
import Derived.ProofKit
import Derived.OpenShut
import Derived.Test.YthplidagfcdibaaRows
set_option linter.unusedVariables false
set_option linter.unusedSimpArgs false
/- BlockCodes: what it answers. Condition: the arguments are such as their types hold. -/
namespace Go.Proofs.Ythplidagfcdibaa
open Go.Abs
variable {k : Nat}
theorem BIin.sml {x : BI} (h : BIin x) : Sml x := ⟨h.b, h.s, ⟨by have := h.a; omega, by have := h.a; omega⟩, ⟨by have := h.t; omega, by have := h.t; omega⟩, by have := h.f; omega, by have := h.d; have := h.d1; omega, h.d1, fun r hr => by
    obtain ⟨c1, c2, c3, c4, c5⟩ := h.r r hr
    refine ⟨c1, c2, ⟨by omega, by omega⟩, by omega, fun p hp => ?_⟩
    obtain ⟨d1, d2, d3⟩ := c5 p hp
    exact ⟨⟨by omega, by omega⟩, ⟨by omega, by omega⟩, by omega, by omega⟩⟩
theorem validP_up {L : Nat} {x : BI} (hL : L ≤ 8192) (h : ValidP L x) : ValidP 8192 x := by
  obtain ⟨h1, h2, h3, h4, h5⟩ := h
  refine ⟨h1, h2, h3, h4, fun r hr => ?_⟩
  obtain ⟨⟨c1, c2⟩, ⟨p1, p2⟩, c3⟩ := rightB_iff.1 (h5 r hr)
  refine rightB_t ⟨⟨?_, c2⟩, ⟨fun p hp => ?_, p2⟩, c3⟩
  · unfold chkN at c1 ⊢
    split at c1
    · next hc => rw [if_pos ⟨hc.1, hc.2.1, by omega⟩]
    · omega
  · obtain ⟨q1, q2, q3, q4, q5, q6⟩ := p1 p hp
    exact ⟨q1, q2, q3, q4, q5, by omega⟩
theorem bi0_in : BIin bi0 := ⟨by decide, by decide, by decide, by decide, by decide, by decide, by decide, fun r hr => by cases hr⟩
theorem encB_len {x : BI} (h : Sml x) : (encB x).length ≤ 4570 + x.d.length := by
  have h1 := flat_encI (biI x)
  have h2 := encI_len (biI x).length
  have h3 := biI_len h
  unfold encB encL
  rw [List.length_append, List.length_append]; omega
set_option maxRecDepth 100000 in
set_option maxHeartbeats 4000000 in
theorem s8r {x : BI} {m : List UInt8} {p : Nat} {sl : List (Nat × AV)} {os : List (Nat × List AV)} {T : Nat → AV} {H : Hp} {E : Nat → Option TypeId} {lv : Nat → Bool} (hp : m.length = 128 * p) (hx : Raw x)
    (h1 : HoldsE sl [(3, .ref 0 0), (4, .ref 1 0)]) (h2 : HoldsOE os [(0, biC x), (1, [csl 128 (m.map ofB)])]) :
    Wp (evCall FN (k + 119999)) (k + 119999) (O.q (O.o f8o7) (O.q (O.q (O.o f8o8) (O.k 52 (O.q (O.o f8o9) O.R) O.K)) (O.q (O.o f8o10) (O.q (O.o f8o11) (O.q (O.od f8o12) O.R))))) ⟨slots sl T, objs os H, E, 4, lv, 4⟩ (Ret f8 (.bool true)) := by
  refine q_known (P := fun S => Wp _ _ _ S _) _ _ h1 h2 fun T H E => ?_
  clear h1 h2
  have c11 : Calls0 (evCall FN (k + 119999)) 11 [] (.bool true) := s11.fuel (k := 300) (by omega)
  have c20 : Calls0 (evCall FN (k + 119999)) 20 [biV x, memV m] (.bool (smallB m x)) := s20 (k := k + 119299) hp hx.hb hx.hs hx.hr
  by_cases hS : FewP m x ∧ VM m ∧ ValidP m.length x
  · rw [smallB_t hS] at c20
    obtain ⟨hF, hm, hV⟩ := hS
    have hV := validP_up hm.le.1 hV
    have hi := valid_in hx.hb hx.hs hx.hd hV
    have hd16 : x.d.length / 128 ≤ 16 := by
      have := hF.2.2.1
      unfold secs at this
      rw [List.length_map] at this
      exact this
    have hd1 := hi.d1
    have hl := encB_len hi.sml
    have c30 : Calls0 (evCall FN (k + 119999)) 30 [csl 1 ((encB x).map ofB)] (decV (decB (encB x))) := (s30 (k := 0) (by omega)).fuel (by omega)
    rw [reads_decB.enc x hi, validB_t hV, if_neg (by simp)] at c30
    have c32 : Calls0 (evCall FN (k + 119999)) 32 [biV x] (csl 1 ((encB x).map ofB)) := (s32 (k := 0) hi.sml).fuel (by omega)
    have c33 : Calls0 (evCall FN (k + 119999)) 33 [biV x] (csl 1 ((encB x).map ofB)) := (s33 (k := 0) hi.sml).fuel (by omega)
    have c18 : Calls0 (evCall FN (k + 119999)) 18 [biV x, biV x] (.bool true) := (s18 (k := 0) hi.sml).fuel (by omega)
    clear hF hm hV hi hl hd16 hd1 hp hx
    generalize encB x = Y at *
    have e : evBin .eql (.str Y) (.str Y) = some (.bool true) := by simp [evBin, evStr]
    obtain ⟨b, s, at', st, d, f⟩ := x
    dsimp only [biV, biC, decV] at c20 c30 c32 c33 c18 ⊢
    repeat (first | refine stN ?_ | intro E)
    apply p_b2s
    · exact rfl
    · exact csz_b2s Y
    repeat (first | refine stN ?_ | intro E)
    apply p_b2s
    · exact rfl
    · exact csz_b2s Y
    repeat (first | refine stN ?_ | intro E)
    exact q_ret (.inr rfl) rfl rfl rfl rfl rfl rfl
  · rw [smallB_f hS] at c20
    obtain ⟨b, s, at', st, d, f⟩ := x
    dsimp only [biV, biC] at c20 ⊢
    repeat (first | refine stN ?_ | intro E)
    exact q_ret (.inr rfl) rfl rfl rfl rfl rfl rfl
set_option maxRecDepth 100000 in
set_option maxHeartbeats 4000000 in
theorem s8 {x : BI} {m data : List UInt8} {p : Nat} (hp : m.length = 128 * p) (hx : Raw x) : Calls0 (evCall FN (k + 120000)) 8 [biV x, memV m, csl 1 (data.map ofB)] (.bool true) := by
  have c11 : Calls0 (evCall FN (k + 119999)) 11 [] (.bool true) := s11.fuel (k := 300) (by omega)
  have hdl : (data.map ofB).length / 1 = data.length := by simp
  refine q_call0 fn8 fun T H E lv => ?_
  by_cases hd : data.length ≤ 3000
  · have hrest := fun sl os T H E lv h1 h2 => s8r (k := k) (sl := sl) (os := os) (T := T) (H := H) (E := E) (lv := lv) hp hx h1 h2
    have c30 : Calls0 (evCall FN (k + 119999)) 30 [csl 1 (data.map ofB)] (decV (decB data)) := (s30 (k := 0) (by omega)).fuel (by omega)
    have c31 : Calls0 (evCall FN (k + 119999)) 31 [csl 1 (data.map ofB)] (decVr (decB data)) := by
      rw [decB_eq]
      exact (s31 (k := 0) hd).fuel (by omega)
    obtain ⟨y, e, hy⟩ : ∃ y e, decB data = (y, e) := ⟨_, _, rfl⟩
    have hK : (e = 11 ∧ Sml y) ∨ (e = 0 ∧ Sml y ∧ Calls0 (evCall FN (k + 119999)) 32 [biV y] (csl 1 (data.map ofB))) := by
      by_cases he : (decB data).2 = 0
      · obtain ⟨g1, g2, g3, g4, g5⟩ := reads_decB.ok data he
        rw [hy] at he g1 g2 g3 g4 g5
        have hi := valid_in g2 g3 g4 g5
        refine .inr ⟨he, hi.sml, ?_⟩
        have := (s32 (k := 0) hi.sml).fuel (k' := k + 119999) (by omega)
        rw [g1] at this
        exact this
      · have := reads_decB.bad data he
        rw [hy] at this
        obtain ⟨rfl, rfl⟩ := Prod.mk.inj this
        exact .inl ⟨rfl, bi0_in.sml⟩
    rw [hy] at c30 c31
    clear hy
    obtain ⟨xb, xs, xa, xst, xd, xf⟩ := x
    obtain ⟨yb, ys, ya, yst, yd, yf⟩ := y
    rcases hK with ⟨rfl, hs⟩ | ⟨rfl, hs, c32⟩
    · have c18 : Calls0 (evCall FN (k + 119999)) 18 [biV ⟨yb, ys, ya, yst, yd, yf⟩, biV ⟨yb, ys, ya, yst, yd, yf⟩] (.bool true) := (s18 (k := 0) hs).fuel (by omega)
      clear hs
      dsimp only [biV, biC, decV, decVr, List.cons_append, List.nil_append] at c30 c31 c18 hrest ⊢
      repeat (first | exact hrest _ _ _ _ _ _ ⟨rfl, rfl, trivial⟩ ⟨rfl, rfl, trivial⟩ | (first | refine stN ?_ | intro E))
    · have c18 : Calls0 (evCall FN (k + 119999)) 18 [biV ⟨yb, ys, ya, yst, yd, yf⟩, biV ⟨yb, ys, ya, yst, yd, yf⟩] (.bool true) := (s18 (k := 0) hs).fuel (by omega)
      have e : evBin .neq (.str data) (.str data) = some (.bool false) := by simp [evBin, evStr]
      clear hs
      dsimp only [biV, biC, decV, decVr, List.cons_append, List.nil_append] at c30 c31 c18 c32 hrest ⊢
      repeat (first | refine stN ?_ | intro E)
      apply p_b2s
      · exact rfl
      · exact csz_b2s data
      repeat (first | refine stN ?_ | intro E)
      apply p_b2s
      · exact rfl
      · exact csz_b2s data
      repeat (first | exact hrest _ _ _ _ _ _ ⟨rfl, rfl, trivial⟩ ⟨rfl, rfl, trivial⟩ | (first | refine stN ?_ | intro E))
  · repeat (first | refine stN ?_ | intro E)
    exact q_ret (.inr rfl) rfl rfl rfl rfl rfl rfl
end Go.Proofs.Ythplidagfcdibaa

/- What the arguments of the ring's laws are. No condition. -/
namespace Go.Proofs.Ythplidagfcdibaa
open Go.Abs Go.ChangeShapes Go.WideShapes Go.ChangeAt Go.RowKit
theorem eval_of {F : CallF} {f : FuncId} {vs : List AV} {b : Bool} (h : Calls0 F f vs (.bool b)) : ∃ hs', F f vs h0 (fun _ => none) = some (.bool b, hs') := by
  have h1 := evP_of h rfl
  unfold evP at h1
  split at h1
  · next r hs he =>
    split at h1
    · simp only [Option.some.injEq] at h1
      refine ⟨hs, ?_⟩
      rw [he]
      cases r <;> simp only [own, mapLeaf, ownCell] at h1 <;> first
        | (cases h1; rfl)
        | (split at h1 <;> first | cases h1 | (split at h1 <;> cases h1))
        | cases h1
    · cases h1
  · cases h1
def memSh : Sh := .agg [.sl (.arr 128 (.int .u8))]
def ringSh : Sh := .agg [.int .u32, .int .u32]
theorem own0 : ownKnob Try.prog.godebug = none := by kernel_rfl
theorem hasBytes {xs : List AV} (h : Has (.arr 128 (.int .u8)) xs) : ∃ bs : List UInt8, bs.length = 128 ∧ xs = bs.map ofB := by
  obtain ⟨ls, hl, rfl, h2⟩ := h
  have key : ∀ ls : List (List AV), (∀ y ∈ ls, Has (.int .u8) y) → ∃ bs : List UInt8, bs.length = ls.length ∧ ls.flatten = bs.map ofB := by
    intro ls
    induction ls with
    | nil => intro _; exact ⟨[], rfl, rfl⟩
    | cons y ls ih =>
      intro h
      obtain ⟨bs, e1, e2⟩ := ih fun z hz => h z (List.mem_cons_of_mem _ hz)
      obtain ⟨n, rfl, hn⟩ := h y List.mem_cons_self
      refine ⟨UInt8.ofNat n.toNat :: bs, by simp [e1], ?_⟩
      have hb : 0 ≤ n ∧ n < 256 := by
        have h1 : IntKind.u8.min = 0 := rfl
        have h2 : IntKind.u8.max = 255 := rfl
        simp only [Lit.wf, h1, h2, Bool.and_eq_true, decide_eq_true_eq] at hn
        omega
      rw [List.flatten_cons, e2, List.map_cons, ofB_le _ (by omega)]
      simp [Int.toNat_of_nonneg hb.1]
  obtain ⟨bs, e1, e2⟩ := key ls h2
  exact ⟨bs, by omega, e2⟩
theorem hasPages : ∀ ls : List (List AV), (∀ y ∈ ls, Has (.arr 128 (.int .u8)) y) → ∃ bs : List UInt8, bs.length = 128 * ls.length ∧ ls.flatten = bs.map ofB
  | [], _ => ⟨[], rfl, rfl⟩
  | y :: ls, h => by
    obtain ⟨bs, e1, e2⟩ := hasPages ls fun z hz => h z (List.mem_cons_of_mem _ hz)
    obtain ⟨b1, g1, rfl⟩ := hasBytes (h y List.mem_cons_self)
    refine ⟨b1 ++ bs, by rw [List.length_append, List.length_cons]; omega, by rw [List.flatten_cons, e2, List.map_append]⟩
theorem wf_nat {k : IntKind} {n : Int} {m : Nat} (h : (Lit.int k n).wf = true) (h1 : k.min = 0) (h2 : k.max < m) : ∃ j : Nat, n = j ∧ j < m := by
  simp only [Lit.wf, h1, Bool.and_eq_true, decide_eq_true_eq] at h
  exact ⟨n.toNat, by omega, by omega⟩
theorem hasMem {xs : List AV} (h : Has memSh xs) : ∃ (bs : List UInt8) (p : Nat), bs.length = 128 * p ∧ p ≤ maxLen ∧ xs = [csl 128 (bs.map ofB)] := by
  obtain ⟨ys, zs, ⟨ls, rfl, h2, h3⟩, rfl, rfl⟩ := h
  obtain ⟨bs, e1, e2⟩ := hasPages ls h2
  exact ⟨bs, ls.length, e1, h3, by rw [e2]; rfl⟩
theorem hasRing {xs : List AV} (h : Has ringSh xs) : ∃ b s : Nat, b < 4294967296 ∧ s < 4294967296 ∧ xs = [.int .u32 b, .int .u32 s] := by
  obtain ⟨_, _, ⟨n, rfl, hn⟩, ⟨_, _, ⟨m, rfl, hm⟩, rfl, rfl⟩, rfl⟩ := h
  obtain ⟨b, rfl, hb⟩ := wf_nat (m := 4294967296) hn rfl (by decide)
  obtain ⟨s, rfl, hs⟩ := wf_nat (m := 4294967296) hm rfl (by decide)
  exact ⟨b, s, hb, hs, rfl⟩
theorem table0 : Table Try.prog FN := table_of (fun f p h => by
  unfold prims at h
  split at h
  · rename_i hf
    subst hf
    cases h
    exact gather_sound (table_sound tabl0 _)
  · cases h)
theorem three {α : Type} {ds : List α} {n : Nat} (h : ds.length = n) (hn : n = 3) : ∃ d1 d2 d3, ds = [d1, d2, d3] := by
  subst hn
  rcases ds with _ | ⟨x0, _ | ⟨x1, _ | ⟨x2, _ | ⟨x3, t⟩⟩⟩⟩ <;> simp at h
  exact ⟨x0, x1, x2, rfl⟩
theorem each3 {s0 s1 s2 : Sh} {xss : List (List AV)} (h : Each [s0, s1, s2] xss) : ∃ x0 x1 x2, xss = [x0, x1, x2] ∧ Has s0 x0 ∧ Has s1 x1 ∧ Has s2 x2 := by
  rcases xss with _ | ⟨x0, _ | ⟨x1, _ | ⟨x2, _ | ⟨x3, t⟩⟩⟩⟩
  · exact h.elim
  · exact h.2.elim
  · exact h.2.2.elim
  · exact ⟨x0, x1, x2, rfl, h.1, h.2.1, h.2.2.1⟩
  · exact h.2.2.2.elim
end Go.Proofs.Ythplidagfcdibaa

/- What the arguments of the block's laws are. No condition. -/
namespace Go.Proofs.Ythplidagfcdibaa
open Go.Abs Go.ChangeShapes Go.WideShapes Go.ChangeAt Go.RowKit
def partSh : Sh := .agg [.int .i64, .int .i64, .int .i64, .bool]
def reqSh : Sh := .agg [.agg [.int .u32, .int .u32], .int .i64, .bool, .sl partSh]
def blkSh : Sh := .agg [.agg [.int .u32, .int .u32], .int .i64, .int .i64, .sl (.arr 128 (.int .u8)), .sl reqSh]
theorem hasPart {xs : List AV} (h : Has partSh xs) : ∃ p : PI, xs = piV p := by
  obtain ⟨_, _, ⟨i, rfl, _⟩, ⟨_, _, ⟨a, rfl, _⟩, ⟨_, _, ⟨n, rfl, _⟩, ⟨_, _, ⟨w, rfl⟩, rfl, rfl⟩, rfl⟩, rfl⟩, rfl⟩ := h
  exact ⟨⟨i, a, n, w⟩, rfl⟩
theorem hasParts : ∀ ls : List (List AV), (∀ y ∈ ls, Has partSh y) → ∃ l : List PI, ls.flatten = pisV l
  | [], _ => ⟨[], rfl⟩
  | y :: ls, h => by
    obtain ⟨l, e⟩ := hasParts ls fun z hz => h z (List.mem_cons_of_mem _ hz)
    obtain ⟨p, rfl⟩ := hasPart (h y List.mem_cons_self)
    exact ⟨p :: l, by rw [List.flatten_cons, e]; rfl⟩
theorem hasReq {xs : List AV} (h : Has reqSh xs) : ∃ r : RI, xs = riV r ∧ r.b < 4294967296 ∧ r.s < 4294967296 := by
  obtain ⟨_, _, hr, ⟨_, _, ⟨q, rfl, _⟩, ⟨_, _, ⟨w, rfl⟩, ⟨_, _, ⟨ls, rfl, h2, _⟩, rfl, rfl⟩, rfl⟩, rfl⟩, rfl⟩ := h
  obtain ⟨b, s, hb, hs, rfl⟩ := hasRing hr
  obtain ⟨l, e⟩ := hasParts ls h2
  exact ⟨⟨b, s, q, w, l⟩, by rw [e]; rfl, hb, hs⟩
theorem hasReqs : ∀ ls : List (List AV), (∀ y ∈ ls, Has reqSh y) → ∃ l : List RI, ls.flatten = risV l ∧ ∀ r ∈ l, r.b < 4294967296 ∧ r.s < 4294967296
  | [], _ => ⟨[], rfl, fun r hr => by cases hr⟩
  | y :: ls, h => by
    obtain ⟨l, e, h1⟩ := hasReqs ls fun z hz => h z (List.mem_cons_of_mem _ hz)
    obtain ⟨p, rfl, h2⟩ := hasReq (h y List.mem_cons_self)
    refine ⟨p :: l, by rw [List.flatten_cons, e]; rfl, fun r hr => ?_⟩
    rcases List.mem_cons.1 hr with rfl | hr
    · exact h2
    · exact h1 r hr
theorem hasBlk {xs : List AV} (h : Has blkSh xs) : ∃ x : BI, xs = biC x ∧ Raw x := by
  obtain ⟨_, _, hr, ⟨_, _, ⟨a, rfl, _⟩, ⟨_, _, ⟨st, rfl, _⟩, ⟨_, _, ⟨ls, rfl, h2, _⟩, ⟨_, _, ⟨lr, rfl, h4, _⟩, rfl, rfl⟩, rfl⟩, rfl⟩, rfl⟩, rfl⟩ := h
  obtain ⟨b, s, hb, hs, rfl⟩ := hasRing hr
  obtain ⟨d, hd, e⟩ := hasPages ls h2
  obtain ⟨f, e2, hf⟩ := hasReqs lr h4
  refine ⟨⟨b, s, a, st, d, f⟩, by rw [e, e2]; rfl, hb, hs, ?_, hf⟩
  show d.length % 128 = 0
  omega
end Go.Proofs.Ythplidagfcdibaa
