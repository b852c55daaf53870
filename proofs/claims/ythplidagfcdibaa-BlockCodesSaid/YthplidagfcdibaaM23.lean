/- Part 23 of the texts on which proofs about this seat rest: each says what it proves at its own head. No condition. -/
import Derived.Test.YthplidagfcdibaaM22
set_option linter.unusedVariables false
set_option linter.unusedSimpArgs false
/- What a port and a completion do, for a device that is right. Condition: the memory is valid, the device is right. -/
namespace Go.Proofs.Ythplidagfcdibaa
open Go.Abs
variable {k : Nat}
end Go.Proofs.Ythplidagfcdibaa

/- BlockPortsAsSpecified, BlockNotifiesAsSpecified: what they answer. Condition: the arguments are such as their types hold. -/
namespace Go.Proofs.Ythplidagfcdibaa
open Go.Abs
variable {k : Nat}
structure Raw (x : BI) : Prop where
  hb : x.b < 4294967296
  hs : x.s < 4294967296
  hd : x.d.length % 128 = 0
  hr : ∀ r ∈ x.f, r.b < 4294967296 ∧ r.s < 4294967296
end Go.Proofs.Ythplidagfcdibaa

/- BlockNotifiesAsSpecified: what it answers. Condition: the arguments are such as their types hold. -/
namespace Go.Proofs.Ythplidagfcdibaa
open Go.Abs
variable {k : Nat}
end Go.Proofs.Ythplidagfcdibaa

/- Two requests that are apart, as a law asks it. Condition: the numbers of the requests are natural ones. -/
namespace Go.Proofs.Ythplidagfcdibaa
open Go.Abs
variable {k : Nat}
end Go.Proofs.Ythplidagfcdibaa

/- Two requests that are apart are completed in either order. Condition: the memory is valid, the requests are right. -/
namespace Go.Proofs.Ythplidagfcdibaa
open Go.Abs
end Go.Proofs.Ythplidagfcdibaa

/- Words that are put into a memory. Condition: the memory is valid, the places are there. -/
namespace Go.Proofs.Ythplidagfcdibaa
open Go.Abs
variable {k : Nat}
end Go.Proofs.Ythplidagfcdibaa

/- A notification of a ring with two requests, one that writes a sector and one that reads it. No condition but what is said. -/
namespace Go.Proofs.Ythplidagfcdibaa
open Go.Abs
end Go.Proofs.Ythplidagfcdibaa

/- BlockReadsWhatWasWritten: what it answers. Condition: the arguments are such as their types hold. -/
namespace Go.Proofs.Ythplidagfcdibaa
open Go.Abs
variable {k : Nat}
end Go.Proofs.Ythplidagfcdibaa

/- Numbers that are read one after the other, as block.Decode does it; what it answers. No program. -/
namespace Go.Proofs.Ythplidagfcdibaa
open Go.Abs
abbrev Rdr := List Int × Bool
def nx (m : Int) : Rdr → Int × Rdr
  | ([], _) => (0, [], true)
  | (a :: t, b) => if a < 0 ∨ m < a then (0, a :: t, true) else (a, t, b)
theorem nx_ok {m : Int} {r : Rdr} (h : (nx m r).2.2 = false) : r.2 = false ∧ r.1 = (nx m r).1 :: (nx m r).2.1 ∧ 0 ≤ (nx m r).1 ∧ (nx m r).1 ≤ m := by
  obtain ⟨l, b⟩ := r
  cases l with
  | nil => simp [nx] at h
  | cons a t =>
    simp only [nx] at h ⊢
    by_cases hc : a < 0 ∨ m < a
    · rw [if_pos hc] at h; simp at h
    · rw [if_neg hc] at h ⊢; exact ⟨h, rfl, by dsimp only; omega, by dsimp only; omega⟩
theorem nx_enc {m a : Int} {t : List Int} (h : 0 ≤ a ∧ a ≤ m) : nx m (a :: t, false) = (a, t, false) := by
  simp only [nx]; rw [if_neg (by omega)]
theorem one_dec {w : Int} (h0 : 0 ≤ w) (h1 : w ≤ 1) : one (w == 1) = w := by
  unfold one
  by_cases h : w = 1
  · simp [h]
  · simp [h]; omega
theorem one_le (w : Bool) : 0 ≤ one w ∧ one w ≤ 1 := by cases w <;> exact ⟨by decide, by decide⟩
theorem dec_one (w : Bool) : (one w == 1) = w := by cases w <;> rfl
def rRing (r : Rdr) : (Nat × Nat) × Rdr :=
  let x := nx 4294967295 r
  let y := nx 4294967295 x.2
  ((x.1.toNat, y.1.toNat), y.2)
def rPart (r : Rdr) : PI × Rdr :=
  let i := nx 8 r
  let a := nx 8192 i.2
  let n := nx 512 a.2
  let w := nx 1 n.2
  (⟨i.1, a.1, n.1, w.1 == 1⟩, w.2)
def rParts : Nat → Rdr → List PI × Rdr
  | 0, r => ([], r)
  | n + 1, r => ((rParts n r).1 ++ [(rPart (rParts n r).2).1], (rPart (rParts n r).2).2)
def rReq (r : Rdr) : RI × Rdr :=
  let g := rRing r
  let s := nx 64 g.2
  let w := nx 1 s.2
  let c := nx 4 w.2
  let p := rParts c.1.toNat c.2
  (⟨g.1.1, g.1.2, s.1, w.1 == 1, p.1⟩, p.2)
def rReqs : Nat → Rdr → List RI × Rdr
  | 0, r => ([], r)
  | n + 1, r => ((rReqs n r).1 ++ [(rReq (rReqs n r).2).1], (rReq (rReqs n r).2).2)
def rDev (l : List Int) : BI × Int × Rdr :=
  let g := rRing (l, false)
  let a := nx 8 g.2
  let t := nx 165 a.2
  let s := nx 64 t.2
  let f := nx 8 s.2
  let q := rReqs f.1.toNat f.2
  (⟨g.1.1, g.1.2, a.1, t.1, [], q.1⟩, s.1, q.2)
theorem rRing_ok {r : Rdr} (h : (rRing r).2.2 = false) : r.2 = false ∧ r.1 = [((rRing r).1.1 : Int), ((rRing r).1.2 : Int)] ++ (rRing r).2.1 ∧ (rRing r).1.1 < 4294967296 ∧ (rRing r).1.2 < 4294967296 := by
  unfold rRing at h ⊢
  dsimp only at h ⊢
  obtain ⟨h2, e2, l2, u2⟩ := nx_ok h
  obtain ⟨h1, e1, l1, u1⟩ := nx_ok h2
  refine ⟨h1, ?_, by omega, by omega⟩
  rw [e1, e2, Int.toNat_of_nonneg l1, Int.toNat_of_nonneg l2]; rfl
theorem rPart_ok {r : Rdr} (h : (rPart r).2.2 = false) : r.2 = false ∧ r.1 = piI (rPart r).1 ++ (rPart r).2.1 := by
  unfold rPart at h ⊢
  dsimp only at h ⊢
  obtain ⟨h4, e4, l4, u4⟩ := nx_ok h
  obtain ⟨h3, e3, l3, u3⟩ := nx_ok h4
  obtain ⟨h2, e2, l2, u2⟩ := nx_ok h3
  obtain ⟨h1, e1, l1, u1⟩ := nx_ok h2
  refine ⟨h1, ?_⟩
  rw [e1, e2, e3, e4]
  simp only [piI, one_dec l4 u4]; rfl
theorem rParts_ok {r : Rdr} : ∀ (n : Nat), (rParts n r).2.2 = false → r.2 = false ∧ r.1 = (rParts n r).1.flatMap piI ++ (rParts n r).2.1 ∧ (rParts n r).1.length = n
  | 0, h => ⟨h, rfl, rfl⟩
  | n + 1, h => by
    obtain ⟨h1, e1⟩ := rPart_ok (r := (rParts n r).2) h
    obtain ⟨h2, e2, l2⟩ := rParts_ok n h1
    refine ⟨h2, ?_, by simp [rParts, l2]⟩
    rw [e2, e1]
    simp [rParts, List.flatMap_append]
theorem rReq_ok {r : Rdr} (h : (rReq r).2.2 = false) : r.2 = false ∧ r.1 = riI (rReq r).1 ++ (rReq r).2.1 ∧ (rReq r).1.b < 4294967296 ∧ (rReq r).1.s < 4294967296 := by
  unfold rReq at h ⊢
  dsimp only at h ⊢
  obtain ⟨h5, e5, n5⟩ := rParts_ok _ h
  obtain ⟨h4, e4, l4, u4⟩ := nx_ok h5
  obtain ⟨h3, e3, l3, u3⟩ := nx_ok h4
  obtain ⟨h2, e2, l2, u2⟩ := nx_ok h3
  obtain ⟨h1, e1, b1, b2⟩ := rRing_ok h2
  refine ⟨h1, ?_, b1, b2⟩
  rw [e1, e2, e3, e4, e5]
  simp only [riI, one_dec l3 u3, n5, Int.toNat_of_nonneg l4]
  simp
theorem rReqs_ok {r : Rdr} : ∀ (n : Nat), (rReqs n r).2.2 = false → r.2 = false ∧ r.1 = (rReqs n r).1.flatMap riI ++ (rReqs n r).2.1 ∧ (rReqs n r).1.length = n ∧ ∀ q ∈ (rReqs n r).1, q.b < 4294967296 ∧ q.s < 4294967296
  | 0, h => ⟨h, rfl, rfl, by simp [rReqs]⟩
  | n + 1, h => by
    obtain ⟨h1, e1, b1, b2⟩ := rReq_ok (r := (rReqs n r).2) h
    obtain ⟨h2, e2, l2, a2⟩ := rReqs_ok n h1
    refine ⟨h2, ?_, by simp [rReqs, l2], fun q hq => ?_⟩
    · rw [e2, e1]
      simp [rReqs, List.flatMap_append]
    · simp only [rReqs, List.mem_append, List.mem_singleton] at hq
      rcases hq with hq | rfl
      · exact a2 q hq
      · exact ⟨b1, b2⟩
theorem nxe {m a : Int} {t : List Int} (h0 : 0 ≤ a) (h1 : a ≤ m) : nx m (a :: t, false) = (a, t, false) := nx_enc ⟨h0, h1⟩
theorem rRing_enc {b s : Nat} {t : List Int} (hb : b < 4294967296) (hs : s < 4294967296) : rRing ((b : Int) :: (s : Int) :: t, false) = ((b, s), t, false) := by
  unfold rRing
  rw [nxe (by omega) (by omega)]; dsimp only
  rw [nxe (by omega) (by omega)]; rfl
def PIin (p : PI) : Prop := (0 ≤ p.i ∧ p.i ≤ 8) ∧ (0 ≤ p.a ∧ p.a ≤ 8192) ∧ 0 ≤ p.n ∧ p.n ≤ 512
theorem rPart_enc {p : PI} {t : List Int} (h : PIin p) : rPart (piI p ++ t, false) = (p, t, false) := by
  obtain ⟨⟨a1, a2⟩, ⟨b1, b2⟩, c1, c2⟩ := h
  obtain ⟨i, a, n, w⟩ := p
  unfold rPart piI
  simp only [List.cons_append, List.nil_append]
  rw [nxe a1 a2]; dsimp only
  rw [nxe b1 b2]; dsimp only
  rw [nxe c1 c2]; dsimp only
  rw [nxe (one_le w).1 (one_le w).2]; dsimp only
  rw [dec_one]
theorem drop_cons' {α : Type} {l : List α} {n : Nat} (h : n < l.length) : l.drop n = l[n] :: l.drop (n + 1) := (List.getElem_cons_drop ..).symm
theorem take_snoc' {α : Type} {l : List α} {n : Nat} (h : n < l.length) : l.take (n + 1) = l.take n ++ [l[n]] := by rw [List.take_add_one, List.getElem?_eq_getElem h]; rfl
theorem rParts_enc {l : List PI} {t : List Int} (h : ∀ p ∈ l, PIin p) : ∀ n, n ≤ l.length → rParts n (l.flatMap piI ++ t, false) = (l.take n, (l.drop n).flatMap piI ++ t, false)
  | 0, _ => rfl
  | n + 1, hn => by
    have hn' : n < l.length := by omega
    unfold rParts
    rw [rParts_enc h n (by omega), drop_cons' hn', take_snoc' hn']
    dsimp only
    rw [List.flatMap_cons, List.append_assoc, rPart_enc (h _ (List.getElem_mem hn'))]
def RIin (r : RI) : Prop := r.b < 4294967296 ∧ r.s < 4294967296 ∧ (0 ≤ r.q ∧ r.q ≤ 64) ∧ r.l.length ≤ 4 ∧ ∀ p ∈ r.l, PIin p
theorem rReq_enc {r : RI} {t : List Int} (h : RIin r) : rReq (riI r ++ t, false) = (r, t, false) := by
  obtain ⟨h1, h2, ⟨h3, h4⟩, h5, h6⟩ := h
  obtain ⟨b, s, q, w, l⟩ := r
  dsimp only at h1 h2 h3 h4 h5 h6
  unfold rReq riI
  simp only [List.cons_append, List.nil_append]
  rw [rRing_enc h1 h2]; dsimp only
  rw [nxe h3 h4]; dsimp only
  rw [nxe (one_le w).1 (one_le w).2]; dsimp only
  rw [nxe (by omega) (by omega)]; dsimp only
  rw [show ((l.length : Nat) : Int).toNat = l.length from rfl, rParts_enc h6 _ (Nat.le_refl _), dec_one]
  simp
theorem rReqs_enc {l : List RI} {t : List Int} (h : ∀ p ∈ l, RIin p) : ∀ n, n ≤ l.length → rReqs n (l.flatMap riI ++ t, false) = (l.take n, (l.drop n).flatMap riI ++ t, false)
  | 0, _ => rfl
  | n + 1, hn => by
    have hn' : n < l.length := by omega
    unfold rReqs
    rw [rReqs_enc h n (by omega), drop_cons' hn', take_snoc' hn']
    dsimp only
    rw [List.flatMap_cons, List.append_assoc, rReq_enc (h _ (List.getElem_mem hn'))]
def bi0 : BI := ⟨0, 0, 0, 0, [], []⟩
noncomputable def decB (b : List UInt8) : BI × Nat :=
  if (getL b).2.2 ≠ 0 then (bi0, 11)
  else if (rDev (getL b).1).2.2.2 = true ∨ (rDev (getL b).1).2.2.1 ≠ [] ∨ (b.length : Int) ≠ (getL b).2.1 + (rDev (getL b).1).2.1 * 128 then (bi0, 11)
  else if validB 8192 { (rDev (getL b).1).1 with d := b.drop (getL b).2.1 } = false then (bi0, 11)
  else ({ (rDev (getL b).1).1 with d := b.drop (getL b).2.1 }, 0)
structure BIin (x : BI) : Prop where
  b : x.b < 4294967296
  s : x.s < 4294967296
  a : 0 ≤ x.at' ∧ x.at' ≤ 8
  t : 0 ≤ x.st ∧ x.st ≤ 165
  d : x.d.length / 128 ≤ 64
  d1 : x.d.length % 128 = 0
  f : x.f.length ≤ 8
  r : ∀ r ∈ x.f, RIin r
theorem rDev_enc {x : BI} (h : BIin x) : rDev (biI x) = ({ x with d := [] }, ((x.d.length / 128 : Nat) : Int), [], false) := by
  obtain ⟨b, s, at', st, d, f⟩ := x
  obtain ⟨h1, h2, ⟨a1, a2⟩, ⟨t1, t2⟩, hd, hd1, hf, hr⟩ := h
  dsimp only at h1 h2 a1 a2 t1 t2 hd hd1 hf hr
  have e : biI ⟨b, s, at', st, d, f⟩ = (b : Int) :: (s : Int) :: at' :: st :: ((d.length / 128 : Nat) : Int) :: (f.length : Int) :: (f.flatMap riI ++ []) := by simp [biI]
  rw [e]
  unfold rDev
  rw [rRing_enc h1 h2]; dsimp only
  rw [nxe a1 a2]; dsimp only
  rw [nxe t1 t2]; dsimp only
  rw [nxe (by omega) (by omega)]; dsimp only
  rw [nxe (by omega) (by omega)]; dsimp only
  rw [show ((f.length : Nat) : Int).toNat = f.length from rfl, rReqs_enc hr _ (Nat.le_refl _)]
  simp
theorem rDev_ok {l : List Int} {d : List UInt8} (h : (rDev l).2.2.2 = false) (h2 : (rDev l).2.2.1 = []) (hd : ((d.length / 128 : Nat) : Int) = (rDev l).2.1) : l = biI { (rDev l).1 with d := d } ∧ (rDev l).1.b < 4294967296 ∧ (rDev l).1.s < 4294967296 ∧ (∀ r ∈ (rDev l).1.f, r.b < 4294967296 ∧ r.s < 4294967296) ∧ 0 ≤ (rDev l).2.1 ∧ (rDev l).2.1 ≤ 64 ∧ (rDev l).1.f.length ≤ 8 := by
  unfold rDev at h h2 hd ⊢
  dsimp only at h h2 hd ⊢
  obtain ⟨k6, e6, n6, a6⟩ := rReqs_ok _ h
  obtain ⟨k5, e5, l5, u5⟩ := nx_ok k6
  obtain ⟨k4, e4, l4, u4⟩ := nx_ok k5
  obtain ⟨k3, e3, l3, u3⟩ := nx_ok k4
  obtain ⟨k2, e2, l2, u2⟩ := nx_ok k3
  obtain ⟨k1, e1, b1, b2⟩ := rRing_ok k2
  refine ⟨?_, b1, b2, a6, l4, u4, by omega⟩
  dsimp only at e1
  rw [h2, List.append_nil] at e6
  have e : l = [((rRing (l, false)).1.1 : Int), ((rRing (l, false)).1.2 : Int)] ++ (rRing (l, false)).2.1 := e1
  rw [e2, e3, e4, e5, e6] at e
  simp only [biI, hd, n6, Int.toNat_of_nonneg l5]
  exact e
end Go.Proofs.Ythplidagfcdibaa

/- The device that the reference reads; it is what the program reads. No program. -/
namespace Go.Proofs.Ythplidagfcdibaa
open Go.Abs
def rrPs : Nat → List Int → Option (List PI × List Int)
  | 0, l => some ([], l)
  | n + 1, l => match rrPs n l with
    | some (ps, i :: a :: m :: w :: t) => if 1 < w then none else some (ps ++ [⟨i, a, m, w == 1⟩], t)
    | _ => none
def rrQ : List Int → Option (RI × List Int)
  | b :: s :: q :: w :: c :: t => if 1 < w ∨ (t.length : Int) < 4 * c then none else match rrPs c.toNat t with
    | some (ps, u) => some (⟨b.toNat, s.toNat, q, w == 1, ps⟩, u)
    | none => none
  | _ => none
def rrQs : Nat → List Int → Option (List RI × List Int)
  | 0, l => some ([], l)
  | n + 1, l => match rrQs n l with
    | some (qs, u) => match rrQ u with
      | some (q, v) => some (qs ++ [q], v)
      | none => none
    | none => none
def u32B (n : Int) : Bool := decide (0 ≤ n ∧ n ≤ 4294967295)
def rrB : List Int → Option (BI × Int)
  | b :: s :: a :: t :: d :: f :: r => if (b :: s :: a :: t :: d :: f :: r).all u32B = true then match rrQs f.toNat r with
      | some (qs, []) => some (⟨b.toNat, s.toNat, a, t, [], qs⟩, d)
      | _ => none
    else none
  | _ => none
noncomputable def decR (b : List UInt8) : BI × Nat :=
  if (getL b).2.2 ≠ 0 then (bi0, 11) else match rrB (getL b).1 with
    | none => (bi0, 11)
    | some (x, d) => if 64 < d ∨ (b.length : Int) ≠ (getL b).2.1 + 128 * d then (bi0, 11)
      else if validB 8192 { x with d := b.drop (getL b).2.1 } = false then (bi0, 11)
      else ({ x with d := b.drop (getL b).2.1 }, 0)
theorem u32B_iff {n : Int} : u32B n = true ↔ 0 ≤ n ∧ n ≤ 4294967295 := by unfold u32B; exact decide_eq_true_iff
def U32s (l : List Int) : Prop := ∀ n ∈ l, 0 ≤ n ∧ n ≤ 4294967295
theorem rrPs_ok : ∀ {n : Nat} {l u : List Int} {ps : List PI}, U32s l → rrPs n l = some (ps, u) → l = ps.flatMap piI ++ u ∧ ps.length = n
  | 0, l, u, ps, _, h => by
    simp only [rrPs, Option.some.injEq, Prod.mk.injEq] at h
    obtain ⟨rfl, rfl⟩ := h
    exact ⟨rfl, rfl⟩
  | n + 1, l, u, ps, hl, h => by
    simp only [rrPs] at h
    split at h
    · rename_i qs i a m w t hq
      obtain ⟨e1, l1⟩ := rrPs_ok hl hq
      split at h
      · cases h
      · rename_i hw
        simp only [Option.some.injEq, Prod.mk.injEq] at h
        obtain ⟨rfl, rfl⟩ := h
        have w0 := (hl w (by rw [e1]; simp)).1
        refine ⟨?_, by simp [l1]⟩
        rw [e1, List.flatMap_append]
        simp only [List.flatMap_cons, List.flatMap_nil, piI, one_dec w0 (Int.not_lt.1 hw)]
        simp
    · cases h
theorem rrQ_ok {l u : List Int} {q : RI} (hl : U32s l) (h : rrQ l = some (q, u)) : l = riI q ++ u ∧ q.b < 4294967296 ∧ q.s < 4294967296 := by
  unfold rrQ at h
  split at h
  · rename_i b s q w c t
    split at h
    · cases h
    · rename_i hc
      split at h
      · rename_i ps v hp
        simp only [Option.some.injEq, Prod.mk.injEq] at h
        obtain ⟨rfl, rfl⟩ := h
        obtain ⟨e1, l1⟩ := rrPs_ok (fun n hn => hl n (by simp [hn])) hp
        have b0 := hl b (by simp)
        have s0 := hl s (by simp)
        have w0 := hl w (by simp)
        have c0 := hl c (by simp)
        refine ⟨?_, by dsimp only; omega, by dsimp only; omega⟩
        rw [e1]
        simp only [riI, one_dec w0.1 (by omega), l1, Int.toNat_of_nonneg b0.1, Int.toNat_of_nonneg s0.1, Int.toNat_of_nonneg c0.1]
        simp
      · cases h
  · cases h
theorem rrQs_ok : ∀ {n : Nat} {l u : List Int} {qs : List RI}, U32s l → rrQs n l = some (qs, u) → l = qs.flatMap riI ++ u ∧ qs.length = n ∧ ∀ q ∈ qs, q.b < 4294967296 ∧ q.s < 4294967296
  | 0, l, u, ps, _, h => by
    simp only [rrQs, Option.some.injEq, Prod.mk.injEq] at h
    obtain ⟨rfl, rfl⟩ := h
    exact ⟨rfl, rfl, by simp⟩
  | n + 1, l, u, ps, hl, h => by
    simp only [rrQs] at h
    split at h
    · rename_i qs v hq
      obtain ⟨e1, l1, a1⟩ := rrQs_ok hl hq
      split at h
      · rename_i q v' hr
        simp only [Option.some.injEq, Prod.mk.injEq] at h
        obtain ⟨rfl, rfl⟩ := h
        obtain ⟨e2, b2⟩ := rrQ_ok (fun n hn => hl n (by rw [e1]; simp [hn])) hr
        refine ⟨?_, by simp [l1], fun x hx => ?_⟩
        · rw [e1, e2, List.flatMap_append]; simp
        · rcases List.mem_append.1 hx with hx | hx
          · exact a1 x hx
          · rw [List.mem_singleton.1 hx]; exact b2
      · cases h
    · cases h
theorem rrB_ok {l : List Int} {x : BI} {n : Int} {d : List UInt8} (h : rrB l = some (x, n)) (hd : ((d.length / 128 : Nat) : Int) = n) : l = biI { x with d := d } ∧ x.b < 4294967296 ∧ x.s < 4294967296 := by
  unfold rrB at h
  split at h
  · rename_i b s a t k f r
    split at h
    · rename_i hall
      have hl : U32s (b :: s :: a :: t :: k :: f :: r) := fun n hn => u32B_iff.1 (List.all_eq_true.1 hall n hn)
      split at h
      · rename_i qs hq
        simp only [Option.some.injEq, Prod.mk.injEq] at h
        obtain ⟨rfl, rfl⟩ := h
        obtain ⟨e1, l1, a1⟩ := rrQs_ok (fun n hn => hl n (by simp [hn])) hq
        have b0 := hl b (by simp)
        have s0 := hl s (by simp)
        have f0 := hl f (by simp)
        refine ⟨?_, by dsimp only; omega, by dsimp only; omega⟩
        rw [e1]
        simp only [biI, hd, l1, Int.toNat_of_nonneg b0.1, Int.toNat_of_nonneg s0.1, Int.toNat_of_nonneg f0.1]
        simp
      · cases h
    · cases h
  · cases h
theorem rrPs_enc {l : List PI} {t : List Int} : ∀ n, n ≤ l.length → rrPs n (l.flatMap piI ++ t) = some (l.take n, (l.drop n).flatMap piI ++ t)
  | 0, _ => rfl
  | n + 1, hn => by
    have hn' : n < l.length := by omega
    simp only [rrPs]
    rw [rrPs_enc n (by omega), drop_cons' hn', take_snoc' hn', List.flatMap_cons]
    simp only [piI, List.cons_append, List.nil_append, dec_one]
    rw [if_neg (by have := (one_le (l[n]'hn').w).2; omega)]
theorem rrQ_enc {r : RI} {t : List Int} : rrQ (riI r ++ t) = some (r, t) := by
  obtain ⟨b, s, q, w, l⟩ := r
  simp only [riI, List.cons_append, List.nil_append, rrQ]
  have h4 : ((l.flatMap piI ++ t).length : Int) = 4 * l.length + t.length := by rw [List.length_append, len_piI]; omega
  rw [if_neg (by have := (one_le w).2; omega)]
  rw [show ((l.length : Nat) : Int).toNat = l.length from rfl, rrPs_enc _ (Nat.le_refl _)]
  simp [dec_one]
theorem rrQs_enc {l : List RI} {t : List Int} : ∀ n, n ≤ l.length → rrQs n (l.flatMap riI ++ t) = some (l.take n, (l.drop n).flatMap riI ++ t)
  | 0, _ => rfl
  | n + 1, hn => by
    have hn' : n < l.length := by omega
    simp only [rrQs]
    rw [rrQs_enc n (by omega), drop_cons' hn', take_snoc' hn', List.flatMap_cons]
    dsimp only
    rw [List.append_assoc, rrQ_enc]
theorem u32s_piI {p : PI} (h : PIin p) : U32s (piI p) := by
  obtain ⟨h1, h2, h3⟩ := h
  intro n hn
  have := one_le p.w
  simp only [piI, List.mem_cons, List.not_mem_nil, or_false] at hn
  rcases hn with rfl | rfl | rfl | rfl <;> omega
theorem u32s_riI {r : RI} (h : RIin r) : U32s (riI r) := by
  obtain ⟨h1, h2, h3, h4, h5⟩ := h
  intro n hn
  have := one_le r.w
  simp only [riI, List.cons_append, List.nil_append, List.mem_cons] at hn
  rcases hn with rfl | rfl | rfl | rfl | rfl | hn
  · omega
  · omega
  · omega
  · omega
  · omega
  · obtain ⟨p, hp, hn⟩ := List.mem_flatMap.1 hn
    exact u32s_piI (h5 p hp) n hn
theorem u32s_biI {x : BI} (h : BIin x) : U32s (biI x) := by
  have h1 := h.b; have h2 := h.s; have h3 := h.a; have h4 := h.t; have h5 := h.d; have h6 := h.f
  intro n hn
  simp only [biI, List.cons_append, List.nil_append, List.mem_cons] at hn
  rcases hn with rfl | rfl | rfl | rfl | rfl | rfl | hn
  · omega
  · omega
  · omega
  · omega
  · omega
  · omega
  · obtain ⟨p, hp, hn⟩ := List.mem_flatMap.1 hn
    exact u32s_riI (h.r p hp) n hn
theorem rrB_enc {x : BI} (h : BIin x) : rrB (biI x) = some ({ x with d := [] }, ((x.d.length / 128 : Nat) : Int)) := by
  have hu := u32s_biI h
  obtain ⟨b, s, at', st, d, f⟩ := x
  have e : biI ⟨b, s, at', st, d, f⟩ = (b : Int) :: (s : Int) :: at' :: st :: ((d.length / 128 : Nat) : Int) :: (f.length : Int) :: (f.flatMap riI ++ []) := by simp [biI]
  rw [e] at hu ⊢
  unfold rrB
  dsimp only
  rw [if_pos (List.all_eq_true.2 fun n hn => u32B_iff.2 (hu n hn)), show ((f.length : Nat) : Int).toNat = f.length from rfl, rrQs_enc _ (Nat.le_refl _)]
  simp
theorem valid_in {x : BI} (hb : x.b < 4294967296) (hs : x.s < 4294967296) (hd : x.d.length % 128 = 0) (h : ValidP 8192 x) : BIin x := by
  obtain ⟨h1, h2, h3, h4, h5⟩ := h
  unfold secs at h3 h5
  rw [List.length_map] at h3 h5
  refine ⟨hb, hs, ?_, by omega, h3, hd, h4, fun r hr => ?_⟩
  · rcases h1 with h1 | ⟨a1, a2, a3⟩
    · omega
    · have := of_decide_eq_true a2
      omega
  · obtain ⟨⟨c1, c2, c3, c4, c5⟩, ⟨p1, _⟩, _⟩ := rightB_iff.1 (h5 r hr)
    unfold chkN at c1
    split at c1
    · rename_i hc
      refine ⟨by omega, by omega, ⟨c2, by omega⟩, c5, fun p hp => ?_⟩
      obtain ⟨q1, q2, q3, q4, q5, q6⟩ := p1 p hp
      exact ⟨⟨q1, by omega⟩, ⟨q5, by omega⟩, by omega, q4⟩
    · omega
structure Reads (f : List UInt8 → BI × Nat) : Prop where
  bad : ∀ b, (f b).2 ≠ 0 → f b = (bi0, 11)
  ok : ∀ b, (f b).2 = 0 → encB (f b).1 = b ∧ (f b).1.b < 4294967296 ∧ (f b).1.s < 4294967296 ∧ (f b).1.d.length % 128 = 0 ∧ ValidP 8192 (f b).1
  enc : ∀ x, BIin x → f (encB x) = if validB 8192 x = false then (bi0, 11) else (x, 0)
theorem Reads.eq {f g : List UInt8 → BI × Nat} (hf : Reads f) (hg : Reads g) (b : List UInt8) : f b = g b := by
  have key : ∀ {f g : List UInt8 → BI × Nat}, Reads f → Reads g → (f b).2 = 0 → g b = f b := by
    intro f g hf hg h
    obtain ⟨e, h1, h2, h3, h4⟩ := hf.ok b h
    have := hg.enc _ (valid_in h1 h2 h3 h4)
    rw [e, validB_t h4, if_neg (by simp)] at this
    rw [this]
    exact (Prod.ext rfl h.symm)
  by_cases h : (f b).2 = 0
  · exact (key hf hg h).symm
  · by_cases h' : (g b).2 = 0
    · exact key hg hf h'
    · rw [hf.bad b h, hg.bad b h']
theorem encB_split {x : BI} (h : BIin x) : getL (encB x) = (biI x, (encL (biI x)).length, 0) := by
  have hs : Sml x := ⟨h.b, h.s, ⟨by have := h.a; omega, by have := h.a; omega⟩, ⟨by have := h.t; omega, by have := h.t; omega⟩, by have := h.f; omega, by have := h.d; have := h.d1; omega, h.d1, fun r hr => by
    obtain ⟨c1, c2, c3, c4, c5⟩ := h.r r hr
    refine ⟨c1, c2, ⟨by omega, by omega⟩, by omega, fun p hp => ?_⟩
    obtain ⟨d1, d2, d3⟩ := c5 p hp
    exact ⟨⟨by omega, by omega⟩, ⟨by omega, by omega⟩, by omega, by omega⟩⟩
  exact getL_enc (biI_i64 hs) (by have := biI_len hs; omega) x.d
theorem reads_decB : Reads decB := by
  constructor
  · intro b h
    unfold decB at h ⊢
    split
    · rfl
    · rename_i h1
      rw [if_neg h1] at h
      split
      · rfl
      · rename_i h2
        rw [if_neg h2] at h
        split
        · rfl
        · rename_i h3
          rw [if_neg h3] at h; exact absurd rfl h
  · intro b h
    unfold decB at h ⊢
    by_cases h1 : (getL b).2.2 ≠ 0
    · rw [if_pos h1] at h; cases h
    rw [if_neg h1] at h ⊢
    by_cases h2 : (rDev (getL b).1).2.2.2 = true ∨ (rDev (getL b).1).2.2.1 ≠ [] ∨ (b.length : Int) ≠ (getL b).2.1 + (rDev (getL b).1).2.1 * 128
    · rw [if_pos h2] at h; cases h
    rw [if_neg h2] at h ⊢
    by_cases h3 : validB 8192 { (rDev (getL b).1).1 with d := b.drop (getL b).2.1 } = false
    · rw [if_pos h3] at h; cases h
    rw [if_neg h3]
    dsimp only
    have h1 : (getL b).2.2 = 0 := by omega
    obtain ⟨o1, o2, o3⟩ := getL_ok (b := b) (l := (getL b).1) (u := (getL b).2.1) (by rw [← h1])
    have g1 : (rDev (getL b).1).2.2.2 = false := by
      cases hx : (rDev (getL b).1).2.2.2 with
      | false => rfl
      | true => exact absurd (.inl hx) h2
    have g2 : (rDev (getL b).1).2.2.1 = [] := Classical.byContradiction fun hx => h2 (.inr (.inl hx))
    have g3 : (b.length : Int) = (getL b).2.1 + (rDev (getL b).1).2.1 * 128 := Classical.byContradiction fun hx => h2 (.inr (.inr hx))
    have hdl : (b.drop (getL b).2.1).length = b.length - (getL b).2.1 := List.length_drop
    obtain ⟨r1, r2, r3, r4, r5, r6, r7⟩ := rDev_ok (d := b.drop (getL b).2.1) g1 g2 (by rw [hdl]; omega)
    refine ⟨?_, r2, r3, by rw [hdl]; omega, validB_iff.1 (by simpa using h3)⟩
    unfold encB
    rw [← r1, ← o3, List.take_append_drop]
  · intro x h
    unfold decB
    rw [encB_split h, rDev_enc h]
    have hd := h.d1
    dsimp only
    rw [if_neg (by simp), if_neg]
    · have : (encB x).drop (encL (biI x)).length = x.d := by unfold encB; rw [List.drop_left]
      rw [this]
    · rintro (h1 | h1 | h1)
      · cases h1
      · exact h1 rfl
      · apply h1
        unfold encB
        rw [List.length_append]; omega
theorem reads_decR : Reads decR := by
  constructor
  · intro b h
    unfold decR at h ⊢
    split
    · rfl
    · rename_i h1
      rw [if_neg h1] at h
      split
      · rfl
      · rename_i x d hx
        rw [hx] at h
        dsimp only at h
        split
        · rfl
        · rename_i h2
          rw [if_neg h2] at h
          split
          · rfl
          · rename_i h3
            rw [if_neg h3] at h; exact absurd rfl h
  · intro b h
    unfold decR at h ⊢
    by_cases h1 : (getL b).2.2 ≠ 0
    · rw [if_pos h1] at h; cases h
    rw [if_neg h1] at h ⊢
    cases hx : rrB (getL b).1 with
    | none => rw [hx] at h; cases h
    | some p =>
      obtain ⟨x, d⟩ := p
      rw [hx] at h
      dsimp only at h ⊢
      by_cases h2 : 64 < d ∨ (b.length : Int) ≠ (getL b).2.1 + 128 * d
      · rw [if_pos h2] at h; cases h
      rw [if_neg h2] at h ⊢
      by_cases h3 : validB 8192 { x with d := b.drop (getL b).2.1 } = false
      · rw [if_pos h3] at h; cases h
      rw [if_neg h3]
      dsimp only
      have h1 : (getL b).2.2 = 0 := by omega
      obtain ⟨o1, o2, o3⟩ := getL_ok (b := b) (l := (getL b).1) (u := (getL b).2.1) (by rw [← h1])
      have hdl : (b.drop (getL b).2.1).length = b.length - (getL b).2.1 := List.length_drop
      obtain ⟨r1, r2, r3⟩ := rrB_ok (d := b.drop (getL b).2.1) hx (by rw [hdl]; omega)
      refine ⟨?_, r2, r3, by rw [hdl]; omega, validB_iff.1 (by simpa using h3)⟩
      unfold encB
      rw [← r1, ← o3, List.take_append_drop]
  · intro x h
    unfold decR
    rw [encB_split h]
    dsimp only
    rw [rrB_enc h]
    have hd := h.d1
    have hd2 := h.d
    dsimp only
    rw [if_neg (by simp), if_neg]
    · have : (encB x).drop (encL (biI x)).length = x.d := by unfold encB; rw [List.drop_left]
      rw [this]
    · rintro (h1 | h1)
      · omega
      · apply h1
        unfold encB
        rw [List.length_append]; omega
theorem decB_eq (b : List UInt8) : decB b = decR b := reads_decB.eq reads_decR b
end Go.Proofs.Ythplidagfcdibaa

/- The reader of numbers: next, ring. Condition: none. -/
namespace Go.Proofs.Ythplidagfcdibaa
open Go.Abs
variable {k : Nat}
def rdrV (r : Rdr) : List AV := [csl 1 (iV r.1), .bool r.2]
theorem tail_iV (a : Int) (t : List Int) : ((iV (a :: t)).take ((iV (a :: t)).length / 1 * 1)).drop (1 * 1) = iV t := by
  have e : (iV (a :: t)).length / 1 * 1 = (iV (a :: t)).length := by omega
  rw [e, List.take_length]; rfl
set_option maxRecDepth 100000 in
set_option maxHeartbeats 1000000 in
theorem s60 {r : Rdr} {m : Int} {n c : Nat} {H : Hp} {E : Nat → Option TypeId} {lv : Nat → Bool} :
    Writes (evCall FN (k + 100)) 60 [.ref 1 0, .int .i64 m] [(1, rdrV r)] H (n + 2) lv c E (.int .i64 (nx m r).1) 1 (rdrV (nx m r).2) := by
  obtain ⟨l, b⟩ := r
  cases l with
  | nil =>
    have hlen : (iV []).length / 1 = 0 := rfl
    change Writes _ _ _ [(1, [csl 1 (iV []), .bool b])] _ _ _ _ _ (.int .i64 0) 1 [csl 1 (iV []), .bool true]
    refine q_writes (by omega) rfl fn60 fun T => ?_
    repeat (first | refine stN ?_ | intro E)
    exact q_rets (.inr rfl) rfl rfl rfl rfl rfl ⟨rfl, _, rfl, lkO_objs rfl, (Same.refl _ _ _).upd (.inl rfl)⟩
  | cons a t =>
    have hlen : (iV (a :: t)).length / 1 = t.length + 1 := by simp [iV]
    have hr : rd (iV (a :: t)) (0 * 1) 1 false = some (.int .i64 a) := rfl
    by_cases h1 : a < 0
    · have e : nx m (a :: t, b) = (0, a :: t, true) := by simp only [nx]; rw [if_pos (.inl h1)]
      rw [e]
      change Writes _ _ _ [(1, [csl 1 (iV (a :: t)), .bool b])] _ _ _ _ _ (.int .i64 0) 1 [csl 1 (iV (a :: t)), .bool true]
      refine q_writes (by omega) rfl fn60 fun T => ?_
      repeat (first | refine stN ?_ | intro E)
      exact q_rets (.inr rfl) rfl rfl rfl rfl rfl ⟨rfl, _, rfl, lkO_objs rfl, (Same.refl _ _ _).upd (.inl rfl)⟩
    · by_cases h2 : m < a
      · have e : nx m (a :: t, b) = (0, a :: t, true) := by simp only [nx]; rw [if_pos (.inr h2)]
        rw [e]
        change Writes _ _ _ [(1, [csl 1 (iV (a :: t)), .bool b])] _ _ _ _ _ (.int .i64 0) 1 [csl 1 (iV (a :: t)), .bool true]
        refine q_writes (by omega) rfl fn60 fun T => ?_
        repeat (first | refine stN ?_ | intro E)
        exact q_rets (.inr rfl) rfl rfl rfl rfl rfl ⟨rfl, _, rfl, lkO_objs rfl, (Same.refl _ _ _).upd (.inl rfl)⟩
      · have hab : asB 1 ((iV (a :: t)).length / 1) = some 1 := asB_n (a := 1) (by omega)
        have e : nx m (a :: t, b) = (a, t, b) := by simp only [nx]; rw [if_neg (by omega)]
        rw [e]
        change Writes _ _ _ [(1, [csl 1 (iV (a :: t)), .bool b])] _ _ _ _ _ (.int .i64 a) 1 [csl 1 (iV t), .bool b]
        refine q_writes (by omega) rfl fn60 fun T => ?_
        repeat (first | refine stN ?_ | intro E)
        apply p_slL_lo
        · exact rfl
        · exact .inl rfl
        · exact rfl
        · exact hab
        rw [tail_iV]
        repeat (first | refine stN ?_ | intro E)
        exact q_rets (.inr rfl) rfl rfl rfl rfl rfl ⟨rfl, _, rfl, lkO_objs rfl, (Same.refl _ _ _).upd (.inl rfl)⟩
end Go.Proofs.Ythplidagfcdibaa

/- The reader of numbers: ring. Condition: none. -/
namespace Go.Proofs.Ythplidagfcdibaa
open Go.Abs
variable {k : Nat}
theorem nx_rng {m : Int} (h : 0 ≤ m) (r : Rdr) : 0 ≤ (nx m r).1 ∧ (nx m r).1 ≤ m := by
  obtain ⟨l, b⟩ := r
  cases l with
  | nil => exact ⟨Int.le_refl _, h⟩
  | cons a t =>
    simp only [nx]
    split
    · exact ⟨Int.le_refl _, h⟩
    · dsimp only; omega
def rgV (g : Nat × Nat) : AV := .agg [.int .u32 g.1, .int .u32 g.2]
set_option maxRecDepth 100000 in
set_option maxHeartbeats 1000000 in
theorem s59_2 {r : Rdr} {c : Nat} {H : Hp} {E : Nat → Option TypeId} {lv : Nat → Bool} :
    Writes (evCall FN (k + 200)) 59 [.ref 1 0] [(1, rdrV r)] H 2 lv c E (rgV (rRing r).1) 1 (rdrV (rRing r).2) := by
  have c1 : ∀ (r : Rdr) (H : Hp) (E : Nat → Option TypeId), Writes (evCall FN (k + 199)) 60 [.ref 1 0, .int .i64 4294967295] [(1, rdrV r)] H 3 lv c E (.int .i64 (nx 4294967295 r).1) 1 (rdrV (nx 4294967295 r).2) := fun r H E => s60 (k := k + 99) (n := 1)
  have g1 := nx_rng (m := 4294967295) (by omega) r
  have g2 := nx_rng (m := 4294967295) (by omega) (nx 4294967295 r).2
  have e : rRing r = (((nx 4294967295 r).1.toNat, (nx 4294967295 (nx 4294967295 r).2).1.toNat), (nx 4294967295 (nx 4294967295 r).2).2) := rfl
  rw [e]
  generalize hx : nx 4294967295 r = x at *
  generalize hy : nx 4294967295 x.2 = y at *
  have w1 : IntKind.u32.wrap x.1 = ((x.1.toNat : Nat) : Int) := by rw [w32 (by omega) (by omega)]; omega
  have w2 : IntKind.u32.wrap y.1 = ((y.1.toNat : Nat) : Int) := by rw [w32 (by omega) (by omega)]; omega
  have c2 := c1 x.2
  have c1 := c1 r
  rw [hx] at c1
  rw [hy] at c2
  clear hx hy e
  change Writes _ _ _ _ _ _ _ _ _ (.agg [.int .u32 (x.1.toNat : Nat), .int .u32 (y.1.toNat : Nat)]) _ _
  refine q_writes (by omega) rfl fn59 fun T => ?_
  repeat (first | refine stN ?_ | intro E)
  apply p_writesX (args := [.ref 1 0, .int .i64 4294967295]) (id := 1) (n0 := 2) (H0 := objs [(1, rdrV r)] H) (os' := [(1, rdrV x.2), (2, [.int .u32 0, .int .u32 0])])
  · exact rfl
  · exact fun H E => writes_at rfl (c1 (objs _ H) E)
  · exact ⟨.inl ⟨rfl, rfl⟩, .inr ⟨rfl, rfl, rfl, rfl⟩, trivial⟩
  · exact (by repeat (first | exact Same.refl _ _ _ | refine Same.cons ?_ rfl))
  · omega
  intro H2 hS2
  repeat (first | refine stN ?_ | intro E)
  apply p_writesX (args := [.ref 1 0, .int .i64 4294967295]) (id := 1) (n0 := 2) (H0 := objs [(1, rdrV r)] H) (os' := [(1, rdrV y.2), (2, [.int .u32 0, .int .u32 0])])
  · exact rfl
  · exact fun H E => writes_at rfl (c2 (objs _ H) E)
  · exact ⟨.inl ⟨rfl, rfl⟩, .inr ⟨rfl, rfl, rfl, rfl⟩, trivial⟩
  · exact (by repeat (first | exact hS2 | refine Same.cons ?_ rfl))
  · omega
  intro H3 hS3
  repeat (first | refine stN ?_ | intro E)
  exact q_rets (.inr rfl) rfl rfl rfl rfl rfl ⟨rfl, _, rfl, lkO_objs rfl, (by repeat (first | exact hS3 | refine Same.cons ?_ rfl))⟩
set_option maxRecDepth 100000 in
set_option maxHeartbeats 1000000 in
theorem s59_4 {r : Rdr} {c : Nat} {H : Hp} {E : Nat → Option TypeId} {lv : Nat → Bool} :
    Writes (evCall FN (k + 200)) 59 [.ref 1 0] [(1, rdrV r)] H 4 lv c E (rgV (rRing r).1) 1 (rdrV (rRing r).2) := by
  have c1 : ∀ (r : Rdr) (H : Hp) (E : Nat → Option TypeId), Writes (evCall FN (k + 199)) 60 [.ref 1 0, .int .i64 4294967295] [(1, rdrV r)] H 5 lv c E (.int .i64 (nx 4294967295 r).1) 1 (rdrV (nx 4294967295 r).2) := fun r H E => s60 (k := k + 99) (n := 3)
  have g1 := nx_rng (m := 4294967295) (by omega) r
  have g2 := nx_rng (m := 4294967295) (by omega) (nx 4294967295 r).2
  have e : rRing r = (((nx 4294967295 r).1.toNat, (nx 4294967295 (nx 4294967295 r).2).1.toNat), (nx 4294967295 (nx 4294967295 r).2).2) := rfl
  rw [e]
  generalize hx : nx 4294967295 r = x at *
  generalize hy : nx 4294967295 x.2 = y at *
  have w1 : IntKind.u32.wrap x.1 = ((x.1.toNat : Nat) : Int) := by rw [w32 (by omega) (by omega)]; omega
  have w2 : IntKind.u32.wrap y.1 = ((y.1.toNat : Nat) : Int) := by rw [w32 (by omega) (by omega)]; omega
  have c2 := c1 x.2
  have c1 := c1 r
  rw [hx] at c1
  rw [hy] at c2
  clear hx hy e
  change Writes _ _ _ _ _ _ _ _ _ (.agg [.int .u32 (x.1.toNat : Nat), .int .u32 (y.1.toNat : Nat)]) _ _
  refine q_writes (by omega) rfl fn59 fun T => ?_
  repeat (first | refine stN ?_ | intro E)
  apply p_writesX (args := [.ref 1 0, .int .i64 4294967295]) (id := 1) (n0 := 4) (H0 := objs [(1, rdrV r)] H) (os' := [(1, rdrV x.2), (4, [.int .u32 0, .int .u32 0])])
  · exact rfl
  · exact fun H E => writes_at rfl (c1 (objs _ H) E)
  · exact ⟨.inl ⟨rfl, rfl⟩, .inr ⟨rfl, rfl, rfl, rfl⟩, trivial⟩
  · exact (by repeat (first | exact Same.refl _ _ _ | refine Same.cons ?_ rfl))
  · omega
  intro H2 hS2
  repeat (first | refine stN ?_ | intro E)
  apply p_writesX (args := [.ref 1 0, .int .i64 4294967295]) (id := 1) (n0 := 4) (H0 := objs [(1, rdrV r)] H) (os' := [(1, rdrV y.2), (4, [.int .u32 0, .int .u32 0])])
  · exact rfl
  · exact fun H E => writes_at rfl (c2 (objs _ H) E)
  · exact ⟨.inl ⟨rfl, rfl⟩, .inr ⟨rfl, rfl, rfl, rfl⟩, trivial⟩
  · exact (by repeat (first | exact hS2 | refine Same.cons ?_ rfl))
  · omega
  intro H3 hS3
  repeat (first | refine stN ?_ | intro E)
  exact q_rets (.inr rfl) rfl rfl rfl rfl rfl ⟨rfl, _, rfl, lkO_objs rfl, (by repeat (first | exact hS3 | refine Same.cons ?_ rfl))⟩
end Go.Proofs.Ythplidagfcdibaa

/- The reader of numbers: request. Condition: none. -/
namespace Go.Proofs.Ythplidagfcdibaa
open Go.Abs
variable {k : Nat}
def riVb (br z : Nat) (q : RI) : List AV := [.int .u32 q.b, .int .u32 q.s, .int .i64 q.q, .bool q.w, .sl br z (pisV q.l)]
def ReqP (q : RI) (r2 : Rdr) (lv : Nat → Bool) (c : Nat) (H0 : Hp) (x : AV) (hs : Hs) : Prop :=
  ∃ br z H'' lv' c', x = .agg (riVb br z q) ∧ hs = ⟨trim 3 H'', 3, lv', c'⟩ ∧ ((br = 0 ∧ z = 0 ∧ pisV q.l = []) ∨ (4 ≤ br ∧ z = 4)) ∧ c ≤ c' ∧ (∀ z, 4 ≤ z → z < c → lv' z = lv z) ∧ H'' 1 = rdrV r2 ∧ Same 3 1 H0 H''
theorem rParts_len (r : Rdr) : ∀ n, (rParts n r).1.length = n
  | 0 => rfl
  | n + 1 => by simp [rParts, rParts_len r n]
set_option maxRecDepth 100000 in
set_option maxHeartbeats 4000000 in
theorem s61b {r : Rdr} {c : Nat} {H : Hp} {E : Nat → Option TypeId} {lv : Nat → Bool} (h4 : 4 ≤ c) {T : Nat → AV} :
    Wp (evCall FN (k + 399)) (k + 399) f61.body ⟨slots (argSlots 0 [.ref 1 0]) T, objs [(1, rdrV r)] H, E, 3, lv, c⟩ (RetS f61 3 (ReqP (rReq r).1 (rReq r).2 lv c (objs [(1, rdrV r)] H))) := by
  have c59 : ∀ (H : Hp) (E : Nat → Option TypeId), Writes (evCall FN (k + 399)) 59 [.ref 1 0] [(1, rdrV r)] H 4 lv c E (rgV (rRing r).1) 1 (rdrV (rRing r).2) := fun H E => s59_4 (k := k + 199)
  have c60 : ∀ (n : Nat) (m : Int) (r : Rdr) (H : Hp) (E : Nat → Option TypeId) (lv : Nat → Bool) (c : Nat), Writes (evCall FN (k + 399)) 60 [.ref 1 0, .int .i64 m] [(1, rdrV r)] H (n + 2) lv c E (.int .i64 (nx m r).1) 1 (rdrV (nx m r).2) := fun n m r H E lv c => s60 (k := k + 299)
  have e : rReq r = (⟨(rRing r).1.1, (rRing r).1.2, (nx 64 (rRing r).2).1, (nx 1 (nx 64 (rRing r).2).2).1 == 1, (rParts (nx 4 (nx 1 (nx 64 (rRing r).2).2).2).1.toNat (nx 4 (nx 1 (nx 64 (rRing r).2).2).2).2).1⟩, (rParts (nx 4 (nx 1 (nx 64 (rRing r).2).2).2).1.toNat (nx 4 (nx 1 (nx 64 (rRing r).2).2).2).2).2) := rfl
  rw [e]
  clear e
  have hg4 := nx_rng (m := 4) (by omega) (nx 1 (nx 64 (rRing r).2).2).2
  generalize hG : rRing r = G at *
  have cA := c60 2 64 G.2
  generalize hA : nx 64 G.2 = A at *
  have cB := c60 2 1 A.2
  generalize hB : nx 1 A.2 = B at *
  have cC := c60 3 4 B.2
  generalize hC : nx 4 B.2 = C at *
  clear hG hA hB hC
  obtain ⟨N, hN⟩ : ∃ N : Nat, C.1 = (N : Int) := ⟨C.1.toNat, by omega⟩
  rw [hN] at cC
  have hN4 : N ≤ 4 := by omega
  rw [hN, show ((N : Nat) : Int).toNat = N from rfl]
  obtain ⟨⟨gb, gs⟩, G2⟩ := G
  obtain ⟨A1, A2⟩ := A
  obtain ⟨B1, B2⟩ := B
  obtain ⟨C1, C2⟩ := C
  dsimp only at *
  clear hN hg4
  repeat (first | refine stN ?_ | intro E)
  apply p_writesX (args := [.ref 1 0]) (id := 1) (n0 := 3) (H0 := objs [(1, rdrV r)] H) (os' := [(1, rdrV G2), (3, [.int .u32 0, .int .u32 0, .int .i64 0, .bool false, .sl 0 0 []])])
  · exact rfl
  · exact fun H E => writes_at rfl (c59 (objs _ H) E)
  · exact ⟨.inl ⟨rfl, rfl⟩, .inr ⟨rfl, rfl, rfl, rfl⟩, trivial⟩
  · exact (by repeat (first | exact Same.refl _ _ _ | refine Same.cons ?_ rfl))
  · omega
  intro H2 hS2
  repeat (first | refine stN ?_ | intro E)
  apply p_writesX (args := [.ref 1 0, .int .i64 64]) (id := 1) (n0 := 3) (H0 := objs [(1, rdrV r)] H) (os' := [(1, rdrV A2), (3, [.int .u32 0, .int .u32 0, .int .i64 0, .bool false, .sl 0 0 []])])
  · exact rfl
  · exact fun H E => writes_at rfl (cA (objs _ H) E _ _)
  · exact ⟨.inl ⟨rfl, rfl⟩, .inr ⟨rfl, rfl, rfl, rfl⟩, trivial⟩
  · exact (by repeat (first | exact hS2 | refine Same.cons ?_ rfl))
  · omega
  intro H3 hS3
  repeat (first | refine stN ?_ | intro E)
  apply p_writesX (args := [.ref 1 0, .int .i64 1]) (id := 1) (n0 := 3) (H0 := objs [(1, rdrV r)] H) (os' := [(1, rdrV B2), (3, [.int .u32 0, .int .u32 0, .int .i64 0, .bool false, .sl 0 0 []])])
  · exact rfl
  · exact fun H E => writes_at rfl (cB (objs _ H) E _ _)
  · exact ⟨.inl ⟨rfl, rfl⟩, .inr ⟨rfl, rfl, rfl, rfl⟩, trivial⟩
  · exact (by repeat (first | exact hS3 | refine Same.cons ?_ rfl))
  · omega
  intro H4 hS4
  repeat (first | refine stN ?_ | intro E)
  apply p_writesX (args := [.ref 1 0, .int .i64 4]) (id := 1) (n0 := 3) (H0 := objs [(1, rdrV r)] H) (os' := [(1, rdrV C2), (3, [.int .u32 0, .int .u32 0, .int .i64 0, .bool false, .sl 0 0 []]), (4, [.int .u32 gb, .int .u32 gs, .int .i64 A1, .bool (B1 == 1), .sl 0 0 []])])
  · exact rfl
  · exact fun H E => writes_at rfl (cC (objs _ H) E _ _)
  · exact ⟨.inl ⟨rfl, rfl⟩, .inr ⟨rfl, rfl, rfl, rfl⟩, .inr ⟨rfl, rfl, rfl, rfl⟩, trivial⟩
  · exact (by repeat (first | exact hS4 | refine Same.cons ?_ rfl))
  · omega
  intro H5 hS5
  clear cA cB cC c59 hS2 hS3 hS4
  generalize objs [(1, rdrV r)] H = H0 at *
  generalize (B1 == 1) = w at *
  repeat (first | refine stN ?_ | intro E)
  refine q_loopX (α := Nat × Nat × Nat) (LInv.mk (fun p => p.1 ≤ N) (fun p => N - p.1)
    (fun p => [(15, .int .i64 (p.1 : Int)), (14, .int .i64 (N : Int)), (3, .ref 4 0), (2, .ref 3 0), (0, .ref 1 0)])
    (fun p => [(1, rdrV (rParts p.1 C2).2), (3, [.int .u32 0, .int .u32 0, .int .i64 0, .bool false, .sl 0 0 []]), (4, [.int .u32 gb, .int .u32 gs, .int .i64 A1, .bool w, .sl p.2.1 p.2.2 (pisV (rParts p.1 C2).1)])]))
    (fun p lv' c' => c ≤ c' ∧ LA 4 lv' c' p.2.1 p.2.2 (pisV (rParts p.1 C2).1) ∧ (p.2.1 = 0 ∨ c ≤ p.2.1) ∧ ∀ z, 4 ≤ z → z < c → lv' z = lv z)
    (Same 3 1 H0) (0, 0, 0) (Nat.zero_le _) ⟨Nat.le_refl _, LA.nil, .inl rfl, fun _ _ _ => rfl⟩ hS5 (show N - 0 < k + 399 by omega) ⟨rfl, rfl, rfl, rfl, rfl, trivial⟩ ⟨rfl, rfl, rfl, trivial⟩ ?_
  rintro ⟨j, br, z⟩ lv1 c1 T H1 E hP ⟨hc1, hL, hbr, hlv⟩ hS hμ
  have hP : j ≤ N := hP
  dsimp only at hL hbr hS ⊢
  clear hμ hS5
  have hpl := pis_div (rParts j C2).1
  rcases Nat.lt_or_ge j N with hj | hj
  · have eS : rParts (j + 1) C2 = ((rParts j C2).1 ++ [⟨(nx 8 (rParts j C2).2).1, (nx 8192 (nx 8 (rParts j C2).2).2).1, (nx 512 (nx 8192 (nx 8 (rParts j C2).2).2).2).1, (nx 1 (nx 512 (nx 8192 (nx 8 (rParts j C2).2).2).2).2).1 == 1⟩], (nx 1 (nx 512 (nx 8192 (nx 8 (rParts j C2).2).2).2).2).2) := rfl
    have hQl := rParts_len C2 j
    generalize rParts j C2 = RQ at *
    obtain ⟨Q, R0⟩ := RQ
    dsimp only at *
    have k1 := c60 3 8 R0
    generalize nx 8 R0 = X1 at *
    have k2 := c60 3 8192 X1.2
    generalize nx 8192 X1.2 = X2 at *
    have k3 := c60 3 512 X2.2
    generalize nx 512 X2.2 = X3 at *
    have k4 := c60 4 1 X3.2
    generalize nx 1 X3.2 = X4 at *
    obtain ⟨x1, R1⟩ := X1
    obtain ⟨x2, R2⟩ := X2
    obtain ⟨x3, R3⟩ := X3
    obtain ⟨x4, R4⟩ := X4
    dsimp only at *
    repeat (first | refine stN ?_ | intro E)
    apply p_writesX (args := [.ref 1 0, .int .i64 8]) (id := 1) (n0 := 3) (H0 := H0) (os' := [(1, rdrV R1), (3, [.int .u32 0, .int .u32 0, .int .i64 0, .bool false, .sl 0 0 []]), (4, [.int .u32 gb, .int .u32 gs, .int .i64 A1, .bool w, .sl br z (pisV Q)])])
    · exact rfl
    · exact fun H E => writes_at rfl (k1 (objs _ H) E _ _)
    · exact ⟨.inl ⟨rfl, rfl⟩, .inr ⟨rfl, rfl, rfl, rfl⟩, .inr ⟨rfl, rfl, rfl, rfl⟩, trivial⟩
    · exact (by repeat (first | exact hS | refine Same.cons ?_ rfl))
    · omega
    intro H1 hS1
    repeat (first | refine stN ?_ | intro E)
    apply p_writesX (args := [.ref 1 0, .int .i64 8192]) (id := 1) (n0 := 3) (H0 := H0) (os' := [(1, rdrV R2), (3, [.int .u32 0, .int .u32 0, .int .i64 0, .bool false, .sl 0 0 []]), (4, [.int .u32 gb, .int .u32 gs, .int .i64 A1, .bool w, .sl br z (pisV Q)])])
    · exact rfl
    · exact fun H E => writes_at rfl (k2 (objs _ H) E _ _)
    · exact ⟨.inl ⟨rfl, rfl⟩, .inr ⟨rfl, rfl, rfl, rfl⟩, .inr ⟨rfl, rfl, rfl, rfl⟩, trivial⟩
    · exact (by repeat (first | exact hS1 | refine Same.cons ?_ rfl))
    · omega
    intro H2 hS2
    repeat (first | refine stN ?_ | intro E)
    apply p_writesX (args := [.ref 1 0, .int .i64 512]) (id := 1) (n0 := 3) (H0 := H0) (os' := [(1, rdrV R3), (3, [.int .u32 0, .int .u32 0, .int .i64 0, .bool false, .sl 0 0 []]), (4, [.int .u32 gb, .int .u32 gs, .int .i64 A1, .bool w, .sl br z (pisV Q)])])
    · exact rfl
    · exact fun H E => writes_at rfl (k3 (objs _ H) E _ _)
    · exact ⟨.inl ⟨rfl, rfl⟩, .inr ⟨rfl, rfl, rfl, rfl⟩, .inr ⟨rfl, rfl, rfl, rfl⟩, trivial⟩
    · exact (by repeat (first | exact hS2 | refine Same.cons ?_ rfl))
    · omega
    intro H3 hS3
    repeat (first | refine stN ?_ | intro E)
    apply p_writesX (args := [.ref 1 0, .int .i64 1]) (id := 1) (n0 := 3) (H0 := H0) (os' := [(1, rdrV R4), (3, [.int .u32 0, .int .u32 0, .int .i64 0, .bool false, .sl 0 0 []]), (4, [.int .u32 gb, .int .u32 gs, .int .i64 A1, .bool w, .sl br z (pisV Q)]), (5, [.int .i64 x1, .int .i64 x2, .int .i64 x3, .bool false])])
    · exact rfl
    · exact fun H E => writes_at rfl (k4 (objs _ H) E _ _)
    · exact ⟨.inl ⟨rfl, rfl⟩, .inr ⟨rfl, rfl, rfl, rfl⟩, .inr ⟨rfl, rfl, rfl, rfl⟩, .inr ⟨rfl, rfl, rfl, rfl⟩, trivial⟩
    · exact (by repeat (first | exact hS3 | refine Same.cons ?_ rfl))
    · omega
    intro H4 hS4
    repeat (first | refine stN ?_ | intro E)
    have hroom : ((pisV Q).length + (pisV [⟨x1, x2, x3, x4 == 1⟩]).length) / 4 * 32 ≤ room := by
      have h1 : (pisV Q).length = 4 * Q.length := by unfold pisV; exact (fm_length piV_length Q).trans (by omega)
      rw [h1, hQl, room_val]
      simp only [pisV, List.flatMap_cons, List.flatMap_nil, List.append_nil, piV_length]
      omega
    apply p_appL
    · exact rfl
    · exact rfl
    · exact rfl
    · exact hL
    · exact ⟨by omega, by omega⟩
    · exact hroom
    intro lv2 m1 m2
    repeat (first | refine stN ?_ | intro E)
    have eQ : pisV Q ++ [.int .i64 x1, .int .i64 x2, .int .i64 x3, .bool (x4 == 1)] = pisV (Q ++ [⟨x1, x2, x3, x4 == 1⟩]) := by simp [pisV, piV]
    have eS1 : (rParts (j + 1) C2).1 = Q ++ [⟨x1, x2, x3, x4 == 1⟩] := congrArg Prod.fst eS
    have eS2 : (rParts (j + 1) C2).2 = R4 := congrArg Prod.snd eS
    refine x_again (j + 1, c1, 4) hj ⟨by omega, ?_, .inr hc1, fun z hz4 hz => ?_⟩ (Same.keep (by repeat (first | exact hS4 | refine Same.cons ?_ rfl)) (by omega)) (show N - (j + 1) < N - j by omega) ⟨rfl, rfl, rfl, rfl, rfl, trivial⟩ ?_
    · exact LA.mine (by omega) m1
    · rw [m2 z (by omega) (by omega)]; exact hlv z hz4 hz
    · dsimp only
      rw [eS1, eS2, ← eQ]
      exact ⟨⟨rfl, rfl⟩, ⟨rfl, rfl⟩, ⟨rfl, rfl⟩, trivial⟩
  · obtain rfl : j = N := by omega
    repeat (first | refine stN ?_ | intro E)
    apply x_exit
    repeat (first | refine stN ?_ | intro E)
    refine q_rets (.inr rfl) rfl rfl rfl rfl rfl ⟨br, z, _, _, _, rfl, rfl, ?_, hc1, hlv, lkO_objs rfl, (by repeat (first | exact hS | refine Same.cons ?_ rfl))⟩
    exact hL.imp id fun h => ⟨h.1, h.2.2.2⟩
structure WritesP (F : CallF) (f : FuncId) (args : List AV) (os : List (Nat × List AV)) (H : Hp) (n : Nat) (lv : Nat → Bool) (c : Nat) (E : Nat → Option TypeId) (id : Nat) (v : List AV) (PP : AV → (Nat → Bool) → Nat → Prop) : Prop where
  ex : ∃ R H' lv' c', F f args ⟨objs os H, n, lv, c⟩ E = some (R, ⟨H', n, lv', c'⟩) ∧ PP R lv' c' ∧ H' id = v ∧ ∀ j, j < n → j ≠ id → H' j = keepH n (objs os H) j
theorem WritesP.at {F : CallF} {f : FuncId} {args : List AV} {os : List (Nat × List AV)} {H : Hp} {n : Nat} {lv : Nat → Bool} {c : Nat} {E : Nat → Option TypeId} {id i : Nat} {v cells : List AV} {PP : AV → (Nat → Bool) → Nat → Prop} (ho : lkO os i = some cells) (h : WritesP F f args [(i, cells)] (objs os H) n lv c E id v PP) : WritesP F f args os H n lv c E id v PP := by
  have e : objs [(i, cells)] (objs os H) = objs os H := by
    funext j
    simp only [objs, upd]
    split
    · next hj => rw [hj, lkO_objs ho]
    · rfl
  obtain ⟨h⟩ := h
  rw [e] at h
  exact ⟨h⟩
theorem WritesP.fuel {k1 k2 : Nat} {f : FuncId} {args : List AV} {os : List (Nat × List AV)} {H : Hp} {n : Nat} {lv : Nat → Bool} {c : Nat} {E : Nat → Option TypeId} {id : Nat} {v : List AV} {PP : AV → (Nat → Bool) → Nat → Prop} (h : WritesP (evCall FN k1) f args os H n lv c E id v PP) (hk : k1 ≤ k2) : WritesP (evCall FN k2) f args os H n lv c E id v PP := by
  obtain ⟨R, H', lv', c', h1, h2⟩ := h.ex
  exact ⟨R, H', lv', c', (evCall_mono (fun _ _ h => h) k1 k2 hk).call _ _ _ _ _ h1, h2⟩
theorem p_writesP {F : CallF} {l : List IOper} {s : List (Nat × AV)} {os os' : List (Nat × List AV)} {T : Nat → AV} {H : Hp} {E : Nat → Option TypeId} {n c d : Nat} {lv : Nat → Bool} {Q : St → Prop} {f : FuncId} {xs : List X} {args : List AV} {id : Nat} {v : List AV} {PP : AV → (Nat → Bool) → Nat → Prop}
    (ha : evsS s xs = some args) (hc : ∀ H E, WritesP F f args os H n lv c E id v PP) (hx : HoldsX n id v os os')
    (k : ∀ R H' lv' c', PP R lv' c' → WpO F l ⟨slots ((d, R) :: s) T, objs os' H', E, n, lv', c'⟩ Q) :
    WpO F (⟨some d, .calls f xs, none⟩ :: l) ⟨slots s T, objs os H, E, n, lv, c⟩ Q := by
  obtain ⟨R, H', lv', c', h1, hp, h2, h3⟩ := (hc H E).ex
  have e : objs os' H' = H' := objs_self (holdsX h2 h3 hx)
  have := k R H' lv' c' hp
  rw [e] at this
  exact p_calls (dd := some d) (evsS_eq ha) h1 this
def RqP (q : RI) (lv : Nat → Bool) (c : Nat) (R : AV) (lv' : Nat → Bool) (c' : Nat) : Prop :=
  ∃ br z, R = .agg (riVb br z q) ∧ ((br = 0 ∧ z = 0 ∧ pisV q.l = []) ∨ (4 ≤ br ∧ z = 4)) ∧ c ≤ c' ∧ ∀ z, 4 ≤ z → z < c → lv' z = lv z
theorem s61 {r : Rdr} {c : Nat} {H : Hp} {E : Nat → Option TypeId} {lv : Nat → Bool} (h4 : 4 ≤ c) :
    WritesP (evCall FN (k + 400)) 61 [.ref 1 0] [(1, rdrV r)] H 3 lv c E 1 (rdrV (rReq r).2) (RqP (rReq r).1 lv c) := by
  obtain ⟨x, hs, h1, br, z, H'', lv', c', e1, e2, h2, h3, h5, h6, h7⟩ := q_calls (os := [(1, rdrV r)]) (H := H) (E := E) (n := 3) (lv := lv) (c := c) fn61 fun T => s61b (k := k) h4
  subst e1 e2
  refine ⟨_, _, _, _, h1, ⟨br, z, rfl, h2, h3, h5⟩, ?_, fun j hj hne => ?_⟩
  · show trim 3 H'' 1 = _
    have hu : underL 3 (rdrV (rReq r).2) = true := rfl
    simp only [trim, keepH, h6, hu, if_true, show (1 : Nat) < 3 from by omega]
  · show trim 3 H'' j = _
    have := h7 j hj hne
    simp only [trim, hj, if_true]
    exact this
end Go.Proofs.Ythplidagfcdibaa
