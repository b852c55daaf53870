/- Part 20 of the texts on which proofs about this seat rest: each says what it proves at its own head. No condition. -/
import Derived.Test.YthplidagfcdibaaM19
set_option linter.unusedVariables false
set_option linter.unusedSimpArgs false
/- The examples of the documentation: evaluated. No condition. -/
namespace Go.Proofs.Ythplidagfcdibaa
open Go.Abs
variable {k : Nat}
theorem s11l : call0 (evCall FNl 300) 11 [] = some (.bool true) := by kernel_rfl
theorem s11 : Calls0 (evCall FN (k + 300)) 11 [] (.bool true) :=
  Calls0.fuel (k := 300) ⟨call0_mono (evCall_mono (fun f d h => FNl_le f d h) 300 300 (Nat.le_refl _)) s11l⟩ (by omega)
end Go.Proofs.Ythplidagfcdibaa

/- What a port and a completion do, for a device that is right. Condition: the memory is valid, the device is right. -/
namespace Go.Proofs.Ythplidagfcdibaa
open Go.Abs
variable {k : Nat}
/-- A device that is right for a memory, as a law meets it. -/
structure Rt (m : List UInt8) (b s a : Nat) (st : Int) (d : List UInt8) (f : List RI) : Prop where
  vm : VM m
  hb : b < 4294967296
  hs : s < 4294967296
  hd : d.length % 128 = 0
  v : ValidP m.length ⟨b, s, a, st, d, f⟩
theorem Rt.f {m d : List UInt8} {b s a : Nat} {st : Int} {f : List RI} (h : Rt m b s a st d f) : f.length ≤ 8 := h.v.2.2.2.1
theorem Rt.secs {m d : List UInt8} {b s a : Nat} {st : Int} {f : List RI} (h : Rt m b s a st d f) : (d.map ofB).length / 128 ≤ 64 := h.v.2.2.1
theorem Rt.st {m d : List UInt8} {b s a : Nat} {st : Int} {f : List RI} (h : Rt m b s a st d f) : st = 0 ∨ (160 ≤ st ∧ st ≤ 165) := h.v.2.1
theorem Rt.at0 {m d : List UInt8} {b s a : Nat} {st : Int} {f : List RI} (h : Rt m b s a st d f) : a = 0 ∨ (0 < a ∧ wholeB s = true ∧ a < s) := by
  have := h.v.1
  dsimp only at this
  rcases this with h1 | ⟨h1, h2, h3⟩
  · exact .inl (by omega)
  · exact .inr ⟨by omega, h2, by omega⟩
theorem Rt.at {m d : List UInt8} {b s a : Nat} {st : Int} {f : List RI} (h : Rt m b s a st d f) (hc : chkN m.length b s = 0) : a < s := by
  have h1 := h.at0
  have h2 := (chkN_ok h.vm hc).hs
  omega
theorem Rt.right {m d : List UInt8} {b s a : Nat} {st : Int} {f : List RI} (h : Rt m b s a st d f) {r : RI} (hr : r ∈ f) : RightP m.length ((d.map ofB).length / 128) r := rightB_iff.1 (h.v.2.2.2.2 r hr)
theorem Rt.sml {m d : List UInt8} {b s a : Nat} {st : Int} {f : List RI} (h : Rt m b s a st d f) : Sml ⟨b, s, a, st, d, f⟩ := valid_sml h.vm.le.1 h.hb h.hs h.hd h.v
theorem Rt.nr {m d : List UInt8} {b s a : Nat} {st : Int} {f : List RI} (h : Rt m b s a st d f) : NR m ((d.map ofB).length / 128) b s f.length (ntf b s ((d.map ofB).length / 128) ⟨a, st, f, m, false⟩) := ntf_nr h.vm h.at0 h.st h.f fun _ hr => h.right hr
/-- A device that is right has what is asked. -/
theorem rt_of {m d : List UInt8} {b s : Nat} {at' st : Int} {f : List RI} (hm : VM m) (hb : b < 4294967296) (hs : s < 4294967296) (hd : d.length % 128 = 0) (h : ValidP m.length ⟨b, s, at', st, d, f⟩) : ∃ a : Nat, at' = a ∧ Rt m b s a st d f := by
  have h1 := h.1
  dsimp only at h1
  obtain ⟨a, rfl⟩ : ∃ a : Nat, at' = a := ⟨at'.toNat, by rcases h1 with h1 | ⟨h1, _⟩ <;> omega⟩
  exact ⟨a, rfl, hm, hb, hs, hd, h⟩
/-- .. and keeps it, whatever part of it is replaced by what is right. -/
theorem Rt.next {m d m' d' : List UInt8} {b s b' s' a a' : Nat} {st st' : Int} {f f' : List RI} (h : Rt m b s a st d f) (hm : m'.length = m.length) (hb : b' < 4294967296) (hs : s' < 4294967296) (hd : d'.length = d.length) (ha : a' = 0 ∨ (0 < a' ∧ wholeB s' = true ∧ a' < s')) (hst : st' = 0 ∨ (160 ≤ st' ∧ st' ≤ 165)) (hf : f'.length ≤ 8) (hr : ∀ r ∈ f', RightP m.length ((d.map ofB).length / 128) r) : Rt m' b' s' a' st' d' f' := by
  refine ⟨h.vm.of_len hm, hb, hs, by rw [hd]; exact h.hd, ?_, hst, ?_, hf, fun r hr' => ?_⟩
  · dsimp only
    rcases ha with ha | ⟨h1, h2, h3⟩
    · exact .inl (by omega)
    · exact .inr ⟨by omega, h2, by omega⟩
  · show (d'.map ofB).length / 128 ≤ 64
    have := h.secs
    rw [List.length_map] at this ⊢; rw [hd]; exact this
  · have := hr r hr'
    rw [hm]
    show rightB m.length ((d'.map ofB).length / 128) r = true
    have e : (d'.map ofB).length = (d.map ofB).length := by rw [List.length_map, List.length_map, hd]
    rw [e]
    exact rightB_t this
theorem Rt.port {m d : List UInt8} {b s a val : Nat} {st port : Int} {f : List RI} {inn : Bool} (h : Rt m b s a st d f) (hv : val < 4294967296) {p : PO} (hp : port1 b s ((d.map ofB).length / 128) ⟨a, st, f, m, false⟩ inn port val = p) :
    (∀ k, Calls0 (evCall FN (k + 10800)) 14 [biV ⟨b, s, a, st, d, f⟩, memV m, .agg [.bool inn, .int .i64 port, .int .u32 val]] (.tup [biV ⟨p.b, p.s, p.a, p.st, d, p.f⟩, diV ⟨p.m, p.v, p.r, p.ok⟩])) ∧
    (∀ k, Calls0 (evCall FN (k + 10800)) 16 [biV ⟨b, s, a, st, d, f⟩, memV m, .agg [.bool inn, .int .i64 port, .int .u32 val]] (.agg (biC ⟨p.b, p.s, p.a, p.st, d, p.f⟩ ++ diC ⟨p.m, p.v, p.r, p.ok⟩))) ∧
    Rt p.m p.b p.s p.a p.st d p.f := by
  have hst : 0 ≤ st ∧ st < 4294967296 := by have := h.st; omega
  have hr : ∀ r ∈ f, RightP m.length ((d.map ofB).length / 128) r := fun r hr => h.right hr
  have hn := h.nr
  subst hp
  cases inn
  · refine ⟨fun k => s14o (k := k) (port := port) (val := val) h.vm h.hb h.hs h.at h.secs h.f, fun k => s16o (k := k) (port := port) (val := val) h.vm h.hb h.hs h.at h.secs h.f, ?_⟩
    unfold port1
    rw [if_neg (by simp)]
    split
    · exact h.next rfl hv h.hs rfl (.inl rfl) h.st h.f hr
    · split
      · exact h.next rfl h.hb hv rfl (.inl rfl) h.st h.f hr
      · split
        · exact h.next hn.len h.hb h.hs rfl hn.a hn.st hn.f hn.right
        · exact h
  · refine ⟨fun k => s14i (k := k) (port := port) (val := val) hst, fun k => s16i (k := k) (port := port) (val := val) hst, ?_⟩
    unfold port1
    rw [if_pos rfl]
    split
    · exact h
    · split
      · exact h
      · split
        · exact h.next rfl h.hb h.hs rfl h.at0 (.inl rfl) h.f hr
        · exact h
/-- A request that is taken off. -/
def offL (f : List RI) (j : Nat) : List RI := f.take j ++ f.drop (j + 1)
theorem ris_off (f : List RI) (j : Nat) : risV (f.take j) ++ risV (f.drop (j + 1)) = risV (offL f j) := by unfold offL risV; rw [List.flatMap_append]
theorem off_mem {f : List RI} {j : Nat} {r : RI} (h : r ∈ offL f j) : r ∈ f := by
  rcases List.mem_append.1 h with h | h
  · exact List.mem_of_mem_take h
  · exact List.mem_of_mem_drop h
theorem off_len {f : List RI} {j : Nat} (h : j < f.length) : (offL f j).length = f.length - 1 := by
  unfold offL; rw [List.length_append, List.length_take, List.length_drop]; omega
/-- What the completion of a request does to the memory, and to the disk. -/
def doneM (m d : List UInt8) (b q : Nat) (w : Bool) (p : Pt) (t : List Pt) : List UInt8 := if w then markB m b 3 (ix (p :: t)) else markB (scat m t (secB d q (rm t))).1 b 3 (ix (p :: t))
def doneD (m d : List UInt8) (q : Nat) (w : Bool) (t : List Pt) : List UInt8 := if w then putB d (q * 128) (gath m t) else d
theorem doneM_len {m d : List UInt8} {D b s q : Nat} {w : Bool} {p : Pt} {t : List Pt} (h : VM m) (hr : RN m.length D b s w q p t) : (doneM m d b q w p t).length = m.length := by
  have hrv := rn_rv h hr
  have hj : ∀ j ∈ ix (p :: t), j < s := fun j hj => by
    obtain ⟨x, hx, rfl⟩ := List.mem_map.1 hj
    exact (hr.one x hx).1
  unfold doneM
  split
  · exact markB_len hrv hj
  · have hin : InM m.length t := fun x hx _ => (hr.one x (List.mem_cons_of_mem _ hx)).2.2.2
    have e : (scat m t (secB d q (rm t))).1.length = m.length := (scat_props (ys := secB d q (rm t)) (n := m.length) (l := t) (r := (m, 0)) hin rfl (Nat.zero_le _)).1
    have hS : RV (scat m t (secB d q (rm t))).1 b s := ⟨h.of_len e, hrv.hs, hrv.hb, by rw [e]; exact hrv.le⟩
    rw [markB_len hS hj, e]
theorem doneD_len {m d : List UInt8} {D b s q : Nat} {w : Bool} {p : Pt} {t : List Pt} (hr : RN m.length D b s w q p t) (hq : q * 128 + 128 ≤ d.length) : (doneD m d q w t).length = d.length := by
  unfold doneD
  split
  · next hw =>
    subst hw
    have := gath_128 hr
    exact putB_length (by omega)
  · rfl
theorem Rt.done {m d : List UInt8} {b0 s0 a j b s q : Nat} {st : Int} {f : List RI} {w : Bool} {p : Pt} {t : List Pt} (h : Rt m b0 s0 a st d f) (hj : f[j]? = some ⟨b, s, q, w, (p :: t).map Pt.toI⟩) (hr : RN m.length ((d.map ofB).length / 128) b s w q p t) :
    (∀ k, Calls0 (evCall FN (k + 10800)) 15 [biV ⟨b0, s0, a, st, d, f⟩, memV m, .int .i64 j] (.tup [biV ⟨b0, s0, a, st, doneD m d q w t, offL f j⟩, diV ⟨doneM m d b q w p t, 0, true, true⟩])) ∧
    (∀ k, Calls0 (evCall FN (k + 10800)) 17 [biV ⟨b0, s0, a, st, d, f⟩, memV m, .int .i64 j] (.agg (biC ⟨b0, s0, a, st, doneD m d q w t, offL f j⟩ ++ diC ⟨doneM m d b q w p t, 0, true, true⟩))) ∧
    Rt (doneM m d b q w p t) b0 s0 a st (doneD m d q w t) (offL f j) := by
  have hdl := h.hd
  have hq : q * 128 + 128 ≤ d.length := by have := hr.q; rw [List.length_map] at this; omega
  refine ⟨fun k => ?_, fun k => ?_, ?_⟩
  · cases w
    · have := s15r (k := k) (b0 := b0) (s0 := s0) (at' := a) (st := st) h.vm hr h.f hj
      rw [ris_off] at this; exact this
    · have := s15w (k := k) (b0 := b0) (s0 := s0) (at' := a) (st := st) h.vm hr h.f hdl h.secs hj
      rw [ris_off] at this; exact this
  · cases w
    · have := s17r (k := k) (b0 := b0) (s0 := s0) (at' := a) (st := st) h.vm hr h.f hj
      rw [ris_off] at this; exact this
    · have := s17w (k := k) (b0 := b0) (s0 := s0) (at' := a) (st := st) h.vm hr h.f hdl h.secs hj
      rw [ris_off] at this; exact this
  · have hjl : j < f.length := (List.getElem?_eq_some_iff.1 hj).1
    have hf := h.f
    exact h.next (doneM_len h.vm hr) h.hb h.hs (doneD_len hr hq) h.at0 h.st (by rw [off_len hjl]; omega) fun r hr' => h.right (off_mem hr')
/-- Completion, whatever number is given. -/
theorem Rt.any {m d : List UInt8} {b s a : Nat} {st j : Int} {f : List RI} (h : Rt m b s a st d f) : ∃ (m' d' : List UInt8) (f' : List RI) (r : Bool),
    (∀ k, Calls0 (evCall FN (k + 10800)) 15 [biV ⟨b, s, a, st, d, f⟩, memV m, .int .i64 j] (.tup [biV ⟨b, s, a, st, d', f'⟩, diV ⟨m', 0, r, r⟩])) ∧
    (∀ k, Calls0 (evCall FN (k + 10800)) 17 [biV ⟨b, s, a, st, d, f⟩, memV m, .int .i64 j] (.agg (biC ⟨b, s, a, st, d', f'⟩ ++ diC ⟨m', 0, r, r⟩))) ∧ Rt m' b s a st d' f' := by
  by_cases hj : j < 0 ∨ (f.length : Int) ≤ j
  · exact ⟨m, d, f, false, fun k => s15x (k := k) hj, fun k => s17x (k := k) hj, h⟩
  · obtain ⟨i, rfl⟩ : ∃ i : Nat, j = i := ⟨j.toNat, by omega⟩
    obtain ⟨r, hri⟩ : ∃ r, f[i]? = some r := ⟨_, List.getElem?_eq_getElem (by omega)⟩
    obtain ⟨q, p, t, e, hr⟩ := right_nat (h.right (List.mem_of_getElem? hri))
    rw [e] at hri
    obtain ⟨h1, h2, h3⟩ := h.done hri hr
    exact ⟨_, _, _, true, h1, h2, h3⟩
end Go.Proofs.Ythplidagfcdibaa

/- BlockPortsAsSpecified, BlockNotifiesAsSpecified: what they answer. Condition: the arguments are such as their types hold. -/
namespace Go.Proofs.Ythplidagfcdibaa
open Go.Abs
variable {k : Nat}
/-- A device as its type holds it. -/
structure Raw (x : BI) : Prop where
  hb : x.b < 4294967296
  hs : x.s < 4294967296
  hd : x.d.length % 128 = 0
  hr : ∀ r ∈ x.f, r.b < 4294967296 ∧ r.s < 4294967296
theorem few_ok {m : List UInt8} {x : BI} (h : FewP m x) (hx : Raw x) : secs x < 1000000 ∧ x.f.length ≤ 100 ∧ ∀ r ∈ x.f, RIok r := by
  obtain ⟨f1, f2, f3, f4⟩ := h
  refine ⟨by omega, by omega, fun r hr => ⟨(hx.hr r hr).1, (hx.hr r hr).2, ?_⟩⟩
  have := f1 r (by rw [List.take_of_length_le (by omega)]; exact hr)
  omega
set_option maxRecDepth 100000 in
set_option maxHeartbeats 4000000 in
theorem s3 {x : BI} {m : List UInt8} {p val : Nat} {inn : Bool} {port kk : Int} (hp : m.length = 128 * p) (hx : Raw x) (hv : val < 4294967296) : Calls0 (evCall FN (k + 20000)) 3 [biV x, memV m, .agg [.bool inn, .int .i64 port, .int .u32 val], .int .i64 kk] (.bool true) := by
  have c11 : Calls0 (evCall FN (k + 19999)) 11 [] (.bool true) := s11.fuel (k := 300) (by omega)
  have c9 : Calls0 (evCall FN (k + 19999)) 9 [biV x, memV m] (.bool (fewB m x)) := s9 (k := k + 19899)
  refine q_call0 fn3 fun T H E lv => ?_
  by_cases hF : FewP m x
  · rw [fewB_t hF] at c9
    obtain ⟨g1, g2, g3⟩ := few_ok hF hx
    have hpl : p ≤ 16 := by have := hF.2.1; rw [List.length_map] at this; omega
    by_cases h0 : p = 0
    · have c10 : Calls0 (evCall FN (k + 19999)) 10 [memV m] (.bool false) := s10f (k := k + 19998) hp (.inl h0)
      dsimp only [biV, biC] at c9 ⊢
      repeat (first | refine stN ?_ | intro E)
      exact q_ret (.inr rfl) rfl rfl rfl rfl rfl rfl
    · have hm : VM m := ⟨p, by omega, by omega, hp⟩
      have c10 : Calls0 (evCall FN (k + 19999)) 10 [memV m] (.bool true) := s10t (k := k + 19998) hm
      have c12 : Calls0 (evCall FN (k + 19999)) 12 [biV x, memV m] (.bool (validB m.length x)) := s12 (k := k + 19399) hm hx.hb hx.hs g1 g2 g3
      have c13 : Calls0 (evCall FN (k + 19999)) 13 [biV x, memV m] (.bool (validB m.length x)) := s13 (k := k + 19399) hm hx.hb hx.hs g1 g2 g3
      by_cases hV : ValidP m.length x
      · rw [validB_t hV] at c12 c13
        obtain ⟨b, s, at', st, d, f⟩ := x
        obtain ⟨a, rfl, hR⟩ := rt_of hm hx.hb hx.hs hx.hd hV
        obtain ⟨P, hP⟩ : ∃ P, port1 b s ((d.map ofB).length / 128) ⟨a, st, f, m, false⟩ inn port val = P := ⟨_, rfl⟩
        obtain ⟨p1, p2, p3⟩ := hR.port hv hP
        obtain ⟨m', d', f', r, q1, q2, q3⟩ := hR.any (j := kk)
        have c14 := p1 (k + 9199)
        have c16 := p2 (k + 9199)
        have c15 := q1 (k + 9199)
        have c17 := q2 (k + 9199)
        have c18 : Calls0 (evCall FN (k + 19999)) 18 [biV ⟨P.b, P.s, P.a, P.st, d, P.f⟩, biV ⟨P.b, P.s, P.a, P.st, d, P.f⟩] (.bool true) := s18 (k := k + 14698) p3.sml
        have d18 : Calls0 (evCall FN (k + 19999)) 18 [biV ⟨b, s, a, st, d', f'⟩, biV ⟨b, s, a, st, d', f'⟩] (.bool true) := s18 (k := k + 14698) q3.sml
        have c19 : Calls0 (evCall FN (k + 19999)) 19 [diV ⟨P.m, P.v, P.r, P.ok⟩, diV ⟨P.m, P.v, P.r, P.ok⟩] (.bool true) := s19 (k := k + 19699) p3.vm
        have d19 : Calls0 (evCall FN (k + 19999)) 19 [diV ⟨m', 0, r, r⟩, diV ⟨m', 0, r, r⟩] (.bool true) := s19 (k := k + 19699) q3.vm
        obtain ⟨Pb, Ps, Pa, Pst, Pf, Pm, Pv, Pr, Pok⟩ := P
        dsimp only [biV, biC, diV, diC, List.cons_append, List.nil_append] at c9 c12 c13 c14 c15 c16 c17 c18 d18 c19 d19 ⊢
        repeat (first | refine stN ?_ | intro E)
        exact q_ret (.inr rfl) rfl rfl rfl rfl rfl rfl
      · rw [validB_f hV] at c12 c13
        dsimp only [biV, biC] at c9 c12 c13 ⊢
        repeat (first | refine stN ?_ | intro E)
        exact q_ret (.inr rfl) rfl rfl rfl rfl rfl rfl
  · rw [fewB_f hF] at c9
    dsimp only [biV, biC] at c9 ⊢
    repeat (first | refine stN ?_ | intro E)
    exact q_ret (.inr rfl) rfl rfl rfl rfl rfl rfl
end Go.Proofs.Ythplidagfcdibaa

/- BlockNotifiesAsSpecified: what it answers. Condition: the arguments are such as their types hold. -/
namespace Go.Proofs.Ythplidagfcdibaa
open Go.Abs
variable {k : Nat}
set_option maxRecDepth 100000 in
set_option maxHeartbeats 4000000 in
theorem s4 {x : BI} {m dd : List UInt8} {p n : Nat} (hp : m.length = 128 * p) (hx : Raw x) (hd : dd.length = 128 * n) (hn : n ≤ maxLen) : Calls0 (evCall FN (k + 20000)) 4 [biV x, memV m, csl 128 (dd.map ofB)] (.bool true) := by
  have c11 : Calls0 (evCall FN (k + 19999)) 11 [] (.bool true) := s11.fuel (k := 300) (by omega)
  have c20 : Calls0 (evCall FN (k + 19999)) 20 [biV x, memV m] (.bool (smallB m x)) := s20 (k := k + 19299) hp hx.hb hx.hs hx.hr
  have hdv : (dd.map ofB).length / 128 = n := by rw [List.length_map]; omega
  refine q_call0 fn4 fun T H E lv => ?_
  by_cases hS : FewP m x ∧ VM m ∧ ValidP m.length x
  · rw [smallB_t hS] at c20
    obtain ⟨_, hm, hV⟩ := hS
    obtain ⟨b, s, at', st, d, f⟩ := x
    obtain ⟨a, rfl, hR⟩ := rt_of hm hx.hb hx.hs hx.hd hV
    obtain ⟨P, hP⟩ : ∃ P, port1 b s ((d.map ofB).length / 128) ⟨a, st, f, m, false⟩ false 50 0 = P := ⟨_, rfl⟩
    obtain ⟨p1, p2, p3⟩ := hR.port (by omega) hP
    have c14 := p1 (k + 9199)
    have c16 := p2 (k + 9199)
    have c18 : Calls0 (evCall FN (k + 19999)) 18 [biV ⟨P.b, P.s, P.a, P.st, d, P.f⟩, biV ⟨P.b, P.s, P.a, P.st, d, P.f⟩] (.bool true) := s18 (k := k + 14698) p3.sml
    have c19 : Calls0 (evCall FN (k + 19999)) 19 [diV ⟨P.m, P.v, P.r, P.ok⟩, diV ⟨P.m, P.v, P.r, P.ok⟩] (.bool true) := s19 (k := k + 19699) p3.vm
    obtain ⟨Pb, Ps, Pa, Pst, Pf, Pm, Pv, Pr, Pok⟩ := P
    have c21 : Calls0 (evCall FN (k + 19999)) 21 [csl 128 (dd.map ofB)] _ := s21 (k := k + 19998) hd hn
    dsimp only [biV, biC, diV, diC, List.cons_append, List.nil_append] at c20 c14 c16 c18 c19 ⊢
    by_cases h1 : n ≤ 100
    · by_cases h2 : n ≤ 64
      · rw [if_pos h2] at c21
        have d18 : Calls0 (evCall FN (k + 19999)) 18 [biV ⟨0, 0, 0, 0, dd, []⟩, biV ⟨0, 0, 0, 0, dd, []⟩] (.bool true) := s18 (k := k + 14698) ⟨by dsimp only; omega, by dsimp only; omega, ⟨by dsimp only; omega, by dsimp only; omega⟩, ⟨by dsimp only; omega, by dsimp only; omega⟩, Nat.zero_le _, by show dd.length ≤ 8192; omega, by show dd.length % 128 = 0; omega, fun r hr => by cases hr⟩
        have d18 : Calls0 (evCall FN (k + 19999)) 18 [.agg [.int .u32 0, .int .u32 0, .int .i64 0, .int .i64 0, csl 128 (dd.map ofB), .sl 1 0 []], .agg [.int .u32 0, .int .u32 0, .int .i64 0, .int .i64 0, csl 128 (dd.map ofB), .sl 1 0 []]] (.bool true) := d18
        repeat (first | refine stN ?_ | intro E)
        exact q_ret (.inr rfl) rfl rfl rfl rfl rfl rfl
      · rw [if_neg h2] at c21
        have hz : (0 : Nat) = 128 ∨ ([] : List AV) = [] := .inr rfl
        repeat (first | refine stN ?_ | intro E)
        exact q_ret (.inr rfl) rfl rfl rfl rfl rfl rfl
    · repeat (first | refine stN ?_ | intro E)
      exact q_ret (.inr rfl) rfl rfl rfl rfl rfl rfl
  · rw [smallB_f hS] at c20
    dsimp only [biV, biC] at c20 ⊢
    repeat (first | refine stN ?_ | intro E)
    exact q_ret (.inr rfl) rfl rfl rfl rfl rfl rfl
end Go.Proofs.Ythplidagfcdibaa
