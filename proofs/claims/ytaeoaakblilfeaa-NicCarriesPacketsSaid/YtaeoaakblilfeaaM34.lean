/- Part 34 of the texts on which proofs about this seat rest: each says what it proves at its own head. No condition. -/
import Derived.Test.YtaeoaakblilfeaaM33
set_option linter.unusedVariables false
set_option linter.unusedSimpArgs false
/- Where a device writes, what it sends: of the model. Condition: the memory is valid, the ring is there. -/
namespace Go.Proofs.Ytaeoaakblilfeaa
open Go.Abs
def Stat (b s t : Nat) : Prop := ∃ j, j < s ∧ b + 16 * j + 12 ≤ t ∧ t < b + 16 * j + 16
theorem bt_takeM {m : List UInt8} {b s i t : Nat} (h : RV m b s) (hi : i < s) (ht : ¬ Stat b s t) : bt (takeM m b s i) t = bt m t := by
  have hle := h.le
  have out : ∀ j, j < s → t < b + 16 * j + 12 ∨ b + 16 * j + 16 ≤ t := fun j hj => by
    apply Decidable.byContradiction
    intro hn
    exact ht ⟨j, hj, by omega, by omega⟩
  by_cases he : takeE m b s i = 0
  · obtain ⟨h1, h2, _⟩ := take_good hi he
    rw [h2]
    exact bt_markB_ne (fun j hj => by have := (h1.one j hj).1; omega) fun j hj => out j (h1.one j hj).1
  · obtain ⟨_, h2, _⟩ := take_bad he
    rw [h2]; split
    · exact bt_mark1_ne (by omega) (out i hi)
    · rfl
theorem stat_out {b s t : Nat} (ht : ¬ Stat b s t) : ∀ j, j < s → t < b + 16 * j + 12 ∨ b + 16 * j + 16 ≤ t := fun j hj => by
  apply Decidable.byContradiction
  intro hn
  exact ht ⟨j, hj, by omega, by omega⟩
theorem bt_tserve {b s i t : Nat} {x : TS} (h : RV x.m b s) (hi : i < s) (ht : ¬ Stat b s t) : bt (tserve b s i x).m t = bt x.m t := by
  have hm := take_rv h hi
  have hle := hm.le
  have e := bt_takeM h hi ht
  have out := stat_out ht
  unfold tserve
  split
  · exact e
  · next he =>
    split
    · exact (bt_mark1_ne (by omega) (out i hi)).trans e
    · have hjs := fun j hj => ((take_good hi (Decidable.not_not.1 he)).1.one j hj).1
      exact (bt_markB_ne (fun j hj => by have := hjs j hj; omega) fun j hj => out j (hjs j hj)).trans e
def OutOK (o : List (List UInt8)) : Prop := ∀ y ∈ o, 1 ≤ y.length ∧ y.length ≤ 512
theorem psum_add : ∀ (l : List Pt) (n : Nat), l.foldl (fun n p => n + p.n) n = n + psum l
  | [], n => rfl
  | q :: l, n => by
    rw [List.foldl_cons, psum_add l, show psum (q :: l) = l.foldl (fun n p => n + p.n) (0 + q.n) from rfl, psum_add l]
    omega
theorem psum_cons (p : Pt) (l : List Pt) : psum (p :: l) = p.n + psum l := by
  rw [show psum (p :: l) = l.foldl (fun n p => n + p.n) (0 + p.n) from rfl, psum_add l]; omega
theorem gath_len {M : List UInt8} : ∀ {l : List Pt}, (∀ p ∈ l, p.w = false ∧ p.a + p.n ≤ M.length) → (gath M l).length = psum l
  | [], _ => rfl
  | p :: l, h => by
    obtain ⟨h1, h2⟩ := h p List.mem_cons_self
    have ih := gath_len (M := M) (l := l) fun q hq => h q (List.mem_cons_of_mem _ hq)
    unfold gath at *
    rw [List.flatMap_cons, List.length_append, ih, psum_cons, rdP, h1]
    simp only [Bool.false_eq_true, if_false, List.length_take, List.length_drop]
    omega
theorem mfE_zero {l : List Pt} {w : Bool} {lo hi : Nat} (h : mfE l w lo hi = 0) : (∀ p ∈ l, p.w = w) ∧ lo ≤ psum l ∧ psum l ≤ hi := by
  unfold mfE at h
  split at h
  · cases h
  next hn =>
  split at h
  · cases h
  next hm =>
  refine ⟨fun p hp => ?_, by omega, by omega⟩
  apply Decidable.byContradiction
  intro hne
  exact hn (List.any_eq_true.2 ⟨p, hp, by simpa using hne⟩)
theorem psum_pos {M : List UInt8} {l : List Pt} (h : PO M l) : 1 ≤ psum l := by
  obtain ⟨p, l', rfl⟩ : ∃ p l', l = p :: l' := by
    cases l with
    | nil => have := h.ne; simp at this
    | cons p l => exact ⟨p, l, rfl⟩
  have h1 := (h.one p List.mem_cons_self).1
  rw [psum_cons]; omega
theorem tserve_out {b s i : Nat} {x : TS} (h : RV x.m b s) (hi : i < s) (ho : OutOK x.o) : OutOK (tserve b s i x).o := by
  unfold tserve
  split
  · exact ho
  next he =>
  split
  · exact ho
  next hm =>
  intro y hy
  rcases List.mem_append.1 hy with hy | hy
  · exact ho y hy
  · rw [List.mem_singleton] at hy
    subst hy
    have hpo := pts_ok h hi (Decidable.not_not.1 he)
    obtain ⟨z1, z2, z3⟩ := mfE_zero (Decidable.not_not.1 hm)
    rw [gath_len fun p hp => ⟨z1 p hp, (hpo.one p hp).2.2⟩]
    exact ⟨psum_pos hpo, z3⟩
theorem trun_w {b s t : Nat} (ht : ¬ Stat b s t) : ∀ (n : Nat) (x : TS), TI b s x → bt (trun b s n x).m t = bt x.m t
  | 0, x, h => rfl
  | n + 1, x, h => by
    unfold trun
    split
    · rfl
    · next hf =>
      have hs := h.m.hs
      have hlt := fstR_lt (m := x.m) (b := b) (s := s) (pos := x.a) (by omega) s 0 (by simpa using hf)
      exact (trun_w ht n _ (tserve_ti h hlt)).trans (bt_tserve h.m hlt ht)
theorem trun_out {b s : Nat} : ∀ (n : Nat) (x : TS), TI b s x → OutOK x.o → OutOK (trun b s n x).o
  | 0, x, h, ho => ho
  | n + 1, x, h, ho => by
    unfold trun
    split
    · exact ho
    · next hf =>
      have hs := h.m.hs
      have hlt := fstR_lt (m := x.m) (b := b) (s := s) (pos := x.a) (by omega) s 0 (by simpa using hf)
      exact trun_out n _ (tserve_ti h hlt) (tserve_out h.m hlt ho)
structure PortOK (b s : Nat) (m m' : List UInt8) (o : List (List UInt8)) : Prop where
  len : m'.length = m.length
  few : o.length ≤ 8
  out : OutOK o
  chk : o ≠ [] → chkN m.length b s = 0 ∧ o.length ≤ s
  byte : ∀ t, bt m' t ≠ bt m t → chkN m.length b s = 0 ∧ Stat b s t
theorem port_none (b s : Nat) (m : List UInt8) : PortOK b s m m [] := ⟨rfl, Nat.zero_le _, fun y hy => (by cases hy), fun h => absurd rfl h, fun t h => absurd rfl h⟩
theorem portC_w {tb ts rb rs ta ra st dr : Nat} {m : List UInt8} (h : VM m) (ha : wholeN ts → ta < ts) (i : Bool) (p : Int) (w : Nat) : ∃ (tb' ts' rb' rs' ta' ra' st' v : Nat) (m' : List UInt8) (o : List (List UInt8)) (r ok : Bool), portC tb ts rb rs ta ra st dr m i p w = doC tb' ts' rb' rs' ta' ra' st' dr m' v (csl 1 (outV o)) r ok ∧ PortOK tb ts m m' o := by
  have hn := port_none tb ts m
  unfold portC
  cases i
  · rw [if_neg (by decide)]
    split
    · exact ⟨_, _, _, _, _, _, _, _, _, [], _, _, rfl, hn⟩
    split
    · exact ⟨_, _, _, _, _, _, _, _, _, [], _, _, rfl, hn⟩
    split
    · exact ⟨_, _, _, _, _, _, _, _, _, [], _, _, rfl, hn⟩
    split
    · exact ⟨_, _, _, _, _, _, _, _, _, [], _, _, rfl, hn⟩
    split
    · split
      · exact ⟨_, _, _, _, _, _, _, _, _, [], _, _, rfl, hn⟩
      · next hc =>
        have hc := Decidable.not_not.1 hc
        have hrv := chk_rv h hc
        have hs := hrv.hs
        have hti : TI tb ts ⟨m, [], false, ta, st⟩ := ⟨hrv, ha hrv.hs⟩
        obtain ⟨h1, h2, h3⟩ := trun_ti ts _ hti
        have h3 : (trun tb ts ts ⟨m, [], false, ta, st⟩).o.length ≤ 0 + ts := h3
        refine ⟨_, _, _, _, _, _, _, _, _, _, _, _, rfl, ⟨h2, by omega, trun_out _ _ hti (fun y hy => (by cases hy)), fun _ => ⟨hc, by omega⟩, fun t hne => ⟨hc, ?_⟩⟩⟩
        apply Classical.byContradiction
        intro ht
        exact hne (trun_w ht _ _ hti)
    · exact ⟨_, _, _, _, _, _, _, _, _, [], _, _, rfl, hn⟩
  · rw [if_pos rfl]
    (repeat' split) <;> exact ⟨_, _, _, _, _, _, _, _, _, [], _, _, rfl, hn⟩
def Named (m : List UInt8) (b s t : Nat) : Prop := ∃ j, j < s ∧ wr m b j = true ∧ dw m b j 0 ≤ t ∧ t < dw m b j 0 + dw m b j 1
theorem rcv_w {b s a st dr : Nat} {m pk : List UInt8} (h : VM m) (ha : wholeN s → a < s) : ((rcv b s a st dr m pk).ok = true → chkN m.length b s = 0) ∧ ∀ t, bt (rcv b s a st dr m pk).m t ≠ bt m t → chkN m.length b s = 0 ∧ ((b ≤ t ∧ t < b + 16 * s) ∨ Named m b s t) := by
  have nofl : ∀ {P : Prop}, (false = true) → P := fun h => Bool.noConfusion h
  unfold rcv
  split
  · exact ⟨fun h => nofl h, fun t h => absurd rfl h⟩
  split
  · exact ⟨fun h => nofl h, fun t h => absurd rfl h⟩
  next hc =>
  have hc := Decidable.not_not.1 hc
  split
  · exact ⟨fun h => nofl h, fun t h => absurd rfl h⟩
  next hf =>
  refine ⟨fun _ => hc, fun t hne => ⟨hc, ?_⟩⟩
  have hrv := chk_rv h hc
  have hs := hrv.hs
  have hj := fstR_lt (m := m) (b := b) (s := s) (pos := a) (by omega) s 0 (by simpa using hf)
  generalize (fstR m b s a s 0).1 = j at hj hne
  apply Classical.byContradiction
  intro hn
  have hin : ¬ (b ≤ t ∧ t < b + 16 * s) := fun h => hn (.inl h)
  have hnm : ¬ Named m b s t := fun h => hn (.inr h)
  have hst : ¬ Stat b s t := by
    rintro ⟨q, hq, h1, h2⟩
    exact hin ⟨by omega, by omega⟩
  have out := stat_out hst
  have hm := take_rv hrv hj
  have e := bt_takeM hrv hj hst
  have hle := hm.le
  apply hne
  unfold rserve
  split
  · exact e
  next he =>
  split
  · exact (bt_mark1_ne (by omega) (out j hj)).trans e
  · have hpo := pts_ok hrv hj (Decidable.not_not.1 he)
    have hS := scat_rv (pk := pk) hm hpo
    have hjs : ∀ q ∈ takeL m b s j, q < s := fun q hq => ((take_good hj (Decidable.not_not.1 he)).1.one q hq).1
    have hM := hS.markB (w := 3) hjs
    have hSl := hS.le
    have hMl := hM.le
    have e1 : bt (scat (takeM m b s j) (ptsOf m b s j) pk).1 t = bt (takeM m b s j) t := by
      apply Decidable.byContradiction
      intro hne2
      have := scat_cov (ys := pk) (t := t) (n := (takeM m b s j).length) (l := ptsOf m b s j) (r := (takeM m b s j, 0)) hpo.inM rfl (Nat.zero_le _) (fun h => hne2 h.symm)
      obtain ⟨p, hp, hcv⟩ := List.any_eq_true.1 this
      obtain ⟨hp1, hp2⟩ := List.mem_filter.1 hp
      obtain ⟨q, hq, rfl⟩ := List.mem_map.1 hp1
      unfold cov at hcv
      simp only [Bool.and_eq_true, decide_eq_true_eq] at hcv
      exact hnm ⟨q, hjs q hq, hp2, hcv.1, hcv.2⟩
    have e2 : bt (markB (scat (takeM m b s j) (ptsOf m b s j) pk).1 b 3 (takeL m b s j)) t = bt (scat (takeM m b s j) (ptsOf m b s j) pk).1 t :=
      bt_markB_ne (fun q hq => by have := hjs q hq; omega) fun q hq => out q (hjs q hq)
    refine (bt_putB_ne (by rw [le4_length]; omega) ?_).trans (e2.trans (e1.trans e))
    rw [le4_length]
    have : t < b ∨ b + 16 * s ≤ t := by omega
    omega
end Go.Proofs.Ytaeoaakblilfeaa
