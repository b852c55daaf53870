/- Part 19 of the texts on which proofs about this seat rest: each says what it proves at its own head. No condition. -/
import Derived.Test.YthplidagfcdibaaM18
set_option linter.unusedVariables false
set_option linter.unusedSimpArgs false
/- A list of integers at the beginning of bytes is read, by the program. Condition: there are at most 100000 bytes. -/
namespace Go.Proofs.Ythplidagfcdibaa
open Go.Abs
variable {k : Nat}
def Gets (R : List Int × Nat × Nat) (r : AV) (hs : Hs) : Prop := ∃ br z, r = .tup [.sl br z (iV R.1), .int .i64 R.2.1, .int .i64 R.2.2] ∧ ((br = 0 ∧ z = 0 ∧ iV R.1 = []) ∨ (4 ≤ br ∧ z = 1)) ∧ hs.n = 0
set_option maxRecDepth 100000 in
set_option maxHeartbeats 4000000 in
theorem s85b {b : List UInt8} (hb : b.length ≤ 100000) {T : Nat → AV} {H : Hp} {E : Nat → Option TypeId} {lv : Nat → Bool} {c : Nat} (h4 : 4 ≤ c) : Wp (evCall FN (k + 100299)) (k + 100299) f85.body ⟨slots (argSlots 0 [csl 1 (b.map ofB), .int .i64 1, .fn 86 [] []]) T, objs [] H, E, 0, lv, c⟩ (RetS f85 0 (Gets (getL b))) := by
  have hlen : (b.map ofB).length / 1 = b.length := by simp
  have c108 : Calls0 (evCall FN (k + 100299)) 108 [csl 1 (b.map ofB), .int .i64 1] (tripN (lenI b 1)) := s108 (k := k + 100099) (least := 1) hb (by omega)
  obtain ⟨g1, g2, g3⟩ := lenI_use b
  unfold getL
  unfold tripN at c108
  generalize lenI b 1 = G at *
  obtain ⟨n, u, e⟩ := G
  dsimp only at g1 g2 g3 c108 ⊢
  by_cases he : e ≠ 0
  · rw [if_pos he]
    repeat (first | refine stN ?_ | intro E)
    exact q_rets (.inr rfl) rfl rfl rfl rfl rfl ⟨0, 0, rfl, .inl ⟨rfl, rfl, rfl⟩, rfl⟩
  rw [if_neg he]
  have he : e = 0 := by omega
  subst he
  generalize hR : getsF b n u [] = R
  repeat (first | refine stN ?_ | intro E)
  refine q_loop (α := Nat × Nat × List Int × Nat × Nat) (LInv.mk (fun p => p.1 ≤ n ∧ p.2.1 ≤ b.length ∧ p.2.2.1.length = p.1 ∧ getsF b (n - p.1) p.2.1 p.2.2.1 = R) (fun p => n - p.1)
    (fun p => [(27, .int .i64 (p.1 : Int)), (26, .int .i64 (n : Int)), (12, .sl p.2.2.2.1 p.2.2.2.2 (iV p.2.2.1)), (10, .int .i64 (p.2.1 : Int)), (2, .fn 86 [] []), (0, csl 1 (b.map ofB))]) (fun p => []))
    (fun p lv c => 4 ≤ c ∧ LA 1 lv c p.2.2.2.1 p.2.2.2.2 (iV p.2.2.1)) (0, u, [], 0, 0) ⟨Nat.zero_le _, g1, rfl, hR⟩ ⟨h4, LA.nil⟩ (show n - 0 < k + 100299 by omega) ⟨rfl, rfl, rfl, rfl, rfl, rfl, trivial⟩ trivial ?_
  clear hR h4
  rintro ⟨i, a, l, br, z⟩ lv c T H E ⟨hi, ha, hll, hR⟩ ⟨hc4, hL⟩ hμ
  dsimp only at hi ha hll hR hL ⊢
  obtain ⟨c', rfl⟩ : ∃ c', c = c' + 4 := ⟨c - 4, by omega⟩
  rcases Nat.lt_or_ge i n with hin | hin
  · rw [show n - i = (n - (i + 1)) + 1 by omega] at hR
    unfold getsF at hR
    have hdl : (b.drop a).length = b.length - a := List.length_drop
    obtain ⟨H', e1⟩ := v77 (k := k + 100199) (b := b.drop a) (by omega) (H := objs [] H) (E := E) (lv := lv) (c := c' + 4)
    have e1 : (evCall FN (k + 100299)).call 86 ([] ++ [csl 1 ((b.drop a).map ofB)]) ⟨objs [] H, 0, lv, c' + 4⟩ E = some (trip (getI (b.drop a)), ⟨H', 0, lv, c' + 4⟩) := e1
    obtain ⟨g4, g5, g6⟩ := getI_use (b.drop a)
    unfold trip at e1
    have hdr := drop_ofB b a
    generalize getI (b.drop a) = G at *
    obtain ⟨x, w, e⟩ := G
    dsimp only at g4 g5 e1 hR
    repeat (first | refine stN ?_ | intro E)
    apply p_slL_lo
    · exact rfl
    · exact csz_ok _ _
    · exact rfl
    · exact asB_n (by omega)
    rw [hdr]
    repeat (first | refine stN ?_ | intro E)
    apply p_callvZ
    · exact rfl
    · exact rfl
    · exact e1
    by_cases he : e ≠ 0
    · rw [if_pos he] at hR
      subst hR
      repeat (first | refine stN ?_ | intro E)
      apply n_ret
      repeat (first | refine stN ?_ | intro E)
      exact q_rets (.inr rfl) rfl rfl rfl rfl rfl ⟨0, 0, rfl, .inl ⟨rfl, rfl, rfl⟩, rfl⟩
    · rw [if_neg he] at hR
      have he : e = 0 := by omega
      subst he
      repeat (first | refine stN ?_ | intro E)
      apply p_appL
      · exact rfl
      · exact rfl
      · exact rfl
      · exact hL
      · exact ⟨by omega, by omega⟩
      · rw [iV_len, room_val]; simp only [List.length_cons, List.length_nil]; omega
      intro lv' m1 m2
      rw [iV_snoc]
      repeat (first | refine stN ?_ | intro E)
      exact n_again (i + 1, a + w, l ++ [x], c' + 4, 1) ⟨show i + 1 ≤ n by omega, show a + w ≤ b.length by omega, by simp; omega, hR⟩ ⟨by omega, LA.mine (by omega) m1⟩ (show n - (i + 1) < n - i by omega) ⟨rfl, rfl, rfl, rfl, rfl, rfl, trivial⟩ trivial
  · rw [show n - i = 0 by omega] at hR
    unfold getsF at hR
    subst hR
    repeat (first | refine stN ?_ | intro E)
    apply n_exit
    repeat (first | refine stN ?_ | intro E)
    exact q_rets (.inr rfl) rfl rfl rfl rfl rfl ⟨br, z, rfl, by
      rcases hL with h | ⟨h1, _, _, h2⟩
      · exact .inl h
      · exact .inr ⟨h1, h2⟩, rfl⟩
set_option maxRecDepth 100000 in
theorem s58 {b : List UInt8} (hb : b.length ≤ 100000) : Calls0 (evCall FN (k + 100400)) 58 [csl 1 (b.map ofB)] (tripL (getL b)) := by
  refine q_call0 fn58 fun T H E lv => ?_
  obtain ⟨r, ⟨H', n', lv', c'⟩, h1, br, z, rfl, hbr, h2⟩ := q_calls (os := []) (H := H) (E := E) (n := 0) (lv := lv) (c := 4) (P := Gets (getL b)) fn85 fun T => s85b (k := k + 99) hb (Nat.le_refl _)
  have h2 : n' = 0 := h2
  subst h2
  have h1 : (evCall FN (k + 100399)).call 85 [csl 1 (b.map ofB), .int .i64 1, .fn 86 [] []] ⟨objs [] H, 0, lv, 4⟩ E = some (.tup [.sl br z (iV (getL b).1), .int .i64 (getL b).2.1, .int .i64 (getL b).2.2], ⟨H', 0, lv', c'⟩) := h1
  have hcn : canonCell (.sl br z (iV (getL b).1)) = csl 1 (iV (getL b).1) := by
    rcases hbr with ⟨rfl, rfl, e⟩ | ⟨h, rfl⟩
    · rw [e]; rfl
    · exact if_neg (by omega)
  repeat (first | refine stN ?_ | intro E)
  apply p_calls (dd := some 6)
  · exact evsS_eq rfl
  · exact h1
  show WpO _ _ ⟨slots ((6, _) :: _) _, objs [] H', _, _, _, _⟩ _
  repeat (first | refine stN ?_ | intro E)
  refine q_ret (.inr rfl) rfl rfl rfl rfl ?_ ?_
  · unfold tripL
    rw [← hcn]; rfl
  · unfold tripL
    simp [AV.flat, flatL, csl]
theorem enc_pos (n : Int) : 1 ≤ (encI n).length := by
  cases h : encI n with
  | nil => exact absurd h (encI_ne n)
  | cons x l => simp
theorem flat_pos : ∀ (l : List Int), l.length ≤ (l.flatMap encI).length
  | [] => Nat.le_refl _
  | n :: l => by
    have h1 := enc_pos n
    have h2 := flat_pos l
    rw [List.flatMap_cons, List.length_append, List.length_cons]; omega
theorem gets_enc {pre r : List UInt8} : ∀ (l acc : List Int) (a : Nat), (∀ n ∈ l, I64 n) → a = pre.length → getsF (pre ++ l.flatMap encI ++ r) l.length a acc = (acc ++ l, a + (l.flatMap encI).length, 0) := by
  intro l
  induction l generalizing pre with
  | nil => intro acc a _ _; simp [getsF]
  | cons n l ih =>
    intro acc a h ha
    have hd : (pre ++ (n :: l).flatMap encI ++ r).drop a = encI n ++ (l.flatMap encI ++ r) := by
      rw [ha, List.append_assoc, List.drop_left', List.flatMap_cons, List.append_assoc]; rfl
    have hg := getI_enc (h n List.mem_cons_self) (l.flatMap encI ++ r)
    rw [List.length_cons, getsF, hd, hg, if_neg (by simp)]
    have e : pre ++ (n :: l).flatMap encI ++ r = (pre ++ encI n) ++ l.flatMap encI ++ r := by
      rw [List.flatMap_cons]; simp
    rw [e, ih (pre := pre ++ encI n) (acc ++ [n]) (a + (encI n).length) (fun x hx => h x (List.mem_cons_of_mem _ hx)) (by rw [List.length_append, ha])]
    rw [List.flatMap_cons, List.length_append]
    simp [Nat.add_assoc]
theorem getL_enc {l : List Int} (h : ∀ n ∈ l, I64 n) (hl : l.length < 9223372036854775808) (r : List UInt8) : getL (encL l ++ r) = (l, (encL l).length, 0) := by
  have hg := getI_enc (n := (l.length : Int)) ⟨by omega, by omega⟩ (l.flatMap encI ++ r)
  have e : encL l ++ r = encI l.length ++ (l.flatMap encI ++ r) := by unfold encL; rw [List.append_assoc]
  have hp := flat_pos l
  have hlen : lenI (encL l ++ r) 1 = (l.length, (encI l.length).length, 0) := by
    unfold lenI
    rw [e, hg, if_neg (by simp), if_neg (by dsimp only; omega), if_neg (by dsimp only; simp only [List.length_append, Nat.div_one]; omega)]
    simp
  unfold getL
  rw [hlen, if_neg (by simp)]
  dsimp only
  have := gets_enc (pre := encI l.length) (r := r) l [] (encI l.length).length h rfl
  unfold encL
  rw [this, List.nil_append, List.length_append]
theorem gets_ok {b : List UInt8} : ∀ (n a : Nat) (acc l : List Int) (u : Nat), a ≤ b.length → getsF b n a acc = (l, u, 0) → ∃ l', l = acc ++ l' ∧ l'.length = n ∧ a ≤ u ∧ u ≤ b.length ∧ (∀ x ∈ l', I64 x) ∧ (b.drop a).take (u - a) = l'.flatMap encI
  | 0, a, acc, l, u, ha, h => by
    unfold getsF at h
    simp only [Prod.mk.injEq, and_true] at h
    obtain ⟨rfl, rfl⟩ := h
    exact ⟨[], by simp, rfl, Nat.le_refl _, ha, by simp, by simp⟩
  | n + 1, a, acc, l, u, ha, h => by
    unfold getsF at h
    by_cases he : (getI (b.drop a)).2.2 ≠ 0
    · rw [if_pos he] at h
      simp only [Prod.mk.injEq] at h
      exact absurd h.2.2 he
    · rw [if_neg he] at h
      have he : (getI (b.drop a)).2.2 = 0 := by omega
      obtain ⟨o1, o2, o3, o4, o5⟩ := getI_ok (b := b.drop a) (x := (getI (b.drop a)).1) (u := (getI (b.drop a)).2.1) (by rw [← he])
      generalize getI (b.drop a) = G at *
      obtain ⟨x, w, e⟩ := G
      dsimp only at o1 o2 o3 o4 o5 h
      rw [List.length_drop] at o1
      obtain ⟨l', rfl, h2, h3, h4, h5, h6⟩ := gets_ok n (a + w) (acc ++ [x]) l u (by omega) h
      refine ⟨x :: l', by simp, by simp [h2], by omega, h4, ?_, ?_⟩
      · intro y hy
        rcases List.mem_cons.1 hy with rfl | hy
        · exact o4
        · exact h5 y hy
      · rw [List.flatMap_cons, ← o5, ← h6, show u - a = w + (u - (a + w)) by omega, List.take_add, List.drop_drop]
theorem lenI_ok {b : List UInt8} {least : Nat} (he : (lenI b least).2.2 = 0) : getI b = (((lenI b least).1 : Int), (lenI b least).2.1, 0) := by
  unfold lenI at he ⊢
  generalize getI b = G at *
  obtain ⟨n, u, e⟩ := G
  dsimp only at he ⊢
  by_cases h1 : e ≠ 0
  · rw [if_pos h1] at he; exact absurd he h1
  rw [if_neg h1] at he ⊢
  by_cases h2 : n < 0
  · rw [if_pos h2] at he; simp at he
  rw [if_neg h2] at he ⊢
  by_cases h3 : (((b.length - u) / least : Nat) : Int) < n
  · rw [if_pos h3] at he; simp at he
  rw [if_neg h3]
  have h4 : n = ((n.toNat : Nat) : Int) := by omega
  have h5 : e = 0 := by omega
  subst h5
  dsimp only
  rw [← h4]
theorem getL_ok {b : List UInt8} {l : List Int} {u : Nat} (h : getL b = (l, u, 0)) : u ≤ b.length ∧ (∀ x ∈ l, I64 x) ∧ b.take u = encL l := by
  unfold getL at h
  by_cases he : (lenI b 1).2.2 ≠ 0
  · rw [if_pos he] at h
    simp only [Prod.mk.injEq] at h
    exact absurd h.2.2 he
  · rw [if_neg he] at h
    have he : (lenI b 1).2.2 = 0 := by omega
    obtain ⟨g1, g2, g3⟩ := lenI_use b
    obtain ⟨l', rfl, h2, h3, h4, h5, h6⟩ := gets_ok _ _ _ _ _ g1 h
    have hL := lenI_ok he
    obtain ⟨o1, o2, o3, o4, o5⟩ := getI_ok hL
    refine ⟨h4, h5, ?_⟩
    unfold encL
    rw [h2, ← o5, ← h6, show u = (lenI b 1).2.1 + (u - (lenI b 1).2.1) by omega, List.take_add]
    simp
end Go.Proofs.Ythplidagfcdibaa
