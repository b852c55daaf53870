/- Part 17 of the texts on which proofs about this seat rest: each says what it proves at its own head. No condition. -/
import Derived.Test.YthplidagfcdibaaM16
set_option linter.unusedVariables false
set_option linter.unusedSimpArgs false
/- A request is completed that writes the disk, and none that there is not, by the program. Condition: the memory is valid, the request is right. -/
namespace Go.Proofs.Ythplidagfcdibaa
open Go.Abs
variable {k : Nat}
end Go.Proofs.Ythplidagfcdibaa

/- A request is completed, by the reference. Condition: the memory is valid, the request is right. -/
namespace Go.Proofs.Ythplidagfcdibaa
open Go.Abs
variable {k : Nat}
end Go.Proofs.Ythplidagfcdibaa

/- The encoding of an integer, and of a list of them, by the reference. Condition: the integers fit 64 bits. -/
namespace Go.Proofs.Ythplidagfcdibaa
open Go.Abs
variable {k : Nat}
def vlF : Nat → Nat → List UInt8
  | 0, _ => []
  | j + 1, z => if z < 128 then [UInt8.ofNat z] else UInt8.ofNat (z % 128 + 128) :: vlF j (z / 128)
def zz (n : Int) : Nat := if n < 0 then (-1 - n).toNat * 2 + 1 else n.toNat * 2
def encI (n : Int) : List UInt8 := vlF 10 (zz n)
def encL (l : List Int) : List UInt8 := encI l.length ++ l.flatMap encI
theorem vlF_len : ∀ (j z : Nat), (vlF j z).length ≤ j
  | 0, _ => Nat.le_refl _
  | j + 1, z => by
    unfold vlF
    split
    · simp
    · have := vlF_len j (z / 128)
      rw [List.length_cons]; omega
theorem vlF_ne {j z : Nat} : vlF (j + 1) z ≠ [] := by
  unfold vlF; split <;> simp
theorem encI_ne (n : Int) : encI n ≠ [] := vlF_ne
theorem encI_len (n : Int) : (encI n).length ≤ 10 := vlF_len _ _
def I64 (n : Int) : Prop := -9223372036854775808 ≤ n ∧ n < 9223372036854775808
set_option maxRecDepth 100000 in
set_option maxHeartbeats 1000000 in
theorem s91 {n : Int} (h : I64 n) : evP (evCall FN (k + 100)) 91 [.int .i64 n] = some (.sl 2 1 ((encI n).map ofB)) := by
  obtain ⟨h0, h1⟩ := h
  refine q_evP fn91 rfl fun T H E lv => ?_
  obtain ⟨m, hm, hz⟩ : ∃ m : Nat, m < 9223372036854775808 ∧ ((n = m ∧ zz n = m * 2) ∨ (n < 0 ∧ -1 - n = m ∧ zz n = m * 2 + 1)) := by
    by_cases hn : n < 0
    · refine ⟨(-1 - n).toNat, by omega, .inr ⟨hn, by omega, ?_⟩⟩
      unfold zz; rw [if_pos hn]
    · refine ⟨n.toNat, by omega, .inl ⟨by omega, ?_⟩⟩
      unfold zz; rw [if_neg hn]
  have cw : IntKind.u64.wrap (m : Int) = ((m : Nat) : Int) := wu64 (by omega) (by omega)
  have em : evBin .mul (.int .u64 (m : Int)) (.int .u64 2) = some (.int .u64 ((m * 2 : Nat) : Int)) := by
    show some (AV.int .u64 (IntKind.u64.wrap ((m : Int) * 2))) = _
    rw [wu64 (by omega) (by omega)]; simp
  have ea : evBin .add (.int .u64 ((m * 2 : Nat) : Int)) (.int .u64 1) = some (.int .u64 ((m * 2 + 1 : Nat) : Int)) := by
    show some (AV.int .u64 (IntKind.u64.wrap (((m * 2 : Nat) : Int) + 1))) = _
    rw [wu64 (by omega) (by omega)]; simp
  have hE : encI n = vlF 10 (zz n) := rfl
  have hzb : zz n < 128 ^ 10 := by
    have : (128 : Nat) ^ 10 = 1180591620717411303424 := by decide +kernel
    omega
  generalize zz n = Z at hz hE hzb
  rw [hE]
  rcases hz with ⟨rfl, rfl⟩ | ⟨hn, e1, rfl⟩
  case' inr => have es : evBin .sub (.int .i64 (-1)) (.int .i64 n) = some (.int .i64 ((m : Nat) : Int)) := sub_w e1 (by omega) (by omega)
  all_goals
    repeat (first | refine stN ?_ | intro E)
    refine q_loop (α := Nat × Nat × List UInt8 × Nat × Nat) (LInv.mk (fun p => 1 ≤ p.1 ∧ p.2.1 < 128 ^ p.1 ∧ p.2.1 < 18446744073709551616 ∧ p.1 + p.2.2.1.length ≤ 10 ∧ p.2.2.1 ++ vlF p.1 p.2.1 = vlF 10 _) (fun p => p.1)
      (fun p => [(4, .sl p.2.2.2.1 p.2.2.2.2 (p.2.2.1.map ofB)), (3, .int .u64 (p.2.1 : Int))]) (fun p => []))
      (fun p lv c => 4 ≤ c ∧ LA 1 lv c p.2.2.2.1 p.2.2.2.2 (p.2.2.1.map ofB)) (10, _, [], 0, 0) ⟨by omega, hzb, by dsimp only; omega, by simp, rfl⟩ ⟨Nat.le_refl _, LA.nil⟩ (show 10 < k + 99 by omega) ⟨rfl, rfl, trivial⟩ trivial ?_
    rintro ⟨j, z, pre, br, s0⟩ lv c T H E ⟨hj, hz1, hz2, hjl, hp⟩ ⟨hc4, hL⟩ hμ
    dsimp only at hj hz1 hz2 hp hL hjl ⊢
    obtain ⟨j, rfl⟩ : ∃ i, j = i + 1 := ⟨j - 1, by omega⟩
    rcases Nat.lt_or_ge z 128 with hlt | hge
    · rw [vlF, if_pos hlt] at hp
      have cz : IntKind.u8.wrap (z : Int) = ((z : Nat) : Int) := by rw [w8]; omega
      repeat (first | refine stN ?_ | intro E)
      apply n_exit
      apply b_exit
      repeat (first | refine stN ?_ | intro E)
      apply p_appL
      · exact rfl
      · exact rfl
      · exact rfl
      · exact hL
      · exact ⟨by omega, by omega⟩
      · rw [List.length_map, room_val]; simp only [List.length_cons, List.length_nil]; omega
      intro lv' m1 m2
      rw [← hp, List.map_append, List.map_cons, List.map_nil, ofB_le z (by omega)]
      repeat (first | refine stN ?_ | intro E)
      refine q_rets (.inr rfl) rfl rfl rfl rfl rfl ?_
      show ownCell true lv' (.sl c 1 _) = _
      have : ¬ c ≤ 1 := by omega
      simp [ownCell, m1, this, hc4]
    · rw [vlF, if_neg (by omega)] at hp
      have ed : evBin .rem (.int .u64 (z : Int)) (.int .u64 128) = some (.int .u64 ((z % 128 : Nat) : Int)) := rfl
      have eq : evBin .quo (.int .u64 (z : Int)) (.int .u64 128) = some (.int .u64 ((z / 128 : Nat) : Int)) := by
        show some (AV.int .u64 (IntKind.u64.wrap (Int.tdiv (z : Int) 128))) = _
        rw [show Int.tdiv (z : Int) 128 = ((z / 128 : Nat) : Int) from rfl, wu64 (by omega) (by omega)]
      have cz : IntKind.u8.wrap ((z % 128 : Nat) : Int) = ((z % 128 : Nat) : Int) := by rw [w8]; omega
      have e8 : evBin .add (.int .u8 ((z % 128 : Nat) : Int)) (.int .u8 128) = some (.int .u8 ((z % 128 + 128 : Nat) : Int)) := by
        show some (AV.int .u8 (IntKind.u8.wrap (((z % 128 : Nat) : Int) + 128))) = _
        rw [w8]; congr 2; omega
      obtain ⟨c', rfl⟩ : ∃ c', c = c' + 4 := ⟨c - 4, by omega⟩
      repeat (first | refine stN ?_ | intro E)
      apply p_appL
      · exact rfl
      · exact rfl
      · exact rfl
      · exact hL
      · exact ⟨by omega, by omega⟩
      · rw [List.length_map, room_val]; simp only [List.length_cons, List.length_nil]; omega
      intro lv' m1 m2
      have ex : pre.map ofB ++ [AV.int .u8 ((z % 128 + 128 : Nat) : Int)] = (pre ++ [UInt8.ofNat (z % 128 + 128)]).map ofB := by
        rw [List.map_append, List.map_cons, List.map_nil, ofB_le _ (by omega)]
      rw [ex]
      repeat (first | refine stN ?_ | intro E)
      have hj2 : 1 ≤ j := by
        rcases Nat.eq_zero_or_pos j with e | e
        · subst e; simp at hz1; omega
        · exact e
      exact n_again (j, z / 128, pre ++ [UInt8.ofNat (z % 128 + 128)], c' + 4, 1) ⟨hj2, show z / 128 < 128 ^ j from Nat.div_lt_of_lt_mul (by rw [Nat.pow_succ] at hz1; omega), by dsimp only; omega, by simp; omega, by rw [List.append_assoc]; exact hp⟩ ⟨by omega, LA.mine (by omega) m1⟩ (show j < j + 1 by omega) ⟨rfl, rfl, trivial⟩ trivial
theorem c91 {n : Int} (h : I64 n) : Calls0 (evCall FN (k + 100)) 91 [.int .i64 n] (csl 1 ((encI n).map ofB)) := evP_call0 (s91 h) rfl
def iV (l : List Int) : List AV := l.map fun n => .int .i64 n
theorem iV_get {l : List Int} {i : Nat} {n : Int} (h : l[i]? = some n) : rd (iV l) (i * 1) 1 false = some (.int .i64 n) := by
  simp only [rd, Bool.false_eq_true, if_false, Nat.mul_one, iV, List.getElem?_map, h, Option.map_some, AV.leaf, if_true]
theorem encT {l : List Int} {i : Nat} {n : Int} (h : l[i]? = some n) : (l.take (i + 1)).flatMap encI = (l.take i).flatMap encI ++ encI n := by
  rw [List.take_add_one, h, List.flatMap_append]; simp
theorem flat_encI (l : List Int) : (l.flatMap encI).length ≤ 10 * l.length := by
  induction l with
  | nil => simp
  | cons n l ih =>
    have := encI_len n
    simp only [List.flatMap_cons, List.length_append, List.length_cons]; omega
set_option maxRecDepth 100000 in
set_option maxHeartbeats 1000000 in
theorem s66 {l : List Int} (hl : l.length ≤ 5000) (h : ∀ n ∈ l, I64 n) : evP (evCall FN (k + 5200)) 66 [csl 1 (iV l)] = some (.sl 2 1 ((encL l).map ofB)) := by
  have hlen : (iV l).length / 1 = l.length := by unfold iV; simp
  have c0 : evP (evCall FN (k + 5199)) 91 [.int .i64 (l.length : Int)] = some (.sl 2 1 ((encI l.length).map ofB)) := s91 (k := k + 5099) ⟨by omega, by omega⟩
  refine q_evP fn66 rfl fun T H E lv => ?_
  repeat (first | refine stN ?_ | intro E)
  rw [hlen]
  apply p_call1
  · exact rfl
  · exact rfl
  · exact c0
  · exact rfl
  · exact rfl
  · exact rfl
  intro lv0 m1 m2
  rw [show mapLeaf (adoptCell 1 0 4) (AV.sl 2 1 ((encI l.length).map ofB)) = .sl 4 1 ((encI l.length).map ofB) from rfl]
  repeat (first | refine stN ?_ | intro E)
  refine q_loop (α := Nat × Nat) (LInv.mk (fun p => p.1 ≤ l.length) (fun p => l.length - p.1)
    (fun p => [(4, .int .i64 (p.1 : Int)), (3, .sl p.2 1 ((encI l.length ++ (l.take p.1).flatMap encI).map ofB)), (0, csl 1 (iV l))]) (fun p => []))
    (fun p lv c => 4 ≤ c ∧ Own4 lv c p.2) (0, 4) (Nat.zero_le _) ⟨by omega, by omega, by omega, m1⟩ (show l.length - 0 < k + 5199 by omega) ⟨rfl, by simp; rfl, rfl, trivial⟩ trivial ?_
  rintro ⟨i, br⟩ lv c T H E hP ⟨hc4, hL⟩ hμ
  have hP : i ≤ l.length := hP
  clear hμ
  dsimp only at hL ⊢
  rcases Nat.lt_or_ge i l.length with hi | hi
  · obtain ⟨n, hn⟩ : ∃ n, l[i]? = some n := ⟨_, List.getElem?_eq_getElem hi⟩
    have hr := iV_get hn
    have c1 : Calls0 (evCall FN (k + 5199)) 91 [.int .i64 n] (csl 1 ((encI n).map ofB)) := c91 (k := k + 5099) (h n (List.mem_of_getElem? hn))
    have hb := flat_encI (l.take i)
    have hb2 := encI_len n
    have hb3 := encI_len l.length
    rw [List.length_take] at hb
    obtain ⟨c', rfl⟩ : ∃ c', c = c' + 4 := ⟨c - 4, by omega⟩
    repeat (first | refine stN ?_ | intro E)
    apply p_appZ
    · exact rfl
    · exact rfl
    · exact fun H => src_csl _ _ _
    · exact ⟨by omega, by omega⟩
    · rw [List.length_map, List.length_map, List.length_append, room_val]; omega
    · exact hL
    · omega
    intro lv1 g2 g3
    rw [← List.map_append, List.append_assoc, ← encT hn]
    repeat (first | refine stN ?_ | intro E)
    exact n_again (i + 1, c' + 4) (show i + 1 ≤ l.length by omega) ⟨by omega, g2⟩ (show l.length - (i + 1) < l.length - i by omega) ⟨rfl, rfl, rfl, trivial⟩ trivial
  · rw [List.take_of_length_le hi]
    repeat (first | refine stN ?_ | intro E)
    apply n_exit
    apply b_exit
    repeat (first | refine stN ?_ | intro E)
    exact q_rets (.inr rfl) rfl rfl rfl rfl rfl hL.own
end Go.Proofs.Ythplidagfcdibaa

/- The encoding of an integer, and of a list of them, by the program. Condition: the integers fit 64 bits. -/
namespace Go.Proofs.Ythplidagfcdibaa
open Go.Abs
variable {k : Nat}
theorem zig {n : Int} (h : I64 n) : ∃ (a b r : Nat) (q : Int), IntKind.u64.wrap n = (a : Int) ∧ evBin .shl (.int .u64 (a : Int)) (.int .u64 1) = some (.int .u64 (b : Int)) ∧ evBin .shr (.int .i64 n) (.int .u64 63) = some (.int .i64 q) ∧ IntKind.u64.wrap q = (r : Int) ∧ evBin .xor (.int .u64 (b : Int)) (.int .u64 (r : Int)) = some (.int .u64 (zz n : Nat)) := by
  obtain ⟨h0, h1⟩ := h
  have hb : min (63 : Int).toNat IntKind.i64.bits = 63 := rfl
  have hf : evBin .shr (.int .i64 n) (.int .u64 63) = some (.int .i64 (n.fdiv (2 ^ 63))) := by
    show (if (63 : Int) < 0 then none else some (AV.int .i64 (n.fdiv (2 ^ min (63 : Int).toNat IntKind.i64.bits)))) = _
    rw [if_neg (by omega), hb]
  have e63 : (2 : Int) ^ 63 = 9223372036854775808 := by decide +kernel
  rw [e63] at hf
  by_cases hn : n < 0
  · refine ⟨(n + 18446744073709551616).toNat, (n * 2 + 18446744073709551616).toNat, 18446744073709551615, -1, ?_, ?_, ?_, ?_, ?_⟩
    · rw [wu64']; omega
    · exact shl_u64 (s := 1) (by omega) (by omega)
    · rw [hf]
      have : n.fdiv 9223372036854775808 = -1 := by
        rw [Int.fdiv_eq_ediv_of_nonneg _ (by omega)]; omega
      rw [this]
    · rw [wu64']; rfl
    · refine xor_u64 (by omega) (by omega) ?_
      rw [ones_xor (by omega)]
      unfold zz
      rw [if_pos hn]; omega
  · refine ⟨n.toNat, n.toNat * 2, 0, 0, ?_, ?_, ?_, ?_, ?_⟩
    · rw [wu64']; omega
    · exact shl_u64 (s := 1) (by omega) (by omega)
    · rw [hf]
      have : n.fdiv 9223372036854775808 = 0 := by
        rw [Int.fdiv_eq_ediv_of_nonneg _ (by omega)]; omega
      rw [this]
    · rw [wu64']; rfl
    · refine xor_u64 (by omega) (by omega) ?_
      rw [Nat.xor_zero]
      unfold zz
      rw [if_neg hn]
theorem zz_lt {n : Int} (h : I64 n) : zz n < 18446744073709551616 := by
  obtain ⟨h0, h1⟩ := h
  unfold zz; split <;> omega
def Fresh (c : Nat) (lv : Nat → Bool) (xs : List AV) (r : AV) (hs : Hs) : Prop := ∃ br, r = .sl br 1 xs ∧ hs.n = 0 ∧ c ≤ br ∧ br < hs.c ∧ hs.lv br = true ∧ ∀ z, 4 ≤ z → z < c → hs.lv z = lv z
set_option maxRecDepth 100000 in
set_option maxHeartbeats 1000000 in
theorem s90b {n : Int} (h : I64 n) {T : Nat → AV} {H : Hp} {E : Nat → Option TypeId} {lv : Nat → Bool} {c : Nat} (h4 : 4 ≤ c) : Wp (evCall FN (k + 99)) (k + 99) f90.body ⟨slots (argSlots 0 [.int .i64 n]) T, objs [] H, E, 0, lv, c⟩ (RetS f90 0 (Fresh c lv ((encI n).map ofB))) := by
  obtain ⟨a, b, r, q, z1, z2, z3, z4, z5⟩ := zig h
  have hzb := zz_lt h
  have hE : encI n = vlF 10 (zz n) := rfl
  rw [hE]
  generalize zz n = Z at z5 hzb
  have hz10 : Z < 128 ^ 10 := by
    have : (128 : Nat) ^ 10 = 1180591620717411303424 := by decide +kernel
    omega
  repeat (first | refine stN ?_ | intro E)
  refine q_loop (α := Nat × Nat × List UInt8 × Nat × Nat) (LInv.mk (fun p => 1 ≤ p.1 ∧ p.2.1 < 128 ^ p.1 ∧ p.2.1 < 18446744073709551616 ∧ p.1 + p.2.2.1.length ≤ 10 ∧ p.2.2.1 ++ vlF p.1 p.2.1 = vlF 10 Z) (fun p => p.1)
    (fun p => [(4, .sl p.2.2.2.1 p.2.2.2.2 (p.2.2.1.map ofB)), (3, .int .u64 (p.2.1 : Int))]) (fun p => []))
    (fun p lv' c' => c ≤ c' ∧ (p.2.2.2.1 = 0 ∨ c ≤ p.2.2.2.1) ∧ LA 1 lv' c' p.2.2.2.1 p.2.2.2.2 (p.2.2.1.map ofB) ∧ ∀ z, 4 ≤ z → z < c → lv' z = lv z) (10, _, [], 0, 0) ⟨by omega, hz10, by dsimp only; omega, by simp, rfl⟩ ⟨Nat.le_refl _, .inl rfl, LA.nil, fun _ _ _ => rfl⟩ (show 10 < k + 99 by omega) ⟨rfl, rfl, trivial⟩ trivial ?_
  clear z1 z2 z3 z4 z5 hzb hz10
  rintro ⟨j, z, pre, br, s0⟩ lv1 c1 T H E ⟨hj, hz1, hz2, hjl, hp⟩ ⟨hc4, hbr, hL, hlv⟩ hμ
  dsimp only at hj hz1 hz2 hp hL hjl hbr hlv ⊢
  obtain ⟨j, rfl⟩ : ∃ i, j = i + 1 := ⟨j - 1, by omega⟩
  obtain ⟨c', rfl⟩ : ∃ c', c1 = c' + 4 := ⟨c1 - 4, by omega⟩
  rcases Nat.lt_or_ge z 128 with hlt | hge
  · rw [vlF, if_pos hlt] at hp
    have cz : IntKind.u8.wrap (z : Int) = ((z : Nat) : Int) := by rw [w8]; omega
    repeat (first | refine stN ?_ | intro E)
    apply n_exit
    apply b_exit
    repeat (first | refine stN ?_ | intro E)
    apply p_appL
    · exact rfl
    · exact rfl
    · exact rfl
    · exact hL
    · exact ⟨by omega, by omega⟩
    · rw [List.length_map, room_val]; simp only [List.length_cons, List.length_nil]; omega
    intro lv' m1 m2
    rw [← hp, List.map_append, List.map_cons, List.map_nil, ofB_le z (by omega)]
    repeat (first | refine stN ?_ | intro E)
    refine q_rets (.inr rfl) rfl rfl rfl rfl rfl ⟨c' + 4, rfl, rfl, hc4, by dsimp only; omega, m1, fun z hz4 hz => ?_⟩
    show lv' z = lv z
    rw [m2 z (by omega) (by omega), hlv z hz4 hz]
  · rw [vlF, if_neg (by omega)] at hp
    have eq : evBin .shr (.int .u64 (z : Int)) (.int .u64 7) = some (.int .u64 ((z / 128 : Nat) : Int)) := shr_n (b := 7) (by decide)
    have e8 : evBin .or (.int .u8 ((z % 256 : Nat) : Int)) (.int .u8 128) = some (.int .u8 ((z % 128 + 128 : Nat) : Int)) := by
      rw [or128_u8 (by omega)]; congr 3; omega
    repeat (first | refine stN ?_ | intro E)
    apply p_appL
    · exact rfl
    · exact rfl
    · exact rfl
    · exact hL
    · exact ⟨by omega, by omega⟩
    · rw [List.length_map, room_val]; simp only [List.length_cons, List.length_nil]; omega
    intro lv' m1 m2
    have ex : pre.map ofB ++ [AV.int .u8 ((z % 128 + 128 : Nat) : Int)] = (pre ++ [UInt8.ofNat (z % 128 + 128)]).map ofB := by
      rw [List.map_append, List.map_cons, List.map_nil, ofB_le _ (by omega)]
    rw [ex]
    repeat (first | refine stN ?_ | intro E)
    have hj2 : 1 ≤ j := by
      rcases Nat.eq_zero_or_pos j with e | e
      · subst e; simp at hz1; omega
      · exact e
    refine n_again (j, z / 128, pre ++ [UInt8.ofNat (z % 128 + 128)], c' + 4, 1) ⟨hj2, show z / 128 < 128 ^ j from Nat.div_lt_of_lt_mul (by rw [Nat.pow_succ] at hz1; omega), by dsimp only; omega, by simp; omega, by rw [List.append_assoc]; exact hp⟩ ⟨by omega, .inr hc4, LA.mine (by omega) m1, fun z hz4 hz => ?_⟩ (show j < j + 1 by omega) ⟨rfl, rfl, trivial⟩ trivial
    rw [m2 z (by omega) (by omega), hlv z hz4 hz]
theorem Fresh.own {lv : Nat → Bool} {c : Nat} {xs : List AV} {r : AV} {hs : Hs} (h4 : 4 ≤ c) (h : Fresh c lv xs r hs) : own hs.lv r = .sl 2 1 xs := by
  obtain ⟨br, rfl, h1, h2, h3, h5, h6⟩ := h
  exact Own4.own ⟨by omega, h3, h5⟩
theorem s90 {n : Int} (h : I64 n) : evP (evCall FN (k + 100)) 90 [.int .i64 n] = some (.sl 2 1 ((encI n).map ofB)) :=
  q_evP fn90 rfl fun T H E lv => wp_imp (s90b h (Nat.le_refl 4)) fun e S hh => rets_imp hh fun r hs hf => hf.own (Nat.le_refl 4)
theorem v56 {n : Int} (h : I64 n) {H : Hp} {E : Nat → Option TypeId} {lv : Nat → Bool} {c : Nat} (h4 : 4 ≤ c) : ∃ br H' lv' c', evCall FN (k + 100) 90 [.int .i64 n] ⟨H, 0, lv, c⟩ E = some (.sl br 1 ((encI n).map ofB), ⟨H', 0, lv', c'⟩) ∧ c ≤ br ∧ br < c' ∧ lv' br = true ∧ ∀ z, 4 ≤ z → z < c → lv' z = lv z := by
  obtain ⟨r, ⟨H', n', lv', c'⟩, h1, br, rfl, h2, h3, h5, h6, h7⟩ := q_calls (os := []) (H := H) (E := E) (n := 0) (lv := lv) (c := c) (P := Fresh c lv ((encI n).map ofB)) fn90 fun T => s90b (k := k) h h4
  have h2 : n' = 0 := h2
  subst h2
  exact ⟨br, H', lv', c', h1, h3, h5, h6, h7⟩
end Go.Proofs.Ythplidagfcdibaa

/- The encoding of a list of integers, by the program. Condition: they fit 64 bits, there are at most 5000. -/
namespace Go.Proofs.Ythplidagfcdibaa
open Go.Abs
variable {k : Nat}
theorem p_callvZ {F : CallF} {l : List IOper} {s : List (Nat × AV)} {os : List (Nat × List AV)} {T : Nat → AV} {H : Hp} {E : Nat → Option TypeId} {n c d : Nat} {lv : Nat → Bool} {Q : St → Prop} {f : FuncId} {x : X} {xs : List X} {fs args : List AV} {R : AV} {H' : Hp} {n' c' : Nat} {lv' : Nat → Bool} (hf : evL s x = some (.fn f fs [])) (ha : evsS s xs = some args) (hc : F f (fs ++ args) ⟨objs os H, n, lv, c⟩ E = some (R, ⟨H', n', lv', c'⟩))
    (k : WpO F l ⟨slots ((d, R) :: s) T, objs [] H', E, n', lv', c'⟩ Q) : WpO F (⟨some d, .callv x xs, none⟩ :: l) ⟨slots s T, objs os H, E, n, lv, c⟩ Q := p_callvS hf ha hc k
set_option maxRecDepth 100000 in
set_option maxHeartbeats 1000000 in
theorem s89b {l : List Int} (hl : l.length ≤ 5000) (h : ∀ n ∈ l, I64 n) {T : Nat → AV} {H : Hp} {E : Nat → Option TypeId} {lv : Nat → Bool} {c : Nat} (h4 : 4 ≤ c) : Wp (evCall FN (k + 5199)) (k + 5199) f89.body ⟨slots (argSlots 0 [csl 1 (iV l), .fn 90 [] []]) T, objs [] H, E, 0, lv, c⟩ (RetS f89 0 (Fresh c lv ((encL l).map ofB))) := by
  have hlen : (iV l).length / 1 = l.length := by unfold iV; simp
  have c0 : evP (evCall FN (k + 5199)) 90 [.int .i64 (l.length : Int)] = some (.sl 2 1 ((encI l.length).map ofB)) := s90 (k := k + 5099) ⟨by omega, by omega⟩
  repeat (first | refine stN ?_ | intro E)
  rw [hlen]
  apply p_call1
  · exact rfl
  · exact rfl
  · exact c0
  · exact rfl
  · exact rfl
  · exact rfl
  intro lv0 m1 m2
  rw [show mapLeaf (adoptCell 1 0 c) (AV.sl 2 1 ((encI l.length).map ofB)) = .sl c 1 ((encI l.length).map ofB) from rfl]
  repeat (first | refine stN ?_ | intro E)
  rw [hlen]
  refine q_loop (α := Nat × Nat) (LInv.mk (fun p => p.1 ≤ l.length) (fun p => l.length - p.1)
    (fun p => [(13, .int .i64 (p.1 : Int)), (12, .int .i64 (l.length : Int)), (11, csl 1 (iV l)), (5, .sl p.2 1 ((encI l.length ++ (l.take p.1).flatMap encI).map ofB)), (1, .fn 90 [] [])]) (fun p => []))
    (fun p lv' c' => c ≤ p.2 ∧ Own4 lv' c' p.2 ∧ ∀ z, 4 ≤ z → z < c → lv' z = lv z) (0, c) (Nat.zero_le _) ⟨Nat.le_refl _, ⟨by omega, by omega, m1⟩, fun z _ hz => m2 z hz⟩ (show l.length - 0 < k + 5199 by omega) ⟨rfl, rfl, rfl, by simp; rfl, rfl, trivial⟩ trivial ?_
  rintro ⟨i, br⟩ lv1 c1 T H E hP ⟨hbr, hL, hlv⟩ hμ
  have hP : i ≤ l.length := hP
  clear hμ
  dsimp only at hL hbr ⊢
  rcases Nat.lt_or_ge i l.length with hi | hi
  · obtain ⟨n, hn⟩ : ∃ n, l[i]? = some n := ⟨_, List.getElem?_eq_getElem hi⟩
    have hr := iV_get hn
    have gi : inB (i : Int) ((iV l).length / 1) = some i := inB_n (by omega)
    have hc1 := hL.lt
    obtain ⟨br2, H', lv2, c2, e1, e2, e3, e4, e5⟩ := v56 (k := k + 5099) (h n (List.mem_of_getElem? hn)) (H := objs [] H) (E := E) (lv := lv1) (c := c1) (by omega)
    have hb := flat_encI (l.take i)
    have hb2 := encI_len n
    have hb3 := encI_len l.length
    rw [List.length_take] at hb
    have e1 : (evCall FN (k + 5199)).call 90 ([] ++ [.int .i64 n]) ⟨objs [] H, 0, lv1, c1⟩ E = some (.sl br2 1 ((encI n).map ofB), ⟨H', 0, lv2, c2⟩) := e1
    repeat (first | refine stN ?_ | intro E)
    apply p_callvZ
    · exact rfl
    · exact rfl
    · exact e1
    repeat (first | refine stN ?_ | intro E)
    apply p_appZ
    · exact rfl
    · exact rfl
    · exact fun H => src_sl _ _ _ _
    · exact ⟨by omega, by omega⟩
    · rw [List.length_map, List.length_map, List.length_append, room_val]; omega
    · exact ⟨hL.ge, by omega, by rw [e5 br hL.ge hL.lt]; exact hL.on⟩
    · omega
    intro lv3 g2 g3
    rw [← List.map_append, List.append_assoc, ← encT hn]
    repeat (first | refine stN ?_ | intro E)
    exact n_again (i + 1, c2) (show i + 1 ≤ l.length by omega) ⟨by dsimp only; omega, g2, fun z hz4 hz => by rw [g3 z (by omega) (by omega), e5 z hz4 (by omega), hlv z hz4 hz]⟩ (show l.length - (i + 1) < l.length - i by omega) ⟨rfl, rfl, rfl, rfl, rfl, trivial⟩ trivial
  · rw [List.take_of_length_le hi]
    repeat (first | refine stN ?_ | intro E)
    apply n_exit
    apply b_exit
    repeat (first | refine stN ?_ | intro E)
    exact q_rets (.inr rfl) rfl rfl rfl rfl rfl ⟨br, rfl, rfl, hbr, hL.lt, hL.on, hlv⟩
theorem v55 {l : List Int} (hl : l.length ≤ 5000) (h : ∀ n ∈ l, I64 n) {H : Hp} {E : Nat → Option TypeId} {lv : Nat → Bool} {c : Nat} (h4 : 4 ≤ c) : ∃ br H' lv' c', evCall FN (k + 5200) 89 [csl 1 (iV l), .fn 90 [] []] ⟨H, 0, lv, c⟩ E = some (.sl br 1 ((encL l).map ofB), ⟨H', 0, lv', c'⟩) ∧ c ≤ br ∧ br < c' ∧ lv' br = true ∧ ∀ z, 4 ≤ z → z < c → lv' z = lv z := by
  obtain ⟨r, ⟨H', n', lv', c'⟩, h1, br, rfl, h2, h3, h5, h6, h7⟩ := q_calls (os := []) (H := H) (E := E) (n := 0) (lv := lv) (c := c) (P := Fresh c lv ((encL l).map ofB)) fn89 fun T => s89b (k := k) hl h h4
  have h2 : n' = 0 := h2
  subst h2
  exact ⟨br, H', lv', c', h1, h3, h5, h6, h7⟩
set_option maxRecDepth 100000 in
theorem s64 {l : List Int} (hl : l.length ≤ 5000) (h : ∀ n ∈ l, I64 n) : evP (evCall FN (k + 5300)) 64 [csl 1 (iV l)] = some (.sl 2 1 ((encL l).map ofB)) := by
  refine q_evP fn64 rfl fun T H E lv => ?_
  obtain ⟨br, H', lv', c', e1, e2, e3, e4, e5⟩ := v55 (k := k + 99) hl h (H := objs [] H) (E := E) (lv := lv) (c := 4) (Nat.le_refl _)
  repeat (first | refine stN ?_ | intro E)
  apply p_calls (dd := some 4)
  · exact evsS_eq rfl
  · exact e1
  show WpO _ _ ⟨slots ((4, _) :: _) _, objs [] H', _, _, _, _⟩ _
  repeat (first | refine stN ?_ | intro E)
  exact q_rets (.inr rfl) rfl rfl rfl rfl rfl (Own4.own ⟨by omega, e3, e4⟩)
end Go.Proofs.Ythplidagfcdibaa

/- What bytes say as an integer, as a list of integers: the model, and that it is the other way round of the encoding. No condition. -/
namespace Go.Proofs.Ythplidagfcdibaa
open Go.Abs
def gkF : Nat → List UInt8 → Nat
  | 0, _ => 0
  | _ + 1, [] => 0
  | f + 1, c :: b => if 128 ≤ c.toNat then gkF f b + 1 else 0
def gk (b : List UInt8) : Nat := gkF 10 b
structure GK (f : Nat) (b : List UInt8) (k : Nat) : Prop where
  all : ∀ j, j < k → 128 ≤ bt b j
  le : k ≤ b.length
  top : k ≤ f
  fin : k = f ∨ k = b.length ∨ bt b k < 128
theorem bt_cons (c : UInt8) (b : List UInt8) (j : Nat) : bt (c :: b) (j + 1) = bt b j := rfl
theorem bt_zero (c : UInt8) (b : List UInt8) : bt (c :: b) 0 = c.toNat := rfl
theorem gkF_ok : ∀ (f : Nat) (b : List UInt8), GK f b (gkF f b)
  | 0, b => ⟨fun j h => absurd h (Nat.not_lt_zero _), Nat.zero_le _, Nat.le_refl _, .inl rfl⟩
  | f + 1, [] => ⟨fun j h => absurd h (Nat.not_lt_zero _), Nat.zero_le _, Nat.zero_le _, .inr (.inl rfl)⟩
  | f + 1, c :: b => by
    have ih := gkF_ok f b
    unfold gkF
    by_cases h : 128 ≤ c.toNat
    · rw [if_pos h]
      refine ⟨fun j hj => ?_, by have := ih.le; rw [List.length_cons]; omega, by have := ih.top; omega, ?_⟩
      · cases j with
        | zero => exact h
        | succ j => rw [bt_cons]; exact ih.all j (by omega)
      · rcases ih.fin with h | h | h
        · exact .inl (by omega)
        · exact .inr (.inl (by rw [List.length_cons]; omega))
        · exact .inr (.inr (by rw [bt_cons]; exact h))
    · rw [if_neg h]
      exact ⟨fun j h => absurd h (Nat.not_lt_zero _), Nat.zero_le _, Nat.zero_le _, .inr (.inr (by rw [bt_zero]; omega))⟩
theorem GK.uniq {f k k' : Nat} {b : List UInt8} (h : GK f b k) (h' : GK f b k') : k = k' := by
  have key : ∀ {k k' : Nat}, GK f b k → GK f b k' → ¬ k < k' := by
    intro k k' h h' hlt
    have h1 := h'.all k hlt
    have h2 := h'.le
    have h3 := h'.top
    rcases h.fin with h | h | h <;> omega
  have h1 := key h h'
  have h2 := key h' h
  omega
theorem gk_ok (b : List UInt8) : GK 10 b (gk b) := gkF_ok 10 b
theorem gk_eq {b : List UInt8} {k : Nat} (h : GK 10 b k) : gk b = k := (gk_ok b).uniq h
def dzl : List UInt8 → Nat
  | [] => 0
  | c :: b => c.toNat % 128 + 128 * dzl b
def dz (b : List UInt8) (j : Nat) : Nat := dzl (b.take j)
theorem dzl_snoc (c : UInt8) : ∀ (l : List UInt8), dzl (l ++ [c]) = dzl l + c.toNat % 128 * 128 ^ l.length
  | [] => by simp [dzl]
  | x :: l => by
    rw [List.cons_append, dzl, dzl_snoc c l, dzl, List.length_cons, Nat.pow_succ, Nat.mul_add]
    have : 128 * (c.toNat % 128 * 128 ^ l.length) = c.toNat % 128 * (128 ^ l.length * 128) := by
      rw [Nat.mul_comm 128, Nat.mul_assoc]
    omega
theorem dzl_lt : ∀ (l : List UInt8), dzl l < 128 ^ l.length
  | [] => by simp [dzl]
  | c :: l => by
    have := dzl_lt l
    rw [dzl, List.length_cons, Nat.pow_succ]
    omega
theorem take_snoc {b : List UInt8} {i : Nat} (hi : i < b.length) : b.take (i + 1) = b.take i ++ [b.getD i 0] := by
  rw [List.take_add_one, List.getElem?_eq_getElem hi, List.getD_eq_getElem?_getD, List.getElem?_eq_getElem hi]; rfl
theorem dz_succ {b : List UInt8} {i : Nat} (hi : i < b.length) : dz b (i + 1) = dz b i + bt b i % 128 * 128 ^ i := by
  unfold dz
  rw [take_snoc hi, dzl_snoc, List.length_take, show min i b.length = i by omega]; rfl
theorem dz_lt {b : List UInt8} {i : Nat} (hi : i ≤ b.length) : dz b i < 128 ^ i := by
  have := dzl_lt (b.take i)
  rwa [List.length_take, show min i b.length = i by omega] at this
def unz (z : Nat) : Int := if z % 2 = 1 then -1 - ((z / 2 : Nat) : Int) else ((z / 2 : Nat) : Int)
def getI (b : List UInt8) : Int × Nat × Nat :=
  if gk b = 10 then (0, 0, 11)
  else if gk b = b.length then (0, 0, 10)
  else if (gk b = 9 ∧ 1 < bt b (gk b)) ∨ (0 < gk b ∧ bt b (gk b) = 0) then (0, 0, 11)
  else (unz (dz b (gk b + 1)), gk b + 1, 0)
def CD (l : List UInt8) : Prop := ∃ pre c, l = pre ++ [c] ∧ (∀ x ∈ pre, 128 ≤ x.toNat) ∧ c.toNat < 128 ∧ (pre ≠ [] → c.toNat ≠ 0)
theorem u8_of {n : Nat} (h : n < 256) : (UInt8.ofNat n).toNat = n := by simp; omega
theorem u8_eq {c : UInt8} {n : Nat} (h : c.toNat = n) : UInt8.ofNat n = c := by
  subst h; simp
theorem vlF_cd : ∀ {j z : Nat}, 1 ≤ j → z < 128 ^ j → CD (vlF j z) ∧ dzl (vlF j z) = z ∧ (z ≠ 0 → ∀ pre c, vlF j z = pre ++ [c] → c.toNat ≠ 0)
  | 0, z, h, _ => absurd h (by omega)
  | j + 1, z, _, hz => by
    unfold vlF
    by_cases h : z < 128
    · rw [if_pos h]
      refine ⟨⟨[], UInt8.ofNat z, rfl, by simp, by rw [u8_of (by omega)]; exact h, by simp⟩, ?_, ?_⟩
      · rw [dzl, dzl, u8_of (by omega)]; omega
      · intro h0 pre c e
        have e2 : pre = [] := by
          cases pre with
          | nil => rfl
          | cons x pre => simp at e
        subst e2
        simp only [List.nil_append, List.cons.injEq, and_true] at e
        rw [← e, u8_of (by omega)]; exact h0
    · rw [if_neg h]
      have hj : 1 ≤ j := by
        rcases Nat.eq_zero_or_pos j with e | e
        · subst e; simp at hz; omega
        · exact e
      have hz2 : z / 128 < 128 ^ j := Nat.div_lt_of_lt_mul (by rw [Nat.pow_succ] at hz; omega)
      obtain ⟨⟨pre, c, h1, h2, h3, h4⟩, h5, h6⟩ := vlF_cd hj hz2
      have h0 : z / 128 ≠ 0 := by omega
      refine ⟨⟨UInt8.ofNat (z % 128 + 128) :: pre, c, by rw [h1]; rfl, ?_, h3, fun _ => h6 h0 pre c h1⟩, ?_, ?_⟩
      · intro x hx
        rcases List.mem_cons.1 hx with rfl | hx
        · rw [u8_of (by omega)]; omega
        · exact h2 x hx
      · rw [dzl, h5, u8_of (by omega)]; omega
      · intro _ pre' c' e
        cases pre' with
        | nil =>
          rw [h1] at e
          simp at e
        | cons x pre' =>
          rw [List.cons_append, List.cons.injEq] at e
          exact h6 h0 pre' c' e.2
theorem cd_vlF : ∀ {l : List UInt8} {j : Nat}, CD l → l.length ≤ j → vlF j (dzl l) = l
  | [], j, ⟨pre, c, h, _⟩, _ => by simp at h
  | p :: l, 0, _, h => by simp at h
  | p :: l, j + 1, ⟨pre, c, h1, h2, h3, h4⟩, hl => by
    cases pre with
    | nil =>
      simp only [List.nil_append, List.cons.injEq] at h1
      obtain ⟨rfl, rfl⟩ := h1
      have e : dzl [p] = p.toNat := by rw [dzl, dzl]; omega
      rw [e]
      unfold vlF
      rw [if_pos h3, u8_eq rfl]
    | cons x pre =>
      rw [List.cons_append, List.cons.injEq] at h1
      obtain ⟨rfl, rfl⟩ := h1
      have hp := h2 p List.mem_cons_self
      have hp2 := p.toNat_lt
      have hc : c.toNat ≠ 0 := h4 (by simp)
      have hd : 1 ≤ dzl (pre ++ [c]) := by
        rw [dzl_snoc]
        have : 1 * 1 ≤ c.toNat % 128 * 128 ^ pre.length := Nat.mul_le_mul (by omega) (Nat.one_le_pow _ _ (by omega))
        omega
      have ih := cd_vlF (l := pre ++ [c]) (j := j) ⟨pre, c, rfl, fun y hy => h2 y (List.mem_cons_of_mem _ hy), h3, fun _ => hc⟩ (by rw [List.length_cons] at hl; omega)
      unfold vlF
      rw [dzl, if_neg (by omega), show (p.toNat % 128 + 128 * dzl (pre ++ [c])) / 128 = dzl (pre ++ [c]) by omega, ih]
      congr 1
      apply u8_eq
      have : p.toNat < 256 := hp2
      omega
theorem zz_unz {z : Nat} : zz (unz z) = z := by
  unfold zz unz
  split
  · next h => rw [if_pos (by omega)]; omega
  · next h => rw [if_neg (by omega)]; omega
theorem unz_zz {n : Int} : unz (zz n) = n := by
  unfold zz unz
  split
  · next h => rw [if_pos (by omega)]; omega
  · next h => rw [if_neg (by omega)]; omega
theorem p128_9 : (128 : Nat) ^ 9 = 9223372036854775808 := by decide +kernel
theorem p128_10 : (128 : Nat) ^ 10 = 1180591620717411303424 := by decide +kernel
theorem unz_I64 {z : Nat} (h : z < 18446744073709551616) : I64 (unz z) := by
  unfold unz I64; split <;> omega
theorem bt_append_lt {l r : List UInt8} {j : Nat} (h : j < l.length) : bt (l ++ r) j = bt l j := by
  unfold bt
  rw [List.getD_eq_getElem?_getD, List.getD_eq_getElem?_getD, List.getElem?_append_left h]
theorem bt_mem {l : List UInt8} {j : Nat} (h : j < l.length) : ∃ x ∈ l, bt l j = x.toNat := by
  refine ⟨l[j], List.getElem_mem h, ?_⟩
  unfold bt
  rw [List.getD_eq_getElem?_getD, List.getElem?_eq_getElem h]; rfl
theorem bt_last (pre r : List UInt8) (c : UInt8) : bt (pre ++ [c] ++ r) pre.length = c.toNat := by
  rw [bt_append_lt (by simp)]
  unfold bt
  simp
theorem getI_enc {n : Int} (h : I64 n) (r : List UInt8) : getI (encI n ++ r) = (n, (encI n).length, 0) := by
  have hzl : zz n < 18446744073709551616 := by
    obtain ⟨h0, h1⟩ := h
    unfold zz; split <;> omega
  obtain ⟨⟨pre, c, h1, h2, h3, h4⟩, h5, _⟩ := vlF_cd (j := 10) (z := zz n) (by omega) (by rw [p128_10]; omega)
  have hlen := encI_len n
  have e : encI n = pre ++ [c] := h1
  have hd : dzl (pre ++ [c]) = zz n := by rw [← h1]; exact h5
  rw [e] at hlen ⊢
  rw [List.length_append, List.length_singleton] at hlen
  have hk : gk (pre ++ [c] ++ r) = pre.length := by
    refine gk_eq ⟨fun j hj => ?_, by simp, by omega, .inr (.inr ?_)⟩
    · rw [List.append_assoc, bt_append_lt hj]
      obtain ⟨x, hx, hb⟩ := bt_mem hj
      rw [hb]; exact h2 x hx
    · rw [bt_last]; exact h3
  unfold getI
  rw [hk, if_neg (by omega), if_neg (by simp), bt_last, if_neg]
  · have : dz (pre ++ [c] ++ r) (pre.length + 1) = zz n := by
      unfold dz
      rw [show pre.length + 1 = (pre ++ [c]).length by simp, List.take_left', hd]
      rfl
    rw [this, unz_zz]
    simp
  · rintro (⟨h9, hc⟩ | ⟨hp, hc⟩)
    · rw [dzl_snoc, h9, p128_9] at hd
      have hcl : c.toNat % 128 = c.toNat := Nat.mod_eq_of_lt h3
      rw [hcl] at hd
      have : 2 * 9223372036854775808 ≤ c.toNat * 9223372036854775808 := Nat.mul_le_mul_right _ hc
      omega
    · exact h4 (fun e => by subst e; simp at hp) hc
theorem getI_ok {b : List UInt8} {x : Int} {u : Nat} (h : getI b = (x, u, 0)) : u ≤ b.length ∧ 1 ≤ u ∧ u ≤ 10 ∧ I64 x ∧ b.take u = encI x := by
  unfold getI at h
  have hg := gk_ok b
  generalize gk b = k at h hg
  by_cases h1 : k = 10
  · rw [if_pos h1] at h; simp at h
  rw [if_neg h1] at h
  by_cases h2 : k = b.length
  · rw [if_pos h2] at h; simp at h
  rw [if_neg h2] at h
  by_cases h3 : (k = 9 ∧ 1 < bt b k) ∨ (0 < k ∧ bt b k = 0)
  · rw [if_pos h3] at h; simp at h
  rw [if_neg h3] at h
  simp only [Prod.mk.injEq, and_true] at h
  obtain ⟨rfl, rfl⟩ := h
  have hle := hg.le
  have htop := hg.top
  have hlt : bt b k < 128 := by rcases hg.fin with h | h | h <;> omega
  have hz : dz b (k + 1) < 18446744073709551616 := by
    rw [dz_succ (by omega)]
    have h0 := dz_lt (b := b) (i := k) hle
    by_cases h9 : k = 9
    · subst h9
      rw [p128_9] at h0 ⊢
      have : bt b 9 ≤ 1 := by omega
      have : bt b 9 % 128 * 9223372036854775808 ≤ 1 * 9223372036854775808 := Nat.mul_le_mul_right _ (by omega)
      omega
    · have hm : 128 ^ k ≤ 128 ^ 8 := Nat.pow_le_pow_right (by omega) (by omega)
      have : bt b k % 128 * 128 ^ k ≤ 127 * 128 ^ 8 := Nat.mul_le_mul (by omega) hm
      have e8 : (128 : Nat) ^ 8 = 72057594037927936 := by decide +kernel
      rw [e8] at hm this
      omega
  refine ⟨by omega, by omega, by omega, unz_I64 hz, ?_⟩
  have hcd : CD (b.take (k + 1)) := by
    refine ⟨b.take k, b.getD k 0, take_snoc (by omega), fun x hx => ?_, hlt, fun hne hc => ?_⟩
    · obtain ⟨j, hj⟩ := List.getElem?_of_mem hx
      have hjl := (List.getElem?_eq_some_iff.1 hj).1
      rw [List.length_take] at hjl
      have := hg.all j (by omega)
      unfold bt at this
      rw [List.getElem?_take, if_pos (by omega)] at hj
      rw [List.getD_eq_getElem?_getD, hj] at this
      exact this
    · apply h3
      refine .inr ⟨?_, hc⟩
      rcases Nat.eq_zero_or_pos k with e | e
      · subst e; simp at hne
      · exact e
  have e := cd_vlF (j := 10) hcd (by rw [List.length_take]; omega)
  unfold encI
  rw [zz_unz]
  exact e.symm
end Go.Proofs.Ythplidagfcdibaa
