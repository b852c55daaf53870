/- Part 18 of the texts on which proofs about this seat rest: each says what it proves at its own head. No condition. -/
import Derived.Test.YtaeoaakblilfeaaM17
set_option linter.unusedVariables false
set_option linter.unusedSimpArgs false
/- A device is read from bytes, by the program and by the reference. Condition: there are at most 100000 bytes. -/
namespace Go.Proofs.Ytaeoaakblilfeaa
open Go.Abs
variable {k : Nat}
def inU (a : Int) : Bool := decide (0 ≤ a ∧ a < 4294967296)
def ni0 : NI := ⟨0, 0, 0, 0, 0, 0, 0, 0⟩
def niOf (l : List Int) : NI := ⟨(l.getD 0 0).toNat, (l.getD 1 0).toNat, (l.getD 2 0).toNat, (l.getD 3 0).toNat, l.getD 4 0, l.getD 5 0, l.getD 6 0, l.getD 7 0⟩
noncomputable def decT (n u : Nat) (l : List Int) : NI × Nat :=
  if u ≠ n ∨ l.length ≠ 8 then (ni0, 11)
  else if (l.take 4).all inU = false then (ni0, 11)
  else if nvalidB (niOf l) = false then (ni0, 3) else (niOf l, 0)
noncomputable def decN (b : List UInt8) : NI × Nat := if (getL b).2.2 ≠ 0 then (ni0, (getL b).2.2) else decT b.length (getL b).2.1 (getL b).1
theorem eight {l : List Int} (h : l.length = 8) : ∃ a0 a1 a2 a3 a4 a5 a6 a7, l = [a0, a1, a2, a3, a4, a5, a6, a7] := by
  rcases l with _ | ⟨x0, _ | ⟨x1, _ | ⟨x2, _ | ⟨x3, _ | ⟨x4, _ | ⟨x5, _ | ⟨x6, _ | ⟨x7, _ | ⟨x8, t⟩⟩⟩⟩⟩⟩⟩⟩⟩ <;> simp at h
  exact ⟨_, _, _, _, _, _, _, _, rfl⟩
theorem inU_nat {a : Int} (h : inU a = true) : ∃ t : Nat, a = t ∧ t < 4294967296 := by
  unfold inU at h
  simp only [decide_eq_true_eq] at h
  exact ⟨a.toNat, by omega, by omega⟩
theorem all_take {l : List Int} {P : Int → Bool} {i : Nat} {p : Int} (h : l[i]? = some p) : (l.take (i + 1)).all P = ((l.take i).all P && P p) := by
  rw [List.take_add_one, h, List.all_append]; simp
set_option maxRecDepth 100000 in
set_option maxHeartbeats 4000000 in
theorem s19 {b : List UInt8} (hb : b.length ≤ 100000) : Calls0 (evCall FN (k + 100500)) 19 [csl 1 (b.map ofB)] (.tup [niV (decN b).1, .int .i64 (decN b).2]) := by
  have hlen : (b.map ofB).length / 1 = b.length := by simp
  have c48 : Calls0 (evCall FN (k + 100499)) 48 [csl 1 (b.map ofB)] (tripL (getL b)) := s48 (k := k + 99) hb
  unfold decN
  unfold tripL at c48
  have hok := @getL_ok b
  generalize getL b = G at *
  obtain ⟨l, u, e⟩ := G
  dsimp only at c48 ⊢
  refine q_call0 fn19 fun T H E lv => ?_
  by_cases he : e ≠ 0
  · rw [if_pos he]
    repeat (first | refine stN ?_ | intro E)
    exact q_ret (.inr rfl) rfl rfl rfl rfl rfl rfl
  rw [if_neg he]
  have he : e = 0 := by omega
  subst he
  obtain ⟨o1, o2, o3⟩ := hok rfl
  unfold decT
  have hll : (iV l).length / 1 = l.length := by unfold iV; simp
  have hl0 : l.length ≤ u := by
    have h1 := congrArg List.length o3
    rw [List.length_take] at h1
    have h2 := flat_pos l
    unfold encL at h1
    rw [List.length_append] at h1
    omega
  by_cases hbad : u ≠ b.length ∨ l.length ≠ 8
  · rw [if_pos hbad]
    by_cases h1 : u ≠ b.length
    · repeat (first | refine stN ?_ | intro E)
      exact q_ret (.inr rfl) rfl rfl rfl rfl rfl rfl
    · have h2 := hbad.resolve_left h1
      repeat (first | refine stN ?_ | intro E)
      exact q_ret (.inr rfl) rfl rfl rfl rfl rfl rfl
  rw [if_neg hbad]
  have hu : u = b.length := by omega
  have hl8 : l.length = 8 := by omega
  clear hbad o3 hok he
  repeat (first | refine stN ?_ | intro E)
  apply p_slL_hi
  · exact rfl
  · exact csz_ok _ _
  · exact rfl
  · exact (by rw [hll, hl8]; rfl : asB 4 ((iV l).length / 1) = some 4)
  rw [show ((iV l).take (4 * 1)).drop (0 * 1) = iV (l.take 4) from by unfold iV; rw [List.map_take]; rfl]
  repeat (first | refine stN ?_ | intro E)
  have hq : (iV (l.take 4)).length / 1 = 4 := by unfold iV; rw [List.length_map, List.length_take]; omega
  rw [hq]
  refine q_loop (α := Nat) (LInv.mk (fun i => i ≤ 4 ∧ (l.take i).all inU = true) (fun i => 4 - i)
    (fun i => [(35, .int .i64 (i : Int)), (34, .int .i64 (4 : Nat)), (33, csl 1 (iV (l.take 4))), (4, csl 1 (iV l)), (2, .ref 0 0)]) (fun i => [(0, [.int .u32 0, .int .u32 0, .int .u32 0, .int .u32 0, .int .i64 0, .int .i64 0, .int .i64 0, .int .i64 0])]))
    (fun _ _ c' => c' = 4) 0 ⟨by omega, rfl⟩ rfl (show 4 - 0 < k + 100499 by omega) ⟨rfl, rfl, rfl, rfl, rfl, trivial⟩ ⟨rfl, trivial⟩ ?_
  rintro i lv c T H E ⟨hP, hall⟩ rfl hμ
  have hP : i ≤ 4 := hP
  have hall : (l.take i).all inU = true := hall
  clear hμ
  dsimp only
  rcases Nat.lt_or_ge i 4 with hi | hi
  · obtain ⟨a, ha⟩ : ∃ a, l[i]? = some a := ⟨_, List.getElem?_eq_getElem (by omega)⟩
    have hat := all_take (P := inU) ha
    have hr : rd (iV (l.take 4)) (i * 1) 1 false = some (.int .i64 a) := iV_get (by rw [List.getElem?_take, if_pos hi]; exact ha)
    have gi : inB (i : Int) ((iV (l.take 4)).length / 1) = some i := inB_n (by omega)
    rw [hall, Bool.true_and] at hat
    by_cases hu1 : 0 ≤ a ∧ a < 4294967296
    · have h1 : inU a = true := decide_eq_true hu1
      rw [h1] at hat
      obtain ⟨h2, h3⟩ := hu1
      repeat (first | refine stN ?_ | intro E)
      exact n_again (i + 1) ⟨by omega, hat⟩ rfl (show 4 - (i + 1) < 4 - i by omega) ⟨rfl, rfl, rfl, rfl, rfl, trivial⟩ ⟨⟨rfl, rfl⟩, trivial⟩
    · have h1 : inU a = false := decide_eq_false hu1
      have hf : (l.take 4).all inU = false := by
        rw [List.all_eq_false]
        exact ⟨a, List.mem_of_getElem? (by rw [List.getElem?_take, if_pos hi]; exact ha), by rw [h1]; decide⟩
      rw [if_pos hf]
      by_cases h2 : a < 0
      · repeat (first | refine stN ?_ | intro E)
        apply n_ret
        repeat (first | refine stN ?_ | intro E)
        exact q_ret (.inr rfl) rfl rfl rfl rfl rfl rfl
      · have h3 : 4294967296 ≤ a := by omega
        repeat (first | refine stN ?_ | intro E)
        apply n_ret
        repeat (first | refine stN ?_ | intro E)
        exact q_ret (.inr rfl) rfl rfl rfl rfl rfl rfl
  · have hi4 : i = 4 := by omega
    subst hi4
    rw [if_neg (by rw [hall]; decide)]
    repeat (first | refine stN ?_ | intro E)
    apply n_exit
    clear hll hq hi
    obtain ⟨a0, a1, a2, a3, a4, a5, a6, a7, rfl⟩ := eight hl8
    have hall : (([a0, a1, a2, a3] : List Int)).all inU = true := hall
    simp only [List.all_cons, List.all_nil, Bool.and_true, Bool.and_eq_true] at hall
    obtain ⟨q0, q1, q2, q3⟩ := hall
    obtain ⟨t0, rfl, r0⟩ := inU_nat q0
    obtain ⟨t1, rfl, r1⟩ := inU_nat q1
    obtain ⟨t2, rfl, r2⟩ := inU_nat q2
    obtain ⟨t3, rfl, r3⟩ := inU_nat q3
    have hn : niOf [(t0 : Int), t1, t2, t3, a4, a5, a6, a7] = ⟨t0, t1, t2, t3, a4, a5, a6, a7⟩ := rfl
    rw [hn]
    have c10 : Calls0 (evCall FN (k + 100499)) 10 [.agg [.int .u32 t0, .int .u32 t1, .int .u32 t2, .int .u32 t3, .int .i64 a4, .int .i64 a5, .int .i64 a6, .int .i64 a7]] (.bool (nvalidB ⟨t0, t1, t2, t3, a4, a5, a6, a7⟩)) := s10 (k := k + 99899) (x := ⟨t0, t1, t2, t3, a4, a5, a6, a7⟩) r1 r3
    have hL : (iV [(t0 : Int), t1, t2, t3, a4, a5, a6, a7]).length / 1 = 8 := by simp [iV]
    have g0 : inB 0 ((iV [(t0 : Int), t1, t2, t3, a4, a5, a6, a7]).length / 1) = some 0 := by rw [hL]; rfl
    have g1 : inB 1 ((iV [(t0 : Int), t1, t2, t3, a4, a5, a6, a7]).length / 1) = some 1 := by rw [hL]; rfl
    have g2 : inB 2 ((iV [(t0 : Int), t1, t2, t3, a4, a5, a6, a7]).length / 1) = some 2 := by rw [hL]; rfl
    have g3 : inB 3 ((iV [(t0 : Int), t1, t2, t3, a4, a5, a6, a7]).length / 1) = some 3 := by rw [hL]; rfl
    have g4 : inB 4 ((iV [(t0 : Int), t1, t2, t3, a4, a5, a6, a7]).length / 1) = some 4 := by rw [hL]; rfl
    have g5 : inB 5 ((iV [(t0 : Int), t1, t2, t3, a4, a5, a6, a7]).length / 1) = some 5 := by rw [hL]; rfl
    have g6 : inB 6 ((iV [(t0 : Int), t1, t2, t3, a4, a5, a6, a7]).length / 1) = some 6 := by rw [hL]; rfl
    have g7 : inB 7 ((iV [(t0 : Int), t1, t2, t3, a4, a5, a6, a7]).length / 1) = some 7 := by rw [hL]; rfl
    have w0 : IntKind.u32.wrap (t0 : Int) = t0 := w32 (by omega) (by omega)
    have w1 : IntKind.u32.wrap (t1 : Int) = t1 := w32 (by omega) (by omega)
    have w2 : IntKind.u32.wrap (t2 : Int) = t2 := w32 (by omega) (by omega)
    have w3 : IntKind.u32.wrap (t3 : Int) = t3 := w32 (by omega) (by omega)
    generalize nvalidB ⟨t0, t1, t2, t3, a4, a5, a6, a7⟩ = V at *
    cases V
    · rw [if_pos rfl]
      repeat (first | refine stN ?_ | intro E)
      exact q_ret (.inr rfl) rfl rfl rfl rfl rfl rfl
    · rw [if_neg (by decide)]
      repeat (first | refine stN ?_ | intro E)
      exact q_ret (.inr rfl) rfl rfl rfl rfl rfl rfl
end Go.Proofs.Ytaeoaakblilfeaa
