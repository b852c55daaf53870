/- Part 10 of the texts on which proofs about this seat rest: each says what it proves at its own head. No condition. -/
import Derived.Test.YtaeoaakblilfeaaM9
set_option linter.unusedVariables false
set_option linter.unusedSimpArgs false
/- Take, Fail with any error, Finish: what they come to. Condition: the memory is valid, the ring is there, the indices are of the ring. -/
namespace Go.Proofs.Ytaeoaakblilfeaa
open Go.Abs
variable {k : Nat}
set_option maxRecDepth 100000 in
set_option maxHeartbeats 1000000 in
theorem s63 {bs : List UInt8} {b s i : Nat} (h : RV bs b s) (hi : i < s) : Calls0 (evCall FN (k + 10400)) 63 [memV bs, ringV b s, .int .i64 i] (.tup [memV (takeM bs b s i), csl 4 (partsV bs b (takeL bs b s i)), .int .i64 (takeE bs b s i)]) := by
  have hl := h.m.le
  have hs := h.hs
  have hle := h.le
  have hb16 := h.hb
  have c81 : Calls0 (evCall FN (k + 10399)) 81 [memV bs, ringV b s, .int .i64 i] (dcV i (dw bs b i 0) (dw bs b i 1) (wr bs b i) (dw bs b i 2) (dw bs b i 3)) := (s81' (k := 0) h hi).fuel (by omega)
  have c86 : ∀ e, 161 ≤ e → e ≤ 165 → Calls0 (evCall FN (k + 10399)) 86 [memV bs, ringV b s, .int .i64 i, .int .i64 (e : Nat)] (memV (mark1 b (4 + (e - 160)) bs i)) := fun e h1 h2 => (s86 (k := 0) h hi (by omega)).fuel (by omega)
  refine q_call0 fn63 fun T H E lv => ?_
  repeat (first | refine stN ?_ | intro E)
  apply p_mks
  · exact rfl
  · exact rfl
  · exact ⟨by decide, by decide, by decide, by decide, rfl, by decide, rfl⟩
  intro lv' l1 l2
  repeat (first | refine stN ?_ | intro E)
  refine take_loop h hi l1 ⟨rfl, rfl, rfl, rfl, rfl, rfl, rfl, rfl, rfl, trivial⟩ ⟨rfl, rfl, rfl, trivial⟩ ?_ ?_
  · intro e js n lv c T H E hw he1 he2
    obtain ⟨e1, e2, e3⟩ := take_err hw (by omega)
    have c86 := c86 e he1 he2
    rw [e1, e2, e3]
    apply b_exit
    by_cases h3 : dw bs b i 3 = 1
    · rw [if_pos h3]
      repeat (first | refine stN ?_ | intro E)
      exact q_ret (.inr rfl) rfl rfl rfl rfl rfl rfl
    · rw [if_neg h3]
      repeat (first | refine stN ?_ | intro E)
      exact q_ret (.inr rfl) rfl rfl rfl rfl rfl rfl
  · intro br js n lv c T H E hw
    obtain ⟨e1, e2, e3⟩ := take_ok hw
    rw [e1, e2, e3]
    repeat (first | refine stN ?_ | intro E)
    exact q_ret (.inr rfl) rfl rfl rfl rfl rfl rfl
set_option maxRecDepth 100000 in
theorem s45 {bs bs0 : List UInt8} {b s : Nat} {js : List Nat} (h : RV bs b s) (hj : ∀ j ∈ js, j < s) (hn : js.length ≤ 100) : Calls0 (evCall FN (k + 201)) 45 [memV bs, ringV b s, csl 4 (partsV bs0 b js)] (memV (markB bs b 3 js)) := by
  have c73 : Calls0 (evCall FN (k + 200)) 73 [memV bs, ringV b s, csl 4 (partsV bs0 b js), .int .i64 ((3 : Nat) : Int)] (memV (markB bs b 3 js)) := s73 h hj (by omega) hn
  refine q_call0 fn45 fun T H E lv => ?_
  repeat (first | refine stN ?_ | intro E)
  exact q_ret (.inr rfl) rfl rfl rfl rfl rfl rfl
theorem rd_part {bs : List UInt8} {b j i : Nat} {js : List Nat} (h : js[j]? = some i) : rd (partsV bs b js) (j * 4) 4 true = some (.agg (partV bs b i)) := by
  have hlt : j < js.length := (List.getElem?_eq_some_iff.1 h).1
  have hl := parts_length bs b js
  simp only [rd, if_true]
  rw [if_pos (by omega)]
  congr 2
  apply List.ext_getElem?
  intro t
  by_cases ht : t < 4
  · rw [List.getElem?_take_of_lt ht, List.getElem?_drop, parts_get ht h]
  · rw [List.getElem?_eq_none (by rw [List.length_take]; omega), List.getElem?_eq_none (by rw [partV_length]; omega)]
set_option maxRecDepth 100000 in
theorem s67 {bs bs0 : List UInt8} {b s : Nat} {js : List Nat} (h : RV bs b s) (hj : ∀ j ∈ js, j < s) (hn : js.length ≤ 100) : Calls0 (evCall FN (k + 10400)) 67 [memV bs, ringV b s, csl 4 (partsV bs0 b js)] (memV (markB bs b 3 js)) := by
  have hl := h.m.le
  have hs := h.hs
  have hle := h.le
  have hb16 := h.hb
  refine q_call0 fn67 fun T H E lv => ?_
  repeat (first | refine stN ?_ | intro E)
  rw [parts_div]
  refine q_loop (α := Nat) (LInv.mk (fun j => j ≤ js.length) (fun j => js.length - j)
    (fun j => [(11, .int .i64 (j : Int)), (10, .int .i64 (js.length : Int)), (9, csl 4 (partsV bs0 b js)), (6, .ref 2 0), (4, .ref 1 0), (3, .ref 0 0)])
    (fun j => [(2, [.sl 0 0 []]), (1, [.int .u32 b, .int .u32 s]), (0, [csl 128 ((markB bs b 3 (js.take j)).map ofB)])]))
    (fun _ _ c => c = 4) 0 (Nat.zero_le _) rfl (show js.length - 0 < k + 10399 by omega) ⟨rfl, rfl, rfl, rfl, rfl, rfl, trivial⟩ ⟨rfl, rfl, rfl, trivial⟩ ?_
  rintro j lv c T H E hP rfl hμ
  have hP : j ≤ js.length := hP
  clear hμ
  dsimp only
  rcases Nat.lt_or_ge j js.length with hlt | hge
  · obtain ⟨i, hi⟩ : ∃ i, js[j]? = some i := ⟨_, List.getElem?_eq_getElem hlt⟩
    have his : i < s := hj i (List.mem_of_getElem? hi)
    have hr := rd_part (bs := bs0) (b := b) hi
    have gi : inB (j : Int) ((partsV bs0 b js).length / 4) = some j := inB_n (by rw [parts_div]; omega)
    have hV : RV (markB bs b 3 (js.take j)) b s := h.markB fun x hx => hj x (List.mem_of_mem_take hx)
    have c85 : Calls0 (evCall FN (k + 10399)) 85 [memV (markB bs b 3 (js.take j)), ringV b s, .int .i64 ((3 : Nat) : Int), csl 1 (intsV [i])] (memV (mark1 b 3 (markB bs b 3 (js.take j)) i)) := (s85 (k := 0) (js := [i]) hV (by simp [his]) (by omega) (by simp)).fuel (by omega)
    repeat (first | refine stN ?_ | intro E)
    exact n_again (j + 1) (show j + 1 ≤ js.length by omega) rfl (show js.length - (j + 1) < js.length - j by omega) ⟨rfl, rfl, rfl, rfl, rfl, rfl, trivial⟩ ⟨⟨rfl, rfl⟩, ⟨rfl, rfl⟩, ⟨by rw [markB_take hi]; rfl, rfl⟩, trivial⟩
  · repeat (first | refine stN ?_ | intro E)
    apply n_exit
    apply b_exit
    repeat (first | refine stN ?_ | intro E)
    rw [List.take_of_length_le hge]
    exact q_ret (.inr rfl) rfl rfl rfl rfl rfl rfl
end Go.Proofs.Ytaeoaakblilfeaa

/- First: what it comes to, and the reference's. Condition: the memory is valid, the ring is there. -/
namespace Go.Proofs.Ytaeoaakblilfeaa
open Go.Abs
variable {k : Nat}
def fstR (bs : List UInt8) (b s pos : Nat) : Nat → Nat → Nat × Bool
  | 0, _ => (0, false)
  | f + 1, j => if dw bs b ((pos + j) % s) 3 = 1 then ((pos + j) % s, true) else fstR bs b s pos f (j + 1)
theorem fstR_step {bs : List UInt8} {b s pos j : Nat} (h : j < s) : fstR bs b s pos (s - j) j = if dw bs b ((pos + j) % s) 3 = 1 then ((pos + j) % s, true) else fstR bs b s pos (s - (j + 1)) (j + 1) := by
  obtain ⟨f, hf⟩ : ∃ f, s - j = f + 1 := ⟨s - j - 1, by omega⟩
  have hf' : s - (j + 1) = f := by omega
  rw [hf, hf', fstR]
set_option maxRecDepth 100000 in
theorem s62 {bs : List UInt8} {b s pos x : Nat} {y : Bool} (h : RV bs b s) (hp : pos < 256) (hx : fstR bs b s pos s 0 = (x, y)) : Calls0 (evCall FN (k + 100)) 62 [memV bs, ringV b s, .int .i64 pos] (.tup [.int .i64 x, .bool y]) := by
  have hl := h.m.le
  have hs := h.hs
  have hle := h.le
  have hb16 := h.hb
  refine q_call0 fn62 fun T H E lv => ?_
  repeat (first | refine stN ?_ | intro E)
  refine q_loop (α := Nat) (LInv.mk (fun j => j ≤ s ∧ fstR bs b s pos (s - j) j = (x, y)) (fun j => s - j)
    (fun j => [(13, .int .i64 (j : Int)), (12, .int .i64 (s : Int)), (4, .ref 1 0), (3, .ref 0 0), (2, .int .i64 pos)])
    (fun j => [(1, [.int .u32 b, .int .u32 s]), (0, [csl 128 (bs.map ofB)])]))
    (fun _ _ c => c = 4) 0 ⟨Nat.zero_le _, hx⟩ rfl (show s - 0 < k + 99 by omega) ⟨rfl, rfl, rfl, rfl, rfl, trivial⟩ ⟨rfl, rfl, trivial⟩ ?_
  rintro j lv c T H E ⟨hP, hj⟩ rfl hμ
  have hP : j ≤ s := hP
  have hj : fstR bs b s pos (s - j) j = (x, y) := hj
  clear hμ
  dsimp only
  rcases Nat.lt_or_ge j s with hlt | hge
  · rw [fstR_step hlt] at hj
    have his : (pos + j) % s < s := Nat.mod_lt _ (by omega)
    have c81 : Calls0 (evCall FN (k + 99)) 81 [memV bs, ringV b s, .int .i64 (((pos + j) % s : Nat) : Int)] (dcV ((pos + j) % s) (dw bs b ((pos + j) % s) 0) (dw bs b ((pos + j) % s) 1) (wr bs b ((pos + j) % s)) (dw bs b ((pos + j) % s) 2) (dw bs b ((pos + j) % s) 3)) := (s81' (k := 0) h his).fuel (by omega)
    have gr : evBin .rem (.int .i64 ((pos + j : Nat) : Int)) (.int .i64 (s : Int)) = some (.int .i64 (((pos + j) % s : Nat) : Int)) := rem_nn (by omega)
    by_cases hd : dw bs b ((pos + j) % s) 3 = 1
    · rw [if_pos hd, Prod.mk.injEq] at hj
      obtain ⟨rfl, rfl⟩ := hj
      repeat (first | refine stN ?_ | intro E)
      apply n_ret
      repeat (first | refine stN ?_ | intro E)
      exact q_ret (.inr rfl) rfl rfl rfl rfl rfl rfl
    · rw [if_neg hd] at hj
      repeat (first | refine stN ?_ | intro E)
      exact n_again (j + 1) ⟨by omega, hj⟩ rfl (show s - (j + 1) < s - j by omega) ⟨rfl, rfl, rfl, rfl, rfl, trivial⟩ ⟨⟨rfl, rfl⟩, ⟨rfl, rfl⟩, trivial⟩
  · have hjs : s - j = 0 := by omega
    rw [hjs, fstR, Prod.mk.injEq] at hj
    obtain ⟨rfl, rfl⟩ := hj
    repeat (first | refine stN ?_ | intro E)
    apply n_exit
    apply b_exit
    repeat (first | refine stN ?_ | intro E)
    exact q_ret (.inr rfl) rfl rfl rfl rfl rfl rfl
set_option maxRecDepth 100000 in
theorem s40 {bs : List UInt8} {b s pos x : Nat} {y : Bool} (h : RV bs b s) (hp : pos < 256) (hx : fstR bs b s pos s 0 = (x, y)) : Calls0 (evCall FN (k + 100)) 40 [memV bs, ringV b s, .int .i64 pos] (.agg [.int .i64 x, .bool y]) := by
  have hl := h.m.le
  have hs := h.hs
  have hle := h.le
  have hb16 := h.hb
  refine q_call0 fn40 fun T H E lv => ?_
  repeat (first | refine stN ?_ | intro E)
  refine q_loop (α := Nat) (LInv.mk (fun j => j ≤ s ∧ fstR bs b s pos (s - j) j = (x, y)) (fun j => s - j)
    (fun j => [(8, .int .i64 (j : Int)), (7, .int .i64 (s : Int)), (6, .ref 2 0), (4, .ref 1 0), (3, .ref 0 0), (2, .int .i64 pos)])
    (fun j => [(2, [.int .i64 0, .bool false]), (1, [.int .u32 b, .int .u32 s]), (0, [csl 128 (bs.map ofB)])]))
    (fun _ _ c => c = 4) 0 ⟨Nat.zero_le _, hx⟩ rfl (show s - 0 < k + 99 by omega) ⟨rfl, rfl, rfl, rfl, rfl, rfl, trivial⟩ ⟨rfl, rfl, rfl, trivial⟩ ?_
  rintro j lv c T H E ⟨hP, hj⟩ rfl hμ
  have hP : j ≤ s := hP
  have hj : fstR bs b s pos (s - j) j = (x, y) := hj
  clear hμ
  dsimp only
  rcases Nat.lt_or_ge j s with hlt | hge
  · rw [fstR_step hlt] at hj
    have his : (pos + j) % s < s := Nat.mod_lt _ (by omega)
    have c70 : Calls0 (evCall FN (k + 99)) 70 [memV bs, ringV b s, .int .i64 (((pos + j) % s : Nat) : Int), .int .i64 ((3 : Nat) : Int)] (.int .i64 (dw bs b ((pos + j) % s) 3)) := (s70 (k := 0) h his (by omega)).fuel (by omega)
    have gr : evBin .rem (.int .i64 ((pos + j : Nat) : Int)) (.int .i64 (s : Int)) = some (.int .i64 (((pos + j) % s : Nat) : Int)) := rem_nn (by omega)
    by_cases hd : dw bs b ((pos + j) % s) 3 = 1
    · rw [if_pos hd, Prod.mk.injEq] at hj
      obtain ⟨rfl, rfl⟩ := hj
      repeat (first | refine stN ?_ | intro E)
      apply n_ret
      repeat (first | refine stN ?_ | intro E)
      exact q_ret (.inr rfl) rfl rfl rfl rfl rfl rfl
    · rw [if_neg hd] at hj
      repeat (first | refine stN ?_ | intro E)
      exact n_again (j + 1) ⟨by omega, hj⟩ rfl (show s - (j + 1) < s - j by omega) ⟨rfl, rfl, rfl, rfl, rfl, rfl, trivial⟩ ⟨⟨rfl, rfl⟩, ⟨rfl, rfl⟩, ⟨rfl, rfl⟩, trivial⟩
  · have hjs : s - j = 0 := by omega
    rw [hjs, fstR, Prod.mk.injEq] at hj
    obtain ⟨rfl, rfl⟩ := hj
    repeat (first | refine stN ?_ | intro E)
    apply n_exit
    apply b_exit
    repeat (first | refine stN ?_ | intro E)
    exact q_ret (.inr rfl) rfl rfl rfl rfl rfl rfl
end Go.Proofs.Ytaeoaakblilfeaa

/- What is valid, and what is there. Condition: the numbers of the ring are words. -/
namespace Go.Proofs.Ytaeoaakblilfeaa
open Go.Abs
variable {k : Nat}
set_option maxRecDepth 100000 in
theorem s8t {bs : List UInt8} (h : VM bs) : Calls0 (evCall FN (k + 1)) 8 [memV bs] (.bool true) := by
  have hl := h.le
  have hd : (bs.map ofB).length / 128 = bs.length / 128 := by rw [List.length_map]
  refine q_call0 fn8 fun T H E lv => ?_
  repeat (first | refine stN ?_ | intro E)
  exact q_ret (.inr rfl) rfl rfl rfl rfl rfl rfl
set_option maxRecDepth 100000 in
theorem s8f {bs : List UInt8} {p : Nat} (hp : bs.length = 128 * p) (h : p = 0 ∨ 64 < p) : Calls0 (evCall FN (k + 1)) 8 [memV bs] (.bool false) := by
  have hd : (bs.map ofB).length / 128 = p := by rw [List.length_map]; omega
  refine q_call0 fn8 fun T H E lv => ?_
  rcases h with h | h
  · repeat (first | refine stN ?_ | intro E)
    exact q_ret (.inr rfl) rfl rfl rfl rfl rfl rfl
  · repeat (first | refine stN ?_ | intro E)
    exact q_ret (.inr rfl) rfl rfl rfl rfl rfl rfl
def chkN (n b s : Nat) : Nat := if (s = 1 ∨ s = 2 ∨ s = 4 ∨ s = 8) ∧ b % 16 = 0 ∧ b + 16 * s ≤ n then 0 else 160
theorem rem_u32 (b : Nat) : evBin .rem (.int .u32 (b : Int)) (.int .u32 16) = some (.int .u32 ((b % 16 : Nat) : Int)) := by
  simp only [evBin, reduceCtorEq, or_self, if_false, if_true, evInt]
  rw [if_neg (by decide), Int.tmod_eq_emod_of_nonneg (by omega)]
  simp
set_option maxRecDepth 100000 in
theorem s60 {bs : List UInt8} {b s : Nat} (h : VM bs) (hb : b < 4294967296) (hs : s < 4294967296) : Calls0 (evCall FN (k + 2)) 60 [memV bs, ringV b s] (.int .i64 (chkN bs.length b s)) := by
  have hl := h.le
  have gr := rem_u32 b
  have c53 : Calls0 (evCall FN (k + 1)) 53 [memV bs] (.int .i64 bs.length) := s53 h
  refine q_call0 fn60 fun T H E lv => ?_
  repeat' (first | refine stM ?_ | intro E | (refine stS ?_ ?_ <;> intro hc) | refine stB ?_ | (refine stG ?_ ?_ <;> intro hc))
  all_goals
    refine q_ret (.inr rfl) rfl rfl rfl rfl ?_ rfl
    refine congrArg (AV.int .i64) ?_
    unfold chkN
    split <;> omega
set_option maxRecDepth 100000 in
theorem s21 {bs : List UInt8} {b s : Nat} (h : VM bs) (hb : b < 4294967296) (hs : s < 4294967296) : Calls0 (evCall FN (k + 2)) 21 [memV bs, ringV b s] (.int .i64 (chkN bs.length b s)) := by
  have hl := h.le
  have gr := rem_u32 b
  have c50 : Calls0 (evCall FN (k + 1)) 50 [memV bs] (.int .i64 bs.length) := s50 h
  refine q_call0 fn21 fun T H E lv => ?_
  repeat' (first | refine stM ?_ | intro E | (refine stS ?_ ?_ <;> intro hc) | refine stB ?_ | (refine stG ?_ ?_ <;> intro hc))
  all_goals
    refine q_ret (.inr rfl) rfl rfl rfl rfl ?_ rfl
    refine congrArg (AV.int .i64) ?_
    unfold chkN
    split <;> omega
end Go.Proofs.Ytaeoaakblilfeaa
