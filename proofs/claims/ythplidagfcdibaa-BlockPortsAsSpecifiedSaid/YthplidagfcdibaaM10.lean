/- Part 10 of the texts on which proofs about this seat rest: each says what it proves at its own head. No condition. -/
import Derived.Test.YthplidagfcdibaaM9
set_option linter.unusedVariables false
set_option linter.unusedSimpArgs false
/- Rows of records in cells, and how requests and block devices lie in cells. No condition. -/
namespace Go.Proofs.Ythplidagfcdibaa
open Go.Abs
variable {k : Nat}
section
variable {α : Type} {f : α → List AV} {m : Nat} {l : List α} {j t : Nat} {p : α}
theorem fm_length (hf : ∀ x, (f x).length = m) : ∀ (l : List α), (l.flatMap f).length = l.length * m
  | [] => by simp
  | x :: l => by rw [List.flatMap_cons, List.length_append, hf, fm_length hf l, List.length_cons, Nat.add_mul, Nat.one_mul, Nat.add_comm]
theorem fm_div (hf : ∀ x, (f x).length = m) (h0 : 0 < m) (l : List α) : (l.flatMap f).length / m = l.length := by
  rw [fm_length hf, Nat.mul_div_cancel _ h0]
theorem fm_get (hf : ∀ x, (f x).length = m) (ht : t < m) : ∀ {l : List α} {j : Nat}, l[j]? = some p → (l.flatMap f)[j * m + t]? = (f p)[t]?
  | [], j, h => by simp at h
  | x :: l, 0, h => by
    simp only [List.getElem?_cons_zero, Option.some.injEq] at h
    subst h
    rw [List.flatMap_cons, List.getElem?_append_left (by rw [hf]; omega)]
    congr 1; omega
  | x :: l, j + 1, h => by
    have ih := fm_get hf ht (l := l) (j := j) (by simpa using h)
    rw [List.flatMap_cons, List.getElem?_append_right (by rw [hf, Nat.add_mul]; omega), hf, ← ih]
    congr 1; rw [Nat.add_mul]; omega
theorem fm_part (hf : ∀ x, (f x).length = m) (h : l[j]? = some p) : ((l.flatMap f).drop (j * m)).take m = f p := by
  have hlt : j < l.length := (List.getElem?_eq_some_iff.1 h).1
  have hl := fm_length hf l
  apply List.ext_getElem?
  intro t
  by_cases ht : t < m
  · rw [List.getElem?_take_of_lt ht, List.getElem?_drop, fm_get hf ht h]
  · rw [List.getElem?_eq_none (by rw [List.length_take]; omega), List.getElem?_eq_none (by rw [hf]; omega)]
theorem fm_agg (hf : ∀ x, (f x).length = m) (h : l[j]? = some p) : rd (l.flatMap f) (j * m) m true = some (.agg (f p)) := by
  have hlt : j < l.length := (List.getElem?_eq_some_iff.1 h).1
  have hl := fm_length hf l
  have h2 : (j + 1) * m ≤ l.length * m := Nat.mul_le_mul_right _ hlt
  rw [Nat.add_mul, Nat.one_mul] at h2
  simp only [rd, if_true]
  rw [if_pos (by omega), fm_part hf h]
theorem fm_rd (hf : ∀ x, (f x).length = m) (ht : t < m) (h : l[j]? = some p) {v : AV} (hv : (f p)[t]? = some v) (hl : v.leaf = true) : rd (l.flatMap f) (j * m + t) 1 false = some v := by
  simp only [rd, Bool.false_eq_true, if_false, fm_get hf ht h, hv, hl]; rfl
theorem fm_flat (hf : ∀ x, flatL (f x) = true) : ∀ (l : List α), flatL (l.flatMap f) = true
  | [] => rfl
  | x :: l => by
    rw [List.flatMap_cons, flatL_iff]
    intro y hy
    rcases List.mem_append.1 hy with h | h
    · exact (flatL_iff _).1 (hf x) y h
    · exact (flatL_iff _).1 (fm_flat hf l) y h
theorem fm_take (hf : ∀ x, (f x).length = m) : ∀ (l : List α) (j : Nat), (l.flatMap f).take (j * m) = (l.take j).flatMap f
  | l, 0 => by simp
  | [], j + 1 => by simp
  | x :: l, j + 1 => by
    rw [List.flatMap_cons, List.take_succ_cons, List.flatMap_cons, Nat.add_mul, Nat.one_mul, ← fm_take hf l j]
    rw [List.take_append, hf, List.take_of_length_le (by rw [hf]; omega)]
    congr 2; omega
theorem fm_drop (hf : ∀ x, (f x).length = m) : ∀ (l : List α) (j : Nat), (l.flatMap f).drop (j * m) = (l.drop j).flatMap f
  | l, 0 => by simp
  | [], j + 1 => by simp
  | x :: l, j + 1 => by
    rw [List.flatMap_cons, List.drop_succ_cons, Nat.add_mul, Nat.one_mul, ← fm_drop hf l j]
    rw [List.drop_append, hf, List.drop_of_length_le (by rw [hf]; omega), List.nil_append]
    congr 1; omega
theorem fm_canon (hf : ∀ x, (f x).map canonCell = f x) : ∀ (l : List α), (l.flatMap f).map canonCell = l.flatMap f
  | [] => rfl
  | x :: l => by rw [List.flatMap_cons, List.map_append, hf, fm_canon hf l]
end
/-- A part whose numbers may be any. -/
structure PI where
  i : Int
  a : Int
  n : Int
  w : Bool
def piV (p : PI) : List AV := [.int .i64 p.i, .int .i64 p.a, .int .i64 p.n, .bool p.w]
def pisV (l : List PI) : List AV := l.flatMap piV
theorem piV_length (p : PI) : (piV p).length = 4 := rfl
theorem pis_div (l : List PI) : (pisV l).length / 4 = l.length := fm_div piV_length (by omega) l
theorem pis_flat (l : List PI) : flatL (pisV l) = true := fm_flat (fun _ => rfl) l
def Pt.toI (p : Pt) : PI := ⟨p.i, p.a, p.n, p.w⟩
theorem pis_of (l : List Pt) : pisV (l.map Pt.toI) = ptsV l := by simp only [pisV, ptsV, List.flatMap_map]; rfl
/-- A request whose numbers may be any. -/
structure RI where
  b : Nat
  s : Nat
  q : Int
  w : Bool
  l : List PI
def riV (r : RI) : List AV := [.int .u32 r.b, .int .u32 r.s, .int .i64 r.q, .bool r.w, csl 4 (pisV r.l)]
def risV (l : List RI) : List AV := l.flatMap riV
theorem riV_length (r : RI) : (riV r).length = 5 := rfl
theorem ris_div (l : List RI) : (risV l).length / 5 = l.length := fm_div riV_length (by omega) l
theorem riV_flat (r : RI) : flatL (riV r) = true := by simp [riV, flatL, AV.flat, csl, pis_flat]
theorem ris_flat (l : List RI) : flatL (risV l) = true := fm_flat riV_flat l
theorem riV_canon (r : RI) : (riV r).map canonCell = riV r := rfl
theorem ris_canon (l : List RI) : (risV l).map canonCell = risV l := fm_canon riV_canon l
/-- A block device: the ring, where it goes on, its status, its sectors (their bytes), the requests in flight. -/
structure BI where
  b : Nat
  s : Nat
  at' : Int
  st : Int
  d : List UInt8
  f : List RI
def biC (x : BI) : List AV := [.int .u32 x.b, .int .u32 x.s, .int .i64 x.at', .int .i64 x.st, csl 128 (x.d.map ofB), csl 5 (risV x.f)]
def biV (x : BI) : AV := .agg (biC x)
/-- What a device has done: its memory, a value, outputs, an interrupt, and whether it is right. -/
structure DI where
  m : List UInt8
  v : Nat
  r : Bool
  ok : Bool
def diC (x : DI) : List AV := [csl 128 (x.m.map ofB), .int .u32 x.v, .sl 1 0 [], .bool x.r, .bool x.ok]
def diV (x : DI) : AV := .agg (diC x)
/-- The sum of the parts' lengths. -/
def smI (l : List PI) : Int := l.foldl (fun n p => n + p.n) 0
/-- The error of the parts of a request after the first one. -/
def fitI (l : List PI) (w : Bool) : Nat := if l = [] ∨ 128 < smI l then 161 else if l.any (fun p => p.w == w) then 164 else 0
def okN (l : List PI) : Prop := ∀ p ∈ l, 1 ≤ p.n ∧ p.n ≤ 4294967296
theorem sm_range : ∀ {l : List PI} {n : Int}, okN l → n + l.length ≤ l.foldl (fun n p => n + p.n) n ∧ l.foldl (fun n p => n + p.n) n ≤ n + l.length * 4294967296
  | [], n, _ => by simp
  | p :: l, n, h => by
    have h1 := h p List.mem_cons_self
    have ih := sm_range (l := l) (n := n + p.n) fun q hq => h q (List.mem_cons_of_mem _ hq)
    simp only [List.foldl_cons, List.length_cons]
    omega
theorem okN.take {l : List PI} (h : okN l) (i : Nat) : okN (l.take i) := fun p hp => h p (List.mem_of_mem_take hp)
end Go.Proofs.Ythplidagfcdibaa

/- The parts of a request after the first one: by the program, by the reference. Condition: the lengths are positive words. -/
namespace Go.Proofs.Ythplidagfcdibaa
open Go.Abs
variable {k : Nat}
set_option maxRecDepth 100000 in
theorem s70 {l : List PI} {w : Bool} (hn : l.length ≤ 100) (hs : okN l) : Calls0 (evCall FN (k + 200)) 70 [csl 4 (pisV l), .bool w] (.int .i64 (fitI l w)) := by
  refine q_call0 fn70 fun T H E lv => ?_
  repeat (first | refine stN ?_ | intro E)
  rw [pis_div]
  refine q_loop (α := Nat) (LInv.mk (fun i => i ≤ l.length) (fun i => l.length - i)
    (fun i => [(12, .int .i64 (i : Int)), (11, .int .i64 (l.length : Int)), (10, csl 4 (pisV l)), (5, .int .i64 (smI (l.take i))), (4, .int .i64 0), (1, .bool w), (0, csl 4 (pisV l))]) (fun i => []))
    (fun _ _ c => c = 4) 0 (Nat.zero_le _) rfl (show l.length - 0 < k + 199 by omega) ⟨rfl, rfl, rfl, rfl, rfl, rfl, rfl, trivial⟩ trivial ?_
  rintro i lv c T H E hP rfl hμ
  have hP : i ≤ l.length := hP
  clear hμ
  dsimp only
  rcases Nat.lt_or_ge i l.length with hi | hi
  · obtain ⟨p, hp⟩ : ∃ p, l[i]? = some p := ⟨_, List.getElem?_eq_getElem hi⟩
    have hps := hs p (List.mem_of_getElem? hp)
    have gi : inB (i : Int) ((pisV l).length / 4) = some i := inB_n (by rw [pis_div]; omega)
    have hft : smI (l.take (i + 1)) = smI (l.take i) + p.n := foldl_take hp
    have hle := sm_range (n := 0) (hs.take i)
    rw [List.length_take] at hle
    have hle : _ ∧ smI (l.take i) ≤ _ := hle
    have hle0 : _ ≤ smI (l.take i) := hle.1
    have hr : rd (pisV l) (i * 4) 4 true = some (.agg [.int .i64 p.i, .int .i64 p.a, .int .i64 p.n, .bool p.w]) := fm_agg piV_length hp
    have ha : evBin .add (.int .i64 (smI (l.take i))) (.int .i64 p.n) = some (.int .i64 (smI (l.take (i + 1)))) := add_w hft.symm (by omega) (by omega)
    repeat (first | refine stN ?_ | intro E)
    exact n_again (i + 1) (show i + 1 ≤ l.length by omega) rfl (show l.length - (i + 1) < l.length - i by omega) ⟨rfl, rfl, rfl, rfl, rfl, rfl, rfl, trivial⟩ trivial
  · rw [List.take_of_length_le hi]
    have hle := sm_range (n := 0) hs
    have h1 : (0 : Int) + l.length ≤ smI l := hle.1
    repeat (first | refine stN ?_ | intro E)
    apply n_exit
    apply b_exit
    by_cases h0 : l = [] ∨ 128 < smI l
    · have hf : fitI l w = 161 := if_pos h0
      rw [hf]
      rcases h0 with rfl | h0
      · have e : smI [] = 0 := rfl
        rw [e]
        repeat (first | refine stN ?_ | intro E)
        exact q_ret (.inr rfl) rfl rfl rfl rfl rfl rfl
      · repeat (first | refine stN ?_ | intro E)
        exact q_ret (.inr rfl) rfl rfl rfl rfl rfl rfl
    · have hf : fitI l w = if l.any (fun p => p.w == w) then 164 else 0 := if_neg h0
      have h2 : 1 ≤ smI l := by
        rcases l with _ | ⟨p, l⟩
        · exact absurd (.inl rfl) h0
        · simp only [List.length_cons] at h1; omega
      have h3 : smI l ≤ 128 := by omega
      rw [hf]
      repeat (first | refine stN ?_ | intro E)
      rw [pis_div]
      refine q_loop (α := Nat) (LInv.mk (fun i => i ≤ l.length ∧ (l.take i).any (fun p => p.w == w) = false) (fun i => l.length - i)
        (fun i => [(29, .int .i64 (i : Int)), (28, .int .i64 (l.length : Int)), (27, csl 4 (pisV l)), (4, .int .i64 0), (1, .bool w)]) (fun i => []))
        (fun _ _ c => c = 4) 0 ⟨Nat.zero_le _, by simp⟩ rfl (show l.length - 0 < k + 199 by omega) ⟨rfl, rfl, rfl, rfl, rfl, trivial⟩ trivial ?_
      rintro i lv c T H E hP rfl hμ
      have hP : i ≤ l.length ∧ (l.take i).any (fun p => p.w == w) = false := hP
      obtain ⟨hP, hno⟩ := hP
      clear hμ
      dsimp only
      rcases Nat.lt_or_ge i l.length with hi | hi
      · obtain ⟨p, hp⟩ : ∃ p, l[i]? = some p := ⟨_, List.getElem?_eq_getElem hi⟩
        have gi : inB (i : Int) ((pisV l).length / 4) = some i := inB_n (by rw [pis_div]; omega)
        have hr : rd (pisV l) (i * 4) 4 true = some (.agg [.int .i64 p.i, .int .i64 p.a, .int .i64 p.n, .bool p.w]) := fm_agg piV_length hp
        have hat := any_take (f := fun p => p.w == w) hp
        rw [hno, Bool.false_or] at hat
        cases hpw : (p.w == w)
        · rw [hpw] at hat
          have : p.w = !w := by cases hq : p.w <;> cases w <;> simp_all
          rw [this] at hr
          cases w
          all_goals
            repeat (first | refine stN ?_ | intro E)
            exact n_again (i + 1) ⟨by omega, hat⟩ rfl (show l.length - (i + 1) < l.length - i by omega) ⟨rfl, rfl, rfl, rfl, rfl, trivial⟩ trivial
        · have e : l.any (fun p => p.w == w) = true := List.any_eq_true.2 ⟨p, List.mem_of_getElem? hp, hpw⟩
          have : p.w = w := by simpa using hpw
          rw [e, if_pos rfl]
          rw [this] at hr
          cases w
          all_goals
            repeat (first | refine stN ?_ | intro E)
            apply n_ret
            repeat (first | refine stN ?_ | intro E)
            exact q_ret (.inr rfl) rfl rfl rfl rfl rfl rfl
      · rw [List.take_of_length_le hi] at hno
        rw [hno]
        repeat (first | refine stN ?_ | intro E)
        apply n_exit
        apply b_exit
        repeat (first | refine stN ?_ | intro E)
        exact q_ret (.inr rfl) rfl rfl rfl rfl rfl rfl
set_option maxRecDepth 100000 in
theorem s68 {l : List PI} {w : Bool} (hn : l.length ≤ 100) (hs : okN l) : Calls0 (evCall FN (k + 200)) 68 [csl 4 (pisV l), .bool w] (.int .i64 (fitI l w)) := by
  have hdv := pis_div l
  refine q_call0 fn68 fun T H E lv => ?_
  repeat (first | refine stN ?_ | intro E)
  refine q_loop (α := Nat) (LInv.mk (fun i => i ≤ l.length) (fun i => l.length - i)
    (fun i => [(6, .int .i64 (i : Int)), (5, .int .i64 (smI (l.take i))), (4, .int .i64 0), (1, .bool w), (0, csl 4 (pisV l))]) (fun i => []))
    (fun _ _ c => c = 4) 0 (Nat.zero_le _) rfl (show l.length - 0 < k + 199 by omega) ⟨rfl, rfl, rfl, rfl, rfl, trivial⟩ trivial ?_
  rintro i lv c T H E hP rfl hμ
  have hP : i ≤ l.length := hP
  clear hμ
  dsimp only
  rcases Nat.lt_or_ge i l.length with hi | hi
  · obtain ⟨p, hp⟩ : ∃ p, l[i]? = some p := ⟨_, List.getElem?_eq_getElem hi⟩
    have hps := hs p (List.mem_of_getElem? hp)
    have gi : inB (i : Int) ((pisV l).length / 4) = some i := inB_n (by rw [pis_div]; omega)
    have hft : smI (l.take (i + 1)) = smI (l.take i) + p.n := foldl_take hp
    have hle := sm_range (n := 0) (hs.take i)
    rw [List.length_take] at hle
    have hle : _ ∧ smI (l.take i) ≤ _ := hle
    have hle0 : _ ≤ smI (l.take i) := hle.1
    have hr : rd (pisV l) (i * 4 + 2) 1 false = some (.int .i64 p.n) := fm_rd piV_length (by omega) hp rfl rfl
    have ha : evBin .add (.int .i64 (smI (l.take i))) (.int .i64 p.n) = some (.int .i64 (smI (l.take (i + 1)))) := add_w hft.symm (by omega) (by omega)
    repeat (first | refine stN ?_ | intro E)
    exact n_again (i + 1) (show i + 1 ≤ l.length by omega) rfl (show l.length - (i + 1) < l.length - i by omega) ⟨rfl, rfl, rfl, rfl, rfl, trivial⟩ trivial
  · rw [List.take_of_length_le hi]
    repeat (first | refine stN ?_ | intro E)
    apply n_exit
    apply b_exit
    by_cases h0 : l = [] ∨ 128 < smI l
    · have hf : fitI l w = 161 := if_pos h0
      rw [hf]
      by_cases h00 : l = []
      · subst h00
        repeat (first | refine stN ?_ | intro E)
        exact q_ret (.inr rfl) rfl rfl rfl rfl rfl rfl
      · have h0 := h0.resolve_left h00
        have : 0 < l.length := List.length_pos_iff.2 h00
        repeat (first | refine stN ?_ | intro E)
        exact q_ret (.inr rfl) rfl rfl rfl rfl rfl rfl
    · have hf : fitI l w = if l.any (fun p => p.w == w) then 164 else 0 := if_neg h0
      have : 0 < l.length := List.length_pos_iff.2 fun h => h0 (.inl h)
      have h3 : smI l ≤ 128 := by omega
      rw [hf]
      repeat (first | refine stN ?_ | intro E)
      refine q_loop (α := Nat) (LInv.mk (fun i => i ≤ l.length ∧ (l.take i).any (fun p => p.w == w) = false) (fun i => l.length - i)
        (fun i => [(7, .int .i64 (i : Int)), (4, .int .i64 0), (1, .bool w), (0, csl 4 (pisV l))]) (fun i => []))
        (fun _ _ c => c = 4) 0 ⟨Nat.zero_le _, by simp⟩ rfl (show l.length - 0 < k + 199 by omega) ⟨rfl, rfl, rfl, rfl, trivial⟩ trivial ?_
      rintro i lv c T H E hP rfl hμ
      have hP : i ≤ l.length ∧ (l.take i).any (fun p => p.w == w) = false := hP
      obtain ⟨hP, hno⟩ := hP
      clear hμ
      dsimp only
      rcases Nat.lt_or_ge i l.length with hi | hi
      · obtain ⟨p, hp⟩ : ∃ p, l[i]? = some p := ⟨_, List.getElem?_eq_getElem hi⟩
        have gi : inB (i : Int) ((pisV l).length / 4) = some i := inB_n (by rw [pis_div]; omega)
        have hr : rd (pisV l) (i * 4 + 3) 1 false = some (.bool p.w) := fm_rd piV_length (by omega) hp rfl rfl
        have hat := any_take (f := fun p => p.w == w) hp
        rw [hno, Bool.false_or] at hat
        cases hpw : (p.w == w)
        · rw [hpw] at hat
          have : p.w = !w := by cases hq : p.w <;> cases w <;> simp_all
          rw [this] at hr
          cases w
          all_goals
            repeat (first | refine stN ?_ | intro E)
            exact n_again (i + 1) ⟨by omega, hat⟩ rfl (show l.length - (i + 1) < l.length - i by omega) ⟨rfl, rfl, rfl, rfl, trivial⟩ trivial
        · have e : l.any (fun p => p.w == w) = true := List.any_eq_true.2 ⟨p, List.mem_of_getElem? hp, hpw⟩
          have : p.w = w := by simpa using hpw
          rw [e, if_pos rfl]
          rw [this] at hr
          cases w
          all_goals
            repeat (first | refine stN ?_ | intro E)
            apply n_ret
            repeat (first | refine stN ?_ | intro E)
            exact q_ret (.inr rfl) rfl rfl rfl rfl rfl rfl
      · rw [List.take_of_length_le hi] at hno
        rw [hno]
        repeat (first | refine stN ?_ | intro E)
        apply n_exit
        apply b_exit
        repeat (first | refine stN ?_ | intro E)
        exact q_ret (.inr rfl) rfl rfl rfl rfl rfl rfl
end Go.Proofs.Ythplidagfcdibaa

/- Whether a request is right, by the program. Condition: the memory is valid; the numbers are such as their types hold; at most 100 parts. -/
namespace Go.Proofs.Ythplidagfcdibaa
open Go.Abs
variable {k : Nat}
/-- A set of numbers, as a map. -/
def setV (js : List Int) : List AV := js.flatMap fun j => [.int .i64 j, .bool true]
theorem setV_get (i : Int) : ∀ (js : List Int), getM 0 (.int .i64 i) (setV js) = some (if i ∈ js then some (.bool true) else none)
  | [] => rfl
  | j :: js => by
    have ih := setV_get i js
    have e : setV (j :: js) = .int .i64 j :: .bool true :: setV js := rfl
    rw [e]
    simp only [getM, eqK, if_true]
    by_cases h : i = j
    · subst h; simp
    · have : (i == j) = false := by simpa using h
      rw [this]
      simp only [ih, List.mem_cons, h, false_or]
theorem setV_set {i : Int} : ∀ {js : List Int}, i ∉ js → setM 0 (.int .i64 i) (.bool true) (setV js) = some (setV (js ++ [i]))
  | [], _ => rfl
  | j :: js, h => by
    simp only [List.mem_cons, not_or] at h
    have ih := setV_set h.2
    have e : setV (j :: js) = .int .i64 j :: .bool true :: setV js := rfl
    rw [e]
    have : (i == j) = false := by simpa using h.1
    simp only [setM, eqK, if_true, this, ih, Option.map_some]
    rfl
theorem setV_under (n : Nat) : ∀ (js : List Int), underL n (setV js) = true
  | [] => rfl
  | j :: js => by
    have e : setV (j :: js) = .int .i64 j :: .bool true :: setV js := rfl
    rw [e]
    simp only [underL, AV.under, setV_under n js, Bool.and_self]
/-- A part is right: it is of the ring, and lies in memory. -/
def okP (L s : Nat) (p : PI) : Prop := 0 ≤ p.i ∧ p.i < s ∧ 1 ≤ p.n ∧ p.n ≤ 512 ∧ 0 ≤ p.a ∧ p.a ≤ (L : Int) - p.n
def idx (l : List PI) : List Int := l.map (·.i)
def partsOK (L s : Nat) (l : List PI) : Prop := (∀ p ∈ l, okP L s p) ∧ (idx l).Nodup
/-- A request is right. -/
def RightP (L D : Nat) (r : RI) : Prop :=
  (chkN L r.b r.s = 0 ∧ 0 ≤ r.q ∧ r.q < D ∧ 2 ≤ r.l.length ∧ r.l.length ≤ 4) ∧ partsOK L r.s r.l ∧ ∃ p l, r.l = p :: l ∧ p.w = false ∧ p.n = 8 ∧ fitI l r.w = 0
noncomputable def rightB (L D : Nat) (r : RI) : Bool := @decide (RightP L D r) (Classical.propDecidable _)
theorem rightB_t {L D : Nat} {r : RI} (h : RightP L D r) : rightB L D r = true := @decide_eq_true _ (Classical.propDecidable _) h
theorem rightB_f {L D : Nat} {r : RI} (h : ¬ RightP L D r) : rightB L D r = false := @decide_eq_false _ (Classical.propDecidable _) h
theorem rightB_iff {L D : Nat} {r : RI} : rightB L D r = true ↔ RightP L D r := by
  constructor
  · intro h
    exact @of_decide_eq_true _ (Classical.propDecidable _) h
  · exact rightB_t
theorem idx_take {l : List PI} {i : Nat} {p : PI} (h : l[i]? = some p) : idx (l.take (i + 1)) = idx (l.take i) ++ [p.i] := by
  unfold idx; rw [List.take_add_one, h]; simp
theorem nodup_at {l : List PI} {i : Nat} {p : PI} (h : l[i]? = some p) (hn : (idx l).Nodup) : p.i ∉ idx (l.take i) := by
  have h1 : (idx (l.take (i + 1))).Nodup := by
    refine List.Sublist.nodup ?_ hn
    exact (List.take_sublist _ _).map _
  rw [idx_take h, List.nodup_append] at h1
  intro hm
  exact h1.2.2 _ hm _ (by simp) rfl
set_option maxRecDepth 100000 in
set_option maxHeartbeats 2000000 in
theorem s38 {bs : List UInt8} {D : Nat} {r : RI} (h : VM bs) (hb : r.b < 4294967296) (hs : r.s < 4294967296) (hD : D < 1000000) (hn : r.l.length ≤ 100) : Calls0 (evCall FN (k + 400)) 38 [.agg (riV r), memV bs, .int .i64 D] (.bool (rightB bs.length D r)) := by
  have hl := h.le
  obtain ⟨b, s, q, w, l⟩ := r
  dsimp only at hb hs hn
  have c69 : Calls0 (evCall FN (k + 399)) 69 [memV bs, ringV b s] (.int .i64 (chkN bs.length b s)) := (s69 (k := 0) h hb hs).fuel (by omega)
  have c55 : Calls0 (evCall FN (k + 399)) 55 [memV bs] (.int .i64 bs.length) := (s55 (k := 0) h).fuel (by omega)
  change Calls0 _ _ [AV.agg [.int .u32 b, .int .u32 s, .int .i64 q, .bool w, csl 4 (pisV l)], _, _] _
  refine q_call0 fn38 fun T H E lv => ?_
  have hdv := pis_div l
  by_cases hA : chkN bs.length b s = 0 ∧ 0 ≤ q ∧ q < D ∧ 2 ≤ l.length ∧ l.length ≤ 4
  · obtain ⟨a1, a2, a3, a4, a5⟩ := id hA
    rw [a1] at c69
    repeat (first | refine stN ?_ | intro E)
    rw [pis_div]
    refine q_loop (α := Nat) (LInv.mk (fun i => i ≤ l.length ∧ (∀ p ∈ l.take i, okP bs.length s p) ∧ (idx (l.take i)).Nodup) (fun i => l.length - i)
      (fun i => [(43, .int .i64 (i : Int)), (42, .int .i64 (l.length : Int)), (41, csl 4 (pisV l)), (7, .mp 2), (6, .bool false), (4, .ref 1 0), (3, .ref 0 0)])
      (fun i => [(2, .bool true :: setV (idx (l.take i))), (1, [csl 128 (bs.map ofB)]), (0, [.int .u32 b, .int .u32 s, .int .i64 q, .bool w, csl 4 (pisV l)])]))
      (fun _ _ c => c = 4) 0 ⟨Nat.zero_le _, by simp, by simp [idx]⟩ rfl (show l.length - 0 < k + 399 by omega) ⟨rfl, rfl, rfl, rfl, rfl, rfl, rfl, trivial⟩ ⟨rfl, rfl, rfl, trivial⟩ ?_
    rintro i lv c T H E hP rfl hμ
    have hP : i ≤ l.length ∧ (∀ p ∈ l.take i, okP bs.length s p) ∧ (idx (l.take i)).Nodup := hP
    obtain ⟨hP, hok, hnd⟩ := hP
    clear hμ
    dsimp only
    rcases Nat.lt_or_ge i l.length with hi | hi
    · obtain ⟨p, hp⟩ : ∃ p, l[i]? = some p := ⟨_, List.getElem?_eq_getElem hi⟩
      have gi : inB (i : Int) ((pisV l).length / 4) = some i := inB_n (by rw [pis_div]; omega)
      have hr : rd (pisV l) (i * 4) 4 true = some (.agg [.int .i64 p.i, .int .i64 p.a, .int .i64 p.n, .bool p.w]) := fm_agg piV_length hp
      have hws : IntKind.i64.wrap (s : Int) = s := w64 (by omega) (by omega)
      have hg := setV_get p.i (idx (l.take i))
      by_cases hm : p.i ∈ idx (l.take i)
      · rw [if_pos hm] at hg
        have hf : rightB bs.length D ⟨b, s, q, w, l⟩ = false := rightB_f fun hR => nodup_at hp hR.2.1.2 hm
        rw [hf]
        obtain hx | hx | hx : p.i < 0 ∨ (s : Int) ≤ p.i ∨ (0 ≤ p.i ∧ p.i < s) := by omega
        all_goals
          repeat (first | refine stN ?_ | intro E)
          apply n_ret
          repeat (first | refine stN ?_ | intro E)
          exact q_ret (.inr rfl) rfl rfl rfl rfl rfl rfl
      · rw [if_neg hm] at hg
        by_cases hok' : okP bs.length s p
        · obtain ⟨o1, o2, o3, o4, o5, o6⟩ := id hok'
          have hsub : evBin .sub (.int .i64 (bs.length : Int)) (.int .i64 p.n) = some (.int .i64 ((bs.length : Int) - p.n)) := sub_w rfl (by omega) (by omega)
          have hset := setV_set hm
          repeat (first | refine stN ?_ | intro E)
          refine n_again (i + 1) ⟨by omega, ?_, ?_⟩ rfl (show l.length - (i + 1) < l.length - i by omega) ⟨rfl, rfl, rfl, rfl, rfl, rfl, rfl, trivial⟩ ⟨⟨by rw [idx_take hp]; rfl, setV_under _ _⟩, ⟨rfl, rfl⟩, ⟨rfl, rfl⟩, trivial⟩
          · intro p' hp'
            rw [List.take_add_one, hp] at hp'
            rcases List.mem_append.1 hp' with hh | hh
            · exact hok p' hh
            · simp only [Option.toList_some, List.mem_singleton] at hh; rw [hh]; exact hok'
          · rw [idx_take hp, List.nodup_append]
            exact ⟨hnd, by simp, fun x hx y hy => by simp only [List.mem_singleton] at hy; rw [hy]; intro e; exact hm (e ▸ hx)⟩
        · have hf : rightB bs.length D ⟨b, s, q, w, l⟩ = false := rightB_f fun hR => hok' (hR.2.1.1 p (List.mem_of_getElem? hp))
          rw [hf]
          unfold okP at hok'
          obtain hx | hx | hx | hx | hx | hx : p.i < 0 ∨ (0 ≤ p.i ∧ (s : Int) ≤ p.i) ∨ (0 ≤ p.i ∧ p.i < s ∧ p.n < 1) ∨ (0 ≤ p.i ∧ p.i < s ∧ 512 < p.n) ∨ (0 ≤ p.i ∧ p.i < s ∧ 1 ≤ p.n ∧ p.n ≤ 512 ∧ p.a < 0) ∨ (0 ≤ p.i ∧ p.i < s ∧ 1 ≤ p.n ∧ p.n ≤ 512 ∧ 0 ≤ p.a ∧ (bs.length : Int) - p.n < p.a) := by omega
          case' inr.inr.inr.inr.inr =>
            have hsub : evBin .sub (.int .i64 (bs.length : Int)) (.int .i64 p.n) = some (.int .i64 ((bs.length : Int) - p.n)) := sub_w rfl (by omega) (by omega)
          all_goals
            repeat (first | refine stN ?_ | intro E)
            apply n_ret
            repeat (first | refine stN ?_ | intro E)
            exact q_ret (.inr rfl) rfl rfl rfl rfl rfl rfl
    · rw [List.take_of_length_le hi] at hok hnd
      obtain ⟨p, l', rfl⟩ : ∃ p l', l = p :: l' := by
        rcases l with _ | ⟨p, l'⟩
        · simp at a4
        · exact ⟨p, l', rfl⟩
      have hp : (p :: l')[0]? = some p := rfl
      have gi : inB 0 ((pisV (p :: l')).length / 4) = some 0 := inB_n (a := 0) (by rw [pis_div]; simp)
      have hr : rd (pisV (p :: l')) (0 * 4) 4 true = some (.agg [.int .i64 p.i, .int .i64 p.a, .int .i64 p.n, .bool p.w]) := fm_agg piV_length hp
      have hll : l'.length ≤ 100 := by simp only [List.length_cons] at hn; omega
      have hoN : okN l' := fun x hx => by have := hok x (List.mem_cons_of_mem _ hx); unfold okP at this; omega
      have c70 : Calls0 (evCall FN (k + 399)) 70 [csl 4 (pisV l'), .bool w] (.int .i64 (fitI l' w)) := (s70 (k := 0) hll hoN).fuel (by omega)
      have hdr : ((pisV (p :: l')).take ((pisV (p :: l')).length / 4 * 4)).drop (1 * 4) = pisV l' := by
        have e : (pisV (p :: l')).length / 4 * 4 = (pisV (p :: l')).length := by rw [pis_div]; exact (fm_length piV_length _).symm
        rw [e, List.take_length]; rfl
      have hab : asB 1 ((pisV (p :: l')).length / 4) = some 1 := asB_n (a := 1) (by rw [pis_div]; simp)
      by_cases hw : p.w = false ∧ p.n = 8
      · obtain ⟨w1, w2⟩ := hw
        rw [w1, w2] at hr
        repeat (first | refine stN ?_ | intro E)
        apply n_exit
        apply b_exit
        repeat (first | refine stN ?_ | intro E)
        apply p_slL_lo
        · exact rfl
        · exact csz_ok _ _
        · exact rfl
        · exact hab
        rw [hdr]
        by_cases hfit : fitI l' w = 0
        · have hf : rightB bs.length D ⟨b, s, q, w, p :: l'⟩ = true := rightB_t ⟨hA, ⟨hok, hnd⟩, p, l', rfl, w1, w2, hfit⟩
          rw [hf]
          rw [hfit] at c70
          repeat (first | refine stN ?_ | intro E)
          exact q_ret (.inr rfl) rfl rfl rfl rfl rfl rfl
        · have hf : rightB bs.length D ⟨b, s, q, w, p :: l'⟩ = false := rightB_f fun hR => by
            obtain ⟨_, _, p1, l1, e1, _, _, e4⟩ := hR
            cases e1; exact hfit e4
          rw [hf]
          repeat (first | refine stN ?_ | intro E)
          exact q_ret (.inr rfl) rfl rfl rfl rfl rfl rfl
      · have hf : rightB bs.length D ⟨b, s, q, w, p :: l'⟩ = false := rightB_f fun hR => by
          obtain ⟨_, _, p1, l1, e1, e2, e3, _⟩ := hR
          cases e1; exact hw ⟨e2, e3⟩
        rw [hf]
        cases hpw : p.w
        · have hpn : p.n ≠ 8 := fun e => hw ⟨hpw, e⟩
          rw [hpw] at hr
          repeat (first | refine stN ?_ | intro E)
          apply n_exit
          apply b_exit
          repeat (first | refine stN ?_ | intro E)
          exact q_ret (.inr rfl) rfl rfl rfl rfl rfl rfl
        · rw [hpw] at hr
          repeat (first | refine stN ?_ | intro E)
          apply n_exit
          apply b_exit
          repeat (first | refine stN ?_ | intro E)
          exact q_ret (.inr rfl) rfl rfl rfl rfl rfl rfl
  · have hf : rightB bs.length D ⟨b, s, q, w, l⟩ = false := rightB_f fun hR => hA hR.1
    rw [hf]
    obtain hx | hx | hx | hx | hx : chkN bs.length b s ≠ 0 ∨ (chkN bs.length b s = 0 ∧ q < 0) ∨ (chkN bs.length b s = 0 ∧ 0 ≤ q ∧ (D : Int) ≤ q) ∨ (chkN bs.length b s = 0 ∧ 0 ≤ q ∧ q < D ∧ l.length < 2) ∨ (chkN bs.length b s = 0 ∧ 0 ≤ q ∧ q < D ∧ 4 < l.length) := by omega
    all_goals
      repeat (first | refine stN ?_ | intro E)
      exact q_ret (.inr rfl) rfl rfl rfl rfl rfl rfl
end Go.Proofs.Ythplidagfcdibaa

/- Whether a request is right, by the reference. Condition: the memory is valid; the numbers are such as their types hold; at most 100 parts. -/
namespace Go.Proofs.Ythplidagfcdibaa
open Go.Abs
variable {k : Nat}
theorem nodup_all : ∀ {l : List PI}, (∀ (i j : Nat) (p q : PI), j < i → l[i]? = some p → l[j]? = some q → q.i ≠ p.i) → (idx l).Nodup := by
  intro l h
  unfold idx
  rw [List.nodup_iff_pairwise_ne, List.pairwise_map, List.pairwise_iff_getElem]
  intro i j hi hj hij
  exact h j i l[j] l[i] hij (List.getElem?_eq_getElem hj) (List.getElem?_eq_getElem hi)
theorem nodup_ne {l : List PI} (hn : (idx l).Nodup) {i j : Nat} {p q : PI} (hij : j < i) (hp : l[i]? = some p) (hq : l[j]? = some q) : q.i ≠ p.i := by
  intro e
  refine nodup_at hp hn ?_
  rw [← e]
  refine List.mem_map.2 ⟨q, ?_, rfl⟩
  exact List.mem_of_getElem? (i := j) (by rw [List.getElem?_take_of_lt hij]; exact hq)
set_option maxRecDepth 100000 in
set_option maxHeartbeats 2000000 in
theorem s36 {bs : List UInt8} {D : Nat} {r : RI} (h : VM bs) (hb : r.b < 4294967296) (hs : r.s < 4294967296) (hD : D < 1000000) (hn : r.l.length ≤ 100) : Calls0 (evCall FN (k + 400)) 36 [.agg (riV r), memV bs, .int .i64 D] (.bool (rightB bs.length D r)) := by
  have hl := h.le
  obtain ⟨b, s, q, w, l⟩ := r
  dsimp only at hb hs hn
  have c23 : Calls0 (evCall FN (k + 399)) 23 [memV bs, ringV b s] (.int .i64 (chkN bs.length b s)) := (s23 (k := 0) h hb hs).fuel (by omega)
  have c52 : Calls0 (evCall FN (k + 399)) 52 [memV bs] (.int .i64 bs.length) := (s52 (k := 0) h).fuel (by omega)
  change Calls0 _ _ [AV.agg [.int .u32 b, .int .u32 s, .int .i64 q, .bool w, csl 4 (pisV l)], _, _] _
  refine q_call0 fn36 fun T H E lv => ?_
  have hdv := pis_div l
  by_cases hA : chkN bs.length b s = 0 ∧ 0 ≤ q ∧ q < D ∧ 2 ≤ l.length ∧ l.length ≤ 4
  · obtain ⟨a1, a2, a3, a4, a5⟩ := id hA
    rw [a1] at c23
    repeat (first | refine stN ?_ | intro E)
    refine q_loop (α := Nat) (LInv.mk (fun i => i ≤ l.length ∧ (∀ p ∈ l.take i, okP bs.length s p) ∧ (∀ (a b : Nat) (p q : PI), a < i → b < a → l[a]? = some p → l[b]? = some q → q.i ≠ p.i)) (fun i => l.length - i)
      (fun i => [(7, .int .i64 (i : Int)), (6, .bool false), (4, .ref 1 0), (3, .ref 0 0)])
      (fun i => [(1, [csl 128 (bs.map ofB)]), (0, [.int .u32 b, .int .u32 s, .int .i64 q, .bool w, csl 4 (pisV l)])]))
      (fun _ _ c => c = 4) 0 ⟨Nat.zero_le _, by simp, fun _ _ _ _ h => by omega⟩ rfl (show l.length - 0 < k + 399 by omega) ⟨rfl, rfl, rfl, rfl, trivial⟩ ⟨rfl, rfl, trivial⟩ ?_
    rintro i lv c T H E hP rfl hμ
    have hP : i ≤ l.length ∧ (∀ p ∈ l.take i, okP bs.length s p) ∧ (∀ (a b : Nat) (p q : PI), a < i → b < a → l[a]? = some p → l[b]? = some q → q.i ≠ p.i) := hP
    obtain ⟨hP, hok, hnd⟩ := hP
    clear hμ
    dsimp only
    rcases Nat.lt_or_ge i l.length with hi | hi
    · obtain ⟨p, hp⟩ : ∃ p, l[i]? = some p := ⟨_, List.getElem?_eq_getElem hi⟩
      have gi : inB (i : Int) ((pisV l).length / 4) = some i := inB_n (by rw [pis_div]; omega)
      have hr : rd (pisV l) (i * 4) 4 true = some (.agg [.int .i64 p.i, .int .i64 p.a, .int .i64 p.n, .bool p.w]) := fm_agg piV_length hp
      have hws : IntKind.i64.wrap (s : Int) = s := w64 (by omega) (by omega)
      by_cases hok' : okP bs.length s p
      · obtain ⟨o1, o2, o3, o4, o5, o6⟩ := id hok'
        have hsub : evBin .sub (.int .i64 (bs.length : Int)) (.int .i64 p.n) = some (.int .i64 ((bs.length : Int) - p.n)) := sub_w rfl (by omega) (by omega)
        repeat (first | refine stN ?_ | intro E)
        refine q_loop (α := Nat) (LInv.mk (fun j => j ≤ i ∧ (∀ (b : Nat) (q : PI), b < j → l[b]? = some q → q.i ≠ p.i)) (fun j => i - j)
          (fun j => [(9, .int .i64 (j : Int)), (8, .ref 2 0), (7, .int .i64 (i : Int)), (6, .bool false), (4, .ref 1 0), (3, .ref 0 0)])
          (fun j => [(2, [.int .i64 p.i, .int .i64 p.a, .int .i64 p.n, .bool p.w]), (1, [csl 128 (bs.map ofB)]), (0, [.int .u32 b, .int .u32 s, .int .i64 q, .bool w, csl 4 (pisV l)])]))
          (fun _ _ c => c = 4) 0 ⟨Nat.zero_le _, fun _ _ h => by omega⟩ rfl (show i - 0 < k + 399 by omega) ⟨rfl, rfl, rfl, rfl, rfl, rfl, trivial⟩ ⟨rfl, rfl, rfl, trivial⟩ ?_
        rintro j lv c T H E hP2 rfl hμ
        have hP2 : j ≤ i ∧ (∀ (b : Nat) (q : PI), b < j → l[b]? = some q → q.i ≠ p.i) := hP2
        obtain ⟨hj, hne⟩ := hP2
        clear hμ
        dsimp only
        rcases Nat.lt_or_ge j i with hji | hji
        · obtain ⟨p2, hp2⟩ : ∃ p, l[j]? = some p := ⟨_, List.getElem?_eq_getElem (by omega)⟩
          have gj : inB (j : Int) ((pisV l).length / 4) = some j := inB_n (by rw [pis_div]; omega)
          have hr0 : rd (pisV l) (j * 4 + 0) 1 false = some (.int .i64 p2.i) := fm_rd piV_length (by omega) hp2 rfl rfl
          by_cases he : p2.i = p.i
          · have hf : rightB bs.length D ⟨b, s, q, w, l⟩ = false := rightB_f fun hR => nodup_ne hR.2.1.2 hji hp hp2 he
            rw [hf]
            repeat (first | refine stN ?_ | intro E)
            apply n_ret
            repeat (first | refine stN ?_ | intro E)
            apply n_ret
            repeat (first | refine stN ?_ | intro E)
            exact q_ret (.inr rfl) rfl rfl rfl rfl rfl rfl
          · repeat (first | refine stN ?_ | intro E)
            refine n_again (j + 1) ⟨by omega, ?_⟩ rfl (show i - (j + 1) < i - j by omega) ⟨rfl, rfl, rfl, rfl, rfl, rfl, trivial⟩ ⟨⟨rfl, rfl⟩, ⟨rfl, rfl⟩, ⟨rfl, rfl⟩, trivial⟩
            intro b' q' hb' hq'
            rcases Nat.lt_or_ge b' j with hlt | hge
            · exact hne b' q' hlt hq'
            · have : b' = j := by omega
              subst this
              rw [hp2] at hq'; cases hq'; exact he
        · have : j = i := by omega
          subst this
          repeat (first | refine stN ?_ | intro E)
          apply n_exit
          apply b_exit
          repeat (first | refine stN ?_ | intro E)
          refine n_again (j + 1) ⟨by omega, ?_, ?_⟩ rfl (show l.length - (j + 1) < l.length - j by omega) ⟨rfl, rfl, rfl, rfl, trivial⟩ ⟨⟨rfl, rfl⟩, ⟨rfl, rfl⟩, trivial⟩
          · intro p' hp'
            rw [List.take_add_one, hp] at hp'
            rcases List.mem_append.1 hp' with hh | hh
            · exact hok p' hh
            · simp only [Option.toList_some, List.mem_singleton] at hh; rw [hh]; exact hok'
          · intro a b' p' q' ha hba hpa hqb
            rcases Nat.lt_or_ge a j with hlt | hge
            · exact hnd a b' p' q' hlt hba hpa hqb
            · have : a = j := by omega
              subst this
              rw [hp] at hpa; cases hpa
              exact hne b' q' hba hqb
      · have hf : rightB bs.length D ⟨b, s, q, w, l⟩ = false := rightB_f fun hR => hok' (hR.2.1.1 p (List.mem_of_getElem? hp))
        rw [hf]
        unfold okP at hok'
        obtain hx | hx | hx | hx | hx | hx : p.i < 0 ∨ (0 ≤ p.i ∧ (s : Int) ≤ p.i) ∨ (0 ≤ p.i ∧ p.i < s ∧ p.n < 1) ∨ (0 ≤ p.i ∧ p.i < s ∧ 512 < p.n) ∨ (0 ≤ p.i ∧ p.i < s ∧ 1 ≤ p.n ∧ p.n ≤ 512 ∧ p.a < 0) ∨ (0 ≤ p.i ∧ p.i < s ∧ 1 ≤ p.n ∧ p.n ≤ 512 ∧ 0 ≤ p.a ∧ (bs.length : Int) - p.n < p.a) := by omega
        case' inr.inr.inr.inr.inr =>
          have hsub : evBin .sub (.int .i64 (bs.length : Int)) (.int .i64 p.n) = some (.int .i64 ((bs.length : Int) - p.n)) := sub_w rfl (by omega) (by omega)
        all_goals
          repeat (first | refine stN ?_ | intro E)
          apply n_ret
          repeat (first | refine stN ?_ | intro E)
          exact q_ret (.inr rfl) rfl rfl rfl rfl rfl rfl
    · have hil : i = l.length := by omega
      subst hil
      rw [List.take_length] at hok
      have hnd : (idx l).Nodup := nodup_all fun i j p q hij hp hq => hnd i j p q (List.getElem?_eq_some_iff.1 hp).1 hij hp hq
      obtain ⟨p, l', rfl⟩ : ∃ p l', l = p :: l' := by
        rcases l with _ | ⟨p, l'⟩
        · simp at a4
        · exact ⟨p, l', rfl⟩
      have hp : (p :: l')[0]? = some p := rfl
      have gi : inB 0 ((pisV (p :: l')).length / 4) = some 0 := inB_n (a := 0) (by rw [pis_div]; simp)
      have hr2 : rd (pisV (p :: l')) (0 * 4 + 2) 1 false = some (.int .i64 p.n) := fm_rd piV_length (by omega) hp rfl rfl
      have hr3 : rd (pisV (p :: l')) (0 * 4 + 3) 1 false = some (.bool p.w) := fm_rd piV_length (by omega) hp rfl rfl
      have hll : l'.length ≤ 100 := by simp only [List.length_cons] at hn; omega
      have hoN : okN l' := fun x hx => by have := hok x (List.mem_cons_of_mem _ hx); unfold okP at this; omega
      have c68 : Calls0 (evCall FN (k + 399)) 68 [csl 4 (pisV l'), .bool w] (.int .i64 (fitI l' w)) := (s68 (k := 0) hll hoN).fuel (by omega)
      have hdr : ((pisV (p :: l')).take ((pisV (p :: l')).length / 4 * 4)).drop (1 * 4) = pisV l' := by
        have e : (pisV (p :: l')).length / 4 * 4 = (pisV (p :: l')).length := by rw [pis_div]; exact (fm_length piV_length _).symm
        rw [e, List.take_length]; rfl
      have hab : asB 1 ((pisV (p :: l')).length / 4) = some 1 := asB_n (a := 1) (by rw [pis_div]; simp)
      by_cases hw : p.w = false ∧ p.n = 8
      · obtain ⟨w1, w2⟩ := hw
        rw [w1] at hr3
        rw [w2] at hr2
        repeat (first | refine stN ?_ | intro E)
        apply n_exit
        apply b_exit
        repeat (first | refine stN ?_ | intro E)
        apply p_slL_lo
        · exact rfl
        · exact csz_ok _ _
        · exact rfl
        · exact hab
        rw [hdr]
        by_cases hfit : fitI l' w = 0
        · have hf : rightB bs.length D ⟨b, s, q, w, p :: l'⟩ = true := rightB_t ⟨hA, ⟨hok, hnd⟩, p, l', rfl, w1, w2, hfit⟩
          rw [hf]
          rw [hfit] at c68
          repeat (first | refine stN ?_ | intro E)
          exact q_ret (.inr rfl) rfl rfl rfl rfl rfl rfl
        · have hf : rightB bs.length D ⟨b, s, q, w, p :: l'⟩ = false := rightB_f fun hR => by
            obtain ⟨_, _, p1, l1, e1, _, _, e4⟩ := hR
            cases e1; exact hfit e4
          rw [hf]
          repeat (first | refine stN ?_ | intro E)
          exact q_ret (.inr rfl) rfl rfl rfl rfl rfl rfl
      · have hf : rightB bs.length D ⟨b, s, q, w, p :: l'⟩ = false := rightB_f fun hR => by
          obtain ⟨_, _, p1, l1, e1, e2, e3, _⟩ := hR
          cases e1; exact hw ⟨e2, e3⟩
        rw [hf]
        cases hpw : p.w
        · have hpn : p.n ≠ 8 := fun e => hw ⟨hpw, e⟩
          rw [hpw] at hr3
          repeat (first | refine stN ?_ | intro E)
          apply n_exit
          apply b_exit
          repeat (first | refine stN ?_ | intro E)
          exact q_ret (.inr rfl) rfl rfl rfl rfl rfl rfl
        · rw [hpw] at hr3
          repeat (first | refine stN ?_ | intro E)
          apply n_exit
          apply b_exit
          repeat (first | refine stN ?_ | intro E)
          exact q_ret (.inr rfl) rfl rfl rfl rfl rfl rfl
  · have hf : rightB bs.length D ⟨b, s, q, w, l⟩ = false := rightB_f fun hR => hA hR.1
    rw [hf]
    obtain hx | hx | hx | hx | hx : chkN bs.length b s ≠ 0 ∨ (chkN bs.length b s = 0 ∧ q < 0) ∨ (chkN bs.length b s = 0 ∧ 0 ≤ q ∧ (D : Int) ≤ q) ∨ (chkN bs.length b s = 0 ∧ 0 ≤ q ∧ q < D ∧ l.length < 2) ∨ (chkN bs.length b s = 0 ∧ 0 ≤ q ∧ q < D ∧ 4 < l.length) := by omega
    all_goals
      repeat (first | refine stN ?_ | intro E)
      exact q_ret (.inr rfl) rfl rfl rfl rfl rfl rfl
end Go.Proofs.Ythplidagfcdibaa

/- Whether a device is valid, by the program and by the reference. Condition: the memory is valid; the numbers are such as their types hold; at most 100 requests of 100 parts. -/
namespace Go.Proofs.Ythplidagfcdibaa
open Go.Abs
variable {k : Nat}
def wholeB (s : Nat) : Bool := decide (s = 1 ∨ s = 2 ∨ s = 4 ∨ s = 8)
set_option maxRecDepth 100000 in
theorem s37 {s : Nat} (hs : s < 4294967296) : Calls0 (evCall FN (k + 1)) 37 [.int .u32 s] (.bool (wholeB s)) := by
  refine q_call0 fn37 fun T H E lv => ?_
  by_cases h : s = 1 ∨ s = 2 ∨ s = 4 ∨ s = 8
  · have e : wholeB s = true := decide_eq_true h
    rw [e]
    rcases h with rfl | rfl | rfl | rfl
    all_goals
      repeat (first | refine stN ?_ | intro E)
      exact q_ret (.inr rfl) rfl rfl rfl rfl rfl rfl
  · have e : wholeB s = false := decide_eq_false h
    rw [e]
    repeat (first | refine stN ?_ | intro E)
    exact q_ret (.inr rfl) rfl rfl rfl rfl rfl rfl
/-- The number of sectors, as it is computed. -/
def secs (x : BI) : Nat := (x.d.map ofB).length / 128
/-- The numbers of a request are such as their types hold, and there are not many parts. -/
def RIok (r : RI) : Prop := r.b < 4294967296 ∧ r.s < 4294967296 ∧ r.l.length ≤ 100
def ValidP (L : Nat) (x : BI) : Prop :=
  (x.at' = 0 ∨ (0 < x.at' ∧ wholeB x.s = true ∧ x.at' < x.s)) ∧ (x.st = 0 ∨ (160 ≤ x.st ∧ x.st ≤ 165)) ∧ secs x ≤ 64 ∧ x.f.length ≤ 8 ∧ ∀ r ∈ x.f, rightB L (secs x) r = true
noncomputable def validB (L : Nat) (x : BI) : Bool := @decide (ValidP L x) (Classical.propDecidable _)
theorem validB_t {L : Nat} {x : BI} (h : ValidP L x) : validB L x = true := @decide_eq_true _ (Classical.propDecidable _) h
theorem validB_f {L : Nat} {x : BI} (h : ¬ ValidP L x) : validB L x = false := @decide_eq_false _ (Classical.propDecidable _) h
theorem validB_iff {L : Nat} {x : BI} : validB L x = true ↔ ValidP L x := ⟨fun h => @of_decide_eq_true _ (Classical.propDecidable _) h, validB_t⟩
set_option maxRecDepth 100000 in
set_option maxHeartbeats 4000000 in
theorem s13 {bs : List UInt8} {x : BI} (h : VM bs) (hb : x.b < 4294967296) (hs : x.s < 4294967296) (hd : secs x < 1000000) (hf : x.f.length ≤ 100) (hr : ∀ r ∈ x.f, RIok r) : Calls0 (evCall FN (k + 600)) 13 [biV x, memV bs] (.bool (validB bs.length x)) := by
  have hl := h.le
  obtain ⟨b, s, at', st, d, f⟩ := x
  have hD : secs ⟨b, s, at', st, d, f⟩ = (d.map ofB).length / 128 := rfl
  rw [hD] at hd
  dsimp only at hb hs hf hr
  have c37 : Calls0 (evCall FN (k + 599)) 37 [.int .u32 s] (.bool (wholeB s)) := (s37 (k := 0) hs).fuel (by omega)
  have hdv := ris_div f
  have hws : IntKind.i64.wrap (s : Int) = s := w64 (by omega) (by omega)
  change Calls0 _ _ [AV.agg [.int .u32 b, .int .u32 s, .int .i64 at', .int .i64 st, csl 128 (d.map ofB), csl 5 (risV f)], _] _
  refine q_call0 fn13 fun T H E lv => ?_
  by_cases hA : (at' = 0 ∨ (0 < at' ∧ wholeB s = true ∧ at' < s)) ∧ (st = 0 ∨ (160 ≤ st ∧ st ≤ 165)) ∧ (d.map ofB).length / 128 ≤ 64 ∧ f.length ≤ 8
  · obtain ⟨hat, hst, hdl, hfl⟩ := id hA
    obtain hat | ⟨t1, t2, t3⟩ := hat
    all_goals first
      | subst hat
      | rw [t2] at c37
    all_goals obtain hst | hst := hst
    case' inl.inl => subst hst
    case' inr.inl => subst hst
    all_goals
      repeat (first | refine stN ?_ | intro E)
      rw [ris_div]
      refine q_loop (α := Nat) (LInv.mk (fun i => i ≤ f.length ∧ (∀ r ∈ f.take i, rightB bs.length ((d.map ofB).length / 128) r = true)) (fun i => f.length - i)
        (fun i => [(66, .int .i64 (i : Int)), (65, .int .i64 (f.length : Int)), (64, csl 5 (risV f)), (4, .bool false), (3, .ref 1 0), (2, .ref 0 0)])
        (fun i => [(1, [csl 128 (bs.map ofB)]), (0, [.int .u32 b, .int .u32 s, .int .i64 _, .int .i64 _, csl 128 (d.map ofB), csl 5 (risV f)])]))
        (fun _ _ c => c = 4) 0 ⟨Nat.zero_le _, by simp⟩ rfl (show f.length - 0 < k + 599 by omega) ⟨rfl, rfl, rfl, rfl, rfl, rfl, trivial⟩ ⟨rfl, rfl, trivial⟩ ?_
      rintro i lv c T H E hP rfl hμ
      have hP : i ≤ f.length ∧ (∀ r ∈ f.take i, rightB bs.length ((d.map ofB).length / 128) r = true) := hP
      obtain ⟨hP, hok⟩ := hP
      clear hμ
      dsimp only
      rcases Nat.lt_or_ge i f.length with hi | hi
      · obtain ⟨r, hp⟩ : ∃ p, f[i]? = some p := ⟨_, List.getElem?_eq_getElem hi⟩
        have gi : inB (i : Int) ((risV f).length / 5) = some i := inB_n (by rw [ris_div]; omega)
        have hrd : rd (risV f) (i * 5) 5 true = some (.agg [.int .u32 r.b, .int .u32 r.s, .int .i64 r.q, .bool r.w, csl 4 (pisV r.l)]) := fm_agg riV_length hp
        obtain ⟨r1, r2, r3⟩ := hr r (List.mem_of_getElem? hp)
        have c38 : Calls0 (evCall FN (k + 599)) 38 [AV.agg [.int .u32 r.b, .int .u32 r.s, .int .i64 r.q, .bool r.w, csl 4 (pisV r.l)], memV bs, .int .i64 (((d.map ofB).length / 128 : Nat) : Int)] (.bool (rightB bs.length ((d.map ofB).length / 128) r)) := (s38 (k := 0) h r1 r2 hd r3).fuel (by omega)
        cases hq : rightB bs.length ((d.map ofB).length / 128) r
        · rw [hq] at c38
          rw [validB_f fun hV => by
            have := hV.2.2.2.2 r (List.mem_of_getElem? hp)
            rw [hD, hq] at this; cases this]
          repeat (first | refine stN ?_ | intro E)
          apply n_ret
          repeat (first | refine stN ?_ | intro E)
          exact q_ret (.inr rfl) rfl rfl rfl rfl rfl rfl
        · rw [hq] at c38
          repeat (first | refine stN ?_ | intro E)
          refine n_again (i + 1) ⟨by omega, ?_⟩ rfl (show f.length - (i + 1) < f.length - i by omega) ⟨rfl, rfl, rfl, rfl, rfl, rfl, trivial⟩ ⟨⟨rfl, rfl⟩, ⟨rfl, rfl⟩, trivial⟩
          intro p' hp'
          rw [List.take_add_one, hp] at hp'
          rcases List.mem_append.1 hp' with hh | hh
          · exact hok p' hh
          · simp only [Option.toList_some, List.mem_singleton] at hh; rw [hh]; exact hq
      · rw [List.take_of_length_le hi] at hok
        rw [validB_t ⟨hA.1, hA.2.1, by rw [hD]; exact hdl, hfl, fun r hr' => by rw [hD]; exact hok r hr'⟩]
        repeat (first | refine stN ?_ | intro E)
        apply n_exit
        apply b_exit
        repeat (first | refine stN ?_ | intro E)
        exact q_ret (.inr rfl) rfl rfl rfl rfl rfl rfl
  · have hv : validB bs.length ⟨b, s, at', st, d, f⟩ = false := validB_f fun hV => hA ⟨hV.1, hV.2.1, hV.2.2.1, hV.2.2.2.1⟩
    rw [hv]
    obtain hat | ⟨t1, t2, t3⟩ | ⟨t1, t2, t3⟩ | ⟨t1, t2⟩ | t1 : at' = 0 ∨ (0 < at' ∧ wholeB s = true ∧ at' < s) ∨ (0 < at' ∧ wholeB s = true ∧ s ≤ at') ∨ (0 < at' ∧ wholeB s = false) ∨ at' < 0 := by
      have hw : wholeB s = true ∨ wholeB s = false := by cases wholeB s <;> simp
      rcases hw with e | e
      · simp only [e, true_and, reduceCtorEq, false_and, and_false, false_or]; omega
      · simp only [e, reduceCtorEq, false_and, and_false, false_or, and_true]; omega
    all_goals first | rw [t2] at c37 | skip
    all_goals first | subst hat | skip
    all_goals obtain hst | hst | hst | hst : st = 0 ∨ (160 ≤ st ∧ st ≤ 165) ∨ (st ≠ 0 ∧ st < 160) ∨ 165 < st := by omega
    all_goals first
      | (have hdd : 64 < (d.map ofB).length / 128 ∨ ((d.map ofB).length / 128 ≤ 64 ∧ 8 < f.length) := by
           rcases Nat.lt_or_ge 64 ((d.map ofB).length / 128) with h1 | h1
           · exact .inl h1
           · exact .inr ⟨h1, Nat.lt_of_not_le fun h2 => hA ⟨by first | exact .inl rfl | exact .inr ⟨t1, t2, t3⟩, by first | exact .inl hst | exact .inr hst, h1, h2⟩⟩
         obtain hdd | hdd := hdd)
      | skip
    all_goals
      repeat (first | refine stN ?_ | intro E)
      exact q_ret (.inr rfl) rfl rfl rfl rfl rfl rfl
end Go.Proofs.Ythplidagfcdibaa

/- Whether a device is valid, by the reference; and whether there is little of it. Condition: the memory is valid; the numbers are such as their types hold; at most 100 requests of 100 parts. -/
namespace Go.Proofs.Ythplidagfcdibaa
open Go.Abs
variable {k : Nat}
set_option maxRecDepth 100000 in
set_option maxHeartbeats 2000000 in
theorem valid_rest {bs d : List UInt8} {b s : Nat} {at' st : Int} {f : List RI} {sl : List (Nat × AV)} {os : List (Nat × List AV)} {T : Nat → AV} {H : Hp} {E : Nat → Option TypeId} {lv : Nat → Bool} (h : VM bs) (hd : (d.map ofB).length / 128 < 1000000) (hf : f.length ≤ 100) (hr : ∀ r ∈ f, RIok r)
    (hA : (at' = 0 ∨ (0 < at' ∧ wholeB s = true ∧ at' < s)) ∧ (st = 0 ∨ (160 ≤ st ∧ st ≤ 165)) ∧ (d.map ofB).length / 128 ≤ 64 ∧ f.length ≤ 8)
    (h1 : HoldsE sl [(4, .bool false), (3, .ref 1 0), (2, .ref 0 0)]) (h2 : HoldsOE os [(1, [csl 128 (bs.map ofB)]), (0, [.int .u32 b, .int .u32 s, .int .i64 at', .int .i64 st, csl 128 (d.map ofB), csl 5 (risV f)])]) :
    Wp (evCall FN (k + 599)) (k + 599) (.seq (.seq (.ops false f12o7) (.block 0 (.loop f12l13))) (.seq (.ops false f12o14) .ret)) ⟨slots sl T, objs os H, E, 2, lv, 4⟩ (Ret f12 (.bool (validB bs.length ⟨b, s, at', st, d, f⟩))) := by
  have hl := h.le
  have hD : secs ⟨b, s, at', st, d, f⟩ = (d.map ofB).length / 128 := rfl
  have hdv := ris_div f
  refine q_known (P := fun S => Wp _ _ _ S _) _ _ h1 h2 fun T H E => ?_
  repeat (first | refine stN ?_ | intro E)
  refine q_loop (α := Nat) (LInv.mk (fun i => i ≤ f.length ∧ (∀ r ∈ f.take i, rightB bs.length ((d.map ofB).length / 128) r = true)) (fun i => f.length - i)
    (fun i => [(7, .int .i64 (i : Int)), (4, .bool false), (3, .ref 1 0), (2, .ref 0 0)])
    (fun i => [(1, [csl 128 (bs.map ofB)]), (0, [.int .u32 b, .int .u32 s, .int .i64 at', .int .i64 st, csl 128 (d.map ofB), csl 5 (risV f)])]))
    (fun _ _ c => c = 4) 0 ⟨Nat.zero_le _, by simp⟩ rfl (show f.length - 0 < k + 599 by omega) ⟨rfl, rfl, rfl, rfl, trivial⟩ ⟨rfl, rfl, trivial⟩ ?_
  rintro i lv c T H E hP rfl hμ
  have hP : i ≤ f.length ∧ (∀ r ∈ f.take i, rightB bs.length ((d.map ofB).length / 128) r = true) := hP
  obtain ⟨hP, hok⟩ := hP
  clear hμ
  dsimp only
  rcases Nat.lt_or_ge i f.length with hi | hi
  · obtain ⟨r, hp⟩ : ∃ p, f[i]? = some p := ⟨_, List.getElem?_eq_getElem hi⟩
    have gi : inB (i : Int) ((risV f).length / 5) = some i := inB_n (by rw [ris_div]; omega)
    have hrd : rd (risV f) (i * 5) 5 true = some (.agg [.int .u32 r.b, .int .u32 r.s, .int .i64 r.q, .bool r.w, csl 4 (pisV r.l)]) := fm_agg riV_length hp
    obtain ⟨r1, r2, r3⟩ := hr r (List.mem_of_getElem? hp)
    have c36 : Calls0 (evCall FN (k + 599)) 36 [AV.agg [.int .u32 r.b, .int .u32 r.s, .int .i64 r.q, .bool r.w, csl 4 (pisV r.l)], memV bs, .int .i64 (((d.map ofB).length / 128 : Nat) : Int)] (.bool (rightB bs.length ((d.map ofB).length / 128) r)) := (s36 (k := 0) h r1 r2 hd r3).fuel (by omega)
    cases hq : rightB bs.length ((d.map ofB).length / 128) r
    · rw [hq] at c36
      rw [validB_f fun hV => by
        have := hV.2.2.2.2 r (List.mem_of_getElem? hp)
        rw [hD, hq] at this; cases this]
      repeat (first | refine stN ?_ | intro E)
      apply n_ret
      repeat (first | refine stN ?_ | intro E)
      exact q_ret (.inr rfl) rfl rfl rfl rfl rfl rfl
    · rw [hq] at c36
      repeat (first | refine stN ?_ | intro E)
      refine n_again (i + 1) ⟨by omega, ?_⟩ rfl (show f.length - (i + 1) < f.length - i by omega) ⟨rfl, rfl, rfl, rfl, trivial⟩ ⟨⟨rfl, rfl⟩, ⟨rfl, rfl⟩, trivial⟩
      intro p' hp'
      rw [List.take_add_one, hp] at hp'
      rcases List.mem_append.1 hp' with hh | hh
      · exact hok p' hh
      · simp only [Option.toList_some, List.mem_singleton] at hh; rw [hh]; exact hq
  · rw [List.take_of_length_le hi] at hok
    rw [validB_t ⟨hA.1, hA.2.1, by rw [hD]; exact hA.2.2.1, hA.2.2.2, fun r hr' => by rw [hD]; exact hok r hr'⟩]
    repeat (first | refine stN ?_ | intro E)
    apply n_exit
    apply b_exit
    repeat (first | refine stN ?_ | intro E)
    exact q_ret (.inr rfl) rfl rfl rfl rfl rfl rfl
set_option maxRecDepth 100000 in
set_option maxHeartbeats 4000000 in
theorem valid_mid {bs d : List UInt8} {b s : Nat} {at' st : Int} {f : List RI} {sl : List (Nat × AV)} {os : List (Nat × List AV)} {T : Nat → AV} {H : Hp} {E : Nat → Option TypeId} {lv : Nat → Bool} (h : VM bs) (hs : s < 4294967296) (hd : (d.map ofB).length / 128 < 1000000) (hf : f.length ≤ 100) (hr : ∀ r ∈ f, RIok r)
    {w : Bool} (hw : wholeB s = w) (h1 : HoldsE sl [(6, .bool w), (5, .int .u32 s), (4, .bool false), (3, .ref 1 0), (2, .ref 0 0)]) (h2 : HoldsOE os [(1, [csl 128 (bs.map ofB)]), (0, [.int .u32 b, .int .u32 s, .int .i64 at', .int .i64 st, csl 128 (d.map ofB), csl 5 (risV f)])]) :
    Wp (evCall FN (k + 599)) (k + 599) (.seq (.seq (.ops false f12o3) (.cond (.t 47) (.seq (.ops false f12o4) .ret) .skip)) (.seq (.seq (.ops false f12o5) (.cond (.t 72) (.seq (.ops false f12o6) .ret) .skip)) (.seq (.seq (.ops false f12o7) (.block 0 (.loop f12l13))) (.seq (.ops false f12o14) .ret)))) ⟨slots sl T, objs os H, E, 2, lv, 4⟩ (Ret f12 (.bool (validB bs.length ⟨b, s, at', st, d, f⟩))) := by
  have hdv := ris_div f
  have hws : IntKind.i64.wrap (s : Int) = s := w64 (by omega) (by omega)
  refine q_known (P := fun S => Wp _ _ _ S _) _ _ h1 h2 fun T H E => ?_
  by_cases hA : (at' = 0 ∨ (0 < at' ∧ wholeB s = true ∧ at' < s)) ∧ (st = 0 ∨ (160 ≤ st ∧ st ≤ 165)) ∧ (d.map ofB).length / 128 ≤ 64 ∧ f.length ≤ 8
  · obtain ⟨hat, hst, hdl, hfl⟩ := id hA
    have hs0 : w = true → 0 < s := fun e => by
      rw [e] at hw
      have := of_decide_eq_true hw
      omega
    have hrest := fun sl os T H E lv h1 h2 => valid_rest (k := k) (b := b) (sl := sl) (os := os) (T := T) (H := H) (E := E) (lv := lv) h hd hf hr hA h1 h2
    generalize hR : validB bs.length ⟨b, s, at', st, d, f⟩ = R at hrest ⊢
    obtain hat | ⟨t1, t2, t3⟩ := hat
    · cases w
      all_goals first
        | have hs1 := hs0 rfl
        | skip
      all_goals obtain hst | hst := hst
      all_goals
        repeat (first | exact hrest _ _ _ _ _ _ ⟨rfl, rfl, rfl, trivial⟩ ⟨rfl, rfl, trivial⟩ | (first | refine stN ?_ | intro E))
    · rw [hw] at t2
      subst t2
      obtain hst | hst := hst
      all_goals
        repeat (first | exact hrest _ _ _ _ _ _ ⟨rfl, rfl, rfl, trivial⟩ ⟨rfl, rfl, trivial⟩ | (first | refine stN ?_ | intro E))
  · have hv : validB bs.length ⟨b, s, at', st, d, f⟩ = false := validB_f fun hV => hA ⟨hV.1, hV.2.1, hV.2.2.1, hV.2.2.2.1⟩
    rw [hv]
    by_cases hP : at' = 0 ∨ (0 < at' ∧ wholeB s = true ∧ at' < s)
    · have hdd : (st = 0 ∧ 64 < (d.map ofB).length / 128) ∨ (160 ≤ st ∧ st ≤ 165 ∧ 64 < (d.map ofB).length / 128) ∨ (st = 0 ∧ (d.map ofB).length / 128 ≤ 64 ∧ 8 < f.length) ∨ (160 ≤ st ∧ st ≤ 165 ∧ (d.map ofB).length / 128 ≤ 64 ∧ 8 < f.length) ∨ (st ≠ 0 ∧ st < 160) ∨ 165 < st := by
        have : ¬ ((st = 0 ∨ (160 ≤ st ∧ st ≤ 165)) ∧ (d.map ofB).length / 128 ≤ 64 ∧ f.length ≤ 8) := fun hh => hA ⟨hP, hh⟩
        omega
      have hs0 : w = true → 0 < s := fun e => by
        rw [e] at hw
        have := of_decide_eq_true hw
        omega
      obtain hat | ⟨t1, t2, t3⟩ := hP
      · cases w
        all_goals first
          | have hs1 := hs0 rfl
          | skip
        all_goals obtain hst | hst | hst | hst | hst | hst := hdd
        all_goals
          repeat (first | refine stN ?_ | intro E)
          exact q_ret (.inr rfl) rfl rfl rfl rfl rfl rfl
      · rw [hw] at t2
        subst t2
        obtain hst | hst | hst | hst | hst | hst := hdd
        all_goals
          repeat (first | refine stN ?_ | intro E)
          exact q_ret (.inr rfl) rfl rfl rfl rfl rfl rfl
    · rw [hw] at hP
      have hP : at' < 0 ∨ (0 < at' ∧ w = false) ∨ (0 < at' ∧ w = true ∧ (s : Int) ≤ at') := by
        cases w
        · simp only [reduceCtorEq, false_and, and_false, or_false, and_true] at hP ⊢; omega
        · simp only [true_and, reduceCtorEq, and_false, false_or] at hP ⊢; omega
      obtain t1 | ⟨t1, t2⟩ | ⟨t1, t2, t3⟩ := hP
      case' inr.inl => subst t2
      case' inr.inr => subst t2
      all_goals
        repeat (first | refine stN ?_ | intro E)
        exact q_ret (.inr rfl) rfl rfl rfl rfl rfl rfl
set_option maxRecDepth 100000 in
set_option maxHeartbeats 2000000 in
theorem s12 {bs : List UInt8} {x : BI} (h : VM bs) (hb : x.b < 4294967296) (hs : x.s < 4294967296) (hd : secs x < 1000000) (hf : x.f.length ≤ 100) (hr : ∀ r ∈ x.f, RIok r) : Calls0 (evCall FN (k + 600)) 12 [biV x, memV bs] (.bool (validB bs.length x)) := by
  obtain ⟨b, s, at', st, d, f⟩ := x
  have hD : secs ⟨b, s, at', st, d, f⟩ = (d.map ofB).length / 128 := rfl
  rw [hD] at hd
  dsimp only at hb hs hf hr
  change Calls0 _ _ [AV.agg [.int .u32 b, .int .u32 s, .int .i64 at', .int .i64 st, csl 128 (d.map ofB), csl 5 (risV f)], _] _
  refine q_call0 fn12 fun T H E lv => ?_
  have hwh : ((s = 1 ∨ s = 2 ∨ s = 4 ∨ s = 8) ∧ wholeB s = true) ∨ ((s ≠ 1 ∧ s ≠ 2 ∧ s ≠ 4 ∧ s ≠ 8) ∧ wholeB s = false) := by
    unfold wholeB
    by_cases h1 : s = 1 ∨ s = 2 ∨ s = 4 ∨ s = 8
    · exact .inl ⟨h1, decide_eq_true h1⟩
    · exact .inr ⟨by omega, decide_eq_false h1⟩
  obtain ⟨hq | hq | hq | hq, hw⟩ | ⟨⟨q1, q3, q4, q5⟩, hw⟩ := hwh
  all_goals
    have hrest := fun sl os T H E lv h1 h2 => valid_mid (k := k) (b := b) (at' := at') (st := st) (sl := sl) (os := os) (T := T) (H := H) (E := E) (lv := lv) h hs hd hf hr hw h1 h2
    generalize validB bs.length ⟨b, s, at', st, d, f⟩ = R at hrest ⊢
    repeat (first | exact hrest _ _ _ _ _ _ ⟨rfl, rfl, rfl, rfl, rfl, trivial⟩ ⟨rfl, rfl, trivial⟩ | (first | refine stN ?_ | intro E))
end Go.Proofs.Ythplidagfcdibaa

/- Whether there is little of a device; words of a memory. Condition: the numbers are such as their types hold. -/
namespace Go.Proofs.Ythplidagfcdibaa
open Go.Abs
variable {k : Nat}
/-- There is little of a device. -/
def FewP (bs : List UInt8) (x : BI) : Prop := (∀ r ∈ x.f.take 11, r.l.length ≤ 10) ∧ (bs.map ofB).length / 128 ≤ 16 ∧ secs x ≤ 16 ∧ x.f.length ≤ 10
noncomputable def fewB (bs : List UInt8) (x : BI) : Bool := @decide (FewP bs x) (Classical.propDecidable _)
theorem fewB_t {bs : List UInt8} {x : BI} (h : FewP bs x) : fewB bs x = true := @decide_eq_true _ (Classical.propDecidable _) h
theorem fewB_f {bs : List UInt8} {x : BI} (h : ¬ FewP bs x) : fewB bs x = false := @decide_eq_false _ (Classical.propDecidable _) h
theorem fewB_iff {bs : List UInt8} {x : BI} : fewB bs x = true ↔ FewP bs x := ⟨fun h => @of_decide_eq_true _ (Classical.propDecidable _) h, fewB_t⟩
set_option maxRecDepth 100000 in
set_option maxHeartbeats 2000000 in
theorem s9 {bs : List UInt8} {x : BI} : Calls0 (evCall FN (k + 100)) 9 [biV x, memV bs] (.bool (fewB bs x)) := by
  obtain ⟨b, s, at', st, d, f⟩ := x
  have hD : secs ⟨b, s, at', st, d, f⟩ = (d.map ofB).length / 128 := rfl
  have hdv := ris_div f
  change Calls0 _ _ [AV.agg [.int .u32 b, .int .u32 s, .int .i64 at', .int .i64 st, csl 128 (d.map ofB), csl 5 (risV f)], _] _
  refine q_call0 fn9 fun T H E lv => ?_
  repeat (first | refine stN ?_ | intro E)
  refine q_loop (α := Nat) (LInv.mk (fun i => i ≤ f.length ∧ i ≤ 11 ∧ (∀ r ∈ f.take i, r.l.length ≤ 10)) (fun i => 11 - i)
    (fun i => [(5, .int .i64 (i : Int)), (4, .bool false), (3, .ref 1 0), (2, .ref 0 0)])
    (fun i => [(1, [csl 128 (bs.map ofB)]), (0, [.int .u32 b, .int .u32 s, .int .i64 at', .int .i64 st, csl 128 (d.map ofB), csl 5 (risV f)])]))
    (fun _ _ c => c = 4) 0 ⟨Nat.zero_le _, by omega, by simp⟩ rfl (show 11 - 0 < k + 99 by omega) ⟨rfl, rfl, rfl, rfl, trivial⟩ ⟨rfl, rfl, trivial⟩ ?_
  rintro i lv c T H E hP rfl hμ
  have hP : i ≤ f.length ∧ i ≤ 11 ∧ (∀ r ∈ f.take i, r.l.length ≤ 10) := hP
  obtain ⟨hP, hP2, hok⟩ := hP
  clear hμ
  dsimp only
  by_cases hi : i < f.length ∧ i < 11
  · obtain ⟨hi, hi2⟩ := hi
    obtain ⟨r, hp⟩ : ∃ p, f[i]? = some p := ⟨_, List.getElem?_eq_getElem hi⟩
    have gi : inB (i : Int) ((risV f).length / 5) = some i := inB_n (by rw [ris_div]; omega)
    have hrd : rd (risV f) (i * 5 + 4) 1 false = some (csl 4 (pisV r.l)) := fm_rd riV_length (by omega) hp rfl rfl
    have hdp := pis_div r.l
    have hmem : r ∈ f.take 11 := List.mem_of_getElem? (i := i) (by rw [List.getElem?_take_of_lt hi2]; exact hp)
    by_cases hq : r.l.length ≤ 10
    · repeat (first | refine stN ?_ | intro E)
      refine n_again (i + 1) ⟨by omega, by omega, ?_⟩ rfl (show 11 - (i + 1) < 11 - i by omega) ⟨rfl, rfl, rfl, rfl, trivial⟩ ⟨⟨rfl, rfl⟩, ⟨rfl, rfl⟩, trivial⟩
      intro p' hp'
      rw [List.take_add_one, hp] at hp'
      rcases List.mem_append.1 hp' with hh | hh
      · exact hok p' hh
      · simp only [Option.toList_some, List.mem_singleton] at hh; rw [hh]; exact hq
    · rw [fewB_f fun hF => hq (hF.1 r hmem)]
      repeat (first | refine stN ?_ | intro E)
      apply n_ret
      repeat (first | refine stN ?_ | intro E)
      exact q_ret (.inr rfl) rfl rfl rfl rfl rfl rfl
  · have hall : ∀ r ∈ f.take 11, r.l.length ≤ 10 := by
      intro r hr
      rcases Nat.lt_or_ge i 11 with h1 | h1
      · have : i = f.length := by omega
        subst this
        rw [List.take_length] at hok
        exact hok r (List.mem_of_mem_take hr)
      · have : i = 11 := by omega
        subst this
        exact hok r hr
    by_cases hF : (bs.map ofB).length / 128 ≤ 16 ∧ (d.map ofB).length / 128 ≤ 16 ∧ f.length ≤ 10
    · rw [fewB_t ⟨hall, hF.1, by rw [hD]; exact hF.2.1, hF.2.2⟩]
      have hi : i = f.length := by omega
      subst hi
      repeat (first | refine stN ?_ | intro E)
      apply n_exit
      apply b_exit
      repeat (first | refine stN ?_ | intro E)
      exact q_ret (.inr rfl) rfl rfl rfl rfl rfl rfl
    · rw [fewB_f fun h => hF ⟨h.2.1, by rw [← hD]; exact h.2.2.1, h.2.2.2⟩]
      obtain hx | hx | hx : 16 < (bs.map ofB).length / 128 ∨ ((bs.map ofB).length / 128 ≤ 16 ∧ 16 < (d.map ofB).length / 128) ∨ ((bs.map ofB).length / 128 ≤ 16 ∧ (d.map ofB).length / 128 ≤ 16 ∧ 10 < f.length) := by omega
      all_goals obtain hi1 | hi1 : i = f.length ∨ (i < f.length ∧ i = 11) := by omega
      all_goals
        repeat (first | refine stN ?_ | intro E)
        apply n_exit
        apply b_exit
        repeat (first | refine stN ?_ | intro E)
        exact q_ret (.inr rfl) rfl rfl rfl rfl rfl rfl
/-- The four bytes of a word, taken out of a memory. -/
theorem four_bytes {bs : List UInt8} {a : Nat} (h : a + 4 ≤ bs.length) : (bs.drop a).take 4 = [bs.getD a 0, bs.getD (a + 1) 0, bs.getD (a + 2) 0, bs.getD (a + 3) 0] := by
  apply List.ext_getElem?
  intro t
  match t with
  | 0 => simp [List.getD_eq_getElem?_getD, List.getElem?_eq_getElem (show a < bs.length by omega)]
  | 1 => simp [List.getD_eq_getElem?_getD, List.getElem?_eq_getElem (show a + 1 < bs.length by omega)]
  | 2 => simp [List.getD_eq_getElem?_getD, List.getElem?_eq_getElem (show a + 2 < bs.length by omega)]
  | 3 => simp [List.getD_eq_getElem?_getD, List.getElem?_eq_getElem (show a + 3 < bs.length by omega)]
  | t + 4 => rw [List.getElem?_take_eq_none (by omega)]; simp
theorem s29 {bs : List UInt8} {a n : Nat} (h : VM bs) (hb : a + n ≤ bs.length) : Calls0 (evCall FN (k + 9000)) 29 [memV bs, .int .i64 a, .int .i64 n] (.tup [.str ((bs.drop a).take n), .bool true]) := s29x fn55 fn29 h hb
set_option maxRecDepth 100000 in
theorem s97 {bs : List UInt8} {a : Nat} (h : VM bs) (hb : a + 4 ≤ bs.length) : Calls0 (evCall FN (k + 9001)) 97 [memV bs, .int .i64 a] (.int .u32 (word bs a)) := by
  have hl := h.le
  have c29 : Calls0 (evCall FN (k + 9000)) 29 [memV bs, .int .i64 a, .int .i64 ((4 : Nat) : Int)] (.tup [.str ((bs.drop a).take 4), .bool true]) := s29 h hb
  rw [four_bytes hb] at c29
  have b0 := bt_lt bs a; have b1 := bt_lt bs (a + 1); have b2 := bt_lt bs (a + 2); have b3 := bt_lt bs (a + 3)
  have w0 : IntKind.u32.wrap (((bs.getD a 0).toNat : Nat) : Int) = (bt bs a : Nat) := w32 (by omega) (show ((bt bs a : Nat) : Int) < _ by omega)
  have w1 : IntKind.u32.wrap (((bs.getD (a + 1) 0).toNat : Nat) : Int) = (bt bs (a + 1) : Nat) := w32 (by omega) (show ((bt bs (a + 1) : Nat) : Int) < _ by omega)
  have w2 : IntKind.u32.wrap (((bs.getD (a + 2) 0).toNat : Nat) : Int) = (bt bs (a + 2) : Nat) := w32 (by omega) (show ((bt bs (a + 2) : Nat) : Int) < _ by omega)
  have w3 : IntKind.u32.wrap (((bs.getD (a + 3) 0).toNat : Nat) : Int) = (bt bs (a + 3) : Nat) := w32 (by omega) (show ((bt bs (a + 3) : Nat) : Int) < _ by omega)
  have h1 : evBin .shl (.int .u32 (bt bs (a + 1) : Nat)) (.int .u64 8) = some (.int .u32 ((bt bs (a + 1) * 2 ^ 8 : Nat) : Int)) := shl_u32 (s := 8) (by omega) (by omega) rfl
  have h2 : evBin .shl (.int .u32 (bt bs (a + 2) : Nat)) (.int .u64 16) = some (.int .u32 ((bt bs (a + 2) * 2 ^ 16 : Nat) : Int)) := shl_u32 (s := 16) (by omega) (by omega) rfl
  have h3 : evBin .shl (.int .u32 (bt bs (a + 3) : Nat)) (.int .u64 24) = some (.int .u32 ((bt bs (a + 3) * 2 ^ 24 : Nat) : Int)) := shl_u32 (s := 24) (by omega) (by omega) rfl
  have o1 : evBin .or (.int .u32 (bt bs a : Nat)) (.int .u32 ((bt bs (a + 1) * 2 ^ 8 : Nat) : Int)) = some (.int .u32 ((bt bs a + bt bs (a + 1) * 2 ^ 8 : Nat) : Int)) := or_u32 (by omega) (by omega) rfl
  have o2 : evBin .or (.int .u32 ((bt bs a + bt bs (a + 1) * 2 ^ 8 : Nat) : Int)) (.int .u32 ((bt bs (a + 2) * 2 ^ 16 : Nat) : Int)) = some (.int .u32 ((bt bs a + bt bs (a + 1) * 2 ^ 8 + bt bs (a + 2) * 2 ^ 16 : Nat) : Int)) := or_u32 (by omega) (by omega) rfl
  have o3 : evBin .or (.int .u32 ((bt bs a + bt bs (a + 1) * 2 ^ 8 + bt bs (a + 2) * 2 ^ 16 : Nat) : Int)) (.int .u32 ((bt bs (a + 3) * 2 ^ 24 : Nat) : Int)) = some (.int .u32 (word bs a)) := or_u32 (by omega) (by omega) rfl
  refine q_call0 fn97 fun T H E lv => ?_
  repeat (first | refine stN ?_ | intro E)
  exact q_ret (.inr rfl) rfl rfl rfl rfl rfl rfl
theorem s81n {bs : List UInt8} {a n : Nat} (h : VM bs) (hb : a + n ≤ bs.length) : Calls0 (evCall FN (k + 9000)) 81 [memV bs, .int .i64 a, .int .i64 n] (.agg [.str ((bs.drop a).take n), .bool true]) := s81 h hb
set_option maxRecDepth 100000 in
theorem s104 {bs : List UInt8} {a : Nat} (h : VM bs) (hb : a + 4 ≤ bs.length) : Calls0 (evCall FN (k + 9001)) 104 [memV bs, .int .i64 a] (.int .i64 (word bs a)) := by
  have hl := h.le
  have c81 : Calls0 (evCall FN (k + 9000)) 81 [memV bs, .int .i64 a, .int .i64 ((4 : Nat) : Int)] (.agg [.str ((bs.drop a).take 4), .bool true]) := s81n h hb
  rw [four_bytes hb] at c81
  have b0 := bt_lt bs a; have b1 := bt_lt bs (a + 1); have b2 := bt_lt bs (a + 2); have b3 := bt_lt bs (a + 3)
  have w0 : IntKind.i64.wrap (((bs.getD a 0).toNat : Nat) : Int) = (bt bs a : Nat) := w64 (by omega) (show ((bt bs a : Nat) : Int) < _ by omega)
  have w1 : IntKind.i64.wrap (((bs.getD (a + 1) 0).toNat : Nat) : Int) = (bt bs (a + 1) : Nat) := w64 (by omega) (show ((bt bs (a + 1) : Nat) : Int) < _ by omega)
  have w2 : IntKind.i64.wrap (((bs.getD (a + 2) 0).toNat : Nat) : Int) = (bt bs (a + 2) : Nat) := w64 (by omega) (show ((bt bs (a + 2) : Nat) : Int) < _ by omega)
  have w3 : IntKind.i64.wrap (((bs.getD (a + 3) 0).toNat : Nat) : Int) = (bt bs (a + 3) : Nat) := w64 (by omega) (show ((bt bs (a + 3) : Nat) : Int) < _ by omega)
  have e : 256 * bt bs (a + 1) + bt bs a + 65536 * bt bs (a + 2) + 16777216 * bt bs (a + 3) = word bs a := by unfold word; omega
  refine q_call0 fn104 fun T H E lv => ?_
  repeat (first | refine stN ?_ | intro E)
  have e : bt bs a + 256 * bt bs (a + 1) + 65536 * bt bs (a + 2) + 16777216 * bt bs (a + 3) = word bs a := by unfold word; omega
  rw [e]
  exact q_ret (.inr rfl) rfl rfl rfl rfl rfl rfl
end Go.Proofs.Ythplidagfcdibaa
