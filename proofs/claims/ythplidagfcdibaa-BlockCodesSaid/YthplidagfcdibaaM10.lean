/- Part 10 of the texts on which proofs about this seat rest: each says what it proves at its own head. No condition. -/
import Derived.Test.YthplidagfcdibaaM9
set_option linter.unusedVariables false
set_option linter.unusedSimpArgs false
/- Rows of records in cells, and how requests and block devices lie in cells. No condition. -/
namespace Go.Proofs.Ythplidagfcdibaa
open Go.Abs
variable {k : Nat}
section
variable {α : Type} {f : α → List AV} {m : Nat} {l : List α} {j t : Nat} {p : α}
theorem fm_length (hf : ∀ x, (f x).length = m) : ∀ (l : List α), (l.flatMap f).length = l.length * m
  | [] => by simp
  | x :: l => by rw [List.flatMap_cons, List.length_append, hf, fm_length hf l, List.length_cons, Nat.add_mul, Nat.one_mul, Nat.add_comm]
theorem fm_div (hf : ∀ x, (f x).length = m) (h0 : 0 < m) (l : List α) : (l.flatMap f).length / m = l.length := by
  rw [fm_length hf, Nat.mul_div_cancel _ h0]
theorem fm_get (hf : ∀ x, (f x).length = m) (ht : t < m) : ∀ {l : List α} {j : Nat}, l[j]? = some p → (l.flatMap f)[j * m + t]? = (f p)[t]?
  | [], j, h => by simp at h
  | x :: l, 0, h => by
    simp only [List.getElem?_cons_zero, Option.some.injEq] at h
    subst h
    rw [List.flatMap_cons, List.getElem?_append_left (by rw [hf]; omega)]
    congr 1; omega
  | x :: l, j + 1, h => by
    have ih := fm_get hf ht (l := l) (j := j) (by simpa using h)
    rw [List.flatMap_cons, List.getElem?_append_right (by rw [hf, Nat.add_mul]; omega), hf, ← ih]
    congr 1; rw [Nat.add_mul]; omega
theorem fm_part (hf : ∀ x, (f x).length = m) (h : l[j]? = some p) : ((l.flatMap f).drop (j * m)).take m = f p := by
  have hlt : j < l.length := (List.getElem?_eq_some_iff.1 h).1
  have hl := fm_length hf l
  apply List.ext_getElem?
  intro t
  by_cases ht : t < m
  · rw [List.getElem?_take_of_lt ht, List.getElem?_drop, fm_get hf ht h]
  · rw [List.getElem?_eq_none (by rw [List.length_take]; omega), List.getElem?_eq_none (by rw [hf]; omega)]
theorem fm_agg (hf : ∀ x, (f x).length = m) (h : l[j]? = some p) : rd (l.flatMap f) (j * m) m true = some (.agg (f p)) := by
  have hlt : j < l.length := (List.getElem?_eq_some_iff.1 h).1
  have hl := fm_length hf l
  have h2 : (j + 1) * m ≤ l.length * m := Nat.mul_le_mul_right _ hlt
  rw [Nat.add_mul, Nat.one_mul] at h2
  simp only [rd, if_true]
  rw [if_pos (by omega), fm_part hf h]
theorem fm_rd (hf : ∀ x, (f x).length = m) (ht : t < m) (h : l[j]? = some p) {v : AV} (hv : (f p)[t]? = some v) (hl : v.leaf = true) : rd (l.flatMap f) (j * m + t) 1 false = some v := by
  simp only [rd, Bool.false_eq_true, if_false, fm_get hf ht h, hv, hl]; rfl
theorem fm_flat (hf : ∀ x, flatL (f x) = true) : ∀ (l : List α), flatL (l.flatMap f) = true
  | [] => rfl
  | x :: l => by
    rw [List.flatMap_cons, flatL_iff]
    intro y hy
    rcases List.mem_append.1 hy with h | h
    · exact (flatL_iff _).1 (hf x) y h
    · exact (flatL_iff _).1 (fm_flat hf l) y h
end
structure PI where
  i : Int
  a : Int
  n : Int
  w : Bool
def piV (p : PI) : List AV := [.int .i64 p.i, .int .i64 p.a, .int .i64 p.n, .bool p.w]
def pisV (l : List PI) : List AV := l.flatMap piV
theorem piV_length (p : PI) : (piV p).length = 4 := rfl
theorem pis_div (l : List PI) : (pisV l).length / 4 = l.length := fm_div piV_length (by omega) l
theorem pis_flat (l : List PI) : flatL (pisV l) = true := fm_flat (fun _ => rfl) l
structure RI where
  b : Nat
  s : Nat
  q : Int
  w : Bool
  l : List PI
def riV (r : RI) : List AV := [.int .u32 r.b, .int .u32 r.s, .int .i64 r.q, .bool r.w, csl 4 (pisV r.l)]
def risV (l : List RI) : List AV := l.flatMap riV
theorem riV_length (r : RI) : (riV r).length = 5 := rfl
theorem ris_div (l : List RI) : (risV l).length / 5 = l.length := fm_div riV_length (by omega) l
theorem riV_flat (r : RI) : flatL (riV r) = true := by simp [riV, flatL, AV.flat, csl, pis_flat]
structure BI where
  b : Nat
  s : Nat
  at' : Int
  st : Int
  d : List UInt8
  f : List RI
def biC (x : BI) : List AV := [.int .u32 x.b, .int .u32 x.s, .int .i64 x.at', .int .i64 x.st, csl 128 (x.d.map ofB), csl 5 (risV x.f)]
def biV (x : BI) : AV := .agg (biC x)
def smI (l : List PI) : Int := l.foldl (fun n p => n + p.n) 0
def fitI (l : List PI) (w : Bool) : Nat := if l = [] ∨ 128 < smI l then 161 else if l.any (fun p => p.w == w) then 164 else 0
def okN (l : List PI) : Prop := ∀ p ∈ l, 1 ≤ p.n ∧ p.n ≤ 4294967296
theorem sm_range : ∀ {l : List PI} {n : Int}, okN l → n + l.length ≤ l.foldl (fun n p => n + p.n) n ∧ l.foldl (fun n p => n + p.n) n ≤ n + l.length * 4294967296
  | [], n, _ => by simp
  | p :: l, n, h => by
    have h1 := h p List.mem_cons_self
    have ih := sm_range (l := l) (n := n + p.n) fun q hq => h q (List.mem_cons_of_mem _ hq)
    simp only [List.foldl_cons, List.length_cons]
    omega
theorem okN.take {l : List PI} (h : okN l) (i : Nat) : okN (l.take i) := fun p hp => h p (List.mem_of_mem_take hp)
end Go.Proofs.Ythplidagfcdibaa

/- The parts of a request after the first one: by the program, by the reference. Condition: the lengths are positive words. -/
namespace Go.Proofs.Ythplidagfcdibaa
open Go.Abs
variable {k : Nat}
set_option maxRecDepth 100000 in
theorem s70 {l : List PI} {w : Bool} (hn : l.length ≤ 100) (hs : okN l) : Calls0 (evCall FN (k + 200)) 70 [csl 4 (pisV l), .bool w] (.int .i64 (fitI l w)) := by
  refine q_call0 fn70 fun T H E lv => ?_
  repeat (first | refine stN ?_ | intro E)
  rw [pis_div]
  refine q_loop (α := Nat) (LInv.mk (fun i => i ≤ l.length) (fun i => l.length - i)
    (fun i => [(12, .int .i64 (i : Int)), (11, .int .i64 (l.length : Int)), (10, csl 4 (pisV l)), (5, .int .i64 (smI (l.take i))), (4, .int .i64 0), (1, .bool w), (0, csl 4 (pisV l))]) (fun i => []))
    (fun _ _ c => c = 4) 0 (Nat.zero_le _) rfl (show l.length - 0 < k + 199 by omega) ⟨rfl, rfl, rfl, rfl, rfl, rfl, rfl, trivial⟩ trivial ?_
  rintro i lv c T H E hP rfl hμ
  have hP : i ≤ l.length := hP
  clear hμ
  dsimp only
  rcases Nat.lt_or_ge i l.length with hi | hi
  · obtain ⟨p, hp⟩ : ∃ p, l[i]? = some p := ⟨_, List.getElem?_eq_getElem hi⟩
    have hps := hs p (List.mem_of_getElem? hp)
    have gi : inB (i : Int) ((pisV l).length / 4) = some i := inB_n (by rw [pis_div]; omega)
    have hft : smI (l.take (i + 1)) = smI (l.take i) + p.n := foldl_take hp
    have hle := sm_range (n := 0) (hs.take i)
    rw [List.length_take] at hle
    have hle : _ ∧ smI (l.take i) ≤ _ := hle
    have hle0 : _ ≤ smI (l.take i) := hle.1
    have hr : rd (pisV l) (i * 4) 4 true = some (.agg [.int .i64 p.i, .int .i64 p.a, .int .i64 p.n, .bool p.w]) := fm_agg piV_length hp
    have ha : evBin .add (.int .i64 (smI (l.take i))) (.int .i64 p.n) = some (.int .i64 (smI (l.take (i + 1)))) := add_w hft.symm (by omega) (by omega)
    repeat (first | refine stN ?_ | intro E)
    exact n_again (i + 1) (show i + 1 ≤ l.length by omega) rfl (show l.length - (i + 1) < l.length - i by omega) ⟨rfl, rfl, rfl, rfl, rfl, rfl, rfl, trivial⟩ trivial
  · rw [List.take_of_length_le hi]
    have hle := sm_range (n := 0) hs
    have h1 : (0 : Int) + l.length ≤ smI l := hle.1
    repeat (first | refine stN ?_ | intro E)
    apply n_exit
    apply b_exit
    by_cases h0 : l = [] ∨ 128 < smI l
    · have hf : fitI l w = 161 := if_pos h0
      rw [hf]
      rcases h0 with rfl | h0
      · have e : smI [] = 0 := rfl
        rw [e]
        repeat (first | refine stN ?_ | intro E)
        exact q_ret (.inr rfl) rfl rfl rfl rfl rfl rfl
      · repeat (first | refine stN ?_ | intro E)
        exact q_ret (.inr rfl) rfl rfl rfl rfl rfl rfl
    · have hf : fitI l w = if l.any (fun p => p.w == w) then 164 else 0 := if_neg h0
      have h2 : 1 ≤ smI l := by
        rcases l with _ | ⟨p, l⟩
        · exact absurd (.inl rfl) h0
        · simp only [List.length_cons] at h1; omega
      have h3 : smI l ≤ 128 := by omega
      rw [hf]
      repeat (first | refine stN ?_ | intro E)
      rw [pis_div]
      refine q_loop (α := Nat) (LInv.mk (fun i => i ≤ l.length ∧ (l.take i).any (fun p => p.w == w) = false) (fun i => l.length - i)
        (fun i => [(29, .int .i64 (i : Int)), (28, .int .i64 (l.length : Int)), (27, csl 4 (pisV l)), (4, .int .i64 0), (1, .bool w)]) (fun i => []))
        (fun _ _ c => c = 4) 0 ⟨Nat.zero_le _, by simp⟩ rfl (show l.length - 0 < k + 199 by omega) ⟨rfl, rfl, rfl, rfl, rfl, trivial⟩ trivial ?_
      rintro i lv c T H E hP rfl hμ
      have hP : i ≤ l.length ∧ (l.take i).any (fun p => p.w == w) = false := hP
      obtain ⟨hP, hno⟩ := hP
      clear hμ
      dsimp only
      rcases Nat.lt_or_ge i l.length with hi | hi
      · obtain ⟨p, hp⟩ : ∃ p, l[i]? = some p := ⟨_, List.getElem?_eq_getElem hi⟩
        have gi : inB (i : Int) ((pisV l).length / 4) = some i := inB_n (by rw [pis_div]; omega)
        have hr : rd (pisV l) (i * 4) 4 true = some (.agg [.int .i64 p.i, .int .i64 p.a, .int .i64 p.n, .bool p.w]) := fm_agg piV_length hp
        have hat := any_take (f := fun p => p.w == w) hp
        rw [hno, Bool.false_or] at hat
        cases hpw : (p.w == w)
        · rw [hpw] at hat
          have : p.w = !w := by cases hq : p.w <;> cases w <;> simp_all
          rw [this] at hr
          cases w
          all_goals
            repeat (first | refine stN ?_ | intro E)
            exact n_again (i + 1) ⟨by omega, hat⟩ rfl (show l.length - (i + 1) < l.length - i by omega) ⟨rfl, rfl, rfl, rfl, rfl, trivial⟩ trivial
        · have e : l.any (fun p => p.w == w) = true := List.any_eq_true.2 ⟨p, List.mem_of_getElem? hp, hpw⟩
          have : p.w = w := by simpa using hpw
          rw [e, if_pos rfl]
          rw [this] at hr
          cases w
          all_goals
            repeat (first | refine stN ?_ | intro E)
            apply n_ret
            repeat (first | refine stN ?_ | intro E)
            exact q_ret (.inr rfl) rfl rfl rfl rfl rfl rfl
      · rw [List.take_of_length_le hi] at hno
        rw [hno]
        repeat (first | refine stN ?_ | intro E)
        apply n_exit
        apply b_exit
        repeat (first | refine stN ?_ | intro E)
        exact q_ret (.inr rfl) rfl rfl rfl rfl rfl rfl
set_option maxRecDepth 100000 in
theorem s68 {l : List PI} {w : Bool} (hn : l.length ≤ 100) (hs : okN l) : Calls0 (evCall FN (k + 200)) 68 [csl 4 (pisV l), .bool w] (.int .i64 (fitI l w)) := by
  have hdv := pis_div l
  refine q_call0 fn68 fun T H E lv => ?_
  repeat (first | refine stN ?_ | intro E)
  refine q_loop (α := Nat) (LInv.mk (fun i => i ≤ l.length) (fun i => l.length - i)
    (fun i => [(6, .int .i64 (i : Int)), (5, .int .i64 (smI (l.take i))), (4, .int .i64 0), (1, .bool w), (0, csl 4 (pisV l))]) (fun i => []))
    (fun _ _ c => c = 4) 0 (Nat.zero_le _) rfl (show l.length - 0 < k + 199 by omega) ⟨rfl, rfl, rfl, rfl, rfl, trivial⟩ trivial ?_
  rintro i lv c T H E hP rfl hμ
  have hP : i ≤ l.length := hP
  clear hμ
  dsimp only
  rcases Nat.lt_or_ge i l.length with hi | hi
  · obtain ⟨p, hp⟩ : ∃ p, l[i]? = some p := ⟨_, List.getElem?_eq_getElem hi⟩
    have hps := hs p (List.mem_of_getElem? hp)
    have gi : inB (i : Int) ((pisV l).length / 4) = some i := inB_n (by rw [pis_div]; omega)
    have hft : smI (l.take (i + 1)) = smI (l.take i) + p.n := foldl_take hp
    have hle := sm_range (n := 0) (hs.take i)
    rw [List.length_take] at hle
    have hle : _ ∧ smI (l.take i) ≤ _ := hle
    have hle0 : _ ≤ smI (l.take i) := hle.1
    have hr : rd (pisV l) (i * 4 + 2) 1 false = some (.int .i64 p.n) := fm_rd piV_length (by omega) hp rfl rfl
    have ha : evBin .add (.int .i64 (smI (l.take i))) (.int .i64 p.n) = some (.int .i64 (smI (l.take (i + 1)))) := add_w hft.symm (by omega) (by omega)
    repeat (first | refine stN ?_ | intro E)
    exact n_again (i + 1) (show i + 1 ≤ l.length by omega) rfl (show l.length - (i + 1) < l.length - i by omega) ⟨rfl, rfl, rfl, rfl, rfl, trivial⟩ trivial
  · rw [List.take_of_length_le hi]
    repeat (first | refine stN ?_ | intro E)
    apply n_exit
    apply b_exit
    by_cases h0 : l = [] ∨ 128 < smI l
    · have hf : fitI l w = 161 := if_pos h0
      rw [hf]
      by_cases h00 : l = []
      · subst h00
        repeat (first | refine stN ?_ | intro E)
        exact q_ret (.inr rfl) rfl rfl rfl rfl rfl rfl
      · have h0 := h0.resolve_left h00
        have : 0 < l.length := List.length_pos_iff.2 h00
        repeat (first | refine stN ?_ | intro E)
        exact q_ret (.inr rfl) rfl rfl rfl rfl rfl rfl
    · have hf : fitI l w = if l.any (fun p => p.w == w) then 164 else 0 := if_neg h0
      have : 0 < l.length := List.length_pos_iff.2 fun h => h0 (.inl h)
      have h3 : smI l ≤ 128 := by omega
      rw [hf]
      repeat (first | refine stN ?_ | intro E)
      refine q_loop (α := Nat) (LInv.mk (fun i => i ≤ l.length ∧ (l.take i).any (fun p => p.w == w) = false) (fun i => l.length - i)
        (fun i => [(7, .int .i64 (i : Int)), (4, .int .i64 0), (1, .bool w), (0, csl 4 (pisV l))]) (fun i => []))
        (fun _ _ c => c = 4) 0 ⟨Nat.zero_le _, by simp⟩ rfl (show l.length - 0 < k + 199 by omega) ⟨rfl, rfl, rfl, rfl, trivial⟩ trivial ?_
      rintro i lv c T H E hP rfl hμ
      have hP : i ≤ l.length ∧ (l.take i).any (fun p => p.w == w) = false := hP
      obtain ⟨hP, hno⟩ := hP
      clear hμ
      dsimp only
      rcases Nat.lt_or_ge i l.length with hi | hi
      · obtain ⟨p, hp⟩ : ∃ p, l[i]? = some p := ⟨_, List.getElem?_eq_getElem hi⟩
        have gi : inB (i : Int) ((pisV l).length / 4) = some i := inB_n (by rw [pis_div]; omega)
        have hr : rd (pisV l) (i * 4 + 3) 1 false = some (.bool p.w) := fm_rd piV_length (by omega) hp rfl rfl
        have hat := any_take (f := fun p => p.w == w) hp
        rw [hno, Bool.false_or] at hat
        cases hpw : (p.w == w)
        · rw [hpw] at hat
          have : p.w = !w := by cases hq : p.w <;> cases w <;> simp_all
          rw [this] at hr
          cases w
          all_goals
            repeat (first | refine stN ?_ | intro E)
            exact n_again (i + 1) ⟨by omega, hat⟩ rfl (show l.length - (i + 1) < l.length - i by omega) ⟨rfl, rfl, rfl, rfl, trivial⟩ trivial
        · have e : l.any (fun p => p.w == w) = true := List.any_eq_true.2 ⟨p, List.mem_of_getElem? hp, hpw⟩
          have : p.w = w := by simpa using hpw
          rw [e, if_pos rfl]
          rw [this] at hr
          cases w
          all_goals
            repeat (first | refine stN ?_ | intro E)
            apply n_ret
            repeat (first | refine stN ?_ | intro E)
            exact q_ret (.inr rfl) rfl rfl rfl rfl rfl rfl
      · rw [List.take_of_length_le hi] at hno
        rw [hno]
        repeat (first | refine stN ?_ | intro E)
        apply n_exit
        apply b_exit
        repeat (first | refine stN ?_ | intro E)
        exact q_ret (.inr rfl) rfl rfl rfl rfl rfl rfl
end Go.Proofs.Ythplidagfcdibaa

/- Whether a request is right, by the program. Condition: the memory is valid; the numbers are such as their types hold; at most 100 parts. -/
namespace Go.Proofs.Ythplidagfcdibaa
open Go.Abs
variable {k : Nat}
def setV (js : List Int) : List AV := js.flatMap fun j => [.int .i64 j, .bool true]
theorem setV_get (i : Int) : ∀ (js : List Int), getM 0 (.int .i64 i) (setV js) = some (if i ∈ js then some (.bool true) else none)
  | [] => rfl
  | j :: js => by
    have ih := setV_get i js
    have e : setV (j :: js) = .int .i64 j :: .bool true :: setV js := rfl
    rw [e]
    simp only [getM, eqK, if_true]
    by_cases h : i = j
    · subst h; simp
    · have : (i == j) = false := by simpa using h
      rw [this]
      simp only [ih, List.mem_cons, h, false_or]
theorem setV_set {i : Int} : ∀ {js : List Int}, i ∉ js → setM 0 (.int .i64 i) (.bool true) (setV js) = some (setV (js ++ [i]))
  | [], _ => rfl
  | j :: js, h => by
    simp only [List.mem_cons, not_or] at h
    have ih := setV_set h.2
    have e : setV (j :: js) = .int .i64 j :: .bool true :: setV js := rfl
    rw [e]
    have : (i == j) = false := by simpa using h.1
    simp only [setM, eqK, if_true, this, ih, Option.map_some]
    rfl
theorem setV_under (n : Nat) : ∀ (js : List Int), underL n (setV js) = true
  | [] => rfl
  | j :: js => by
    have e : setV (j :: js) = .int .i64 j :: .bool true :: setV js := rfl
    rw [e]
    simp only [underL, AV.under, setV_under n js, Bool.and_self]
def okP (L s : Nat) (p : PI) : Prop := 0 ≤ p.i ∧ p.i < s ∧ 1 ≤ p.n ∧ p.n ≤ 512 ∧ 0 ≤ p.a ∧ p.a ≤ (L : Int) - p.n
def idx (l : List PI) : List Int := l.map (·.i)
def partsOK (L s : Nat) (l : List PI) : Prop := (∀ p ∈ l, okP L s p) ∧ (idx l).Nodup
def RightP (L D : Nat) (r : RI) : Prop :=
  (chkN L r.b r.s = 0 ∧ 0 ≤ r.q ∧ r.q < D ∧ 2 ≤ r.l.length ∧ r.l.length ≤ 4) ∧ partsOK L r.s r.l ∧ ∃ p l, r.l = p :: l ∧ p.w = false ∧ p.n = 8 ∧ fitI l r.w = 0
noncomputable def rightB (L D : Nat) (r : RI) : Bool := @decide (RightP L D r) (Classical.propDecidable _)
theorem rightB_t {L D : Nat} {r : RI} (h : RightP L D r) : rightB L D r = true := @decide_eq_true _ (Classical.propDecidable _) h
theorem rightB_f {L D : Nat} {r : RI} (h : ¬ RightP L D r) : rightB L D r = false := @decide_eq_false _ (Classical.propDecidable _) h
theorem rightB_iff {L D : Nat} {r : RI} : rightB L D r = true ↔ RightP L D r := by
  constructor
  · intro h
    exact @of_decide_eq_true _ (Classical.propDecidable _) h
  · exact rightB_t
theorem idx_take {l : List PI} {i : Nat} {p : PI} (h : l[i]? = some p) : idx (l.take (i + 1)) = idx (l.take i) ++ [p.i] := by
  unfold idx; rw [List.take_add_one, h]; simp
theorem nodup_at {l : List PI} {i : Nat} {p : PI} (h : l[i]? = some p) (hn : (idx l).Nodup) : p.i ∉ idx (l.take i) := by
  have h1 : (idx (l.take (i + 1))).Nodup := by
    refine List.Sublist.nodup ?_ hn
    exact (List.take_sublist _ _).map _
  rw [idx_take h, List.nodup_append] at h1
  intro hm
  exact h1.2.2 _ hm _ (by simp) rfl
set_option maxRecDepth 100000 in
set_option maxHeartbeats 2000000 in
theorem s38 {bs : List UInt8} {D : Nat} {r : RI} (h : VM bs) (hb : r.b < 4294967296) (hs : r.s < 4294967296) (hD : D < 1000000) (hn : r.l.length ≤ 5000) : Calls0 (evCall FN (k + 400)) 38 [.agg (riV r), memV bs, .int .i64 D] (.bool (rightB bs.length D r)) := by
  have hl := h.le
  obtain ⟨b, s, q, w, l⟩ := r
  dsimp only at hb hs hn
  have c69 : Calls0 (evCall FN (k + 399)) 69 [memV bs, ringV b s] (.int .i64 (chkN bs.length b s)) := (s69 (k := 0) h hb hs).fuel (by omega)
  have c55 : Calls0 (evCall FN (k + 399)) 55 [memV bs] (.int .i64 bs.length) := (s55 (k := 0) h).fuel (by omega)
  change Calls0 _ _ [AV.agg [.int .u32 b, .int .u32 s, .int .i64 q, .bool w, csl 4 (pisV l)], _, _] _
  refine q_call0 fn38 fun T H E lv => ?_
  have hdv := pis_div l
  by_cases hA : chkN bs.length b s = 0 ∧ 0 ≤ q ∧ q < D ∧ 2 ≤ l.length ∧ l.length ≤ 4
  · obtain ⟨a1, a2, a3, a4, a5⟩ := id hA
    rw [a1] at c69
    repeat (first | refine stN ?_ | intro E)
    rw [pis_div]
    refine q_loop (α := Nat) (LInv.mk (fun i => i ≤ l.length ∧ (∀ p ∈ l.take i, okP bs.length s p) ∧ (idx (l.take i)).Nodup) (fun i => l.length - i)
      (fun i => [(43, .int .i64 (i : Int)), (42, .int .i64 (l.length : Int)), (41, csl 4 (pisV l)), (7, .mp 2), (6, .bool false), (4, .ref 1 0), (3, .ref 0 0)])
      (fun i => [(2, .bool true :: setV (idx (l.take i))), (1, [csl 128 (bs.map ofB)]), (0, [.int .u32 b, .int .u32 s, .int .i64 q, .bool w, csl 4 (pisV l)])]))
      (fun _ _ c => c = 4) 0 ⟨Nat.zero_le _, by simp, by simp [idx]⟩ rfl (show l.length - 0 < k + 399 by omega) ⟨rfl, rfl, rfl, rfl, rfl, rfl, rfl, trivial⟩ ⟨rfl, rfl, rfl, trivial⟩ ?_
    rintro i lv c T H E hP rfl hμ
    have hP : i ≤ l.length ∧ (∀ p ∈ l.take i, okP bs.length s p) ∧ (idx (l.take i)).Nodup := hP
    obtain ⟨hP, hok, hnd⟩ := hP
    clear hμ
    dsimp only
    rcases Nat.lt_or_ge i l.length with hi | hi
    · obtain ⟨p, hp⟩ : ∃ p, l[i]? = some p := ⟨_, List.getElem?_eq_getElem hi⟩
      have gi : inB (i : Int) ((pisV l).length / 4) = some i := inB_n (by rw [pis_div]; omega)
      have hr : rd (pisV l) (i * 4) 4 true = some (.agg [.int .i64 p.i, .int .i64 p.a, .int .i64 p.n, .bool p.w]) := fm_agg piV_length hp
      have hws : IntKind.i64.wrap (s : Int) = s := w64 (by omega) (by omega)
      have hg := setV_get p.i (idx (l.take i))
      by_cases hm : p.i ∈ idx (l.take i)
      · rw [if_pos hm] at hg
        have hf : rightB bs.length D ⟨b, s, q, w, l⟩ = false := rightB_f fun hR => nodup_at hp hR.2.1.2 hm
        rw [hf]
        obtain hx | hx | hx : p.i < 0 ∨ (s : Int) ≤ p.i ∨ (0 ≤ p.i ∧ p.i < s) := by omega
        all_goals
          repeat (first | refine stN ?_ | intro E)
          apply n_ret
          repeat (first | refine stN ?_ | intro E)
          exact q_ret (.inr rfl) rfl rfl rfl rfl rfl rfl
      · rw [if_neg hm] at hg
        by_cases hok' : okP bs.length s p
        · obtain ⟨o1, o2, o3, o4, o5, o6⟩ := id hok'
          have hsub : evBin .sub (.int .i64 (bs.length : Int)) (.int .i64 p.n) = some (.int .i64 ((bs.length : Int) - p.n)) := sub_w rfl (by omega) (by omega)
          have hset := setV_set hm
          repeat (first | refine stN ?_ | intro E)
          refine n_again (i + 1) ⟨by omega, ?_, ?_⟩ rfl (show l.length - (i + 1) < l.length - i by omega) ⟨rfl, rfl, rfl, rfl, rfl, rfl, rfl, trivial⟩ ⟨⟨by rw [idx_take hp]; rfl, setV_under _ _⟩, ⟨rfl, rfl⟩, ⟨rfl, rfl⟩, trivial⟩
          · intro p' hp'
            rw [List.take_add_one, hp] at hp'
            rcases List.mem_append.1 hp' with hh | hh
            · exact hok p' hh
            · simp only [Option.toList_some, List.mem_singleton] at hh; rw [hh]; exact hok'
          · rw [idx_take hp, List.nodup_append]
            exact ⟨hnd, by simp, fun x hx y hy => by simp only [List.mem_singleton] at hy; rw [hy]; intro e; exact hm (e ▸ hx)⟩
        · have hf : rightB bs.length D ⟨b, s, q, w, l⟩ = false := rightB_f fun hR => hok' (hR.2.1.1 p (List.mem_of_getElem? hp))
          rw [hf]
          unfold okP at hok'
          obtain hx | hx | hx | hx | hx | hx : p.i < 0 ∨ (0 ≤ p.i ∧ (s : Int) ≤ p.i) ∨ (0 ≤ p.i ∧ p.i < s ∧ p.n < 1) ∨ (0 ≤ p.i ∧ p.i < s ∧ 512 < p.n) ∨ (0 ≤ p.i ∧ p.i < s ∧ 1 ≤ p.n ∧ p.n ≤ 512 ∧ p.a < 0) ∨ (0 ≤ p.i ∧ p.i < s ∧ 1 ≤ p.n ∧ p.n ≤ 512 ∧ 0 ≤ p.a ∧ (bs.length : Int) - p.n < p.a) := by omega
          case' inr.inr.inr.inr.inr =>
            have hsub : evBin .sub (.int .i64 (bs.length : Int)) (.int .i64 p.n) = some (.int .i64 ((bs.length : Int) - p.n)) := sub_w rfl (by omega) (by omega)
          all_goals
            repeat (first | refine stN ?_ | intro E)
            apply n_ret
            repeat (first | refine stN ?_ | intro E)
            exact q_ret (.inr rfl) rfl rfl rfl rfl rfl rfl
    · rw [List.take_of_length_le hi] at hok hnd
      obtain ⟨p, l', rfl⟩ : ∃ p l', l = p :: l' := by
        rcases l with _ | ⟨p, l'⟩
        · simp at a4
        · exact ⟨p, l', rfl⟩
      have hp : (p :: l')[0]? = some p := rfl
      have gi : inB 0 ((pisV (p :: l')).length / 4) = some 0 := inB_n (a := 0) (by rw [pis_div]; simp)
      have hr : rd (pisV (p :: l')) (0 * 4) 4 true = some (.agg [.int .i64 p.i, .int .i64 p.a, .int .i64 p.n, .bool p.w]) := fm_agg piV_length hp
      have hll : l'.length ≤ 100 := by simp only [List.length_cons] at a5; omega
      have hoN : okN l' := fun x hx => by have := hok x (List.mem_cons_of_mem _ hx); unfold okP at this; omega
      have c70 : Calls0 (evCall FN (k + 399)) 70 [csl 4 (pisV l'), .bool w] (.int .i64 (fitI l' w)) := (s70 (k := 0) hll hoN).fuel (by omega)
      have hdr : ((pisV (p :: l')).take ((pisV (p :: l')).length / 4 * 4)).drop (1 * 4) = pisV l' := by
        have e : (pisV (p :: l')).length / 4 * 4 = (pisV (p :: l')).length := by rw [pis_div]; exact (fm_length piV_length _).symm
        rw [e, List.take_length]; rfl
      have hab : asB 1 ((pisV (p :: l')).length / 4) = some 1 := asB_n (a := 1) (by rw [pis_div]; simp)
      by_cases hw : p.w = false ∧ p.n = 8
      · obtain ⟨w1, w2⟩ := hw
        rw [w1, w2] at hr
        repeat (first | refine stN ?_ | intro E)
        apply n_exit
        apply b_exit
        repeat (first | refine stN ?_ | intro E)
        apply p_slL_lo
        · exact rfl
        · exact csz_ok _ _
        · exact rfl
        · exact hab
        rw [hdr]
        by_cases hfit : fitI l' w = 0
        · have hf : rightB bs.length D ⟨b, s, q, w, p :: l'⟩ = true := rightB_t ⟨hA, ⟨hok, hnd⟩, p, l', rfl, w1, w2, hfit⟩
          rw [hf]
          rw [hfit] at c70
          repeat (first | refine stN ?_ | intro E)
          exact q_ret (.inr rfl) rfl rfl rfl rfl rfl rfl
        · have hf : rightB bs.length D ⟨b, s, q, w, p :: l'⟩ = false := rightB_f fun hR => by
            obtain ⟨_, _, p1, l1, e1, _, _, e4⟩ := hR
            cases e1; exact hfit e4
          rw [hf]
          repeat (first | refine stN ?_ | intro E)
          exact q_ret (.inr rfl) rfl rfl rfl rfl rfl rfl
      · have hf : rightB bs.length D ⟨b, s, q, w, p :: l'⟩ = false := rightB_f fun hR => by
          obtain ⟨_, _, p1, l1, e1, e2, e3, _⟩ := hR
          cases e1; exact hw ⟨e2, e3⟩
        rw [hf]
        cases hpw : p.w
        · have hpn : p.n ≠ 8 := fun e => hw ⟨hpw, e⟩
          rw [hpw] at hr
          repeat (first | refine stN ?_ | intro E)
          apply n_exit
          apply b_exit
          repeat (first | refine stN ?_ | intro E)
          exact q_ret (.inr rfl) rfl rfl rfl rfl rfl rfl
        · rw [hpw] at hr
          repeat (first | refine stN ?_ | intro E)
          apply n_exit
          apply b_exit
          repeat (first | refine stN ?_ | intro E)
          exact q_ret (.inr rfl) rfl rfl rfl rfl rfl rfl
  · have hf : rightB bs.length D ⟨b, s, q, w, l⟩ = false := rightB_f fun hR => hA hR.1
    rw [hf]
    obtain hx | hx | hx | hx | hx : chkN bs.length b s ≠ 0 ∨ (chkN bs.length b s = 0 ∧ q < 0) ∨ (chkN bs.length b s = 0 ∧ 0 ≤ q ∧ (D : Int) ≤ q) ∨ (chkN bs.length b s = 0 ∧ 0 ≤ q ∧ q < D ∧ l.length < 2) ∨ (chkN bs.length b s = 0 ∧ 0 ≤ q ∧ q < D ∧ 4 < l.length) := by omega
    all_goals
      repeat (first | refine stN ?_ | intro E)
      exact q_ret (.inr rfl) rfl rfl rfl rfl rfl rfl
end Go.Proofs.Ythplidagfcdibaa
