/- Part 11 of the texts on which proofs about this seat rest: each says what it proves at its own head. No condition. -/
import Derived.Test.YtaeoaakblilfeaaM10
set_option linter.unusedVariables false
set_option linter.unusedSimpArgs false
/- The same lists, and the same memories, are found to be the same. Condition: the memory is valid. -/
namespace Go.Proofs.Ytaeoaakblilfeaa
open Go.Abs
variable {k : Nat}
theorem eqK_bytes : ∀ (n : Nat) (xs : List UInt8), xs.length = n → eqKs (List.replicate n 0) (xs.map ofB) (xs.map ofB) = some true
  | 0, [], _ => rfl
  | n + 1, x :: xs, h => by
    have ih := eqK_bytes n xs (by simpa using h)
    simp only [List.replicate_succ, List.map_cons, eqKs, ih, ofB, eqK, if_true, beq_self_eq_true, Bool.and_self]
set_option maxRecDepth 100000 in
set_option maxHeartbeats 1000000 in
theorem s75t {bs : List UInt8} (h : VM bs) : Calls0 (evCall FN (k + 200)) 75 [memV bs, memV bs] (csl 1 []) := by
  have hl := h.le
  obtain ⟨P, hP1, hP2, hP3⟩ := h
  have hd : (bs.map ofB).length / 128 = P := by rw [List.length_map]; omega
  have hmx : (if true = true then max ((P : Nat) : Int) P else min ((P : Nat) : Int) P) = P := by simp
  refine q_call0 fn75 fun T H E lv => ?_
  repeat (first | refine stN ?_ | intro E)
  refine q_loop (α := Nat) (LInv.mk (fun j => j ≤ P) (fun j => P - j)
    (fun j => [(6, .int .i64 (j : Int)), (5, .sl 0 0 []), (2, .ref 0 0), (3, .ref 1 0)]) (fun j => [(1, [csl 128 (bs.map ofB)]), (0, [csl 128 (bs.map ofB)])]))
    (fun _ _ c => c = 4) 0 (Nat.zero_le _) rfl (show P - 0 < k + 199 by omega) ⟨rfl, rfl, rfl, rfl, trivial⟩ ⟨rfl, rfl, trivial⟩ ?_
  rintro j lv c T H E hP rfl hμ
  have hP : j ≤ P := hP
  clear hμ
  dsimp only
  rcases Nat.lt_or_ge j P with hlt | hge
  · have hr : rd (bs.map ofB) (j * 128) 128 true = some (.agg (((bs.drop (j * 128)).take 128).map ofB)) := by
      simp only [rd, if_true]
      rw [if_pos (by rw [List.length_map]; omega), List.map_take, List.map_drop]
    have he := eqK_bytes 128 ((bs.drop (j * 128)).take 128) (by rw [List.length_take, List.length_drop]; omega)
    repeat (first | refine stN ?_ | intro E)
    apply p_eqA
    · exact rfl
    · exact rfl
    · exact he
    repeat (first | refine stN ?_ | intro E)
    exact n_again (j + 1) (show j + 1 ≤ P by omega) rfl (show P - (j + 1) < P - j by omega) ⟨rfl, rfl, rfl, rfl, trivial⟩ ⟨⟨rfl, rfl⟩, ⟨rfl, rfl⟩, trivial⟩
  · repeat (first | refine stN ?_ | intro E)
    apply n_exit
    apply b_exit
    repeat (first | refine stN ?_ | intro E)
    exact q_ret (.inr rfl) rfl rfl rfl rfl rfl rfl
set_option maxRecDepth 100000 in
theorem s47t {bs : List UInt8} (h : VM bs) : Calls0 (evCall FN (k + 201)) 47 [memV bs, memV bs] (.bool true) := by
  have c75 : Calls0 (evCall FN (k + 200)) 75 [memV bs, memV bs] (csl 1 []) := s75t h
  refine q_call0 fn47 fun T H E lv => ?_
  repeat (first | refine stN ?_ | intro E)
  exact q_ret (.inr rfl) rfl rfl rfl rfl rfl rfl
end Go.Proofs.Ytaeoaakblilfeaa

/- Parts cs a list, what covers a byte, and 'apart'. Conditions: the memories are valid and cs long; the parts' ends are numbers. -/
namespace Go.Proofs.Ytaeoaakblilfeaa
open Go.Abs
variable {k : Nat}
structure Pt where
  i : Nat
  a : Nat
  n : Nat
  w : Bool
def ptV (p : Pt) : List AV := [.int .i64 p.i, .int .i64 p.a, .int .i64 p.n, .bool p.w]
def ptsV (l : List Pt) : List AV := l.flatMap ptV
def ptOf (bs : List UInt8) (b i : Nat) : Pt := ⟨i, dw bs b i 0, dw bs b i 1, wr bs b i⟩
theorem parts_pts (bs : List UInt8) (b : Nat) (js : List Nat) : partsV bs b js = ptsV (js.map (ptOf bs b)) := by
  simp only [partsV, ptsV, List.flatMap_map]; rfl
theorem ptV_length (p : Pt) : (ptV p).length = 4 := rfl
theorem pts_length : ∀ (l : List Pt), (ptsV l).length = l.length * 4
  | [] => rfl
  | p :: l => by
    have := pts_length l
    simp only [ptsV, List.flatMap_cons, List.length_append, ptV_length, List.length_cons] at this ⊢
    omega
theorem pts_div (l : List Pt) : (ptsV l).length / 4 = l.length := by rw [pts_length]; omega
theorem pts_get {t : Nat} {p : Pt} (ht : t < 4) : ∀ {l : List Pt} {j : Nat}, l[j]? = some p → (ptsV l)[j * 4 + t]? = (ptV p)[t]?
  | [], j, h => by simp at h
  | x :: l, 0, h => by
    simp only [List.getElem?_cons_zero, Option.some.injEq] at h
    subst h
    simp only [ptsV, List.flatMap_cons]
    rw [List.getElem?_append_left (by rw [ptV_length]; omega)]
    congr 1; omega
  | x :: l, j + 1, h => by
    have ih := pts_get (p := p) ht (l := l) (j := j) (by simpa using h)
    simp only [ptsV, List.flatMap_cons] at ih ⊢
    rw [List.getElem?_append_right (by rw [ptV_length]; omega), ptV_length, ← ih]
    congr 1; omega
theorem rd_pt {p : Pt} {j : Nat} {l : List Pt} (h : l[j]? = some p) : rd (ptsV l) (j * 4) 4 true = some (.agg (ptV p)) := by
  have hlt : j < l.length := (List.getElem?_eq_some_iff.1 h).1
  have hl := pts_length l
  simp only [rd, if_true]
  rw [if_pos (by omega)]
  congr 2
  apply List.ext_getElem?
  intro t
  by_cases ht : t < 4
  · rw [List.getElem?_take_of_lt ht, List.getElem?_drop, pts_get ht h]
  · rw [List.getElem?_eq_none (by rw [List.length_take]; omega), List.getElem?_eq_none (by rw [ptV_length]; omega)]
theorem rd_pt1 {p : Pt} {j : Nat} {l : List Pt} (h : l[j]? = some p) : rd (ptsV l) (j * 4 + 1) 1 false = some (.int .i64 p.a) := by
  simp only [rd, Bool.false_eq_true, if_false, pts_get (t := 1) (by omega) h]; rfl
theorem rd_pt2 {p : Pt} {j : Nat} {l : List Pt} (h : l[j]? = some p) : rd (ptsV l) (j * 4 + 2) 1 false = some (.int .i64 p.n) := by
  simp only [rd, Bool.false_eq_true, if_false, pts_get (t := 2) (by omega) h]; rfl
theorem rd_pt3 {p : Pt} {j : Nat} {l : List Pt} (h : l[j]? = some p) : rd (ptsV l) (j * 4 + 3) 1 false = some (.bool p.w) := by
  simp only [rd, Bool.false_eq_true, if_false, pts_get (t := 3) (by omega) h]; rfl
theorem pts_flat : ∀ (l : List Pt), flatL (ptsV l) = true
  | [] => rfl
  | p :: l => by
    have ih := pts_flat l
    simp only [ptsV, List.flatMap_cons, ptV, List.cons_append, List.nil_append, flatL, AV.flat, Bool.true_and] at ih ⊢
    exact ih
theorem any_take {α : Type} {l : List α} {f : α → Bool} {i : Nat} {p : α} (h : l[i]? = some p) : (l.take (i + 1)).any f = ((l.take i).any f || f p) := by
  rw [List.take_add_one, h]; simp
def cov (t : Nat) (p : Pt) : Bool := decide (p.a ≤ t) && decide (t < p.a + p.n)
end Go.Proofs.Ytaeoaakblilfeaa

/- Bytes are written, and scattered over parts, by the program. Condition: the memory is valid, the places are there. -/
namespace Go.Proofs.Ytaeoaakblilfeaa
open Go.Abs
variable {k : Nat}
set_option maxRecDepth 100000 in
theorem s87 {bs ys : List UInt8} {a : Nat} (h : VM bs) (hb : a + ys.length ≤ bs.length) : Calls0 (evCall FN (k + 10010)) 87 [memV bs, .int .i64 a, .str ys] (.tup [memV (putB bs a ys), .bool true]) := by
  have hl := h.le
  have c53 : Calls0 (evCall FN (k + 10009)) 53 [memV bs] (.int .i64 bs.length) := (s53 (k := 0) h).fuel (by omega)
  have c96 : evP (evCall FN (k + 10009)) 96 [csl 128 (bs.map ofB)] = some (.sl 2 128 (bs.map ofB)) := s96 h
  refine q_call0 fn87 fun T H E lv => ?_
  repeat (first | refine stN ?_ | intro E)
  apply p_call2
  · exact rfl
  · exact rfl
  · exact c96
  · exact rfl
  · exact rfl
  · exact rfl
  · exact scal_ofB _
  · omega
  intro E
  rw [show mapLeaf (adoptCell 2 (0 + 1 + 1) 4) (AV.sl 2 128 (bs.map ofB)) = .osl 2 0 ((bs.map ofB).length / 128) 128 from rfl]
  have hLn : bs.length = 128 * ((bs.map ofB).length / 128) := by rw [List.length_map]; omega
  obtain ⟨L, hL⟩ : ∃ L, L = (bs.map ofB).length / 128 := ⟨_, rfl⟩
  rw [← hL] at hLn ⊢
  repeat (first | refine stN ?_ | intro E)
  apply p_s2b
  · exact rfl
  · simp only [room]; omega
  intro lv' l1 l2
  repeat (first | refine stN ?_ | intro E)
  apply p_writes (os' := [(3, [.osl 2 0 L 128]), (2, (putB bs a ys).map ofB), (1, [.sl 0 0 []]), (0, [csl 128 (bs.map ofB)])])
  · exact rfl
  · exact fun H E => s97_4 (k := k + 9) hb hLn (by omega) (.inr (.inr ⟨rfl, rfl⟩)) rfl
  · exact ⟨.inr ⟨rfl, rfl, rfl, rfl⟩, .inl ⟨rfl, rfl⟩, .inr ⟨rfl, rfl, rfl, rfl⟩, .inr ⟨rfl, rfl, rfl, rfl⟩, trivial⟩
  intro H
  repeat (first | refine stN ?_ | intro E)
  have hn : (putB bs a ys).length = 128 * L := by rw [putB_length hb, hLn]
  have hf := fun os H ho => fin_osl (os := os) (H := H) (id := 2) ho hn
  refine q_ret (.inr rfl) rfl rfl ?_ ?_ ?_ rfl
  · show (finOk _ 0 (.osl 2 0 L 128) && (finOk _ 0 (.bool true) && true)) = true
    rw [(hf _ _ rfl).1]; rfl
  · show AV.under 0 (.tup [.agg [finCell _ 0 (.osl 2 0 L 128)], .bool true]) = true
    rw [(hf _ _ rfl).2]; rfl
  · show mapLeaf canonCell (.tup [.agg [finCell _ 0 (.osl 2 0 L 128)], .bool true]) = _
    rw [(hf _ _ rfl).2]; rfl
def scS (ys : List UInt8) (r : List UInt8 × Nat) (p : Pt) : List UInt8 × Nat :=
  if p.w then (putB r.1 p.a ((ys.take (r.2 + min p.n (ys.length - r.2))).drop r.2), r.2 + min p.n (ys.length - r.2)) else r
def scat (bs : List UInt8) (l : List Pt) (ys : List UInt8) : List UInt8 × Nat := l.foldl (scS ys) (bs, 0)
theorem foldl_take {α β : Type} {f : β → α → β} {x : β} {l : List α} {i : Nat} {p : α} (h : l[i]? = some p) : (l.take (i + 1)).foldl f x = f ((l.take i).foldl f x) p := by
  rw [List.take_add_one, h, List.foldl_append]; rfl
def InM (n : Nat) (l : List Pt) : Prop := ∀ p ∈ l, p.w = true → p.a + p.n ≤ n
theorem slice_length (ys : List UInt8) (m z : Nat) (h : m + z ≤ ys.length) : ((ys.take (m + z)).drop m).length = z := by
  rw [List.length_drop, List.length_take]; omega
theorem scS_props {ys : List UInt8} {n : Nat} {r : List UInt8 × Nat} {p : Pt} (h1 : r.1.length = n) (h2 : r.2 ≤ ys.length) (h3 : p.w = true → p.a + p.n ≤ n) : (scS ys r p).1.length = n ∧ (scS ys r p).2 ≤ ys.length := by
  unfold scS
  split
  · next hw =>
    have := h3 hw
    exact ⟨by rw [putB_length (by rw [slice_length _ _ _ (by omega)]; omega)]; exact h1, show _ + _ ≤ _ by omega⟩
  · exact ⟨h1, h2⟩
theorem scat_props {ys : List UInt8} {n : Nat} : ∀ {l : List Pt} {r : List UInt8 × Nat}, InM n l → r.1.length = n → r.2 ≤ ys.length → (l.foldl (scS ys) r).1.length = n ∧ (l.foldl (scS ys) r).2 ≤ ys.length
  | [], _, _, h1, h2 => ⟨h1, h2⟩
  | p :: l, r, h, h1, h2 => by
    obtain ⟨q1, q2⟩ := scS_props (ys := ys) h1 h2 (h p List.mem_cons_self)
    exact scat_props (l := l) (fun q hq => h q (List.mem_cons_of_mem _ hq)) q1 q2
theorem VM.of_len {bs cs : List UInt8} (h : VM bs) (he : cs.length = bs.length) : VM cs := by
  obtain ⟨p, h1, h2, h3⟩ := h; exact ⟨p, h1, h2, by omega⟩
set_option maxRecDepth 100000 in
set_option maxHeartbeats 1000000 in
theorem s66 {bs ys : List UInt8} {l : List Pt} (h : VM bs) (hy : ys.length ≤ 3000) (hin : InM bs.length l) (hn : l.length ≤ 100) (hs : ∀ p ∈ l, p.n < 4294967296) : Calls0 (evCall FN (k + 10200)) 66 [memV bs, csl 4 (ptsV l), .str ys] (.tup [memV (scat bs l ys).1, .int .i64 (scat bs l ys).2]) := by
  have hl := h.le
  have hfl := pts_flat l
  refine q_call0 fn66 fun T H E lv => ?_
  repeat (first | refine stN ?_ | intro E)
  rw [pts_div]
  refine q_loop (α := Nat) (LInv.mk (fun i => i ≤ l.length) (fun i => l.length - i)
    (fun i => [(14, .int .i64 (i : Int)), (13, .int .i64 (l.length : Int)), (12, csl 4 (ptsV l)), (8, .int .i64 (((l.take i).foldl (scS ys) (bs, 0)).2 : Int)), (6, .ref 1 0), (3, .ref 0 0), (2, .str ys)])
    (fun i => [(1, [.sl 0 0 []]), (0, [csl 128 (((l.take i).foldl (scS ys) (bs, 0)).1.map ofB)])]))
    (fun _ _ c => c = 4) 0 (Nat.zero_le _) rfl (show l.length - 0 < k + 10199 by omega) ⟨rfl, rfl, rfl, rfl, rfl, rfl, rfl, trivial⟩ ⟨rfl, rfl, trivial⟩ ?_
  rintro i lv c T H E hP rfl hμ
  have hP : i ≤ l.length := hP
  clear hμ
  dsimp only
  rcases Nat.lt_or_ge i l.length with hi | hi
  · obtain ⟨p, hp⟩ : ∃ p, l[i]? = some p := ⟨_, List.getElem?_eq_getElem hi⟩
    have hpm := List.mem_of_getElem? hp
    have hpb := hin p hpm
    have hps := hs p hpm
    have hr := rd_pt hp
    have gi : inB (i : Int) ((ptsV l).length / 4) = some i := inB_n (by rw [pts_div]; omega)
    have hft := foldl_take (f := scS ys) (x := (bs, 0)) hp
    obtain ⟨q1, q2⟩ := scat_props (ys := ys) (n := bs.length) (l := l.take i) (r := (bs, 0)) (fun q hq => hin q (List.mem_of_mem_take hq)) rfl (Nat.zero_le _)
    obtain ⟨r, hr0⟩ : ∃ r, r = (l.take i).foldl (scS ys) (bs, 0) := ⟨_, rfl⟩
    rw [← hr0] at hft q1 q2 ⊢
    obtain ⟨B, m⟩ := r
    obtain ⟨pi, pa, pn, pw⟩ := p
    dsimp only at q1 q2 hpb hps
    cases pw
    · have e : scS ys (B, m) ⟨pi, pa, pn, false⟩ = (B, m) := rfl
      rw [e] at hft
      repeat (first | refine stN ?_ | intro E)
      exact n_again (i + 1) (show i + 1 ≤ l.length by omega) rfl (show l.length - (i + 1) < l.length - i by omega) ⟨rfl, rfl, rfl, by rw [hft]; rfl, rfl, rfl, rfl, trivial⟩ ⟨⟨rfl, rfl⟩, ⟨by rw [hft]; rfl, rfl⟩, trivial⟩
    · have hpb := hpb rfl
      obtain ⟨z, hz⟩ : ∃ z, z = min pn (ys.length - m) := ⟨_, rfl⟩
      have e : scS ys (B, m) ⟨pi, pa, pn, true⟩ = (putB B pa ((ys.take (m + z)).drop m), m + z) := by rw [hz]; rfl
      rw [e] at hft
      have hzl := slice_length ys m z (by omega)
      have c87 : Calls0 (evCall FN (k + 10199)) 87 [memV B, .int .i64 pa, .str ((ys.take (m + z)).drop m)] (.tup [memV (putB B pa ((ys.take (m + z)).drop m)), .bool true]) := (s87 (k := 0) (h.of_len q1) (by omega)).fuel (by omega)
      repeat (first | refine stN ?_ | intro E)
      rw [← hz]
      repeat (first | refine stN ?_ | intro E)
      exact n_again (i + 1) (show i + 1 ≤ l.length by omega) rfl (show l.length - (i + 1) < l.length - i by omega) ⟨rfl, rfl, rfl, by rw [hft]; rfl, rfl, rfl, rfl, trivial⟩ ⟨⟨rfl, rfl⟩, ⟨by rw [hft]; rfl, rfl⟩, trivial⟩
  · rw [List.take_of_length_le hi]
    repeat (first | refine stN ?_ | intro E)
    apply n_exit
    apply b_exit
    repeat (first | refine stN ?_ | intro E)
    exact q_ret (.inr rfl) rfl rfl rfl rfl rfl rfl
end Go.Proofs.Ytaeoaakblilfeaa

/- Bytes are written, and scattered over parts, by the reference; the room of parts. Condition: the memory is valid, the places are there. -/
namespace Go.Proofs.Ytaeoaakblilfeaa
open Go.Abs
variable {k : Nat}
set_option maxRecDepth 100000 in
theorem s26 {bs ys : List UInt8} {a : Nat} (h : VM bs) (hb : a + ys.length ≤ bs.length) : Calls0 (evCall FN (k + 9000)) 26 [memV bs, .int .i64 a, .str ys] (.agg [csl 128 ((putB bs a ys).map ofB), .bool true]) := by
  have hl := h.le
  have c50 : Calls0 (evCall FN (k + 8999)) 50 [memV bs] (.int .i64 bs.length) := (s50 (k := 0) h).fuel (by omega)
  have c52 : evP (evCall FN (k + 8999)) 52 [memV bs] = some (.agg [.sl 2 128 (bs.map ofB)]) := s52 h
  refine q_call0 fn26 fun T H E lv => ?_
  repeat (first | refine stN ?_ | intro E)
  apply p_call2
  · exact rfl
  · exact rfl
  · exact c52
  · exact rfl
  · exact rfl
  · exact rfl
  · exact scal_ofB _
  · omega
  intro E
  rw [show mapLeaf (adoptCell 2 (0 + 1 + 1) 4) (AV.agg [AV.sl 2 128 (bs.map ofB)]) = .agg [.osl 2 0 ((bs.map ofB).length / 128) 128] from rfl]
  repeat (first | refine stN ?_ | intro E)
  have hLn : bs.length = 128 * ((bs.map ofB).length / 128) := by rw [List.length_map]; omega
  obtain ⟨L, hL⟩ : ∃ L, L = (bs.map ofB).length / 128 := ⟨_, rfl⟩
  rw [← hL] at hLn ⊢
  refine q_loop (α := Nat) (LInv.mk (fun i => i ≤ ys.length) (fun i => ys.length - i)
    (fun i => [(8, .int .i64 (i : Int)), (7, .ref 3 0), (6, .ref 1 0), (3, .ref 0 0), (2, .str ys), (1, .int .i64 (a : Int))])
    (fun i => [(3, [.osl 2 0 L 128]), (2, (putB bs a (ys.take i)).map ofB), (1, [.sl 0 0 [], .bool false]), (0, [csl 128 (bs.map ofB)])]))
    (fun _ _ c => c = 4) 0 (Nat.zero_le _) rfl (show ys.length - 0 < k + 8999 by omega) ⟨rfl, rfl, rfl, rfl, rfl, rfl, trivial⟩ ⟨rfl, by rw [List.take_zero, putB_nil]; rfl, rfl, rfl, trivial⟩ ?_
  rintro i lv c T H E hP rfl hμ
  have hP : i ≤ ys.length := hP
  clear hμ
  dsimp only
  rcases Nat.lt_or_ge i ys.length with hi | hi
  · obtain ⟨u, hu⟩ : ∃ u, ys[i]? = some u := ⟨_, List.getElem?_eq_getElem hi⟩
    have hst : putS ((putB bs a (ys.take i)).map ofB) (0 + (a + i) / 128 * 128 + (a + i) % 128 * 1) 1 (ofB u) = some ((putB bs a (ys.take (i + 1))).map ofB) := by
      rw [show 0 + (a + i) / 128 * 128 + (a + i) % 128 * 1 = a + i by omega, ← putB_succ (by omega) hu]
      exact setS_map (by rw [putB_length (by rw [List.length_take]; omega)]; omega)
    repeat (first | refine stN ?_ | intro E)
    exact n_again (i + 1) (show i + 1 ≤ ys.length by omega) rfl (show ys.length - (i + 1) < ys.length - i by omega) ⟨rfl, rfl, rfl, rfl, rfl, rfl, trivial⟩ ⟨⟨rfl, rfl⟩, ⟨rfl, under_ofB _ _⟩, ⟨rfl, rfl⟩, ⟨rfl, rfl⟩, trivial⟩
  · rw [List.take_of_length_le hi]
    repeat (first | refine stN ?_ | intro E)
    apply n_exit
    apply b_exit
    repeat (first | refine stN ?_ | intro E)
    have hn : (putB bs a ys).length = 128 * L := by rw [putB_length hb, hLn]
    have hf := fun os H ho => fin_osl (os := os) (H := H) (id := 2) ho hn
    refine q_ret (.inr rfl) rfl rfl ?_ ?_ ?_ rfl
    · show (finOk _ 0 (.osl 2 0 L 128) && (finOk _ 0 (.bool true) && true)) = true
      rw [(hf _ _ rfl).1]; rfl
    · show AV.under 0 (.agg [finCell _ 0 (.osl 2 0 L 128), .bool true]) = true
      rw [(hf _ _ rfl).2]; rfl
    · show mapLeaf canonCell (.agg [finCell _ 0 (.osl 2 0 L 128), .bool true]) = _
      rw [(hf _ _ rfl).2]; rfl
set_option maxRecDepth 100000 in
set_option maxHeartbeats 1000000 in
theorem s44 {bs ys : List UInt8} {l : List Pt} (h : VM bs) (hy : ys.length ≤ 3000) (hin : InM bs.length l) (hn : l.length ≤ 100) (hs : ∀ p ∈ l, p.n < 4294967296) : Calls0 (evCall FN (k + 10200)) 44 [memV bs, csl 4 (ptsV l), .str ys] (.agg [csl 128 ((scat bs l ys).1.map ofB), .int .i64 (scat bs l ys).2]) := by
  have hl := h.le
  have hfl := pts_flat l
  have hdv := pts_div l
  refine q_call0 fn44 fun T H E lv => ?_
  repeat (first | refine stN ?_ | intro E)
  refine q_loop (α := Nat) (LInv.mk (fun i => i ≤ l.length) (fun i => l.length - i)
    (fun i => [(8, .int .i64 (i : Int)), (7, .int .i64 (((l.take i).foldl (scS ys) (bs, 0)).2 : Int)), (6, .ref 1 0), (3, .ref 0 0), (2, .str ys), (1, csl 4 (ptsV l))])
    (fun i => [(1, [.sl 0 0 [], .int .i64 0]), (0, [csl 128 (((l.take i).foldl (scS ys) (bs, 0)).1.map ofB)])]))
    (fun _ _ c => c = 4) 0 (Nat.zero_le _) rfl (show l.length - 0 < k + 10199 by omega) ⟨rfl, rfl, rfl, rfl, rfl, rfl, trivial⟩ ⟨rfl, rfl, trivial⟩ ?_
  rintro i lv c T H E hP rfl hμ
  have hP : i ≤ l.length := hP
  clear hμ
  dsimp only
  rcases Nat.lt_or_ge i l.length with hi | hi
  · obtain ⟨p, hp⟩ : ∃ p, l[i]? = some p := ⟨_, List.getElem?_eq_getElem hi⟩
    have hpm := List.mem_of_getElem? hp
    have hpb := hin p hpm
    have hps := hs p hpm
    have r1 := rd_pt1 hp
    have r2 := rd_pt2 hp
    have r3 := rd_pt3 hp
    have gi : inB (i : Int) ((ptsV l).length / 4) = some i := inB_n (by rw [pts_div]; omega)
    have hft := foldl_take (f := scS ys) (x := (bs, 0)) hp
    obtain ⟨q1, q2⟩ := scat_props (ys := ys) (n := bs.length) (l := l.take i) (r := (bs, 0)) (fun q hq => hin q (List.mem_of_mem_take hq)) rfl (Nat.zero_le _)
    obtain ⟨r, hr0⟩ : ∃ r, r = (l.take i).foldl (scS ys) (bs, 0) := ⟨_, rfl⟩
    rw [← hr0] at hft q1 q2 ⊢
    obtain ⟨B, m⟩ := r
    obtain ⟨pi, pa, pn, pw⟩ := p
    dsimp only at q1 q2 hpb hps r1 r2 r3
    cases pw
    · have e : scS ys (B, m) ⟨pi, pa, pn, false⟩ = (B, m) := rfl
      rw [e] at hft
      repeat (first | refine stN ?_ | intro E)
      exact n_again (i + 1) (show i + 1 ≤ l.length by omega) rfl (show l.length - (i + 1) < l.length - i by omega) ⟨rfl, by rw [hft]; rfl, rfl, rfl, rfl, rfl, trivial⟩ ⟨⟨rfl, rfl⟩, ⟨by rw [hft]; rfl, rfl⟩, trivial⟩
    · have hpb := hpb rfl
      obtain ⟨z, hz⟩ : ∃ z, z = min pn (ys.length - m) := ⟨_, rfl⟩
      have e : scS ys (B, m) ⟨pi, pa, pn, true⟩ = (putB B pa ((ys.take (m + z)).drop m), m + z) := by rw [hz]; rfl
      rw [e] at hft
      have hzl := slice_length ys m z (by omega)
      have c26 : Calls0 (evCall FN (k + 10199)) 26 [memV B, .int .i64 pa, .str ((ys.take (m + z)).drop m)] (.agg [csl 128 ((putB B pa ((ys.take (m + z)).drop m)).map ofB), .bool true]) := (s26 (k := 0) (h.of_len q1) (by omega)).fuel (by omega)
      repeat (first | refine stN ?_ | intro E)
      rw [← hz]
      repeat (first | refine stN ?_ | intro E)
      exact n_again (i + 1) (show i + 1 ≤ l.length by omega) rfl (show l.length - (i + 1) < l.length - i by omega) ⟨rfl, by rw [hft]; rfl, rfl, rfl, rfl, rfl, trivial⟩ ⟨⟨rfl, rfl⟩, ⟨by rw [hft]; rfl, rfl⟩, trivial⟩
  · rw [List.take_of_length_le hi]
    repeat (first | refine stN ?_ | intro E)
    apply n_exit
    apply b_exit
    repeat (first | refine stN ?_ | intro E)
    exact q_ret (.inr rfl) rfl rfl rfl rfl rfl rfl
def rmS (n : Nat) (p : Pt) : Nat := if p.w then n + p.n else n
def rm (l : List Pt) : Nat := l.foldl rmS 0
end Go.Proofs.Ytaeoaakblilfeaa

/- What marks and scattered bytes change, and what is known of a request that is taken. No condition but that the places are there. -/
namespace Go.Proofs.Ytaeoaakblilfeaa
open Go.Abs
theorem bt_eq {bs cs : List UInt8} {i j : Nat} (h : bs[i]? = cs[j]?) : bt bs i = bt cs j := by
  simp only [bt, List.getD_eq_getElem?_getD, h]
theorem bt_putB_ne {bs ys : List UInt8} {a t : Nat} (h : a + ys.length ≤ bs.length) (ht : t < a ∨ a + ys.length ≤ t) : bt (putB bs a ys) t = bt bs t := by
  apply bt_eq
  rw [putB_get h]
  by_cases h1 : t < a
  · rw [if_pos h1]
  · rw [if_neg h1, if_neg (by omega)]
theorem bt_putB_eq {bs ys : List UInt8} {a t : Nat} (h : a + ys.length ≤ bs.length) (h1 : a ≤ t) (h2 : t < a + ys.length) : bt (putB bs a ys) t = bt ys (t - a) := by
  apply bt_eq
  rw [putB_get h, if_neg (by omega), if_pos h2]
theorem bt_mark1_ne {b w i t : Nat} {bs : List UInt8} (h : b + 16 * i + 16 ≤ bs.length) (ht : t < b + 16 * i + 12 ∨ b + 16 * i + 16 ≤ t) : bt (mark1 b w bs i) t = bt bs t :=
  bt_putB_ne (by rw [le4_length]; omega) (by rw [le4_length]; omega)
theorem bt_markB_ne {b w t : Nat} : ∀ {js : List Nat} {bs : List UInt8}, (∀ j ∈ js, b + 16 * j + 16 ≤ bs.length) → (∀ j ∈ js, t < b + 16 * j + 12 ∨ b + 16 * j + 16 ≤ t) → bt (markB bs b w js) t = bt bs t
  | [], _, _, _ => rfl
  | j :: js, bs, h1, h2 => by
    have e := h1 j List.mem_cons_self
    refine (bt_markB_ne (js := js) (bs := mark1 b w bs j) (fun i hi => ?_) fun i hi => h2 i (List.mem_cons_of_mem _ hi)).trans (bt_mark1_ne e (h2 j List.mem_cons_self))
    rw [mark1_length e]; exact h1 i (List.mem_cons_of_mem _ hi)
def st (b j : Nat) : Pt := ⟨0, b + 16 * j + 12, 4, false⟩
theorem scat_cov {ys : List UInt8} {t n : Nat} : ∀ {l : List Pt} {r : List UInt8 × Nat}, InM n l → r.1.length = n → r.2 ≤ ys.length → bt r.1 t ≠ bt (l.foldl (scS ys) r).1 t → (l.filter (·.w)).any (cov t) = true
  | [], _, _, _, _, h => absurd rfl h
  | p :: l, r, hin, h1, h2, h => by
    have hp := hin p List.mem_cons_self
    obtain ⟨q1, q2⟩ := scS_props (ys := ys) h1 h2 hp
    by_cases he : bt r.1 t = bt (scS ys r p).1 t
    · have ih := scat_cov (l := l) (r := scS ys r p) (fun q hq => hin q (List.mem_cons_of_mem _ hq)) q1 q2 (by rw [← he]; exact h)
      rw [List.any_eq_true] at ih ⊢
      obtain ⟨x, hx, hc⟩ := ih
      rw [List.mem_filter] at hx
      exact ⟨x, List.mem_filter.2 ⟨List.mem_cons_of_mem _ hx.1, hx.2⟩, hc⟩
    · by_cases hw : p.w = true
      · have hp := hp hw
        rw [List.any_eq_true]
        refine ⟨p, List.mem_filter.2 ⟨List.mem_cons_self, hw⟩, ?_⟩
        have hl := slice_length ys r.2 (min p.n (ys.length - r.2)) (by omega)
        simp only [scS, hw, if_true] at he
        simp only [cov, Bool.and_eq_true, decide_eq_true_eq]
        apply Decidable.byContradiction
        intro hn
        apply he
        rw [bt_putB_ne (by omega) (by omega)]
      · exact absurd (by simp only [scS, if_neg hw]) he
theorem word_le4 {bs : List UInt8} {a w : Nat} (h : a + 4 ≤ bs.length) (hw : w < 4294967296) : word (putB bs a (le4 w)) a = w := by
  have e : ∀ i, i < 4 → bt (putB bs a (le4 w)) (a + i) = w / 2 ^ (8 * i) % 256 := by
    intro i hi
    rw [bt_putB_eq (by rw [le4_length]; omega) (by omega) (by rw [le4_length]; omega), show a + i - a = i by omega]
    simp only [bt, List.getD_eq_getElem?_getD, le4_get w i hi, Option.getD_some, UInt8.toNat_ofNat']
    omega
  have e0 := e 0 (by omega); have e1 := e 1 (by omega); have e2 := e 2 (by omega); have e3 := e 3 (by omega)
  unfold word
  rw [Nat.add_zero] at e0
  rw [e0, e1, e2, e3]
  omega
theorem dw_mark1_ne {bs : List UInt8} {b w i j t : Nat} (h : b + 16 * i + 16 ≤ bs.length) (ht : t < 4) (hne : j ≠ i ∨ t ≠ 3) : dw (mark1 b w bs i) b j t = dw bs b j t := by
  unfold dw word
  rw [bt_mark1_ne h (by omega), bt_mark1_ne h (by omega), bt_mark1_ne h (by omega), bt_mark1_ne h (by omega)]
theorem dw_mark1_eq {bs : List UInt8} {b w i : Nat} (h : b + 16 * i + 16 ≤ bs.length) (hw : w < 4294967296) : dw (mark1 b w bs i) b i 3 = w := by
  unfold dw mark1
  rw [show b + 16 * i + 4 * 3 = b + 16 * i + 12 by omega]
  exact word_le4 (by omega) hw
structure WOK (bs : List UInt8) (b s : Nat) (js : List Nat) : Prop where
  len : js.length ≤ 4
  one : ∀ j ∈ js, j < s ∧ dw bs b j 3 = 1 ∧ 1 ≤ dw bs b j 1 ∧ dw bs b j 1 ≤ 512 ∧ dw bs b j 0 + dw bs b j 1 ≤ bs.length
  nd : js.Nodup
  ord : js.Pairwise fun x y => wr bs b x = true → wr bs b y = true
theorem WOK.snoc {bs : List UInt8} {b s i : Nat} {js : List Nat} (h : WOK bs b s js) (hi : i < s) (he : errAt bs b s js i = 0) : WOK bs b s (js ++ [i]) := by
  obtain ⟨e1, e2, e3, e4, e5, e6, _⟩ := errAt_ok he
  refine ⟨by rw [List.length_append, List.length_singleton]; omega, fun j hj => ?_, ?_, ?_⟩
  · rcases List.mem_append.1 hj with hh | hh
    · exact h.one j hh
    · rw [List.mem_singleton] at hh; subst hh; exact ⟨hi, e3, e4, e5, e6⟩
  · rw [List.nodup_append]
    exact ⟨h.nd, by simp, fun x hx y hy => by rw [List.mem_singleton] at hy; subst hy; exact fun hxy => e1 (hxy ▸ hx)⟩
  · rw [List.pairwise_append]
    refine ⟨h.ord, by simp, fun x hx y hy hw => ?_⟩
    rw [List.mem_singleton] at hy; subst hy
    have ha : js.any (wr bs b) = true := List.any_eq_true.2 ⟨x, hx, hw⟩
    unfold errAt errN at he
    rw [ha] at he
    have hb1 : bn true = 1 := rfl
    simp only [wr, decide_eq_true_eq]
    split at he <;> try omega
    split at he <;> try omega
    split at he <;> try omega
    split at he <;> omega
theorem walk_ok {bs : List UInt8} {b s : Nat} : ∀ (f : Nat) (js : List Nat) (i : Nat), WOK bs b s js → i < s → (walk bs b s f js i).2 = 0 → WOK bs b s (walk bs b s f js i).1
  | 0, js, i, h, _, _ => h
  | f + 1, js, i, h, hi, hz => by
    unfold walk at hz ⊢
    split at hz
    · next he => exact absurd hz he
    · next he =>
      have he := Decidable.not_not.1 he
      split at hz
      · next hm =>
        rw [if_neg (by rw [he]; simp), if_pos hm]
        exact walk_ok f _ _ (h.snoc hi he) ((errAt_ok he).2.2.2.2.2.2 hm) hz
      · next hm =>
        rw [if_neg (by rw [he]; simp), if_neg hm]
        exact h.snoc hi he
theorem walk_pre {bs : List UInt8} {b s : Nat} : ∀ (f : Nat) (js : List Nat) (i : Nat), ∃ t, (walk bs b s f js i).1 = js ++ t
  | 0, js, i => ⟨[], by simp [walk]⟩
  | f + 1, js, i => by
    unfold walk
    split
    · exact ⟨[], by simp⟩
    · split
      · obtain ⟨t, ht⟩ := walk_pre (bs := bs) (b := b) (s := s) f (js ++ [i]) (dw bs b i 2 / 256 % 256)
        exact ⟨i :: t, by rw [ht]; simp⟩
      · exact ⟨[i], rfl⟩
theorem wok_nil (bs : List UInt8) (b s : Nat) : WOK bs b s [] := ⟨by simp, by simp, by simp, by simp⟩
theorem take_good {bs : List UInt8} {b s i : Nat} (hi : i < s) (h : takeE bs b s i = 0) : WOK bs b s (takeL bs b s i) ∧ takeM bs b s i = markB bs b 2 (takeL bs b s i) ∧ (takeL bs b s i)[0]? = some i := by
  obtain ⟨W, hW⟩ : ∃ W, W = walk bs b s 5 [] i := ⟨_, rfl⟩
  have h1 := walk_ok 5 [] i (wok_nil bs b s) hi
  have h2 : W.2 = 0 → W.1[0]? = some i := by
    intro hz
    rw [hW] at hz ⊢
    unfold walk at hz ⊢
    split at hz
    · next he => exact absurd hz he
    · next he =>
      rw [if_neg he]
      split at hz
      · next hm =>
        rw [if_pos hm]
        obtain ⟨t, ht⟩ := walk_pre (bs := bs) (b := b) (s := s) 4 ([] ++ [i]) (dw bs b i 2 / 256 % 256)
        rw [ht]; simp
      · next hm => rw [if_neg hm]; simp
  unfold takeE at h
  unfold takeL takeM
  rw [← hW] at h h1 ⊢
  unfold tE at h
  unfold tL tM
  rw [if_pos h, if_pos h]
  exact ⟨h1 h, rfl, h2 h⟩
theorem take_bad {bs : List UInt8} {b s i : Nat} (h : takeE bs b s i ≠ 0) : takeL bs b s i = [] ∧ takeM bs b s i = (if dw bs b i 3 = 1 then mark1 b (4 + (takeE bs b s i - 160)) bs i else bs) ∧ 161 ≤ takeE bs b s i ∧ takeE bs b s i ≤ 165 := by
  have h3 : ∀ (f : Nat) (js : List Nat) (j : Nat), (walk bs b s f js j).2 = 0 ∨ (161 ≤ (walk bs b s f js j).2 ∧ (walk bs b s f js j).2 ≤ 165) := by
    intro f
    induction f with
    | zero => intro js j; exact .inl rfl
    | succ f ih =>
      intro js j
      unfold walk
      split
      · exact errN_range _ _ _ _ _ _ _ _ _
      · split
        · exact ih _ _
        · exact .inl rfl
  have h4 := h3 5 [] i
  obtain ⟨W, hW⟩ : ∃ W, W = walk bs b s 5 [] i := ⟨_, rfl⟩
  unfold takeE at h ⊢
  unfold takeL takeM
  rw [← hW] at h h4 ⊢
  unfold tE at h ⊢
  unfold tL tM
  rw [if_neg h, if_neg h]
  exact ⟨rfl, rfl, by omega, by omega⟩
end Go.Proofs.Ytaeoaakblilfeaa

/- Bytes are read: by the program, whatever table it is looked up in, and by the reference. Condition: the memory is valid, the bytes are there. -/
namespace Go.Proofs.Ytaeoaakblilfeaa
open Go.Abs
variable {k : Nat} {X : FuncId → Option FnDef}
set_option maxRecDepth 100000 in
theorem s53x (x34 : X 53 = some (.code f53)) {bs : List UInt8} (h : VM bs) : Calls0 (evCall X (k + 1)) 53 [memV bs] (.int .i64 bs.length) := by
  have hl := h.le
  refine q_call0 x34 fun T H E lv => ?_
  repeat (first | refine stN ?_ | intro E)
  refine q_ret (.inr rfl) rfl rfl rfl rfl ?_ rfl
  show AV.int _ _ = _
  rw [List.length_map, w64 (by omega) (by omega)]
  congr 1; omega
theorem page_part {bs : List UInt8} {q r m : Nat} (h : r + m ≤ 128) : (((bs.drop (q * 128)).take 128).drop r).take m = (bs.drop (q * 128 + r)).take m := by
  rw [List.drop_take, List.drop_drop, List.take_take]
  congr 1; omega
set_option maxRecDepth 100000 in
set_option maxHeartbeats 1000000 in
theorem s27x (x34 : X 53 = some (.code f53)) (x37 : X 27 = some (.code f27)) {bs : List UInt8} {a n : Nat} (h : VM bs) (hb : a + n ≤ bs.length) : Calls0 (evCall X (k + 9000)) 27 [memV bs, .int .i64 a, .int .i64 n] (.tup [.str ((bs.drop a).take n), .bool true]) := by
  have hl := h.le
  have c53 : Calls0 (evCall X (k + 8999)) 53 [memV bs] (.int .i64 bs.length) := (s53x (k := 0) x34 h).fuel (by omega)
  refine q_call0 x37 fun T H E lv => ?_
  repeat (first | refine stN ?_ | intro E)
  apply p_mks
  · exact rfl
  · exact rfl
  · exact ⟨by decide, by omega, by simp only [Int.toNat_natCast, room]; omega, by decide, rfl, by decide, rfl⟩
  intro lv' l1 l2
  repeat (first | refine stN ?_ | intro E)
  have hA : (bs.map ofB).length = bs.length := List.length_map ..
  refine q_loop (α := Nat × Nat) (LInv.mk (fun p => p.1 ≤ n) (fun p => n - p.1)
    (fun p => [(8, .sl (p.2 + 4) 1 (((bs.drop a).take p.1).map ofB)), (3, .ref 0 0), (2, .int .i64 (n : Int)), (1, .int .i64 (a : Int))])
    (fun p => [(0, [csl 128 (bs.map ofB)])]))
    (fun p lv c => 4 ≤ c ∧ p.2 + 4 < c ∧ lv (p.2 + 4) = true) (0, 0) (Nat.zero_le _) ⟨by omega, by show 0 + 4 < 5; omega, l1⟩ (show n - 0 < k + 8999 by omega) ⟨rfl, rfl, rfl, rfl, trivial⟩ ⟨rfl, trivial⟩ ?_
  rintro ⟨j, br⟩ lv c T H E hP ⟨hc4, hc5, hlv⟩ hμ
  have hP : j ≤ n := hP
  have hc5 : br + 4 < c := hc5
  clear hμ
  dsimp only at hlv ⊢
  have hjl : ((bs.drop a).take j).length = j := by rw [List.length_take, List.length_drop]; omega
  have hjm : (((bs.drop a).take j).map ofB).length / 1 = j := by rw [List.length_map, hjl, Nat.div_one]
  rcases Nat.lt_or_ge j n with hlt | hge
  · have hq : rd (bs.map ofB) ((a + j) / 128 * 128) 128 true = some (.agg (((bs.drop ((a + j) / 128 * 128)).take 128).map ofB)) := by
      simp only [rd, if_true]
      rw [if_pos (by omega), List.map_take, List.map_drop]
    have hp0 : (a + j) % 128 ≠ 128 := by omega
    have hpl : (((bs.drop ((a + j) / 128 * 128)).take 128).map ofB).length = 128 := by rw [List.length_map, List.length_take, List.length_drop]; omega
    repeat (first | refine stN ?_ | intro E)
    rw [hjm]
    repeat (first | refine stN ?_ | intro E)
    apply p_storeA
    · exact rfl
    · exact rfl
    · exact rfl
    · exact hpl
    · exact rfl
    · exact rfl
    repeat (first | refine stN ?_ | intro E)
    rw [hjm]
    obtain ⟨m, hm⟩ : ∃ m, m = min (128 - (a + j) % 128) (n - j) := ⟨_, rfl⟩
    rw [← hm]
    apply p_slL_osl
    · exact rfl
    · exact rfl
    · exact asB_n (show m ≤ _ by omega)
    · omega
    have e1 : ((((bs.drop ((a + j) / 128 * 128)).take 128).map ofB).drop (0 + (a + j) % 128 * 1)).take (m * 1) = ((bs.drop (a + j)).take m).map ofB := by
      rw [← List.map_drop, ← List.map_take, Nat.mul_one, Nat.mul_one, Nat.zero_add, page_part (by omega), show (a + j) / 128 * 128 + (a + j) % 128 = a + j by omega]
    have e2 : ((bs.drop a).take j).map ofB ++ ((bs.drop (a + j)).take m).map ofB = ((bs.drop a).take (j + m)).map ofB := by
      rw [← List.map_append, List.take_add, List.drop_drop]
    have hml : ((bs.drop (a + j)).take m).length = m := by rw [List.length_take, List.length_drop]; omega
    apply p_appO
    · exact rfl
    · exact rfl
    · exact rfl
    · exact e1
    · rw [hpl]; omega
    · exact flat_ofB _
    · intro e; rw [List.map_eq_nil_iff] at e; rw [e] at hml; simp at hml; omega
    · exact .inr ⟨by omega, hc5, hlv, rfl⟩
    · exact ⟨by omega, by omega⟩
    · rw [List.length_map, List.length_map, hjl, hml, room]; omega
    intro lv1 m1 m2
    rw [e2]
    obtain ⟨c', rfl⟩ : ∃ c', c = c' + 4 := ⟨c - 4, by omega⟩
    repeat (first | refine stN ?_ | intro E)
    exact n_again (j + m, c') (show j + m ≤ n by omega) ⟨by omega, by show c' + 4 < _; omega, m1⟩ (show n - (j + m) < n - j by omega) ⟨rfl, rfl, rfl, rfl, trivial⟩ ⟨⟨rfl, rfl⟩, trivial⟩
  · obtain rfl : j = n := by omega
    repeat (first | refine stN ?_ | intro E)
    apply n_exit
    apply b_exit
    repeat (first | refine stN ?_ | intro E)
    apply p_b2s
    · exact rfl
    · exact .inl rfl
    repeat (first | refine stN ?_ | intro E)
    exact q_ret (.inr rfl) rfl rfl rfl rfl rfl rfl
set_option maxRecDepth 100000 in
set_option maxHeartbeats 1000000 in
theorem s89 {bs : List UInt8} {a n : Nat} (h : VM bs) (hb : a + n ≤ bs.length) : Calls0 (evCall FN (k + 9000)) 89 [memV bs, .int .i64 a, .int .i64 n] (.agg [.str ((bs.drop a).take n), .bool true]) := by
  have hl := h.le
  have c50 : Calls0 (evCall FN (k + 8999)) 50 [memV bs] (.int .i64 bs.length) := (s50 (k := 0) h).fuel (by omega)
  refine q_call0 fn89 fun T H E lv => ?_
  repeat (first | refine stN ?_ | intro E)
  refine q_loop (α := Nat × Nat × Nat) (LInv.mk (fun p => p.1 ≤ n) (fun p => n - p.1)
    (fun p => [(8, .int .i64 (p.1 : Int)), (7, .sl p.2.1 p.2.2 (((bs.drop a).take p.1).map ofB)), (6, .ref 1 0), (3, .ref 0 0), (2, .int .i64 (n : Int)), (1, .int .i64 (a : Int))])
    (fun p => [(1, [.str [], .bool false]), (0, [csl 128 (bs.map ofB)])]))
    (fun p lv c => 4 ≤ c ∧ LA 1 lv c p.2.1 p.2.2 (((bs.drop a).take p.1).map ofB)) (0, 0, 0) (Nat.zero_le _) ⟨Nat.le_refl _, LA.nil⟩ (show n - 0 < k + 8999 by omega) ⟨rfl, rfl, rfl, rfl, rfl, rfl, trivial⟩ ⟨rfl, rfl, trivial⟩ ?_
  rintro ⟨j, br, z⟩ lv c T H E hP ⟨hc4, hL⟩ hμ
  have hP : j ≤ n := hP
  clear hμ
  dsimp only at hL ⊢
  have hjl : ((bs.drop a).take j).length = j := by rw [List.length_take, List.length_drop]; omega
  rcases Nat.lt_or_ge j n with hlt | hge
  · have c22 : Calls0 (evCall FN (k + 8999)) 22 [memV bs, .int .i64 ((a + j : Nat) : Int)] (.int .u8 (bt bs (a + j))) := (s22 (k := 0) h (by omega)).fuel (by omega)
    have e2 : ((bs.drop a).take j).map ofB ++ [.int .u8 (bt bs (a + j) : Nat)] = ((bs.drop a).take (j + 1)).map ofB := by
      obtain ⟨u, hu⟩ : ∃ u, bs[a + j]? = some u := ⟨_, List.getElem?_eq_getElem (by omega)⟩
      have hb : bt bs (a + j) = u.toNat := by simp [bt, List.getD_eq_getElem?_getD, hu]
      rw [List.take_add_one, List.getElem?_drop, hu, List.map_append, hb]; rfl
    obtain ⟨c', rfl⟩ : ∃ c', c = c' + 4 := ⟨c - 4, by omega⟩
    repeat (first | refine stN ?_ | intro E)
    apply p_appL
    · exact rfl
    · exact rfl
    · exact rfl
    · exact hL
    · exact ⟨by omega, by omega⟩
    · rw [List.length_map, hjl, room]; show (j + 1) / 1 * 1 ≤ _; omega
    intro lv1 m1 m2
    rw [e2]
    repeat (first | refine stN ?_ | intro E)
    exact n_again (j + 1, c' + 4, 1) (show j + 1 ≤ n by omega) ⟨by omega, LA.mine (by omega) m1⟩ (show n - (j + 1) < n - j by omega) ⟨rfl, rfl, rfl, rfl, rfl, rfl, trivial⟩ ⟨⟨rfl, rfl⟩, ⟨rfl, rfl⟩, trivial⟩
  · obtain rfl : j = n := by omega
    repeat (first | refine stN ?_ | intro E)
    apply n_exit
    apply b_exit
    repeat (first | refine stN ?_ | intro E)
    apply p_b2s
    · exact rfl
    · rcases hL with ⟨_, h2, h3⟩ | ⟨_, _, _, h2⟩
      · exact .inr ⟨h2, by simpa using h3⟩
      · exact .inl h2
    repeat (first | refine stN ?_ | intro E)
    exact q_ret (.inr rfl) rfl rfl rfl rfl rfl rfl
end Go.Proofs.Ytaeoaakblilfeaa

/- What the parts that are read bring: by the program, by the reference. Condition: the memory is valid, the parts that are read lie in it. -/
namespace Go.Proofs.Ytaeoaakblilfeaa
open Go.Abs
variable {k : Nat}
def gpO (p : Pt) : GP := ⟨p.i, p.a, p.n, p.w⟩
def rdP (bs : List UInt8) (p : Pt) : List UInt8 := if p.w then [] else (bs.drop p.a).take p.n
def gath (bs : List UInt8) (l : List Pt) : List UInt8 := l.flatMap (rdP bs)
def InR (n : Nat) (l : List Pt) : Prop := ∀ p ∈ l, p.w = false → p.a + p.n ≤ n
theorem parse_pts : ∀ (l : List Pt), parseP (ptsV l) = some (l.map gpO)
  | [] => rfl
  | p :: l => by
    have ih := parse_pts l
    have e : ptsV (p :: l) = .int .i64 p.i :: .int .i64 p.a :: .int .i64 p.n :: .bool p.w :: ptsV l := rfl
    rw [e]
    unfold parseP
    rw [if_pos ⟨by omega, by omega, by omega⟩, ih]
    simp [gpO]
theorem eval_of2 {F : CallF} {f : FuncId} {vs : List AV} {s : List UInt8} {b : Bool} (h : Calls0 F f vs (.tup [.str s, .bool b])) : ∃ hs', F f vs h0 (fun _ => none) = some (.tup [.str s, .bool b], hs') := by
  have h1 := h.eq
  unfold call0 evP at h1
  split at h1
  · next r hs he =>
    split at h1
    · simp only [Option.map_some, Option.some.injEq] at h1
      refine ⟨hs, ?_⟩
      rw [he, canon_own'] at *
      have : r = .tup [.str s, .bool b] := by
        clear he
        cases r with
        | tup vs =>
          simp only [mapLeaf, AV.tup.injEq] at h1
          rcases vs with _ | ⟨x, _ | ⟨y, _ | ⟨z, t⟩⟩⟩ <;> simp only [List.map_cons, List.map_nil, List.cons.injEq, reduceCtorEq, and_true, and_false] at h1
          obtain ⟨hx, hy⟩ := h1
          have ex : x = .str s := by
            cases x <;> simp only [canonCell, reduceCtorEq] at hx <;> first | exact hx | (split at hx <;> simp [csl] at hx)
          have ey : y = .bool b := by
            cases y <;> simp only [canonCell, reduceCtorEq] at hy <;> first | exact hy | (split at hy <;> simp [csl] at hy)
          rw [ex, ey]
        | sl br sz xs =>
          simp only [mapLeaf, canonCell] at h1
          split at h1 <;> simp [csl] at h1
        | _ => simp [mapLeaf, canonCell] at h1
      rw [this]
    · cases h1
  · cases h1
theorem rd_one {bs : List UInt8} {p : Pt} (h : VM bs) (hw : p.w = false) (hp : p.a + p.n ≤ bs.length) : rdOne (evCall FN0 20000) (csl 128 (bs.map ofB)) (gpO p) = some (rdP bs p) := by
  obtain ⟨hs', e⟩ := eval_of2 (s27x (k := 11000) fz53 fz27 h hp)
  unfold rdOne rdP
  rw [show evCall FN0 20000 27 [.agg [csl 128 (bs.map ofB)], .int .i64 ((gpO p).a : Nat), .int .i64 ((gpO p).n : Nat)] h0 (fun _ => none) = some (.tup [.str ((bs.drop p.a).take p.n), .bool true], hs') from e]
  simp [hw]
theorem prim_str {f : FuncId} {p : Prim} {vs : List AV} {s : List UInt8} {hs : Hs} (hf : FN f = some (.prim p)) (h : p vs h0 (fun _ => none) = some (.str s, hs)) : Calls0 (evCall FN (k + 1)) f vs (.str s) := by
  refine ⟨?_⟩
  unfold call0 evP
  rw [evCall_prim hf, h]
  rfl
theorem flatMap_same {α β : Type} {f g : α → List β} : ∀ {l : List α}, (∀ x ∈ l, f x = g x) → l.flatMap f = l.flatMap g
  | [], _ => rfl
  | x :: l, h => by rw [List.flatMap_cons, List.flatMap_cons, h x List.mem_cons_self, flatMap_same fun y hy => h y (List.mem_cons_of_mem _ hy)]
theorem s80 {bs : List UInt8} {l : List Pt} (h : VM bs) (hin : InR bs.length l) (hn : l.length ≤ 1000) : Calls0 (evCall FN (k + 1)) 80 [memV bs, csl 4 (ptsV l)] (.str (gath bs l)) := by
  have hl := h.le
  have hsz : ∀ p ∈ l, p.w = false → (rdP bs p).length ≤ 1000000 := by
    intro p hp hw
    unfold rdP
    simp only [hw, Bool.false_eq_true, if_false, List.length_take, List.length_drop]
    omega
  have hok : okG (evCall FN0 20000) (csl 128 (bs.map ofB)) (l.map gpO) = true := by
    unfold okG
    rw [List.all_eq_true]
    intro q hq
    obtain ⟨p, hp, rfl⟩ := List.mem_map.1 hq
    cases hw : p.w with
    | true => simp [gpO, hw]
    | false =>
      rw [rd_one h hw (hin p hp hw)]
      have := hsz p hp hw
      simp [this]
  have hg : gathB (rdAll (evCall FN0 20000) (csl 128 (bs.map ofB))) (l.map gpO) = gath bs l := by
    unfold gathB gath
    rw [List.flatMap_map]
    have : ∀ p ∈ l, (if (gpO p).w then [] else rdAll (evCall FN0 20000) (csl 128 (bs.map ofB)) (gpO p)) = rdP bs p := by
      intro p hp
      cases hw : p.w with
      | true => simp [gpO, rdP, hw]
      | false =>
        unfold rdAll
        rw [rd_one h hw (hin p hp hw)]
        simp [gpO, hw]
    exact flatMap_same this
  refine prim_str fn80 (hs := h0) ?_
  show (match parseP (ptsV l) with
    | some l' => if (csl 128 (bs.map ofB)).flat = true ∧ l'.length ≤ 1000 ∧ okG (evCall FN0 20000) (csl 128 (bs.map ofB)) l' = true ∧ csz 4 (ptsV l) = csz 4 (ptsV l) then some (AV.str (gathB (rdAll (evCall FN0 20000) (csl 128 (bs.map ofB))) l'), h0) else none
    | none => none) = _
  rw [parse_pts]
  simp only [hok, hg]
  rw [if_pos ⟨rfl, by rw [List.length_map]; exact hn, trivial, trivial⟩]
theorem add_str {x y : List UInt8} (h : x.length + y.length ≤ 4611686018427387904) : evBin .add (.str x) (.str y) = some (.str (x ++ y)) := by
  simp only [evBin, evStr]
  rw [if_pos (show _ ≤ maxStr by unfold maxStr; omega)]
theorem gath_length {bs : List UInt8} : ∀ {l : List Pt}, (gath bs l).length ≤ l.length * bs.length
  | [] => by simp [gath]
  | p :: l => by
    have ih := gath_length (bs := bs) (l := l)
    have e : (gath bs (p :: l)) = rdP bs p ++ gath bs l := by simp [gath]
    have h1 : (rdP bs p).length ≤ bs.length := by
      unfold rdP
      split
      · simp
      · rw [List.length_take, List.length_drop]; omega
    rw [e, List.length_append, List.length_cons, Nat.succ_mul]
    omega
theorem gath_take {bs : List UInt8} {l : List Pt} {i : Nat} {p : Pt} (h : l[i]? = some p) : gath bs (l.take (i + 1)) = gath bs (l.take i) ++ rdP bs p := by
  unfold gath
  rw [List.take_add_one, h]
  simp
set_option maxRecDepth 100000 in
set_option maxHeartbeats 1000000 in
theorem s69 {bs : List UInt8} {l : List Pt} (h : VM bs) (hin : InR bs.length l) (hn : l.length ≤ 100) : Calls0 (evCall FN (k + 9200)) 69 [memV bs, csl 4 (ptsV l)] (.str (gath bs l)) := by
  have hl := h.le
  have hfl := pts_flat l
  have hdv := pts_div l
  refine q_call0 fn69 fun T H E lv => ?_
  repeat (first | refine stN ?_ | intro E)
  refine q_loop (α := Nat) (LInv.mk (fun i => i ≤ l.length) (fun i => l.length - i)
    (fun i => [(6, .int .i64 (i : Int)), (5, .str (gath bs (l.take i))), (2, .ref 0 0), (1, csl 4 (ptsV l))])
    (fun i => [(0, [csl 128 (bs.map ofB)])]))
    (fun _ _ c => c = 4) 0 (Nat.zero_le _) rfl (show l.length - 0 < k + 9199 by omega) ⟨rfl, rfl, rfl, rfl, trivial⟩ ⟨rfl, trivial⟩ ?_
  rintro i lv c T H E hP rfl hμ
  have hP : i ≤ l.length := hP
  clear hμ
  dsimp only
  rcases Nat.lt_or_ge i l.length with hi | hi
  · obtain ⟨p, hp⟩ : ∃ p, l[i]? = some p := ⟨_, List.getElem?_eq_getElem hi⟩
    have hpb := hin p (List.mem_of_getElem? hp)
    have r1 := rd_pt1 hp
    have r2 := rd_pt2 hp
    have r3 := rd_pt3 hp
    have gi : inB (i : Int) ((ptsV l).length / 4) = some i := inB_n (by rw [pts_div]; omega)
    have hgt := gath_take (bs := bs) hp
    have hgl := gath_length (bs := bs) (l := l.take i)
    obtain ⟨pi, pa, pn, pw⟩ := p
    dsimp only at hpb r1 r2 r3
    cases pw
    · have hpb := hpb rfl
      have c89 : Calls0 (evCall FN (k + 9199)) 89 [memV bs, .int .i64 pa, .int .i64 pn] (.agg [.str ((bs.drop pa).take pn), .bool true]) := (s89 (k := 0) h hpb).fuel (by omega)
      have hmul : (l.take i).length * bs.length ≤ 100 * 8192 := Nat.mul_le_mul (by rw [List.length_take]; omega) hl.1
      have fa : evBin .add (.str (gath bs (l.take i))) (.str ((bs.drop pa).take pn)) = some (.str (gath bs (l.take i) ++ (bs.drop pa).take pn)) := add_str (by rw [List.length_take, List.length_drop]; omega)
      have e : rdP bs ⟨pi, pa, pn, false⟩ = (bs.drop pa).take pn := rfl
      rw [e] at hgt
      repeat (first | refine stN ?_ | intro E)
      exact n_again (i + 1) (show i + 1 ≤ l.length by omega) rfl (show l.length - (i + 1) < l.length - i by omega) ⟨rfl, by rw [hgt]; rfl, rfl, rfl, trivial⟩ ⟨⟨rfl, rfl⟩, trivial⟩
    · have e : rdP bs ⟨pi, pa, pn, true⟩ = [] := rfl
      rw [e, List.append_nil] at hgt
      repeat (first | refine stN ?_ | intro E)
      exact n_again (i + 1) (show i + 1 ≤ l.length by omega) rfl (show l.length - (i + 1) < l.length - i by omega) ⟨rfl, by rw [hgt]; rfl, rfl, rfl, trivial⟩ ⟨⟨rfl, rfl⟩, trivial⟩
  · rw [List.take_of_length_le hi]
    repeat (first | refine stN ?_ | intro E)
    apply n_exit
    apply b_exit
    repeat (first | refine stN ?_ | intro E)
    exact q_ret (.inr rfl) rfl rfl rfl rfl rfl rfl
end Go.Proofs.Ytaeoaakblilfeaa

/- Arithmetic of 64-bit words and of bytes; calls of function values. No condition. -/
namespace Go.Proofs.Ytaeoaakblilfeaa
open Go.Abs
theorem src_csl (H : Hp) (sz : Nat) (xs : List AV) : src H sz (csl sz xs) = some xs := by
  cases xs with
  | nil => exact if_pos (.inr rfl)
  | cons x xs => exact if_pos (.inl rfl)
theorem p_callvS {F : CallF} {l : List IOper} {s : List (Nat × AV)} {os : List (Nat × List AV)} {T : Nat → AV} {H : Hp} {E : Nat → Option TypeId} {n c d : Nat} {lv : Nat → Bool} {Q : St → Prop} {f : FuncId} {x : X} {xs : List X} {fs args : List AV} {R : AV} {H' : Hp} {n' c' : Nat} {lv' : Nat → Bool} (hf : evL s x = some (.fn f fs [])) (ha : evsS s xs = some args) (hc : F f (fs ++ args) ⟨objs os H, n, lv, c⟩ E = some (R, ⟨H', n', lv', c'⟩))
    (k : WpO F l ⟨slots ((d, R) :: s) T, H', E, n', lv', c'⟩ Q) : WpO F (⟨some d, .callv x xs, none⟩ :: l) ⟨slots s T, objs os H, E, n, lv, c⟩ Q := by
  refine o_step (S1 := ⟨putT (slots s T) (some d) R, H', E, n', lv', c'⟩) ?_ k
  simp only [evStep, wants, isCall, evCallOp, evL_ev hf, evL_all (evsS_eq ha), List.append_nil, hc, if_true]
theorem wp_imp {F : CallF} {k : Nat} {c : IC} {S : St} {Q Q' : Ex → St → Prop} (h : Wp F k c S Q) (hq : ∀ e S, Q e S → Q' e S) : Wp F k c S Q' := by
  obtain ⟨e, S', h1, h2⟩ := h.ex
  exact ⟨e, S', h1, hq e S' h2⟩
theorem rets_imp {fn : IFn} {n : Nat} {P P' : AV → Hs → Prop} {e : Ex} {S : St} (h : RetS fn n P e S) (hp : ∀ r hs, P r hs → P' r hs) : RetS fn n P' e S := by
  obtain ⟨h1, r, hs, h2, h3⟩ := h
  exact ⟨h1, r, hs, h2, hp r hs h3⟩
theorem ofInt64 (n : Nat) (h : n < 18446744073709551616) : (BitVec.ofInt 64 (n : Int)).toNat = n := by
  simp only [BitVec.toNat_ofInt]
  omega
theorem ofInt8 (n : Nat) (h : n < 256) : (BitVec.ofInt 8 (n : Int)).toNat = n := by
  simp only [BitVec.toNat_ofInt]
  omega
theorem wu64' (n : Int) : IntKind.u64.wrap n = n % 18446744073709551616 := by
  have e1 : (2 ^ IntKind.u64.bits : Int) = 18446744073709551616 := by decide +kernel
  have hs : IntKind.u64.signed = false := rfl
  unfold IntKind.wrap
  simp only [e1, hs, Bool.false_and, Bool.false_eq_true, if_false]
theorem shl_u64 {b s r : Nat} {kk : IntKind} (hs : s < 64) (hr : b * 2 ^ s % 18446744073709551616 = r) : evBin .shl (.int .u64 b) (.int kk s) = some (.int .u64 r) := by
  subst hr
  have hm : min ((s : Int)).toNat IntKind.u64.bits = s := by
    have : IntKind.u64.bits = 64 := rfl
    rw [this]; simp; omega
  have hneg : ¬ ((s : Int) < 0) := by omega
  simp only [evBin, evShift, true_or, if_true, hneg, if_false, hm]
  have : ((b : Int) * 2 ^ s) = ((b * 2 ^ s : Nat) : Int) := by simp
  rw [this, wu64']
  rfl
theorem xor_u64 {x y r : Nat} (hx : x < 18446744073709551616) (hy : y < 18446744073709551616) (hr : x ^^^ y = r) : evBin .xor (.int .u64 x) (.int .u64 y) = some (.int .u64 r) := by
  have h1 : (BitVec.ofInt IntKind.u64.bits (x : Int) ^^^ BitVec.ofInt IntKind.u64.bits (y : Int)).toNat = x ^^^ y := by
    show (BitVec.ofInt 64 (x : Int) ^^^ BitVec.ofInt 64 (y : Int)).toNat = _
    rw [BitVec.toNat_xor, ofInt64 x hx, ofInt64 y hy]
  have h2 : x ^^^ y < 2 ^ 64 := Nat.xor_lt_two_pow (by omega) (by omega)
  have e2 : (2 : Nat) ^ 64 = 18446744073709551616 := by decide +kernel
  simp only [evBin, reduceCtorEq, or_self, if_false, if_true, evInt, h1]
  rw [wu64 (by omega) (by omega), hr]
theorem or128_u8 {x : Nat} (hx : x < 256) : evBin .or (.int .u8 x) (.int .u8 128) = some (.int .u8 ((x % 128 + 128 : Nat) : Int)) := by
  have h0 : ∀ x : Fin 256, x.val ||| 128 = x.val % 128 + 128 := by decide +kernel
  have h1 : (BitVec.ofInt IntKind.u8.bits (x : Int) ||| BitVec.ofInt IntKind.u8.bits (128 : Int)).toNat = x % 128 + 128 := by
    show (BitVec.ofInt 8 (x : Int) ||| BitVec.ofInt 8 ((128 : Nat) : Int)).toNat = _
    rw [BitVec.toNat_or, ofInt8 x hx, ofInt8 128 (by omega)]
    exact h0 ⟨x, hx⟩
  simp only [evBin, reduceCtorEq, or_self, if_false, if_true, evInt, h1]
  rw [w8n]; congr 3; omega
theorem ones_xor {x : Nat} (hx : x < 18446744073709551616) : x ^^^ 18446744073709551615 = 18446744073709551615 - x := by
  have h := BitVec.toNat_not (x := BitVec.ofNat 64 x)
  have e : (~~~ BitVec.ofNat 64 x) = BitVec.ofNat 64 x ^^^ BitVec.allOnes 64 := BitVec.xor_allOnes.symm
  have e1 : (BitVec.ofNat 64 x).toNat = x := by simp; omega
  have e2 : (BitVec.allOnes 64).toNat = 18446744073709551615 := by decide +kernel
  rw [e, BitVec.toNat_xor, e1, e2] at h
  rw [h]
end Go.Proofs.Ytaeoaakblilfeaa

/- The encoding of an integer, and of a list of them, by the reference. Condition: the integers fit 64 bits. -/
namespace Go.Proofs.Ytaeoaakblilfeaa
open Go.Abs
variable {k : Nat}
def vlF : Nat → Nat → List UInt8
  | 0, _ => []
  | j + 1, z => if z < 128 then [UInt8.ofNat z] else UInt8.ofNat (z % 128 + 128) :: vlF j (z / 128)
def zz (n : Int) : Nat := if n < 0 then (-1 - n).toNat * 2 + 1 else n.toNat * 2
def encI (n : Int) : List UInt8 := vlF 10 (zz n)
def encL (l : List Int) : List UInt8 := encI l.length ++ l.flatMap encI
theorem vlF_len : ∀ (j z : Nat), (vlF j z).length ≤ j
  | 0, _ => Nat.le_refl _
  | j + 1, z => by
    unfold vlF
    split
    · simp
    · have := vlF_len j (z / 128)
      rw [List.length_cons]; omega
theorem encI_len (n : Int) : (encI n).length ≤ 10 := vlF_len _ _
def I64 (n : Int) : Prop := -9223372036854775808 ≤ n ∧ n < 9223372036854775808
set_option maxRecDepth 100000 in
set_option maxHeartbeats 1000000 in
theorem s57 {n : Int} (h : I64 n) : evP (evCall FN (k + 100)) 57 [.int .i64 n] = some (.sl 2 1 ((encI n).map ofB)) := by
  obtain ⟨h0, h1⟩ := h
  refine q_evP fn57 rfl fun T H E lv => ?_
  obtain ⟨m, hm, hz⟩ : ∃ m : Nat, m < 9223372036854775808 ∧ ((n = m ∧ zz n = m * 2) ∨ (n < 0 ∧ -1 - n = m ∧ zz n = m * 2 + 1)) := by
    by_cases hn : n < 0
    · refine ⟨(-1 - n).toNat, by omega, .inr ⟨hn, by omega, ?_⟩⟩
      unfold zz; rw [if_pos hn]
    · refine ⟨n.toNat, by omega, .inl ⟨by omega, ?_⟩⟩
      unfold zz; rw [if_neg hn]
  have cw : IntKind.u64.wrap (m : Int) = ((m : Nat) : Int) := wu64 (by omega) (by omega)
  have em : evBin .mul (.int .u64 (m : Int)) (.int .u64 2) = some (.int .u64 ((m * 2 : Nat) : Int)) := by
    show some (AV.int .u64 (IntKind.u64.wrap ((m : Int) * 2))) = _
    rw [wu64 (by omega) (by omega)]; simp
  have ea : evBin .add (.int .u64 ((m * 2 : Nat) : Int)) (.int .u64 1) = some (.int .u64 ((m * 2 + 1 : Nat) : Int)) := by
    show some (AV.int .u64 (IntKind.u64.wrap (((m * 2 : Nat) : Int) + 1))) = _
    rw [wu64 (by omega) (by omega)]; simp
  have hE : encI n = vlF 10 (zz n) := rfl
  have hzb : zz n < 128 ^ 10 := by
    have : (128 : Nat) ^ 10 = 1180591620717411303424 := by decide +kernel
    omega
  generalize zz n = Z at hz hE hzb
  rw [hE]
  rcases hz with ⟨rfl, rfl⟩ | ⟨hn, e1, rfl⟩
  case' inr => have es : evBin .sub (.int .i64 (-1)) (.int .i64 n) = some (.int .i64 ((m : Nat) : Int)) := sub_w e1 (by omega) (by omega)
  all_goals
    repeat (first | refine stN ?_ | intro E)
    refine q_loop (α := Nat × Nat × List UInt8 × Nat × Nat) (LInv.mk (fun p => 1 ≤ p.1 ∧ p.2.1 < 128 ^ p.1 ∧ p.2.1 < 18446744073709551616 ∧ p.1 + p.2.2.1.length ≤ 10 ∧ p.2.2.1 ++ vlF p.1 p.2.1 = vlF 10 _) (fun p => p.1)
      (fun p => [(4, .sl p.2.2.2.1 p.2.2.2.2 (p.2.2.1.map ofB)), (3, .int .u64 (p.2.1 : Int))]) (fun p => []))
      (fun p lv c => 4 ≤ c ∧ LA 1 lv c p.2.2.2.1 p.2.2.2.2 (p.2.2.1.map ofB)) (10, _, [], 0, 0) ⟨by omega, hzb, by dsimp only; omega, by simp, rfl⟩ ⟨Nat.le_refl _, LA.nil⟩ (show 10 < k + 99 by omega) ⟨rfl, rfl, trivial⟩ trivial ?_
    rintro ⟨j, z, pre, br, s0⟩ lv c T H E ⟨hj, hz1, hz2, hjl, hp⟩ ⟨hc4, hL⟩ hμ
    dsimp only at hj hz1 hz2 hp hL hjl ⊢
    obtain ⟨j, rfl⟩ : ∃ i, j = i + 1 := ⟨j - 1, by omega⟩
    rcases Nat.lt_or_ge z 128 with hlt | hge
    · rw [vlF, if_pos hlt] at hp
      have cz : IntKind.u8.wrap (z : Int) = ((z : Nat) : Int) := by rw [w8]; omega
      repeat (first | refine stN ?_ | intro E)
      apply n_exit
      apply b_exit
      repeat (first | refine stN ?_ | intro E)
      apply p_appL
      · exact rfl
      · exact rfl
      · exact rfl
      · exact hL
      · exact ⟨by omega, by omega⟩
      · rw [List.length_map, room_val]; simp only [List.length_cons, List.length_nil]; omega
      intro lv' m1 m2
      rw [← hp, List.map_append, List.map_cons, List.map_nil, ofB_le z (by omega)]
      repeat (first | refine stN ?_ | intro E)
      refine q_rets (.inr rfl) rfl rfl rfl rfl rfl ?_
      show ownCell true lv' (.sl c 1 _) = _
      have : ¬ c ≤ 1 := by omega
      simp [ownCell, m1, this, hc4]
    · rw [vlF, if_neg (by omega)] at hp
      have ed : evBin .rem (.int .u64 (z : Int)) (.int .u64 128) = some (.int .u64 ((z % 128 : Nat) : Int)) := rfl
      have eq : evBin .quo (.int .u64 (z : Int)) (.int .u64 128) = some (.int .u64 ((z / 128 : Nat) : Int)) := by
        show some (AV.int .u64 (IntKind.u64.wrap (Int.tdiv (z : Int) 128))) = _
        rw [show Int.tdiv (z : Int) 128 = ((z / 128 : Nat) : Int) from rfl, wu64 (by omega) (by omega)]
      have cz : IntKind.u8.wrap ((z % 128 : Nat) : Int) = ((z % 128 : Nat) : Int) := by rw [w8]; omega
      have e8 : evBin .add (.int .u8 ((z % 128 : Nat) : Int)) (.int .u8 128) = some (.int .u8 ((z % 128 + 128 : Nat) : Int)) := by
        show some (AV.int .u8 (IntKind.u8.wrap (((z % 128 : Nat) : Int) + 128))) = _
        rw [w8]; congr 2; omega
      obtain ⟨c', rfl⟩ : ∃ c', c = c' + 4 := ⟨c - 4, by omega⟩
      repeat (first | refine stN ?_ | intro E)
      apply p_appL
      · exact rfl
      · exact rfl
      · exact rfl
      · exact hL
      · exact ⟨by omega, by omega⟩
      · rw [List.length_map, room_val]; simp only [List.length_cons, List.length_nil]; omega
      intro lv' m1 m2
      have ex : pre.map ofB ++ [AV.int .u8 ((z % 128 + 128 : Nat) : Int)] = (pre ++ [UInt8.ofNat (z % 128 + 128)]).map ofB := by
        rw [List.map_append, List.map_cons, List.map_nil, ofB_le _ (by omega)]
      rw [ex]
      repeat (first | refine stN ?_ | intro E)
      have hj2 : 1 ≤ j := by
        rcases Nat.eq_zero_or_pos j with e | e
        · subst e; simp at hz1; omega
        · exact e
      exact n_again (j, z / 128, pre ++ [UInt8.ofNat (z % 128 + 128)], c' + 4, 1) ⟨hj2, show z / 128 < 128 ^ j from Nat.div_lt_of_lt_mul (by rw [Nat.pow_succ] at hz1; omega), by dsimp only; omega, by simp; omega, by rw [List.append_assoc]; exact hp⟩ ⟨by omega, LA.mine (by omega) m1⟩ (show j < j + 1 by omega) ⟨rfl, rfl, trivial⟩ trivial
theorem c57 {n : Int} (h : I64 n) : Calls0 (evCall FN (k + 100)) 57 [.int .i64 n] (csl 1 ((encI n).map ofB)) := evP_call0 (s57 h) rfl
def iV (l : List Int) : List AV := l.map fun n => .int .i64 n
theorem iV_get {l : List Int} {i : Nat} {n : Int} (h : l[i]? = some n) : rd (iV l) (i * 1) 1 false = some (.int .i64 n) := by
  simp only [rd, Bool.false_eq_true, if_false, Nat.mul_one, iV, List.getElem?_map, h, Option.map_some, AV.leaf, if_true]
theorem encT {l : List Int} {i : Nat} {n : Int} (h : l[i]? = some n) : (l.take (i + 1)).flatMap encI = (l.take i).flatMap encI ++ encI n := by
  rw [List.take_add_one, h, List.flatMap_append]; simp
theorem flat_encI (l : List Int) : (l.flatMap encI).length ≤ 10 * l.length := by
  induction l with
  | nil => simp
  | cons n l ih =>
    have := encI_len n
    simp only [List.flatMap_cons, List.length_append, List.length_cons]; omega
set_option maxRecDepth 100000 in
set_option maxHeartbeats 1000000 in
theorem s33 {l : List Int} (hl : l.length ≤ 5000) (h : ∀ n ∈ l, I64 n) : evP (evCall FN (k + 5200)) 33 [csl 1 (iV l)] = some (.sl 2 1 ((encL l).map ofB)) := by
  have hlen : (iV l).length / 1 = l.length := by unfold iV; simp
  have c0 : evP (evCall FN (k + 5199)) 57 [.int .i64 (l.length : Int)] = some (.sl 2 1 ((encI l.length).map ofB)) := s57 (k := k + 5099) ⟨by omega, by omega⟩
  refine q_evP fn33 rfl fun T H E lv => ?_
  repeat (first | refine stN ?_ | intro E)
  rw [hlen]
  apply p_call1
  · exact rfl
  · exact rfl
  · exact c0
  · exact rfl
  · exact rfl
  · exact rfl
  intro lv0 m1 m2
  rw [show mapLeaf (adoptCell 1 0 4) (AV.sl 2 1 ((encI l.length).map ofB)) = .sl 4 1 ((encI l.length).map ofB) from rfl]
  repeat (first | refine stN ?_ | intro E)
  refine q_loop (α := Nat × Nat) (LInv.mk (fun p => p.1 ≤ l.length) (fun p => l.length - p.1)
    (fun p => [(4, .int .i64 (p.1 : Int)), (3, .sl p.2 1 ((encI l.length ++ (l.take p.1).flatMap encI).map ofB)), (0, csl 1 (iV l))]) (fun p => []))
    (fun p lv c => 4 ≤ c ∧ Own4 lv c p.2) (0, 4) (Nat.zero_le _) ⟨by omega, by omega, by omega, m1⟩ (show l.length - 0 < k + 5199 by omega) ⟨rfl, by simp; rfl, rfl, trivial⟩ trivial ?_
  rintro ⟨i, br⟩ lv c T H E hP ⟨hc4, hL⟩ hμ
  have hP : i ≤ l.length := hP
  clear hμ
  dsimp only at hL ⊢
  rcases Nat.lt_or_ge i l.length with hi | hi
  · obtain ⟨n, hn⟩ : ∃ n, l[i]? = some n := ⟨_, List.getElem?_eq_getElem hi⟩
    have hr := iV_get hn
    have c1 : Calls0 (evCall FN (k + 5199)) 57 [.int .i64 n] (csl 1 ((encI n).map ofB)) := c57 (k := k + 5099) (h n (List.mem_of_getElem? hn))
    have hb := flat_encI (l.take i)
    have hb2 := encI_len n
    have hb3 := encI_len l.length
    rw [List.length_take] at hb
    obtain ⟨c', rfl⟩ : ∃ c', c = c' + 4 := ⟨c - 4, by omega⟩
    repeat (first | refine stN ?_ | intro E)
    apply p_appZ
    · exact rfl
    · exact rfl
    · exact fun H => src_csl _ _ _
    · exact ⟨by omega, by omega⟩
    · rw [List.length_map, List.length_map, List.length_append, room_val]; omega
    · exact hL
    · omega
    intro lv1 g2 g3
    rw [← List.map_append, List.append_assoc, ← encT hn]
    repeat (first | refine stN ?_ | intro E)
    exact n_again (i + 1, c' + 4) (show i + 1 ≤ l.length by omega) ⟨by omega, g2⟩ (show l.length - (i + 1) < l.length - i by omega) ⟨rfl, rfl, rfl, trivial⟩ trivial
  · rw [List.take_of_length_le hi]
    repeat (first | refine stN ?_ | intro E)
    apply n_exit
    apply b_exit
    repeat (first | refine stN ?_ | intro E)
    exact q_rets (.inr rfl) rfl rfl rfl rfl rfl hL.own
end Go.Proofs.Ytaeoaakblilfeaa
