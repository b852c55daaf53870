/- Part 11 of the texts on which proofs about this seat rest: each says what it proves at its own head. No condition. -/
import Derived.Test.YthplidagfcdibaaM10
set_option linter.unusedVariables false
set_option linter.unusedSimpArgs false
/- Whether a request is right, by the reference. Condition: the memory is valid; the numbers are such as their types hold; at most 100 parts. -/
namespace Go.Proofs.Ythplidagfcdibaa
open Go.Abs
variable {k : Nat}
theorem nodup_all : ∀ {l : List PI}, (∀ (i j : Nat) (p q : PI), j < i → l[i]? = some p → l[j]? = some q → q.i ≠ p.i) → (idx l).Nodup := by
  intro l h
  unfold idx
  rw [List.nodup_iff_pairwise_ne, List.pairwise_map, List.pairwise_iff_getElem]
  intro i j hi hj hij
  exact h j i l[j] l[i] hij (List.getElem?_eq_getElem hj) (List.getElem?_eq_getElem hi)
theorem nodup_ne {l : List PI} (hn : (idx l).Nodup) {i j : Nat} {p q : PI} (hij : j < i) (hp : l[i]? = some p) (hq : l[j]? = some q) : q.i ≠ p.i := by
  intro e
  refine nodup_at hp hn ?_
  rw [← e]
  refine List.mem_map.2 ⟨q, ?_, rfl⟩
  exact List.mem_of_getElem? (i := j) (by rw [List.getElem?_take_of_lt hij]; exact hq)
set_option maxRecDepth 100000 in
set_option maxHeartbeats 2000000 in
theorem s36 {bs : List UInt8} {D : Nat} {r : RI} (h : VM bs) (hb : r.b < 4294967296) (hs : r.s < 4294967296) (hD : D < 1000000) (hn : r.l.length ≤ 5000) : Calls0 (evCall FN (k + 400)) 36 [.agg (riV r), memV bs, .int .i64 D] (.bool (rightB bs.length D r)) := by
  have hl := h.le
  obtain ⟨b, s, q, w, l⟩ := r
  dsimp only at hb hs hn
  have c23 : Calls0 (evCall FN (k + 399)) 23 [memV bs, ringV b s] (.int .i64 (chkN bs.length b s)) := (s23 (k := 0) h hb hs).fuel (by omega)
  have c52 : Calls0 (evCall FN (k + 399)) 52 [memV bs] (.int .i64 bs.length) := (s52 (k := 0) h).fuel (by omega)
  change Calls0 _ _ [AV.agg [.int .u32 b, .int .u32 s, .int .i64 q, .bool w, csl 4 (pisV l)], _, _] _
  refine q_call0 fn36 fun T H E lv => ?_
  have hdv := pis_div l
  by_cases hA : chkN bs.length b s = 0 ∧ 0 ≤ q ∧ q < D ∧ 2 ≤ l.length ∧ l.length ≤ 4
  · obtain ⟨a1, a2, a3, a4, a5⟩ := id hA
    rw [a1] at c23
    repeat (first | refine stN ?_ | intro E)
    refine q_loop (α := Nat) (LInv.mk (fun i => i ≤ l.length ∧ (∀ p ∈ l.take i, okP bs.length s p) ∧ (∀ (a b : Nat) (p q : PI), a < i → b < a → l[a]? = some p → l[b]? = some q → q.i ≠ p.i)) (fun i => l.length - i)
      (fun i => [(7, .int .i64 (i : Int)), (6, .bool false), (4, .ref 1 0), (3, .ref 0 0)])
      (fun i => [(1, [csl 128 (bs.map ofB)]), (0, [.int .u32 b, .int .u32 s, .int .i64 q, .bool w, csl 4 (pisV l)])]))
      (fun _ _ c => c = 4) 0 ⟨Nat.zero_le _, by simp, fun _ _ _ _ h => by omega⟩ rfl (show l.length - 0 < k + 399 by omega) ⟨rfl, rfl, rfl, rfl, trivial⟩ ⟨rfl, rfl, trivial⟩ ?_
    rintro i lv c T H E hP rfl hμ
    have hP : i ≤ l.length ∧ (∀ p ∈ l.take i, okP bs.length s p) ∧ (∀ (a b : Nat) (p q : PI), a < i → b < a → l[a]? = some p → l[b]? = some q → q.i ≠ p.i) := hP
    obtain ⟨hP, hok, hnd⟩ := hP
    clear hμ
    dsimp only
    rcases Nat.lt_or_ge i l.length with hi | hi
    · obtain ⟨p, hp⟩ : ∃ p, l[i]? = some p := ⟨_, List.getElem?_eq_getElem hi⟩
      have gi : inB (i : Int) ((pisV l).length / 4) = some i := inB_n (by rw [pis_div]; omega)
      have hr : rd (pisV l) (i * 4) 4 true = some (.agg [.int .i64 p.i, .int .i64 p.a, .int .i64 p.n, .bool p.w]) := fm_agg piV_length hp
      have hws : IntKind.i64.wrap (s : Int) = s := w64 (by omega) (by omega)
      by_cases hok' : okP bs.length s p
      · obtain ⟨o1, o2, o3, o4, o5, o6⟩ := id hok'
        have hsub : evBin .sub (.int .i64 (bs.length : Int)) (.int .i64 p.n) = some (.int .i64 ((bs.length : Int) - p.n)) := sub_w rfl (by omega) (by omega)
        repeat (first | refine stN ?_ | intro E)
        refine q_loop (α := Nat) (LInv.mk (fun j => j ≤ i ∧ (∀ (b : Nat) (q : PI), b < j → l[b]? = some q → q.i ≠ p.i)) (fun j => i - j)
          (fun j => [(9, .int .i64 (j : Int)), (8, .ref 2 0), (7, .int .i64 (i : Int)), (6, .bool false), (4, .ref 1 0), (3, .ref 0 0)])
          (fun j => [(2, [.int .i64 p.i, .int .i64 p.a, .int .i64 p.n, .bool p.w]), (1, [csl 128 (bs.map ofB)]), (0, [.int .u32 b, .int .u32 s, .int .i64 q, .bool w, csl 4 (pisV l)])]))
          (fun _ _ c => c = 4) 0 ⟨Nat.zero_le _, fun _ _ h => by omega⟩ rfl (show i - 0 < k + 399 by omega) ⟨rfl, rfl, rfl, rfl, rfl, rfl, trivial⟩ ⟨rfl, rfl, rfl, trivial⟩ ?_
        rintro j lv c T H E hP2 rfl hμ
        have hP2 : j ≤ i ∧ (∀ (b : Nat) (q : PI), b < j → l[b]? = some q → q.i ≠ p.i) := hP2
        obtain ⟨hj, hne⟩ := hP2
        clear hμ
        dsimp only
        rcases Nat.lt_or_ge j i with hji | hji
        · obtain ⟨p2, hp2⟩ : ∃ p, l[j]? = some p := ⟨_, List.getElem?_eq_getElem (by omega)⟩
          have gj : inB (j : Int) ((pisV l).length / 4) = some j := inB_n (by rw [pis_div]; omega)
          have hr0 : rd (pisV l) (j * 4 + 0) 1 false = some (.int .i64 p2.i) := fm_rd piV_length (by omega) hp2 rfl rfl
          by_cases he : p2.i = p.i
          · have hf : rightB bs.length D ⟨b, s, q, w, l⟩ = false := rightB_f fun hR => nodup_ne hR.2.1.2 hji hp hp2 he
            rw [hf]
            repeat (first | refine stN ?_ | intro E)
            apply n_ret
            repeat (first | refine stN ?_ | intro E)
            apply n_ret
            repeat (first | refine stN ?_ | intro E)
            exact q_ret (.inr rfl) rfl rfl rfl rfl rfl rfl
          · repeat (first | refine stN ?_ | intro E)
            refine n_again (j + 1) ⟨by omega, ?_⟩ rfl (show i - (j + 1) < i - j by omega) ⟨rfl, rfl, rfl, rfl, rfl, rfl, trivial⟩ ⟨⟨rfl, rfl⟩, ⟨rfl, rfl⟩, ⟨rfl, rfl⟩, trivial⟩
            intro b' q' hb' hq'
            rcases Nat.lt_or_ge b' j with hlt | hge
            · exact hne b' q' hlt hq'
            · have : b' = j := by omega
              subst this
              rw [hp2] at hq'; cases hq'; exact he
        · have : j = i := by omega
          subst this
          repeat (first | refine stN ?_ | intro E)
          apply n_exit
          apply b_exit
          repeat (first | refine stN ?_ | intro E)
          refine n_again (j + 1) ⟨by omega, ?_, ?_⟩ rfl (show l.length - (j + 1) < l.length - j by omega) ⟨rfl, rfl, rfl, rfl, trivial⟩ ⟨⟨rfl, rfl⟩, ⟨rfl, rfl⟩, trivial⟩
          · intro p' hp'
            rw [List.take_add_one, hp] at hp'
            rcases List.mem_append.1 hp' with hh | hh
            · exact hok p' hh
            · simp only [Option.toList_some, List.mem_singleton] at hh; rw [hh]; exact hok'
          · intro a b' p' q' ha hba hpa hqb
            rcases Nat.lt_or_ge a j with hlt | hge
            · exact hnd a b' p' q' hlt hba hpa hqb
            · have : a = j := by omega
              subst this
              rw [hp] at hpa; cases hpa
              exact hne b' q' hba hqb
      · have hf : rightB bs.length D ⟨b, s, q, w, l⟩ = false := rightB_f fun hR => hok' (hR.2.1.1 p (List.mem_of_getElem? hp))
        rw [hf]
        unfold okP at hok'
        obtain hx | hx | hx | hx | hx | hx : p.i < 0 ∨ (0 ≤ p.i ∧ (s : Int) ≤ p.i) ∨ (0 ≤ p.i ∧ p.i < s ∧ p.n < 1) ∨ (0 ≤ p.i ∧ p.i < s ∧ 512 < p.n) ∨ (0 ≤ p.i ∧ p.i < s ∧ 1 ≤ p.n ∧ p.n ≤ 512 ∧ p.a < 0) ∨ (0 ≤ p.i ∧ p.i < s ∧ 1 ≤ p.n ∧ p.n ≤ 512 ∧ 0 ≤ p.a ∧ (bs.length : Int) - p.n < p.a) := by omega
        case' inr.inr.inr.inr.inr =>
          have hsub : evBin .sub (.int .i64 (bs.length : Int)) (.int .i64 p.n) = some (.int .i64 ((bs.length : Int) - p.n)) := sub_w rfl (by omega) (by omega)
        all_goals
          repeat (first | refine stN ?_ | intro E)
          apply n_ret
          repeat (first | refine stN ?_ | intro E)
          exact q_ret (.inr rfl) rfl rfl rfl rfl rfl rfl
    · have hil : i = l.length := by omega
      subst hil
      rw [List.take_length] at hok
      have hnd : (idx l).Nodup := nodup_all fun i j p q hij hp hq => hnd i j p q (List.getElem?_eq_some_iff.1 hp).1 hij hp hq
      obtain ⟨p, l', rfl⟩ : ∃ p l', l = p :: l' := by
        rcases l with _ | ⟨p, l'⟩
        · simp at a4
        · exact ⟨p, l', rfl⟩
      have hp : (p :: l')[0]? = some p := rfl
      have gi : inB 0 ((pisV (p :: l')).length / 4) = some 0 := inB_n (a := 0) (by rw [pis_div]; simp)
      have hr2 : rd (pisV (p :: l')) (0 * 4 + 2) 1 false = some (.int .i64 p.n) := fm_rd piV_length (by omega) hp rfl rfl
      have hr3 : rd (pisV (p :: l')) (0 * 4 + 3) 1 false = some (.bool p.w) := fm_rd piV_length (by omega) hp rfl rfl
      have hll : l'.length ≤ 100 := by simp only [List.length_cons] at a5; omega
      have hoN : okN l' := fun x hx => by have := hok x (List.mem_cons_of_mem _ hx); unfold okP at this; omega
      have c68 : Calls0 (evCall FN (k + 399)) 68 [csl 4 (pisV l'), .bool w] (.int .i64 (fitI l' w)) := (s68 (k := 0) hll hoN).fuel (by omega)
      have hdr : ((pisV (p :: l')).take ((pisV (p :: l')).length / 4 * 4)).drop (1 * 4) = pisV l' := by
        have e : (pisV (p :: l')).length / 4 * 4 = (pisV (p :: l')).length := by rw [pis_div]; exact (fm_length piV_length _).symm
        rw [e, List.take_length]; rfl
      have hab : asB 1 ((pisV (p :: l')).length / 4) = some 1 := asB_n (a := 1) (by rw [pis_div]; simp)
      by_cases hw : p.w = false ∧ p.n = 8
      · obtain ⟨w1, w2⟩ := hw
        rw [w1] at hr3
        rw [w2] at hr2
        repeat (first | refine stN ?_ | intro E)
        apply n_exit
        apply b_exit
        repeat (first | refine stN ?_ | intro E)
        apply p_slL_lo
        · exact rfl
        · exact csz_ok _ _
        · exact rfl
        · exact hab
        rw [hdr]
        by_cases hfit : fitI l' w = 0
        · have hf : rightB bs.length D ⟨b, s, q, w, p :: l'⟩ = true := rightB_t ⟨hA, ⟨hok, hnd⟩, p, l', rfl, w1, w2, hfit⟩
          rw [hf]
          rw [hfit] at c68
          repeat (first | refine stN ?_ | intro E)
          exact q_ret (.inr rfl) rfl rfl rfl rfl rfl rfl
        · have hf : rightB bs.length D ⟨b, s, q, w, p :: l'⟩ = false := rightB_f fun hR => by
            obtain ⟨_, _, p1, l1, e1, _, _, e4⟩ := hR
            cases e1; exact hfit e4
          rw [hf]
          repeat (first | refine stN ?_ | intro E)
          exact q_ret (.inr rfl) rfl rfl rfl rfl rfl rfl
      · have hf : rightB bs.length D ⟨b, s, q, w, p :: l'⟩ = false := rightB_f fun hR => by
          obtain ⟨_, _, p1, l1, e1, e2, e3, _⟩ := hR
          cases e1; exact hw ⟨e2, e3⟩
        rw [hf]
        cases hpw : p.w
        · have hpn : p.n ≠ 8 := fun e => hw ⟨hpw, e⟩
          rw [hpw] at hr3
          repeat (first | refine stN ?_ | intro E)
          apply n_exit
          apply b_exit
          repeat (first | refine stN ?_ | intro E)
          exact q_ret (.inr rfl) rfl rfl rfl rfl rfl rfl
        · rw [hpw] at hr3
          repeat (first | refine stN ?_ | intro E)
          apply n_exit
          apply b_exit
          repeat (first | refine stN ?_ | intro E)
          exact q_ret (.inr rfl) rfl rfl rfl rfl rfl rfl
  · have hf : rightB bs.length D ⟨b, s, q, w, l⟩ = false := rightB_f fun hR => hA hR.1
    rw [hf]
    obtain hx | hx | hx | hx | hx : chkN bs.length b s ≠ 0 ∨ (chkN bs.length b s = 0 ∧ q < 0) ∨ (chkN bs.length b s = 0 ∧ 0 ≤ q ∧ (D : Int) ≤ q) ∨ (chkN bs.length b s = 0 ∧ 0 ≤ q ∧ q < D ∧ l.length < 2) ∨ (chkN bs.length b s = 0 ∧ 0 ≤ q ∧ q < D ∧ 4 < l.length) := by omega
    all_goals
      repeat (first | refine stN ?_ | intro E)
      exact q_ret (.inr rfl) rfl rfl rfl rfl rfl rfl
end Go.Proofs.Ythplidagfcdibaa
