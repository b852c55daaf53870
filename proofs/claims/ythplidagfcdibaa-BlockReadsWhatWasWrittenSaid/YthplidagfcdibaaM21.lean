/- Part 21 of the texts on which proofs about this seat rest: each says what it proves at its own head. No condition. -/
import Derived.Test.YthplidagfcdibaaM20
import Derived.ProofKit
import Derived.OpenShut
import Derived.Test.YthplidagfcdibaaRows
set_option linter.unusedVariables false
set_option linter.unusedSimpArgs false
/- BlockStaysInBounds: what it answers. Condition: the arguments are such as their types hold. -/
namespace Go.Proofs.Ythplidagfcdibaa
open Go.Abs
variable {k : Nat}
theorem bt_ofB {d : List UInt8} {j : Nat} {u : UInt8} (h : d[j]? = some u) : bt d j = u.toNat := by simp [bt, List.getD_eq_getElem?_getD, h]
/-- Cells of bytes can be compared. -/
theorem eqK_any : ∀ (n : Nat) (xs ys : List UInt8), xs.length = n → ys.length = n → ∃ r, eqKs (List.replicate n 0) (xs.map ofB) (ys.map ofB) = some r
  | 0, [], [], _, _ => ⟨true, rfl⟩
  | n + 1, x :: xs, y :: ys, h1, h2 => by
    obtain ⟨r, hr⟩ := eqK_any n xs ys (by simpa using h1) (by simpa using h2)
    refine ⟨((x.toNat : Int) == (y.toNat : Int)) && r, ?_⟩
    simp only [List.replicate_succ, List.map_cons, eqKs, hr, ofB, eqK, if_true]
theorem rd_page {d : List UInt8} {n : Nat} (h : n * 128 + 128 ≤ d.length) : rd (d.map ofB) (n * 128) 128 true = some (.agg (((d.drop (n * 128)).take 128).map ofB)) := by
  simp only [rd, if_true]
  rw [if_pos (by rw [List.length_map]; omega), List.map_take, List.map_drop]
theorem page_ne {d Y : List UInt8} {n q : Nat} (hY : Y.length ≤ 128) (hq : q * 128 + 128 ≤ d.length) (hn : n ≠ q) : ((putB d (q * 128) Y).drop (n * 128)).take 128 = (d.drop (n * 128)).take 128 := by
  apply List.ext_getElem?
  intro i
  rw [List.getElem?_take, List.getElem?_take]
  split
  · rw [List.getElem?_drop, List.getElem?_drop, putB_get (by omega)]
    split
    · rfl
    · rw [if_neg (by rcases Nat.lt_or_ge n q with h | h <;> omega)]
  · rfl
theorem doneD_page {m d : List UInt8} {D b s q n : Nat} {w : Bool} {p : Pt} {t : List Pt} (hr : RN m.length D b s w q p t) (hq : q * 128 + 128 ≤ d.length) (hn : n ≠ q ∨ w = false) : ((doneD m d q w t).drop (n * 128)).take 128 = (d.drop (n * 128)).take 128 := by
  unfold doneD
  split
  · next hw =>
    subst hw
    exact page_ne (gath_128 hr) hq (hn.resolve_right (by simp))
  · rfl
theorem wth_ring {t b s : Nat} {l : List Pt} (h : b ≤ t ∧ t < b + 16 * s) : wthB t b s l = true := by
  unfold wthB; rw [decide_eq_true h, Bool.true_or]
theorem wth_part {t b s : Nat} {l : List Pt} (h : (l.filter (·.w)).any (cov t) = true) : wthB t b s l = true := by
  obtain ⟨p, hp, hc⟩ := List.any_eq_true.1 h
  obtain ⟨h1, h2⟩ := List.mem_filter.1 hp
  unfold wthB
  rw [Bool.or_eq_true]
  refine .inr (List.any_eq_true.2 ⟨p, h1, ?_⟩)
  unfold cov at hc
  simp only [Bool.and_eq_true, decide_eq_true_eq] at hc ⊢
  exact ⟨h2, hc⟩
theorem chg_done {m d : List UInt8} {D b s q : Nat} {w : Bool} {p : Pt} {t : List Pt} (h : VM m) (hr : RN m.length D b s w q p t) : ChgP m (doneM m d b q w p t) b s (p :: t) := by
  intro x hx hne
  have hrv := rn_rv h hr
  by_cases hring : b ≤ x ∧ x < b + 16 * s
  · exact wth_ring hring
  have hj : ∀ j ∈ ix (p :: t), j < s := fun j hj => by
    obtain ⟨y, hy, rfl⟩ := List.mem_map.1 hj
    exact (hr.one y hy).1
  unfold doneM at hne
  split at hne
  · rw [bt_markB_ne (fun j hj' => hrv.top (hj j hj')) fun j hj' => by have := hj j hj'; omega] at hne
    exact absurd rfl hne
  · have hin : InM m.length t := fun y hy _ => (hr.one y (List.mem_cons_of_mem _ hy)).2.2.2
    have e : (scat m t (secB d q (rm t))).1.length = m.length := (scat_props (ys := secB d q (rm t)) (n := m.length) (l := t) (r := (m, 0)) hin rfl (Nat.zero_le _)).1
    rw [bt_markB_ne (fun j hj' => by rw [e]; exact hrv.top (hj j hj')) fun j hj' => by have := hj j hj'; omega] at hne
    have := scat_cov (ys := secB d q (rm t)) (t := x) (l := t) (r := (m, 0)) hin rfl (Nat.zero_le _) hne
    apply wth_part
    rw [List.filter_cons]
    split
    · rw [List.any_cons, this, Bool.or_true]
    · exact this
set_option maxRecDepth 100000 in
set_option maxHeartbeats 8000000 in
theorem s5 {x : BI} {m : List UInt8} {p0 kk : Nat} (hp : m.length = 128 * p0) (hx : Raw x) (hk : kk < 256) : Calls0 (evCall FN (k + 20000)) 5 [biV x, memV m, .int .u8 kk] (.bool true) := by
  have c11 : Calls0 (evCall FN (k + 19999)) 11 [] (.bool true) := s11.fuel (k := 300) (by omega)
  have c20 : Calls0 (evCall FN (k + 19999)) 20 [biV x, memV m] (.bool (smallB m x)) := s20 (k := k + 19299) hp hx.hb hx.hs hx.hr
  refine q_call0 fn5 fun T H E lv => ?_
  by_cases hS : FewP m x ∧ VM m ∧ ValidP m.length x
  · rw [smallB_t hS] at c20
    obtain ⟨_, hm, hV⟩ := hS
    obtain ⟨b, s, at', st, d, f⟩ := x
    obtain ⟨a, rfl, hR⟩ := rt_of hm hx.hb hx.hs hx.hd hV
    have hnr := hR.nr
    obtain ⟨N, hN⟩ : ∃ N, ntf b s ((d.map ofB).length / 128) ⟨a, st, f, m, false⟩ = N := ⟨_, rfl⟩
    have hP : port1 b s ((d.map ofB).length / 128) ⟨a, st, f, m, false⟩ false 50 0 = ⟨b, s, N.a, N.st, N.f, N.m, 0, N.r, true⟩ := by rw [← hN]; rfl
    obtain ⟨p1, _, p3⟩ := hR.port (by omega) hP
    rw [hN] at hnr
    have hml := hm.le
    have hb : b < 4294967296 := hR.hb
    have hs : s < 4294967296 := hR.hs
    have hdm : d.length % 128 = 0 := hR.hd
    have hsec : (d.map ofB).length / 128 ≤ 64 := hR.secs
    have hRm := p3.vm
    have c14 := p1 (k + 9199)
    have c22 : Calls0 (evCall FN (k + 19999)) 22 [memV m, memV N.m, ringV b s, csl 4 (ptsV [])] (.bool true) := s22 (k := k + 19599) hm hnr.len hb hs (fun p hp => by cases hp) (Nat.zero_le _) fun t _ hne => wth_ring (Decidable.byContradiction fun hq => hne (hnr.out t hq).symm)
    have d22 : chkN m.length b s ≠ 0 → Calls0 (evCall FN (k + 19999)) 22 [memV m, memV N.m, ringV 0 0, csl 4 (ptsV [])] (.bool true) := fun hc => s22 (k := k + 19599) hm hnr.len (by omega) (by omega) (fun p hp => by cases hp) (Nat.zero_le _) fun t _ hne => absurd (by rw [hnr.same hc]) hne
    have c23 : Calls0 (evCall FN (k + 19999)) 23 [memV m, ringV b s] (.int .i64 (chkN m.length b s)) := (s23 (k := 0) hm hb hs).fuel (by omega)
    have c13 : Calls0 (evCall FN (k + 19999)) 13 [biV ⟨b, s, N.a, N.st, d, N.f⟩, memV N.m] (.bool true) := by
      have h1 := s13 (k := k + 19399) (x := ⟨b, s, N.a, N.st, d, N.f⟩) hRm hb hs (by show (d.map ofB).length / 128 < 1000000; omega) (by have := p3.f; show N.f.length ≤ 100; dsimp only at this; omega) fun r hr => by
        have := p3.right hr
        obtain ⟨g1, g2⟩ := right_bs hRm.le.1 this
        exact ⟨g1, g2, by have := this.1.2.2.2.2; omega⟩
      rwa [validB_t p3.v] at h1
    have hf0 := hnr.f0
    have hf1 := hnr.f
    have hz : (0 : Nat) = 4 ∨ ([] : List AV) = [] := .inr rfl
    obtain ⟨Na, Nst, Nf, Nm, Nr⟩ := N
    dsimp only at p1 p3 c14 c22 d22 c13 hf0 hf1 hnr hRm
    have dv1 := ris_div f
    have dv2 := ris_div Nf
    by_cases he : Nf = []
    · subst he
      have : f = [] := List.length_eq_zero_iff.1 (by simpa using hf0)
      subst this
      by_cases hc : chkN m.length b s = 0
      · rw [hc] at c23
        dsimp only [biV, biC, diV, diC] at c20 c14 c13 ⊢
        repeat (first | refine stN ?_ | intro E)
        exact q_ret (.inr rfl) rfl rfl rfl rfl rfl rfl
      · have d22 := d22 hc
        have hc2 := (chk_cases m.length b s).resolve_left hc
        rw [hc2] at c23
        dsimp only [biV, biC, diV, diC] at c20 c14 c13 ⊢
        repeat (first | refine stN ?_ | intro E)
        exact q_ret (.inr rfl) rfl rfl rfl rfl rfl rfl
    · have hfl := List.length_pos_iff.2 he
      have hil : kk % Nf.length < Nf.length := Nat.mod_lt _ hfl
      obtain ⟨r, hri⟩ : ∃ r, Nf[kk % Nf.length]? = some r := ⟨_, List.getElem?_eq_getElem hil⟩
      obtain ⟨q, p, t, e, hr⟩ := right_nat (p3.right (List.mem_of_getElem? hri))
      rw [e] at hri
      obtain ⟨q1, _, q3⟩ := p3.done hri hr
      have gr : evBin .rem (.int .i64 (kk : Int)) (.int .i64 ((risV Nf).length / 5 : Nat)) = some (.int .i64 ((kk % Nf.length : Nat) : Int)) := by rw [dv2]; exact rem_nn hfl
      obtain ⟨rb, rs, rq, rw', rl⟩ := r
      dsimp only at hri hr q1 q3 e
      generalize hi : kk % Nf.length = i at hri q1 q3 gr hil
      have gi : inB (i : Int) ((risV Nf).length / 5) = some i := inB_n (by omega)
      have hrd := fm_agg riV_length hri
      have hrd : rd (risV Nf) (i * 5) 5 true = some (.agg [.int .u32 rb, .int .u32 rs, .int .i64 q, .bool rw', csl 4 (ptsV (p :: t))]) := by
        rw [← pis_of]; exact hrd
      have hqd : q * 128 + 128 ≤ d.length := by have := hr.q; rw [List.length_map] at this; omega
      have hMl := doneM_len (d := d) hRm hr
      have hDl := doneD_len hr hqd
      have hpg := fun n hn => doneD_page (n := n) hr hqd hn
      obtain ⟨g1, g2⟩ := right_bs hRm.le.1 (p3.right (List.mem_of_getElem? hri))
      dsimp only at g1 g2
      have hRml := hRm.le
      have e22 : Calls0 (evCall FN (k + 19999)) 22 [memV Nm, memV (doneM Nm d rb q rw' p t), ringV rb rs, csl 4 (ptsV (p :: t))] (.bool true) := s22 (k := k + 19599) hRm hMl g1 g2 (fun p hp => by have := hr.one p hp; omega) (by have := hr.len; simp only [List.length_cons]; omega) (chg_done hRm hr)
      have c15 := q1 (k + 9199)
      have d13 : Calls0 (evCall FN (k + 19999)) 13 [biV ⟨b, s, Na, Nst, doneD Nm d q rw' t, offL Nf i⟩, memV (doneM Nm d rb q rw' p t)] (.bool true) := by
        have h1 := s13 (k := k + 19399) (x := ⟨b, s, Na, Nst, doneD Nm d q rw' t, offL Nf i⟩) q3.vm hb hs (by have := q3.secs; show ((doneD Nm d q rw' t).map ofB).length / 128 < 1000000; omega) (by have := q3.f; show (offL Nf i).length ≤ 100; omega) fun r hr => by
          have := q3.right hr
          obtain ⟨g1, g2⟩ := right_bs q3.vm.le.1 this
          exact ⟨g1, g2, by have := this.1.2.2.2.2; omega⟩
        rwa [validB_t q3.v] at h1
      have hol := off_len hil
      have dv3 := ris_div (offL Nf i)
      generalize offL Nf i = F' at c15 d13 hol dv3
      generalize doneM Nm d rb q rw' p t = M' at c15 d13 e22
      generalize doneD Nm d q rw' t = D' at c15 d13 hDl hpg
      have hd1 : (D'.map ofB).length / 128 = (d.map ofB).length / 128 := by rw [List.length_map, List.length_map, hDl]
      have hd2 : (d.map ofB).length / 128 * 128 = d.length := by rw [List.length_map]; omega
      have body : chkN m.length b s = 0 ∨ chkN m.length b s = 160 := chk_cases _ _ _
      rcases body with hc | hc
      case' inr => have d22 := d22 (by omega)
      all_goals
        rw [hc] at c23
        dsimp only [biV, biC, diV, diC] at c20 c14 c15 c13 d13 ⊢
        repeat (first | refine stN ?_ | intro E)
        generalize hDn : (d.map ofB).length / 128 = Dn at *
        refine q_loop (α := Nat) (LInv.mk (fun n => n ≤ Dn) (fun n => Dn - n)
          (fun n => [(14, .int .i64 (n : Int)), (12, .ref 5 0), (11, .ref 4 0), (8, .ref 2 0)])
          (fun n => [(5, [.int .u32 b, .int .u32 s, .int .i64 Na, .int .i64 Nst, csl 128 (D'.map ofB), csl 5 (risV F')]), (4, [.int .u32 rb, .int .u32 rs, .int .i64 q, .bool rw', csl 4 (ptsV (p :: t))]), (2, [.int .u32 b, .int .u32 s, .int .i64 Na, .int .i64 Nst, csl 128 (d.map ofB), csl 5 (risV Nf)])]))
          (fun _ _ c => c = 4) 0 (Nat.zero_le _) rfl (show Dn - 0 < k + 19999 by omega) ⟨rfl, rfl, rfl, rfl, trivial⟩ ⟨rfl, rfl, rfl, trivial⟩ ?_
        rintro n lv cc T H E hP rfl hμ
        have hP : n ≤ Dn := hP
        clear hμ
        dsimp only
        rcases Nat.lt_or_ge n Dn with hn | hn
        · have gn : inB (n : Int) ((d.map ofB).length / 128) = some n := inB_n (by omega)
          have gn2 : inB (n : Int) ((D'.map ofB).length / 128) = some n := inB_n (by omega)
          have r1 := rd_page (d := d) (n := n) (by omega)
          have r2 := rd_page (d := D') (n := n) (by omega)
          by_cases hsame : n ≠ q ∨ rw' = false
          · rw [hpg n hsame] at r2
            have he := eqK_bytes 128 ((d.drop (n * 128)).take 128) (by rw [List.length_take, List.length_drop]; omega)
            repeat (first | refine stN ?_ | intro E)
            apply p_eqA
            · exact rfl
            · exact rfl
            · exact he
            repeat (first | refine stN ?_ | intro E)
            exact n_again (n + 1) (show n + 1 ≤ Dn by omega) rfl (show Dn - (n + 1) < Dn - n by omega) ⟨rfl, rfl, rfl, rfl, trivial⟩ ⟨⟨rfl, rfl⟩, ⟨rfl, rfl⟩, ⟨rfl, rfl⟩, trivial⟩
          · obtain ⟨rfl, rfl⟩ : n = q ∧ rw' = true := by
              refine ⟨Decidable.byContradiction fun h => hsame (.inl h), ?_⟩
              cases rw' with
              | true => rfl
              | false => exact absurd (.inr rfl) hsame
            obtain ⟨r, he⟩ := eqK_any 128 ((d.drop (n * 128)).take 128) ((D'.drop (n * 128)).take 128) (by rw [List.length_take, List.length_drop]; omega) (by rw [List.length_take, List.length_drop]; omega)
            cases r
            all_goals
              repeat (first | refine stN ?_ | intro E)
              apply p_eqA
              · exact rfl
              · exact rfl
              · exact he
              repeat (first | refine stN ?_ | intro E)
              exact n_again (n + 1) (show n + 1 ≤ Dn by omega) rfl (show Dn - (n + 1) < Dn - n by omega) ⟨rfl, rfl, rfl, rfl, trivial⟩ ⟨⟨rfl, rfl⟩, ⟨rfl, rfl⟩, ⟨rfl, rfl⟩, trivial⟩
        · repeat (first | refine stN ?_ | intro E)
          apply n_exit
          apply b_exit
          repeat (first | refine stN ?_ | intro E)
          exact q_ret (.inr rfl) rfl rfl rfl rfl rfl rfl
  · rw [smallB_f hS] at c20
    dsimp only [biV, biC] at c20 ⊢
    repeat (first | refine stN ?_ | intro E)
    exact q_ret (.inr rfl) rfl rfl rfl rfl rfl rfl
end Go.Proofs.Ythplidagfcdibaa

/- What the arguments of the ring's laws are. No condition. -/
namespace Go.Proofs.Ythplidagfcdibaa
open Go.Abs Go.ChangeShapes Go.WideShapes Go.ChangeAt Go.RowKit
/-- What a call that answers with a bool answers. -/
theorem eval_of {F : CallF} {f : FuncId} {vs : List AV} {b : Bool} (h : Calls0 F f vs (.bool b)) : ∃ hs', F f vs h0 (fun _ => none) = some (.bool b, hs') := by
  have h1 := evP_of h rfl
  unfold evP at h1
  split at h1
  · next r hs he =>
    split at h1
    · simp only [Option.some.injEq] at h1
      refine ⟨hs, ?_⟩
      rw [he]
      cases r <;> simp only [own, mapLeaf, ownCell] at h1 <;> first
        | (cases h1; rfl)
        | (split at h1 <;> first | cases h1 | (split at h1 <;> cases h1))
        | cases h1
    · cases h1
  · cases h1
def memSh : Sh := .agg [.sl (.arr 128 (.int .u8))]
def ringSh : Sh := .agg [.int .u32, .int .u32]
theorem own0 : ownKnob Try.prog.godebug = none := by kernel_rfl
theorem hasBytes {xs : List AV} (h : Has (.arr 128 (.int .u8)) xs) : ∃ bs : List UInt8, bs.length = 128 ∧ xs = bs.map ofB := by
  obtain ⟨ls, hl, rfl, h2⟩ := h
  have key : ∀ ls : List (List AV), (∀ y ∈ ls, Has (.int .u8) y) → ∃ bs : List UInt8, bs.length = ls.length ∧ ls.flatten = bs.map ofB := by
    intro ls
    induction ls with
    | nil => intro _; exact ⟨[], rfl, rfl⟩
    | cons y ls ih =>
      intro h
      obtain ⟨bs, e1, e2⟩ := ih fun z hz => h z (List.mem_cons_of_mem _ hz)
      obtain ⟨n, rfl, hn⟩ := h y List.mem_cons_self
      refine ⟨UInt8.ofNat n.toNat :: bs, by simp [e1], ?_⟩
      have hb : 0 ≤ n ∧ n < 256 := by
        have h1 : IntKind.u8.min = 0 := rfl
        have h2 : IntKind.u8.max = 255 := rfl
        simp only [Lit.wf, h1, h2, Bool.and_eq_true, decide_eq_true_eq] at hn
        omega
      rw [List.flatten_cons, e2, List.map_cons, ofB_le _ (by omega)]
      simp [Int.toNat_of_nonneg hb.1]
  obtain ⟨bs, e1, e2⟩ := key ls h2
  exact ⟨bs, by omega, e2⟩
theorem hasPages : ∀ ls : List (List AV), (∀ y ∈ ls, Has (.arr 128 (.int .u8)) y) → ∃ bs : List UInt8, bs.length = 128 * ls.length ∧ ls.flatten = bs.map ofB
  | [], _ => ⟨[], rfl, rfl⟩
  | y :: ls, h => by
    obtain ⟨bs, e1, e2⟩ := hasPages ls fun z hz => h z (List.mem_cons_of_mem _ hz)
    obtain ⟨b1, g1, rfl⟩ := hasBytes (h y List.mem_cons_self)
    refine ⟨b1 ++ bs, by rw [List.length_append, List.length_cons]; omega, by rw [List.flatten_cons, e2, List.map_append]⟩
theorem wf_nat {k : IntKind} {n : Int} {m : Nat} (h : (Lit.int k n).wf = true) (h1 : k.min = 0) (h2 : k.max < m) : ∃ j : Nat, n = j ∧ j < m := by
  simp only [Lit.wf, h1, Bool.and_eq_true, decide_eq_true_eq] at h
  exact ⟨n.toNat, by omega, by omega⟩
theorem hasMem {xs : List AV} (h : Has memSh xs) : ∃ (bs : List UInt8) (p : Nat), bs.length = 128 * p ∧ p ≤ maxLen ∧ xs = [csl 128 (bs.map ofB)] := by
  obtain ⟨ys, zs, ⟨ls, rfl, h2, h3⟩, rfl, rfl⟩ := h
  obtain ⟨bs, e1, e2⟩ := hasPages ls h2
  exact ⟨bs, ls.length, e1, h3, by rw [e2]; rfl⟩
theorem hasRing {xs : List AV} (h : Has ringSh xs) : ∃ b s : Nat, b < 4294967296 ∧ s < 4294967296 ∧ xs = [.int .u32 b, .int .u32 s] := by
  obtain ⟨_, _, ⟨n, rfl, hn⟩, ⟨_, _, ⟨m, rfl, hm⟩, rfl, rfl⟩, rfl⟩ := h
  obtain ⟨b, rfl, hb⟩ := wf_nat (m := 4294967296) hn rfl (by decide)
  obtain ⟨s, rfl, hs⟩ := wf_nat (m := 4294967296) hm rfl (by decide)
  exact ⟨b, s, hb, hs, rfl⟩
theorem each4 {s0 s1 s2 s3 : Sh} {xss : List (List AV)} (h : Each [s0, s1, s2, s3] xss) : ∃ x0 x1 x2 x3, xss = [x0, x1, x2, x3] ∧ Has s0 x0 ∧ Has s1 x1 ∧ Has s2 x2 ∧ Has s3 x3 := by
  rcases xss with _ | ⟨x0, _ | ⟨x1, _ | ⟨x2, _ | ⟨x3, _ | ⟨x4, t⟩⟩⟩⟩⟩
  · exact h.elim
  · exact h.2.elim
  · exact h.2.2.elim
  · exact h.2.2.2.elim
  · exact ⟨x0, x1, x2, x3, rfl, h.1, h.2.1, h.2.2.1, h.2.2.2.1⟩
  · exact h.2.2.2.2.elim
theorem hasInt {k : IntKind} {xs : List AV} (h : Has (.int k) xs) : ∃ n, xs = [.int k n] ∧ (Lit.int k n).wf = true := h
theorem table0 : Table Try.prog FN := table_of (fun f p h => by
  unfold prims at h
  split at h
  · rename_i hf
    subst hf
    cases h
    exact gather_sound (table_sound tabl0 _)
  · cases h)
theorem four {α : Type} {ds : List α} {n : Nat} (h : ds.length = n) (hn : n = 4) : ∃ d1 d2 d3 d4, ds = [d1, d2, d3, d4] := by
  subst hn
  rcases ds with _ | ⟨x0, _ | ⟨x1, _ | ⟨x2, _ | ⟨x3, _ | ⟨x4, t⟩⟩⟩⟩⟩ <;> simp at h
  exact ⟨x0, x1, x2, x3, rfl⟩
theorem three {α : Type} {ds : List α} {n : Nat} (h : ds.length = n) (hn : n = 3) : ∃ d1 d2 d3, ds = [d1, d2, d3] := by
  subst hn
  rcases ds with _ | ⟨x0, _ | ⟨x1, _ | ⟨x2, _ | ⟨x3, t⟩⟩⟩⟩ <;> simp at h
  exact ⟨x0, x1, x2, rfl⟩
theorem each3 {s0 s1 s2 : Sh} {xss : List (List AV)} (h : Each [s0, s1, s2] xss) : ∃ x0 x1 x2, xss = [x0, x1, x2] ∧ Has s0 x0 ∧ Has s1 x1 ∧ Has s2 x2 := by
  rcases xss with _ | ⟨x0, _ | ⟨x1, _ | ⟨x2, _ | ⟨x3, t⟩⟩⟩⟩
  · exact h.elim
  · exact h.2.elim
  · exact h.2.2.elim
  · exact ⟨x0, x1, x2, rfl, h.1, h.2.1, h.2.2.1⟩
  · exact h.2.2.2.elim
theorem hasStr {xs : List AV} (h : Has .str xs) : ∃ ys : List UInt8, xs = [.str ys] := by
  obtain ⟨l, rfl, _⟩ := h
  exact ⟨l, rfl⟩
end Go.Proofs.Ythplidagfcdibaa

/- What the arguments of the block's laws are. No condition. -/
namespace Go.Proofs.Ythplidagfcdibaa
open Go.Abs Go.ChangeShapes Go.WideShapes Go.ChangeAt Go.RowKit
def partSh : Sh := .agg [.int .i64, .int .i64, .int .i64, .bool]
def reqSh : Sh := .agg [.agg [.int .u32, .int .u32], .int .i64, .bool, .sl partSh]
def blkSh : Sh := .agg [.agg [.int .u32, .int .u32], .int .i64, .int .i64, .sl (.arr 128 (.int .u8)), .sl reqSh]
def ioSh : Sh := .agg [.bool, .int .i64, .int .u32]
def diskSh : Sh := .sl (.arr 128 (.int .u8))
theorem hasPart {xs : List AV} (h : Has partSh xs) : ∃ p : PI, xs = piV p := by
  obtain ⟨_, _, ⟨i, rfl, _⟩, ⟨_, _, ⟨a, rfl, _⟩, ⟨_, _, ⟨n, rfl, _⟩, ⟨_, _, ⟨w, rfl⟩, rfl, rfl⟩, rfl⟩, rfl⟩, rfl⟩ := h
  exact ⟨⟨i, a, n, w⟩, rfl⟩
theorem hasParts : ∀ ls : List (List AV), (∀ y ∈ ls, Has partSh y) → ∃ l : List PI, ls.flatten = pisV l
  | [], _ => ⟨[], rfl⟩
  | y :: ls, h => by
    obtain ⟨l, e⟩ := hasParts ls fun z hz => h z (List.mem_cons_of_mem _ hz)
    obtain ⟨p, rfl⟩ := hasPart (h y List.mem_cons_self)
    exact ⟨p :: l, by rw [List.flatten_cons, e]; rfl⟩
theorem hasReq {xs : List AV} (h : Has reqSh xs) : ∃ r : RI, xs = riV r ∧ r.b < 4294967296 ∧ r.s < 4294967296 := by
  obtain ⟨_, _, hr, ⟨_, _, ⟨q, rfl, _⟩, ⟨_, _, ⟨w, rfl⟩, ⟨_, _, ⟨ls, rfl, h2, _⟩, rfl, rfl⟩, rfl⟩, rfl⟩, rfl⟩ := h
  obtain ⟨b, s, hb, hs, rfl⟩ := hasRing hr
  obtain ⟨l, e⟩ := hasParts ls h2
  exact ⟨⟨b, s, q, w, l⟩, by rw [e]; rfl, hb, hs⟩
theorem hasReqs : ∀ ls : List (List AV), (∀ y ∈ ls, Has reqSh y) → ∃ l : List RI, ls.flatten = risV l ∧ ∀ r ∈ l, r.b < 4294967296 ∧ r.s < 4294967296
  | [], _ => ⟨[], rfl, fun r hr => by cases hr⟩
  | y :: ls, h => by
    obtain ⟨l, e, h1⟩ := hasReqs ls fun z hz => h z (List.mem_cons_of_mem _ hz)
    obtain ⟨p, rfl, h2⟩ := hasReq (h y List.mem_cons_self)
    refine ⟨p :: l, by rw [List.flatten_cons, e]; rfl, fun r hr => ?_⟩
    rcases List.mem_cons.1 hr with rfl | hr
    · exact h2
    · exact h1 r hr
theorem hasBlk {xs : List AV} (h : Has blkSh xs) : ∃ x : BI, xs = biC x ∧ Raw x := by
  obtain ⟨_, _, hr, ⟨_, _, ⟨a, rfl, _⟩, ⟨_, _, ⟨st, rfl, _⟩, ⟨_, _, ⟨ls, rfl, h2, _⟩, ⟨_, _, ⟨lr, rfl, h4, _⟩, rfl, rfl⟩, rfl⟩, rfl⟩, rfl⟩, rfl⟩ := h
  obtain ⟨b, s, hb, hs, rfl⟩ := hasRing hr
  obtain ⟨d, hd, e⟩ := hasPages ls h2
  obtain ⟨f, e2, hf⟩ := hasReqs lr h4
  refine ⟨⟨b, s, a, st, d, f⟩, by rw [e, e2]; rfl, hb, hs, ?_, hf⟩
  show d.length % 128 = 0
  omega
theorem hasIO {xs : List AV} (h : Has ioSh xs) : ∃ (i : Bool) (port : Int) (v : Nat), v < 4294967296 ∧ xs = [.bool i, .int .i64 port, .int .u32 v] := by
  obtain ⟨_, _, ⟨i, rfl⟩, ⟨_, _, ⟨port, rfl, _⟩, ⟨_, _, ⟨n, rfl, hn⟩, rfl, rfl⟩, rfl⟩, rfl⟩ := h
  obtain ⟨v, rfl, hv⟩ := wf_nat (m := 4294967296) hn rfl (by decide)
  exact ⟨i, port, v, hv, rfl⟩
theorem hasDisk {xs : List AV} (h : Has diskSh xs) : ∃ (bs : List UInt8) (p : Nat), bs.length = 128 * p ∧ p ≤ maxLen ∧ xs = [csl 128 (bs.map ofB)] := by
  obtain ⟨ls, rfl, h2, h3⟩ := h
  obtain ⟨bs, e1, e2⟩ := hasPages ls h2
  exact ⟨bs, ls.length, e1, h3, by rw [e2]; rfl⟩
theorem two {α : Type} {ds : List α} {n : Nat} (h : ds.length = n) (hn : n = 2) : ∃ d1 d2, ds = [d1, d2] := by
  subst hn
  rcases ds with _ | ⟨x0, _ | ⟨x1, _ | ⟨x2, t⟩⟩⟩ <;> simp at h
  exact ⟨x0, x1, rfl⟩
theorem five {α : Type} {ds : List α} {n : Nat} (h : ds.length = n) (hn : n = 5) : ∃ d1 d2 d3 d4 d5, ds = [d1, d2, d3, d4, d5] := by
  subst hn
  rcases ds with _ | ⟨x0, _ | ⟨x1, _ | ⟨x2, _ | ⟨x3, _ | ⟨x4, _ | ⟨x5, t⟩⟩⟩⟩⟩⟩ <;> simp at h
  exact ⟨x0, x1, x2, x3, x4, rfl⟩
theorem each2 {s0 s1 : Sh} {xss : List (List AV)} (h : Each [s0, s1] xss) : ∃ x0 x1, xss = [x0, x1] ∧ Has s0 x0 ∧ Has s1 x1 := by
  rcases xss with _ | ⟨x0, _ | ⟨x1, _ | ⟨x2, t⟩⟩⟩
  · exact h.elim
  · exact h.2.elim
  · exact ⟨x0, x1, rfl, h.1, h.2.1⟩
  · exact h.2.2.elim
theorem each5 {s0 s1 s2 s3 s4 : Sh} {xss : List (List AV)} (h : Each [s0, s1, s2, s3, s4] xss) : ∃ x0 x1 x2 x3 x4, xss = [x0, x1, x2, x3, x4] ∧ Has s0 x0 ∧ Has s1 x1 ∧ Has s2 x2 ∧ Has s3 x3 ∧ Has s4 x4 := by
  rcases xss with _ | ⟨x0, _ | ⟨x1, _ | ⟨x2, _ | ⟨x3, _ | ⟨x4, _ | ⟨x5, t⟩⟩⟩⟩⟩⟩
  · exact h.elim
  · exact h.2.elim
  · exact h.2.2.elim
  · exact h.2.2.2.elim
  · exact h.2.2.2.2.elim
  · exact ⟨x0, x1, x2, x3, x4, rfl, h.1, h.2.1, h.2.2.1, h.2.2.2.1, h.2.2.2.2.1⟩
  · exact h.2.2.2.2.2.elim
end Go.Proofs.Ythplidagfcdibaa
