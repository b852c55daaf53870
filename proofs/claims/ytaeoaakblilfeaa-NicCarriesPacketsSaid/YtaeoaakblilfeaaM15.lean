/- Part 15 of the texts on which proofs about this seat rest: each says what it proves at its own head. No condition. -/
import Derived.Test.YtaeoaakblilfeaaM14
set_option linter.unusedVariables false
set_option linter.unusedSimpArgs false
/- What a device sends: the model; the reference's send. Condition: the memory is valid, the ring is there, the position is in it. -/
namespace Go.Proofs.Ytaeoaakblilfeaa
open Go.Abs
variable {k : Nat}
def ptsOf (m : List UInt8) (b s i : Nat) : List Pt := (takeL m b s i).map (ptOf m b)
theorem fstR_lt {m : List UInt8} {b s pos : Nat} (hs : 0 < s) : ∀ (f j : Nat), (fstR m b s pos f j).2 = true → (fstR m b s pos f j).1 < s
  | 0, j, h => by cases h
  | f + 1, j, h => by
    unfold fstR at h ⊢
    split
    · exact Nat.mod_lt _ hs
    · next hn => rw [if_neg hn] at h; exact fstR_lt hs f (j + 1) h
theorem take_rv {m : List UInt8} {b s i : Nat} (h : RV m b s) (hi : i < s) : RV (takeM m b s i) b s := by
  by_cases he : takeE m b s i = 0
  · obtain ⟨h1, h2, _⟩ := take_good hi he
    rw [h2]; exact h.markB fun j hj => (h1.one j hj).1
  · obtain ⟨_, h2, _⟩ := take_bad he
    rw [h2]; split
    · exact h.mark1 hi
    · exact h
theorem markB_len {b s w : Nat} : ∀ {js : List Nat} {m : List UInt8}, RV m b s → (∀ j ∈ js, j < s) → (markB m b w js).length = m.length
  | [], _, _, _ => rfl
  | j :: js, m, h, hj => by
    have hjs := hj j List.mem_cons_self
    have hle := h.le
    have := markB_len (w := w) (h.mark1 (w := w) hjs) fun x hx => hj x (List.mem_cons_of_mem _ hx)
    rw [show markB m b w (j :: js) = markB (mark1 b w m j) b w js from rfl, this]
    exact mark1_length (by omega)
structure PO (M : List UInt8) (l : List Pt) : Prop where
  ne : 1 ≤ l.length
  len : l.length ≤ 4
  one : ∀ q ∈ l, 1 ≤ q.n ∧ q.n ≤ 512 ∧ q.a + q.n ≤ M.length
theorem pts_ok {m : List UInt8} {b s i : Nat} (h : RV m b s) (hi : i < s) (he : takeE m b s i = 0) : PO (takeM m b s i) (ptsOf m b s i) := by
  obtain ⟨h1, h2, h3⟩ := take_good hi he
  have := h1.len
  refine ⟨?_, by unfold ptsOf; rw [List.length_map]; omega, fun q hq => ?_⟩
  · cases hq : takeL m b s i with
    | nil => rw [hq] at h3; cases h3
    | cons j js => unfold ptsOf; rw [hq]; simp
  · obtain ⟨x, hx, rfl⟩ := List.mem_map.1 hq
    obtain ⟨_, _, o3, o4, o5⟩ := h1.one x hx
    have hl : (takeM m b s i).length = m.length := by rw [h2]; exact markB_len h fun j hj => (h1.one j hj).1
    rw [hl]
    exact ⟨o3, o4, o5⟩
theorem PO.lt {M : List UInt8} {l : List Pt} (h : PO M l) : ∀ q ∈ l, q.n < 4294967296 := fun q hq => by have := h.one q hq; omega
theorem PO.inR {M : List UInt8} {l : List Pt} (h : PO M l) : InR M.length l := fun q hq _ => (h.one q hq).2.2
theorem PO.inM {M : List UInt8} {l : List Pt} (h : PO M l) : InM M.length l := fun q hq _ => (h.one q hq).2.2
structure TS where
  m : List UInt8
  o : List (List UInt8)
  r : Bool
  a : Nat
  st : Nat
def tserve (b s i : Nat) (x : TS) : TS :=
  if takeE x.m b s i ≠ 0 then ⟨takeM x.m b s i, x.o, true, (i + 1) % s, takeE x.m b s i⟩
  else if mfE (ptsOf x.m b s i) false 0 512 ≠ 0 then ⟨mark1 b (4 + (mfE (ptsOf x.m b s i) false 0 512 - 160)) (takeM x.m b s i) i, x.o, true, (i + 1) % s, mfE (ptsOf x.m b s i) false 0 512⟩
  else ⟨markB (takeM x.m b s i) b 3 (takeL x.m b s i), x.o ++ [gath (takeM x.m b s i) (ptsOf x.m b s i)], true, (i + 1) % s, x.st⟩
def trun (b s : Nat) : Nat → TS → TS
  | 0, x => x
  | n + 1, x => if (fstR x.m b s x.a s 0).2 = false then x else trun b s n (tserve b s (fstR x.m b s x.a s 0).1 x)
structure TI (b s : Nat) (x : TS) : Prop where
  m : RV x.m b s
  a : x.a < s
theorem mfE_cases (l : List Pt) (w : Bool) (lo hi : Nat) : mfE l w lo hi = 0 ∨ (161 ≤ mfE l w lo hi ∧ mfE l w lo hi ≤ 164) := by
  unfold mfE
  (repeat' split) <;> omega
theorem tserve_ti {b s i : Nat} {x : TS} (h : TI b s x) (hi : i < s) : TI b s (tserve b s i x) := by
  have hm := take_rv h.m hi
  have hs := h.a
  have hlt : (i + 1) % s < s := Nat.mod_lt _ (by omega)
  unfold tserve
  split
  · exact ⟨hm, hlt⟩
  · next he =>
    split
    · exact ⟨hm.mark1 hi, hlt⟩
    · exact ⟨hm.markB fun j hj => ((take_good hi (Decidable.not_not.1 he)).1.one j hj).1, hlt⟩
theorem tserve_o {b s i : Nat} {x : TS} : (tserve b s i x).o.length ≤ x.o.length + 1 := by
  unfold tserve
  split
  · exact Nat.le_succ _
  · split
    · exact Nat.le_succ _
    · simp
def outV (o : List (List UInt8)) : List AV := o.map .str
theorem outV_length (o : List (List UInt8)) : (outV o).length = o.length := List.length_map ..
theorem outV_snoc (o : List (List UInt8)) (y : List UInt8) : outV o ++ [.str y] = outV (o ++ [y]) := by simp [outV]
abbrev doC (tb ts rb rs : Nat) (ta ra st dr : Int) (m : List UInt8) (v : Nat) (o : AV) (r ok : Bool) : List AV :=
  [.int .u32 tb, .int .u32 ts, .int .u32 rb, .int .u32 rs, .int .i64 ta, .int .i64 ra, .int .i64 st, .int .i64 dr, csl 128 (m.map ofB), .int .u32 v, o, .bool r, .bool ok]
def OB (br z : Nat) (o : List (List UInt8)) : Prop := (br = 1 ∧ z = 0 ∧ o = []) ∨ ((br = 3 ∨ 4 ≤ br) ∧ z = 1)
theorem OB.src {br z : Nat} {o : List (List UInt8)} (h : OB br z o) (H : Hp) : src H 1 (.sl br z (outV o)) = some (outV o) := by
  rcases h with ⟨rfl, rfl, rfl⟩ | ⟨_, rfl⟩
  · show (if (0 : Nat) = 1 ∨ outV [] = [] then some (outV []) else none) = _
    exact if_pos (show (0 : Nat) = 1 ∨ outV [] = [] from Or.inr rfl)
  · exact src_sl _ _ _ _
theorem OB.canon {br z : Nat} {o : List (List UInt8)} (h : OB br z o) : canonCell (.sl br z (outV o)) = csl 1 (outV o) := by
  rcases h with ⟨rfl, rfl, rfl⟩ | ⟨h, rfl⟩
  · rfl
  · exact if_neg (by omega)
theorem q_retO {s : List (Nat × AV)} {os : List (Nat × List AV)} {T : Nat → AV} {H : Hp} {E : Nat → Option TypeId} {n c : Nat} {lv : Nat → Bool} {fn : IFn} {e : Ex} {tb ts rb rs v br z : Nat} {ta ra st dr : Int} {m : List UInt8} {o : List (List UInt8)} {r ok : Bool} (he : e = .norm ∨ e = .ret)
    (h1 : resS s os fn.res = some [.agg (doC tb ts rb rs ta ra st dr m v (.sl br z (outV o)) r ok)]) (hz : (fn.res.all fun | .cell _ sz ag => !(ag && Nat.beq sz 0) | _ => true) = true) (ho : OB br z o) :
    Ret fn (.agg (doC tb ts rb rs ta ra st dr m v (csl 1 (outV o)) r ok)) e ⟨slots s T, objs os H, E, n, lv, c⟩ := by
  refine q_ret he h1 hz rfl rfl ?_ ?_
  · rw [← ho.canon]; rfl
  · simp [AV.flat, flatL, csl, doC]
set_option maxRecDepth 100000 in
set_option maxHeartbeats 4000000 in
theorem s38 {tb ts rb rs v ta0 st : Nat} {ra dr : Int} {m : List UInt8} {r ok : Bool} (h : RV m tb ts) (ha : ta0 < ts) :
    Calls0 (evCall FN (k + 10600)) 38 [.agg (doC tb ts rb rs ta0 ra st dr m v (.sl 1 0 []) r ok)]
      (.agg (doC tb ts rb rs (trun tb ts ts ⟨m, [], r, ta0, st⟩).a ra (trun tb ts ts ⟨m, [], r, ta0, st⟩).st dr (trun tb ts ts ⟨m, [], r, ta0, st⟩).m v (csl 1 (outV (trun tb ts ts ⟨m, [], r, ta0, st⟩).o)) (trun tb ts ts ⟨m, [], r, ta0, st⟩).r ok)) := by
  have hb : tb < 4294967296 := by have := h.le; have := h.m.le; omega
  have hs := h.hs
  have hs' : ts < 4294967296 := by omega
  have hws : IntKind.i64.wrap (ts : Int) = ts := w64 (by omega) (by omega)
  have hck : chkN m.length tb ts = 0 := by
    unfold chkN
    rw [if_pos ⟨h.hs, h.hb, h.le⟩]
  have c21 : Calls0 (evCall FN (k + 10599)) 21 [memV m, ringV tb ts] (.int .i64 (chkN m.length tb ts)) := (s21 (k := 0) h.m hb hs').fuel (by omega)
  rw [hck] at c21
  generalize hR : trun tb ts ts ⟨m, [], r, ta0, st⟩ = R
  refine q_call0 fn38 fun T H E lv => ?_
  repeat (first | refine stN ?_ | intro E)
  refine q_loop (α := Nat × TS × Nat × Nat) (LInv.mk (fun p => p.1 ≤ ts ∧ TI tb ts p.2.1 ∧ p.2.1.o.length ≤ p.1 ∧ OB p.2.2.1 p.2.2.2 p.2.1.o ∧ trun tb ts (ts - p.1) p.2.1 = R) (fun p => ts - p.1)
    (fun p => [(4, .int .i64 (p.1 : Int)), (2, .ref 1 0), (1, .ref 0 0)])
    (fun p => [(1, [.int .u32 0, .int .u32 0, .int .u32 0, .int .u32 0, .int .i64 0, .int .i64 0, .int .i64 0, .int .i64 0, .sl 0 0 [], .int .u32 0, .sl 0 0 [], .bool false, .bool false]), (0, doC tb ts rb rs p.2.1.a ra p.2.1.st dr p.2.1.m v (.sl p.2.2.1 p.2.2.2 (outV p.2.1.o)) p.2.1.r ok)]))
    (fun _ _ c => 4 ≤ c) (0, ⟨m, [], r, ta0, st⟩, 1, 0) ⟨Nat.zero_le _, ⟨h, ha⟩, Nat.zero_le _, .inl ⟨rfl, rfl, rfl⟩, hR⟩ (Nat.le_refl _) (show ts - 0 < k + 10599 by omega) ⟨rfl, rfl, rfl, trivial⟩ ⟨rfl, rfl, trivial⟩ ?_
  rintro ⟨i, x, br, z⟩ lv c T H E hP hc4 hμ
  obtain ⟨hP, hN, hol, hO, hRx⟩ : i ≤ ts ∧ TI tb ts x ∧ x.o.length ≤ i ∧ OB br z x.o ∧ trun tb ts (ts - i) x = R := hP
  have hc4 : 4 ≤ c := hc4
  clear hμ hR
  dsimp only
  obtain ⟨xm, xo, xr, xa, xst⟩ := x
  obtain ⟨n1, n2⟩ := hN
  dsimp only at n1 n2 hRx hol hO ⊢
  rcases Nat.lt_or_ge i ts with hi | hi
  · have hsi : ts - i = (ts - (i + 1)) + 1 := by omega
    rw [hsi] at hRx
    unfold trun at hRx
    dsimp only at hRx
    obtain ⟨⟨y, w⟩, hyz⟩ : ∃ q, fstR xm tb ts xa ts 0 = q := ⟨_, rfl⟩
    have hylt := fstR_lt (m := xm) (b := tb) (s := ts) (pos := xa) (by omega) ts 0
    rw [hyz] at hRx hylt
    dsimp only at hRx hylt
    have c40 : Calls0 (evCall FN (k + 10599)) 40 [memV xm, ringV tb ts, .int .i64 xa] (.agg [.int .i64 y, .bool w]) := (s40 (k := 0) n1 (by omega) hyz).fuel (by omega)
    cases w
    · rw [if_pos rfl] at hRx
      subst hRx
      repeat (first | refine stN ?_ | intro E)
      apply n_ret
      repeat (first | refine stN ?_ | intro E)
      exact q_retO (.inr rfl) rfl rfl hO
    · rw [if_neg (by decide)] at hRx
      have hy := hylt rfl
      have c41 : Calls0 (evCall FN (k + 10599)) 41 [memV xm, ringV tb ts, .int .i64 y] (.agg [csl 128 ((takeM xm tb ts y).map ofB), csl 4 (partsV xm tb (takeL xm tb ts y)), .int .i64 (takeE xm tb ts y)]) := (s41 (k := 0) n1 hy).fuel (by omega)
      have hni := tserve_ti (x := ⟨xm, xo, xr, xa, xst⟩) ⟨n1, n2⟩ hy
      have hrv := take_rv n1 hy
      have hmod : evBin .rem (.int .i64 ((y + 1 : Nat) : Int)) (.int .i64 (ts : Int)) = some (.int .i64 (((y + 1) % ts : Nat) : Int)) := rem_nn (by omega)
      by_cases he : takeE xm tb ts y ≠ 0
      · have hsv : tserve tb ts y ⟨xm, xo, xr, xa, xst⟩ = ⟨takeM xm tb ts y, xo, true, (y + 1) % ts, takeE xm tb ts y⟩ := if_pos he
        rw [hsv] at hni hRx
        generalize takeM xm tb ts y = M at c41 hni hRx hrv
        generalize partsV xm tb (takeL xm tb ts y) = L at c41
        generalize takeE xm tb ts y = e at c41 hni hRx he
        clear hsv
        repeat (first | refine stN ?_ | intro E)
        exact n_again (i + 1, ⟨M, xo, true, (y + 1) % ts, e⟩, br, z) ⟨by omega, hni, show xo.length ≤ i + 1 by omega, hO, hRx⟩ hc4 (show ts - (i + 1) < ts - i by omega) ⟨rfl, rfl, rfl, trivial⟩ ⟨⟨rfl, rfl⟩, ⟨rfl, rfl⟩, trivial⟩
      · have he : takeE xm tb ts y = 0 := by omega
        have hok := pts_ok n1 hy he
        have hsv : tserve tb ts y ⟨xm, xo, xr, xa, xst⟩ = _ := if_neg (by simpa using he)
        have hlen := hok.len
        have c42 : Calls0 (evCall FN (k + 10599)) 42 [csl 4 (ptsV (ptsOf xm tb ts y)), .bool false, .int .i64 0, .int .i64 512] (.int .i64 (mfE (ptsOf xm tb ts y) false 0 512)) := (s42 (k := 0) (lo := 0) (hi := 512) (by omega) hok.lt).fuel (by omega)
        rw [he, show partsV xm tb (takeL xm tb ts y) = ptsV (ptsOf xm tb ts y) from parts_pts _ _ _] at c41
        have hjs : ∀ j ∈ takeL xm tb ts y, j < ts := fun j hj => ((take_good hy he).1.one j hj).1
        have hjl : (takeL xm tb ts y).length ≤ 4 := by have := hok.len; unfold ptsOf at this; rwa [List.length_map] at this
        have c45 : Calls0 (evCall FN (k + 10599)) 45 [memV (takeM xm tb ts y), ringV tb ts, csl 4 (partsV xm tb (takeL xm tb ts y))] (memV (markB (takeM xm tb ts y) tb 3 (takeL xm tb ts y))) := (s45 (k := 0) hrv hjs (by omega)).fuel (by omega)
        rw [show partsV xm tb (takeL xm tb ts y) = ptsV (ptsOf xm tb ts y) from parts_pts _ _ _] at c45
        have c69 : Calls0 (evCall FN (k + 10599)) 69 [memV (takeM xm tb ts y), csl 4 (ptsV (ptsOf xm tb ts y))] (.str (gath (takeM xm tb ts y) (ptsOf xm tb ts y))) := (s69 (k := 0) hrv.m hok.inR (by omega)).fuel (by omega)
        by_cases hf : mfE (ptsOf xm tb ts y) false 0 512 ≠ 0
        · rw [if_pos hf] at hsv
          rw [hsv] at hni hRx
          have hfc := (mfE_cases (ptsOf xm tb ts y) false 0 512).resolve_left hf
          have c43 : Calls0 (evCall FN (k + 10599)) 43 [memV (takeM xm tb ts y), ringV tb ts, .int .i64 y, .int .i64 (mfE (ptsOf xm tb ts y) false 0 512)] (memV (mark1 tb (4 + (mfE (ptsOf xm tb ts y) false 0 512 - 160)) (takeM xm tb ts y) y)) := (s43 (k := 0) hrv hy (by omega)).fuel (by omega)
          clear c45 c69 hsv hok
          dsimp only at hni hRx
          generalize mfE (ptsOf xm tb ts y) false 0 512 = f at *
          generalize ptsV (ptsOf xm tb ts y) = L at *
          generalize mark1 tb (4 + (f - 160)) (takeM xm tb ts y) y = M2 at *
          generalize takeM xm tb ts y = M at *
          repeat (first | refine stN ?_ | intro E)
          exact n_again (i + 1, ⟨M2, xo, true, (y + 1) % ts, f⟩, br, z) ⟨by omega, hni, show xo.length ≤ i + 1 by omega, hO, hRx⟩ hc4 (show ts - (i + 1) < ts - i by omega) ⟨rfl, rfl, rfl, trivial⟩ ⟨⟨rfl, rfl⟩, ⟨rfl, rfl⟩, trivial⟩
        · rw [if_neg hf] at hsv
          rw [hsv] at hni hRx
          have hf : mfE (ptsOf xm tb ts y) false 0 512 = 0 := by omega
          rw [hf] at c42
          clear hsv hok hf
          dsimp only at hni hRx
          generalize gath (takeM xm tb ts y) (ptsOf xm tb ts y) = G at *
          generalize markB (takeM xm tb ts y) tb 3 (takeL xm tb ts y) = M2 at *
          generalize takeM xm tb ts y = M at *
          generalize ptsV (ptsOf xm tb ts y) = L at *
          repeat (first | refine stN ?_ | intro E)
          apply p_appX
          · exact rfl
          · exact rfl
          · exact fun H => hO.src H
          · exact ⟨by omega, by omega⟩
          · rw [room_val, outV_length]; simp only [List.length_nil]; omega
          · exact .three
          · exact hc4
          intro br1 lv1 c1 g1 g2 g3
          rw [List.nil_append]
          repeat (first | refine stN ?_ | intro E)
          apply p_appX
          · exact rfl
          · exact rfl
          · exact fun H => src_sl _ _ _ _
          · exact ⟨by omega, by omega⟩
          · rw [room_val, outV_length]; simp only [List.length_nil, List.length_cons]; omega
          · exact g2
          · omega
          intro br2 lv2 c2 g4 g5 g6
          rw [outV_snoc]
          repeat (first | refine stN ?_ | intro E)
          refine n_again (i + 1, ⟨M2, xo ++ [G], true, (y + 1) % ts, xst⟩, br2, 1) ⟨by omega, hni, ?_, .inr ⟨?_, rfl⟩, hRx⟩ (show 4 ≤ c2 by omega) (show ts - (i + 1) < ts - i by omega) ⟨rfl, rfl, rfl, trivial⟩ ⟨⟨rfl, rfl⟩, ⟨rfl, ?_⟩, trivial⟩
          · show (xo ++ [G]).length ≤ i + 1
            rw [List.length_append, List.length_singleton]; omega
          · rcases g5 with g | g
            · exact .inl g
            · exact .inr g.1
          · rfl
  · have : ts - i = 0 := by omega
    rw [this] at hRx
    subst hRx
    repeat (first | refine stN ?_ | intro E)
    apply n_exit
    apply b_exit
    repeat (first | refine stN ?_ | intro E)
    exact q_retO (.inr rfl) rfl rfl hO
end Go.Proofs.Ytaeoaakblilfeaa
