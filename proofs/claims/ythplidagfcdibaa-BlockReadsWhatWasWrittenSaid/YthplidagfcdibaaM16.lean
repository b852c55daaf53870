/- Part 16 of the texts on which proofs about this seat rest: each says what it proves at its own head. No condition. -/
import Derived.Test.YthplidagfcdibaaM15
set_option linter.unusedVariables false
set_option linter.unusedSimpArgs false
/- What an instruction of the device does, by the program. Condition: the memory is valid; the numbers are words. -/
namespace Go.Proofs.Ythplidagfcdibaa
open Go.Abs
variable {k : Nat}
theorem writes_atB {F : CallF} {f : FuncId} {args : List AV} {os : List (Nat × List AV)} {H : Hp} {n : Nat} {lv : Nat → Bool} {c : Nat} {E : Nat → Option TypeId} {R : AV} {id i : Nat} {cells : List AV} {V : List AV → Prop} (ho : lkO os i = some cells) (h : WritesB F f args [(i, cells)] (objs os H) n lv c E R id V) : WritesB F f args os H n lv c E R id V := by
  have e : objs [(i, cells)] (objs os H) = objs os H := by
    funext j
    simp only [objs, upd]
    split
    · next hj => rw [hj, lkO_objs ho]
    · rfl
  obtain ⟨h⟩ := h
  rw [e] at h
  exact ⟨h⟩
/-- A device, and what it has done. -/
structure PO where
  b : Nat
  s : Nat
  a : Nat
  st : Int
  f : List RI
  m : List UInt8
  v : Nat
  r : Bool
  ok : Bool
def port1 (b s D : Nat) (x : NS) (inn : Bool) (port : Int) (val : Nat) : PO :=
  if inn then
    if port = 48 then ⟨b, s, x.a, x.st, x.f, x.m, b, x.r, true⟩
    else if port = 49 then ⟨b, s, x.a, x.st, x.f, x.m, s, x.r, true⟩
    else if port = 51 then ⟨b, s, x.a, 0, x.f, x.m, x.st.toNat, x.r, true⟩
    else ⟨b, s, x.a, x.st, x.f, x.m, 0, x.r, false⟩
  else
    if port = 48 then ⟨val, s, 0, x.st, x.f, x.m, 0, x.r, true⟩
    else if port = 49 then ⟨b, val, 0, x.st, x.f, x.m, 0, x.r, true⟩
    else if port = 50 then ⟨b, s, (ntf b s D x).a, (ntf b s D x).st, (ntf b s D x).f, (ntf b s D x).m, 0, (ntf b s D x).r, true⟩
    else ⟨b, s, x.a, x.st, x.f, x.m, 0, x.r, false⟩
abbrev poB (d : List UInt8) (p : PO) : List AV := [.int .u32 p.b, .int .u32 p.s, .int .i64 p.a, .int .i64 p.st, csl 128 (d.map ofB), csl 5 (risV p.f)]
abbrev poD (p : PO) : List AV := [csl 128 (p.m.map ofB), .int .u32 p.v, .sl 1 0 [], .bool p.r, .bool p.ok]
set_option maxRecDepth 100000 in
set_option maxHeartbeats 4000000 in
theorem s14i {b s a val : Nat} {st port : Int} {d m : List UInt8} {f : List RI} (hst : 0 ≤ st ∧ st < 4294967296) :
    Calls0 (evCall FN (k + 10800)) 14 [.agg [.int .u32 b, .int .u32 s, .int .i64 a, .int .i64 st, csl 128 (d.map ofB), csl 5 (risV f)], memV m, .agg [.bool true, .int .i64 port, .int .u32 val]]
      (.tup [.agg (poB d (port1 b s ((d.map ofB).length / 128) ⟨a, st, f, m, false⟩ true port val)), .agg (poD (port1 b s ((d.map ofB).length / 128) ⟨a, st, f, m, false⟩ true port val))]) := by
  have hws : IntKind.u32.wrap st = (st.toNat : Int) := by rw [w32 (by omega) (by omega)]; omega
  refine q_call0 fn14 fun T H E lv => ?_
  unfold port1
  rw [if_pos rfl]
  by_cases h1 : port = 48
  · subst h1
    rw [if_pos rfl]
    repeat (first | refine stN ?_ | intro E)
    exact q_ret (.inr rfl) rfl rfl rfl rfl rfl rfl
  · rw [if_neg h1]
    by_cases h2 : port = 49
    · subst h2
      rw [if_pos rfl]
      repeat (first | refine stN ?_ | intro E)
      exact q_ret (.inr rfl) rfl rfl rfl rfl rfl rfl
    · rw [if_neg h2]
      by_cases h3 : port = 51
      · subst h3
        rw [if_pos rfl]
        repeat (first | refine stN ?_ | intro E)
        exact q_ret (.inr rfl) rfl rfl rfl rfl rfl rfl
      · rw [if_neg h3]
        repeat (first | refine stN ?_ | intro E)
        exact q_ret (.inr rfl) rfl rfl rfl rfl rfl rfl
set_option maxRecDepth 100000 in
set_option maxHeartbeats 4000000 in
theorem s14o {b s a val : Nat} {st port : Int} {d m : List UInt8} {f : List RI} (h : VM m) (hb : b < 4294967296) (hs : s < 4294967296) (ha : chkN m.length b s = 0 → a < s) (hd : (d.map ofB).length / 128 ≤ 64) (hf : f.length ≤ 8) :
    Calls0 (evCall FN (k + 10800)) 14 [.agg [.int .u32 b, .int .u32 s, .int .i64 a, .int .i64 st, csl 128 (d.map ofB), csl 5 (risV f)], memV m, .agg [.bool false, .int .i64 port, .int .u32 val]]
      (.tup [.agg (poB d (port1 b s ((d.map ofB).length / 128) ⟨a, st, f, m, false⟩ false port val)), .agg (poD (port1 b s ((d.map ofB).length / 128) ⟨a, st, f, m, false⟩ false port val))]) := by
  refine q_call0 fn14 fun T H E lv => ?_
  unfold port1
  rw [if_neg (by decide)]
  by_cases h1 : port = 48
  · subst h1
    rw [if_pos rfl]
    repeat (first | refine stN ?_ | intro E)
    apply p_callvR (os' := [(5, wrkC val s 0 st d (csl 5 (risV f)) m 0 false true), (3, [.int .u32 0, .int .u32 0, .int .i64 0, .int .i64 0, .sl 0 0 [], .sl 0 0 []]), (4, [.sl 0 0 [], .int .u32 0, .sl 0 0 [], .bool false, .bool false])])
    · exact rfl
    · exact rfl
    · exact fun H E => writes_at rfl ((s39 (k := 0) rfl).fuel (by omega))
    · exact ⟨.inl ⟨rfl, rfl⟩, .inr ⟨rfl, rfl, rfl, rfl⟩, .inr ⟨rfl, rfl, rfl, rfl⟩, trivial⟩
    intro H2
    repeat (first | refine stN ?_ | intro E)
    exact q_ret (.inr rfl) rfl rfl rfl rfl rfl rfl
  · rw [if_neg h1]
    by_cases h2 : port = 49
    · subst h2
      rw [if_pos rfl]
      repeat (first | refine stN ?_ | intro E)
      apply p_callvR (os' := [(5, wrkC b val 0 st d (csl 5 (risV f)) m 0 false true), (3, [.int .u32 0, .int .u32 0, .int .i64 0, .int .i64 0, .sl 0 0 [], .sl 0 0 []]), (4, [.sl 0 0 [], .int .u32 0, .sl 0 0 [], .bool false, .bool false])])
      · exact rfl
      · exact rfl
      · exact fun H E => writes_at rfl ((s40 (k := 0) rfl).fuel (by omega))
      · exact ⟨.inl ⟨rfl, rfl⟩, .inr ⟨rfl, rfl, rfl, rfl⟩, .inr ⟨rfl, rfl, rfl, rfl⟩, trivial⟩
      intro H2
      repeat (first | refine stN ?_ | intro E)
      exact q_ret (.inr rfl) rfl rfl rfl rfl rfl rfl
    · rw [if_neg h2]
      by_cases h3 : port = 50
      · subst h3
        rw [if_pos rfl]
        generalize hR : ntf b s ((d.map ofB).length / 128) ⟨a, st, f, m, false⟩ = R
        repeat (first | refine stN ?_ | intro E)
        apply p_callvB (os' := fun v => [(5, v), (3, [.int .u32 0, .int .u32 0, .int .i64 0, .int .i64 0, .sl 0 0 [], .sl 0 0 []]), (4, [.sl 0 0 [], .int .u32 0, .sl 0 0 [], .bool false, .bool false])]) (V := fun cs => ∃ br z, FB br z R.f ∧ cs = wrkC b s R.a R.st d (.sl br z (risV R.f)) R.m 0 R.r true)
        · exact rfl
        · exact rfl
        · exact fun H E => writes_atB rfl ((ntf_prog (k := 0) (Nat.le_refl _) h hb hs ha hd hf hR).fuel (by omega))
        · exact fun v hv => ⟨.inl ⟨rfl, rfl⟩, .inr ⟨rfl, rfl, rfl, rfl⟩, .inr ⟨rfl, rfl, rfl, rfl⟩, trivial⟩
        rintro v H2 lv' c' ⟨br, z, hB, rfl⟩ hc
        repeat (first | refine stN ?_ | intro E)
        rcases hB with ⟨rfl, rfl⟩ | ⟨h4, rfl⟩
        · exact q_ret (.inr rfl) rfl rfl rfl rfl rfl rfl
        · obtain ⟨q, rfl⟩ : ∃ q, br = q + 4 := ⟨br - 4, by omega⟩
          exact q_ret (.inr rfl) rfl rfl rfl rfl rfl rfl
      · rw [if_neg h3]
        have hg : ∀ (x y z : AV), getM 0 (.int .i64 port) [.int .i64 48, x, .int .i64 49, y, .int .i64 50, z] = some none := by
          intro x y z
          have e1 : (port == 48) = false := by simpa using h1
          have e2 : (port == 49) = false := by simpa using h2
          have e3 : (port == 50) = false := by simpa using h3
          simp only [getM, eqK, if_true, e1, e2, e3]
        repeat (first | refine stN ?_ | intro E)
        apply p_mget2
        · exact rfl
        · exact rfl
        · exact rfl
        · exact rfl
        · exact rfl
        · exact hg _ _ _
        repeat (first | refine stN ?_ | intro E)
        exact q_ret (.inr rfl) rfl rfl rfl rfl rfl rfl
end Go.Proofs.Ythplidagfcdibaa

/- What an instruction of the device does, by the reference. Condition: the memory is valid; the numbers are words. -/
namespace Go.Proofs.Ythplidagfcdibaa
open Go.Abs
variable {k : Nat}
abbrev poG (d : List UInt8) (p : PO) : List AV := gotC p.b p.s p.a p.st d p.f p.m p.v p.r p.ok
set_option maxRecDepth 100000 in
set_option maxHeartbeats 4000000 in
theorem s16i {b s a val : Nat} {st port : Int} {d m : List UInt8} {f : List RI} (hst : 0 ≤ st ∧ st < 4294967296) :
    Calls0 (evCall FN (k + 10800)) 16 [.agg [.int .u32 b, .int .u32 s, .int .i64 a, .int .i64 st, csl 128 (d.map ofB), csl 5 (risV f)], memV m, .agg [.bool true, .int .i64 port, .int .u32 val]]
      (.agg (poG d (port1 b s ((d.map ofB).length / 128) ⟨a, st, f, m, false⟩ true port val))) := by
  have hws : IntKind.u32.wrap st = (st.toNat : Int) := by rw [w32 (by omega) (by omega)]; omega
  refine q_call0 fn16 fun T H E lv => ?_
  unfold port1
  rw [if_pos rfl]
  by_cases h1 : port = 48
  · subst h1
    rw [if_pos rfl]
    repeat (first | refine stN ?_ | intro E)
    exact q_ret (.inr rfl) rfl rfl rfl rfl rfl rfl
  · rw [if_neg h1]
    by_cases h2 : port = 49
    · subst h2
      rw [if_pos rfl]
      repeat (first | refine stN ?_ | intro E)
      exact q_ret (.inr rfl) rfl rfl rfl rfl rfl rfl
    · rw [if_neg h2]
      by_cases h3 : port = 51
      · subst h3
        rw [if_pos rfl]
        repeat (first | refine stN ?_ | intro E)
        exact q_ret (.inr rfl) rfl rfl rfl rfl rfl rfl
      · rw [if_neg h3]
        repeat (first | refine stN ?_ | intro E)
        exact q_ret (.inr rfl) rfl rfl rfl rfl rfl rfl
set_option maxRecDepth 100000 in
set_option maxHeartbeats 4000000 in
theorem s16o {b s a val : Nat} {st port : Int} {d m : List UInt8} {f : List RI} (h : VM m) (hb : b < 4294967296) (hs : s < 4294967296) (ha : chkN m.length b s = 0 → a < s) (hd : (d.map ofB).length / 128 ≤ 64) (hf : f.length ≤ 8) :
    Calls0 (evCall FN (k + 10800)) 16 [.agg [.int .u32 b, .int .u32 s, .int .i64 a, .int .i64 st, csl 128 (d.map ofB), csl 5 (risV f)], memV m, .agg [.bool false, .int .i64 port, .int .u32 val]]
      (.agg (poG d (port1 b s ((d.map ofB).length / 128) ⟨a, st, f, m, false⟩ false port val))) := by
  refine q_call0 fn16 fun T H E lv => ?_
  unfold port1
  rw [if_neg (by decide)]
  by_cases h1 : port = 48
  · subst h1
    rw [if_pos rfl]
    repeat (first | refine stN ?_ | intro E)
    exact q_ret (.inr rfl) rfl rfl rfl rfl rfl rfl
  · rw [if_neg h1]
    by_cases h2 : port = 49
    · subst h2
      rw [if_pos rfl]
      repeat (first | refine stN ?_ | intro E)
      exact q_ret (.inr rfl) rfl rfl rfl rfl rfl rfl
    · rw [if_neg h2]
      by_cases h3 : port = 50
      · subst h3
        rw [if_pos rfl]
        generalize hR : ntf b s ((d.map ofB).length / 128) ⟨a, st, f, m, false⟩ = R
        have c46 : Calls0 (evCall FN (k + 10799)) 46 [.agg (gotC b s a st d f m 0 false true)] (.agg (gotC b s R.a R.st d R.f R.m 0 R.r true)) := (ntf_ref (k := 0) h hb hs ha hd hf hR).fuel (by omega)
        repeat (first | refine stN ?_ | intro E)
        exact q_ret (.inr rfl) rfl rfl rfl rfl rfl rfl
      · rw [if_neg h3]
        repeat (first | refine stN ?_ | intro E)
        exact q_ret (.inr rfl) rfl rfl rfl rfl rfl rfl
end Go.Proofs.Ythplidagfcdibaa

/- A request is finished, whatever its parts say. Condition: the memory is valid, the ring is there, the indices are of the ring. -/
namespace Go.Proofs.Ythplidagfcdibaa
open Go.Abs
variable {k : Nat}
def ix (l : List Pt) : List Nat := l.map (·.i)
theorem ix_take {m : List UInt8} {b w j : Nat} {p : Pt} {l : List Pt} (h : l[j]? = some p) : markB m b w (ix (l.take (j + 1))) = mark1 b w (markB m b w (ix (l.take j))) p.i := by
  have e : ∀ n, ix (l.take n) = (ix l).take n := fun n => by unfold ix; rw [List.map_take]
  rw [e, e]
  exact markB_take (by unfold ix; rw [List.getElem?_map, h]; rfl)
theorem rd_pt0 {p : Pt} {j : Nat} {l : List Pt} (h : l[j]? = some p) : rd (ptsV l) (j * 4 + 0) 1 false = some (.int .i64 p.i) := by
  simp only [rd, Bool.false_eq_true, if_false, pts_get (t := 0) (by omega) h]; rfl
theorem rv_ix {m : List UInt8} {b s w : Nat} {l : List Pt} (h : RV m b s) (hj : ∀ p ∈ l, p.i < s) (j : Nat) : RV (markB m b w (ix (l.take j))) b s := h.markB fun x hx => by
  obtain ⟨p, hp, rfl⟩ := List.mem_map.1 hx
  exact hj p (List.mem_of_mem_take hp)
set_option maxRecDepth 100000 in
theorem s45p {m : List UInt8} {b s : Nat} {l : List Pt} (h : RV m b s) (hj : ∀ p ∈ l, p.i < s) (hn : l.length ≤ 100) : Calls0 (evCall FN (k + 10400)) 45 [memV m, ringV b s, csl 4 (ptsV l)] (memV (markB m b 3 (ix l))) := by
  have hl := h.m.le
  have hs := h.hs
  have hle := h.le
  have hb16 := h.hb
  refine q_call0 fn45 fun T H E lv => ?_
  repeat (first | refine stN ?_ | intro E)
  rw [pts_div]
  refine q_loop (α := Nat) (LInv.mk (fun j => j ≤ l.length) (fun j => l.length - j)
    (fun j => [(11, .int .i64 (j : Int)), (10, .int .i64 (l.length : Int)), (9, csl 4 (ptsV l)), (6, .ref 2 0), (4, .ref 1 0), (3, .ref 0 0)])
    (fun j => [(2, [.sl 0 0 []]), (1, [.int .u32 b, .int .u32 s]), (0, [csl 128 ((markB m b 3 (ix (l.take j))).map ofB)])]))
    (fun _ _ c => c = 4) 0 (Nat.zero_le _) rfl (show l.length - 0 < k + 10399 by omega) ⟨rfl, rfl, rfl, rfl, rfl, rfl, trivial⟩ ⟨rfl, rfl, rfl, trivial⟩ ?_
  rintro j lv c T H E hP rfl hμ
  have hP : j ≤ l.length := hP
  clear hμ
  dsimp only
  rcases Nat.lt_or_ge j l.length with hlt | hge
  · obtain ⟨p, hi⟩ : ∃ i, l[j]? = some i := ⟨_, List.getElem?_eq_getElem hlt⟩
    have his : p.i < s := hj p (List.mem_of_getElem? hi)
    have hr : rd (ptsV l) (j * 4) 4 true = some (.agg [.int .i64 p.i, .int .i64 p.a, .int .i64 p.n, .bool p.w]) := rd_pt hi
    have gi : inB (j : Int) ((ptsV l).length / 4) = some j := inB_n (by rw [pts_div]; omega)
    have hV := rv_ix (w := 3) h hj j
    have c77 : Calls0 (evCall FN (k + 10399)) 77 [memV (markB m b 3 (ix (l.take j))), ringV b s, .int .i64 ((3 : Nat) : Int), csl 1 (intsV [p.i])] (memV (mark1 b 3 (markB m b 3 (ix (l.take j))) p.i)) := (s77 (k := 0) (js := [p.i]) hV (by simp [his]) (by omega) (by simp)).fuel (by omega)
    repeat (first | refine stN ?_ | intro E)
    exact n_again (j + 1) (show j + 1 ≤ l.length by omega) rfl (show l.length - (j + 1) < l.length - j by omega) ⟨rfl, rfl, rfl, rfl, rfl, rfl, trivial⟩ ⟨⟨rfl, rfl⟩, ⟨rfl, rfl⟩, ⟨by rw [ix_take hi]; rfl, rfl⟩, trivial⟩
  · repeat (first | refine stN ?_ | intro E)
    apply n_exit
    apply b_exit
    repeat (first | refine stN ?_ | intro E)
    rw [List.take_of_length_le hge]
    exact q_ret (.inr rfl) rfl rfl rfl rfl rfl rfl
set_option maxRecDepth 100000 in
theorem s83p {m : List UInt8} {b s w : Nat} {l : List Pt} (h : RV m b s) (hj : ∀ p ∈ l, p.i < s) (hw : w < 4294967296) (hn : l.length ≤ 100) : Calls0 (evCall FN (k + 200)) 83 [memV m, ringV b s, csl 4 (ptsV l), .int .i64 w] (memV (markB m b w (ix l))) := by
  have hl := h.m.le
  have hs := h.hs
  have hle := h.le
  have hb16 := h.hb
  have hdv := pts_div l
  refine q_call0 fn83 fun T H E lv => ?_
  repeat (first | refine stN ?_ | intro E)
  refine q_loop (α := Nat) (LInv.mk (fun j => j ≤ l.length) (fun j => l.length - j)
    (fun j => [(9, .int .i64 (j : Int)), (8, .ref 2 0), (5, .ref 1 0), (4, .ref 0 0), (2, csl 4 (ptsV l)), (3, .int .i64 w)])
    (fun j => [(2, [.sl 0 0 []]), (1, [.int .u32 b, .int .u32 s]), (0, [csl 128 ((markB m b w (ix (l.take j))).map ofB)])]))
    (fun _ _ c => c = 4) 0 (Nat.zero_le _) rfl (show l.length - 0 < k + 199 by omega) ⟨rfl, rfl, rfl, rfl, rfl, rfl, trivial⟩ ⟨rfl, rfl, rfl, trivial⟩ ?_
  rintro j lv c T H E hP rfl hμ
  have hP : j ≤ l.length := hP
  clear hμ
  dsimp only
  rcases Nat.lt_or_ge j l.length with hlt | hge
  · obtain ⟨p, hi⟩ : ∃ i, l[j]? = some i := ⟨_, List.getElem?_eq_getElem hlt⟩
    have his : p.i < s := hj p (List.mem_of_getElem? hi)
    have hr := rd_pt0 hi
    have gi : inB (j : Int) ((ptsV l).length / 4) = some j := inB_n (by rw [pts_div]; omega)
    have hV := rv_ix (w := w) h hj j
    have c102 : Calls0 (evCall FN (k + 199)) 102 [memV (markB m b w (ix (l.take j))), ringV b s, .int .i64 p.i, .int .i64 w] (memV (mark1 b w (markB m b w (ix (l.take j))) p.i)) := (s102 (k := 0) hV his hw).fuel (by omega)
    repeat (first | refine stN ?_ | intro E)
    exact n_again (j + 1) (show j + 1 ≤ l.length by omega) rfl (show l.length - (j + 1) < l.length - j by omega) ⟨rfl, rfl, rfl, rfl, rfl, rfl, trivial⟩ ⟨⟨rfl, rfl⟩, ⟨rfl, rfl⟩, ⟨by rw [ix_take hi]; rfl, rfl⟩, trivial⟩
  · repeat (first | refine stN ?_ | intro E)
    apply n_exit
    apply b_exit
    repeat (first | refine stN ?_ | intro E)
    rw [List.take_of_length_le hge]
    exact q_ret (.inr rfl) rfl rfl rfl rfl rfl rfl
set_option maxRecDepth 100000 in
theorem s50p {m : List UInt8} {b s : Nat} {l : List Pt} (h : RV m b s) (hj : ∀ p ∈ l, p.i < s) (hn : l.length ≤ 100) : Calls0 (evCall FN (k + 201)) 50 [memV m, ringV b s, csl 4 (ptsV l)] (memV (markB m b 3 (ix l))) := by
  have c83 : Calls0 (evCall FN (k + 200)) 83 [memV m, ringV b s, csl 4 (ptsV l), .int .i64 ((3 : Nat) : Int)] (memV (markB m b 3 (ix l))) := s83p h hj (by omega) hn
  refine q_call0 fn50 fun T H E lv => ?_
  repeat (first | refine stN ?_ | intro E)
  exact q_ret (.inr rfl) rfl rfl rfl rfl rfl rfl
end Go.Proofs.Ythplidagfcdibaa

/- A request that is right, in natural numbers; what completing it does. No condition but what is said. -/
namespace Go.Proofs.Ythplidagfcdibaa
open Go.Abs
variable {k : Nat}
/-- What is known of a request that is right. -/
structure RN (L D : Nat) (b s : Nat) (w : Bool) (q : Nat) (p : Pt) (t : List Pt) : Prop where
  ck : chkN L b s = 0
  q : q < D
  len : t.length ≤ 3
  pos : t ≠ []
  one : ∀ x ∈ p :: t, x.i < s ∧ 1 ≤ x.n ∧ x.n ≤ 512 ∧ x.a + x.n ≤ L
  hw : p.w = false
  hn : p.n = 8
  sum : smI (t.map Pt.toI) ≤ 128
  dir : ∀ x ∈ t, x.w = !w
theorem nat_pts {L s : Nat} : ∀ {l : List PI}, (∀ p ∈ l, okP L s p) → ∃ l' : List Pt, l = l'.map Pt.toI ∧ ∀ x ∈ l', x.i < s ∧ 1 ≤ x.n ∧ x.n ≤ 512 ∧ x.a + x.n ≤ L
  | [], _ => ⟨[], rfl, by simp⟩
  | p :: l, h => by
    obtain ⟨l', h1, h2⟩ := nat_pts (l := l) fun x hx => h x (List.mem_cons_of_mem _ hx)
    obtain ⟨o1, o2, o3, o4, o5, o6⟩ := h p List.mem_cons_self
    obtain ⟨pi, pa, pn, pw⟩ := p
    dsimp only at o1 o2 o3 o4 o5 o6
    refine ⟨⟨pi.toNat, pa.toNat, pn.toNat, pw⟩ :: l', ?_, ?_⟩
    · rw [h1, List.map_cons]
      congr 1
      simp only [Pt.toI, PI.mk.injEq, and_true]
      omega
    · intro x hx
      rcases List.mem_cons.1 hx with rfl | hx
      · dsimp only; omega
      · exact h2 x hx
theorem right_nat {L D : Nat} {r : RI} (h : RightP L D r) : ∃ (q : Nat) (p : Pt) (t : List Pt), r = ⟨r.b, r.s, q, r.w, (p :: t).map Pt.toI⟩ ∧ RN L D r.b r.s r.w q p t := by
  obtain ⟨⟨a1, a2, a3, a4, a5⟩, ⟨b1, _⟩, pp, tt, e1, e2, e3, e4⟩ := h
  obtain ⟨b, s, q, w, l⟩ := r
  dsimp only at a1 a2 a3 a4 a5 b1 e1 e4 ⊢
  subst e1
  obtain ⟨l', h1, h2⟩ := nat_pts b1
  obtain ⟨p, t, rfl⟩ : ∃ p t, l' = p :: t := by
    rcases l' with _ | ⟨p, t⟩
    · cases h1
    · exact ⟨p, t, rfl⟩
  rw [List.map_cons, List.cons.injEq] at h1
  obtain ⟨rfl, rfl⟩ := h1
  refine ⟨q.toNat, p, t, ?_, ?_⟩
  · simp only [RI.mk.injEq, List.map_cons, true_and, and_true]; omega
  · have hne : t ≠ [] := by
      intro e; subst e; simp at a4
    have hfit : ¬ (t.map Pt.toI = [] ∨ 128 < smI (t.map Pt.toI)) := by
      intro hc
      have : fitI (t.map Pt.toI) w = 161 := if_pos hc
      rw [this] at e4; cases e4
    have hany : (t.map Pt.toI).any (fun p => p.w == w) = false := by
      have : fitI (t.map Pt.toI) w = if (t.map Pt.toI).any (fun p => p.w == w) then 164 else 0 := if_neg hfit
      rw [this] at e4
      cases hq : (t.map Pt.toI).any (fun p => p.w == w) with
      | false => rfl
      | true => rw [hq] at e4; cases e4
    refine ⟨a1, by omega, ?_, hne, h2, e2, ?_, by omega, ?_⟩
    · simp at a5; omega
    · have : (p.n : Int) = 8 := e3
      omega
    · intro x hx
      rw [List.any_eq_false] at hany
      have := hany x.toI (List.mem_map.2 ⟨x, hx, rfl⟩)
      have hw : x.toI.w = x.w := rfl
      rw [hw] at this
      cases hxw : x.w <;> cases w <;> simp_all
end Go.Proofs.Ythplidagfcdibaa

/- A request is completed that reads the disk, by the program. Condition: the memory is valid, the request is right. -/
namespace Go.Proofs.Ythplidagfcdibaa
open Go.Abs
variable {k : Nat}
theorem rn_rv {m : List UInt8} {D b s q : Nat} {w : Bool} {p : Pt} {t : List Pt} (h : VM m) (hr : RN m.length D b s w q p t) : RV m b s := chkN_ok h hr.ck
/-- What is read of the disk. -/
def secB (d : List UInt8) (q n : Nat) : List UInt8 := (d.drop (q * 128)).take n
theorem rm_sum : ∀ {t : List Pt} {n : Nat}, (∀ x ∈ t, x.w = true) → ((t.foldl rmS n : Nat) : Int) = (t.map Pt.toI).foldl (fun n p => n + p.n) (n : Int)
  | [], n, _ => rfl
  | x :: t, n, h => by
    have hx := h x List.mem_cons_self
    have e : rmS n x = n + x.n := by unfold rmS; rw [if_pos hx]
    rw [List.foldl_cons, e, rm_sum fun y hy => h y (List.mem_cons_of_mem _ hy)]
    simp only [List.map_cons, List.foldl_cons, Pt.toI]
    congr 1
theorem rm_pos {m : List UInt8} {D b s q : Nat} {p : Pt} {t : List Pt} (hr : RN m.length D b s false q p t) : 1 ≤ rm t ∧ rm t ≤ 128 := by
  have h1 : ∀ x ∈ t, x.w = true := fun x hx => hr.dir x hx
  have e := rm_sum (n := 0) h1
  have h2 := hr.sum
  have h3 : ((rm t : Nat) : Int) = smI (t.map Pt.toI) := e
  have hok : okN (t.map Pt.toI) := by
    intro x hx
    obtain ⟨y, hy, rfl⟩ := List.mem_map.1 hx
    have := hr.one y (List.mem_cons_of_mem _ hy)
    simp only [Pt.toI]; omega
  have h4 := (sm_range (n := 0) hok).1
  rw [List.length_map] at h4
  have h5 := List.length_pos_iff.2 hr.pos
  have h6 : (0 : Int) + t.length ≤ smI (t.map Pt.toI) := h4
  omega
theorem sec_sl {d : List UInt8} {q n : Nat} (h0 : 1 ≤ n) (hn : n ≤ 128) (hq : q * 128 + 128 ≤ d.length) : ∃ br, mkSl (if 128 = n then 3 else 1) 1 (((d.map ofB).take (q * 128 + n * 1)).drop (q * 128 + 0 * 1)) = .sl br 1 ((secB d q n).map ofB) := by
  have e : ((d.map ofB).take (q * 128 + n * 1)).drop (q * 128 + 0 * 1) = (secB d q n).map ofB := by
    unfold secB
    rw [List.map_take, List.map_drop, List.drop_take]
    congr 1 <;> first | omega | (congr 1; omega)
  rw [e]
  have hl : (secB d q n).length = n := by unfold secB; rw [List.length_take, List.length_drop]; omega
  by_cases h : 128 = n
  · rw [if_pos h]; exact ⟨3, rfl⟩
  · rw [if_neg h]
    refine ⟨1, ?_⟩
    cases hx : secB d q n with
    | nil => rw [hx] at hl; simp at hl; omega
    | cons a l => rfl
theorem drop_ris (f : List RI) (j : Nat) : ((risV f).take ((risV f).length / 5 * 5)).drop (j * 5) = risV (f.drop j) := by
  have e : (risV f).length / 5 * 5 = (risV f).length := by rw [ris_div, ris_length]
  rw [e, List.take_length]
  exact fm_drop riV_length f j
set_option maxRecDepth 100000 in
set_option maxHeartbeats 4000000 in
/-- A request that reads the disk is completed. -/
theorem s15r {b0 s0 b s q kk : Nat} {at' st : Int} {d m : List UInt8} {f : List RI} {p : Pt} {t : List Pt} (h : VM m) (hr : RN m.length ((d.map ofB).length / 128) b s false q p t) (hf : f.length ≤ 8) (hk : f[kk]? = some ⟨b, s, q, false, (p :: t).map Pt.toI⟩) :
    Calls0 (evCall FN (k + 10800)) 15 [.agg [.int .u32 b0, .int .u32 s0, .int .i64 at', .int .i64 st, csl 128 (d.map ofB), csl 5 (risV f)], memV m, .int .i64 kk]
      (.tup [.agg [.int .u32 b0, .int .u32 s0, .int .i64 at', .int .i64 st, csl 128 (d.map ofB), csl 5 (risV (f.take kk) ++ risV (f.drop (kk + 1)))], .agg [csl 128 ((markB (scat m t (secB d q (rm t))).1 b 3 (ix (p :: t))).map ofB), .int .u32 0, .sl 1 0 [], .bool true, .bool true]]) := by
  have hl := h.le
  have hrv := rn_rv h hr
  have hkl : kk < f.length := (List.getElem?_eq_some_iff.1 hk).1
  have hdv := ris_div f
  have gi : inB (kk : Int) ((risV f).length / 5) = some kk := inB_n (by rw [ris_div]; omega)
  have hrd : rd (risV f) (kk * 5) 5 true = some (.agg [.int .u32 b, .int .u32 s, .int .i64 q, .bool false, csl 4 (ptsV (p :: t))]) := by
    rw [← pis_of]; exact fm_agg riV_length hk
  have hab : asB 1 ((ptsV (p :: t)).length / 4) = some 1 := asB_n (a := 1) (by rw [pts_div]; simp)
  obtain ⟨r1, r2⟩ := rm_pos hr
  have hq := hr.q
  have hq2 : q * 128 + 128 ≤ d.length := by have := hr.q; rw [List.length_map] at this; omega
  have gq : inB (q : Int) ((d.map ofB).length / 128) = some q := inB_n hq
  have hts : ∀ x ∈ t, x.n < 4294967296 := fun x hx => by have := hr.one x (List.mem_cons_of_mem _ hx); omega
  have htl := hr.len
  have c44 : Calls0 (evCall FN (k + 10799)) 44 [csl 4 (ptsV t)] (.int .i64 (rm t)) := (s44 (k := 0) (by omega) hts).fuel (by omega)
  have hin : InM m.length t := fun x hx _ => (hr.one x (List.mem_cons_of_mem _ hx)).2.2.2
  have hsl : (secB d q (rm t)).length ≤ 3000 := by unfold secB; rw [List.length_take]; omega
  have c43 : Calls0 (evCall FN (k + 10799)) 43 [memV m, csl 4 (ptsV t), .str (secB d q (rm t))] (.tup [memV (scat m t (secB d q (rm t))).1, .int .i64 (scat m t (secB d q (rm t))).2]) := (s43 (k := 0) h hsl hin (by omega) hts).fuel (by omega)
  have hsm := scat_props (ys := secB d q (rm t)) (n := m.length) (l := t) (r := (m, 0)) hin rfl (Nat.zero_le _)
  have hS : RV (scat m t (secB d q (rm t))).1 b s := by
    have e : (scat m t (secB d q (rm t))).1.length = m.length := hsm.1
    exact ⟨h.of_len e, hrv.hs, hrv.hb, by rw [e]; exact hrv.le⟩
  obtain ⟨br, hsec⟩ := sec_sl r1 r2 hq2
  have c45 : Calls0 (evCall FN (k + 10799)) 45 [memV (scat m t (secB d q (rm t))).1, ringV b s, csl 4 (ptsV (p :: t))] (memV (markB (scat m t (secB d q (rm t))).1 b 3 (ix (p :: t)))) := (s45p (k := 0) hS (fun x hx => (hr.one x hx).1) (by simp; omega)).fuel (by omega)
  have has : asB (rm t : Int) 128 = some (rm t) := asB_n (by omega)
  refine q_call0 fn15 fun T H E lv => ?_
  repeat (first | refine stN ?_ | intro E)
  apply p_slL_lo
  · exact rfl
  · exact csz_ok _ _
  · exact rfl
  · exact hab
  rw [tail_pts, pis_of]
  repeat (first | refine stN ?_ | intro E)
  apply p_slA_pp (p := 0) (q := rm t)
  · exact rfl
  · exact bL_some rfl has
  · exact rfl
  · omega
  · rw [List.length_map]; omega
  rw [hsec]
  apply p_b2s
  · exact rfl
  · exact .inl rfl
  generalize markB (scat m t (secB d q (rm t))).1 b 3 (ix (p :: t)) = M2 at c45 ⊢
  generalize scat m t (secB d q (rm t)) = S at c43 c45
  generalize secB d q (rm t) = Y at c43 ⊢
  repeat (first | refine stN ?_ | intro E)
  apply p_slL_m3
  · exact rfl
  · exact Nat.one_ne_zero
  · exact (csz_ok _ _).imp id fun h => ⟨h, by omega⟩
  · exact rfl
  · exact rfl
  · rw [ris_div]; omega
  rw [show (risV f).take (kk * 5) = risV (f.take kk) from fm_take riV_length f kk]
  repeat (first | refine stN ?_ | intro E)
  apply p_slL_lo
  · exact rfl
  · exact csz_ok _ _
  · exact rfl
  · exact asB_n (by rw [ris_div]; omega)
  rw [drop_ris]
  by_cases hd0 : f.drop (kk + 1) = []
  · rw [hd0]
    apply p_app_nil
    · exact rfl
    · exact .inl rfl
    · exact rfl
    · exact fun H => src_csl _ _ _
    · exact ⟨by omega, by omega⟩
    · have : room = 17592186044416 := by decide +kernel
      rw [this, ris_length, List.length_take]; omega
    · exact .inr rfl
    repeat (first | refine stN ?_ | intro E)
    rw [show risV (f.take kk) ++ risV [] = risV (f.take kk) from List.append_nil _]
    exact q_ret (.inr rfl) rfl rfl rfl rfl rfl rfl
  · apply p_app
    · exact rfl
    · exact .inl rfl
    · exact rfl
    · exact fun H => src_csl _ _ _
    · exact ⟨by omega, by omega⟩
    · have : room = 17592186044416 := by decide +kernel
      rw [this, ris_length, ris_length, List.length_take, List.length_drop]; omega
    · exact .inr (.inl rfl)
    · exact ris_ne hd0
    intro lv' l1 l2
    repeat (first | refine stN ?_ | intro E)
    exact q_ret (.inr rfl) rfl rfl rfl rfl rfl rfl
end Go.Proofs.Ythplidagfcdibaa
