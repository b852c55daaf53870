/- Part 25 of the texts on which proofs about this seat rest: each says what it proves at its own head. No condition. -/
import Derived.Test.YtaeoaakblilfeaaM24
set_option linter.unusedVariables false
set_option linter.unusedSimpArgs false
/- What a device does when it is asked, by the program: the function. Condition: the memory is valid, the device is valid. -/
namespace Go.Proofs.Ytaeoaakblilfeaa
open Go.Abs
variable {k : Nat}
section
variable {tb ts rb rs ta ra st dr c : Nat} {m : List UInt8}
theorem inC_eq (p : Int) (w : Nat) : ∃ (v st' : Nat) (ok : Bool), inC tb ts rb rs ta ra st dr m p = woC m v (.sl 0 0 []) false ok tb ts rb rs ta ra st' dr ∧ portC tb ts rb rs ta ra st dr m true p w = doC tb ts rb rs ta ra st' dr m v (.sl 1 0 []) false ok := by
  unfold inC portC
  rw [if_pos rfl]
  (repeat' split) <;> exact ⟨_, _, _, rfl, rfl⟩
theorem outC_eq {p : Int} {w : Nat} {cs : List AV} (h : outC tb ts rb rs ta ra st dr m p w cs) : ∃ (tb' ts' rb' rs' ta' ra' st' br z : Nat) (m' : List UInt8) (o : List (List UInt8)) (r ok : Bool), cs = woC m' 0 (.sl br z (outV o)) r ok tb' ts' rb' rs' ta' ra' st' dr ∧ OE br z o ∧ portC tb ts rb rs ta ra st dr m false p w = doC tb' ts' rb' rs' ta' ra' st' dr m' 0 (csl 1 (outV o)) r ok := by
  unfold outC at h
  unfold portC
  rw [if_neg (by decide)]
  by_cases h1 : p = 64
  · rw [if_pos h1] at h ⊢; subst h; exact ⟨_, _, _, _, _, _, _, 0, 0, _, [], _, _, rfl, .inl ⟨rfl, rfl, rfl⟩, rfl⟩
  rw [if_neg h1] at h ⊢
  by_cases h1 : p = 65
  · rw [if_pos h1] at h ⊢; subst h; exact ⟨_, _, _, _, _, _, _, 0, 0, _, [], _, _, rfl, .inl ⟨rfl, rfl, rfl⟩, rfl⟩
  rw [if_neg h1] at h ⊢
  by_cases h1 : p = 66
  · rw [if_pos h1] at h ⊢; subst h; exact ⟨_, _, _, _, _, _, _, 0, 0, _, [], _, _, rfl, .inl ⟨rfl, rfl, rfl⟩, rfl⟩
  rw [if_neg h1] at h ⊢
  by_cases h1 : p = 67
  · rw [if_pos h1] at h ⊢; subst h; exact ⟨_, _, _, _, _, _, _, 0, 0, _, [], _, _, rfl, .inl ⟨rfl, rfl, rfl⟩, rfl⟩
  rw [if_neg h1] at h ⊢
  by_cases h1 : p = 68
  · rw [if_pos h1] at h ⊢
    obtain ⟨br, z, hO, rfl⟩ := h
    unfold sendR at hO ⊢
    by_cases hc : chkN m.length tb ts ≠ 0
    · simp only [if_pos hc] at hO ⊢
      exact ⟨_, _, _, _, _, _, _, br, z, _, [], _, _, rfl, hO, rfl⟩
    · simp only [if_neg hc] at hO ⊢
      exact ⟨_, _, _, _, _, _, _, br, z, _, _, _, _, rfl, hO, rfl⟩
  rw [if_neg h1] at h ⊢
  subst h; exact ⟨_, _, _, _, _, _, _, 0, 0, _, [], _, _, rfl, .inl ⟨rfl, rfl, rfl⟩, rfl⟩
set_option maxRecDepth 100000 in
set_option maxHeartbeats 4000000 in
theorem s14 {p : Int} {w : Nat} {i : Bool} (h : VM m) (hb : tb < 4294967296) (hs : ts < 4294967296) (hst : st ≤ 165) (ha : wholeN ts → ta < ts) :
    Calls0 (evCall FN (k + 10700)) 14 [.agg [.int .u32 tb, .int .u32 ts, .int .u32 rb, .int .u32 rs, .int .i64 ta, .int .i64 ra, .int .i64 st, .int .i64 dr], memV m, .agg [.bool i, .int .i64 p, .int .u32 w]] (portV tb ts rb rs ta ra st dr m i p w) := by
  refine q_call0 fn14 fun T H E lv => ?_
  unfold portV
  cases i
  · repeat (first | refine stN ?_ | intro E)
    apply p_writesB (args := [.ref 5 0, .int .i64 p, .int .u32 w]) (id := 5) (n0 := 0) (H0 := fun _ => []) (V := outC tb ts rb rs ta ra st dr m p w) (os' := fun v => [(5, v), (3, [.int .u32 0, .int .u32 0, .int .u32 0, .int .u32 0, .int .i64 0, .int .i64 0, .int .i64 0, .int .i64 0]), (4, [.sl 0 0 [], .int .u32 0, .sl 0 0 [], .bool false, .bool false])])
    · exact rfl
    · exact fun H E => writes_atB rfl ((s35 (k := 0) (Nat.le_refl 4) h hb hs ha).fuel (by omega))
    · exact fun v hv => ⟨.inl ⟨rfl, rfl⟩, .inr ⟨rfl, rfl, rfl, rfl⟩, .inr ⟨rfl, rfl, rfl, rfl⟩, trivial⟩
    · exact fun j hj => by omega
    · omega
    intro v H2 lv2 c2 hv hc2 _
    obtain ⟨tb', ts', rb', rs', ta', ra', st', br, z, m', o, r, ok, rfl, hO, hp⟩ := outC_eq hv
    rw [hp]
    repeat (first | refine stN ?_ | intro E)
    rcases hO with ⟨rfl, rfl, rfl⟩ | ⟨h4, rfl⟩
    · exact q_ret (.inr rfl) rfl rfl rfl rfl rfl rfl
    · obtain ⟨q, rfl⟩ : ∃ q, br = q + 4 := ⟨br - 4, by omega⟩
      exact q_ret (.inr rfl) rfl rfl rfl rfl rfl (by simp [AV.flat, flatL, csl, doC])
  · obtain ⟨v, st', ok, e1, e2⟩ := inC_eq (tb := tb) (ts := ts) (rb := rb) (rs := rs) (ta := ta) (ra := ra) (st := st) (dr := dr) (m := m) p w
    rw [e2]
    have c34 : ∀ H lv c E, Writes (evCall FN (k + 10699)) 34 [.ref 5 0, .int .i64 p] [(5, woC m 0 (.sl 0 0 []) false true tb ts rb rs ta ra st dr)] H 6 lv c E (.tup []) 5 (woC m v (.sl 0 0 []) false ok tb ts rb rs ta ra st' dr) := fun H lv c E => by rw [← e1]; exact (s34 (k := 0) hst).fuel (by omega)
    repeat (first | refine stN ?_ | intro E)
    apply p_writesX (args := [.ref 5 0, .int .i64 p]) (id := 5) (n0 := 0) (H0 := fun _ => []) (os' := [(5, woC m v (.sl 0 0 []) false ok tb ts rb rs ta ra st' dr), (3, [.int .u32 0, .int .u32 0, .int .u32 0, .int .u32 0, .int .i64 0, .int .i64 0, .int .i64 0, .int .i64 0]), (4, [.sl 0 0 [], .int .u32 0, .sl 0 0 [], .bool false, .bool false])])
    · exact rfl
    · exact fun H E => writes_at rfl (c34 (objs _ H) _ _ E)
    · exact ⟨.inl ⟨rfl, rfl⟩, .inr ⟨rfl, rfl, rfl, rfl⟩, .inr ⟨rfl, rfl, rfl, rfl⟩, trivial⟩
    · exact fun j hj => by omega
    · omega
    intro H2 _
    repeat (first | refine stN ?_ | intro E)
    exact q_ret (.inr rfl) rfl rfl rfl rfl rfl rfl
end
end Go.Proofs.Ytaeoaakblilfeaa

/- A packet is delivered, by the program. Condition: the memory is valid, the ring is there. -/
namespace Go.Proofs.Ytaeoaakblilfeaa
open Go.Abs
variable {k : Nat}
def delv (b j : Nat) (js : List Nat) (L : List Pt) (e : Nat) (pk : List UInt8) (x : XS) : XS :=
  if e ≠ 0 then x
  else if mfE L true pk.length 1048576 ≠ 0 then { x with m := mark1 b (4 + (mfE L true pk.length 1048576 - 160)) x.m j, st := mfE L true pk.length 1048576 }
  else { x with m := putB (markB (scat x.m L pk).1 b 3 js) (b + 16 * j + 4) (le4 pk.length), ok := true }
theorem pop_known {s ts : List (Nat × AV)} {os : List (Nat × List AV)} {T : Nat → AV} {H : Hp} {E : Nat → Option TypeId} {n n' c : Nat} {lv : Nat → Bool} (h1 : HoldsS n s ts) (h2 : HoldsO (keepH n H) os) : ∃ T' H', pop n ⟨slots s T, H, E, n', lv, c⟩ = ⟨slots ts T', objs os H', E, n, lv, c⟩ := by
  refine ⟨fun t => scrub n (slots s T t), keepH n H, ?_⟩
  rw [slots_self (holdsS h1), objs_self h2]
  rfl
theorem same_at {n id j : Nat} {H0 H : Hp} {v : List AV} (h : Same n id H0 H) (h0 : H0 j = v) (hj : Nat.blt j n = true) (hne : Nat.beq j id = false) (hu : underL n v = true) : keepH n H j = v := by
  rw [h j (by simpa using hj) (Nat.ne_of_beq_eq_false hne)]
  unfold keepH
  rw [h0, if_pos hu]
theorem keep_ne {n j : Nat} {H : Hp} {x : AV} {v : List AV} (h : keepH n H j = x :: v) : H j = x :: v := by
  unfold keepH at h
  split at h
  · exact h
  · cases h
set_option maxRecDepth 100000 in
set_option maxHeartbeats 4000000 in
theorem s37 {tb ts rb rs ta ra st dr e j c : Nat} {m pk : List UInt8} {ok : Bool} {js : List Nat} {bs0 : List UInt8} {H : Hp} {E : Nat → Option TypeId} {lv : Nat → Bool} (h : RV m rb rs) (hj : j < rs) (hp : pk.length ≤ 600) (hL : e = 0 → PO m (js.map (ptOf bs0 rb)) ∧ ∀ q ∈ js, q < rs) :
    Writes (evCall FN (k + 10600)) 37 [.ref 5 0, .agg [.int .i64 j, csl 4 (ptsV (js.map (ptOf bs0 rb))), .int .i64 e], .str pk] [(5, cel false tb ts rb rs ta dr ⟨m, 0, 0, [], true, ok, ra, st⟩)] H 10 lv c E (.tup []) 5 (cel false tb ts rb rs ta dr (delv rb j js (js.map (ptOf bs0 rb)) e pk ⟨m, 0, 0, [], true, ok, ra, st⟩)) := by
  refine q_writes (by omega) (cel_under ..) fn37 fun T => ?_
  unfold delv
  by_cases he : e ≠ 0
  · rw [if_pos he]
    repeat (first | refine stN ?_ | intro E)
    exact q_rets (.inr rfl) rfl rfl rfl rfl rfl ⟨rfl, _, rfl, lkO_objs rfl, (by repeat (first | exact Same.refl _ _ _ | refine Same.cons ?_ rfl))⟩
  rw [if_neg he]
  have he : e = 0 := by omega
  obtain ⟨hpo, hjs⟩ := hL he
  subst he
  have hlen := hpo.len
  have hjl : js.length ≤ 4 := by rwa [List.length_map] at hlen
  have c64 : Calls0 (evCall FN (k + 10599)) 64 [csl 4 (ptsV (js.map (ptOf bs0 rb))), .bool true, .int .i64 pk.length, .int .i64 1048576] (.int .i64 (mfE (js.map (ptOf bs0 rb)) true pk.length 1048576)) := (s64 (k := 0) (hi := 1048576) (by omega) hpo.lt).fuel (by omega)
  by_cases hf : mfE (js.map (ptOf bs0 rb)) true pk.length 1048576 ≠ 0
  · rw [if_pos hf]
    have hfc := (mfE_cases (js.map (ptOf bs0 rb)) true pk.length 1048576).resolve_left hf
    have c65 := fun H lv c E => s65b (k := 0) (m := m) (b := rb) (s := rs) (i := j) (v := 0) (tb := tb) (ts := ts) (rb := rb) (rs := rs) (ta := ta) (ra := ra) (st := st) (dr := dr) (br := 0) (z := 0) (xs := []) (r := true) (ok := ok) (H := H) (lv := lv) (c := c) (E := E) (e := mfE (js.map (ptOf bs0 rb)) true pk.length 1048576) h hj (by omega)
    clear hpo
    dsimp only
    generalize mfE (js.map (ptOf bs0 rb)) true pk.length 1048576 = f at *
    generalize ptsV (js.map (ptOf bs0 rb)) = L at *
    generalize mark1 rb (4 + (f - 160)) m j = M2 at *
    repeat (first | refine stN ?_ | intro E)
    apply p_writesX (args := [.ref 5 0, ringV rb rs, .int .i64 j, .int .i64 f]) (id := 5) (n0 := 10) (H0 := objs [(5, cel false tb ts rb rs ta dr ⟨m, 0, 0, [], true, ok, ra, st⟩)] H) (os' := [(5, cel false tb ts rb rs ta dr ⟨M2, 0, 0, [], true, ok, ra, f⟩)])
    · exact rfl
    · exact fun H E => writes_at rfl ((c65 (objs _ H) _ _ E).fuel (by omega))
    · exact ⟨.inl ⟨rfl, rfl⟩, trivial⟩
    · exact (by repeat (first | exact Same.refl _ _ _ | refine Same.cons ?_ rfl))
    · omega
    intro H2 hS2
    repeat (first | refine stN ?_ | intro E)
    exact q_rets (.inr rfl) rfl rfl rfl rfl rfl ⟨rfl, _, rfl, lkO_objs rfl, hS2⟩
  rw [if_neg hf]
  have hf : mfE (js.map (ptOf bs0 rb)) true pk.length 1048576 = 0 := by omega
  rw [hf] at c64
  have hS := scat_rv (pk := pk) h hpo
  have c66 : Calls0 (evCall FN (k + 10599)) 66 [memV m, csl 4 (ptsV (js.map (ptOf bs0 rb))), .str pk] (.tup [memV (scat m (js.map (ptOf bs0 rb)) pk).1, .int .i64 (scat m (js.map (ptOf bs0 rb)) pk).2]) := (s66 (k := 0) h.m (by omega) hpo.inM (by omega) hpo.lt).fuel (by omega)
  have c67 : Calls0 (evCall FN (k + 10599)) 67 [memV (scat m (js.map (ptOf bs0 rb)) pk).1, ringV rb rs, csl 4 (partsV bs0 rb js)] (memV (markB (scat m (js.map (ptOf bs0 rb)) pk).1 rb 3 js)) := (s67 (k := 0) hS hjs (by omega)).fuel (by omega)
  rw [show partsV bs0 rb js = ptsV (js.map (ptOf bs0 rb)) from parts_pts _ _ _] at c67
  have hM2 := hS.markB (w := 3) hjs
  have hM2l := hM2.le
  have hrs := hM2.hs
  have hrb16 := hM2.hb
  have hM2m := hM2.m.le
  have c68 : Calls0 (evCall FN (k + 10599)) 68 [memV (markB (scat m (js.map (ptOf bs0 rb)) pk).1 rb 3 js), .agg [.int .i64 ((rb + 16 * j + 4 : Nat) : Int), .int .i64 4, .int .u32 pk.length]] (.tup [memV (putB (markB (scat m (js.map (ptOf bs0 rb)) pk).1 rb 3 js) (rb + 16 * j + 4) (le4 pk.length)), .bool true]) := (s68 (k := 0) hM2.m (by omega) (by omega) (by omega)).fuel (by omega)
  clear hpo hf
  have hwb : IntKind.i64.wrap (rb : Int) = rb := w64 (by omega) (by omega)
  have hwp : IntKind.u32.wrap (pk.length : Int) = pk.length := w32 (by omega) (by omega)
  dsimp only
  generalize putB (markB (scat m (js.map (ptOf bs0 rb)) pk).1 rb 3 js) (rb + 16 * j + 4) (le4 pk.length) = M3 at *
  generalize markB (scat m (js.map (ptOf bs0 rb)) pk).1 rb 3 js = M2 at *
  generalize scat m (js.map (ptOf bs0 rb)) pk = S at *
  generalize ptsV (js.map (ptOf bs0 rb)) = L at *
  repeat (first | refine stN ?_ | intro E)
  exact q_rets (.inl rfl) rfl rfl rfl rfl rfl ⟨rfl, _, rfl, lkO_objs rfl, (by repeat (first | exact Same.refl _ _ _ | refine Same.cons ?_ rfl))⟩
end Go.Proofs.Ytaeoaakblilfeaa
