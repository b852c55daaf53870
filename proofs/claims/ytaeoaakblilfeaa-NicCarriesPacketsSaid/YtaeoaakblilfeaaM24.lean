/- Part 24 of the texts on which proofs about this seat rest: each says what it proves at its own head. No condition. -/
import Derived.Test.YtaeoaakblilfeaaM23
set_option linter.unusedVariables false
set_option linter.unusedSimpArgs false
/- What a device sends, by the program: the method. Condition: the memory is valid. -/
namespace Go.Proofs.Ytaeoaakblilfeaa
open Go.Abs
variable {k : Nat}
theorem Same.lower {n0 n1 id : Nat} {H0 H : Hp} (h : Same n1 id H0 H) (hn : n0 ≤ n1) : Same n0 id H0 H := by
  intro j hj hne
  have e := h j (by omega) hne
  rw [← keep_keep hn H j, ← keep_keep hn H0 j]
  unfold keepH at e ⊢
  rw [e]
theorem Same.trans {n0 id : Nat} {H0 H1 H2 : Hp} (h : Same n0 id H0 H1) (h' : Same n0 id H1 H2) : Same n0 id H0 H2 := fun j hj hne => (h' j hj hne).trans (h j hj hne)
theorem rv_chk {m : List UInt8} {b s : Nat} (h : RV m b s) : chkN m.length b s = 0 := if_pos ⟨h.hs, h.hb, h.le⟩
def sendR (tb ts ta st : Nat) (m : List UInt8) : TS := if chkN m.length tb ts ≠ 0 then ⟨m, [], false, ta, chkN m.length tb ts⟩ else trun tb ts ts ⟨m, [], false, ta, st⟩
def OE (br z : Nat) (o : List (List UInt8)) : Prop := (br = 0 ∧ z = 0 ∧ o = []) ∨ (4 ≤ br ∧ z = 1)
def VS (tb ts rb rs ra dr : Nat) (R : TS) (cs : List AV) : Prop := ∃ br z, OE br z R.o ∧ cs = woC R.m 0 (.sl br z (outV R.o)) R.r true tb ts rb rs R.a ra R.st dr
theorem keep_cel {tx : Bool} {tb ts rb rs oth dr n : Nat} {x : XS} {H : Hp} (h : H 5 = cel tx tb ts rb rs oth dr x) : keepH n H 5 = cel tx tb ts rb rs oth dr x := by
  unfold keepH
  rw [h, if_pos (cel_under ..)]
set_option maxRecDepth 100000 in
set_option maxHeartbeats 4000000 in
theorem s58 {tb ts rb rs ta ra st dr c : Nat} {m : List UInt8} {H : Hp} {E : Nat → Option TypeId} {lv : Nat → Bool} (h4 : 4 ≤ c) (h : VM m) (hb : tb < 4294967296) (hs : ts < 4294967296) (ha : wholeN ts → ta < ts) :
    WritesB (evCall FN (k + 10602)) 58 [.ref 5 0] [(5, woC m 0 (.sl 0 0 []) false true tb ts rb rs ta ra st dr)] H 6 lv c E (.tup []) 5 (VS tb ts rb rs ra dr (sendR tb ts ta st m)) := by
  unfold sendR
  generalize hRR : trun tb ts ts ⟨m, [], false, ta, st⟩ = R
  refine q_writesB (by omega) fn58 fun T => ?_
  repeat (first | refine stN ?_ | intro E)
  apply p_writesX (args := [.ref 5 0, ringV tb ts, .ref 5 9]) (id := 5) (n0 := 6) (H0 := objs [(5, woC m 0 (.sl 0 0 []) false true tb ts rb rs ta ra st dr)] H) (os' := [(5, woC m 0 (.sl 0 0 []) false true tb ts rb rs ta ra st dr), (6, [.ref 5 0])])
  · exact rfl
  · exact fun H E => writes_at rfl ((s36 (k := 0) rfl).fuel (by omega))
  · exact ⟨.inl ⟨rfl, rfl⟩, .inr ⟨rfl, rfl, rfl, rfl⟩, trivial⟩
  · exact (by repeat (first | exact Same.refl _ _ _ | refine Same.cons ?_ rfl))
  · omega
  intro H2 hS2
  repeat (first | refine stN ?_ | intro E)
  refine q_rangeF (k' := k + 10600) (env := fun _ => none) rfl rfl fn59 ?_
  intro y T' hy env' henv
  have hT : ∀ t : Nat → AV, slots [(1, .ref 6 0)] t 1 = .ref 6 0 := fun t => rfl
  refine wp_imp (s59t (tb := tb) (ts := ts) (rb := rb) (rs := rs) (oth := ra) (dr := dr) (b := tb) (s := ts) (x0 := ⟨m, 0, 0, [], false, true, ta, st⟩) (H := objs [(6, [.ref 5 0])] H2) (H0 := objs [(7, stOf 0), (5, woC m 0 (.sl 0 0 []) false true tb ts rb rs ta ra st dr), (6, [.ref 5 0])] H2) (y := y)
    (InvS tb ts c m R) (PostS tb ts c R ⟨m, 0, 0, [], false, true, ta, st⟩) h hb hs henv (Same.refl _ _ _) ?_ ?_ ?_ ?_ ?_ ?_) ?_
  · exact fun hc => ⟨Nat.le_refl _, rfl, .inl ⟨hc, rfl⟩⟩
  · exact fun hr => ⟨Nat.le_refl _, hr, hr, ha hr.hs, rfl, [], rfl, Nat.zero_le _, .inl ⟨rfl, rfl, rfl⟩, hRR⟩
  · exact fun i x lv c hI => ⟨hI.2.2.1, hI.2.2.2.1⟩
  · rintro i x lv c hi ⟨hc, hm0, hr, hxa, hok, o, ho, hol, hO, hR⟩ hf
    refine ⟨hc, rfl, .inr ⟨rv_chk hm0, hok, o, ho, hO, ?_⟩⟩
    rw [show ts - i = (ts - (i + 1)) + 1 by omega] at hR
    unfold trun at hR
    rwa [if_pos (by exact hf)] at hR
  · rintro x lv c ⟨hc, hm0, hr, hxa, hok, o, ho, hol, hO, hR⟩
    rw [Nat.sub_self] at hR
    exact ⟨hc, rfl, .inr ⟨rv_chk hm0, hok, o, ho, hO, hR⟩⟩
  · intro i x lv c1 j hi hj hI hf
    rw [hy]
    exact send_round (k := k) h4 rfl rfl hi hj hI hf
  · intro e S hR
    refine rets_imp hR ?_
    rintro _ ⟨H3, n3, lv3, c3⟩ ⟨x, st', hP, g1, g2, g3⟩
    obtain ⟨hc, rfl, hP⟩ := hP
    dsimp only at g1 g2 g3 hc hP
    refine ⟨0, .norm, g2, rfl, ?_⟩
    apply b_norm
    refine q_rets (s := []) (os := []) (.inl rfl) rfl rfl rfl rfl rfl ⟨rfl, _, _, _, rfl, hc, ?_, ?_, ?_⟩
    · show VS tb ts rb rs ra dr _ (keepH 7 H3 5)
      rw [keep_cel g1]
      clear hRR
      rcases hP with ⟨hk, rfl⟩ | ⟨hk, hok, o, ho, hO, rfl⟩
      · rw [if_pos hk]
        exact ⟨0, 0, .inl ⟨rfl, rfl, rfl⟩, rfl⟩
      · rw [if_neg (by rw [hk]; decide)]
        obtain ⟨xm, xbr, xz, xxs, xr, xok, xa, xst⟩ := x
        dsimp only at hok ho hO ⊢
        subst hok
        subst ho
        refine ⟨xbr, xz, ?_, rfl⟩
        rcases hO with h | ⟨h1, h2, h3, h5⟩
        · exact .inl h
        · exact .inr ⟨h1, h5⟩
    · show underL 6 (keepH 7 H3 5) = true
      rw [keep_cel g1]; exact cel_under ..
    · have e1 : Same 6 5 (objs [(7, stOf 0), (5, woC m 0 (.sl 0 0 []) false true tb ts rb rs ta ra st dr), (6, [.ref 5 0])] H2) (keepH 7 H3) := (Same.lower g3 (by omega)).keep (by omega)
      have e2 : Same 6 5 (objs [(5, woC m 0 (.sl 0 0 []) false true tb ts rb rs ta ra st dr)] H) (objs [(7, stOf 0), (5, woC m 0 (.sl 0 0 []) false true tb ts rb rs ta ra st dr), (6, [.ref 5 0])] H2) := Same.cons hS2 rfl
      exact Same.trans e2 e1
end Go.Proofs.Ytaeoaakblilfeaa

/- What a device does when it is asked, by the program. Condition: the memory is valid, the device is valid. -/
namespace Go.Proofs.Ytaeoaakblilfeaa
open Go.Abs
variable {k : Nat}
def portV (tb ts rb rs ta ra st dr : Nat) (m : List UInt8) (i : Bool) (p : Int) (w : Nat) : AV :=
  .tup [.agg ((portC tb ts rb rs ta ra st dr m i p w).take 8), .agg ((portC tb ts rb rs ta ra st dr m i p w).drop 8)]
section
variable {tb ts rb rs ta ra st dr c : Nat} {m : List UInt8} {H : Hp} {E : Nat → Option TypeId} {lv : Nat → Bool}
def inC (tb ts rb rs ta ra st dr : Nat) (m : List UInt8) (p : Int) : List AV :=
  if p = 64 then woC m tb (.sl 0 0 []) false true tb ts rb rs ta ra st dr
  else if p = 65 then woC m ts (.sl 0 0 []) false true tb ts rb rs ta ra st dr
  else if p = 66 then woC m rb (.sl 0 0 []) false true tb ts rb rs ta ra st dr
  else if p = 67 then woC m rs (.sl 0 0 []) false true tb ts rb rs ta ra st dr
  else if p = 69 then woC m st (.sl 0 0 []) false true tb ts rb rs ta ra (0 : Nat) dr
  else if p = 70 then woC m (dr % 4294967296) (.sl 0 0 []) false true tb ts rb rs ta ra st dr
  else woC m 0 (.sl 0 0 []) false false tb ts rb rs ta ra st dr
set_option maxRecDepth 100000 in
set_option maxHeartbeats 4000000 in
theorem s34 {p : Int} (hst : st ≤ 165) : Writes (evCall FN (k + 1)) 34 [.ref 5 0, .int .i64 p] [(5, woC m 0 (.sl 0 0 []) false true tb ts rb rs ta ra st dr)] H 6 lv c E (.tup []) 5 (inC tb ts rb rs ta ra st dr m p) := by
  have hw := w32m dr
  refine q_writes (by omega) (by unfold inC; (repeat' split) <;> rfl) fn34 fun T => ?_
  unfold inC
  by_cases h1 : p = 64
  · subst h1
    rw [if_pos rfl]
    repeat (first | refine stN ?_ | intro E)
    exact q_rets (.inl rfl) rfl rfl rfl rfl rfl ⟨rfl, _, rfl, lkO_objs rfl, (by repeat (first | exact Same.refl _ _ _ | refine Same.cons ?_ rfl))⟩
  rw [if_neg h1]
  by_cases h2 : p = 65
  · subst h2
    rw [if_pos rfl]
    repeat (first | refine stN ?_ | intro E)
    exact q_rets (.inl rfl) rfl rfl rfl rfl rfl ⟨rfl, _, rfl, lkO_objs rfl, (by repeat (first | exact Same.refl _ _ _ | refine Same.cons ?_ rfl))⟩
  rw [if_neg h2]
  by_cases h3 : p = 66
  · subst h3
    rw [if_pos rfl]
    repeat (first | refine stN ?_ | intro E)
    exact q_rets (.inl rfl) rfl rfl rfl rfl rfl ⟨rfl, _, rfl, lkO_objs rfl, (by repeat (first | exact Same.refl _ _ _ | refine Same.cons ?_ rfl))⟩
  rw [if_neg h3]
  by_cases h4 : p = 67
  · subst h4
    rw [if_pos rfl]
    repeat (first | refine stN ?_ | intro E)
    exact q_rets (.inl rfl) rfl rfl rfl rfl rfl ⟨rfl, _, rfl, lkO_objs rfl, (by repeat (first | exact Same.refl _ _ _ | refine Same.cons ?_ rfl))⟩
  rw [if_neg h4]
  by_cases h5 : p = 69
  · subst h5
    rw [if_pos rfl]
    repeat (first | refine stN ?_ | intro E)
    exact q_rets (.inl rfl) rfl rfl rfl rfl rfl ⟨rfl, _, rfl, lkO_objs rfl, (by repeat (first | exact Same.refl _ _ _ | refine Same.cons ?_ rfl))⟩
  rw [if_neg h5]
  by_cases h6 : p = 70
  · subst h6
    rw [if_pos rfl]
    repeat (first | refine stN ?_ | intro E)
    exact q_rets (.inl rfl) rfl rfl rfl rfl rfl ⟨rfl, _, rfl, lkO_objs rfl, (by repeat (first | exact Same.refl _ _ _ | refine Same.cons ?_ rfl))⟩
  rw [if_neg h6]
  repeat (first | refine stN ?_ | intro E)
  exact q_rets (.inl rfl) rfl rfl rfl rfl rfl ⟨rfl, _, rfl, lkO_objs rfl, (by repeat (first | exact Same.refl _ _ _ | refine Same.cons ?_ rfl))⟩
def outC (tb ts rb rs ta ra st dr : Nat) (m : List UInt8) (p : Int) (w : Nat) (cs : List AV) : Prop :=
  if p = 64 then cs = woC m 0 (.sl 0 0 []) false true w ts rb rs (0 : Nat) ra st dr
  else if p = 65 then cs = woC m 0 (.sl 0 0 []) false true tb w rb rs (0 : Nat) ra st dr
  else if p = 66 then cs = woC m 0 (.sl 0 0 []) false true tb ts w rs ta (0 : Nat) st dr
  else if p = 67 then cs = woC m 0 (.sl 0 0 []) false true tb ts rb w ta (0 : Nat) st dr
  else if p = 68 then VS tb ts rb rs ra dr (sendR tb ts ta st m) cs
  else cs = woC m 0 (.sl 0 0 []) false false tb ts rb rs ta ra st dr
set_option maxRecDepth 100000 in
set_option maxHeartbeats 4000000 in
theorem s35 {p : Int} {w : Nat} (h4 : 4 ≤ c) (h : VM m) (hb : tb < 4294967296) (hs : ts < 4294967296) (ha : wholeN ts → ta < ts) : WritesB (evCall FN (k + 10603)) 35 [.ref 5 0, .int .i64 p, .int .u32 w] [(5, woC m 0 (.sl 0 0 []) false true tb ts rb rs ta ra st dr)] H 6 lv c E (.tup []) 5 (outC tb ts rb rs ta ra st dr m p w) := by
  refine q_writesB (by omega) fn35 fun T => ?_
  unfold outC
  by_cases h1 : p = 64
  · subst h1
    simp only [if_true]
    repeat (first | refine stN ?_ | intro E)
    exact q_rets (.inl rfl) rfl rfl rfl rfl rfl ⟨rfl, _, _, _, rfl, Nat.le_refl _, lkO_objs rfl, by rw [lkO_objs (show lkO _ 5 = some _ from rfl)]; rfl, (by repeat (first | exact Same.refl _ _ _ | refine Same.cons ?_ rfl))⟩
  simp only [if_neg h1]
  by_cases h2 : p = 65
  · subst h2
    simp only [if_true]
    repeat (first | refine stN ?_ | intro E)
    exact q_rets (.inl rfl) rfl rfl rfl rfl rfl ⟨rfl, _, _, _, rfl, Nat.le_refl _, lkO_objs rfl, by rw [lkO_objs (show lkO _ 5 = some _ from rfl)]; rfl, (by repeat (first | exact Same.refl _ _ _ | refine Same.cons ?_ rfl))⟩
  simp only [if_neg h2]
  by_cases h3 : p = 66
  · subst h3
    simp only [if_true]
    repeat (first | refine stN ?_ | intro E)
    exact q_rets (.inl rfl) rfl rfl rfl rfl rfl ⟨rfl, _, _, _, rfl, Nat.le_refl _, lkO_objs rfl, by rw [lkO_objs (show lkO _ 5 = some _ from rfl)]; rfl, (by repeat (first | exact Same.refl _ _ _ | refine Same.cons ?_ rfl))⟩
  simp only [if_neg h3]
  by_cases h4' : p = 67
  · subst h4'
    simp only [if_true]
    repeat (first | refine stN ?_ | intro E)
    exact q_rets (.inl rfl) rfl rfl rfl rfl rfl ⟨rfl, _, _, _, rfl, Nat.le_refl _, lkO_objs rfl, by rw [lkO_objs (show lkO _ 5 = some _ from rfl)]; rfl, (by repeat (first | exact Same.refl _ _ _ | refine Same.cons ?_ rfl))⟩
  simp only [if_neg h4']
  by_cases h5 : p = 68
  · subst h5
    simp only [if_true]
    repeat (first | refine stN ?_ | intro E)
    apply p_writesB (args := [.ref 5 0]) (id := 5) (n0 := 6) (H0 := objs [(5, woC m 0 (.sl 0 0 []) false true tb ts rb rs ta ra st dr)] H) (V := VS tb ts rb rs ra dr (sendR tb ts ta st m)) (os' := fun v => [(5, v)])
    · exact rfl
    · exact fun H E => writes_atB rfl (s58 (k := k) h4 h hb hs ha)
    · exact fun v hv => ⟨.inl ⟨rfl, rfl⟩, trivial⟩
    · exact (by repeat (first | exact Same.refl _ _ _ | refine Same.cons ?_ rfl))
    · omega
    intro v H2 lv2 c2 hv hc2 hS2
    repeat (first | refine stN ?_ | intro E)
    refine q_rets (.inl rfl) rfl rfl rfl rfl rfl ⟨rfl, _, _, _, rfl, hc2, ?_, ?_, hS2⟩
    · rw [lkO_objs (show lkO _ 5 = some _ from rfl)]; exact hv
    · rw [lkO_objs (show lkO _ 5 = some _ from rfl)]
      obtain ⟨br, z, _, rfl⟩ := hv
      rfl
  simp only [if_neg h5]
  repeat (first | refine stN ?_ | intro E)
  exact q_rets (.inl rfl) rfl rfl rfl rfl rfl ⟨rfl, _, _, _, rfl, Nat.le_refl _, lkO_objs rfl, by rw [lkO_objs (show lkO _ 5 = some _ from rfl)]; rfl, (by repeat (first | exact Same.refl _ _ _ | refine Same.cons ?_ rfl))⟩
end
end Go.Proofs.Ytaeoaakblilfeaa
