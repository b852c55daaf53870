/- Part 37 of the texts on which proofs about this seat rest: each says what it proves at its own head. No condition. -/
import Derived.Test.YtaeoaakblilfeaaM36
set_option linter.unusedVariables false
set_option linter.unusedSimpArgs false
/- Words that are put into a memory; parts of bytes. No condition. -/
namespace Go.Proofs.Ytaeoaakblilfeaa
open Go.Abs
variable {k : Nat}
def puts (m : List UInt8) (W : List (Nat × List UInt8)) : List UInt8 := W.foldl (fun m w => putB m w.1 w.2) m
def InW (L : Nat) (W : List (Nat × List UInt8)) : Prop := ∀ w ∈ W, w.1 + w.2.length ≤ L
theorem puts_len : ∀ {W : List (Nat × List UInt8)} {m : List UInt8}, InW m.length W → (puts m W).length = m.length
  | [], _, _ => rfl
  | w :: W, m, h => by
    have e : (putB m w.1 w.2).length = m.length := putB_length (h w List.mem_cons_self)
    show (puts (putB m w.1 w.2) W).length = _
    rw [puts_len fun x hx => by rw [e]; exact h x (List.mem_cons_of_mem _ hx), e]
theorem puts_app (m : List UInt8) (A B : List (Nat × List UInt8)) : puts m (A ++ B) = puts (puts m A) B := List.foldl_append
theorem putB_at {m : List UInt8} {x : Nat × List UInt8} {a n : Nat} (hx : x.1 + x.2.length ≤ m.length) (h : x.1 + x.2.length ≤ a ∨ a + n ≤ x.1) : ((putB m x.1 x.2).drop a).take n = (m.drop a).take n := by
  apply List.ext_getElem?
  intro i
  rw [List.getElem?_take, List.getElem?_take]
  split
  · rw [List.getElem?_drop, List.getElem?_drop, putB_get hx]
    split
    · rfl
    · rw [if_neg (by omega)]
  · rfl
theorem putB_self {m ys : List UInt8} {a : Nat} (h : a + ys.length ≤ m.length) : ((putB m a ys).drop a).take ys.length = ys := by
  have l3 : (m.take a).length = a := by rw [List.length_take]; omega
  unfold putB
  rw [List.append_assoc, List.drop_append_of_le_length (by omega), List.drop_of_length_le (by omega), List.nil_append, List.take_left]
def zer (n : Nat) : List UInt8 := List.replicate n 0
def wds : Nat → List Nat → List (Nat × List UInt8)
  | _, [] => []
  | a, w :: l => (a, le4 w) :: wds (a + 4) l
def uV (l : List Nat) : List AV := l.map fun n : Nat => .int .u32 (n : Int)
theorem wds_snoc : ∀ {l : List Nat} {a w : Nat}, wds a (l ++ [w]) = wds a l ++ [(a + 4 * l.length, le4 w)]
  | [], a, w => by simp [wds]
  | x :: l, a, w => by
    show (a, le4 x) :: wds (a + 4) (l ++ [w]) = _
    rw [wds_snoc (l := l)]
    show _ = (a, le4 x) :: (wds (a + 4) l ++ _)
    rw [List.length_cons, show a + 4 + 4 * l.length = a + 4 * (l.length + 1) by omega]
theorem wds_mem : ∀ {l : List Nat} {a : Nat} {x : Nat × List UInt8}, x ∈ wds a l → a ≤ x.1 ∧ x.1 + 4 ≤ a + 4 * l.length ∧ x.2.length = 4
  | [], _, _, h => by cases h
  | w :: l, a, x, h => by
    rcases List.mem_cons.1 h with rfl | h
    · refine ⟨Nat.le_refl _, ?_, rfl⟩
      rw [List.length_cons]; dsimp only; omega
    · have := wds_mem h
      rw [List.length_cons]; omega
theorem wds_in {l : List Nat} {a L : Nat} (h : a + 4 * l.length ≤ L) : InW L (wds a l) := fun x hx => by have := wds_mem hx; omega
theorem bt_puts {t : Nat} : ∀ {W : List (Nat × List UInt8)} {m : List UInt8}, InW m.length W → (∀ x ∈ W, t < x.1 ∨ x.1 + x.2.length ≤ t) → bt (puts m W) t = bt m t
  | [], _, _, _ => rfl
  | x :: W, m, hW, h => by
    have hx := hW x List.mem_cons_self
    have e : (putB m x.1 x.2).length = m.length := putB_length hx
    show bt (puts (putB m x.1 x.2) W) t = _
    rw [bt_puts (W := W) (fun y hy => by rw [e]; exact hW y (List.mem_cons_of_mem _ hy)) fun y hy => h y (List.mem_cons_of_mem _ hy)]
    exact bt_putB_ne hx (h x List.mem_cons_self)
theorem word_puts {a : Nat} {W : List (Nat × List UInt8)} {m : List UInt8} (hW : InW m.length W) (h : ∀ x ∈ W, a + 4 ≤ x.1 ∨ x.1 + x.2.length ≤ a) : word (puts m W) a = word m a := by
  unfold word
  rw [bt_puts hW fun x hx => by have := h x hx; omega, bt_puts hW fun x hx => by have := h x hx; omega, bt_puts hW fun x hx => by have := h x hx; omega, bt_puts hW fun x hx => by have := h x hx; omega]
theorem wds_get : ∀ {l : List Nat} {a i w : Nat} {m : List UInt8}, a + 4 * l.length ≤ m.length → l[i]? = some w → w < 4294967296 → word (puts m (wds a l)) (a + 4 * i) = w
  | [], _, _, _, _, _, h, _ => by cases h
  | x :: l, a, i, w, m, hl, h, hw => by
    rw [List.length_cons] at hl
    have e : (putB m a (le4 x)).length = m.length := putB_length (by rw [le4_length]; omega)
    show word (puts (putB m a (le4 x)) (wds (a + 4) l)) (a + 4 * i) = w
    rcases i with _ | i
    · rw [List.getElem?_cons_zero, Option.some.injEq] at h
      subst h
      rw [word_puts (wds_in (by rw [e]; omega)) fun y hy => by have := wds_mem hy; omega]
      exact word_le4 (by omega) hw
    · rw [List.getElem?_cons_succ] at h
      have := wds_get (a := a + 4) (m := putB m a (le4 x)) (by rw [e]; omega) h hw
      rwa [show a + 4 * (i + 1) = a + 4 + 4 * i by omega]
theorem zer_len (n : Nat) : (zer n).length = n := List.length_replicate
set_option maxRecDepth 100000 in
theorem s25 {m : List UInt8} {a : Nat} {l : List Nat} (h : VM m) (ha : a % 4 = 0) (hl : a + 4 * l.length ≤ m.length) (hw : ∀ w ∈ l, w < 4294967296) : Calls0 (evCall FN (k + 10100)) 25 [memV m, .int .i64 a, csl 1 (uV l)] (memV (puts m (wds a l))) := by
  have hml := h.le
  have hdv : (uV l).length / 1 = l.length := by unfold uV; simp
  refine q_call0 fn25 fun T H E lv => ?_
  repeat (first | refine stN ?_ | intro E)
  refine q_loop (α := Nat) (LInv.mk (fun i => i ≤ l.length) (fun i => l.length - i)
    (fun i => [(7, .int .i64 (i : Int)), (6, .ref 1 0), (3, .ref 0 0), (2, csl 1 (uV l)), (1, .int .i64 (a : Int))])
    (fun i => [(1, [.sl 0 0 []]), (0, [csl 128 ((puts m (wds a (l.take i))).map ofB)])]))
    (fun _ _ c => c = 4) 0 (Nat.zero_le _) rfl (show l.length - 0 < k + 10099 by omega) ⟨rfl, rfl, rfl, rfl, rfl, trivial⟩ ⟨rfl, rfl, trivial⟩ ?_
  rintro i lv c T H E hP rfl hμ
  have hP : i ≤ l.length := hP
  clear hμ
  dsimp only
  rcases Nat.lt_or_ge i l.length with hi | hi
  · obtain ⟨w, hwi⟩ : ∃ w, l[i]? = some w := ⟨_, List.getElem?_eq_getElem hi⟩
    have hww := hw w (List.mem_of_getElem? hwi)
    have hr : rd (uV l) (i * 1) 1 false = some (.int .u32 (w : Int)) := by
      simp only [rd, Bool.false_eq_true, if_false, Nat.mul_one, uV, List.getElem?_map, hwi, Option.map_some, AV.leaf, if_true]
    have gi : inB (i : Int) ((uV l).length / 1) = some i := inB_n (by omega)
    have hll : (l.take i).length = i := by rw [List.length_take]; omega
    have hpl : (puts m (wds a (l.take i))).length = m.length := puts_len (wds_in (by omega))
    have ht : puts m (wds a (l.take (i + 1))) = putB (puts m (wds a (l.take i))) (a + 4 * i) (le4 w) := by
      have e : l.take (i + 1) = l.take i ++ [w] := by rw [List.take_add_one, hwi]; rfl
      rw [e, wds_snoc, puts_app, hll]; rfl
    have c46 : Calls0 (evCall FN (k + 10099)) 46 [memV (puts m (wds a (l.take i))), .agg [.int .i64 ((a + 4 * i : Nat) : Int), .int .i64 4, .int .u32 w]] (.agg [csl 128 ((putB (puts m (wds a (l.take i))) (a + 4 * i) (le4 w)).map ofB), .bool true]) := (s46 (k := 0) (h.of_len hpl) (by omega) (by omega) hww).fuel (by omega)
    rw [← ht] at c46
    repeat (first | refine stN ?_ | intro E)
    exact n_again (i + 1) (show i + 1 ≤ l.length by omega) rfl (show l.length - (i + 1) < l.length - i by omega) ⟨rfl, rfl, rfl, rfl, rfl, trivial⟩ ⟨⟨rfl, rfl⟩, ⟨rfl, rfl⟩, trivial⟩
  · rw [List.take_of_length_le hi]
    repeat (first | refine stN ?_ | intro E)
    apply n_exit
    apply b_exit
    repeat (first | refine stN ?_ | intro E)
    exact q_ret (.inr rfl) rfl rfl rfl rfl rfl rfl
end Go.Proofs.Ytaeoaakblilfeaa

/- A packet goes out and comes in: of the model. No condition but what is said. -/
namespace Go.Proofs.Ytaeoaakblilfeaa
open Go.Abs
structure D1 (X : List UInt8) (b a L f st : Nat) : Prop where
  a : dw X b 0 0 = a
  n : dw X b 0 1 = L
  f : dw X b 0 2 = f
  st : dw X b 0 3 = st
  no : ∀ j, 1 ≤ j → j < 8 → dw X b j 3 = 0
theorem walk1 {X : List UInt8} {b k a L f : Nat} (h : D1 X b a L f 1) (hf : f = 0 ∨ f = 1) (hL : 1 ≤ L ∧ L ≤ 512) (ha : a + L ≤ X.length) : walk X b k 5 [] 0 = ([0], 0) := by
  have e0 : errAt X b k [] 0 = 0 := by
    unfold errAt errN
    rw [h.a, h.n, h.f, h.st]
    rcases hf with rfl | rfl <;> (simp [bn]; omega)
  rw [walk, if_neg (by rw [e0]; simp), if_neg (by rw [h.f]; rcases hf with rfl | rfl <;> decide)]
  rfl
theorem fst_hit {X : List UInt8} {b k a L f : Nat} (h : D1 X b a L f 1) (hk : 0 < k) : fstR X b k 0 k 0 = (0, true) := by
  obtain ⟨q, rfl⟩ : ∃ q, k = q + 1 := ⟨k - 1, by omega⟩
  have e : (0 + 0) % (q + 1) = 0 := Nat.zero_mod _
  rw [fstR, e, if_pos h.st]
theorem fst_none {X : List UInt8} {b k pos : Nat} (hk : 0 < k) (h : ∀ j, j < k → dw X b j 3 ≠ 1) : ∀ (n i : Nat), (fstR X b k pos n i).2 = false
  | 0, i => rfl
  | n + 1, i => by
    rw [fstR, if_neg (h _ (Nat.mod_lt _ hk))]
    exact fst_none hk h n (i + 1)
theorem D1.none {X : List UInt8} {b a L f st k : Nat} (h : D1 X b a L f st) (hk : k ≤ 8) (hs : st ≠ 1) : ∀ j, j < k → dw X b j 3 ≠ 1 := by
  intro j hj
  rcases Nat.eq_zero_or_pos j with rfl | hp
  · rw [h.st]; exact hs
  · rw [h.no j hp (by omega)]; decide
theorem dw_far {X ys : List UInt8} {b j t a : Nat} (h : a + ys.length ≤ X.length) (hd : b + 16 * j + 4 * t + 4 ≤ a ∨ a + ys.length ≤ b + 16 * j + 4 * t) : dw (putB X a ys) b j t = dw X b j t := by
  unfold dw word
  rw [bt_putB_ne h (by omega), bt_putB_ne h (by omega), bt_putB_ne h (by omega), bt_putB_ne h (by omega)]
theorem D1.far {X ys : List UInt8} {b a L f st c : Nat} (h : D1 X b a L f st) (hc : c + ys.length ≤ X.length) (hd : b + 128 ≤ c ∨ c + ys.length ≤ b) : D1 (putB X c ys) b a L f st :=
  ⟨by rw [dw_far hc (by omega)]; exact h.a, by rw [dw_far hc (by omega)]; exact h.n, by rw [dw_far hc (by omega)]; exact h.f, by rw [dw_far hc (by omega)]; exact h.st, fun j h1 h2 => by rw [dw_far hc (by omega)]; exact h.no j h1 h2⟩
theorem D1.mark {X : List UInt8} {b a L f st w : Nat} (h : D1 X b a L f st) (hX : b + 128 ≤ X.length) (hw : w < 4294967296) : D1 (mark1 b w X 0) b a L f w :=
  ⟨by rw [dw_mark1_ne (by omega) (by omega) (.inr (by omega))]; exact h.a, by rw [dw_mark1_ne (by omega) (by omega) (.inr (by omega))]; exact h.n, by rw [dw_mark1_ne (by omega) (by omega) (.inr (by omega))]; exact h.f, dw_mark1_eq (by omega) hw, fun j h1 h2 => by rw [dw_mark1_ne (by omega) (by omega) (.inl (by omega))]; exact h.no j h1 h2⟩
theorem D1.markFar {X : List UInt8} {b b' a L f st w : Nat} (h : D1 X b a L f st) (hX : b' + 16 ≤ X.length) (hd : b + 128 ≤ b' ∨ b' + 16 ≤ b) : D1 (mark1 b' w X 0) b a L f st :=
  h.far (by rw [le4_length]; omega) (by rw [le4_length]; omega)
theorem whole_le {k : Nat} (h : wholeN k) : 0 < k ∧ k ≤ 8 := by unfold wholeN at h; omega
theorem trun_none {X : List UInt8} {b k : Nat} (hk : 0 < k) : ∀ (n : Nat) (x : TS), (∀ j, j < k → dw x.m b j 3 ≠ 1) → trun b k n x = x
  | 0, x, _ => rfl
  | n + 1, x, h => by
    unfold trun
    rw [if_pos (fst_none hk h k 0)]
theorem chk_here {n b k : Nat} (hk : wholeN k) (hb : b % 16 = 0) (hn : b + 128 ≤ n) : chkN n b k = 0 := by
  have := whole_le hk
  exact if_pos ⟨hk, hb, by omega⟩
theorem trun_one {X pk : List UInt8} {b k a : Nat} (h : D1 X b a pk.length 0 1) (hk : wholeN k) (hX : b + 128 ≤ X.length) (hL : 1 ≤ pk.length ∧ pk.length ≤ 512) (ha : a + pk.length ≤ X.length) (hab : b + 128 ≤ a) (hd : (X.drop a).take pk.length = pk) :
    trun b k k ⟨X, [], false, 0, 0⟩ = ⟨mark1 b 3 (mark1 b 2 X 0) 0, [pk], true, 1 % k, 0⟩ := by
  obtain ⟨k0, k8⟩ := whole_le hk
  obtain ⟨t1, t2, t3⟩ := take_ok (walk1 (k := k) h (.inl rfl) hL ha)
  have hf := fst_hit h k0
  have hl : (mark1 b 2 X 0).length = X.length := mark1_length (by omega)
  have e1 : ptsOf X b k 0 = [⟨0, a, pk.length, false⟩] := by
    unfold ptsOf
    rw [t2]
    simp only [List.map_cons, List.map_nil, ptOf, wr, h.a, h.n, h.f]
    rfl
  have e2 : mfE [⟨0, a, pk.length, false⟩] false 0 512 = 0 := by
    unfold mfE
    rw [if_neg (by simp), psum_cons, show psum [] = 0 from rfl]
    dsimp only
    rw [if_neg (by omega)]
  have e3 : gath (mark1 b 2 X 0) [⟨0, a, pk.length, false⟩] = pk := by
    unfold gath rdP
    simp only [List.flatMap_cons, List.flatMap_nil, List.append_nil, Bool.false_eq_true, if_false]
    have := putB_at (m := X) (x := (b + 16 * 0 + 12, le4 2)) (a := a) (n := pk.length) (by rw [le4_length]; dsimp only; omega) (by rw [le4_length]; dsimp only; omega)
    exact this.trans hd
  have es : tserve b k 0 ⟨X, [], false, 0, 0⟩ = ⟨mark1 b 3 (mark1 b 2 X 0) 0, [pk], true, 1 % k, 0⟩ := by
    unfold tserve
    dsimp only
    rw [if_neg (by rw [t3]; simp), e1, if_neg (by rw [e2]; simp), t1, t2, show markB X b 2 [0] = mark1 b 2 X 0 from rfl, e3]
    rfl
  obtain ⟨q, rfl⟩ : ∃ q, k = q + 1 := ⟨k - 1, by omega⟩
  unfold trun
  dsimp only
  rw [hf, if_neg (by simp), es]
  have hD : D1 (mark1 b 3 (mark1 b 2 X 0) 0) b a pk.length 0 3 := (h.mark (w := 2) hX (by omega)).mark (by omega) (by omega)
  exact trun_none (X := X) (by omega) q _ (hD.none k8 (by decide))
theorem rcv_one {X pk : List UInt8} {b k c st dr : Nat} (h : D1 X b c pk.length 1 1) (hm : VM X) (hk : wholeN k) (hb : b % 16 = 0) (hX : b + 128 ≤ X.length) (hL : 1 ≤ pk.length ∧ pk.length ≤ 512) (hc : c + pk.length ≤ X.length) :
    rcv b k 0 st dr X pk = ⟨putB (mark1 b 3 (putB (mark1 b 2 X 0) c pk) 0) (b + 4) (le4 pk.length), true, true, 1 % k, st, dr⟩ := by
  obtain ⟨k0, k8⟩ := whole_le hk
  obtain ⟨t1, t2, t3⟩ := take_ok (walk1 (k := k) h (.inr rfl) hL hc)
  have hf := fst_hit h k0
  have e1 : ptsOf X b k 0 = [⟨0, c, pk.length, true⟩] := by
    unfold ptsOf
    rw [t2]
    simp only [List.map_cons, List.map_nil, ptOf, wr, h.a, h.n, h.f]
    rfl
  have e2 : mfE [⟨0, c, pk.length, true⟩] true pk.length 1048576 = 0 := by
    unfold mfE
    rw [if_neg (by simp), psum_cons, show psum [] = 0 from rfl]
    dsimp only
    rw [if_neg (by omega)]
  have e3 : (scat (mark1 b 2 X 0) [⟨0, c, pk.length, true⟩] pk).1 = putB (mark1 b 2 X 0) c pk := by
    unfold scat
    simp only [List.foldl_cons, List.foldl_nil, scS, if_true]
    congr 1
    simp
  unfold rcv
  rw [if_neg (by omega), if_neg (by rw [chk_here hk hb hX]; simp), hf, if_neg (by simp)]
  dsimp only
  unfold rserve
  rw [if_neg (by rw [t3]; simp), e1, if_neg (by rw [e2]; simp), t1, t2, show markB X b 2 [0] = mark1 b 2 X 0 from rfl, e3]
  rfl
theorem rcv_no {X pk : List UInt8} {b k a st dr c L f s0 : Nat} (h : D1 X b c L f s0) (hs : s0 ≠ 1) (hk : wholeN k) (hb : b % 16 = 0) (hX : b + 128 ≤ X.length) (hL : 1 ≤ pk.length ∧ pk.length ≤ 512) : rcv b k a st dr X pk = ⟨X, false, false, a, st, dropN dr⟩ := by
  obtain ⟨k0, k8⟩ := whole_le hk
  unfold rcv
  rw [if_neg (by omega), if_neg (by rw [chk_here hk hb hX]; simp), if_pos (fst_none k0 (h.none k8 hs) k 0)]
end Go.Proofs.Ytaeoaakblilfeaa

/- NicCarriesPackets: what it answers. Condition: the arguments are such as their types hold. -/
namespace Go.Proofs.Ytaeoaakblilfeaa
open Go.Abs
variable {k : Nat}
theorem zer_pages : (List.replicate (16 : Int).toNat (List.replicate 128 (AV.int .u8 0))).flatten = (zer 2048).map ofB := by
  show (List.replicate 16 (List.replicate 128 (AV.int .u8 0))).flatten = _
  rw [List.flatten_replicate_replicate]
  unfold zer
  rw [List.map_replicate]
  rfl
theorem port68 {tb ts rb rs ta ra st dr w : Nat} {m : List UInt8} {R : TS} (hc : chkN m.length tb ts = 0) (hR : trun tb ts ts ⟨m, [], false, ta, st⟩ = R) : portV tb ts rb rs ta ra st dr m false 68 w = .tup [.agg [.int .u32 tb, .int .u32 ts, .int .u32 rb, .int .u32 rs, .int .i64 R.a, .int .i64 ra, .int .i64 R.st, .int .i64 dr], .agg [csl 128 (R.m.map ofB), .int .u32 (0 : Nat), csl 1 (outV R.o), .bool R.r, .bool true]] := by
  have e : portC tb ts rb rs ta ra st dr m false 68 w = doC tb ts rb rs R.a ra R.st dr R.m 0 (csl 1 (outV R.o)) R.r true := by
    unfold portC
    rw [if_neg (by decide), if_neg (by decide), if_neg (by decide), if_neg (by decide), if_neg (by decide), if_pos rfl, if_neg (by rw [hc]; simp), hR]
  unfold portV
  rw [e]; rfl
def memN (A C : Nat) (pk : List UInt8) : List UInt8 := putB (puts (puts (zer 2048) (wds 0 [A, pk.length, 0, 1])) (wds 128 [C, pk.length, 1, 1])) A pk
theorem word_zer {t : Nat} : word (zer 2048) t = 0 := by
  have e : ∀ i, bt (zer 2048) i = 0 := by
    intro i
    unfold bt zer
    rw [List.getD_eq_getElem?_getD, List.getElem?_replicate]
    split <;> rfl
  unfold word
  rw [e, e, e, e]
theorem memN_len {A C : Nat} {pk : List UInt8} (hA : A + pk.length ≤ 2048) : (puts (zer 2048) (wds 0 [A, pk.length, 0, 1])).length = 2048 ∧ (puts (puts (zer 2048) (wds 0 [A, pk.length, 0, 1])) (wds 128 [C, pk.length, 1, 1])).length = 2048 ∧ (memN A C pk).length = 2048 := by
  have e1 : (puts (zer 2048) (wds 0 [A, pk.length, 0, 1])).length = 2048 := by rw [puts_len (wds_in (by rw [zer_len]; show 0 + 4 * 4 ≤ 2048; omega)), zer_len]
  have e2 : (puts (puts (zer 2048) (wds 0 [A, pk.length, 0, 1])) (wds 128 [C, pk.length, 1, 1])).length = 2048 := by rw [puts_len (wds_in (by rw [e1]; show 128 + 4 * 4 ≤ 2048; omega)), e1]
  exact ⟨e1, e2, by unfold memN; rw [putB_length (by rw [e2]; omega), e2]⟩
theorem memN_d {A C : Nat} {pk : List UInt8} (hA : 256 ≤ A ∧ A + pk.length ≤ 2048) (hC : C ≤ 2048) (hL : pk.length ≤ 512) : D1 (memN A C pk) 0 A pk.length 0 1 ∧ D1 (memN A C pk) 128 C pk.length 1 1 := by
  obtain ⟨e1, e2, e3⟩ := memN_len (C := C) hA.2
  have w3 : ∀ t, t + 4 ≤ 256 → word (memN A C pk) t = word (puts (puts (zer 2048) (wds 0 [A, pk.length, 0, 1])) (wds 128 [C, pk.length, 1, 1])) t := by
    intro t ht
    unfold memN word
    rw [bt_putB_ne (by rw [e2]; omega) (by omega), bt_putB_ne (by rw [e2]; omega) (by omega), bt_putB_ne (by rw [e2]; omega) (by omega), bt_putB_ne (by rw [e2]; omega) (by omega)]
  have w2 : ∀ i w, [C, pk.length, 1, 1][i]? = some w → w < 4294967296 → word (memN A C pk) (128 + 4 * i) = w := by
    intro i w hi hw
    have : i < 4 := (List.getElem?_eq_some_iff.1 hi).1
    rw [w3 _ (by omega)]
    exact wds_get (by rw [e1]; show 128 + 4 * 4 ≤ 2048; omega) hi hw
  have w1 : ∀ i w, [A, pk.length, 0, 1][i]? = some w → w < 4294967296 → word (memN A C pk) (0 + 4 * i) = w := by
    intro i w hi hw
    have : i < 4 := (List.getElem?_eq_some_iff.1 hi).1
    rw [w3 _ (by omega), word_puts (wds_in (by rw [e1]; show 128 + 4 * 4 ≤ 2048; omega)) fun x hx => by have := wds_mem hx; omega]
    exact wds_get (by rw [zer_len]; show 0 + 4 * 4 ≤ 2048; omega) hi hw
  have wz : ∀ t, t + 4 ≤ 256 → (16 ≤ t ∧ t + 4 ≤ 128) ∨ 144 ≤ t → word (memN A C pk) t = 0 := by
    intro t ht h
    rw [w3 t ht, word_puts (wds_in (by rw [e1]; show 128 + 4 * 4 ≤ 2048; omega)) (fun x hx => by have := wds_mem hx; simp only [List.length_cons, List.length_nil] at this; omega), word_puts (wds_in (by rw [zer_len]; show 0 + 4 * 4 ≤ 2048; omega)) (fun x hx => by have := wds_mem hx; simp only [List.length_cons, List.length_nil] at this; omega)]
    exact word_zer
  refine ⟨⟨w1 0 A rfl (by omega), w1 1 _ rfl (by omega), w1 2 _ rfl (by omega), w1 3 _ rfl (by omega), fun j h1 h2 => wz _ (by omega) (by omega)⟩, ⟨w2 0 C rfl (by omega), w2 1 _ rfl (by omega), w2 2 _ rfl (by omega), w2 3 _ rfl (by omega), fun j h1 h2 => wz _ (by omega) (by omega)⟩⟩
def memO (X : List UInt8) : List UInt8 := mark1 0 3 (mark1 0 2 X 0) 0
def memI (X : List UInt8) (C : Nat) (pk : List UInt8) : List UInt8 := putB (mark1 128 3 (putB (mark1 128 2 X 0) C pk) 0) (128 + 4) (le4 pk.length)
structure Way (A C kk : Nat) (pk X : List UInt8) : Prop where
  lo : (memO X).length = 2048
  li : (memI (memO X) C pk).length = 2048
  tx : trun 0 kk kk ⟨X, [], false, 0, 0⟩ = ⟨memO X, [pk], true, 1 % kk, 0⟩
  rx : rcv 128 kk 0 0 0 (memO X) pk = ⟨memI (memO X) C pk, true, true, 1 % kk, 0, 0⟩
  no : rcv 128 kk (1 % kk) 0 0 (memI (memO X) C pk) pk = ⟨memI (memO X) C pk, false, false, 1 % kk, 0, 1⟩
  out : trun 0 kk kk ⟨memI (memO X) C pk, [], false, 1 % kk, 0⟩ = ⟨memI (memO X) C pk, [], false, 1 % kk, 0⟩
  data : ((memI (memO X) C pk).drop C).take pk.length = pk
  size : word (memI (memO X) C pk) 132 = pk.length
theorem way {A C kk : Nat} {pk X : List UInt8} (h0 : D1 X 0 A pk.length 0 1) (h1 : D1 X 128 C pk.length 1 1) (hX : X.length = 2048) (hk : wholeN kk) (hL : 1 ≤ pk.length ∧ pk.length ≤ 512) (hA : 256 ≤ A ∧ A + pk.length ≤ 2048) (hC : 256 ≤ C ∧ C + pk.length ≤ 2048) (hd : (X.drop A).take pk.length = pk) : Way A C kk pk X := by
  have l1 : (mark1 0 2 X 0).length = 2048 := (mark1_length (by omega)).trans hX
  have lo : (memO X).length = 2048 := (mark1_length (by omega)).trans l1
  have l2 : (mark1 128 2 (memO X) 0).length = 2048 := (mark1_length (by omega)).trans lo
  have l3 : (putB (mark1 128 2 (memO X) 0) C pk).length = 2048 := (putB_length (by omega)).trans l2
  have l4 : (mark1 128 3 (putB (mark1 128 2 (memO X) 0) C pk) 0).length = 2048 := (mark1_length (by omega)).trans l3
  have li : (memI (memO X) C pk).length = 2048 := (putB_length (by rw [le4_length]; omega)).trans l4
  have d1 : D1 (memO X) 128 C pk.length 1 1 := (h1.markFar (by omega) (by omega)).markFar (by omega) (by omega)
  have d2 : D1 (memO X) 0 A pk.length 0 3 := (h0.mark (w := 2) (by omega) (by omega)).mark (by omega) (by omega)
  have d3 : D1 (mark1 128 3 (putB (mark1 128 2 (memO X) 0) C pk) 0) 128 C pk.length 1 3 := ((d1.mark (w := 2) (by omega) (by omega)).far (by omega) (by omega)).mark (by omega) (by omega)
  have d4 : D1 (memI (memO X) C pk) 128 C pk.length 1 3 := by
    refine ⟨?_, ?_, ?_, ?_, fun j h1 h2 => ?_⟩
    · rw [memI, dw_far (by rw [le4_length]; omega) (by rw [le4_length]; omega)]; exact d3.a
    · show word (putB _ (128 + 4) (le4 pk.length)) (128 + 4) = _
      exact word_le4 (by omega) (by omega)
    · rw [memI, dw_far (by rw [le4_length]; omega) (by rw [le4_length]; omega)]; exact d3.f
    · rw [memI, dw_far (by rw [le4_length]; omega) (by rw [le4_length]; omega)]; exact d3.st
    · rw [memI, dw_far (by rw [le4_length]; omega) (by rw [le4_length]; omega)]; exact d3.no j h1 h2
  have d5 : D1 (memI (memO X) C pk) 0 A pk.length 0 3 := (((d2.markFar (by omega) (by omega)).far (by omega) (by omega)).markFar (by omega) (by omega)).far (by rw [le4_length]; omega) (by rw [le4_length]; omega)
  have hk0 := whole_le hk
  refine ⟨lo, li, trun_one h0 hk (by omega) hL (by omega) (by omega) hd, rcv_one d1 ⟨16, by decide, by decide, lo⟩ hk (by decide) (by omega) hL (by omega), rcv_no d4 (by decide) hk (by decide) (by omega) hL, trun_none (X := X) hk0.1 _ _ (d5.none hk0.2 (by decide)), ?_, word_le4 (by omega) (by omega)⟩
  have e1 := putB_at (m := mark1 128 3 (putB (mark1 128 2 (memO X) 0) C pk) 0) (x := (128 + 4, le4 pk.length)) (a := C) (n := pk.length) (by rw [le4_length]; dsimp only; omega) (by rw [le4_length]; dsimp only; omega)
  have e2 := putB_at (m := putB (mark1 128 2 (memO X) 0) C pk) (x := (128 + 16 * 0 + 12, le4 3)) (a := C) (n := pk.length) (by rw [le4_length]; dsimp only; omega) (by rw [le4_length]; dsimp only; omega)
  exact e1.trans (e2.trans (putB_self (by omega)))
end Go.Proofs.Ytaeoaakblilfeaa
