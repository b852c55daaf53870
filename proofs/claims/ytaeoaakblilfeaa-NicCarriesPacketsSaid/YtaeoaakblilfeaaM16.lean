/- Part 16 of the texts on which proofs about this seat rest: each says what it proves at its own head. No condition. -/
import Derived.Test.YtaeoaakblilfeaaM15
set_option linter.unusedVariables false
set_option linter.unusedSimpArgs false
/- What a device receives, and what it does when it is asked, by the reference. Condition: the memory is valid, the device is valid. -/
namespace Go.Proofs.Ytaeoaakblilfeaa
open Go.Abs
variable {k : Nat}
def dropN (dr : Nat) : Nat := min (dr + 1) 1099511627776
set_option maxRecDepth 100000 in
theorem s39 {tb ts rb rs v dr e : Nat} {ta ra st : Int} {m : List UInt8} {r ok : Bool} (hd : dr ≤ 1099511627776) (he : e ≠ 0) :
    Calls0 (evCall FN (k + 1)) 39 [.agg (doC tb ts rb rs ta ra st dr m v (.sl 1 0 []) r ok), .int .i64 e] (.agg (doC tb ts rb rs ta ra e (dropN dr) m v (.sl 1 0 []) r ok)) := by
  refine q_call0 fn39 fun T H E lv => ?_
  unfold dropN
  repeat (first | refine stN ?_ | intro E)
  exact q_ret (.inr rfl) rfl rfl rfl rfl rfl rfl
set_option maxRecDepth 100000 in
theorem s39z {tb ts rb rs v dr : Nat} {ta ra st : Int} {m : List UInt8} {r ok : Bool} (hd : dr ≤ 1099511627776) :
    Calls0 (evCall FN (k + 1)) 39 [.agg (doC tb ts rb rs ta ra st dr m v (.sl 1 0 []) r ok), .int .i64 0] (.agg (doC tb ts rb rs ta ra st (dropN dr) m v (.sl 1 0 []) r ok)) := by
  refine q_call0 fn39 fun T H E lv => ?_
  unfold dropN
  repeat (first | refine stN ?_ | intro E)
  exact q_ret (.inr rfl) rfl rfl rfl rfl rfl rfl
structure RR where
  m : List UInt8
  r : Bool
  ok : Bool
  a : Nat
  st : Nat
  dr : Nat
def rserve (b s y st dr : Nat) (m pk : List UInt8) : RR :=
  if takeE m b s y ≠ 0 then ⟨takeM m b s y, true, false, (y + 1) % s, takeE m b s y, dropN dr⟩
  else if mfE (ptsOf m b s y) true pk.length 1048576 ≠ 0 then ⟨mark1 b (4 + (mfE (ptsOf m b s y) true pk.length 1048576 - 160)) (takeM m b s y) y, true, false, (y + 1) % s, mfE (ptsOf m b s y) true pk.length 1048576, dropN dr⟩
  else ⟨putB (markB (scat (takeM m b s y) (ptsOf m b s y) pk).1 b 3 (takeL m b s y)) (b + 16 * y + 4) (le4 pk.length), true, true, (y + 1) % s, st, dr⟩
def rcv (b s a st dr : Nat) (m pk : List UInt8) : RR :=
  if pk.length = 0 ∨ 512 < pk.length then ⟨m, false, false, a, st, dropN dr⟩
  else if chkN m.length b s ≠ 0 then ⟨m, false, false, a, chkN m.length b s, dropN dr⟩
  else if (fstR m b s a s 0).2 = false then ⟨m, false, false, a, st, dropN dr⟩
  else rserve b s (fstR m b s a s 0).1 st dr m pk
theorem chk_rv {m : List UInt8} {b s : Nat} (h : VM m) (hc : chkN m.length b s = 0) : RV m b s := by
  unfold chkN at hc
  split at hc
  · next hh => exact ⟨h, hh.1, hh.2.1, hh.2.2⟩
  · cases hc
theorem chk_cases (n b s : Nat) : chkN n b s = 0 ∨ chkN n b s = 160 := by unfold chkN; split <;> simp
theorem scat_rv {M pk : List UInt8} {l : List Pt} {b s : Nat} (h : RV M b s) (hl : PO M l) : RV (scat M l pk).1 b s := by
  have e : (scat M l pk).1.length = M.length := (scat_props (ys := pk) (n := M.length) (l := l) (r := (M, 0)) hl.inM rfl (Nat.zero_le _)).1
  exact ⟨h.m.of_len e, h.hs, h.hb, by rw [e]; exact h.le⟩
set_option maxRecDepth 100000 in
set_option maxHeartbeats 4000000 in
theorem s17 {tb ts rb rs ra st dr : Nat} {ta : Int} {m pk : List UInt8} (h : VM m) (hb : rb < 4294967296) (hs : rs < 4294967296) (hd : dr ≤ 1099511627776) (hp : pk.length ≤ 600) (ha : wholeN rs → ra < rs) :
    Calls0 (evCall FN (k + 10600)) 17 [.agg [.int .u32 tb, .int .u32 ts, .int .u32 rb, .int .u32 rs, .int .i64 ta, .int .i64 ra, .int .i64 st, .int .i64 dr], memV m, .str pk]
      (.agg (doC tb ts rb rs ta (rcv rb rs ra st dr m pk).a (rcv rb rs ra st dr m pk).st (rcv rb rs ra st dr m pk).dr (rcv rb rs ra st dr m pk).m 0 (.sl 1 0 []) (rcv rb rs ra st dr m pk).r (rcv rb rs ra st dr m pk).ok)) := by
  have c39z : ∀ (a : Nat) (M : List UInt8) (r : Bool), Calls0 (evCall FN (k + 10599)) 39 [.agg (doC tb ts rb rs ta a st dr M 0 (.sl 1 0 []) r false), .int .i64 0] (.agg (doC tb ts rb rs ta a st (dropN dr) M 0 (.sl 1 0 []) r false)) := fun a M r => (s39z (k := 0) hd).fuel (by omega)
  have c39 : ∀ (a e : Nat) (M : List UInt8) (r : Bool), e ≠ 0 → Calls0 (evCall FN (k + 10599)) 39 [.agg (doC tb ts rb rs ta a st dr M 0 (.sl 1 0 []) r false), .int .i64 e] (.agg (doC tb ts rb rs ta a e (dropN dr) M 0 (.sl 1 0 []) r false)) := fun a e M r he => (s39 (k := 0) hd he).fuel (by omega)
  have c21 : Calls0 (evCall FN (k + 10599)) 21 [memV m, ringV rb rs] (.int .i64 (chkN m.length rb rs)) := (s21 (k := 0) h hb hs).fuel (by omega)
  have c39a := c39z ra m false
  generalize hR : rcv rb rs ra st dr m pk = R
  unfold rcv at hR
  refine q_call0 fn17 fun T H E lv => ?_
  by_cases h0 : pk.length = 0
  · rw [if_pos (.inl h0)] at hR
    subst hR
    repeat (first | refine stN ?_ | intro E)
    exact q_ret (.inr rfl) rfl rfl rfl rfl rfl rfl
  by_cases h1 : 512 < pk.length
  · rw [if_pos (.inr h1)] at hR
    subst hR
    repeat (first | refine stN ?_ | intro E)
    exact q_ret (.inr rfl) rfl rfl rfl rfl rfl rfl
  rw [if_neg (by omega)] at hR
  rcases chk_cases m.length rb rs with hc | hc
  · rw [if_neg (by simpa using hc)] at hR
    have hrv := chk_rv h hc
    rw [hc] at c21
    have ha := ha hrv.hs
    have hrs := hrv.hs
    obtain ⟨⟨y, w⟩, hyz⟩ : ∃ q, fstR m rb rs ra rs 0 = q := ⟨_, rfl⟩
    have hylt := fstR_lt (m := m) (b := rb) (s := rs) (pos := ra) (by omega) rs 0
    rw [hyz] at hR hylt
    dsimp only at hR hylt
    have c40 : Calls0 (evCall FN (k + 10599)) 40 [memV m, ringV rb rs, .int .i64 ra] (.agg [.int .i64 y, .bool w]) := (s40 (k := 0) hrv (by omega) hyz).fuel (by omega)
    cases w
    · rw [if_pos rfl] at hR
      subst hR
      repeat (first | refine stN ?_ | intro E)
      exact q_ret (.inr rfl) rfl rfl rfl rfl rfl rfl
    rw [if_neg (by decide)] at hR
    have hy := hylt rfl
    unfold rserve at hR
    have c41 : Calls0 (evCall FN (k + 10599)) 41 [memV m, ringV rb rs, .int .i64 y] (.agg [csl 128 ((takeM m rb rs y).map ofB), csl 4 (partsV m rb (takeL m rb rs y)), .int .i64 (takeE m rb rs y)]) := (s41 (k := 0) hrv hy).fuel (by omega)
    have htv := take_rv hrv hy
    have hws : IntKind.i64.wrap (rs : Int) = rs := w64 (by omega) (by omega)
    have hmod : evBin .rem (.int .i64 ((y + 1 : Nat) : Int)) (.int .i64 (rs : Int)) = some (.int .i64 (((y + 1) % rs : Nat) : Int)) := rem_nn (by omega)
    by_cases he : takeE m rb rs y ≠ 0
    · rw [if_pos he] at hR
      subst hR
      have c39e := c39 ((y + 1) % rs) (takeE m rb rs y) (takeM m rb rs y) true he
      clear c39 c39z c39a
      dsimp only
      generalize takeM m rb rs y = M at *
      generalize partsV m rb (takeL m rb rs y) = L at *
      generalize takeE m rb rs y = e at *
      repeat (first | refine stN ?_ | intro E)
      exact q_ret (.inr rfl) rfl rfl rfl rfl rfl rfl
    rw [if_neg he] at hR
    have he : takeE m rb rs y = 0 := by omega
    have hok := pts_ok hrv hy he
    have hlen := hok.len
    rw [he, show partsV m rb (takeL m rb rs y) = ptsV (ptsOf m rb rs y) from parts_pts _ _ _] at c41
    have hjs : ∀ j ∈ takeL m rb rs y, j < rs := fun j hj => ((take_good hy he).1.one j hj).1
    have hjl : (takeL m rb rs y).length ≤ 4 := by unfold ptsOf at hlen; rwa [List.length_map] at hlen
    have c42 : Calls0 (evCall FN (k + 10599)) 42 [csl 4 (ptsV (ptsOf m rb rs y)), .bool true, .int .i64 pk.length, .int .i64 1048576] (.int .i64 (mfE (ptsOf m rb rs y) true pk.length 1048576)) := (s42 (k := 0) (hi := 1048576) (by omega) hok.lt).fuel (by omega)
    by_cases hf : mfE (ptsOf m rb rs y) true pk.length 1048576 ≠ 0
    · rw [if_pos hf] at hR
      subst hR
      have hfc := (mfE_cases (ptsOf m rb rs y) true pk.length 1048576).resolve_left hf
      have c43 : Calls0 (evCall FN (k + 10599)) 43 [memV (takeM m rb rs y), ringV rb rs, .int .i64 y, .int .i64 (mfE (ptsOf m rb rs y) true pk.length 1048576)] (memV (mark1 rb (4 + (mfE (ptsOf m rb rs y) true pk.length 1048576 - 160)) (takeM m rb rs y) y)) := (s43 (k := 0) htv hy (by omega)).fuel (by omega)
      have c39e := c39 ((y + 1) % rs) (mfE (ptsOf m rb rs y) true pk.length 1048576) (mark1 rb (4 + (mfE (ptsOf m rb rs y) true pk.length 1048576 - 160)) (takeM m rb rs y) y) true hf
      clear c39 c39z c39a hok
      dsimp only
      generalize mfE (ptsOf m rb rs y) true pk.length 1048576 = f at *
      generalize ptsV (ptsOf m rb rs y) = L at *
      generalize mark1 rb (4 + (f - 160)) (takeM m rb rs y) y = M2 at *
      generalize takeM m rb rs y = M at *
      repeat (first | refine stN ?_ | intro E)
      exact q_ret (.inr rfl) rfl rfl rfl rfl rfl rfl
    rw [if_neg hf] at hR
    subst hR
    have hf : mfE (ptsOf m rb rs y) true pk.length 1048576 = 0 := by omega
    rw [hf] at c42
    have hS := scat_rv (pk := pk) htv hok
    have c44 : Calls0 (evCall FN (k + 10599)) 44 [memV (takeM m rb rs y), csl 4 (ptsV (ptsOf m rb rs y)), .str pk] (.agg [csl 128 ((scat (takeM m rb rs y) (ptsOf m rb rs y) pk).1.map ofB), .int .i64 (scat (takeM m rb rs y) (ptsOf m rb rs y) pk).2]) := (s44 (k := 0) htv.m (by omega) hok.inM (by omega) hok.lt).fuel (by omega)
    have c45 : Calls0 (evCall FN (k + 10599)) 45 [memV (scat (takeM m rb rs y) (ptsOf m rb rs y) pk).1, ringV rb rs, csl 4 (partsV m rb (takeL m rb rs y))] (memV (markB (scat (takeM m rb rs y) (ptsOf m rb rs y) pk).1 rb 3 (takeL m rb rs y))) := (s45 (k := 0) hS hjs (by omega)).fuel (by omega)
    rw [show partsV m rb (takeL m rb rs y) = ptsV (ptsOf m rb rs y) from parts_pts _ _ _] at c45
    have hM2 := hS.markB (w := 3) hjs
    have hM2l := hM2.le
    have hrb16 := hM2.hb
    have hM2m := hM2.m.le
    have c46 : Calls0 (evCall FN (k + 10599)) 46 [memV (markB (scat (takeM m rb rs y) (ptsOf m rb rs y) pk).1 rb 3 (takeL m rb rs y)), .agg [.int .i64 ((rb + 16 * y + 4 : Nat) : Int), .int .i64 4, .int .u32 pk.length]] (.agg [csl 128 ((putB (markB (scat (takeM m rb rs y) (ptsOf m rb rs y) pk).1 rb 3 (takeL m rb rs y)) (rb + 16 * y + 4) (le4 pk.length)).map ofB), .bool true]) := (s46 (k := 0) hM2.m (by omega) (by omega) (by omega)).fuel (by omega)
    clear c39 c39z c39a hok hf
    have hwb : IntKind.i64.wrap (rb : Int) = rb := w64 (by omega) (by omega)
    have hwp : IntKind.u32.wrap (pk.length : Int) = pk.length := w32 (by omega) (by omega)
    dsimp only
    generalize putB (markB (scat (takeM m rb rs y) (ptsOf m rb rs y) pk).1 rb 3 (takeL m rb rs y)) (rb + 16 * y + 4) (le4 pk.length) = M3 at *
    generalize markB (scat (takeM m rb rs y) (ptsOf m rb rs y) pk).1 rb 3 (takeL m rb rs y) = M2 at *
    generalize scat (takeM m rb rs y) (ptsOf m rb rs y) pk = S at *
    generalize takeM m rb rs y = M at *
    generalize ptsV (ptsOf m rb rs y) = L at *
    repeat (first | refine stN ?_ | intro E)
    exact q_ret (.inr rfl) rfl rfl rfl rfl rfl rfl
  · rw [if_pos (by rw [hc]; decide)] at hR
    subst hR
    rw [hc] at c21 ⊢
    have c39e := c39 ra 160 m false (by decide)
    repeat (first | refine stN ?_ | intro E)
    exact q_ret (.inr rfl) rfl rfl rfl rfl rfl rfl
end Go.Proofs.Ytaeoaakblilfeaa
