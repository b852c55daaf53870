/- Part 33 of the texts on which proofs about this seat rest: each says what it proves at its own head. No condition. -/
import Derived.Test.YtaeoaakblilfeaaM32
set_option linter.unusedVariables false
set_option linter.unusedSimpArgs false
/- NicWorksAsSpecified: what it answers. Condition: the arguments are such as their types hold. -/
namespace Go.Proofs.Ytaeoaakblilfeaa
open Go.Abs
variable {k : Nat}
theorem eqN8 (a b c d : Nat) (e f g h : Int) : eqKs [0, 0, 0, 0, 0, 0, 0, 0] [.int .u32 a, .int .u32 b, .int .u32 c, .int .u32 d, .int .i64 e, .int .i64 f, .int .i64 g, .int .i64 h] [.int .u32 a, .int .u32 b, .int .u32 c, .int .u32 d, .int .i64 e, .int .i64 f, .int .i64 g, .int .i64 h] = some true := by
  simp [eqKs, eqK]
set_option maxRecDepth 100000 in
set_option maxHeartbeats 8000000 in
theorem s3 {x : NI} {m pk : List UInt8} {p w : Nat} {i : Bool} {port : Int} (hx : NR x) (hp : m.length = 128 * p) : Calls0 (evCall FN (k + 11000)) 3 [niV x, memV m, .agg [.bool i, .int .i64 port, .int .u32 w], .str pk] (.bool true) := by
  have c9 : Calls0 (evCall FN (k + 10999)) 9 [] (.bool true) := s9.fuel (k := 400) (by omega)
  have hb1 := hx.tb; have hb2 := hx.ts; have hb3 := hx.rb; have hb4 := hx.rs
  by_cases hv : p = 0 ∨ 64 < p
  · have c8 : Calls0 (evCall FN (k + 10999)) 8 [memV m] (.bool false) := (s8f (k := 0) hp hv).fuel (by omega)
    refine q_call0 fn3 fun T H E lv => ?_
    repeat (first | refine stN ?_ | intro E)
    exact q_ret (.inr rfl) rfl rfl rfl rfl rfl rfl
  have hm : VM m := ⟨p, by omega, by omega, hp⟩
  have c8 : Calls0 (evCall FN (k + 10999)) 8 [memV m] (.bool true) := (s8t (k := 0) hm).fuel (by omega)
  by_cases hpk : 600 < pk.length
  · refine q_call0 fn3 fun T H E lv => ?_
    repeat (first | refine stN ?_ | intro E)
    exact q_ret (.inr rfl) rfl rfl rfl rfl rfl rfl
  have c10 : Calls0 (evCall FN (k + 10999)) 10 [niV x] (.bool (nvalidB x)) := (s10 (k := 0) hx.ts hx.rs).fuel (by omega)
  have c11 : Calls0 (evCall FN (k + 10999)) 11 [niV x] (.bool (nvalidB x)) := (s11 (k := 0) hx.ts hx.rs).fuel (by omega)
  have c12 : Calls0 (evCall FN (k + 10999)) 12 [niV x] (csl 1 ((encL (niL x)).map ofB)) := (s12 (k := 0) hx).fuel (by omega)
  have c13 : Calls0 (evCall FN (k + 10999)) 13 [niV x] (csl 1 ((encL (niL x)).map ofB)) := (s13 (k := 0) hx).fuel (by omega)
  generalize encL (niL x) = enc at *
  have hq := neq_str enc
  cases hV : nvalidB x
  · rw [hV] at c10 c11
    refine q_call0 fn3 fun T H E lv => ?_
    repeat (first | refine stN ?_ | intro E)
    apply p_b2s
    · exact rfl
    · exact b2s_ok enc
    repeat (first | refine stN ?_ | intro E)
    apply p_b2s
    · exact rfl
    · exact b2s_ok enc
    repeat (first | refine stN ?_ | intro E)
    exact q_ret (.inr rfl) rfl rfl rfl rfl rfl rfl
  rw [hV] at c10 c11
  obtain ⟨ta, ra, st, dr, hxe, hst, hdr, hpt, hpr⟩ := nvalid_nat hV
  obtain ⟨tb, ts, rb, rs, xta, xra, xst, xdr⟩ := x
  dsimp only at *
  simp only [NI.mk.injEq, true_and] at hxe
  obtain ⟨rfl, rfl, rfl, rfl⟩ := hxe
  have c14 : Calls0 (evCall FN (k + 10999)) 14 _ _ := (s14 (k := 0) (tb := tb) (ts := ts) (rb := rb) (rs := rs) (ta := ta) (ra := ra) (st := st) (dr := dr) (p := port) (w := w) (i := i) hm hb1 hb2 (by omega) (fun h => hpt.lt h)).fuel (by omega)
  have c16 : Calls0 (evCall FN (k + 10999)) 16 _ _ := (s16 (k := 0) (tb := tb) (ts := ts) (rb := rb) (rs := rs) (ta := ta) (ra := ra) (st := st) (dr := dr) (p := port) (w := w) (i := i) hm hb1 hb2 (by omega) (fun h => hpt.lt h)).fuel (by omega)
  have c15 : Calls0 (evCall FN (k + 10999)) 15 _ _ := (s15 (k := 0) (tb := tb) (ts := ts) (rb := rb) (rs := rs) (ta := ta) (ra := ra) (st := st) (dr := dr) (pk := pk) hm hb3 hb4 hdr (by omega) (fun h => hpr.lt h)).fuel (by omega)
  have c17 : Calls0 (evCall FN (k + 10999)) 17 _ _ := (s17 (k := 0) (tb := tb) (ts := ts) (rb := rb) (rs := rs) (ta := ta) (ra := ra) (st := st) (dr := dr) (pk := pk) hm hb3 hb4 hdr (by omega) (fun h => hpr.lt h)).fuel (by omega)
  have hrl := rcv_len (st := st) (dr := dr) (pk := pk) (b := rb) hm (fun h => hpr.lt (s := rs) (a := ra) h)
  have hrm : VM (rcv rb rs ra st dr m pk).m := hm.of_len hrl
  obtain ⟨tb', ts', rb', rs', ta', ra', st', v', m', o, r, ok, he, hm', ho⟩ := portC_eq (rb := rb) (rs := rs) (ra := ra) (st := st) (dr := dr) hm (fun h => hpt.lt h) i port w
  unfold portV at c14
  rw [he] at c14 c16
  unfold recvV at c15
  have c18a : Calls0 (evCall FN (k + 10999)) 18 _ _ := (s18 (k := 0) (m := m') (v := v') (o := o) (r := r) (ok := ok) hm' ho).fuel (by omega)
  have c18b : Calls0 (evCall FN (k + 10999)) 18 [.agg [csl 128 ((rcv rb rs ra st dr m pk).m.map ofB), .int .u32 (0 : Nat), .sl 1 0 [], .bool (rcv rb rs ra st dr m pk).r, .bool (rcv rb rs ra st dr m pk).ok], .agg [csl 128 ((rcv rb rs ra st dr m pk).m.map ofB), .int .u32 (0 : Nat), .sl 1 0 [], .bool (rcv rb rs ra st dr m pk).r, .bool (rcv rb rs ra st dr m pk).ok]] (.bool true) := (s18 (k := 0) (v := 0) (o := []) hrm (Nat.zero_le _)).fuel (by omega)
  clear he hrl hrm
  generalize rcv rb rs ra st dr m pk = R at *
  have e1 := eqN8 tb' ts' rb' rs' ta' ra' st' dr
  have e2 := eqN8 tb ts rb rs ta R.a R.st R.dr
  refine q_call0 fn3 fun T H E lv => ?_
  show Wp _ _ _ ⟨slots (argSlots 0 [AV.agg [.int .u32 tb, .int .u32 ts, .int .u32 rb, .int .u32 rs, .int .i64 ta, .int .i64 ra, .int .i64 st, .int .i64 dr], memV m, .agg [.bool i, .int .i64 port, .int .u32 w], .str pk]) _, _, _, _, _, _⟩ _
  repeat (first | refine stN ?_ | intro E)
  apply p_b2s
  · exact rfl
  · exact b2s_ok enc
  repeat (first | refine stN ?_ | intro E)
  apply p_b2s
  · exact rfl
  · exact b2s_ok enc
  repeat (first | refine stN ?_ | intro E)
  apply p_eqA
  · exact rfl
  · exact rfl
  · exact e1
  repeat (first | refine stN ?_ | intro E)
  apply p_eqA
  · exact rfl
  · exact rfl
  · exact e2
  repeat (first | refine stN ?_ | intro E)
  exact q_ret (.inr rfl) rfl rfl rfl rfl rfl rfl
end Go.Proofs.Ytaeoaakblilfeaa
