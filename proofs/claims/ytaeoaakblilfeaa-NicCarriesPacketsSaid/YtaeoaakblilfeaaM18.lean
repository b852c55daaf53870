/- Part 18 of the texts on which proofs about this seat rest: each says what it proves at its own head. No condition. -/
import Derived.Test.YtaeoaakblilfeaaM17
set_option linter.unusedVariables false
set_option linter.unusedSimpArgs false
/- Small methods of the work under way: they write its object. Conditions: the memory is valid, the ring is there. -/
namespace Go.Proofs.Ytaeoaakblilfeaa
open Go.Abs
variable {k : Nat}
abbrev woC (m : List UInt8) (v : Nat) (o : AV) (r ok : Bool) (tb ts rb rs : Nat) (ta ra st dr : Int) : List AV :=
  [csl 128 (m.map ofB), .int .u32 v, o, .bool r, .bool ok, .int .u32 tb, .int .u32 ts, .int .u32 rb, .int .u32 rs, .int .i64 ta, .int .i64 ra, .int .i64 st, .int .i64 dr]
theorem objs_at {os : List (Nat × List AV)} {H : Hp} {i : Nat} {cells : List AV} (ho : lkO os i = some cells) : objs [(i, cells)] (objs os H) = objs os H := by
  funext j
  simp only [objs, upd]
  split
  · next hj => rw [hj, lkO_objs ho]
  · rfl
theorem writes_at {F : CallF} {f : FuncId} {args : List AV} {os : List (Nat × List AV)} {H : Hp} {n : Nat} {lv : Nat → Bool} {c : Nat} {E : Nat → Option TypeId} {R : AV} {id i : Nat} {v cells : List AV} (ho : lkO os i = some cells) (h : Writes F f args [(i, cells)] (objs os H) n lv c E R id v) : Writes F f args os H n lv c E R id v := by
  obtain ⟨h⟩ := h
  rw [objs_at ho] at h
  exact ⟨h⟩
section
variable {m : List UInt8} {v tb ts rb rs : Nat} {ta ra st dr : Int} {br z : Nat} {xs : List AV} {r ok : Bool} {H : Hp} {E : Nat → Option TypeId} {lv : Nat → Bool} {c n : Nat}
set_option maxRecDepth 100000 in
theorem s61 {e : Int} (hn : 6 ≤ n) : Writes (evCall FN (k + 1)) 61 [.ref 5 0, .int .i64 e] [(5, woC m v (.sl br z xs) r ok tb ts rb rs ta ra st dr)] H n lv c E (.tup []) 5 (woC m v (.sl br z xs) r ok tb ts rb rs ta ra e dr) := by
  refine q_writes (by omega) rfl fn61 fun T => ?_
  repeat (first | refine stN ?_ | intro E)
  exact q_rets (.inl rfl) rfl rfl rfl rfl rfl ⟨rfl, _, rfl, lkO_objs rfl, (Same.refl _ _ _).upd (.inl rfl)⟩
set_option maxRecDepth 100000 in
theorem s65a {b s i e : Nat} (h : RV m b s) (hi : i < s) (he : 160 ≤ e ∧ e ≤ 165) : Writes (evCall FN (k + 10500)) 65 [.ref 5 0, ringV b s, .int .i64 i, .int .i64 e] [(5, woC m v (.sl br z xs) r ok tb ts rb rs ta ra st dr)] H 10 lv c E (.tup []) 5 (woC (mark1 b (4 + (e - 160)) m i) v (.sl br z xs) r ok tb ts rb rs ta ra e dr) := by
  have c86 : Calls0 (evCall FN (k + 10499)) 86 [memV m, ringV b s, .int .i64 i, .int .i64 e] (memV (mark1 b (4 + (e - 160)) m i)) := (s86 (k := 0) h hi he).fuel (by omega)
  generalize mark1 b (4 + (e - 160)) m i = M at *
  refine q_writes (by omega) rfl fn65 fun T => ?_
  repeat (first | refine stN ?_ | intro E)
  apply p_writesX (args := [.ref 5 0, .int .i64 e]) (id := 5) (n0 := 10) (H0 := objs [(5, woC m v (.sl br z xs) r ok tb ts rb rs ta ra st dr)] H) (os' := [(5, woC M v (.sl br z xs) r ok tb ts rb rs ta ra e dr)])
  · exact rfl
  · exact fun H E => writes_at rfl ((s61 (k := 0) (by omega)).fuel (by omega))
  · exact ⟨.inl ⟨rfl, rfl⟩, trivial⟩
  · exact (by repeat (first | exact Same.refl _ _ _ | refine Same.cons ?_ rfl))
  · omega
  intro H2 hS2
  repeat (first | refine stN ?_ | intro E)
  exact q_rets (.inl rfl) rfl rfl rfl rfl rfl ⟨rfl, _, rfl, lkO_objs rfl, hS2⟩
set_option maxRecDepth 100000 in
theorem s65b {b s i e : Nat} (h : RV m b s) (hi : i < s) (he : 160 ≤ e ∧ e ≤ 165) : Writes (evCall FN (k + 10500)) 65 [.ref 5 0, ringV b s, .int .i64 i, .int .i64 e] [(5, woC m v (.sl br z xs) r ok tb ts rb rs ta ra st dr)] H 11 lv c E (.tup []) 5 (woC (mark1 b (4 + (e - 160)) m i) v (.sl br z xs) r ok tb ts rb rs ta ra e dr) := by
  have c86 : Calls0 (evCall FN (k + 10499)) 86 [memV m, ringV b s, .int .i64 i, .int .i64 e] (memV (mark1 b (4 + (e - 160)) m i)) := (s86 (k := 0) h hi he).fuel (by omega)
  generalize mark1 b (4 + (e - 160)) m i = M at *
  refine q_writes (by omega) rfl fn65 fun T => ?_
  repeat (first | refine stN ?_ | intro E)
  apply p_writesX (args := [.ref 5 0, .int .i64 e]) (id := 5) (n0 := 11) (H0 := objs [(5, woC m v (.sl br z xs) r ok tb ts rb rs ta ra st dr)] H) (os' := [(5, woC M v (.sl br z xs) r ok tb ts rb rs ta ra e dr)])
  · exact rfl
  · exact fun H E => writes_at rfl ((s61 (k := 0) (by omega)).fuel (by omega))
  · exact ⟨.inl ⟨rfl, rfl⟩, trivial⟩
  · exact (by repeat (first | exact Same.refl _ _ _ | refine Same.cons ?_ rfl))
  · omega
  intro H2 hS2
  repeat (first | refine stN ?_ | intro E)
  exact q_rets (.inl rfl) rfl rfl rfl rfl rfl ⟨rfl, _, rfl, lkO_objs rfl, hS2⟩
set_option maxRecDepth 100000 in
theorem s36 {b s p : Nat} {cells : List AV} (hu : underL 7 cells = true) : Writes (evCall FN (k + 1)) 36 [.ref 5 0, ringV b s, .ref 5 p] [(5, cells)] H 7 lv c E (.fn 59 [] [.cp [.ref 5 0] 0, .cp [.int .u32 b, .int .u32 s] 0, .cp [.ref 5 p] 0]) 5 cells := by
  refine q_writes (by omega) hu fn36 fun T => ?_
  repeat (first | refine stN ?_ | intro E)
  refine q_rets (.inr rfl) rfl rfl rfl ?_ rfl ⟨rfl, _, rfl, lkO_objs rfl, (((Same.refl _ _ _).upd (.inr (by omega))).upd (.inr (by omega))).upd (.inr (by omega))⟩
  rfl
end
end Go.Proofs.Ytaeoaakblilfeaa
