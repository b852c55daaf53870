/- Part 4 of the texts on which the proof in this folder rests: each says what it proves at its own head. No condition. -/
import Derived.Test.YthkkhmkieknemaaM3
import Derived.Test.YthkkhmkieknemaaProg
import Derived.Lib.Builder
import Derived.Lib.UnsafeStr
import Derived.WalkKit
import Derived.Laws.Externs
import Derived.KernelRfl
import Derived.Shelf.Strings.Builder1
import Derived.Deep.LoopGhost
set_option linter.unusedVariables false
set_option linter.unusedSimpArgs false
/- How the calls of this seat are met, and the table of its functions without those that are proved otherwise. No condition. -/
namespace Go.Proofs.Ythkkhmkieknemaa
open Go.Abs
def hint : FuncId → Hint := fun f => { shared := fun g => g == 62 || g == 70, mode := fun d => match f, d with | 67, 12 => 2 | 49, 29 => 2 | 70, 13 => 3 | 60, 19 => 2 | 51, 29 => 2 | _, _ => 0 }
noncomputable def FN0 : FuncId → Option FnDef := FNof Try.prog hint fun _ => none
theorem tabl0 : Table Try.prog FN0 := table_of (fun f p h => by cases h)
end Go.Proofs.Ythkkhmkieknemaa

/- strings.Builder: what copyCheck and String do in memory. Conditions: the builder lies at its block's head; its bytes lie in a row. -/
namespace Go.Proofs.Ythkkhmkieknemaa
open Go.RowKit

theorem lies_builder {cells : Nat} (hc : 2 ≤ cells) : liesAt Try.prog Try.prog.depth 92 (cells / Try.prog.cellsOf 92) 0 92 1 = true := by
  have hd : Try.prog.depth = (2 * (Try.prog.types.size + Made.depth) + 1) + 1 := rfl
  have hs : Try.prog.cellsOf 92 = 2 := by kernel_rfl
  rw [hd]
  simp only [liesAt, Bool.or_eq_true]
  left
  rw [hd]
  have : 1 ≤ cells / 2 := by omega
  simp [rowAt, hs, sameLayout, this]

set_option maxHeartbeats 1000000 in
set_option maxRecDepth 100000 in
theorem copy_used (b : Nat) (w : World) (h0 : w.cell? ⟨b, 0, none⟩ = some (.pointer (some ⟨b, 0, none⟩))) :
    Calls Try.prog 65 #[.pointer (some ⟨b, 0, none⟩)] w fun e w' => e = .returned (.tuple #[]) ∧ w' = w := by
  obtain ⟨j, hj, _⟩ := Option.map_eq_some_iff.1 (show (Try.prog.info? 92).map (·.size) = some 2 by kernel_rfl)
  go_enter Try.func65, Try.ntmps65
  go_wp2
  rw [Lib.run_neq_ptr_same w _ Try.underlying89 hj]
  go_wp2
  go_end0
  exact ⟨rfl, rfl⟩

set_option maxHeartbeats 1000000 in
set_option maxRecDepth 100000 in
theorem copy_fresh (b cells : Nat) (w : World) (h0 : w.cell? ⟨b, 0, none⟩ = some (.pointer none)) (hsh : w.shape? b = some (92, cells)) (hc : 2 ≤ cells) (hfz : w.frozen? ⟨b, 0, none⟩ = false) :
    Calls Try.prog 65 #[.pointer (some ⟨b, 0, none⟩)] w fun e w' => e = .returned (.tuple #[]) ∧ w' = w.setCell ⟨b, 0, none⟩ (.pointer (some ⟨b, 0, none⟩)) := by
  obtain ⟨j, hj, hjs⟩ := Option.map_eq_some_iff.1 (show (Try.prog.info? 92).map (·.size) = some 2 by kernel_rfl)
  go_enter Try.func65, Try.ntmps65
  go_wp2
  rw [Lib.run_to_unsafe w ⟨b, 0, none⟩ Try.underlying89 Try.underlying124 hj (by rw [hjs]; decide) hsh (show 0 < cells by omega)]
  simp only [Result.andThen]
  rw [Oper.upon_value]
  go_wp2
  rw [run_callFunc_extern Try.func69 (by kernel_rfl) (by kernel_rfl) (by kernel_rfl) (e := Extern.AbiNoEscape.same) (by kernel_rfl)]
  rw [Lib.run_noEscape]
  simp only [Result.andThen]
  rw [Oper.upon_value]
  go_wp2
  rw [Lib.run_from_unsafe w ⟨b, 0, none⟩ Try.underlying124 Try.underlying89 hj hsh (lies_builder hc)]
  simp only [Result.andThen]
  rw [Oper.upon_value]
  go_wp2
  go_end0
  exact ⟨rfl, rfl⟩

end Go.Proofs.Ythkkhmkieknemaa

/- strings.Builder: what WriteString and String come to at a builder that the caller has made. Conditions: the builder lies in a block of its own; the lengths are such as Go's own limit lets by. -/
namespace Go.Proofs.Ythkkhmkieknemaa
open Go.RowKit Go.Shelf

def bRen : Go.Shelf.Ren where
  f := fun x => match x with
    | 169 => 53
    | n => n
  t := fun x => match x with
    | 70 => 89
    | 9 => 9
    | 0 => 0
    | 72 => 92
    | 37 => 90
    | 127 => 120
    | 3 => 3
    | 5 => 5
    | n => n
  g := fun x => x

theorem bLays : Lays.n169 Try.prog bRen :=
  { mixed := Eq.refl true, f169 := Eq.trans Try.func53 (congrArg some (Eq.refl (Body.n169 bRen))),
    t0 := Try.underlying0, a0 := Try.isAgg0, z0 := Try.sizeOf0, v0 := Try.zeroValue0, t3 := Try.underlying3,
    a3 := Try.isAgg3, z3 := Try.sizeOf3, v3 := Try.zeroValue3, t9 := Try.underlying9, a9 := Try.isAgg9, z9 := Try.sizeOf9,
    v9 := Try.zeroValue9, t37 := Try.underlying90, a37 := Try.isAgg90, z37 := Try.sizeOf90, v37 := Try.zeroValue90,
    t70 := Try.underlying89, a70 := Try.isAgg89, z70 := Try.sizeOf89, v70 := Try.zeroValue89, t72 := Try.underlying92,
    a72 := Try.isAgg92, z72 := Try.sizeOf92, v72 := Try.zeroValue92, t127 := Try.underlying120, a127 := Try.isAgg120,
    z127 := Try.sizeOf120, v127 := Try.zeroValue120 }

theorem bInfo : (Try.prog.info? 5).map (fun i => (i.zero, i.size, i.bytes)) = some (some (.int .u8 0), 1, 1) := by kernel_rfl

set_option maxRecDepth 100000 in
theorem bExtra : Builder.Extra Try.prog bRen :=
  { sizeBuilder := by kernel_rfl, liesBuilder := lies_builder (Nat.le_refl 2), t5 := Try.underlying5, a5 := Try.isAgg5, z5 := Try.sizeOf5, v5 := Try.zeroValue5,
    infoByte := bInfo, cellsByte := by kernel_rfl, sizeByte := by kernel_rfl, neB5 := by decide }

theorem builder_string (B b : Nat) (l : List UInt8) (w : World) (h : Lib.IsBuilder 92 5 B b (Lib.byteCells l) w) (hBw : B ≤ w.heap.size) :
    Calls Try.prog 53 #[.pointer (some ⟨b, 0, none⟩)] w fun e w' => e = .returned (.string ⟨l.toArray⟩) ∧ Below B w w' :=
  Any.Builder_String_any bLays bExtra B b l w h hBw

theorem builder_copy (B b : Nat) (bs : List Value) (w : World) (h : Lib.IsBuilder 92 5 B b bs w) :
    Calls Try.prog 65 #[.pointer (some ⟨b, 0, none⟩)] w fun e w' => e = .returned (.tuple #[]) ∧ (Lib.BuilderAt 92 5 B b (.pointer (some ⟨b, 0, none⟩)) bs w' ∧ Below B w w') := by
  rcases h with h | h
  · refine (copy_fresh b 2 w h.cell0 h.shape (Nat.le_refl 2) h.frozen0).mono ?_
    rintro e w' ⟨rfl, rfl⟩
    exact ⟨rfl, h.used _, (Below.refl B w).setCell (p := ⟨b, 0, none⟩) h.1 _⟩
  · refine (copy_used b w h.cell0).mono ?_
    rintro e w' ⟨rfl, rfl⟩
    exact ⟨rfl, h, Below.refl B _⟩

set_option maxHeartbeats 2000000 in
set_option maxRecDepth 100000 in
theorem builder_write (B b : Nat) (bs : List Value) (s : ByteArray) (w : World) (h : Lib.IsBuilder 92 5 B b bs w) (hlen : bs.length + s.size ≤ 140737488355328) (hBw : B ≤ w.heap.size) :
    Calls Try.prog 52 #[.pointer (some ⟨b, 0, none⟩), .string s] w fun e w' => e = .returned (.tuple #[.int .i64 s.size, .nilIface]) ∧ (Lib.BuilderAt 92 5 B b (.pointer (some ⟨b, 0, none⟩)) (bs ++ Lib.strCells s) w' ∧ Below B w w') := by
  obtain ⟨i0, hi, hz0, hz1, hz2⟩ := info_parts bInfo
  go_enter Try.func52, Try.ntmps52
  go_wp2_with (go_at_call 65; refine (builder_copy B b bs _ h).mono ?_)
  rintro e w1 ⟨rfl, h1, hb1⟩
  obtain ⟨hB, v, hbk, hown, hne⟩ := h1
  have c0 : w1.cell? ⟨b, 0, none⟩ = some (.pointer (some ⟨b, 0, none⟩)) := by rw [Lib.cell_of_heap hbk]; rfl
  have c1 : w1.cell? ⟨b, 1, none⟩ = some v := by rw [Lib.cell_of_heap hbk]; rfl
  go_wp2_with (at_builtin; refine Lib.wpList_append_own_string _ rfl _ _ 90 9 rfl B 5 i0 Try.underlying90 Try.underlying9 hi hz0 hz1 hz2 _ _ _ rfl hown s rfl ?c3 ?c4 ?c5 ?_)
  case c3 => unfold maxLen; omega
  case c4 => omega
  case c5 => have := hb1.size; omega
  intro v' w2 hown' hgrow _
  have hlt : b < w1.heap.size := by
    rcases Nat.lt_or_ge b w1.heap.size with h' | h'
    · exact h'
    · simp [Array.getElem?_eq_none h'] at hbk
  have hb2 : w2.heap[b]? = some (.cells #[.pointer (some ⟨b, 0, none⟩), v] 92 (0, 0)) := by
    rw [hgrow.block b hlt (fun e => hne e.symm)]
    exact hbk
  have d0 : w2.cell? ⟨b, 0, none⟩ = some (.pointer (some ⟨b, 0, none⟩)) := by rw [Lib.cell_of_heap hb2]; rfl
  have d1 : w2.cell? ⟨b, 1, none⟩ = some v := by rw [Lib.cell_of_heap hb2]; rfl
  have f1 : w2.frozen? ⟨b, 1, none⟩ = false := Lib.frozen_of_heap hb2 1
  obtain ⟨ao, n', cap, rfl⟩ : ∃ ao n' cap, v' = .slice ao n' cap := by
    rcases hown'.2 with ⟨hv, _⟩ | ⟨g, cap, cur, hv, _⟩
    · exact ⟨_, _, _, hv⟩
    · exact ⟨_, _, _, hv⟩
  go_wp2
  go_ret2
  refine ⟨rfl, ?_, ?_⟩
  · exact Lib.BuilderAt.put (T := 92) (e := 5) hB hb2 (bs' := bs ++ Lib.strCells s) (by simpa [Lib.strCells_length] using hown') (by decide)
  · exact (hb1.grown hgrow (by have := hb1.size; omega) (fun k hk => (hown.lt k hk).1)).setCell (p := ⟨b, 1, none⟩) hB _

end Go.Proofs.Ythkkhmkieknemaa

/- ring.Gather in memory. Conditions: the parts lie in memory, there are at most 1000; what memory.Read comes to is given; it is at most a million bytes. -/
namespace Go.Proofs.Ythkkhmkieknemaa
open Go.RowKit Go.Shelf

structure GP where
  i : Nat
  a : Nat
  n : Nat
  w : Bool

/-- The parts lie in memory. -/
def PartsAt (w : World) (lb lo : Nat) (l : List GP) : Prop := ∀ j p, l[j]? = some p → w.cell? ⟨lb, lo + j * 4, none⟩ = some (.int .i64 p.i) ∧ w.cell? ⟨lb, lo + j * 4 + 1, none⟩ = some (.int .i64 p.a) ∧ w.cell? ⟨lb, lo + j * 4 + 2, none⟩ = some (.int .i64 p.n) ∧ w.cell? ⟨lb, lo + j * 4 + 3, none⟩ = some (.bool p.w)

def gathB (rdB : GP → List UInt8) (l : List GP) : List UInt8 := l.flatMap fun p => if p.w then [] else rdB p

theorem builder_below {B b : Nat} {bs : List Value} {W W' : World} (h : Lib.IsBuilder 92 5 B b bs W) (hb : Below W.heap.size W W') : Lib.IsBuilder 92 5 B b bs W' := by
  have one : ∀ {p : Value}, Lib.BuilderAt 92 5 B b p bs W → Lib.BuilderAt 92 5 B b p bs W' := by
    intro p h
    have hlt := h.lt
    obtain ⟨hB, v, hbk, hown, hne⟩ := h
    refine ⟨hB, v, (hb.block b hlt).trans hbk, ?_, hne⟩
    refine hown.kept (row := none) ⟨hb.os, hb.tape, hb.output, hb.size, fun k hk _ => hb.block k hk⟩ ?_
    rcases h : v.ownBlock with _ | g
    · exact .inl rfl
    · exact .inr (by simp)
  exact h.imp one one

theorem hidI {p : Prop} (h : p) : Hid p := h

theorem gath_snoc {rdB : GP → List UInt8} {l : List GP} {i : Nat} {p : GP} (h : l[i]? = some p) : gathB rdB (l.take (i + 1)) = gathB rdB (l.take i) ++ (if p.w then [] else rdB p) := by
  unfold gathB
  rw [List.take_add_one, h]
  simp

set_option maxHeartbeats 4000000 in
set_option maxRecDepth 100000 in
theorem gather_walk (w : World) (ms : Value) (lb lo cap : Nat) (l : List GP) (rdB : GP → List UInt8) (hl : PartsAt w lb lo l) (hcap : l.length ≤ cap) (hlen : l.length ≤ 1000) (ao : Option Addr) (hao : 0 < l.length → ao = some ⟨lb, lo, none⟩) (hb : ∀ p ∈ l, p.w = false → (rdB p).length ≤ 1000000)
    (hR : ∀ p ∈ l, p.w = false → ∀ wx, Below w.heap.size w wx → Calls Try.prog 37 #[.agg #[ms], .int .i64 p.a, .int .i64 p.n] wx fun e w' => (∃ s ok, e = .returned (.tuple #[.string s, .bool ok]) ∧ s.data.toList = rdB p) ∧ Below wx.heap.size wx w') :
    Calls Try.prog 30 #[.agg #[ms], .slice ao l.length cap] w fun e w' => e = .returned (.string ⟨(gathB rdB l).toArray⟩) ∧ Below w.heap.size w w' := by
  have hs1 : (w.alloc (.cells #[ms] 24)).heap.size = w.heap.size + 1 := Array.size_push _
  have hF := Lib.fresh_isBuilder 92 5 (w.alloc (.cells #[ms] 24))
  rw [hs1] at hF
  have hm0 : (w.alloc (.cells #[ms] 24)).cell? ⟨w.heap.size, 0, none⟩ = some ms := by rw [Lib.cell_of_heap (heap_alloc_new w _)]; rfl
  go_enter Try.func30, Try.ntmps30
  go_wp2_with fail
  go_loopg [12] l.length (fun g s12 wx => ∃ (i : Nat) (acc : List UInt8), s12 = .int .i64 i ∧ i + g = l.length ∧ Hid (acc = gathB rdB (l.take i)) ∧ Hid (acc.length ≤ i * 1000000) ∧
    Hid (Lib.IsBuilder 92 5 (w.heap.size + 1) (w.heap.size + 1) (Lib.byteCells acc) wx) ∧ Hid (Below (w.heap.size + 1) (w.alloc (.cells #[ms] 24)) wx))
  case atStart =>
    exact ⟨0, [], rfl, by omega, hidI rfl, hidI (by simp), hidI hF, hidI ((Below.refl _ _).alloc (by rw [hs1]; exact Nat.le_refl _) _)⟩
  case round =>
    obtain ⟨i, acc, rfl, hig, HA, HL, HB, HW⟩ := hrel
    have hBw : w.heap.size + 1 ≤ wr.heap.size := by have := HW.out.size; rw [hs1] at this; exact this
    have hW0 : Below w.heap.size w wr := ((Below.refl w.heap.size w).alloc (Nat.le_refl _) _).trans (HW.out.mono (Nat.le_succ _))
    have hm : wr.cell? ⟨w.heap.size, 0, none⟩ = some ms := by rw [HW.out.cell (p := ⟨w.heap.size, 0, none⟩) (Nat.lt_succ_self _)]; exact hm0
    cases gk with
    | zero =>
      have hi : ¬ ((i : Int) < (l.length : Int)) := by omega
      go_wp2_with fail
      refine (builder_string (w.heap.size + 1) (w.heap.size + 1) acc wr HB.out hBw).mono ?_
      rintro e w5 ⟨rfl, hb5⟩
      go_wp2
      go_ret
      refine ⟨?_, hW0.trans (hb5.mono (Nat.le_succ _))⟩
      rw [HA.out, List.take_of_length_le (by omega)]
      rfl
    | succ g =>
      obtain rfl := hao (by omega)
      have hi : (i : Int) < (l.length : Int) := by omega
      obtain ⟨p, hp⟩ : ∃ p, l[i]? = some p := ⟨_, List.getElem?_eq_getElem (by omega)⟩
      obtain ⟨d0, d1, d2, d3⟩ := hl i p hp
      have hlb : lb < w.heap.size := World.block_lt_of_cell? _ _ d0
      have e0 := (hW0.cell (p := ⟨lb, lo + i * 4, none⟩) hlb).trans d0
      have e1 := (hW0.cell (p := ⟨lb, lo + i * 4 + 1, none⟩) hlb).trans d1
      have e2 := (hW0.cell (p := ⟨lb, lo + i * 4 + 2, none⟩) hlb).trans d2
      have e3 := (hW0.cell (p := ⟨lb, lo + i * 4 + 3, none⟩) hlb).trans d3
      have hpm := List.mem_of_getElem? hp
      have hgs := gath_snoc (rdB := rdB) hp
      cases hw : p.w with
      | true =>
        rw [hw] at hgs
        have hA2 : acc = gathB rdB (l.take (i + 1)) := by rw [hgs, HA.out]; simp
        have HA2 := hidI hA2
        clear hgs hA2
        go_wp2_with fail
        go_roundg g
        case measure => omega
        case rel =>
          have hbx := fun o => (Below.refl wr.heap.size wr).alloc (Nat.le_refl _) o
          exact ⟨i + 1, acc, rfl, by omega, HA2, hidI (Nat.le_trans HL.out (Nat.mul_le_mul_right _ (Nat.le_succ i))), hidI (builder_below HB.out (hbx _)), hidI (HW.out.alloc hBw _)⟩
      | false =>
        rw [hw] at hgs
        have hA2 : acc ++ rdB p = gathB rdB (l.take (i + 1)) := by rw [hgs, HA.out]; simp
        have HA2 := hidI hA2
        clear hgs hA2
        have hm2 : (wr.alloc (.cells #[.int .i64 p.i, .int .i64 p.a, .int .i64 p.n, .bool false] 51)).cell? ⟨w.heap.size, 0, none⟩ = some ms := by
          rw [← hm]; exact ((Below.refl wr.heap.size wr).alloc (Nat.le_refl _) _).cell (p := ⟨w.heap.size, 0, none⟩) (show w.heap.size < wr.heap.size by omega)
        go_wp2_with fail
        refine (hR p hpm hw _ (hW0.alloc (by omega) _)).mono ?_
        rintro e w3 ⟨⟨s, ok, rfl, hs⟩, hb3⟩
        have hbx := fun o => (Below.refl wr.heap.size wr).alloc (Nat.le_refl _) o
        have hb3' : Below wr.heap.size wr w3 := (hbx _).trans (hb3.mono (by have := (hbx (.cells #[.int .i64 p.i, .int .i64 p.a, .int .i64 p.n, .bool false] 51)).size; exact this))
        have H3 := hidI (builder_below HB.out hb3')
        have HW3 := hidI (HW.out.trans (hb3'.mono hBw))
        have hsl : s.size = (rdB p).length := by rw [← hs, Array.length_toList]; rfl
        have hbp := hb p hpm hw
        have hal := HL.out
        have hBw3 : w.heap.size + 1 ≤ w3.heap.size := by have := hb3'.size; omega
        have HS := hidI hs
        clear hs hb3 hb3' hbx
        go_wp2_with fail
        refine (builder_write (w.heap.size + 1) (w.heap.size + 1) _ s w3 H3.out (by rw [Lib.byteCells_length]; omega) hBw3).mono ?_
        rintro e w4 ⟨rfl, h4, hb4⟩
        rw [Lib.strCells_eq, ← Lib.byteCells_append, HS.out] at h4
        have H4 := hidI (Or.inr h4 : Lib.IsBuilder 92 5 (w.heap.size + 1) (w.heap.size + 1) _ w4)
        have HW4 := hidI (HW3.out.trans hb4)
        clear h4 hb4
        go_wp2
        go_roundg g
        case measure => omega
        case rel =>
          exact ⟨i + 1, acc ++ rdB p, rfl, by omega, HA2, hidI (by rw [List.length_append]; omega), H4, HW4⟩

end Go.Proofs.Ythkkhmkieknemaa

/- ring.Gather is met by what it comes to. No condition. -/
namespace Go.Proofs.Ythkkhmkieknemaa
open Go.Abs Go.RowKit

def parseP : List AV → Option (List GP)
  | [] => some []
  | .int .i64 i :: .int .i64 a :: .int .i64 n :: .bool w :: xs => if 0 ≤ i ∧ 0 ≤ a ∧ 0 ≤ n then (parseP xs).map (⟨i.toNat, a.toNat, n.toNat, w⟩ :: ·) else none
  | _ => none

def rdOne (F : CallF) (m : AV) (p : GP) : Option (List UInt8) := match F 37 [.agg [m], .int .i64 p.a, .int .i64 p.n] h0 (fun _ => none) with
  | some (.tup [.str s, .bool _], _) => some s
  | _ => none

def rdAll (F : CallF) (m : AV) (p : GP) : List UInt8 := (rdOne F m p).getD []

def okG (F : CallF) (m : AV) (l : List GP) : Bool := l.all fun p => p.w || match rdOne F m p with
  | some s => decide (s.length ≤ 1000000)
  | none => false

/-- What Gather comes to. -/
def pGather (F : CallF) : Prim := fun vs hs _ => match vs with
  | [.agg [m], .sl _ s0 xs] => match parseP xs with
    | some l => if m.flat = true ∧ l.length ≤ 1000 ∧ okG F m l = true ∧ s0 = csz 4 xs then some (.str (gathB (rdAll F m) l), hs) else none
    | none => none
  | _ => none

def gpV (p : GP) : List AV := [.int .i64 p.i, .int .i64 p.a, .int .i64 p.n, .bool p.w]

theorem parseP_eq : ∀ {xs : List AV} {l : List GP}, parseP xs = some l → xs = l.flatMap gpV
  | [], l, h => by simp only [parseP, Option.some.injEq] at h; subst h; rfl
  | .int .i64 i :: .int .i64 a :: .int .i64 n :: .bool w :: xs, l, h => by
    simp only [parseP] at h
    split at h
    · rename_i hc
      obtain ⟨l', h1, rfl⟩ := Option.map_eq_some_iff.1 h
      have ih := parseP_eq h1
      rw [ih]
      simp [gpV, Int.toNat_of_nonneg hc.1, Int.toNat_of_nonneg hc.2.1, Int.toNat_of_nonneg hc.2.2]
    · cases h

theorem gp_length : ∀ (l : List GP), (l.flatMap gpV).length = l.length * 4
  | [] => rfl
  | p :: l => by
    have := gp_length l
    rw [List.flatMap_cons, List.length_append, this, List.length_cons]
    show 4 + _ = _
    omega

theorem gp_get {t : Nat} {p : GP} (ht : t < 4) : ∀ {l : List GP} {j : Nat}, l[j]? = some p → (l.flatMap gpV)[j * 4 + t]? = (gpV p)[t]?
  | [], j, h => by simp at h
  | x :: l, 0, h => by
    simp only [List.getElem?_cons_zero, Option.some.injEq] at h
    subst h
    rw [List.flatMap_cons, List.getElem?_append_left (show 0 * 4 + t < 4 by omega)]
    congr 1; omega
  | x :: l, j + 1, h => by
    have ih := gp_get (p := p) ht (l := l) (j := j) (by simpa using h)
    rw [List.flatMap_cons, List.getElem?_append_right (show 4 ≤ (j + 1) * 4 + t by omega), ← ih]
    congr 1
    show (j + 1) * 4 + t - 4 = _
    omega

theorem rep_two {G : Gh} {w : World} {s : List UInt8} {b : Bool} {v : Value} (h : Rep G w (.tup [.str s, .bool b]) v) : ∃ t : ByteArray, v = .tuple #[.string t, .bool b] ∧ t.data.toList = s := by
  cases h with
  | tup _ arr hl h =>
    obtain ⟨a0, a1, rfl⟩ : ∃ a0 a1, arr = #[a0, a1] := by
      rcases arr with ⟨l⟩
      rcases l with _ | ⟨a0, _ | ⟨a1, _ | ⟨a2, t⟩⟩⟩ <;> simp at hl
      exact ⟨a0, a1, rfl⟩
    have h0 := h 0 _ _ rfl rfl
    have h1 := h 1 _ _ rfl rfl
    cases h0 with
    | str _ t ht =>
      cases h1
      exact ⟨t, rfl, ht⟩

theorem allG_rel (w : World) : WRel (allG w) h0.H (fun _ => none) h0.lv w := by
  constructor
  · intro id b o h; cases h
  · intro id b o h; cases h
  · intro id id' b o o' h; cases h
  · intro br h; cases h
  · intro br br' b e e' h; cases h
  · exact fun b i h => h
  · intro br b e h; cases h

theorem ext_below {w w' : World} {G' : Gh} {lv' : Nat → Bool} (h : Ext (allG w) h0.lv w G' lv' w') : Below w.heap.size w w' := by
  refine ⟨h.os, h.tape, h.output, h.size, fun k hk => h.keep k hk ?_⟩
  rintro (⟨id, o, h⟩ | ⟨br, e, h, _⟩)
  · cases h
  · cases h

theorem below_ext {G : Gh} {lv : Nat → Bool} {w w' : World} (hb : Below w.heap.size w w') (hσ : ∀ b i, G.σ b i → b < w.heap.size) : Ext G lv w G lv w' := by
  refine ⟨fun _ _ h => h, fun _ _ h => h, fun _ _ h => h, fun _ _ h _ _ => h, fun _ _ h => h, fun b h _ => hb.block b h, fun b i h => ?_, fun b h => ?_, hb.size, hb.os, hb.tape, hb.output⟩
  · exact cell_congr (hb.block b (hσ b i h)) i
  · exact shape_congr (hb.block b h)

theorem below_rel {G : Gh} {H : Hp} {E : Nat → Option TypeId} {lv : Nat → Bool} {w w' : World} (hW : WRel G H E lv w) (hb : Below w.heap.size w w') : WRel G H E lv w' := by
  have hext := below_ext (lv := lv) hb hW.σlt
  constructor
  · intro id b o h
    obtain ⟨cs, T, fz, h1, h2, h3, h4, h5⟩ := hW.obj id b o h
    have hk := hb.block b (hW.βlt h)
    refine ⟨cs, T, fz, hk.trans h1, h2, fun i x hx => ?_, fun i hi => ?_, h5⟩
    · obtain ⟨q1, q2, v, q3, q4⟩ := h3 i x hx
      exact ⟨q1, q2, v, q3, q4.mono hext.mono⟩
    · rw [frozen_congr hk]; exact h4 i hi
  · exact hW.nσ
  · exact hW.inj
  · intro br h
    obtain ⟨q1, b, e, cs, T, fz, q2, q3, q4, q5, q6⟩ := hW.tip br h
    have hk := hb.block b (hW.τlt _ _ _ q2)
    exact ⟨q1, b, e, cs, T, fz, q2, hk.trans q3, fun i hi => by rw [frozen_congr hk]; exact q4 i hi, q5, q6⟩
  · exact hW.tinj
  · exact fun b i h => Nat.lt_of_lt_of_le (hW.σlt b i h) hb.size
  · exact fun br b e h => Nat.lt_of_lt_of_le (hW.τlt br b e h) hb.size

theorem gather_sound {F : CallF} (hF : Sound Try.prog F) : SoundAt Try.prog 30 (pGather F) := by
  intro vs hs E r hs' h
  unfold pGather at h
  split at h
  · rename_i m br s0 xs
    split at h
    · rename_i l hl
      split at h
      · rename_i hc
        obtain ⟨c1, c2, c3, c4⟩ := hc
        simp only [Option.some.injEq, Prod.mk.injEq] at h
        obtain ⟨rfl, rfl⟩ := h
        have hxs := parseP_eq hl
        refine ⟨okB_enters (by kernel_rfl), rfl, Nat.le_refl _, ?_⟩
        intro G w args hsz hrep hW hβ hτ h4
        obtain ⟨v0, v1, rfl⟩ : ∃ v0 v1, args = #[v0, v1] := by
          rcases args with ⟨a⟩
          rcases a with _ | ⟨a0, _ | ⟨a1, _ | ⟨a2, t⟩⟩⟩ <;> simp at hsz
          exact ⟨a0, a1, rfl⟩
        have r0 := hrep 0 _ _ rfl rfl
        have r1 := hrep 1 _ _ rfl rfl
        obtain ⟨ms, rfl⟩ : ∃ ms, v0 = .agg #[ms] := by
          cases r0 with
          | agg _ arr hl _ _ =>
            rcases arr with ⟨a⟩
            rcases a with _ | ⟨a0, _ | ⟨a1, t⟩⟩ <;> simp at hl
            exact ⟨a0, rfl⟩
        obtain ⟨ao, lb, lo, cap, rfl, hao, hcap, hparts⟩ : ∃ ao lb lo cap, v1 = .slice ao l.length cap ∧ (0 < l.length → ao = some ⟨lb, lo, none⟩) ∧ l.length ≤ cap ∧ PartsAt w lb lo l := by
          cases r1 with
          | emp _ _ p cap hb =>
            have : l = [] := by
              have e := gp_length l
              rw [← hxs] at e
              exact List.eq_nil_of_length_eq_zero (by simp at e; omega)
            subst this
            exact ⟨p, 0, 0, cap, rfl, fun h => absurd h (Nat.lt_irrefl 0), Nat.zero_le _, fun j p h => by simp at h⟩
          | sl _ _ _ b off len cap hb hsz' hl' hc' vs' hk hx h0' h3 =>
            have e := gp_length l
            rw [← hxs] at e
            have hlen : len = l.length := by
              cases xs with
              | nil =>
                rw [c4] at hsz'
                exact absurd hsz' (by simp [csz])
              | cons y ys =>
                have : s0 = 4 := c4
                subst this
                omega
            subst hlen
            refine ⟨_, b, off, cap, rfl, fun _ => rfl, hc', fun j p hp => ?_⟩
            have get : ∀ t x, t < 4 → (gpV p)[t]? = some x → w.cell? ⟨b, off + (j * 4 + t), none⟩ = some (vs' (j * 4 + t)) ∧ Rep G w x (vs' (j * 4 + t)) := by
              intro t x ht hx'
              have hg : xs[j * 4 + t]? = some x := by rw [hxs, gp_get ht hp, hx']
              exact ⟨(hk _ x hg).1, hx _ x hg⟩
            obtain ⟨a0, b0⟩ := get 0 _ (by omega) rfl
            obtain ⟨a1, b1⟩ := get 1 _ (by omega) rfl
            obtain ⟨a2, b2⟩ := get 2 _ (by omega) rfl
            obtain ⟨a3, b3⟩ := get 3 _ (by omega) rfl
            have i0 : vs' (j * 4 + 0) = .int .i64 p.i := by generalize vs' (j * 4 + 0) = q at b0; cases b0; rfl
            have i1 : vs' (j * 4 + 1) = .int .i64 p.a := by generalize vs' (j * 4 + 1) = q at b1; cases b1; rfl
            have i2 : vs' (j * 4 + 2) = .int .i64 p.n := by generalize vs' (j * 4 + 2) = q at b2; cases b2; rfl
            have i3 : vs' (j * 4 + 3) = .bool p.w := by generalize vs' (j * 4 + 3) = q at b3; cases b3; rfl
            rw [i0] at a0; rw [i1] at a1; rw [i2] at a2; rw [i3] at a3
            exact ⟨a0, by rw [Nat.add_assoc]; exact a1, by rw [Nat.add_assoc]; exact a2, by rw [Nat.add_assoc]; exact a3⟩
        have hok : ∀ p ∈ l, p.w = false → ∃ s, rdOne F m p = some s ∧ s.length ≤ 1000000 := by
          intro p hp hw
          unfold okG at c3
          rw [List.all_eq_true] at c3
          have := c3 p hp
          rw [hw, Bool.false_or] at this
          split at this
          · rename_i s hs'
            exact ⟨s, hs', by simpa using this⟩
          · cases this
        refine (gather_walk w ms lb lo cap l (rdAll F m) hparts hcap c2 ao hao ?_ ?_).mono ?_
        · intro p hp hw
          obtain ⟨s, e1, e2⟩ := hok p hp hw
          unfold rdAll; rw [e1]; exact e2
        · intro p hp hw wx hbx
          obtain ⟨s, e1, _⟩ := hok p hp hw
          have e1' := e1
          unfold rdOne at e1'
          split at e1'
          · rename_i s' ok hs1 hF1
            simp only [Option.some.injEq] at e1'
            subst e1'
            obtain ⟨_, _, _, hcalls⟩ := hF 37 _ _ _ _ _ hF1
            have hm : Rep (allG wx) wx (.agg [m]) (.agg #[ms]) := by
              refine r0.fmono ⟨fun b i hs => Nat.lt_of_lt_of_le (hW.σlt b i hs) hbx.size, fun b i hs => ?_⟩ ?_
              · exact cell_congr (hbx.block b (hW.σlt b i hs)) i
              · simp only [AV.flat, flatL, c1, Bool.and_self]
            refine (hcalls (allG wx) wx #[.agg #[ms], .int .i64 p.a, .int .i64 p.n] rfl ?_ (allG_rel wx) (fun _ _ => rfl) (fun _ _ => rfl) (Nat.le_refl _)).mono ?_
            · intro i x v hx hv
              match i, hx, hv with
              | 0, hx, hv => simp at hx hv; subst hx; subst hv; exact hm
              | 1, hx, hv => simp at hx hv; subst hx; subst hv; exact .int _ _
              | 2, hx, hv => simp at hx hv; subst hx; subst hv; exact .int _ _
              | i + 3, hx, hv => simp at hx
            · rintro e w' ⟨v, G', rfl, hext, _, hrv, _⟩
              obtain ⟨t, rfl, ht⟩ := rep_two hrv
              refine ⟨⟨t, ok, rfl, ?_⟩, ext_below hext⟩
              unfold rdAll; rw [e1]; exact ht
          · cases e1'
        · rintro e w' ⟨rfl, hb⟩
          exact ⟨_, G, rfl, below_ext hb hW.σlt, below_rel hW hb, .str _ _ (by simp), fun _ => rfl, hτ⟩
      · cases h
    · cases h
  · cases h

end Go.Proofs.Ythkkhmkieknemaa
