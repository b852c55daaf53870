/- Part 13 of 13 of a proof that RingCarriesBytes returns true for every input. No condition. -/
import Derived.Test.YthkkhmkieknemaaM12
set_option linter.unusedVariables false
set_option linter.unusedSimpArgs false
/- RingCarriesBytes returns true for every input. No condition. -/
namespace Go.Proofs.Ythkkhmkieknemaa
open Go.Abs Go.ChangeShapes Go.WideShapes Go.ChangeAt Go.RowKit

def law8 : List Sh := [memSh, ringSh, .int .u8, .str]
noncomputable def lf8 : Func := Try.prog.funcs.getD 8 default

theorem law8_eval (xss : List (List AV)) (h : Each law8 xss) : ∃ k hs', evCall FN k 8 (argsOf law8 xss) h0 (fun _ => none) = some (.bool true, hs') := by
  obtain ⟨x0, x1, x2, x3, rfl, q0, q1, q2, q3⟩ := each4 h
  obtain ⟨bs, p, e1, e2, rfl⟩ := hasMem q0
  obtain ⟨b, s, hb, hs, rfl⟩ := hasRing q1
  obtain ⟨n, rfl, hn⟩ := hasInt q2
  obtain ⟨i, rfl, hi⟩ := wf_nat (m := 256) hn rfl (by decide)
  obtain ⟨ys, rfl⟩ := hasStr q3
  obtain ⟨hs', hh⟩ := eval_of (s8 (k := 0) (ys := ys) e1 hb hs hi)
  exact ⟨_, hs', hh⟩

theorem lf8_get : Try.prog.funcs[8]? = some lf8 := by kernel_rfl

set_option maxRecDepth 100000 in
theorem law8_lifted (os : Os) (started : os.Started) (H : Type) (enc : TypeId × Value → H) :
    ReturnsInHanded {} Try.checked os 8 .any (Rows.ringCarriesBytesSpec.pre6 enc Try.prog lf8 [] false) (Rows.ringCarriesBytesSpec.post enc Try.prog lf8 false true false false) :=
  law_returns (C := Try.checked) (tb := 4) (shs := law8) (d := 8) own0 started (by kernel_rfl) lf8_get
    (ChangeSpec.witness6 (enc := enc) (C := Try.checked) false ⟨#[], #[.agg #[.slice none 0 0], .agg #[.int .u32 0, .int .u32 0], .int .u8 0, .string ⟨#[]⟩], []⟩ 8 (by kernel_rfl) (by kernel_rfl) (by kernel_rfl) (by kernel_rfl))
    (by kernel_rfl) (by kernel_rfl) (by kernel_rfl) (by kernel_rfl) rfl
    (fun ds hd => by obtain ⟨d1, d2, d3, d4, rfl⟩ := four (n := lf8.params.toList.length) hd (by kernel_rfl); exact ⟨rfl, rfl⟩) (fun ds hd => by obtain ⟨d1, d2, d3, d4, rfl⟩ := four (n := lf8.params.toList.length) hd (by kernel_rfl); rfl)
    (by kernel_rfl) (by kernel_rfl) (by kernel_rfl) table0 law8_eval

theorem law8_proved : Rows.RingCarriesBytesSaid :=
  OpenClaim.holds_of_wide 8 lf8 rfl rfl rfl rfl rfl rfl rfl ⟨rfl, rfl, rfl, rfl, rfl⟩ rfl rfl rfl rfl rfl (by kernel_rfl) lf8_get (by kernel_rfl)
    (of_decide_eq_true (by kernel_rfl)) (by unfold Func.isWrapper; first | (rw [if_pos (by decide +kernel)]; kernel_rfl) | (rw [if_neg (by decide +kernel)]; exact ⟨rfl, rfl⟩))
    (fun os started H enc _ => law8_lifted os started H enc)

end Go.Proofs.Ythkkhmkieknemaa
