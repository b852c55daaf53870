/- Part 13 of 13 of a proof that RingPartsFit returns true for every input. No condition. -/
import Derived.Test.YthkkhmkieknemaaM12
set_option linter.unusedVariables false
set_option linter.unusedSimpArgs false
/- RingPartsFit returns true for every input. No condition. -/
namespace Go.Proofs.Ythkkhmkieknemaa
open Go.Abs Go.ChangeShapes Go.WideShapes Go.ChangeAt Go.RowKit

def law7 : List Sh := [memSh, ringSh, .int .u8]
noncomputable def lf7 : Func := Try.prog.funcs.getD 7 default

theorem law7_eval (xss : List (List AV)) (h : Each law7 xss) : ∃ k hs', evCall FN k 7 (argsOf law7 xss) h0 (fun _ => none) = some (.bool true, hs') := by
  obtain ⟨x0, x1, x2, rfl, q0, q1, q2⟩ := each3 h
  obtain ⟨bs, p, e1, e2, rfl⟩ := hasMem q0
  obtain ⟨b, s, hb, hs, rfl⟩ := hasRing q1
  obtain ⟨n, rfl, hn⟩ := hasInt q2
  obtain ⟨i, rfl, hi⟩ := wf_nat (m := 256) hn rfl (by decide)
  obtain ⟨hs', hh⟩ := eval_of (s7 (k := 0) e1 hb hs hi)
  exact ⟨_, hs', hh⟩

theorem lf7_get : Try.prog.funcs[7]? = some lf7 := by kernel_rfl

set_option maxRecDepth 100000 in
theorem law7_lifted (os : Os) (started : os.Started) (H : Type) (enc : TypeId × Value → H) :
    ReturnsInHanded {} Try.checked os 7 .any (Rows.ringPartsFitSpec.pre6 enc Try.prog lf7 [] false) (Rows.ringPartsFitSpec.post enc Try.prog lf7 false true false false) :=
  law_returns (C := Try.checked) (tb := 4) (shs := law7) (d := 8) own0 started (by kernel_rfl) lf7_get
    (ChangeSpec.witness6 (enc := enc) (C := Try.checked) false ⟨#[], #[.agg #[.slice none 0 0], .agg #[.int .u32 0, .int .u32 0], .int .u8 0], []⟩ 8 (by kernel_rfl) (by kernel_rfl) (by kernel_rfl) (by kernel_rfl))
    (by kernel_rfl) (by kernel_rfl) (by kernel_rfl) (by kernel_rfl) rfl
    (fun ds hd => by obtain ⟨d1, d2, d3, rfl⟩ := three (n := lf7.params.toList.length) hd (by kernel_rfl); exact ⟨rfl, rfl⟩) (fun ds hd => by obtain ⟨d1, d2, d3, rfl⟩ := three (n := lf7.params.toList.length) hd (by kernel_rfl); rfl)
    (by kernel_rfl) (by kernel_rfl) (by kernel_rfl) table0 law7_eval

theorem law7_proved : Rows.RingPartsFitSaid :=
  OpenClaim.holds_of_wide 7 lf7 rfl rfl rfl rfl rfl rfl rfl ⟨rfl, rfl, rfl, rfl, rfl⟩ rfl rfl rfl rfl rfl (by kernel_rfl) lf7_get (by kernel_rfl)
    (of_decide_eq_true (by kernel_rfl)) (by unfold Func.isWrapper; first | (rw [if_pos (by decide +kernel)]; kernel_rfl) | (rw [if_neg (by decide +kernel)]; exact ⟨rfl, rfl⟩))
    (fun os started H enc _ => law7_lifted os started H enc)

end Go.Proofs.Ythkkhmkieknemaa
