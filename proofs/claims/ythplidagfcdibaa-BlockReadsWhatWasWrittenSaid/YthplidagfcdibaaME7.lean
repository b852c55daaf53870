/- A proof that BlockReadsWhatWasWritten returns true for every input. No condition. -/
import Derived.Test.YthplidagfcdibaaM23
set_option linter.unusedVariables false
set_option linter.unusedSimpArgs false
/- BlockReadsWhatWasWritten returns true for every input. No condition. -/
namespace Go.Proofs.Ythplidagfcdibaa
open Go.Abs Go.ChangeShapes Go.WideShapes Go.ChangeAt Go.RowKit
def law7 : List Sh := [diskSh, .int .u8, .str, .int .u8, .int .u8]
noncomputable def lf7 : Func := Try.prog.funcs.getD 7 default
theorem law7_eval (xss : List (List AV)) (h : Each law7 xss) : ∃ k hs', evCall FN k 7 (argsOf law7 xss) h0 (fun _ => none) = some (.bool true, hs') := by
  obtain ⟨x0, x1, x2, x3, x4, rfl, q0, q1, q2, q3, q4⟩ := each5 h
  obtain ⟨d, n, e2, hn, rfl⟩ := hasDisk q0
  obtain ⟨s0, rfl, hs0⟩ := hasInt q1
  obtain ⟨s, rfl, hs⟩ := wf_nat (m := 256) hs0 rfl (by decide)
  obtain ⟨ys, rfl⟩ := hasStr q2
  obtain ⟨f0, rfl, hf0⟩ := hasInt q3
  obtain ⟨f, rfl, hf⟩ := wf_nat (m := 256) hf0 rfl (by decide)
  obtain ⟨t0, rfl, ht0⟩ := hasInt q4
  obtain ⟨t, rfl, ht⟩ := wf_nat (m := 256) ht0 rfl (by decide)
  obtain ⟨hs', hh⟩ := eval_of (s7 (k := 0) (data := ys) e2 hn hs hf ht)
  exact ⟨_, hs', hh⟩
theorem lf7_get : Try.prog.funcs[7]? = some lf7 := by kernel_rfl
set_option maxRecDepth 100000 in
theorem law7_lifted (os : Os) (started : os.Started) (H : Type) (enc : TypeId × Value → H) :
    ReturnsInHanded {} Try.checked os 7 .any (Rows.blockReadsWhatWasWrittenSpec.pre6 enc Try.prog lf7 [] false) (Rows.blockReadsWhatWasWrittenSpec.post enc Try.prog lf7 false true false false) :=
  law_returns (C := Try.checked) (tb := 4) (shs := law7) (d := 8) own0 started (by kernel_rfl) lf7_get
    (ChangeSpec.witness6 (enc := enc) (C := Try.checked) false ⟨#[], #[.slice none 0 0, .int .u8 0, .string ⟨#[]⟩, .int .u8 0, .int .u8 0], []⟩ 8 (by kernel_rfl) (by kernel_rfl) (by kernel_rfl) (by kernel_rfl))
    (by kernel_rfl) (by kernel_rfl) (by kernel_rfl) (by kernel_rfl) rfl
    (fun ds hd => by obtain ⟨d1, d2, d3, d4, d5, rfl⟩ := five (n := lf7.params.toList.length) hd (by kernel_rfl); exact ⟨rfl, rfl⟩) (fun ds hd => by obtain ⟨d1, d2, d3, d4, d5, rfl⟩ := five (n := lf7.params.toList.length) hd (by kernel_rfl); rfl)
    (by kernel_rfl) (by kernel_rfl) (by kernel_rfl) table0 law7_eval
theorem law7_proved : Rows.BlockReadsWhatWasWrittenSaid :=
  OpenClaim.holds_of_wide 7 lf7 rfl rfl rfl rfl rfl rfl rfl ⟨rfl, rfl, rfl, rfl, rfl⟩ rfl rfl rfl rfl rfl (by kernel_rfl) lf7_get (by kernel_rfl)
    (of_decide_eq_true (by kernel_rfl)) (by unfold Func.isWrapper; first | (rw [if_pos (by decide +kernel)]; kernel_rfl) | (rw [if_neg (by decide +kernel)]; exact ⟨rfl, rfl⟩))
    (fun os started H enc _ => law7_lifted os started H enc)
end Go.Proofs.Ythplidagfcdibaa
