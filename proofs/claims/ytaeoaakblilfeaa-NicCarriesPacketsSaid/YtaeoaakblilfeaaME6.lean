/- A proof that NicCarriesPackets returns true for every input. No condition. -/
import Derived.Test.YtaeoaakblilfeaaM39
set_option linter.unusedVariables false
set_option linter.unusedSimpArgs false
/- NicCarriesPackets returns true for every input. No condition. -/
namespace Go.Proofs.Ytaeoaakblilfeaa
open Go.Abs Go.ChangeShapes Go.WideShapes Go.ChangeAt Go.RowKit
def law6 : List Sh := [.str, .int .u16, .int .u16, .int .u8]
noncomputable def lf6 : Func := Try.prog.funcs.getD 6 default
theorem law6_eval (xss : List (List AV)) (h : Each law6 xss) : ∃ k hs', evCall FN k 6 (argsOf law6 xss) h0 (fun _ => none) = some (.bool true, hs') := by
  obtain ⟨x0, x1, x2, x3, rfl, q0, q1, q2, q3⟩ := each4 h
  obtain ⟨pk, rfl⟩ := hasStr q0
  obtain ⟨n1, rfl, h1⟩ := hasInt q1
  obtain ⟨n2, rfl, h2⟩ := hasInt q2
  obtain ⟨n3, rfl, h3⟩ := hasInt q3
  obtain ⟨fr, rfl, w1⟩ := wf_nat (m := 65536) h1 rfl (by decide)
  obtain ⟨to, rfl, w2⟩ := wf_nat (m := 65536) h2 rfl (by decide)
  obtain ⟨sz, rfl, w3⟩ := wf_nat (m := 256) h3 rfl (by decide)
  obtain ⟨hs', hh⟩ := eval_of (s6 (k := 0) (pk := pk) w1 w2 w3)
  exact ⟨_, hs', hh⟩
theorem lf6_get : Try.prog.funcs[6]? = some lf6 := by kernel_rfl
set_option maxRecDepth 100000 in
theorem law6_lifted (os : Os) (started : os.Started) (H : Type) (enc : TypeId × Value → H) :
    ReturnsInHanded {} Try.checked os 6 .any (Rows.nicCarriesPacketsSpec.pre6 enc Try.prog lf6 [] false) (Rows.nicCarriesPacketsSpec.post enc Try.prog lf6 false true false false) :=
  law_returns (C := Try.checked) (tb := 4) (shs := law6) (d := 8) own0 started (by kernel_rfl) lf6_get
    (ChangeSpec.witness6 (enc := enc) (C := Try.checked) false ⟨#[], #[.string ⟨#[]⟩, .int .u16 0, .int .u16 0, .int .u8 0], []⟩ 8 (by kernel_rfl) (by kernel_rfl) (by kernel_rfl) (by kernel_rfl))
    (by kernel_rfl) (by kernel_rfl) (by kernel_rfl) (by kernel_rfl) rfl
    (fun ds hd => by obtain ⟨d1, d2, d3, d4, rfl⟩ := four (n := lf6.params.toList.length) hd (by kernel_rfl); exact ⟨rfl, rfl⟩) (fun ds hd => by obtain ⟨d1, d2, d3, d4, rfl⟩ := four (n := lf6.params.toList.length) hd (by kernel_rfl); rfl)
    (by kernel_rfl) (by kernel_rfl) (by kernel_rfl) table0 law6_eval
theorem law6_proved : Rows.NicCarriesPacketsSaid :=
  OpenClaim.holds_of_wide 6 lf6 rfl rfl rfl rfl rfl rfl rfl ⟨rfl, rfl, rfl, rfl, rfl⟩ rfl rfl rfl rfl rfl (by kernel_rfl) lf6_get (by kernel_rfl)
    (of_decide_eq_true (by kernel_rfl)) (by unfold Func.isWrapper; first | (rw [if_pos (by decide +kernel)]; kernel_rfl) | (rw [if_neg (by decide +kernel)]; exact ⟨rfl, rfl⟩))
    (fun os started H enc _ => law6_lifted os started H enc)
end Go.Proofs.Ytaeoaakblilfeaa
