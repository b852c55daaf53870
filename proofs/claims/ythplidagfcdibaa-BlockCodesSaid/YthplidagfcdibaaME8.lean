/- A proof that BlockCodes returns true for every input. No condition. -/
import Derived.Test.YthplidagfcdibaaM29
set_option linter.unusedVariables false
set_option linter.unusedSimpArgs false
/- BlockCodes returns true for every input. No condition. -/
namespace Go.Proofs.Ythplidagfcdibaa
open Go.Abs Go.ChangeShapes Go.WideShapes Go.ChangeAt Go.RowKit
theorem hasByteSl {xs : List AV} (h : Has (.sl (.int .u8)) xs) : ∃ bs : List UInt8, xs = [csl 1 (bs.map ofB)] := by
  obtain ⟨ls, rfl, h2, h3⟩ := h
  have key : ∀ ls : List (List AV), (∀ y ∈ ls, Has (.int .u8) y) → ∃ bs : List UInt8, ls.flatten = bs.map ofB := by
    intro ls
    induction ls with
    | nil => intro _; exact ⟨[], rfl⟩
    | cons y ls ih =>
      intro h
      obtain ⟨bs, e2⟩ := ih fun z hz => h z (List.mem_cons_of_mem _ hz)
      obtain ⟨n, rfl, hn⟩ := h y List.mem_cons_self
      obtain ⟨j, rfl, hj⟩ := wf_nat (m := 256) hn rfl (by decide)
      refine ⟨UInt8.ofNat j :: bs, ?_⟩
      rw [List.flatten_cons, e2, List.map_cons, ofB_le _ (by omega)]
      rfl
  obtain ⟨bs, e⟩ := key ls h2
  exact ⟨bs, by rw [e]; rfl⟩
def law8 : List Sh := [blkSh, memSh, .sl (.int .u8)]
noncomputable def lf8 : Func := Try.prog.funcs.getD 8 default
theorem law8_eval (xss : List (List AV)) (h : Each law8 xss) : ∃ k hs', evCall FN k 8 (argsOf law8 xss) h0 (fun _ => none) = some (.bool true, hs') := by
  obtain ⟨x0, x1, x2, rfl, q0, q1, q2⟩ := each3 h
  obtain ⟨x, rfl, hx⟩ := hasBlk q0
  obtain ⟨m, p, e1, _, rfl⟩ := hasMem q1
  obtain ⟨d, rfl⟩ := hasByteSl q2
  obtain ⟨hs', hh⟩ := eval_of (s8 (k := 0) (data := d) e1 hx)
  exact ⟨_, hs', hh⟩
theorem lf8_get : Try.prog.funcs[8]? = some lf8 := by kernel_rfl
set_option maxRecDepth 100000 in
theorem law8_lifted (os : Os) (started : os.Started) (H : Type) (enc : TypeId × Value → H) :
    ReturnsInHanded {} Try.checked os 8 .any (Rows.blockCodesSpec.pre6 enc Try.prog lf8 [] false) (Rows.blockCodesSpec.post enc Try.prog lf8 false true false false) :=
  law_returns (C := Try.checked) (tb := 4) (shs := law8) (d := 8) own0 started (by kernel_rfl) lf8_get
    (ChangeSpec.witness6 (enc := enc) (C := Try.checked) false ⟨#[], #[.agg #[.int .u32 0, .int .u32 0, .int .i64 0, .int .i64 0, .slice none 0 0, .slice none 0 0], .agg #[.slice none 0 0], .slice none 0 0], []⟩ 8 (by kernel_rfl) (by kernel_rfl) (by kernel_rfl) (by kernel_rfl))
    (by kernel_rfl) (by kernel_rfl) (by kernel_rfl) (by kernel_rfl) rfl
    (fun ds hd => by obtain ⟨d1, d2, d3, rfl⟩ := three (n := lf8.params.toList.length) hd (by kernel_rfl); exact ⟨rfl, rfl⟩) (fun ds hd => by obtain ⟨d1, d2, d3, rfl⟩ := three (n := lf8.params.toList.length) hd (by kernel_rfl); rfl)
    (by kernel_rfl) (by kernel_rfl) (by kernel_rfl) table0 law8_eval
theorem law8_proved : Rows.BlockCodesSaid :=
  OpenClaim.holds_of_wide 8 lf8 rfl rfl rfl rfl rfl rfl rfl ⟨rfl, rfl, rfl, rfl, rfl⟩ rfl rfl rfl rfl rfl (by kernel_rfl) lf8_get (by kernel_rfl)
    (of_decide_eq_true (by kernel_rfl)) (by unfold Func.isWrapper; first | (rw [if_pos (by decide +kernel)]; kernel_rfl) | (rw [if_neg (by decide +kernel)]; exact ⟨rfl, rfl⟩))
    (fun os started H enc _ => law8_lifted os started H enc)
end Go.Proofs.Ythplidagfcdibaa
