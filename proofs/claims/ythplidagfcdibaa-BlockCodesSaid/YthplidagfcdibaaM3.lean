/- Part 3 of the texts on which proofs about this seat rest: each says what it proves at its own head. No condition. -/
import Derived.Test.YthplidagfcdibaaM2
import Derived.Deep.Slices
import Derived.OpenShut
import Derived.HandedShaped
import Derived.ReadAgain
import Derived.JoinedOf
import Derived.ChangeSame
import Derived.Test.YthplidagfcdibaaProg
import Derived.Lib.Builder
import Derived.Lib.UnsafeStr
import Derived.WalkKit
import Derived.Laws.Externs
import Derived.KernelRfl
import Derived.Shelf.Strings.Builder1
import Derived.Deep.LoopGhost
set_option linter.unusedVariables false
set_option linter.unusedSimpArgs false
/- Code comes to what the evaluator says. Condition: the callees do what the evaluator says ('Sound'). -/
namespace Go.Abs
section
variable {P : Program} {F : CallF} {hint : Hint} {nt mk : Nat} {G G0 : Gh} {w w0 : World} {a : Act} {S S' : St} {n : Nat}
theorem q_ext {q : Option Nat} {lv lv' : Nat → Bool} {G' : Gh} {w' : World} (hq : ∀ l, q = some l → ∃ id r0, G.β id = some (l, none) ∧ G.ρ l = some r0) (x : Ext G lv w G' lv' w') : ∀ l, q = some l → ∃ id r0, G'.β id = some (l, none) ∧ G'.ρ l = some r0 := fun l hl => by
  obtain ⟨id, r0, h1, h2⟩ := hq l hl
  exact ⟨id, r0, x.β _ _ h1, x.ρ _ _ h2⟩
theorem rounds_sound {q : Option Nat} {d : Nat} {c : Code} {ic : IC} {k : Nat} (ih : CodeOK P F nt k c ic) :
    ∀ (m : Nat) (S S' : St) (e : Ex) (G : Gh) (a : Act) (w : World) (Q : Exit → Act → World → Prop), EnvOK P F.env G w → (∀ l, q = some l → ∃ id r0, G.β id = some (l, none) ∧ G.ρ l = some r0) → SRel G S nt mk a w → evLoop (evCode F k ic) S.n m S = some (e, S') →
      (∀ a' w' G', Behind G S w nt mk S' G' a' w' → Q e.to a' w') → Code.roundsIn (Fr q) d P c Q m a w := by
  intro m
  induction m with
  | zero => intro S S' e G a w Q _ _ _ he; simp [evLoop] at he
  | succ m ihm =>
    intro S S' e G a w Q hE hq hs he hk
    rw [roundsIn_succ]
    simp only [evLoop] at he
    split at he
    · rename_i S1 h1
      refine ih mk q d S S1 .norm G a w _ hE hq hs h1 fun a1 w1 G1 hb => ?_
      have hp := hb.pop hs
      refine ihm (Go.Abs.pop S.n S1) S' e (cut G1 S.n) a1 w1 Q (hE.ext hp.ext) (q_ext hq hp.ext) hp.rel he fun a2 w2 G2 hb2 => hk a2 w2 G2 (hp.trans hb2)
    · rename_i h1
      refine ih mk q d S S' e G a w _ hE hq hs he fun a1 w1 G1 hb => ?_
      cases e with
      | norm => exact absurd he (h1 S')
      | exit id => exact hk a1 w1 G1 hb
      | ret => exact hk a1 w1 G1 hb
theorem range_sound (hSE : ∀ env, EnvM env → Sound P ⟨F.ff, env⟩) (hM : EnvM F.env) {k : Nat} {f : Operand} {x : X} {ps : Array Tmp} {assign body : Code} {ia ib : IC} (hx : resX f = some x) (iha : CodeOK P F nt k assign ia) (ihb : CodeOK P F nt k body ib) (hps : ∀ t ∈ ps.toList, t < nt) :
    CodeOK P F nt k (.rangeFunc f ps assign body) (.rangeF x ps.toList ia ib) := by
  intro mk q d S S' e G a w Q hE hq hs he hk
  obtain ⟨g, fs, cs, v0, hs1, s, hfn, hcall, hst, hex, rfl⟩ := rangeF_inv he
  have hfv := x_rep hs.T f x hx
  rw [hfn] at hfv
  obtain ⟨gs, ds, hval, hl1, hl2, hr1, hr2⟩ := hfv.inv_fn
  refine wpIn_rangeFunc fun fn _ => ?_
  obtain ⟨mark, wd, df, henter, hx0, hW0, hdok⟩ := enter_ok hs hq fn ps assign body
  obtain ⟨hx1, hW1⟩ := alloc_loop (w := wd) (E := S.E) (lv := S.lv) (H := S.H) (nid := S.n) (r := { state := .ready, pending := none, fn, tmps := a.tmps, params := ps, assign, body, defers := df }) hW0 (hs.β _ (Nat.le_refl _)) ⟨rfl, rfl⟩
  generalize hr0 : ({ state := .ready, pending := none, fn, tmps := a.tmps, params := ps, assign, body, defers := df } : Loop) = r0 at henter hx1 hW1
  have hx01 := hx0.trans hx1
  have hy : EnvM (F.ext S.n (roundY (evCode F k ia) (evCode F k ib) S.T ps.toList S.n)).env := ext_m hM fun h => roundY_m (fun S e S' => code_c hSE hM ia S S' e) (fun S e S' => code_c hSE hM ib S S' e) h
  obtain ⟨hen, hnn, hcc, hcall⟩ := (hSE _ hy).call g _ _ _ _ _ hcall
  have hβ1 : (loopG G S.n wd.heap.size r0).β S.n = some (wd.heap.size, none) := by simp [loopG, bset]
  have hρ1 : (loopG G S.n wd.heap.size r0).ρ wd.heap.size = some r0 := by simp [loopG]
  have hE1 : EnvOK P (lowE (S.n + 1) (F.ext S.n (roundY (evCode F k ia) (evCode F k ib) S.T ps.toList S.n)).env) (loopG G S.n wd.heap.size r0) (wd.alloc (.loop r0)) := by
    have hEx := hE.ext hx01
    intro id y hy'
    unfold lowE at hy'
    split at hy'
    · simp only [CallF.ext, upd] at hy'
      split at hy'
      · rename_i hid
        cases hy'
        subst hid
        refine ⟨_, r0, hβ1, hρ1, fun G' w' hsz hm => ?_⟩
        subst hr0
        exact round_sound hSE hM iha ihb (fun t => (hs.T t).mono hx01.mono) hs.nt hps hβ1 hρ1 rfl rfl rfl hEx G' w' hsz hm
      · exact hEx id y hy'
    · cases hy'
  have hargs : (fs ++ (.yl S.n :: cs)).length = (gs ++ #[Value.func (.yield wd.heap.size) #[] #[]] ++ ds).size := by simp [hl1, hl2]; omega
  refine ⟨wd.heap.size, mark, wd.alloc (.loop r0), { target := .fn (.func g) ds, args := gs ++ #[Value.func (.yield wd.heap.size) #[] #[]] }, wd.alloc (.loop r0), g, gs ++ #[Value.func (.yield wd.heap.size) #[] #[]] ++ ds, wd.alloc (.loop r0), henter, ?_, fun _ _ => trivial, ?_, fun h => absurd h (by simp [Fence.wide]), ?_⟩
  · have hev : ∀ v, a.eval (.const v) = v := fun _ => rfl
    simp only [resolve, hval, Deferred.ofValue, Sem.run_pure]
    simp [hev]
  · simp only [invoke, callFunc_enter hen]
  have hc := hcall (loopG G S.n wd.heap.size r0) (wd.alloc (.loop r0)) (gs ++ #[Value.func (.yield wd.heap.size) #[] #[]] ++ ds) hargs ?_ hW1 ?_ ?_ hs.c hE1
  · have hc' : CallsIn Fence.wide (d - 1) P g (gs ++ #[Value.func (.yield wd.heap.size) #[] #[]] ++ ds) (wd.alloc (.loop r0)) _ := callsIn_wide.2 hc
    refine CallsIn.mono (F := Fr q) hc' fun en w2 hr => ?_
    obtain ⟨v, G2, rfl, hx2, hW2, _, hβ2, hτ2⟩ := hr
    have hb2 : G2.β S.n = some (wd.heap.size, none) := (hβ2 _).trans hβ1
    obtain ⟨rr, hbb, hsl, hst'⟩ := loop_get hW2 hb2 (hx2.ρ _ _ hρ1)
    have hpend : rr.state ≠ .busy ∧ rr.pending = jumpOf s := by
      rw [hst] at hst'
      rcases hst' with h | ⟨s', h, k0, k1⟩
      · cases h
      · simp only [stOf, List.cons.injEq, AV.int.injEq, true_and, and_true] at h
        subst h
        rcases stEx_inv hex with ⟨rfl, _⟩ | ⟨rfl, _⟩ | ⟨h2, _⟩
        · exact ⟨by rw [(k0 rfl).1]; simp, by rw [(k0 rfl).2]; simp [jumpOf]⟩
        · exact ⟨by rw [(k1 (by omega)).1]; simp, (k1 (by omega)).2⟩
        · exact ⟨by rw [(k1 (by omega)).1]; simp, (k1 (by omega)).2⟩
    obtain ⟨hx3, hW3⟩ := put_loop (hs' := []) (r' := { rr with state := .exhausted }) hW2 hb2 (hx2.ρ _ _ hρ1) hbb ⟨hsl.fn, hsl.tmps, hsl.params, hsl.assign, hsl.body, hsl.defers⟩ (.inl rfl)
    have hxx := (hx01.trans hx2).trans hx3
    have hcut := cut_rel (n := S.n) (S := ⟨S.T, upd hs1.H S.n [], upd S.E S.n none, S.n, hs1.lv, hs1.c⟩) hW3
    have hlt : ∀ {id : Nat} {p : Nat × Option Nat}, (cut G2 S.n).β id = some p → id < S.n := by
      intro id p h
      simp only [cut] at h
      split at h
      · assumption
      · cases h
    have hbeh : Behind G S w nt mk (Go.Abs.pop S.n { S with H := hs1.H, lv := hs1.lv, c := hs1.c }) (cut G2 S.n) { a with defers := mark ++ a.defers } (setB w2 wd.heap.size (.loop { rr with state := .exhausted })) := by
      refine ⟨⟨fun t => scrub_rep ((hs.T t).mono hxx.mono), hcut.other fun id p hp => ?_, fun id hid => ?_, fun b hb => hτ2 b hb, Nat.le_trans hs.c hcc, hs.nt, ?_⟩, cut_ext hxx fun id p hp => hs.lt hp, fun id hid => ?_, Nat.le_refl _, hcc⟩
      · have hne : id ≠ S.n := by have := hlt hp; omega
        exact ⟨by simp [Go.Abs.pop, keepH, upd, hne], by simp [Go.Abs.pop, upd, hne]⟩
      · have hid : S.n ≤ id := hid
        simp only [cut]; rw [if_neg (by omega)]
      · exact hdok.ext hW0 (hx1.trans (hx2.trans hx3))
      · simp only [cut]; rw [if_pos hid, hβ2]
        simp only [loopG]
        exact bset_ne _ (by omega)
    have hQ := hk _ _ _ hbeh
    have key : ∀ (j : Option Code) (w3 : World), j = jumpOf s → Q e.to { a with defers := mark ++ a.defers } w3 → (match j with | none => Q .normal { a with defers := mark ++ a.defers } w3 | some c => c.wpIn (Fr q) d P Q { a with defers := mark ++ a.defers } w3) := by
      rintro j w3 rfl hQ
      rcases stEx_inv hex with ⟨rfl, rfl⟩ | ⟨rfl, rfl⟩ | ⟨h2, rfl⟩
      · exact hQ
      · exact wpIn_ret hQ
      · have k1 : ¬ s = 1 := by omega
        simp only [jumpOf, k1, h2, if_true, if_false]
        exact wpIn_exit hQ
    exact ⟨rr.pending, _, run_endLoop hbb hpend.1, key _ _ hpend.2 hQ⟩
  · intro i y v hy hv
    rcases Nat.lt_or_ge i gs.size with hi | hi
    · rw [List.getElem?_append_left (by omega)] at hy
      rw [Array.append_assoc, Array.getElem?_append_left hi] at hv
      exact (hr1 i y v hy hv).mono hx01.mono
    · rw [List.getElem?_append_right (by omega)] at hy
      rw [Array.append_assoc, Array.getElem?_append_right hi] at hv
      rw [hl1] at hy
      cases hj : i - gs.size with
      | zero =>
        rw [hj] at hy hv
        rw [Array.getElem?_append_left (by simp)] at hv
        simp at hy hv
        subst hy; subst hv
        exact .yl _ _ _ hβ1 hρ1
      | succ j =>
        rw [hj] at hy hv
        rw [Array.getElem?_append_right (by simp)] at hv
        exact (hr2 j y v (by simpa using hy) (by simpa using hv)).mono hx01.mono
  · intro id hid
    have hid : S.n + 1 ≤ id := hid
    have : id ≠ S.n := by omega
    exact (bset_ne _ this).trans (hs.β id (by omega))
  · intro b hb
    exact hs.τ b hb
theorem code_sound (hSE : ∀ env, EnvM env → Sound P ⟨F.ff, env⟩) (hM : EnvM F.env) {k : Nat} (c : Code) : ∀ (ic : IC), resCode P hint nt c = some ic → CodeOK P F nt k c ic := by
  have hS := hSE _ hM
  have bad : ∀ {c : Code} {S S' : St} {e : Ex} {q : Option Nat} {d : Nat} {a : Act} {w : World} {Q : Exit → Act → World → Prop}, evCode F k .bad S = some (e, S') → c.wpIn (Fr q) d P Q a w := fun h => by simp [evCode] at h
  induction c with
  | skip =>
    intro ic hr mk q d S S' e G a w Q hE hq hs he hk
    simp only [resCode, Option.some.injEq] at hr; subst hr
    simp only [evCode, Option.some.injEq, Prod.mk.injEq] at he
    obtain ⟨rfl, rfl⟩ := he
    exact wpIn_skip (hk a w G (.refl hs))
  | label l =>
    intro ic hr mk q d S S' e G a w Q hE hq hs he hk
    simp only [resCode, Option.some.injEq] at hr; subst hr
    simp only [evCode, Option.some.injEq, Prod.mk.injEq] at he
    obtain ⟨rfl, rfl⟩ := he
    exact wpIn_label (hk a w G (.refl hs))
  | region id ops draw =>
    intro ic hr mk q d S S' e G a w Q hE hq hs he hk
    simp only [resCode] at hr
    split at hr
    · rename_i l hl
      split at hr
      · rename_i hsafe
        simp only [Option.some.injEq] at hr; subst hr
        simp only [evCode] at he
        split at he
        · rename_i S1 h1
          simp only [Option.some.injEq, Prod.mk.injEq] at he
          obtain ⟨rfl, rfl⟩ := he
          cases draw with
          | false => exact region_seq hS hE hl hs h1 fun a' w' G' k1 k2 k3 k4 k5 => hk a' w' G' ⟨k1, k2, k3, k4, k5⟩
          | true =>
            simp only [Bool.not_true, Bool.false_or, Bool.and_eq_true] at hsafe
            exact region_draw hS hE hl hsafe.1 hsafe.2 apart_none hs h1 fun a' w' G' k1 k2 k3 k4 k5 => hk a' w' G' ⟨k1, k2, k3, k4, k5⟩
        · simp at he
      · split at hr
        · rename_i hdr hsafe
          simp only [Option.some.injEq] at hr; subst hr
          simp only [Bool.and_eq_true] at hsafe
          have hd : draw = true := by cases draw with
            | true => rfl
            | false => simp at hdr
          subst hd
          simp only [evCode] at he
          split at he
          · rename_i S1 h1
            split at he
            · rename_i hps
              simp only [Option.some.injEq, Prod.mk.injEq] at he
              obtain ⟨rfl, rfl⟩ := he
              exact region_draw hS hE hl hsafe.1 hsafe.2 (apart_slots h1 hps) hs h1 fun a' w' G' k1 k2 k3 k4 k5 => hk a' w' G' ⟨k1, k2, k3, k4, k5⟩
            · simp at he
          · simp at he
        · split at hr
          · rename_i hdr _ hsafe
            simp only [Option.some.injEq] at hr; subst hr
            simp only [Bool.and_eq_true] at hsafe
            have hd : draw = true := by cases draw with
              | true => rfl
              | false => simp at hdr
            subst hd
            simp only [evCode] at he
            split at he
            · rename_i S1 h1
              split at he
              · rename_i hps
                simp only [Option.some.injEq, Prod.mk.injEq] at he
                obtain ⟨rfl, rfl⟩ := he
                simp only [Bool.and_eq_true] at hps
                exact region_draw hS hE hl hsafe.1 hsafe.2 (apart_calls h1 hps.1 hps.2) hs h1 fun a' w' G' k1 k2 k3 k4 k5 => hk a' w' G' ⟨k1, k2, k3, k4, k5⟩
              · simp at he
            · simp at he
          · simp only [Option.some.injEq] at hr; subst hr
            exact bad he
    · simp only [Option.some.injEq] at hr; subst hr
      exact bad he
  | seq x y ihx ihy =>
    intro ic hr mk q d S S' e G a w Q hE hq hs he hk
    simp only [resCode] at hr
    split at hr
    · rename_i ix iy hx hy
      simp only [Option.some.injEq] at hr; subst hr
      simp only [evCode] at he
      refine wpIn_seq ?_
      split at he
      · rename_i S1 h1
        refine ihx ix hx mk q d S S1 .norm G a w _ hE hq hs h1 fun a1 w1 G1 hb => ?_
        exact ihy iy hy mk q d S1 S' e G1 a1 w1 Q (hE.ext hb.ext) (q_ext hq hb.ext) hb.rel he fun a2 w2 G2 hb2 => hk a2 w2 G2 (hb.trans hb2)
      · rename_i h1
        refine ihx ix hx mk q d S S' e G a w _ hE hq hs he fun a1 w1 G1 hb => ?_
        cases e with
        | norm => exact absurd he (h1 S')
        | exit id => exact hk a1 w1 G1 hb
        | ret => exact hk a1 w1 G1 hb
    · simp at hr
  | cond x c1 c2 ih1 ih2 =>
    intro ic hr mk q d S S' e G a w Q hE hq hs he hk
    simp only [resCode] at hr
    split at hr
    · rename_i x' i1 i2 hx h1 h2
      simp only [Option.some.injEq] at hr; subst hr
      simp only [evCode] at he
      have hv := x_rep hs.T x x' hx
      split at he
      · rename_i heq
        rw [heq] at hv
        exact wpIn_cond_true hv.inv_bool (ih1 i1 h1 mk q d S S' e G a w Q hE hq hs he hk)
      · rename_i heq
        rw [heq] at hv
        exact wpIn_cond_false hv.inv_bool (ih2 i2 h2 mk q d S S' e G a w Q hE hq hs he hk)
      · simp at he
    · simp at hr
  | block id c ih =>
    intro ic hr mk q d S S' e G a w Q hE hq hs he hk
    simp only [resCode] at hr
    obtain ⟨i1, h1, rfl⟩ := map_some' hr
    simp only [evCode] at he
    refine wpIn_block ?_
    split at he
    · rename_i j S1 hj
      refine ih i1 h1 mk q d S S1 (.exit j) G a w _ hE hq hs hj fun a1 w1 G1 hb => ?_
      show Exit.inBlock id Q (.exit j) a1 w1
      simp only [Exit.inBlock]
      split at he
      · rename_i hji
        simp only [Option.some.injEq, Prod.mk.injEq] at he
        obtain ⟨rfl, rfl⟩ := he
        rw [if_pos hji]; exact hk a1 w1 G1 hb
      · rename_i hji
        simp only [Option.some.injEq, Prod.mk.injEq] at he
        obtain ⟨rfl, rfl⟩ := he
        rw [if_neg hji]; exact hk a1 w1 G1 hb
    · rename_i hne
      refine ih i1 h1 mk q d S S' e G a w _ hE hq hs he fun a1 w1 G1 hb => ?_
      cases e with
      | norm => exact hk a1 w1 G1 hb
      | exit j => exact absurd he (hne j S')
      | ret => exact hk a1 w1 G1 hb
  | loop c ih =>
    intro ic hr mk q d S S' e G a w Q hE hq hs he hk
    simp only [resCode] at hr
    obtain ⟨i1, h1, rfl⟩ := map_some' hr
    simp only [evCode] at he
    exact wpIn_loop_rounds k (rounds_sound (ih i1 h1) k S S' e G a w Q hE hq hs he hk)
  | scope c ih =>
    intro ic hr mk q d S S' e G a w Q hE hq hs he hk
    simp only [resCode] at hr
    refine wpIn_scope_straight (ih ic hr mk q d S S' e G a w _ hE hq hs he fun a1 w1 G1 hb => ?_)
    cases e <;> exact hk a1 w1 G1 hb
  | exit id =>
    intro ic hr mk q d S S' e G a w Q hE hq hs he hk
    simp only [resCode, Option.some.injEq] at hr; subst hr
    simp only [evCode, Option.some.injEq, Prod.mk.injEq] at he
    obtain ⟨rfl, rfl⟩ := he
    exact wpIn_exit (hk a w G (.refl hs))
  | ret =>
    intro ic hr mk q d S S' e G a w Q hE hq hs he hk
    simp only [resCode, Option.some.injEq] at hr; subst hr
    simp only [evCode, Option.some.injEq, Prod.mk.injEq] at he
    obtain ⟨rfl, rfl⟩ := he
    exact wpIn_ret (hk a w G (.refl hs))
  | rangeFunc f ps x y ihx ihy =>
    intro ic hr
    simp only [resCode] at hr
    split at hr
    · rename_i x' ia ib hx ha hb
      split at hr
      · rename_i hps
        simp only [Option.some.injEq] at hr; subst hr
        exact range_sound hSE hM hx (ihx ia ha) (ihy ib hb) fun t ht => by simpa using List.all_eq_true.1 hps t ht
      · simp only [Option.some.injEq] at hr; subst hr
        intro mk q d S S' e G a w Q hE hq hs he hk; exact bad he
    · cases hr
  | goto l => intro ic hr mk q d S S' e G a w Q hE hq hs he hk; simp only [resCode, Option.some.injEq] at hr; subst hr; exact bad he
  | refuse s => intro ic hr mk q d S S' e G a w Q hE hq hs he hk; simp only [resCode, Option.some.injEq] at hr; subst hr; exact bad he
end
end Go.Abs

/- A call comes to what the evaluator says. Condition: the callees do what the evaluator says ('Sound'). -/
namespace Go.Abs
section
variable {P : Program} {F : CallF} {hint : Hint} {nt mk : Nat} {G G0 : Gh} {w w0 : World} {a : Act} {S S' : St} {n : Nat}
def resG (tmps : Array Value) : ResultVar → Sem Value
  | .tmp t => pure (tmps.getD t undef)
  | .cell a t => do loadVar t (← asAddr (tmps.getD a undef))
theorem results_eq (fn : Func) (tmps : Array Value) : results fn tmps = (fn.results.mapM (resG tmps) >>= fun vs => pure (if h : vs.size = 1 then vs[0] else .tuple vs)) := rfl
theorem list_results (h : SRel G S nt mk a w) : ∀ (rs : List ResultVar) (irs : List IRes) (vs : List AV), resRes P rs = some irs → resv S.T S.H irs = some vs →
    ∃ us, (rs.mapM (resG a.tmps)).run P w = .ok us w ∧ us.length = vs.length ∧ ∀ (i : Nat) (x : AV) (u : Value), vs[i]? = some x → us[i]? = some u → Rep G w x u := by
  intro rs
  induction rs with
  | nil =>
    intro irs vs h1 h2
    simp only [resRes, Option.some.injEq] at h1; subst h1
    simp only [resv, Option.some.injEq] at h2; subst h2
    exact ⟨[], rfl, rfl, by simp⟩
  | cons r rs ih =>
    intro irs vs h1 h2
    have cons : ∀ {x : AV} {u : Value} {irs' : List IRes} {vs' : List AV}, (resG a.tmps r).run P w = .ok u w → Rep G w x u → resRes P rs = some irs' → resv S.T S.H irs' = some vs' → vs = x :: vs' →
        ∃ us, ((r :: rs).mapM (resG a.tmps)).run P w = .ok us w ∧ us.length = vs.length ∧ ∀ (i : Nat) (x : AV) (u : Value), vs[i]? = some x → us[i]? = some u → Rep G w x u := by
      intro x u irs' vs' k1 k2 k3 k4 k5
      obtain ⟨us, q1, q2, q3⟩ := ih irs' vs' k3 k4
      subst k5
      refine ⟨u :: us, ?_, by simp [q2], fun i y v hy hv => ?_⟩
      · rw [List.mapM_cons]
        simp only [Sem.run_bind, k1, Result.andThen_ok, q1, Sem.run_pure]
      · cases i with
        | zero => simp at hy hv; subst hy; subst hv; exact k2
        | succ i => exact q3 i y v (by simpa using hy) (by simpa using hv)
    cases r with
    | tmp t =>
      simp only [resRes] at h1
      obtain ⟨irs', k3, rfl⟩ := map_some' h1
      simp only [resv] at h2
      split at h2
      · rename_i vs' k4
        simp only [Option.some.injEq] at h2
        exact cons (by simp only [resG, Sem.run_pure]) (h.T t) k3 k4 h2.symm
      · simp at h2
    | cell t ty =>
      simp only [resRes] at h1
      split at h1
      · rename_i s g irs' hs hg k3
        simp only [Option.some.injEq] at h1; subst h1
        simp only [resv] at h2
        split at h2
        · rename_i id off heq
          split at h2
          · rename_i v vs' hv k4
            simp only [Option.some.injEq] at h2
            have hr := h.T t
            rw [heq] at hr
            obtain ⟨b, o, hp, hb⟩ := hr.ptr_ref
            obtain ⟨u, q1, q2⟩ := rd_sound (MRow.of_obj h.W hb) hv hs hg
            exact cons (u := u) (by simp only [resG, hp, asAddr, Sem.run_bind, Sem.run_pure, Result.andThen_ok, q1]) q2 k3 k4 h2.symm
          · simp at h2
        · simp at h2
      · simp at h1
theorem results_sound (h : SRel G S nt mk a w) {fn : Func} {irs : List IRes} {vs : List AV} (h1 : resRes P fn.results.toList = some irs) (h2 : resv S.T S.H irs = some vs) :
    ∃ v, (results fn a.tmps).run P w = .ok v w ∧ Rep G w (packR vs) v := by
  obtain ⟨us, q1, q2, q3⟩ := list_results h _ _ _ h1 h2
  rw [results_eq]
  have harr : (fn.results.mapM (resG a.tmps)).run P w = .ok us.toArray w := by
    rw [Array.mapM_eq_mapM_toList]
    simp only [map_eq_pure_bind, Sem.run_bind, q1, Result.andThen_ok, Sem.run_pure]
  simp only [Sem.run_bind, harr, Result.andThen_ok, Sem.run_pure]
  refine ⟨_, rfl, ?_⟩
  match vs, us, q2, q3 with
  | [], [], _, _ => exact .tup [] _ rfl (by simp)
  | [x], [u], _, q3 => exact q3 0 x u rfl rfl
  | x :: y :: vs, u :: v :: us, q2, q3 => exact .tup _ _ (by simpa using q2.symm) (fun i z q hz hq => q3 i z q hz (by simpa using hq))
end
end Go.Abs

/- The evaluator is sound. Condition: each entry of its table is a function's resolved code, or proved otherwise. -/
namespace Go.Abs
section
variable {P : Program} {F : CallF} {hint : Hint} {nt mk : Nat} {G G0 : Gh} {w w0 : World} {a : Act} {S S' : St} {n : Nat} {H : Hp} {E : Nat → Option TypeId} {lv : Nat → Bool}
theorem csl_cells (sz : Nat) (xs : List AV) : (csl sz xs).cells = [csl sz xs] := by cases xs <;> rfl
theorem csl_tup (sz : Nat) (xs cs : List AV) : csl sz xs ≠ .tup cs := by cases xs <;> simp [csl]
theorem finCell_cells (v : AV) (h : ∀ cs, v ≠ .agg cs) : (finCell H n v).cells = [finCell H n v] := by
  cases v <;> first | (exact absurd rfl (h _)) | rfl | skip
  simp only [finCell]; split <;> first | rfl | exact csl_cells _ _
theorem finCell_tup (v : AV) (h : ∀ cs, v ≠ .tup cs) (cs : List AV) : finCell H n v ≠ .tup cs := by
  cases v <;> first | (simp [finCell] at h ⊢; done) | skip
  simp only [finCell]; split <;> first | (simp; done) | exact csl_tup _ _ _
theorem finCell_leaf {y : AV} (h : y.leaf = true) : (finCell H n y).leaf = true := by
  cases y <;> first | exact h | skip
  simp only [finCell]; split <;> first | rfl | exact csl_leaf _ _
theorem leaves_under {x : AV} (h : x.under n = true) : ∀ y ∈ leaves x, y.under n = true := by
  have aggm : ∀ {cs : List AV}, (AV.agg cs).under n = true → ∀ y ∈ cs, y.under n = true := by
    intro cs h y hy
    simp only [AV.under, underL_iff] at h
    exact h y hy
  cases x with
  | agg cs => exact aggm h
  | tup vs =>
    intro y hy
    simp only [AV.under, underL_iff] at h
    obtain ⟨z, hz, hy'⟩ := List.mem_flatMap.1 hy
    have hzu := h z hz
    cases z
    case agg cs => exact aggm hzu y hy'
    all_goals (simp only [AV.cells, List.mem_singleton] at hy'; subst hy'; exact hzu)
  | _ =>
    intro y hy
    simp only [leaves, AV.cells, List.mem_singleton] at hy
    subst hy; exact h
theorem cap_rep (hW : WRel G H E lv w) {x : AV} {v : Value} (h : Rep G w x v) (hu : (capCell H n x).under n = true) : Rep (fin G H n) w (capCell H n x) v := by
  cases x
  case ref id off =>
    by_cases hid : id < n
    · simp only [capCell, if_pos hid] at hu ⊢
      exact fin_low h hu
    · simp only [capCell, if_neg hid] at hu ⊢
      simp only [AV.under, underL_iff] at hu
      obtain ⟨b, o, rfl, hβ⟩ := h.ptr_ref
      obtain ⟨cs, T0, fz, h1, h2, h3, _⟩ := hW.obj id b o hβ
      refine .cp (H id) off b o (fun i => (cs[o + i]?).getD undef) (fun i x hx => ?_) (fun i x hx => ?_)
      · obtain ⟨_, k2, v, k3, k4⟩ := h3 i x hx
        have hi := (List.getElem?_eq_some_iff.1 hx).1
        exact ⟨by rw [cell_of w b _ h1, k3]; rfl, .inr ⟨id, o, by omega, hβ, by omega, by omega⟩, k2⟩
      · obtain ⟨_, k2, v, k3, k4⟩ := h3 i x hx
        simp only [k3, Option.getD_some]
        exact fin_low k4 (hu x (List.mem_of_getElem? hx))
  all_goals exact fin_low h hu
theorem fin_rep (hW : WRel G H E lv w) {r : AV} {v : Value} (h : Rep G w r v) (hok : (leaves r).all (finOk H n) = true) (hu : (mapLeaf (finCell H n) r).under n = true) : Rep (fin G H n) w (mapLeaf (finCell H n) r) v := by
  rw [List.all_eq_true] at hok
  refine h.leafmap2 (fun y hy u hr => ⟨?_, finCell_leaf⟩)
  have hyu : (finCell H n y).under n = true := by
    refine leaves_under hu _ ?_
    rw [leaves_map (fun v h => finCell_cells v h) (fun v h => finCell_tup v h)]
    exact List.mem_map_of_mem hy
  have hyok := hok y hy
  cases y
  case osl id off len sz =>
    by_cases hid : id < n
    · simp only [finCell, if_pos hid] at hyu ⊢
      exact fin_low hr hyu
    · simp only [finCell, if_neg hid]
      simp only [finOk, decide_eq_false hid, Bool.false_or, Bool.and_eq_true, decide_eq_true_eq, flatL_iff] at hyok
      obtain ⟨hle, hfl⟩ := hyok
      obtain ⟨b, o, cap, rfl, hβ, hsz, hc⟩ := hr.inv_osl
      obtain ⟨cs, T0, fz, h1, h2, h3, _⟩ := hW.obj id b o hβ
      refine (Rep.canon (br := 1) (sz := sz) (Rep.mk_sl (by omega) hsz ?_ hc ?_ (by omega) (by omega))).1
      · rw [List.length_map, List.length_take, List.length_drop]; omega
      · intro i x hx
        simp only [List.getElem?_map, Option.map_eq_some_iff] at hx
        obtain ⟨x, hx, rfl⟩ := hx
        have hi : i < len * sz := by
          have := (List.getElem?_eq_some_iff.1 hx).1
          rw [List.length_take] at this; omega
        have hfx := hfl x (List.mem_of_getElem? hx)
        rw [List.getElem?_take_of_lt hi, List.getElem?_drop] at hx
        obtain ⟨_, k2, v, k3, k4⟩ := h3 _ x hx
        refine ⟨v, ?_, .inr ⟨id, o, by omega, hβ, by omega, by omega⟩, canonCell_flat hfx, canonCell_leaf k2, (show Rep (fin G H n) w x v from k4.fmono ⟨fun _ _ h => .inl h, fun _ _ _ => rfl⟩ hfx).canonCell⟩
        rw [Nat.add_assoc, cell_of w b _ h1]; exact k3
  case fn f fs cs =>
    simp only [finCell] at hyu ⊢
    simp only [AV.under, Bool.and_eq_true, underL_iff] at hyu
    obtain ⟨gs, ds, rfl, h1, h2, h3, h4⟩ := hr.inv_fn
    refine .fn f _ _ gs ds (by simpa using h1) (by simpa using h2) (fun i x v hx hv => ?_) (fun i x v hx hv => ?_)
    · have hm := hyu.1 x (List.mem_of_getElem? hx)
      simp only [List.getElem?_map, Option.map_eq_some_iff] at hx
      obtain ⟨x, hx, rfl⟩ := hx
      exact cap_rep hW (h3 i x v hx hv) hm
    · have hm := hyu.2 x (List.mem_of_getElem? hx)
      simp only [List.getElem?_map, Option.map_eq_some_iff] at hx
      obtain ⟨x, hx, rfl⟩ := hx
      exact cap_rep hW (h4 i x v hx hv) hm
  all_goals exact fin_low hr hyu
def SoundAt (P : Program) (f : FuncId) (p : List AV → Hs → (Nat → Option TypeId) → Option (AV × Hs)) : Prop := ∀ (vs : List AV) (hs : Hs) (E : Nat → Option TypeId) (r : AV) (hs' : Hs), p vs hs E = some (r, hs') →
  Enters P f ∧ hs'.n = hs.n ∧ hs.c ≤ hs'.c ∧
  ∀ (G : Gh) (w : World) (args : Array Value), vs.length = args.size → (∀ (i : Nat) (x : AV) (v : Value), vs[i]? = some x → args[i]? = some v → Rep G w x v) → WRel G hs.H E hs.lv w →
    (∀ id, hs.n ≤ id → G.β id = none) → (∀ b, hs.c ≤ b → G.τ b = none) → 4 ≤ hs.c →
    Calls P f args w fun e w' => ∃ v G', e = .returned v ∧ Ext G hs.lv w G' hs'.lv w' ∧ WRel G' hs'.H E hs'.lv w' ∧ Rep G' w' r v ∧ (∀ id, G'.β id = G.β id) ∧ (∀ b, hs'.c ≤ b → G'.τ b = none)
structure Shut (mk : Nat) (w w2 : World) : Prop where
  size : w2.heap.size = w.heap.size
  os : w2.os = w.os
  tape : w2.tape = w.tape
  output : w2.output = w.output
  at' : ∀ b : Nat, w2.heap[b]? = w.heap[b]? ∨ (mk ≤ b ∧ w.heap[b]? = some (.deferred (some [])) ∧ w2.heap[b]? = some (.deferred none))
theorem Shut.refl (mk : Nat) (w : World) : Shut mk w w := ⟨rfl, rfl, rfl, rfl, fun _ => .inl rfl⟩
theorem DOKl.put {mk r : Nat} {o : Obj} {w : World} : ∀ {ds : List Deferred}, DOKl mk w ds → (∀ d' ∈ ds, d'.target ≠ .collected r) → DOKl mk (w.putObj r o) ds
  | [], _, _ => trivial
  | d :: ds, ⟨⟨r', h1, h0, h2, h3⟩, h⟩, k => ⟨⟨r', h1, h0, (World.putObj_heap_other fun e => k d List.mem_cons_self (by rw [h1, e])).trans h2, h3⟩, h.put fun d' hd => k d' (List.mem_cons_of_mem _ hd)⟩
theorem leaves_marks {Fe : Fence} {m mk : Nat} {fn : Func} {tmps : Array Value} {R : Ending → World → Prop} : ∀ (ds : List Deferred) (w : World), DOKl mk w ds → (∀ w2, Shut mk w w2 → LeavesInM Fe m P fn tmps R [] .returning w2) → LeavesInM Fe m P fn tmps R ds .returning w := by
  intro ds
  induction ds with
  | nil => intro w _ hk; exact hk w (.refl _ _)
  | cons d ds ih =>
    rintro w ⟨⟨r, h1, h0, h2, h3⟩, h⟩ hk
    refine ⟨by simp, .inl ⟨r, _, h1, run_takeDeferred h2, ih _ (h.put h3) fun w2 s => hk w2 ⟨s.size.trans (by simp), s.os, s.tape, s.output, fun b => ?_⟩⟩⟩
    have hlt : r < w.heap.size := (Array.getElem?_eq_some_iff.1 h2).1
    by_cases hb : b = r
    · subst hb
      have hsame := World.putObj_heap_same (w := w) (o := .deferred none) hlt
      rcases s.at' b with k | ⟨_, k, _⟩
      · exact .inr ⟨h0, h2, k.trans hsame⟩
      · rw [hsame] at k; cases k
    · have hoth := World.putObj_heap_other (w := w) (o := .deferred none) hb
      rcases s.at' b with k | ⟨k0, k1, k2⟩
      · exact .inl (k.trans hoth)
      · exact .inr ⟨k0, hoth.symm.trans k1, k2⟩
theorem Shut.cell {mk : Nat} {w w2 : World} (s : Shut mk w w2) (b i : Nat) : w2.cell? ⟨b, i, none⟩ = w.cell? ⟨b, i, none⟩ := by
  rcases s.at' b with k | ⟨_, k1, k2⟩
  · exact cell_congr k i
  · simp [World.cell?, k1, k2]
theorem Shut.shape {mk : Nat} {w w2 : World} (s : Shut mk w w2) (b : Nat) : w2.shape? b = w.shape? b := by
  rcases s.at' b with k | ⟨_, k1, k2⟩
  · exact shape_congr k
  · simp [World.shape?, k1, k2]
theorem Shut.mono {mk : Nat} {w w2 : World} (s : Shut mk w w2) : Mono G w G w2 := ⟨fun _ _ h => h, fun _ _ h => h, fun _ _ h => h, fun b i _ => s.cell b i, fun b _ => s.shape b, fun _ _ h => h, fun _ _ h => h⟩
theorem Shut.rel {mk : Nat} {w w2 : World} (s : Shut mk w w2) (hW : WRel G H E lv w) : WRel G H E lv w2 := by
  have own : ∀ b, Owned G lv b → w2.heap[b]? = w.heap[b]? := fun b ho => by
    rcases s.at' b with k | ⟨_, k1, _⟩
    · exact k
    · exact absurd ho (not_owned hW k1)
  constructor
  · intro id b o' hb
    obtain ⟨cs, T, fz, h1, h2, h3, h4, h5⟩ := hW.obj id b o' hb
    have hk := own b (.inl ⟨id, _, hb⟩)
    exact ⟨cs, T, fz, hk.trans h1, h2, fun i x hx' => by
      obtain ⟨k1, k2, v, k3, k4⟩ := h3 i x hx'
      exact ⟨k1, k2, v, k3, k4.mono s.mono⟩, fun i hi => (frozen_congr hk _).trans (h4 i hi), h5⟩
  · intro id b hb
    exact hW.mobj_of s.mono hb (own b (.inl ⟨id, _, hb⟩)) rfl
  · exact hW.nσ
  · exact hW.inj
  · intro br hbr
    obtain ⟨k1, b, e, cs, T, fz, k2, k3, k4, k5, k6⟩ := hW.tip br hbr
    have hk := own b (.inr ⟨br, e, hbr, k2⟩)
    exact ⟨k1, b, e, cs, T, fz, k2, hk.trans k3, fun i c => (frozen_congr hk _).trans (k4 i c), k5, k6⟩
  · exact hW.tinj
  · exact fun b i h => s.size ▸ hW.σlt b i h
  · exact fun br b e h => s.size ▸ hW.τlt _ _ _ h
  · exact fun b r h => s.size ▸ hW.ρlt _ _ h
theorem Shut.ext {mk : Nat} {w w2 : World} (s : Shut mk w w2) {lv0 : Nat → Bool} (h : Ext G0 lv0 w0 G lv w) (hm : w0.heap.size ≤ mk) : Ext G0 lv0 w0 G lv w2 :=
  ⟨h.β, h.σ, h.τ, h.σn, h.own, fun b hb ho => by
      rcases s.at' b with k | ⟨k, _, _⟩
      · exact k.trans (h.keep b hb ho)
      · omega, fun b i hσ => (s.cell b i).trans (h.kσ b i hσ), fun b hb => (s.shape b).trans (h.shp b hb), s.size ▸ h.size, s.os.trans h.os, s.tape.trans h.tape, s.output.trans h.output, h.ρ, h.ρn⟩
def evBody (F : CallF) (k : Nat) (fn : IFn) (vs : List AV) (hs : Hs) (E : Nat → Option TypeId) : Option (AV × Hs) :=
  match evCode F k fn.body (entry vs hs E) with
  | some (.norm, S) => finish fn hs.n S
  | some (.ret, S) => finish fn hs.n S
  | _ => none
theorem finish_inv {fn : IFn} {r : AV} {hs' : Hs} (h : finish fn n S = some (r, hs')) : ∃ vs, resv S.T S.H fn.res = some vs ∧ (leaves (packR vs)).all (finOk S.H n) = true ∧ r = mapLeaf (finCell S.H n) (packR vs) ∧ r.under n = true ∧ hs' = { H := trim n S.H, n := n, lv := S.lv, c := S.c } := by
  unfold finish at h
  split at h
  · simp at h
  · rename_i vs hv
    simp only at h
    split at h
    · rename_i hok
      split at h
      · rename_i hu
        simp only [Option.some.injEq, Prod.mk.injEq] at h
        obtain ⟨rfl, rfl⟩ := h
        exact ⟨vs, hv, hok, rfl, hu, rfl⟩
      · simp at h
    · simp at h
theorem SoundAt.e {f : FuncId} {p : List AV → Hs → (Nat → Option TypeId) → Option (AV × Hs)} (h : SoundAt P f p) (env : Env) : SoundE P env f p := fun vs hs E r hs' hp => by
  obtain ⟨h1, h2, h3, h4⟩ := h vs hs E r hs' hp
  exact ⟨h1, h2, h3, fun G w args a b c d e f _ => h4 G w args a b c d e f⟩
theorem body_sound {ff : Env → CallF0} (hSE : ∀ env, EnvM env → Sound P ⟨ff, env⟩) {env : Env} (hM0 : EnvM env) {f : FuncId} {ifn : IFn} {k : Nat} (hr : resFn P hint f = some ifn) (hen : Enters P f) : SoundE P env f (fun vs hs E => evBody ⟨ff, lowE hs.n env⟩ k ifn vs hs E) := by
  intro vs hs E r hs' he
  have hM : EnvM (⟨ff, lowE hs.n env⟩ : CallF).env := hM0.low _
  have hS := hSE _ hM
  unfold resFn at hr
  split at hr
  case h_2 => simp at hr
  rename_i fn hf
  split at hr
  case h_2 => simp at hr
  rename_i c hb
  split at hr
  case h_2 => simp at hr
  rename_i b rs hcode hres
  simp only [Option.some.injEq] at hr; subst hr
  have hbody : ∃ e S1, evCode ⟨ff, lowE hs.n env⟩ k b (entry vs hs E) = some (e, S1) ∧ (e = .norm ∨ e = .ret) ∧ finish ⟨b, rs, fn.ntmps⟩ hs.n S1 = some (r, hs') := by
    have he : evBody ⟨ff, lowE hs.n env⟩ k ⟨b, rs, fn.ntmps⟩ vs hs E = some (r, hs') := he
    unfold evBody at he
    split at he
    · rename_i S1 h1; exact ⟨.norm, S1, h1, .inl rfl, he⟩
    · rename_i S1 h1; exact ⟨.ret, S1, h1, .inr rfl, he⟩
    · simp at he
  obtain ⟨e, S1, h1, hne, h2⟩ := hbody
  obtain ⟨us, v1, v2, v3, v4, v5⟩ := finish_inv h2
  refine ⟨hen, by rw [v5], by rw [v5]; exact code_c hSE hM b _ _ _ h1, ?_⟩
  intro G w args hl ha hW hβ hτ hc hE
  refine (callsIn_wide (n := 0)).1 (callsIn_of_wp_marks hf hb trivial ?_)
  have hsr : SRel G (entry vs hs E) fn.ntmps w.heap.size { tmps := args ++ Array.replicate (fn.ntmps - args.size) undef, defers := [] } w := by
    refine ⟨fun t => ?_, hW, hβ, hτ, hc, by simp; omega, Nat.le_refl _, trivial⟩
    show Rep G w (vs.getD t (.tup [])) ((args ++ Array.replicate (fn.ntmps - args.size) undef).getD t undef)
    simp only [List.getD_eq_getElem?_getD, Array.getD_eq_getD_getElem?]
    by_cases ht : t < vs.length
    · rw [List.getElem?_eq_getElem ht, Array.getElem?_append_left (by omega), Array.getElem?_eq_getElem (by omega)]
      exact ha t _ _ (List.getElem?_eq_getElem ht) (Array.getElem?_eq_getElem (by omega))
    · rw [List.getElem?_eq_none (by omega), Array.getElem?_append_right (by omega), Array.getElem?_replicate]
      split <;> exact rep_undef
  refine code_sound (F := ⟨ff, lowE hs.n env⟩) hSE hM c b hcode w.heap.size none 0 _ S1 e G _ w _ hE (fun l h => by cases h) hsr h1 fun a' w' G' hbd => ?_
  have hβlt : ∀ id p, G.β id = some p → id < hs.n := fun id p hp => by
    rcases Nat.lt_or_ge id hs.n with h' | h'
    · exact h'
    · rw [hβ id h'] at hp; cases hp
  have hEE := (code_E hS b _ _ _ h1).2
  have hpost : LeavesInM Fence.wide 0 P fn a'.tmps (fun e w' => ∃ v' G'', e = .returned v' ∧ Ext G hs.lv w G'' hs'.lv w' ∧ WRel G'' hs'.H E hs'.lv w' ∧ Rep G'' w' r v' ∧ (∀ id, G''.β id = G.β id) ∧ (∀ b, hs'.c ≤ b → G''.τ b = none)) a'.defers .returning w' := by
    refine leaves_marks (mk := w.heap.size) a'.defers w' hbd.rel.d.2 fun w2 s => ?_
    have hW2 := s.rel hbd.rel.W
    have hrel2 : SRel G' S1 fn.ntmps w.heap.size { tmps := a'.tmps, defers := [] } w2 := ⟨fun t => (hbd.rel.T t).mono s.mono, hW2, hbd.rel.β, hbd.rel.τ, hbd.rel.c, hbd.rel.nt, by rw [s.size]; exact hbd.rel.d.1, trivial⟩
    have hext := s.ext hbd.ext (Nat.le_refl _)
    obtain ⟨v, q1, q2⟩ := results_sound hrel2 hres v1
    refine ⟨v, q1, v, fin G' S1.H hs.n, rfl, ?_, ?_, ?_, ?_, ?_⟩
    · rw [v5]; exact fin_ext hext hβlt
    · rw [v5]; exact fin_rel hW2 hs.n fun id hid => hEE id hid
    · rw [v3]; exact fin_rep hW2 q2 v2 (by rw [← v3]; exact v4)
    · intro id
      simp only [fin]
      split
      · rename_i hid; exact hbd.stay id hid
      · rename_i hid; exact (hβ id (by omega)).symm
    · rw [v5]; exact hbd.rel.τ
  rcases hne with rfl | rfl
  · exact hpost
  · exact hpost
def Table (P : Program) (FN : FuncId → Option FnDef) : Prop := ∀ f d, FN f = some d → match d with
  | .code ifn => Enters P f ∧ ∃ hint, resFn P hint f = some ifn
  | .prim p => SoundAt P f p
theorem evCallE_zero (FN : FuncId → Option FnDef) (env : Env) (f : FuncId) (vs : List AV) (hs : Hs) (E : Nat → Option TypeId) : evCallE FN 0 env f vs hs E = none := rfl
theorem evCallE_code {FN : FuncId → Option FnDef} {f : FuncId} {fn : IFn} (h : FN f = some (.code fn)) (k : Nat) (env : Env) : evCallE FN (k + 1) env f = fun vs hs E => evBody ⟨evCallE FN k, lowE hs.n env⟩ k fn vs hs E := by
  funext vs hs E
  simp only [evCallE, h, evBody]
  rfl
theorem evCallE_prim {FN : FuncId → Option FnDef} {f : FuncId} {p : List AV → Hs → (Nat → Option TypeId) → Option (AV × Hs)} (h : FN f = some (.prim p)) (k : Nat) (env : Env) : evCallE FN (k + 1) env f = p := by
  funext vs hs E
  simp only [evCallE, h]
theorem evCallE_none {FN : FuncId → Option FnDef} {f : FuncId} (h : FN f = none) (k : Nat) (env : Env) (vs : List AV) (hs : Hs) (E : Nat → Option TypeId) : evCallE FN (k + 1) env f vs hs E = none := by
  simp only [evCallE, h]
theorem lowE_none (n : Nat) : lowE n (fun _ => none) = fun _ => none := by
  funext i
  unfold lowE
  split <;> rfl
theorem evCall_code {FN : FuncId → Option FnDef} {f : FuncId} {fn : IFn} (h : FN f = some (.code fn)) (k : Nat) : evCall FN (k + 1) f = evBody (evCall FN k) k fn := by
  show evCallE FN (k + 1) (fun _ => none) f = _
  rw [evCallE_code h]
  funext vs hs E
  rw [lowE_none]
  rfl
theorem table_soundE {FN : FuncId → Option FnDef} (hT : Table P FN) : ∀ k env, EnvM env → Sound P ⟨evCallE FN k, env⟩ := by
  intro k
  induction k with
  | zero => intro env hM; exact ⟨hM, fun f vs hs E r hs' h => by cases (show (none : Option (AV × Hs)) = some (r, hs') from h)⟩
  | succ k ih =>
    intro env hM
    refine ⟨hM, fun f => ?_⟩
    show SoundE P env f (evCallE FN (k + 1) env f)
    cases hf : FN f with
    | none => intro vs hs E r hs' h; rw [evCallE_none hf] at h; cases h
    | some d =>
      have := hT f d hf
      cases d with
      | code fn =>
        obtain ⟨hen, hint, hr⟩ := this
        rw [evCallE_code hf]
        exact body_sound ih hM hr hen
      | prim p => rw [evCallE_prim hf]; exact SoundAt.e this env
theorem table_sound {FN : FuncId → Option FnDef} (hT : Table P FN) (k : Nat) : Sound P (evCall FN k) := table_soundE hT k _ EnvM.none
end
end Go.Abs

/- Arguments that read as data are abstract values. Condition: their types are built of integers, bools, strings, slices, arrays and structs ('shT'). -/
namespace Go.Abs
open Go.ChangeShapes Go.WideShapes
inductive Sh where
  | int (k : IntKind)
  | bool
  | str
  | sl (s : Sh)
  | arr (n : Nat) (s : Sh)
  | agg (l : List Sh)
mutual
def Sh.size : Sh → Nat
  | .int _ | .bool | .str | .sl _ => 1
  | .arr n s => n * s.size
  | .agg l => sizesL l
def sizesL : List Sh → Nat
  | [] => 0
  | s :: l => s.size + sizesL l
end
def shF (P : Program) (sh : TypeId → Option Sh) (off : Nat) : List Field → Option (List Sh)
  | [] => some []
  | f :: fs => match sh f.type with
    | some s => if f.offset = off ∧ P.cellsOf f.type = s.size then (shF P sh (off + s.size) fs).map (s :: ·) else none
    | none => none
def shT (P : Program) : Nat → TypeId → Option Sh
  | 0, _ => none
  | d + 1, t => match P.underlying t with
    | some (.int k) => some (.int k)
    | some .bool => some .bool
    | some .string => some .str
    | some (.slice e) => match shT P d e with
      | some s => if 0 < s.size ∧ P.cellsOf e = s.size then some (.sl s) else none
      | none => none
    | some (.array n e) => match shT P d e with
      | some s => if P.cellsOf e = s.size ∧ P.cellsOf t = n * s.size then some (.arr n s) else none
      | none => none
    | some (.struct fs) => match shF P (shT P d) 0 fs.toList with
      | some l => if P.cellsOf t = sizesL l then some (.agg l) else none
      | none => none
    | _ => none
mutual
/-- Cells that have a shape. -/
def Has : Sh → List AV → Prop
  | .int k, xs => ∃ n, xs = [.int k n] ∧ (Lit.int k n).wf = true
  | .bool, xs => ∃ b, xs = [.bool b]
  | .str, xs => ∃ l, xs = [.str l] ∧ l.length ≤ reachBytes
  | .sl s, xs => ∃ ls : List (List AV), xs = [csl s.size ls.flatten] ∧ (∀ y ∈ ls, Has s y) ∧ ls.length ≤ maxLen
  | .arr n s, xs => ∃ ls : List (List AV), ls.length = n ∧ xs = ls.flatten ∧ ∀ y ∈ ls, Has s y
  | .agg l, xs => HasL l xs
def HasL : List Sh → List AV → Prop
  | [], xs => xs = []
  | s :: l, xs => ∃ ys zs, Has s ys ∧ HasL l zs ∧ xs = ys ++ zs
end
theorem flatten_const {α : Type} {n : Nat} : ∀ {ls : List (List α)}, (∀ y ∈ ls, y.length = n) → ls.flatten.length = ls.length * n := by
  intro ls
  induction ls with
  | nil => simp
  | cons y ls ih =>
    intro h
    rw [List.flatten_cons, List.length_append, h y List.mem_cons_self, ih fun z hz => h z (List.mem_cons_of_mem _ hz), List.length_cons, Nat.succ_mul]
    omega
mutual
theorem has_len : ∀ (s : Sh) (xs : List AV), Has s xs → xs.length = s.size
  | .int k, xs, h => by obtain ⟨n, rfl, _⟩ := h; rfl
  | .bool, xs, h => by obtain ⟨b, rfl⟩ := h; rfl
  | .str, xs, h => by obtain ⟨l, rfl, _⟩ := h; rfl
  | .sl s, xs, h => by obtain ⟨ls, rfl, _⟩ := h; rfl
  | .arr n s, xs, h => by
    obtain ⟨ls, rfl, rfl, h⟩ := h
    exact flatten_const fun y hy => has_len s y (h y hy)
  | .agg l, xs, h => hasL_len l xs h
theorem hasL_len : ∀ (l : List Sh) (xs : List AV), HasL l xs → xs.length = sizesL l
  | [], xs, h => by simp only [HasL] at h; subst h; rfl
  | s :: l, xs, h => by
    obtain ⟨ys, zs, h1, h2, rfl⟩ := h
    rw [List.length_append, has_len s ys h1, hasL_len l zs h2]; rfl
end
def allG (w : World) : Gh := { β := fun _ => none, σ := fun b _ => b < w.heap.size, τ := fun _ => none }
def Means (w : World) (xs : List AV) (cs : List Value) : Prop := xs.length = cs.length ∧ ∀ (i : Nat) (x : AV) (v : Value), xs[i]? = some x → cs[i]? = some v → Rep (allG w) w x v ∧ x.leaf = true ∧ x.flat = true
theorem Means.nil {w : World} : Means w [] [] := ⟨rfl, by simp⟩
theorem Means.one {w : World} {x : AV} {v : Value} (h : Rep (allG w) w x v) (h1 : x.leaf = true) (h2 : x.flat = true) : Means w [x] [v] := by
  refine ⟨rfl, fun i y u hy hu => ?_⟩
  cases i with
  | zero => simp at hy hu; subst hy; subst hu; exact ⟨h, h1, h2⟩
  | succ i => simp at hy
theorem Means.append {w : World} {xs ys : List AV} {cs ds : List Value} (h : Means w xs cs) (k : Means w ys ds) : Means w (xs ++ ys) (cs ++ ds) := by
  refine ⟨by rw [List.length_append, List.length_append, h.1, k.1], fun i x v hx hv => ?_⟩
  by_cases hi : i < xs.length
  · rw [List.getElem?_append_left hi] at hx
    rw [List.getElem?_append_left (by rw [← h.1]; exact hi)] at hv
    exact h.2 i x v hx hv
  · rw [List.getElem?_append_right (by omega)] at hx
    rw [List.getElem?_append_right (by rw [← h.1]; omega), ← h.1] at hv
    exact k.2 _ x v hx hv
section
variable {H : Type} {enc : TypeId × Value → H} {P : Program} {w : World}
theorem mapM_get' {α β : Type} {f : α → Option β} : ∀ {l : List α} {r : List β}, l.mapM f = some r → r.length = l.length ∧ ∀ (i : Nat) (x : α) (y : β), l[i]? = some x → r[i]? = some y → f x = some y := by
  intro l
  induction l with
  | nil => intro r h; simp at h; subst h; simp
  | cons a l ih =>
    intro r h
    rw [List.mapM_cons] at h
    simp only [Option.bind_eq_bind, Option.bind_eq_some_iff, Option.pure_def, Option.some.injEq] at h
    obtain ⟨b, hb, r', hr, rfl⟩ := h
    obtain ⟨i1, i2⟩ := ih hr
    refine ⟨by simp [i1], fun i x y hx hy => ?_⟩
    cases i with
    | zero => simp at hx hy; subst hx; subst hy; exact hb
    | succ i => exact i2 i x y (by simpa using hx) (by simpa using hy)
theorem parts_mean (cs : List Value) (n m : Nat) (hl : cs.length = n * m) (s : Sh) (h : ∀ i, i < n → ∃ xs, Has s xs ∧ Means w xs ((cs.drop (i * m)).take m)) : ∃ ls : List (List AV), ls.length = n ∧ (∀ y ∈ ls, Has s y) ∧ Means w ls.flatten cs := by
  induction n generalizing cs with
  | zero =>
    have : cs = [] := List.length_eq_zero_iff.1 (by simpa using hl)
    subst this
    exact ⟨[], rfl, by simp, Means.nil⟩
  | succ n ih =>
    obtain ⟨xs, h1, h2⟩ := h 0 (by omega)
    simp only [Nat.zero_mul, List.drop_zero] at h2
    obtain ⟨ls, k1, k2, k3⟩ := ih (cs.drop m) (by rw [List.length_drop, hl, Nat.succ_mul]; omega) fun i hi => by
      obtain ⟨ys, q1, q2⟩ := h (i + 1) (by omega)
      refine ⟨ys, q1, ?_⟩
      rw [List.drop_drop, show m + i * m = (i + 1) * m by rw [Nat.succ_mul]; omega]
      exact q2
    refine ⟨xs :: ls, by simp [k1], fun y hy => ?_, ?_⟩
    · rcases List.mem_cons.1 hy with rfl | hy
      · exact h1
      · exact k2 y hy
    · have := h2.append k3
      rwa [List.take_append_drop] at this
theorem weightsAll_mem {e : TypeId} : ∀ {ds : List (DataW H)} {d : DataW H}, d ∈ ds → ∀ x ∈ d.weights P e, x ∈ DataW.weightsAll P e ds := by
  intro ds
  induction ds with
  | nil => intro d hd; simp at hd
  | cons y ds ih =>
    intro d hd x hx
    simp only [DataW.weightsAll, List.mem_append]
    rcases List.mem_cons.1 hd with rfl | hd
    · exact .inl hx
    · exact .inr (ih hd x hx)
theorem cells_mean {a : Addr} {n m : Nat} {s : Sh} (hm : 0 < m) (h : ∀ i, i < n → ∃ cs xs, w.cells? 0 (a.add (i * m)) m = some cs ∧ Has s xs ∧ Means w xs cs) (hn : 0 < n) :
    ∃ b off, a = ⟨b, off, none⟩ ∧ ∃ ls : List (List AV), ls.length = n ∧ (∀ y ∈ ls, Has s y) ∧ Cells (allG w) w b off ls.flatten := by
  have hspot : a.spot = none := by
    obtain ⟨cs, xs, h1, _⟩ := h 0 hn
    simp only [Nat.zero_mul, World.cells?, Nat.zero_le, if_true] at h1
    obtain ⟨k1, k2⟩ := mapM_get' h1
    have hc : cs.length = m := by simpa using k1
    have := k2 0 0 cs[0] (by simp [hm]) (List.getElem?_eq_getElem (by omega))
    simp only [Addr.add, if_true, World.cell?] at this
    split at this
    · split at this
      · simp at this
      · rename_i hs; simpa using hs
    · simp at this
  obtain ⟨b, off, sp⟩ := a
  simp only at hspot
  subst hspot
  refine ⟨b, off, rfl, ?_⟩
  clear hn
  suffices hs : ∀ k, k ≤ n → ∃ ls : List (List AV), ls.length = k ∧ (∀ y ∈ ls, Has s y) ∧ ls.flatten.length = k * m ∧ Cells (allG w) w b off ls.flatten by
    obtain ⟨ls, h1, h2, _, h3⟩ := hs n (Nat.le_refl _)
    exact ⟨ls, h1, h2, h3⟩
  intro k
  induction k with
  | zero => intro _; exact ⟨[], rfl, by simp, by simp, fun i x hx => by simp at hx⟩
  | succ k ih =>
    intro hk
    obtain ⟨ls, h1, h2, h3, h4⟩ := ih (by omega)
    obtain ⟨cs, xs, c1, c2, c3⟩ := h k (by omega)
    have hcl : cs.length = m := by
      simp only [World.cells?, Nat.zero_le, if_true] at c1
      simpa using (mapM_get' c1).1
    refine ⟨ls ++ [xs], by simp [h1], fun y hy => ?_, ?_, ?_⟩
    · rcases List.mem_append.1 hy with hy | hy
      · exact h2 y hy
      · simp at hy; subst hy; exact c2
    · rw [List.flatten_append, List.length_append, h3, Nat.succ_mul]
      simp [c3.1, hcl]
    · intro i x hx
      rw [List.flatten_append] at hx
      by_cases hi : i < ls.flatten.length
      · rw [List.getElem?_append_left hi] at hx
        exact h4 i x hx
      · rw [List.getElem?_append_right (by omega), h3] at hx
        simp only [List.flatten_cons, List.flatten_nil, List.append_nil] at hx
        have hlt : i - k * m < cs.length := by rw [← c3.1]; exact (List.getElem?_eq_some_iff.1 hx).1
        obtain ⟨q1, q2, q3⟩ := c3.2 _ x cs[i - k * m] hx (List.getElem?_eq_getElem hlt)
        simp only [World.cells?, Nat.zero_le, if_true] at c1
        have hcell := (mapM_get' c1).2 (i - k * m) (i - k * m) cs[i - k * m] (by rw [List.getElem?_range (by omega)]) (List.getElem?_eq_getElem hlt)
        rw [add_none, add_none] at hcell
        have he : off + k * m + (i - k * m) = off + i := by omega
        rw [he] at hcell
        refine ⟨_, hcell, ?_, q3, q2, q1⟩
        show b < w.heap.size
        simp only [World.cell?] at hcell
        rcases Nat.lt_or_ge b w.heap.size with h' | h'
        · exact h'
        · rw [Array.getElem?_eq_none h'] at hcell; simp at hcell
theorem trod_abs : ∀ (d : Nat) (t : TypeId) (s : Sh), shT P d t = some s → ∀ (fuel : Nat) (cs : List Value) (x : DataW H × List MemPlace), DataW.trod enc P w 0 (fun _ => true) true fuel t cs = some x → (∀ k ∈ x.1.weights P t, k ≤ reachBytes) →
    ∃ xs, Has s xs ∧ Means w xs cs := by
  intro d
  induction d with
  | zero => intro t s h; simp [shT] at h
  | succ d ih =>
    intro t s hs fuel cs x hx hw
    simp only [shT] at hs
    split at hs
    · rename_i k ht
      simp only [Option.some.injEq] at hs; subst hs
      obtain ⟨n, rfl, rfl, hwf⟩ := DataW.trod_int ht hx
      exact ⟨[.int k n], ⟨n, rfl, hwf⟩, Means.one (.int k n) rfl rfl⟩
    · rename_i ht
      simp only [Option.some.injEq] at hs; subst hs
      obtain ⟨b, rfl, rfl⟩ := DataW.trod_bool ht hx
      exact ⟨[.bool b], ⟨b, rfl⟩, Means.one (.bool b) rfl rfl⟩
    · rename_i ht
      simp only [Option.some.injEq] at hs; subst hs
      obtain ⟨u, rfl, rfl, hl⟩ := DataW.trod_string ht hx
      exact ⟨[.str u.data.toList], ⟨_, rfl, hw _ (by simp [DataW.weights])⟩, Means.one (.str _ u rfl) rfl rfl⟩
    · -- a slice
      rename_i e ht
      split at hs
      · rename_i s' hse
        split at hs
        · rename_i hsz
          simp only [Option.some.injEq] at hs; subst hs
          rcases Go.Deep.open_slice ht hx with ⟨rfl, rfl⟩ | ⟨a, len, cap, m, n, D, Pl, rfl, _, hlc, hcm, hm, rfl, hel⟩
          · exact ⟨[csl s'.size []], ⟨[], rfl, by simp, Nat.zero_le _⟩, Means.one (.emp 1 0 none 0 (.inl rfl)) rfl rfl⟩
          · simp only [if_true] at hm
            subst hm
            have hel' : ∀ i, i < len → ∃ cs xs, w.cells? 0 (a.add (i * s'.size)) s'.size = some cs ∧ Has s' xs ∧ Means w xs cs := by
              intro i hi
              obtain ⟨cs', c1, c2⟩ := hel i (by omega)
              rw [hsz.2] at c1
              obtain ⟨xs, q1, q2⟩ := ih e s' hse n cs' _ c2 fun k hk => hw k (by
                simp only [DataW.weights, ht]
                exact List.mem_cons_of_mem _ (List.mem_append_left _ (weightsAll_mem (List.mem_map.2 ⟨i, by simpa using hi, rfl⟩) k hk)))
              exact ⟨cs', xs, c1, q1, q2⟩
            have hcap : len ≤ maxLen := by omega
            rcases Nat.eq_zero_or_pos len with h0 | h0
            · subst h0
              exact ⟨[csl s'.size []], ⟨[], rfl, by simp, Nat.zero_le _⟩, Means.one (.emp 1 0 (some a) m (.inl rfl)) rfl rfl⟩
            · obtain ⟨b, off, rfl, ls, l1, l2, l3⟩ := cells_mean hsz.1 hel' h0
              refine ⟨[csl s'.size ls.flatten], ⟨ls, rfl, l2, by omega⟩, ?_⟩
              have hlen : ls.flatten.length = len * s'.size := by rw [flatten_const fun y hy => has_len s' y (l2 y hy), l1]
              have hr : Rep (allG w) w (.sl 1 s'.size ls.flatten) (.slice (some ⟨b, off, none⟩) len m) := Rep.mk_sl (by omega) hsz.1 hlen hlc l3 (by omega) (by omega)
              exact Means.one hr.canon.1 hr.canon.2 (csl_flat _ _)
        · simp at hs
      · simp at hs
    · -- an array
      rename_i n e ht
      split at hs
      · rename_i s' hse
        split at hs
        · rename_i hsz
          simp only [Option.some.injEq] at hs; subst hs
          obtain ⟨ys, m, _, rfl, hl, hlen, hel⟩ := DataW.trod_array ht hx
          have hpart : ∀ i, i < n → ∃ xs, Has s' xs ∧ Means w xs ((cs.drop (i * s'.size)).take s'.size) := by
            intro i hi
            have hq := hel i hi
            rw [List.getElem?_eq_getElem (by omega), hsz.1] at hq
            refine ih e s' hse m _ _ hq fun k hk => hw k ?_
            simp only [DataW.weights, ht]
            exact weightsAll_mem (List.mem_map.2 ⟨ys[i], List.getElem_mem _, rfl⟩) k hk
          obtain ⟨ls, l1, l2, l3⟩ := parts_mean cs n s'.size (by rw [hl, hsz.2]) s' hpart
          exact ⟨ls.flatten, ⟨ls, l1, rfl, l2⟩, l3⟩
        · simp at hs
      · simp at hs
    · -- a struct
      rename_i fs ht
      split at hs
      · rename_i l hsf
        split at hs
        · rename_i hsz
          simp only [Option.some.injEq] at hs; subst hs
          obtain ⟨ys, m, _, rfl, hl, hlen, hel⟩ := DataW.trod_struct ht hx
          have key : ∀ (fl : List Field) (yl : List (DataW H × List MemPlace)) (sl : List Sh) (off : Nat), shF P (shT P d) off fl = some sl → yl.length = fl.length →
              (∀ (i : Nat) f, fl[i]? = some f → DataW.trod enc P w 0 (fun _ => true) true m f.type ((cs.drop f.offset).take (P.cellsOf f.type)) = yl[i]?) →
              (∀ k ∈ DataW.weightsEach P (fl.map (·.type)) (yl.map (·.1)), k ≤ reachBytes) → off + sizesL sl ≤ cs.length → ∃ xs, HasL sl xs ∧ Means w xs ((cs.drop off).take (sizesL sl)) := by
            intro fl
            induction fl with
            | nil =>
              intro yl sl off h1 _ _ _ _
              simp only [shF, Option.some.injEq] at h1; subst h1
              exact ⟨[], rfl, by simp [sizesL]; exact Means.nil⟩
            | cons f fl ihf =>
              intro yl sl off h1 h2 h3 h4 h5
              simp only [shF] at h1
              split at h1
              · rename_i s0 hs0
                split at h1
                · rename_i hoff
                  obtain ⟨sl', h6, rfl⟩ := map_some' h1
                  cases yl with
                  | nil => simp at h2
                  | cons y yl =>
                    have hy := h3 0 f rfl
                    rw [hoff.1, hoff.2] at hy
                    simp only [List.map_cons, DataW.weightsEach, List.mem_append] at h4
                    simp only [sizesL] at h5
                    obtain ⟨xs, q1, q2⟩ := ih f.type s0 hs0 m _ y hy fun k hk => h4 k (.inl hk)
                    obtain ⟨zs, r1, r2⟩ := ihf yl sl' (off + s0.size) h6 (by simpa using h2) (fun i g hg => by simpa using h3 (i + 1) g (by simpa using hg)) (fun k hk => h4 k (.inr hk)) (by omega)
                    refine ⟨xs ++ zs, ⟨xs, zs, q1, r1, rfl⟩, ?_⟩
                    have := q2.append r2
                    simp only [sizesL]
                    rw [List.take_add, List.drop_drop]
                    exact this
                · simp at h1
              · simp at h1
          simp only [DataW.weights, ht] at hw
          obtain ⟨xs, k1, k2⟩ := key fs.toList ys l 0 hsf (by simpa using hlen) (fun i f hf => hel i f (by simpa using hf)) hw (by rw [hl, hsz]; omega)
          refine ⟨xs, k1, ?_⟩
          rw [List.drop_zero, List.take_of_length_le (by rw [hl, hsz]; exact Nat.le_refl _)] at k2
          exact k2
        · simp at hs
      · simp at hs
    · simp at hs
end
end Go.Abs

/- From what the evaluator says of a law to the law's row. Conditions: the parameters' types are built of integers, bools, strings, slices, arrays and structs; the law answers one bool; no package variable is listed. -/
namespace Go.Abs
open Go.ChangeShapes Go.WideShapes Go.RowKit
def argOf : Sh → List AV → AV
  | .arr _ _, xs => .agg xs
  | .agg _, xs => .agg xs
  | _, xs => xs.headD .junk
def Each : List Sh → List (List AV) → Prop
  | [], [] => True
  | s :: ss, x :: xs => Has s x ∧ Each ss xs
  | _, _ => False
def argsOf : List Sh → List (List AV) → List AV
  | s :: ss, x :: xs => argOf s x :: argsOf ss xs
  | _, _ => []
section
variable {H : Type} {enc : TypeId × Value → H} {P : Program} {w W' : World}
theorem cells_of_one {v : Value} (h : ∀ cs, v ≠ .agg cs) : v.cells.toList = [v] := by
  cases v <;> first | rfl | exact absurd rfl (h _)
theorem arg_means {r : Reach} {b : Nat} {t : TypeId} {d : Nat} {s : Sh} (hs : shT P (d + 1) t = some s) {v : Value} (hok : Value.okWide P w r b t v) {xs : List AV} (hh : Has s xs) (hm : Means w xs v.cells.toList) : Rep (allG w) w (argOf s xs) v ∧ (argOf s xs).flat = true := by
  have one : ∀ {x : AV}, xs = [x] → (∀ cs, v ≠ .agg cs) → Rep (allG w) w x v ∧ x.flat = true := by
    intro x hx hv
    subst hx
    rw [cells_of_one hv] at hm
    obtain ⟨k1, _, k2⟩ := hm.2 0 x v rfl rfl
    exact ⟨k1, k2⟩
  have aggr : ∀ {cs : Array Value}, v = .agg cs → Rep (allG w) w (.agg xs) v ∧ (AV.agg xs).flat = true := by
    intro cs hv
    subst hv
    refine ⟨Row.agg ⟨by simpa [Value.cells] using hm.1, fun i x u hx hu => ?_⟩, ?_⟩
    · obtain ⟨k1, k2, _⟩ := hm.2 i x u hx (by simpa [Value.cells] using hu)
      exact ⟨k2, k1⟩
    · simp only [AV.flat, flatL_iff]
      intro x hx
      obtain ⟨i, hi⟩ := List.getElem?_of_mem hx
      have hlt : i < cs.toList.length := by
        have := (List.getElem?_eq_some_iff.1 hi).1
        have h2 := hm.1
        simp only [Value.cells] at h2
        omega
      exact (hm.2 i x _ hi (List.getElem?_eq_getElem hlt)).2.2
  simp only [shT] at hs
  split at hs
  · rename_i k ht
    simp only [Option.some.injEq] at hs; subst hs
    obtain ⟨n, rfl, _⟩ := hh
    exact one rfl fun cs hv => by subst hv; simp [Value.okWide, ht, Cell.okWide, Cell.ok] at hok
  · rename_i ht
    simp only [Option.some.injEq] at hs; subst hs
    obtain ⟨n, rfl⟩ := hh
    exact one rfl fun cs hv => by subst hv; simp [Value.okWide, ht, Cell.okWide, Cell.ok] at hok
  · rename_i ht
    simp only [Option.some.injEq] at hs; subst hs
    obtain ⟨n, rfl, _⟩ := hh
    exact one rfl fun cs hv => by subst hv; simp [Value.okWide, ht, Cell.okWide, Cell.ok] at hok
  · rename_i e ht
    split at hs
    · split at hs
      · simp only [Option.some.injEq] at hs; subst hs
        obtain ⟨n, rfl, _⟩ := hh
        exact one rfl fun cs hv => by subst hv; simp [Value.okWide, ht, Cell.okWide, Cell.ok] at hok
      · simp at hs
    · simp at hs
  · rename_i n e ht
    simp only [Value.okWide, ht] at hok
    obtain ⟨cs, hv, _⟩ := hok
    split at hs
    · split at hs
      · simp only [Option.some.injEq] at hs; subst hs
        exact aggr hv
      · simp at hs
    · simp at hs
  · rename_i fs ht
    simp only [Value.okWide, ht] at hok
    obtain ⟨cs, hv, _⟩ := hok
    split at hs
    · split at hs
      · simp only [Option.some.injEq] at hs; subst hs
        exact aggr hv
      · simp at hs
    · simp at hs
  · simp at hs
theorem args_abs {r : Reach} {b d : Nat} : ∀ (ts : List TypeId) (vs : List Value) (ds : List (DataW H)) (ps : List MemPlace) (shs : List Sh), DataW.TrodAll enc P w 0 (fun _ => true) true ts vs ds ps →
    (∀ (j : Nat) t v, ts[j]? = some t → vs[j]? = some v → Value.okWide P w r b t v) → (∀ k ∈ DataW.weightsEach P ts ds, k ≤ reachBytes) → ts.mapM (shT P (d + 1)) = some shs →
    ∃ xss, Each shs xss ∧ (argsOf shs xss).length = vs.length ∧ ds.length = ts.length ∧ ∀ (i : Nat) (x : AV) (v : Value), (argsOf shs xss)[i]? = some x → vs[i]? = some v → Rep (allG w) w x v := by
  intro ts
  induction ts with
  | nil =>
    intro vs ds ps shs h _ _ hs
    obtain ⟨rfl, rfl, _⟩ := trodAll_nil h
    simp at hs; subst hs
    exact ⟨[], trivial, rfl, rfl, by simp [argsOf]⟩
  | cons t ts ih =>
    intro vs ds ps shs h hok hw hs
    obtain ⟨v, vs', d0, ds', p, q, rfl, rfl, _, h1, h2⟩ := trodAll_cons h
    rw [List.mapM_cons] at hs
    simp only [Option.bind_eq_bind, Option.bind_eq_some_iff, Option.pure_def, Option.some.injEq] at hs
    obtain ⟨s, hs1, ss, hs2, rfl⟩ := hs
    simp only [DataW.weightsEach, List.mem_append] at hw
    obtain ⟨fuel, hf⟩ := h1
    obtain ⟨xs, k1, k2⟩ := trod_abs (d + 1) t s hs1 fuel _ _ hf fun k hk => hw k (.inl hk)
    obtain ⟨xss, q1, q2, q3, q4⟩ := ih vs' ds' q ss h2 (fun j t' v' ht hv => hok (j + 1) t' v' (by simpa using ht) (by simpa using hv)) (fun k hk => hw k (.inr hk)) hs2
    obtain ⟨m1, _⟩ := arg_means hs1 (hok 0 t v rfl rfl) k1 k2
    refine ⟨xs :: xss, ⟨k1, q1⟩, by simp [argsOf, q2], by simp [q3], fun i x u hx hu => ?_⟩
    cases i with
    | zero => simp [argsOf] at hx hu; subst hx; subst hu; exact m1
    | succ i => exact q4 i x u (by simpa [argsOf] using hx) (by simpa using hu)
theorem trodAll_carry {sp : Nat → Bool} (hkeep : ∀ b, b < w.heap.size → W'.heap[b]? = w.heap[b]?) : ∀ (ts : List TypeId) (vs : List Value) (ds : List (DataW H)) (ps : List MemPlace), DataW.TrodAll enc P w 0 sp true ts vs ds ps → DataW.TrodAll enc P W' 0 sp true ts vs ds ps := by
  intro ts
  induction ts with
  | nil => intro vs ds ps h; obtain ⟨rfl, rfl, rfl⟩ := trodAll_nil h; rfl
  | cons t ts ih =>
    intro vs ds ps h
    obtain ⟨v, vs', d0, ds', p, q, rfl, rfl, rfl, ⟨fuel, h1⟩, h2⟩ := trodAll_cons h
    refine ⟨p, q, ⟨fuel, DataW.trod_carry fuel _ _ _ h1 fun x hx => ?_⟩, ih vs' ds' q h2, rfl⟩
    have hlt := DataW.trod_lt fuel _ _ _ h1 x hx
    cases x with
    | cell bk off =>
      show W'.cell? ⟨bk, off, none⟩ = w.cell? ⟨bk, off, none⟩
      simp only [World.cell?, hkeep bk hlt]
    | map bk => exact hkeep bk hlt
end
theorem law_returns {C : Checked} {os : Os} {f : FuncId} {fn : Func} {s : ChangeSpec} {tb : TypeId} {H : Type} {enc : TypeId × Value → H} {shs : List Sh} {d : Nat} {FN : FuncId → Option FnDef}
    (own : ownKnob C.prog.godebug = none) (started : os.Started) (noInit : C.prog.inits.idxOf? f = none) (hfn : C.prog.funcs[f]? = some fn)
    (witness : ∃ (w : World) (tape : Tape) (i : Input), w.os = os ∧ (w.forCall tape i).Shaped C.prog ∧ i.vars = [] ∧ Input.okWide C.prog (w.forCall tape i) .any w.heap.size f i ∧
      s.pre6 enc C.prog fn [] false (w.forCall tape i).memory i.args ∧ ({} : Assume).holds C.prog (Go.lone (Frame.enter C.prog f i.args .normal) [] (w.forCall tape i)))
    (laid : laidOutB C.prog = true) (maps : mapsRowed C.prog = true) (full : ((List.range C.prog.types.size).all fun t => match C.prog.underlying t with | some (.slice e) => decide (0 < C.prog.cellsOf e) | _ => true) = true)
    (params : fn.params.all (· < C.prog.types.size) = true)
    (vars : s.vars = []) (spec : ∀ (ds : List (DataW H)), ds.length = fn.params.toList.length → (s.fn H (ds ++ [])).results = [.lit (.bool true)] ∧ (s.fn H (ds ++ [])).args = ds)
    (hvars : ∀ (ds : List (DataW H)), ds.length = fn.params.toList.length → (s.fn H (ds ++ [])).vars = [])
    (res : fn.resultTypes = #[tb]) (hb : C.prog.underlying tb = some .bool) (shapes : fn.params.toList.mapM (shT C.prog (d + 1)) = some shs) (table : Table C.prog FN)
    (eval : ∀ xss, Each shs xss → ∃ k hs', evCall FN k f (argsOf shs xss) h0 (fun _ => none) = some (.bool true, hs')) :
    ReturnsInHanded {} C os f .any (s.pre6 enc C.prog fn [] false) (s.post enc C.prog fn false true false false) := by
  refine returnsInHanded_of_change_shaped own started noInit hfn witness ?_
  intro W base args ds gs before hval hW _ hweights _ _
  have hW' := hW
  obtain ⟨p, q, hA, hV, rfl, hfz, hnd⟩ := hW
  rw [vars] at hV
  obtain ⟨rfl, rfl⟩ := trodVars_none hV
  have hw : ∀ k ∈ DataW.weightsEach C.prog fn.params.toList ds, k ≤ reachBytes := by
    have hvt : s.plain.varTypes C.prog = [] := by simp [ChangeSpec.plain, DataSpec.varTypes, vars]
    rw [hvt, List.append_nil, List.append_nil, List.all_eq_true] at hweights
    intro k hk
    simpa using hweights k hk
  obtain ⟨xss, k1, k2, k3, k4⟩ := args_abs fn.params.toList args.toList ds p shs hA (fun j t v ht hv => hval j t v (by simpa using ht) (by simpa using hv)) hw shapes
  obtain ⟨k, hs', he⟩ := eval xss k1
  obtain ⟨_, _, _, hcalls⟩ := (table_sound table k).call f _ _ _ _ _ he
  have hrel : WRel (allG W) h0.H (fun _ => none) h0.lv W := by
    constructor
    · intro id b o h; cases h
    · intro id b h; cases h
    · intro id b o h; cases h
    · intro id id' b o o' h; cases h
    · intro br h; cases h
    · intro br br' b e e' h; cases h
    · exact fun b i h => h
    · intro br b e h; cases h
    · intro b r h; cases h
  refine (hcalls (allG W) W args (by simpa using k2) (fun i x v hx hv => k4 i x v hx (by simpa using hv)) hrel (fun _ _ => rfl) (fun _ _ => rfl) (Nat.le_refl _) (EnvOK.zero _ _ _ _)).mono fun e W' hR => ?_
  obtain ⟨v, G', rfl, hext, _, hrep, _⟩ := hR
  have hvb := hrep.inv_bool
  subst hvb
  have hnot : ∀ b, ¬ Owned (allG W) h0.lv b := by
    rintro b (⟨id, o, h⟩ | ⟨br, e, h, _⟩)
    · cases h
    · cases h
  have hkeep : ∀ b, b < W.heap.size → W'.heap[b]? = W.heap[b]? := fun b hb => hext.keep b hb (hnot b)
  obtain ⟨sp1, sp2⟩ := spec ds k3
  have sp3 := hvars ds k3
  refine ⟨_, rfl, ds, [], p ++ [], [], p, [], hW', ?_, ?_, ?_, ?_, fun h => by cases h⟩
  · rw [sp1, res]
    exact trodAll_cons_mk (shut_bool hb true) trodAll_mk0
  · rw [sp2]
    have hall : ∀ t ∈ fn.params.toList, t < C.prog.types.size := by
      intro t ht
      rw [Array.all_eq_true_iff_forall_mem] at params
      simpa using params t (by simpa using ht)
    refine DataW.TrodAll.respare (kids_rows laid maps) (fun t e hT ht => slices_full_of C.prog full t e hT ht) hall (trodAll_carry hkeep _ _ _ _ hA) fun x hx => ?_
    have := hW'.lt x (by simpa using hx)
    simpa using this
  · rw [vars, sp3]; rfl
  · refine ⟨hext.os, hext.output, fun i hi => ?_⟩
    rw [hkeep i hi]
    split
    · rename_i heq1 heq2
      rw [heq1] at heq2
      simp only [Option.some.injEq, Obj.cells.injEq] at heq2
      obtain ⟨rfl, rfl, rfl⟩ := heq2
      exact ⟨rfl, rfl, rfl, fun _ _ => rfl⟩
    · rename_i heq1 heq2
      rw [heq1] at heq2
      simp only [Option.some.injEq, Obj.map.injEq] at heq2
      obtain ⟨rfl, rfl⟩ := heq2
      exact .inr ⟨rfl, rfl⟩
    · rfl
end Go.Abs

/- Rules to step through resolved code. No condition. -/
namespace Go.Abs
structure WpO (F : CallF) (l : List IOper) (S : St) (Q : St → Prop) : Prop where
  ex : ∃ S', evOps F l S = some S' ∧ Q S'
structure Wp (F : CallF) (k : Nat) (c : IC) (S : St) (Q : Ex → St → Prop) : Prop where
  ex : ∃ e S', evCode F k c S = some (e, S') ∧ Q e S'
def call0 (F : CallF) (f : FuncId) (vs : List AV) : Option AV := (evP F f vs).map (mapLeaf canonCell)
structure Calls0 (F : CallF) (f : FuncId) (vs : List AV) (R : AV) : Prop where
  eq : call0 F f vs = some R
section
variable {F : CallF} {k : Nat} {l : List IOper} {T : Nat → AV} {H : Hp} {E : Nat → Option TypeId} {n c : Nat} {lv : Nat → Bool} {Q : St → Prop} {op : IOp} {d : Nat} {v : AV}
theorem o_nil {S : St} (h : Q S) : WpO F [] S Q := ⟨S, rfl, h⟩
theorem o_step {io : IOper} {S S1 : St} (h : evStep F io S = some S1) (k : WpO F l S1 Q) : WpO F (io :: l) S Q := by
  obtain ⟨S', h1, h2⟩ := k.ex
  exact ⟨S', by rw [evOps_cons, h]; exact h1, h2⟩
theorem live0 (lv : Nat → Bool) (c : Nat) : (fun b => if c ≤ b ∧ b < c + 0 then true else if (none : Option Nat) = some b then false else lv b) = lv := by
  funext b
  rw [if_neg (by omega), if_neg (by simp)]
theorem o_eff (hc : isCall op = false) (h : evOp T H lv n c op = some ⟨v, none, none, none, none, 0⟩) (k : WpO F l ⟨upd T d v, H, E, n, lv, c⟩ Q) : WpO F (⟨some d, op, none⟩ :: l) ⟨T, H, E, n, lv, c⟩ Q := by
  refine o_step ?_ k
  simp only [evStep, wants, hc, h, Bool.false_eq_true, if_false, Eff.st, putT, Nat.add_zero]
  rw [show (fun b => if c ≤ b ∧ b < c then true else if (none : Option Nat) = some b then false else lv b) = lv from live0 lv c]
theorem o_new {cs : List AV} {t : Option TypeId} (hc : isCall op = false) (h : evOp T H lv n c op = some ⟨v, some cs, t, none, none, 0⟩) (k : WpO F l ⟨upd T d v, upd H n cs, upd E n t, n + 1, lv, c⟩ Q) : WpO F (⟨some d, op, none⟩ :: l) ⟨T, H, E, n, lv, c⟩ Q := by
  refine o_step ?_ k
  simp only [evStep, wants, hc, h, Bool.false_eq_true, if_false, Eff.st, putT, Nat.add_zero]
  rw [show (fun b => if c ≤ b ∧ b < c then true else if (none : Option Nat) = some b then false else lv b) = lv from live0 lv c]
theorem o_wr {d : Option Nat} {id : Nat} {cs : List AV} (hc : isCall op = false) (h : evOp T H lv n c op = some ⟨v, none, none, some (id, cs), none, 0⟩) (k : WpO F l ⟨putT T d v, upd H id cs, E, n, lv, c⟩ Q) : WpO F (⟨d, op, none⟩ :: l) ⟨T, H, E, n, lv, c⟩ Q := by
  refine o_step ?_ k
  simp only [evStep, wants, hc, h, Bool.false_eq_true, if_false, Eff.st, Nat.add_zero]
  rw [show (fun b => if c ≤ b ∧ b < c then true else if (none : Option Nat) = some b then false else lv b) = lv from live0 lv c]
theorem o_brand (hc : isCall op = false) (h : evOp T H lv n c op = some ⟨v, none, none, none, none, 1⟩) (k : ∀ lv', lv' c = true → (∀ b, b < c → lv' b = lv b) → WpO F l ⟨upd T d v, H, E, n, lv', c + 1⟩ Q) : WpO F (⟨some d, op, none⟩ :: l) ⟨T, H, E, n, lv, c⟩ Q := by
  refine o_step (S1 := ⟨upd T d v, H, E, n, fun b => if c ≤ b ∧ b < c + 1 then true else lv b, c + 1⟩) ?_ (k _ ?_ ?_)
  · simp [evStep, wants, hc, h, Eff.st, putT]
  · simp
  · intro b hb; simp; omega
theorem o_brand_use {br : Nat} (hc : isCall op = false) (h : evOp T H lv n c op = some ⟨v, none, none, none, some br, 1⟩) (k : ∀ lv', lv' c = true → (∀ b, b < c → b ≠ br → lv' b = lv b) → WpO F l ⟨upd T d v, H, E, n, lv', c + 1⟩ Q) : WpO F (⟨some d, op, none⟩ :: l) ⟨T, H, E, n, lv, c⟩ Q := by
  refine o_step (S1 := ⟨upd T d v, H, E, n, fun b => if c ≤ b ∧ b < c + 1 then true else if br = b then false else lv b, c + 1⟩) ?_ (k _ ?_ ?_)
  · simp [evStep, wants, hc, h, Eff.st, putT]
  · simp
  · intro b hb hne
    rw [if_neg (by omega), if_neg (Ne.symm hne)]
theorem o_call {f : FuncId} {xs : List X} {args : List AV} {R : AV} (ha : (xs.map fun x => (ev T x).share) = args) (hf : flatL args = true) (hc : call0 F f args = some R) (k : WpO F l ⟨upd T d R, H, E, n, lv, c⟩ Q) : WpO F (⟨some d, .callp 0 f xs, none⟩ :: l) ⟨T, H, E, n, lv, c⟩ Q := by
  refine o_step ?_ k
  obtain ⟨r, h1, h2⟩ := Option.map_eq_some_iff.1 hc
  simp only [evStep, wants, isCall, evCallOp, ha, hf, h1, adopt, if_true, Eff.st, putT, Nat.add_zero, h2]
  rw [show (fun b => if c ≤ b ∧ b < c then true else if (none : Option Nat) = some b then false else lv b) = lv from live0 lv c]
theorem o_guard_yes {d : Option Nat} {t : Nat} {w : Bool} (hg : T t = .bool w) (k : WpO F (⟨d, op, none⟩ :: l) ⟨T, H, E, n, lv, c⟩ Q) : WpO F (⟨d, op, some (t, w)⟩ :: l) ⟨T, H, E, n, lv, c⟩ Q := by
  obtain ⟨S', h1, h2⟩ := k.ex
  refine ⟨S', ?_, h2⟩
  rw [evOps_cons] at h1 ⊢
  have : evStep F ⟨d, op, some (t, w)⟩ ⟨T, H, E, n, lv, c⟩ = evStep F ⟨d, op, none⟩ ⟨T, H, E, n, lv, c⟩ := by
    simp [evStep, wants, hg]
  rw [this]; exact h1
theorem o_guard_no {d : Option Nat} {t : Nat} {w b : Bool} (hg : T t = .bool b) (hb : (b == w) = false) (k : WpO F l ⟨putT T d (.tup []), H, E, n, lv, c⟩ Q) : WpO F (⟨d, op, some (t, w)⟩ :: l) ⟨T, H, E, n, lv, c⟩ Q := by
  refine o_step ?_ k
  simp [evStep, wants, hg, hb]
theorem o_guard_skip {d : Option Nat} {t : Nat} {w : Bool} (hg : T t = .tup []) (k : WpO F l ⟨putT T d (.tup []), H, E, n, lv, c⟩ Q) : WpO F (⟨d, op, some (t, w)⟩ :: l) ⟨T, H, E, n, lv, c⟩ Q := by
  refine o_step ?_ k
  simp [evStep, wants, hg]
theorem upd_same' {α : Type} (f : Nat → α) (i : Nat) (v : α) (h : f i = v) : upd f i v = f := by
  funext j
  simp only [upd]
  split
  · rename_i hj; rw [hj, h]
  · rfl
variable {K : Ex → St → Prop} {a b : IC} {S : St}
structure seqK (F : CallF) (k : Nat) (b : IC) (K : Ex → St → Prop) (e : Ex) (S : St) : Prop where
  h : match e with
    | .norm => Wp F k b S K
    | e => K e S
structure blockK (id : Nat) (K : Ex → St → Prop) (e : Ex) (S : St) : Prop where
  h : match e with
    | .exit j => if j = id then K .norm S else K (.exit j) S
    | e => K e S
theorem w_skip (h : K .norm S) : Wp F k .skip S K := ⟨.norm, S, rfl, h⟩
theorem w_exit {id : Nat} (h : K (.exit id) S) : Wp F k (.exit id) S K := ⟨.exit id, S, rfl, h⟩
theorem w_ret (h : K .ret S) : Wp F k .ret S K := ⟨.ret, S, rfl, h⟩
theorem w_ops {dr : Bool} (h : WpO F l S (K .norm)) : Wp F k (.ops dr l) S K := by
  obtain ⟨S', h1, h2⟩ := h.ex
  exact ⟨.norm, S', by simp only [evCode, h1], h2⟩
structure AndX (ps : List (Nat × Nat)) (K : St → Prop) (S : St) : Prop where
  a : ps.all (apartS S.T) = true
  k : K S
theorem w_opsX {ps : List (Nat × Nat)} (h : WpO F l S (AndX ps (K .norm))) : Wp F k (.opsX l ps) S K := by
  obtain ⟨S', h1, h2⟩ := h.ex
  exact ⟨.norm, S', by simp only [evCode, h1, h2.a, if_true], h2.k⟩
structure SameX (S1 S2 : St) (qs : List Nat) (K : St → Prop) (S : St) : Prop where
  s : ∀ q, q ∈ qs → ∃ id o, S.T q = .ref id o ∧ S2.H id = S1.H id
  k : K S
structure BehX (F : CallF) (l : List IOper) (S1 : St) (qs : List Nat) (K : St → Prop) (S2 : St) : Prop where
  h : WpO F l S2 (SameX S1 S2 qs K)
structure AtX (F : CallF) (io : IOper) (l : List IOper) (qs : List Nat) (K : St → Prop) (S1 : St) : Prop where
  h : WpO F [io] S1 (BehX F l S1 qs K)
theorem w_opsC {l1 l2 : List IOper} {io : IOper} {ps : List (Nat × Nat)} {qs : List Nat} (h : WpO F l1 S (AtX F io l2 qs (AndX ps (K .norm)))) : Wp F k (.opsC (l1 ++ io :: l2) ps (qs.map fun q => (l1.length, q))) S K := by
  obtain ⟨S1, h1, h2⟩ := h.ex
  obtain ⟨S2, h3, h4⟩ := h2.h.ex
  obtain ⟨S3, h5, h6⟩ := h4.h.ex
  have e3 : evOps F (l1 ++ io :: l2) S = some S3 := by
    rw [evOps_append, h1]
    show evOps F ([io] ++ l2) S1 = _
    rw [evOps_append, h3]
    exact h5
  have t1 : Sx F (l1 ++ io :: l2) S l1.length = S1 := by
    unfold Sx
    rw [List.take_left, h1]; rfl
  have t2 : Sx F (l1 ++ io :: l2) S (l1.length + 1) = S2 := by
    unfold Sx
    rw [show l1 ++ io :: l2 = (l1 ++ [io]) ++ l2 by simp, show l1.length + 1 = (l1 ++ [io]).length by simp, List.take_left, evOps_append, h1]
    show (evOps F [io] S1).getD S = S2
    rw [h3]; rfl
  have hc : (qs.map fun q => (l1.length, q)).all (sameC F (l1 ++ io :: l2) S S3.T) = true := by
    rw [List.all_map, List.all_eq_true]
    intro q hq
    obtain ⟨id, o, k1, k2⟩ := h6.s q hq
    simp only [Function.comp, sameC, k1, t1, t2, k2]
    exact eqbL_self _
  refine ⟨.norm, S3, ?_, h6.k.k⟩
  simp only [evCode, e3, h6.k.a, hc, Bool.and_true, if_true]
theorem w_seq (h : Wp F k a S (seqK F k b K)) : Wp F k (.seq a b) S K := by
  obtain ⟨e, S1, h1, h2⟩ := h.ex
  cases e with
  | norm =>
    obtain ⟨e2, S2, h3, h4⟩ := Wp.ex h2.h
    exact ⟨e2, S2, by simp only [evCode, h1]; exact h3, h4⟩
  | exit id => exact ⟨.exit id, S1, by simp only [evCode, h1], h2.h⟩
  | ret => exact ⟨.ret, S1, by simp only [evCode, h1], h2.h⟩
theorem w_cond {x : X} {t : Bool} (hx : ev S.T x = .bool t) (h1 : t = true → Wp F k a S K) (h2 : t = false → Wp F k b S K) : Wp F k (.cond x a b) S K := by
  cases t with
  | true =>
    obtain ⟨e, S1, h3, h4⟩ := (h1 rfl).ex
    exact ⟨e, S1, by simp only [evCode, hx]; exact h3, h4⟩
  | false =>
    obtain ⟨e, S1, h3, h4⟩ := (h2 rfl).ex
    exact ⟨e, S1, by simp only [evCode, hx]; exact h3, h4⟩
theorem w_cond_true {x : X} (hx : ev S.T x = .bool true) (h : Wp F k a S K) : Wp F k (.cond x a b) S K := w_cond hx (fun _ => h) (fun h => by cases h)
theorem w_cond_false {x : X} (hx : ev S.T x = .bool false) (h : Wp F k b S K) : Wp F k (.cond x a b) S K := w_cond hx (fun h => by cases h) (fun _ => h)
theorem w_block {id : Nat} (h : Wp F k a S (blockK id K)) : Wp F k (.block id a) S K := by
  obtain ⟨e, S1, h1, h2⟩ := h.ex
  cases e with
  | norm => exact ⟨.norm, S1, by simp only [evCode, h1], h2.h⟩
  | ret => exact ⟨.ret, S1, by simp only [evCode, h1], h2.h⟩
  | exit j =>
    have h2 := h2.h
    simp only at h2
    split at h2
    · rename_i hj; exact ⟨.norm, S1, by simp only [evCode, h1]; rw [if_pos hj], h2⟩
    · rename_i hj; exact ⟨.exit j, S1, by simp only [evCode, h1]; rw [if_neg hj], h2⟩
theorem k_norm (h : Wp F k b S K) : seqK F k b K .norm S := ⟨h⟩
theorem k_exit {id : Nat} (h : K (.exit id) S) : seqK F k b K (.exit id) S := ⟨h⟩
theorem k_ret (h : K .ret S) : seqK F k b K .ret S := ⟨h⟩
theorem b_norm {id : Nat} (h : K .norm S) : blockK id K .norm S := ⟨h⟩
theorem b_ret {id : Nat} (h : K .ret S) : blockK id K .ret S := ⟨h⟩
theorem b_exit {id : Nat} (h : K .norm S) : blockK id K (.exit id) S := ⟨by simp only [if_true]; exact h⟩
theorem b_other {id j : Nat} (hj : Nat.beq j id = false) (h : K (.exit j) S) : blockK id K (.exit j) S := ⟨by
  have : j ≠ id := Nat.ne_of_beq_eq_false hj
  simp only [if_neg this]; exact h⟩
def slots : List (Nat × AV) → (Nat → AV) → Nat → AV
  | [], T => T
  | (i, v) :: l, T => upd (slots l T) i v
def objs : List (Nat × List AV) → Hp → Hp
  | [], H => H
  | (i, v) :: l, H => upd (objs l H) i v
def Holds (T : Nat → AV) : List (Nat × AV) → Prop
  | [] => True
  | (i, v) :: l => T i = v ∧ Holds T l
def HoldsO (H : Hp) : List (Nat × List AV) → Prop
  | [] => True
  | (i, v) :: l => H i = v ∧ HoldsO H l
theorem slots_self {T : Nat → AV} : ∀ {l : List (Nat × AV)}, Holds T l → slots l T = T := by
  intro l
  induction l with
  | nil => intro _; rfl
  | cons p l ih =>
    obtain ⟨i, v⟩ := p
    rintro ⟨h1, h2⟩
    simp only [slots, ih h2]
    exact upd_same' _ _ _ h1
theorem objs_self {H : Hp} : ∀ {l : List (Nat × List AV)}, HoldsO H l → objs l H = H := by
  intro l
  induction l with
  | nil => intro _; rfl
  | cons p l ih =>
    obtain ⟨i, v⟩ := p
    rintro ⟨h1, h2⟩
    simp only [objs, ih h2]
    exact upd_same' _ _ _ h1
def Known (ts : List (Nat × AV)) (os : List (Nat × List AV)) (n : Nat) (lv : Nat → Bool) (c : Nat) (S : St) : Prop := ∃ T H E, S = ⟨slots ts T, objs os H, E, n, lv, c⟩
theorem known_of {ts : List (Nat × AV)} {os : List (Nat × List AV)} (h1 : Holds T ts) (h2 : HoldsO H os) : Known ts os n lv c ⟨T, H, E, n, lv, c⟩ := ⟨T, H, E, by rw [slots_self h1, objs_self h2]⟩
theorem known_pop {ts : List (Nat × AV)} {os : List (Nat × List AV)} {n' : Nat} (h1 : Holds (fun t => scrub n (T t)) ts) (h2 : HoldsO (keepH n H) os) : Known ts os n lv c (pop n ⟨T, H, E, n', lv, c⟩) := ⟨fun t => scrub n (T t), keepH n H, E, by rw [slots_self h1, objs_self h2]; rfl⟩
def Ret (fn : IFn) (R : AV) (e : Ex) (S : St) : Prop := (e = .norm ∨ e = .ret) ∧ ∃ vs, resv S.T S.H fn.res = some vs ∧ (leaves (packR vs)).all (finOk S.H 0) = true ∧ (mapLeaf (finCell S.H 0) (packR vs)).under 0 = true ∧
  mapLeaf canonCell (mapLeaf (finCell S.H 0) (packR vs)) = R ∧ R.flat = true
theorem canon_own (one : Bool) (lv : Nat → Bool) (y : AV) : canonCell (ownCell one lv y) = canonCell y := by
  cases y
  case sl br sz xs =>
    simp only [ownCell]
    split
    · rfl
    · rename_i h
      have hb : ¬ br = 1 := by omega
      split
      · simp [canonCell, hb]
      · simp [canonCell, hb, csl]
  all_goals rfl
theorem canon_own' (lv : Nat → Bool) (r : AV) : mapLeaf canonCell (own lv r) = mapLeaf canonCell r := by
  unfold own
  rw [own_comp]
  congr 1
  funext y
  exact canon_own _ _ _
theorem leaf_flat (y : AV) (one : Bool) (lv : Nat → Bool) : (ownCell one lv y).flat = (canonCell y).flat := by
  cases y
  case sl br sz xs =>
    have : (canonCell (.sl br sz xs)).flat = true := by simp only [canonCell]; split <;> rfl
    rw [this]
    simp only [ownCell]
    split
    · simp only [AV.flat]; rw [decide_eq_true_eq]; omega
    · split <;> rfl
  all_goals rfl
theorem flatL_map {f g : AV → AV} (l : List AV) (h : ∀ y, (f y).flat = (g y).flat) : flatL (l.map f) = flatL (l.map g) := by
  induction l with
  | nil => rfl
  | cons x l ih => simp only [List.map_cons, flatL, ih, h]
theorem own_flat (lv : Nat → Bool) (r : AV) : (own lv r).flat = (mapLeaf canonCell r).flat := by
  unfold own
  cases r with
  | agg cs => simp only [mapLeaf, AV.flat]; exact flatL_map cs fun y => leaf_flat y _ _
  | tup vs =>
    simp only [mapLeaf, AV.flat]
    apply flatL_map
    intro y
    cases y
    case agg cs => simp only [AV.flat]; exact flatL_map cs fun y => leaf_flat y _ _
    all_goals exact leaf_flat _ _ _
  | _ => simp only [mapLeaf]; exact leaf_flat _ _ _
theorem call0_of {FN : FuncId → Option FnDef} {f : FuncId} {fn : IFn} {vs : List AV} {R : AV} (hf : FN f = some (.code fn)) (h : Wp (evCall FN k) k fn.body ⟨fun t => vs.getD t (.tup []), fun _ => [], fun _ => none, 0, fun _ => false, 4⟩ (Ret fn R)) : call0 (evCall FN (k + 1)) f vs = some R := by
  obtain ⟨e, S, h1, he, us, h2, h3, h4, h5, h6⟩ := h.ex
  have hfin : finish fn 0 S = some (mapLeaf (finCell S.H 0) (packR us), ⟨trim 0 S.H, 0, S.lv, S.c⟩) := by
    unfold finish
    rw [h2]
    simp only [h3, if_true, h4]
  have hbody : evBody (evCall FN k) k fn vs h0 (fun _ => none) = some (mapLeaf (finCell S.H 0) (packR us), ⟨trim 0 S.H, 0, S.lv, S.c⟩) := by
    unfold evBody
    have h1' : evCode (evCall FN k) k fn.body (entry vs h0 fun _ => none) = some (e, S) := h1
    rw [h1']
    rcases he with rfl | rfl
    · exact hfin
    · exact hfin
  unfold call0 evP
  rw [evCall_code hf, hbody]
  simp only [own_flat, h5, h6, if_true, Option.map_some, canon_own']
end
end Go.Abs

/- The table of a program's functions. No condition. -/
namespace Go.Abs
abbrev Prim := List AV → Hs → (Nat → Option TypeId) → Option (AV × Hs)
def okB (P : Program) (f : FuncId) : Bool := match P.funcs[f]? with
  | some fn => fn.body.isSome && !(fn.name == "runtime.NumGoroutine")
  | none => false
def FNof (P : Program) (hint : FuncId → Hint) (prims : FuncId → Option Prim) (f : FuncId) : Option FnDef := match prims f with
  | some p => some (.prim p)
  | none => if okB P f then (resFn P (hint f) f).map .code else none
theorem okB_enters {P : Program} {f : FuncId} (h : okB P f = true) : Enters P f := by
  unfold okB at h
  split at h
  · rename_i fn hf
    simp only [Bool.and_eq_true, Bool.not_eq_true'] at h
    exact ⟨fn, hf, h.1, h.2⟩
  · cases h
theorem table_of {P : Program} {hint : FuncId → Hint} {prims : FuncId → Option Prim} (h : ∀ f p, prims f = some p → SoundAt P f p) : Table P (FNof P hint prims) := by
  intro f d hd
  unfold FNof at hd
  split at hd
  · rename_i p hp
    simp only [Option.some.injEq] at hd; subst hd
    exact h f p hp
  · split at hd
    · rename_i hok
      obtain ⟨fn, hr, rfl⟩ := map_some' hd
      exact ⟨okB_enters hok, hint f, hr⟩
    · cases hd
end Go.Abs

/- Rules to step through resolved code, with slots and objects as lists: every premise is met by 'rfl' where nothing in it is open. No condition. -/
namespace Go.Abs
def lk : List (Nat × AV) → Nat → Option AV
  | [], _ => none
  | (i, v) :: l, n => match Nat.beq i n with
    | true => some v
    | false => lk l n
def lkO : List (Nat × List AV) → Nat → Option (List AV)
  | [], _ => none
  | (i, v) :: l, n => match Nat.beq i n with
    | true => some v
    | false => lkO l n
def evL (s : List (Nat × AV)) : X → Option AV
  | .t n => lk s n
  | .c v => some v
def subL (xs : List AV) (off : Nat) : Nat → Option (List AV)
  | 0 => some []
  | m + 1 => match xs[off]? with
    | some v => match subL xs (off + 1) m with
      | some r => some (v :: r)
      | none => none
    | none => none
def rdS (xs : List AV) (off sz : Nat) : Bool → Option AV
  | true => match subL xs off sz with
    | some r => some (.agg r)
    | none => none
  | false => match xs[off]? with
    | some v => match v.leaf with
      | true => some v
      | false => none
    | none => none
def setS : List AV → Nat → AV → Option (List AV)
  | [], _, _ => none
  | _ :: l, 0, v => some (v :: l)
  | x :: l, n + 1, v => match setS l n v with
    | some r => some (x :: r)
    | none => none
def spliceS : List AV → Nat → List AV → Option (List AV)
  | z, _, [] => some z
  | z, off, c :: cs => match setS z off c with
    | some z' => spliceS z' (off + 1) cs
    | none => none
def putS (z : List AV) (off sz : Nat) : AV → Option (List AV)
  | .agg cs => match Nat.beq cs.length sz with
    | true => spliceS z off cs
    | false => none
  | .tup _ | .junk => none
  | v => match Nat.beq sz 1 with
    | true => setS z off v
    | false => none
theorem lk_slots {T : Nat → AV} : ∀ {s : List (Nat × AV)} {n : Nat} {v : AV}, lk s n = some v → slots s T n = v := by
  intro s
  induction s with
  | nil => intro n v h; simp [lk] at h
  | cons p s ih =>
    obtain ⟨i, u⟩ := p
    intro n v h
    simp only [lk] at h
    simp only [slots, upd]
    split at h
    · rename_i hb
      simp only [Option.some.injEq] at h
      rw [if_pos (Nat.eq_of_beq_eq_true hb).symm]; exact h
    · rename_i hb
      rw [if_neg (fun h => Nat.ne_of_beq_eq_false hb h.symm)]
      exact ih h
theorem lkO_objs {H : Hp} : ∀ {s : List (Nat × List AV)} {n : Nat} {v : List AV}, lkO s n = some v → objs s H n = v := by
  intro s
  induction s with
  | nil => intro n v h; simp [lkO] at h
  | cons p s ih =>
    obtain ⟨i, u⟩ := p
    intro n v h
    simp only [lkO] at h
    simp only [objs, upd]
    split at h
    · rename_i hb
      simp only [Option.some.injEq] at h
      rw [if_pos (Nat.eq_of_beq_eq_true hb).symm]; exact h
    · rename_i hb
      rw [if_neg (fun h => Nat.ne_of_beq_eq_false hb h.symm)]
      exact ih h
theorem evL_ev {T : Nat → AV} {s : List (Nat × AV)} {x : X} {v : AV} (h : evL s x = some v) : ev (slots s T) x = v := by
  cases x with
  | t n => exact lk_slots h
  | c w => simp only [evL, Option.some.injEq] at h; exact h
theorem subL_eq : ∀ {m off : Nat} {xs r : List AV}, subL xs off m = some r → off + m ≤ xs.length ∧ (xs.drop off).take m = r ∨ m = 0 ∧ r = [] := by
  intro m
  induction m with
  | zero => intro off xs r h; simp only [subL, Option.some.injEq] at h; exact .inr ⟨rfl, h.symm⟩
  | succ m ih =>
    intro off xs r h
    left
    simp only [subL] at h
    split at h
    · rename_i v hv
      split at h
      · rename_i r' hr
        simp only [Option.some.injEq] at h; subst h
        obtain ⟨hlt, hv'⟩ := List.getElem?_eq_some_iff.1 hv
        have hd : xs.drop off = v :: xs.drop (off + 1) := by rw [← hv']; exact List.drop_eq_getElem_cons hlt
        rcases ih hr with ⟨h1, h2⟩ | ⟨h1, h2⟩
        · exact ⟨by omega, by rw [hd, List.take_succ_cons, h2]⟩
        · subst h1; subst h2
          exact ⟨by omega, by rw [hd]; rfl⟩
      · cases h
    · cases h
theorem rdS_rd {xs : List AV} {off sz : Nat} {ag : Bool} {v : AV} (h : rdS xs off sz ag = some v) (h0 : ag = true → off ≤ xs.length) : rd xs off sz ag = some v := by
  cases ag with
  | true =>
    simp only [rdS] at h
    split at h
    · rename_i r hr
      simp only [Option.some.injEq] at h; subst h
      simp only [rd, if_true]
      rcases subL_eq hr with ⟨h1, h2⟩ | ⟨rfl, rfl⟩
      · rw [if_pos h1, h2]
      · rw [if_pos (by have := h0 rfl; omega)]; simp
    · cases h
  | false =>
    simp only [rdS] at h
    simp only [rd, Bool.false_eq_true, if_false]
    split at h
    · rename_i u hu
      rw [hu]
      split at h
      · rename_i hl
        simp only [Option.some.injEq] at h; subst h
        simp only [hl, if_true]
      · cases h
    · cases h
theorem rdS_rd' {xs : List AV} {off sz : Nat} {ag : Bool} {v : AV} (h : rdS xs off sz ag = some v) (h0 : ag = true → sz ≠ 0) : rd xs off sz ag = some v := by
  refine rdS_rd h fun ht => ?_
  subst ht
  simp only [rdS] at h
  split at h
  · rename_i r hr
    rcases subL_eq hr with ⟨h1, _⟩ | ⟨rfl, _⟩
    · omega
    · exact absurd rfl (h0 rfl)
  · cases h
theorem nz_of {ag : Bool} {sz : Nat} (hz : (ag && Nat.beq sz 0) = false) (h : ag = true) : sz ≠ 0 := by
  subst h
  rintro rfl
  cases hz
theorem not_true_false {b : Bool} (h : (!b) = true) : b = false := by cases b <;> simp at h ⊢
theorem setS_eq : ∀ {z : List AV} {off : Nat} {v : AV} {r : List AV}, setS z off v = some r → off < z.length ∧ z.set off v = r := by
  intro z
  induction z with
  | nil => intro off v r h; simp [setS] at h
  | cons x z ih =>
    intro off v r h
    cases off with
    | zero => simp only [setS, Option.some.injEq] at h; exact ⟨by simp, by simpa using h⟩
    | succ off =>
      simp only [setS] at h
      split at h
      · rename_i r' hr
        simp only [Option.some.injEq] at h; subst h
        obtain ⟨h1, h2⟩ := ih hr
        exact ⟨by simp; omega, by simp [h2]⟩
      · cases h
theorem splice_cons {z : List AV} {off : Nat} {c : AV} {cs : List AV} (h : off < z.length) : splice (z.set off c) (off + 1) cs = splice z off (c :: cs) := by
  unfold splice
  rw [List.take_set, List.drop_set]
  have h1 : ¬ (off + 1 + cs.length < off) := by omega
  have h2 : off < off + 1 + cs.length := by omega
  rw [if_pos h2]
  have h3 : (z.take (off + 1)).set off c = z.take off ++ [c] := by
    rw [List.take_succ_eq_append_getElem h, List.set_append_right _ _ (by simp; omega)]
    simp [Nat.min_eq_left (Nat.le_of_lt h)]
  rw [h3]
  simp [show off + 1 + cs.length = off + (cs.length + 1) by omega]
theorem splice_nil (z : List AV) (off : Nat) : splice z off [] = z := by simp [splice]
theorem spliceS_eq : ∀ {cs : List AV} {z : List AV} {off : Nat} {r : List AV}, spliceS z off cs = some r → (off + cs.length ≤ z.length ∨ cs = []) ∧ splice z off cs = r := by
  intro cs
  induction cs with
  | nil => intro z off r h; simp only [spliceS, Option.some.injEq] at h; exact ⟨.inr rfl, by rw [splice_nil]; exact h⟩
  | cons c cs ih =>
    intro z off r h
    simp only [spliceS] at h
    split at h
    · rename_i z' hz
      obtain ⟨h1, rfl⟩ := setS_eq hz
      obtain ⟨h2, h3⟩ := ih h
      rw [splice_cons h1] at h3
      refine ⟨.inl ?_, h3⟩
      rcases h2 with h2 | rfl
      · simp at h2 ⊢; omega
      · simp; omega
    · cases h
theorem putS_eq {z : List AV} {off sz : Nat} {v : AV} {r : List AV} (h : putS z off sz v = some r) (h0 : 0 < sz) : ∃ cs, stored v = some cs ∧ cs.length = sz ∧ off + sz ≤ z.length ∧ put1 z off v = r := by
  cases v
  case agg cs =>
    simp only [putS] at h
    split at h
    · rename_i hb
      have hl := Nat.eq_of_beq_eq_true hb
      obtain ⟨h1, h2⟩ := spliceS_eq h
      refine ⟨cs, rfl, hl, ?_, h2⟩
      rcases h1 with h1 | rfl
      · omega
      · simp at hl; omega
    · cases h
  case tup => simp [putS] at h
  case junk => simp [putS] at h
  all_goals
    simp only [putS] at h
    split at h
    · rename_i hb
      have hl := Nat.eq_of_beq_eq_true hb
      obtain ⟨h1, h2⟩ := setS_eq h
      exact ⟨_, rfl, by simp [hl], by omega, h2⟩
    · cases h
section
variable {F : CallF} {l : List IOper} {s : List (Nat × AV)} {os : List (Nat × List AV)} {T : Nat → AV} {H : Hp} {E : Nat → Option TypeId} {n c : Nat} {lv : Nat → Bool} {Q : St → Prop} {d : Nat} {v a b : AV} {x y : X}
theorem p_mov (hx : evL s x = some v) (k : WpO F l ⟨slots ((d, v) :: s) T, objs os H, E, n, lv, c⟩ Q) : WpO F (⟨some d, .mov x, none⟩ :: l) ⟨slots s T, objs os H, E, n, lv, c⟩ Q :=
  o_eff rfl (by simp only [evOp, evL_ev hx]) k
theorem p_box {t : TypeId} {cs : List AV} (hx : evL s x = some a) (hs : stored a = some cs) (k : ∀ E, WpO F l ⟨slots ((d, .ref n 0) :: s) T, objs ((n, cs) :: os) H, E, n + 1, lv, c⟩ Q) : WpO F (⟨some d, .box t x, none⟩ :: l) ⟨slots s T, objs os H, E, n, lv, c⟩ Q :=
  o_new (v := .ref n 0) (cs := cs) (t := some t) rfl (by simp only [evOp, evL_ev hx, hs]) (k _)
theorem p_new {t : TypeId} {cs : List AV} (k : ∀ E, WpO F l ⟨slots ((d, .ref n 0) :: s) T, objs ((n, cs) :: os) H, E, n + 1, lv, c⟩ Q) : WpO F (⟨some d, .new t cs, none⟩ :: l) ⟨slots s T, objs os H, E, n, lv, c⟩ Q :=
  o_new (v := .ref n 0) (cs := cs) (t := some t) rfl rfl (k _)
theorem p_load {id off sz : Nat} {ag : Bool} {cs : List AV} (hx : evL s x = some (.ref id off)) (ho : lkO os id = some cs) (hr : rdS cs off sz ag = some v) (hz : (ag && Nat.beq sz 0) = false) (k : WpO F l ⟨slots ((d, v) :: s) T, objs os H, E, n, lv, c⟩ Q) :
    WpO F (⟨some d, .load sz ag x, none⟩ :: l) ⟨slots s T, objs os H, E, n, lv, c⟩ Q :=
  o_eff rfl (by simp only [evOp, evL_ev hx, lkO_objs ho, rdS_rd' hr (nz_of hz)]) k
theorem p_load_pp {off sz : Nat} {ag : Bool} {cs : List AV} (hx : evL s x = some (.pp cs off)) (hr : rd cs off sz ag = some v) (k : WpO F l ⟨slots ((d, v) :: s) T, objs os H, E, n, lv, c⟩ Q) :
    WpO F (⟨some d, .load sz ag x, none⟩ :: l) ⟨slots s T, objs os H, E, n, lv, c⟩ Q :=
  o_eff rfl (by simp only [evOp, evL_ev hx, hr]) k
theorem p_load_cp {off sz : Nat} {ag : Bool} {cs : List AV} (hx : evL s x = some (.cp cs off)) (hr : rdS cs off sz ag = some v) (hz : (ag && Nat.beq sz 0) = false) (k : WpO F l ⟨slots ((d, v) :: s) T, objs os H, E, n, lv, c⟩ Q) :
    WpO F (⟨some d, .load sz ag x, none⟩ :: l) ⟨slots s T, objs os H, E, n, lv, c⟩ Q :=
  o_eff rfl (by simp only [evOp, evL_ev hx, rdS_rd' hr (nz_of hz)]) k
theorem p_store {id off sz : Nat} {cs cs' : List AV} {d : Option Nat} (hx : evL s x = some (.ref id off)) (hy : evL s y = some v) (ho : lkO os id = some cs) (hp : putS cs off sz v = some cs') (hz : Nat.blt 0 sz = true) (hd : d = none)
    (k : WpO F l ⟨slots s T, objs ((id, cs') :: os) H, E, n, lv, c⟩ Q) : WpO F (⟨d, .store sz x y, none⟩ :: l) ⟨slots s T, objs os H, E, n, lv, c⟩ Q := by
  subst hd
  obtain ⟨ds, h1, h2, h3, h4⟩ := putS_eq hp (by simpa using hz)
  refine o_wr (id := id) (cs := cs') (v := .tup []) rfl ?_ k
  simp only [evOp, evL_ev hx, evL_ev hy, h1, lkO_objs ho]
  rw [if_pos ⟨h2, h3⟩, h4]
theorem p_bin {op : BinOp} (hx : evL s x = some a) (hy : evL s y = some b) (hb : evBin op a b = some v) (k : WpO F l ⟨slots ((d, v) :: s) T, objs os H, E, n, lv, c⟩ Q) : WpO F (⟨some d, .bin op x y, none⟩ :: l) ⟨slots s T, objs os H, E, n, lv, c⟩ Q :=
  o_eff rfl (by simp only [evOp, evL_ev hx, evL_ev hy, hb]) k
theorem p_un {op : UnOp} (hx : evL s x = some a) (hb : evUn op a = some v) (k : WpO F l ⟨slots ((d, v) :: s) T, objs os H, E, n, lv, c⟩ Q) : WpO F (⟨some d, .un op x, none⟩ :: l) ⟨slots s T, objs os H, E, n, lv, c⟩ Q :=
  o_eff rfl (by simp only [evOp, evL_ev hx, hb]) k
theorem p_conv {k0 k1 : IntKind} {i : Int} (hx : evL s x = some (.int k0 i)) (k : WpO F l ⟨slots ((d, .int k1 (k1.wrap i)) :: s) T, objs os H, E, n, lv, c⟩ Q) : WpO F (⟨some d, .conv k1 x, none⟩ :: l) ⟨slots s T, objs os H, E, n, lv, c⟩ Q :=
  o_eff rfl (by simp only [evOp, evL_ev hx]) k
theorem p_fadd {id o off : Nat} (hx : evL s x = some (.ref id o)) (k : WpO F l ⟨slots ((d, .ref id (o + off)) :: s) T, objs os H, E, n, lv, c⟩ Q) : WpO F (⟨some d, .fadd off x, none⟩ :: l) ⟨slots s T, objs os H, E, n, lv, c⟩ Q :=
  o_eff rfl (by simp only [evOp, evL_ev hx]) k
theorem p_fadd_pp {o off : Nat} {cs : List AV} (hx : evL s x = some (.pp cs o)) (k : WpO F l ⟨slots ((d, .pp cs (o + off)) :: s) T, objs os H, E, n, lv, c⟩ Q) : WpO F (⟨some d, .fadd off x, none⟩ :: l) ⟨slots s T, objs os H, E, n, lv, c⟩ Q :=
  o_eff rfl (by simp only [evOp, evL_ev hx]) k
theorem p_fld {off sz : Nat} {ag : Bool} {cs : List AV} (hx : evL s x = some (.agg cs)) (hr : rdS cs off sz ag = some v) (hz : (ag && Nat.beq sz 0) = false) (k : WpO F l ⟨slots ((d, v) :: s) T, objs os H, E, n, lv, c⟩ Q) : WpO F (⟨some d, .fld off sz ag x, none⟩ :: l) ⟨slots s T, objs os H, E, n, lv, c⟩ Q :=
  o_eff rfl (by simp only [evOp, evL_ev hx, rdS_rd' hr (nz_of hz)]) k
theorem p_ext {i : Nat} {vs : List AV} (hx : evL s x = some (.tup vs)) (hr : vs[i]? = some v) (k : WpO F l ⟨slots ((d, v) :: s) T, objs os H, E, n, lv, c⟩ Q) : WpO F (⟨some d, .ext x i, none⟩ :: l) ⟨slots s T, objs os H, E, n, lv, c⟩ Q :=
  o_eff rfl (by simp only [evOp, evL_ev hx, hr]) k
theorem p_len {br s0 sz : Nat} {xs : List AV} (hx : evL s x = some (.sl br s0 xs)) (hs : s0 = sz ∨ xs = []) (k : WpO F l ⟨slots ((d, .int .i64 ((xs.length / sz : Nat) : Int)) :: s) T, objs os H, E, n, lv, c⟩ Q) : WpO F (⟨some d, .len sz x, none⟩ :: l) ⟨slots s T, objs os H, E, n, lv, c⟩ Q :=
  o_eff rfl (by simp only [evOp, evL_ev hx]; rw [if_pos hs]) k
theorem p_len_osl {id off len s0 sz : Nat} (hx : evL s x = some (.osl id off len s0)) (k : WpO F l ⟨slots ((d, .int .i64 (len : Int)) :: s) T, objs os H, E, n, lv, c⟩ Q) : WpO F (⟨some d, .len sz x, none⟩ :: l) ⟨slots s T, objs os H, E, n, lv, c⟩ Q :=
  o_eff rfl (by simp only [evOp, evL_ev hx]) k
theorem p_lenS {cs : List UInt8} (hx : evL s x = some (.str cs)) (k : WpO F l ⟨slots ((d, .int .i64 (cs.length : Int)) :: s) T, objs os H, E, n, lv, c⟩ Q) : WpO F (⟨some d, .lenS x, none⟩ :: l) ⟨slots s T, objs os H, E, n, lv, c⟩ Q :=
  o_eff rfl (by simp only [evOp, evL_ev hx]) k
theorem inB_of {j : Int} {m : Nat} (h0 : 0 ≤ j) (h1 : j < m) : inB j m = some j.toNat := by unfold inB; rw [if_pos ⟨h0, h1⟩]
theorem p_iaA {m sz id o j : Nat} {kk : IntKind} {i : Int} (hx : evL s x = some (.ref id o)) (hy : evL s y = some (.int kk i)) (hj : inB i m = some j) (k : WpO F l ⟨slots ((d, .ref id (o + j * sz)) :: s) T, objs os H, E, n, lv, c⟩ Q) : WpO F (⟨some d, .iaA m sz x y, none⟩ :: l) ⟨slots s T, objs os H, E, n, lv, c⟩ Q :=
  o_eff rfl (by simp only [evOp, evL_ev hx, evL_ev hy, asI, hj]) k
theorem p_iaA_pp {m sz o j : Nat} {cs : List AV} {kk : IntKind} {i : Int} (hx : evL s x = some (.pp cs o)) (hy : evL s y = some (.int kk i)) (hj : inB i m = some j) (k : WpO F l ⟨slots ((d, .pp cs (o + j * sz)) :: s) T, objs os H, E, n, lv, c⟩ Q) : WpO F (⟨some d, .iaA m sz x y, none⟩ :: l) ⟨slots s T, objs os H, E, n, lv, c⟩ Q :=
  o_eff rfl (by simp only [evOp, evL_ev hx, evL_ev hy, asI, hj]) k
theorem p_fadd_cp {o off : Nat} {cs : List AV} (hx : evL s x = some (.cp cs o)) (k : WpO F l ⟨slots ((d, .cp cs (o + off)) :: s) T, objs os H, E, n, lv, c⟩ Q) : WpO F (⟨some d, .fadd off x, none⟩ :: l) ⟨slots s T, objs os H, E, n, lv, c⟩ Q :=
  o_eff rfl (by simp only [evOp, evL_ev hx]) k
theorem p_nchk_cp {o : Nat} {cs : List AV} (hx : evL s x = some (.cp cs o)) (k : WpO F l ⟨slots ((d, .cp cs o) :: s) T, objs os H, E, n, lv, c⟩ Q) : WpO F (⟨some d, .nchk x, none⟩ :: l) ⟨slots s T, objs os H, E, n, lv, c⟩ Q :=
  o_eff rfl (by simp only [evOp, evL_ev hx]) k
theorem p_s2a {br s0 sz m : Nat} {xs : List AV} (hx : evL s x = some (.sl br s0 xs)) (hc : s0 = sz ∧ 0 < m ∧ 0 < sz ∧ m * sz ≤ xs.length) (k : WpO F l ⟨slots ((d, .pp xs 0) :: s) T, objs os H, E, n, lv, c⟩ Q) : WpO F (⟨some d, .s2a m sz x, none⟩ :: l) ⟨slots s T, objs os H, E, n, lv, c⟩ Q :=
  o_eff rfl (by simp only [evOp, evL_ev hx, if_pos hc]) k
theorem p_s2a_osl {id off len s0 sz m : Nat} (hx : evL s x = some (.osl id off len s0)) (hc : s0 = sz ∧ 0 < m ∧ m ≤ len) (k : WpO F l ⟨slots ((d, .ref id off) :: s) T, objs os H, E, n, lv, c⟩ Q) : WpO F (⟨some d, .s2a m sz x, none⟩ :: l) ⟨slots s T, objs os H, E, n, lv, c⟩ Q :=
  o_eff rfl (by simp only [evOp, evL_ev hx, if_pos hc]) k
theorem p_iaS {br s0 sz j : Nat} {xs : List AV} {kk : IntKind} {i : Int} (hx : evL s x = some (.sl br s0 xs)) (hy : evL s y = some (.int kk i)) (hs : s0 = sz ∨ xs = []) (hj : inB i (xs.length / sz) = some j) (k : WpO F l ⟨slots ((d, .pp xs (j * sz)) :: s) T, objs os H, E, n, lv, c⟩ Q) : WpO F (⟨some d, .iaS sz x y, none⟩ :: l) ⟨slots s T, objs os H, E, n, lv, c⟩ Q :=
  o_eff rfl (by simp only [evOp, evL_ev hx, evL_ev hy, asI]; rw [if_pos hs, hj]) k
theorem p_iaS_osl {id off len sz j : Nat} {kk : IntKind} {i : Int} (hx : evL s x = some (.osl id off len sz)) (hy : evL s y = some (.int kk i)) (hj : inB i len = some j) (k : WpO F l ⟨slots ((d, .ref id (off + j * sz)) :: s) T, objs os H, E, n, lv, c⟩ Q) : WpO F (⟨some d, .iaS sz x y, none⟩ :: l) ⟨slots s T, objs os H, E, n, lv, c⟩ Q :=
  o_eff rfl (by simp only [evOp, evL_ev hx, evL_ev hy, asI, if_true, hj]) k
theorem p_ixS {l0 : List UInt8} {u : UInt8} {kk : IntKind} {i : Int} (hx : evL s x = some (.str l0)) (hy : evL s y = some (.int kk i)) (h0 : 0 ≤ i) (hj : l0[i.toNat]? = some u) (k : WpO F l ⟨slots ((d, ofB u) :: s) T, objs os H, E, n, lv, c⟩ Q) : WpO F (⟨some d, .ixS x y, none⟩ :: l) ⟨slots s T, objs os H, E, n, lv, c⟩ Q :=
  o_eff rfl (by simp only [evOp, evL_ev hx, evL_ev hy, asI]; rw [if_pos h0, hj]) k
def canonS : AV → Option AV
  | .sl br sz xs => match Nat.beq br 1 with
    | true => some (.sl 1 sz xs)
    | false => some (csl sz xs)
  | v => some v
def canonLs : List AV → Option (List AV)
  | [] => some []
  | v :: l => match canonS v with
    | some u => match canonLs l with
      | some r => some (u :: r)
      | none => none
    | none => none
def shareS : AV → Option AV
  | .agg cs => match canonLs cs with
    | some r => some (.agg r)
    | none => none
  | v => canonS v
theorem canonS_eq {v u : AV} (h : canonS v = some u) : canonCell v = u := by
  cases v
  case sl br sz xs =>
    simp only [canonS] at h
    simp only [canonCell]
    split at h
    · rename_i hb
      simp only [Option.some.injEq] at h
      rw [if_pos (Nat.eq_of_beq_eq_true hb)]; exact h
    · rename_i hb
      simp only [Option.some.injEq] at h
      rw [if_neg (Nat.ne_of_beq_eq_false hb)]; exact h
  all_goals (simp only [canonS, Option.some.injEq] at h; exact h)
theorem canonLs_eq : ∀ {l r : List AV}, canonLs l = some r → l.map canonCell = r := by
  intro l
  induction l with
  | nil => intro r h; simp only [canonLs, Option.some.injEq] at h; subst h; rfl
  | cons v l ih =>
    intro r h
    simp only [canonLs] at h
    split at h
    · rename_i u hu
      split at h
      · rename_i r' hr
        simp only [Option.some.injEq] at h; subst h
        simp only [List.map_cons, canonS_eq hu, ih hr]
      · cases h
    · cases h
theorem shareS_eq {v u : AV} (h : shareS v = some u) : v.share = u := by
  cases v
  case agg cs =>
    simp only [shareS] at h
    split at h
    · rename_i r hr
      simp only [Option.some.injEq] at h; subst h
      simp only [AV.share, canonLs_eq hr]
    · cases h
  all_goals (simp only [shareS] at h; exact canonS_eq h)
def shS : Bool → AV → Option AV
  | true, v => shareS v
  | false, v => some v
theorem shS_eq {b : Bool} {v u : AV} (h : shS b v = some u) : (if b = true then v.share else v) = u := by
  cases b
  · simp only [shS, Option.some.injEq] at h; simp [h]
  · rw [if_pos rfl]; exact shareS_eq h
def buildS (s : List (Nat × AV)) (sh : Bool) (z : List AV) : List (Nat × Nat × X) → Option (List AV)
  | [] => some z
  | (off, sz, x) :: ps => match evL s x with
    | some v => match shS sh v with
      | some u => match putS z off sz u with
        | some z' => buildS s sh z' ps
        | none => none
      | none => none
    | none => none
theorem buildS_fill {sh : Bool} : ∀ {ps : List (Nat × Nat × X)} {z r : List AV}, buildS s sh z ps = some r → (ps.all fun p => Nat.blt 0 p.2.1) = true → fill (slots s T) sh z ps = some r := by
  intro ps
  induction ps with
  | nil => intro z r h _; simpa [buildS, fill] using h
  | cons p ps ih =>
    obtain ⟨off, sz, x⟩ := p
    intro z r h hz
    simp only [List.all_cons, Bool.and_eq_true] at hz
    simp only [buildS] at h
    split at h
    · rename_i u hu
      split at h
      · rename_i w hw
        split at h
        · rename_i z' hp
          obtain ⟨cs, h1, h2, h3, h4⟩ := putS_eq hp (by simpa using hz.1)
          simp only [fill, evL_ev hu, shS_eq hw, h1]
          rw [if_pos ⟨h2, h3⟩, h4]
          exact ih h hz.2
        · cases h
      · cases h
    · cases h
theorem p_build {z r : List AV} {ps : List (Nat × Nat × X)} (hb : buildS s false z ps = some r) (hz : (ps.all fun p => Nat.blt 0 p.2.1) = true) (k : WpO F l ⟨slots ((d, .agg r) :: s) T, objs os H, E, n, lv, c⟩ Q) : WpO F (⟨some d, .build z ps, none⟩ :: l) ⟨slots s T, objs os H, E, n, lv, c⟩ Q :=
  o_eff rfl (by simp only [evOp, buildS_fill hb hz]) k
theorem p_bsl {z r : List AV} {sz : Nat} {ps : List (Nat × Nat × X)} (hb : buildS s true z ps = some r) (hz : (ps.all fun p => Nat.blt 0 p.2.1) = true) (hf : flatL r = true) (h0 : Nat.blt 0 sz = true) (hm : Nat.beq (r.length % sz) 0 = true) (k : WpO F l ⟨slots ((d, .sl 3 sz r) :: s) T, objs os H, E, n, lv, c⟩ Q) :
    WpO F (⟨some d, .bsl false sz z ps, none⟩ :: l) ⟨slots s T, objs os H, E, n, lv, c⟩ Q :=
  o_eff rfl (by
    have h1 : 0 < sz := by simpa using h0
    have h2 := Nat.eq_of_beq_eq_true hm
    simp only [evOp, buildS_fill hb hz, hf, h2, h1, decide_true, Bool.and_self, if_true, Bool.false_eq_true, if_false]) k
def argsS (s : List (Nat × AV)) : List X → Option (List AV)
  | [] => some []
  | x :: xs => match evL s x with
    | some v => match shareS v with
      | some u => match argsS s xs with
        | some r => some (u :: r)
        | none => none
      | none => none
    | none => none
theorem argsS_eq : ∀ {xs : List X} {r : List AV}, argsS s xs = some r → (xs.map fun x => (ev (slots s T) x).share) = r := by
  intro xs
  induction xs with
  | nil => intro r h; simp only [argsS, Option.some.injEq] at h; simp [h]
  | cons x xs ih =>
    intro r h
    simp only [argsS] at h
    split at h
    · rename_i u hu
      split at h
      · rename_i w hw
        split at h
        · rename_i r' hr
          simp only [Option.some.injEq] at h; subst h
          simp only [List.map_cons, evL_ev hu, shareS_eq hw, ih hr]
        · cases h
      · cases h
    · cases h
theorem p_call {f : FuncId} {xs : List X} {args : List AV} {R : AV} (ha : argsS s xs = some args) (hf : flatL args = true) (hc : Calls0 F f args R) (k : WpO F l ⟨slots ((d, R) :: s) T, objs os H, E, n, lv, c⟩ Q) : WpO F (⟨some d, .callp 0 f xs, none⟩ :: l) ⟨slots s T, objs os H, E, n, lv, c⟩ Q :=
  o_call (argsS_eq ha) hf hc.eq k
theorem p_pick_bool {u w t : Bool} {z : X} (hx : evL s x = some (.bool t)) (hy : evL s y = some (.bool u)) (hz : evL s z = some (.bool w)) (k : WpO F l ⟨slots ((d, .bool (bif t then u else w)) :: s) T, objs os H, E, n, lv, c⟩ Q) : WpO F (⟨some d, .pick x y z, none⟩ :: l) ⟨slots s T, objs os H, E, n, lv, c⟩ Q :=
  o_eff rfl (by cases t <;> simp only [evOp, evL_ev hx, evL_ev hy, evL_ev hz, cond_true, cond_false]) k
theorem p_pick_true {z : X} (hx : evL s x = some (.bool true)) (hy : evL s y = some v) (k : WpO F l ⟨slots ((d, v) :: s) T, objs os H, E, n, lv, c⟩ Q) : WpO F (⟨some d, .pick x y z, none⟩ :: l) ⟨slots s T, objs os H, E, n, lv, c⟩ Q :=
  o_eff rfl (by simp only [evOp, evL_ev hx, evL_ev hy]) k
theorem p_pick_false {z : X} (hx : evL s x = some (.bool false)) (hy : evL s z = some v) (k : WpO F l ⟨slots ((d, v) :: s) T, objs os H, E, n, lv, c⟩ Q) : WpO F (⟨some d, .pick x y z, none⟩ :: l) ⟨slots s T, objs os H, E, n, lv, c⟩ Q :=
  o_eff rfl (by simp only [evOp, evL_ev hx, evL_ev hy]) k
theorem p_eq {neg : Bool} {kd : Nat} {r : Bool} (hx : evL s x = some a) (hy : evL s y = some b) (hr : eqK kd a b = some r) (k : WpO F l ⟨slots ((d, .bool (if neg then !r else r)) :: s) T, objs os H, E, n, lv, c⟩ Q) : WpO F (⟨some d, .eq neg kd x y, none⟩ :: l) ⟨slots s T, objs os H, E, n, lv, c⟩ Q :=
  o_eff rfl (by simp only [evOp, evL_ev hx, evL_ev hy, hr]) k
variable {op : IOp} {dd : Option Nat}
theorem p_guard_yes {t : Nat} {w : Bool} (hg : lk s t = some (.bool w)) (k : WpO F (⟨dd, op, none⟩ :: l) ⟨slots s T, objs os H, E, n, lv, c⟩ Q) : WpO F (⟨dd, op, some (t, w)⟩ :: l) ⟨slots s T, objs os H, E, n, lv, c⟩ Q := o_guard_yes (lk_slots hg) k
theorem p_guard_no {t : Nat} {w b : Bool} (hg : lk s t = some (.bool b)) (hb : (b == w) = false) (k : WpO F l ⟨slots ((d, .tup []) :: s) T, objs os H, E, n, lv, c⟩ Q) : WpO F (⟨some d, op, some (t, w)⟩ :: l) ⟨slots s T, objs os H, E, n, lv, c⟩ Q := o_guard_no (lk_slots hg) hb k
theorem p_guard_skip {t : Nat} {w : Bool} (hg : lk s t = some (.tup [])) (k : WpO F l ⟨slots ((d, .tup []) :: s) T, objs os H, E, n, lv, c⟩ Q) : WpO F (⟨some d, op, some (t, w)⟩ :: l) ⟨slots s T, objs os H, E, n, lv, c⟩ Q := o_guard_skip (lk_slots hg) k
theorem p_guard {t : Nat} {w b : Bool} (hg : lk s t = some (.bool b)) (h1 : b = w → WpO F (⟨dd, op, none⟩ :: l) ⟨slots ((t, .bool w) :: s) T, objs os H, E, n, lv, c⟩ Q) (h2 : b = !w → WpO F (⟨dd, op, some (t, w)⟩ :: l) ⟨slots ((t, .bool (!w)) :: s) T, objs os H, E, n, lv, c⟩ Q) :
    WpO F (⟨dd, op, some (t, w)⟩ :: l) ⟨slots s T, objs os H, E, n, lv, c⟩ Q := by
  have hs : ∀ u, b = u → slots ((t, .bool u) :: s) T = slots s T := fun u hu => upd_same' _ _ _ (by rw [lk_slots hg, hu])
  by_cases hb : b = w
  · have := h1 hb
    rw [hs w hb] at this
    exact o_guard_yes (by rw [lk_slots hg, hb]) this
  · have hb' : b = !w := by cases b <;> cases w <;> simp_all
    have := h2 hb'
    rwa [hs _ hb'] at this
end
section
variable {F : CallF} {k : Nat} {s : List (Nat × AV)} {os : List (Nat × List AV)} {T : Nat → AV} {H : Hp} {E : Nat → Option TypeId} {n c : Nat} {lv : Nat → Bool} {K : Ex → St → Prop} {a b : IC} {x : X}
theorem q_cond {t : Bool} (hx : evL s x = some (.bool t)) (h1 : t = true → Wp F k a ⟨slots s T, objs os H, E, n, lv, c⟩ K) (h2 : t = false → Wp F k b ⟨slots s T, objs os H, E, n, lv, c⟩ K) : Wp F k (.cond x a b) ⟨slots s T, objs os H, E, n, lv, c⟩ K := w_cond (evL_ev hx) h1 h2
theorem q_cond_true (hx : evL s x = some (.bool true)) (h : Wp F k a ⟨slots s T, objs os H, E, n, lv, c⟩ K) : Wp F k (.cond x a b) ⟨slots s T, objs os H, E, n, lv, c⟩ K := w_cond_true (evL_ev hx) h
theorem q_cond_false (hx : evL s x = some (.bool false)) (h : Wp F k b ⟨slots s T, objs os H, E, n, lv, c⟩ K) : Wp F k (.cond x a b) ⟨slots s T, objs os H, E, n, lv, c⟩ K := w_cond_false (evL_ev hx) h
def resS (s : List (Nat × AV)) (os : List (Nat × List AV)) : List IRes → Option (List AV)
  | [] => some []
  | .t n :: rs => match lk s n with
    | some v => match resS s os rs with
      | some r => some (v :: r)
      | none => none
    | none => none
  | .cell n sz ag :: rs => match lk s n with
    | some (.ref id off) => match lkO os id with
      | some cs => match rdS cs off sz ag with
        | some v => match resS s os rs with
          | some r => some (v :: r)
          | none => none
        | none => none
      | none => none
    | _ => none
theorem resS_eq : ∀ {rs : List IRes} {r : List AV}, resS s os rs = some r → (rs.all fun | .cell _ sz ag => !(ag && Nat.beq sz 0) | _ => true) = true → resv (slots s T) (objs os H) rs = some r := by
  intro rs
  induction rs with
  | nil => intro r h _; simpa [resS, resv] using h
  | cons q rs ih =>
    intro r h hz
    simp only [List.all_cons, Bool.and_eq_true] at hz
    cases q with
    | t n =>
      simp only [resS] at h
      split at h
      · rename_i v hv
        split at h
        · rename_i r' hr
          simp only [Option.some.injEq] at h; subst h
          simp only [resv, ih hr hz.2, lk_slots hv]
        · cases h
      · cases h
    | cell n sz ag =>
      simp only [resS] at h
      split at h
      · rename_i id off hv
        split at h
        · rename_i cs hcs
          split at h
          · rename_i v hrd
            split at h
            · rename_i r' hr
              simp only [Option.some.injEq] at h; subst h
              simp only [resv, lk_slots hv, lkO_objs hcs, ih hr hz.2]
              rw [rdS_rd' hrd (nz_of (not_true_false hz.1))]
            · cases h
          · cases h
        · cases h
      · cases h
theorem q_ret {fn : IFn} {R : AV} {e : Ex} {us : List AV} (he : e = .norm ∨ e = .ret) (h1 : resS s os fn.res = some us) (hz : (fn.res.all fun | .cell _ sz ag => !(ag && Nat.beq sz 0) | _ => true) = true) (h2 : (leaves (packR us)).all (finOk (objs os H) 0) = true) (h3 : (mapLeaf (finCell (objs os H) 0) (packR us)).under 0 = true)
    (h4 : mapLeaf canonCell (mapLeaf (finCell (objs os H) 0) (packR us)) = R) (h5 : R.flat = true) : Ret fn R e ⟨slots s T, objs os H, E, n, lv, c⟩ := ⟨he, us, resS_eq h1 hz, h2, h3, h4, h5⟩
def argSlots : Nat → List AV → List (Nat × AV)
  | _, [] => []
  | i, v :: vs => (i, v) :: argSlots (i + 1) vs
theorem argSlots_get (vs : List AV) : ∀ (i t : Nat), slots (argSlots i vs) (fun t => .tup []) t = if t < i then .tup [] else vs.getD (t - i) (.tup []) := by
  induction vs with
  | nil => intro i t; simp [argSlots, slots]
  | cons v vs ih =>
    intro i t
    simp only [argSlots, slots, upd, ih (i + 1)]
    by_cases h1 : t = i
    · subst h1; simp
    · rw [if_neg h1]
      by_cases h2 : t < i
      · rw [if_pos h2, if_pos (by omega)]
      · rw [if_neg h2, if_neg (by omega), show t - i = (t - (i + 1)) + 1 by omega]
        simp
theorem q_call0 {FN : FuncId → Option FnDef} {f : FuncId} {fn : IFn} {vs : List AV} {R : AV} (hf : FN f = some (.code fn)) (h : ∀ (T : Nat → AV) (H : Hp) (E : Nat → Option TypeId) (lv : Nat → Bool), Wp (evCall FN k) k fn.body ⟨slots (argSlots 0 vs) T, objs [] H, E, 0, lv, 4⟩ (Ret fn R)) : Calls0 (evCall FN (k + 1)) f vs R := by
  refine ⟨call0_of hf ?_⟩
  have := h (fun _ => .tup []) (fun _ => []) (fun _ => none) (fun _ => false)
  have he : slots (argSlots 0 vs) (fun _ => .tup []) = fun t => vs.getD t (.tup []) := by
    funext t
    rw [argSlots_get]; simp
  rw [he] at this
  exact this
end
theorem csz_ok (sz : Nat) (xs : List AV) : csz sz xs = sz ∨ xs = [] := by cases xs <;> simp [csz]
end Go.Abs

/- More fuel, and more of a table, changes no answer. No condition. -/
namespace Go.Abs
def LeY (y y' : Yield) : Prop := ∀ vs hs E r, y vs hs E = some r → y' vs hs E = some r
def LeEnv (e e' : Env) : Prop := ∀ id y, e id = some y → ∃ y', e' id = some y' ∧ LeY y y'
def LeFf (g g' : Env → CallF0) : Prop := ∀ e e', LeEnv e e' → ∀ f vs hs E r, g e f vs hs E = some r → g' e' f vs hs E = some r
structure LeF (F F' : CallF) : Prop where
  env : LeEnv F.env F'.env
  ff : LeFf F.ff F'.ff
theorem LeF.call {F F' : CallF} (h : LeF F F') : ∀ f vs hs E r, F f vs hs E = some r → F' f vs hs E = some r := h.ff _ _ h.env
theorem LeEnv.refl (e : Env) : LeEnv e e := fun _ y h => ⟨y, h, fun _ _ _ _ h => h⟩
theorem LeEnv.low {e e' : Env} (h : LeEnv e e') (n : Nat) : LeEnv (lowE n e) (lowE n e') := fun id y hy => by
  unfold lowE at hy ⊢
  split at hy
  · rename_i hid
    rw [if_pos hid]; exact h id y hy
  · cases hy
theorem LeF.ext {F F' : CallF} (h : LeF F F') {i : Nat} {y y' : Yield} (hy : LeY y y') : LeF (F.ext i y) (F'.ext i y') := ⟨fun id z hz => by
  simp only [CallF.ext, upd] at hz ⊢
  split at hz
  · rename_i hid
    cases hz
    rw [if_pos hid]; exact ⟨y', rfl, hy⟩
  · rename_i hid
    rw [if_neg hid]; exact h.env id z hz, h.ff⟩
theorem roundY_le {ea eb ea' eb' : St → Option (Ex × St)} (ha : ∀ S r, ea S = some r → ea' S = some r) (hb : ∀ S r, eb S = some r → eb' S = some r) (T : Nat → AV) (ps : List Nat) (i : Nat) : LeY (roundY ea eb T ps i) (roundY ea' eb' T ps i) := by
  rintro vs hs E ⟨r, hs'⟩ h
  obtain ⟨h0, hl, hi, S1, e, S2, h1, h2, h3, rfl, rfl⟩ := roundY_inv h
  have k1 := ha _ _ h1
  have k3 := hb _ _ h3
  unfold roundY
  rw [h0]
  simp only [stOf, hl, hi, and_self, if_true]
  rw [k1]
  simp only []
  rw [h2]
  simp only [stOf]
  simp only [stOf] at k3
  rw [k3]
section
variable {F F' : CallF}
theorem evP_mono (h : LeF F F') {f : FuncId} {vs : List AV} {r : AV} (he : evP F f vs = some r) : evP F' f vs = some r := by
  unfold evP at he ⊢
  split at he
  · rename_i r0 hs h1
    rw [h.call f vs h0 _ _ h1]; exact he
  · cases he
theorem evCallOp_mono (h : LeF F F') {T : Nat → AV} {H : Hp} {E : Nat → Option TypeId} {lv : Nat → Bool} {n c : Nat} {op : IOp} {s : Stepd} (he : evCallOp F T H E lv n c op = some s) : evCallOp F' T H E lv n c op = some s := by
  cases op
  case callp m f args =>
    simp only [evCallOp] at he ⊢
    split at he
    · rename_i hfl
      rw [if_pos hfl]
      split at he
      · rename_i r hr
        rw [evP_mono h hr]; exact he
      · cases he
    · cases he
  case calln f args =>
    simp only [evCallOp] at he ⊢
    split at he
    · rename_i hfl
      rw [if_pos hfl]
      split at he
      · rename_i r hr
        rw [evP_mono h hr]; exact he
      · cases he
    · cases he
  case calls f args =>
    simp only [evCallOp] at he ⊢
    split at he
    · rename_i v hs hr
      rw [h.call _ _ _ _ _ hr]; exact he
    · cases he
  case callv x args =>
    simp only [evCallOp] at he ⊢
    split at he
    · split at he
      · rename_i v hs hr
        rw [h.call _ _ _ _ _ hr]; exact he
      · cases he
    · split at he
      · rename_i y hy
        obtain ⟨y', hy', hle⟩ := h.env _ y hy
        rw [hy']
        split at he
        · rename_i v hs hr
          simp only [hle _ _ _ _ hr]; exact he
        · cases he
      · cases he
    · cases he
  all_goals (simp [evCallOp] at he)
theorem evAny_mono (h : LeF F F') {T : Nat → AV} {H : Hp} {E : Nat → Option TypeId} {lv : Nat → Bool} {n c : Nat} {op : IOp} {s : Stepd} (he : evAny F T H E lv n c op = some s) : evAny F' T H E lv n c op = some s := by
  unfold evAny at he ⊢
  split at he
  · rename_i hc; rw [if_pos hc]; exact evCallOp_mono h he
  · rename_i hc; rw [if_neg hc]; exact he
theorem evStep_mono (h : LeF F F') {io : IOper} {S S' : St} (he : evStep F io S = some S') : evStep F' io S = some S' := by
  rw [evStep_eq] at he ⊢
  split at he
  · cases he
  · rename_i hw; exact he
  · rename_i hw
    obtain ⟨s, hs, rfl⟩ := map_some' he
    simp only [evAny_mono h hs, Option.map_some]
theorem evOps_mono (h : LeF F F') : ∀ {l : List IOper} {S S' : St}, evOps F l S = some S' → evOps F' l S = some S' := by
  intro l
  induction l with
  | nil => intro S S' he; exact he
  | cons io l ih =>
    intro S S' he
    rw [evOps_cons] at he ⊢
    obtain ⟨S1, h1, h2⟩ := Option.bind_eq_some_iff.1 he
    rw [evStep_mono h h1]
    exact ih h2
theorem evCode_mono (h : LeF F F') {k k' : Nat} (hk : k ≤ k') : ∀ (c : IC) {S : St} {r : Ex × St}, evCode F k c S = some r → evCode F' k' c S = some r := by
  intro c
  induction c with
  | skip => intro S r he; exact he
  | ops d l =>
    intro S r he
    simp only [evCode] at he ⊢
    split at he
    · rename_i S1 h1
      rw [evOps_mono h h1]; exact he
    · cases he
  | opsX l ps =>
    intro S r he
    simp only [evCode] at he ⊢
    split at he
    · rename_i S1 h1
      rw [evOps_mono h h1]; exact he
    · cases he
  | opsC l ps cs =>
    intro S r he
    simp only [evCode] at he ⊢
    split at he
    · rename_i S1 h1
      rw [evOps_mono h h1]
      have hx : ∀ j, Sx F' l S j = Sx F l S j := fun j => by
        unfold Sx
        obtain ⟨Sj, hj, _⟩ := evOps_take h1 j
        rw [hj, evOps_mono h hj]
      have hs : sameC F' l S S1.T = sameC F l S S1.T := by funext p; simp only [sameC, hx]
      rw [← hs] at he
      exact he
    · cases he
  | seq a b iha ihb =>
    intro S r he
    simp only [evCode] at he ⊢
    split at he
    · rename_i S1 h1
      rw [iha h1]; exact ihb he
    · rename_i h1
      cases hq : evCode F k a S with
      | none => rw [hq] at he; cases he
      | some q =>
        obtain ⟨e, S1⟩ := q
        rw [hq] at he
        simp only [Option.some.injEq] at he
        rw [iha hq]
        cases e with
        | norm => exact absurd hq (h1 S1)
        | exit id => subst he; rfl
        | ret => subst he; rfl
  | cond x a b iha ihb =>
    intro S r he
    simp only [evCode] at he ⊢
    split at he
    · exact iha he
    · exact ihb he
    · cases he
  | block id a ih =>
    intro S r he
    simp only [evCode] at he ⊢
    cases hq : evCode F k a S with
    | none => rw [hq] at he; cases he
    | some q =>
      rw [hq] at he
      rw [ih hq]; exact he
  | loop a ih =>
    intro S r he
    simp only [evCode] at he ⊢
    have key : ∀ (n m m' : Nat) (S : St), m ≤ m' → evLoop (evCode F k a) n m S = some r → evLoop (evCode F' k' a) n m' S = some r := by
      intro n m
      induction m with
      | zero => intro m' S _ hl; simp [evLoop] at hl
      | succ m ihm =>
        intro m' S hm hl
        obtain ⟨j, rfl⟩ : ∃ j, m' = j + 1 := ⟨m' - 1, by omega⟩
        simp only [evLoop] at hl ⊢
        cases hq : evCode F k a S with
        | none => rw [hq] at hl; cases hl
        | some q =>
          rw [hq] at hl
          rw [ih hq]
          obtain ⟨e, S1⟩ := q
          cases e with
          | norm => exact ihm j _ (by omega) hl
          | exit id => exact hl
          | ret => exact hl
    exact key S.n k k' S hk he
  | rangeF x ps a b iha ihb =>
    rintro S ⟨e, S'⟩ he
    obtain ⟨g, fs, cs, v0, hs1, st, h1, h2, h3, h4, rfl⟩ := rangeF_inv he
    have k2 := (h.ext (roundY_le (fun S r => iha (S := S) (r := r)) (fun S r => ihb (S := S) (r := r)) S.T ps S.n)).call _ _ _ _ _ h2
    simp only [evCode, h1, CallF.call] at k2 ⊢
    rw [show (F'.ext S.n (roundY (evCode F' k' a) (evCode F' k' b) S.T ps S.n)).ff (F'.ext S.n (roundY (evCode F' k' a) (evCode F' k' b) S.T ps S.n)).env g (fs ++ (.yl S.n :: cs)) ⟨upd S.H S.n (stOf 0), S.n + 1, S.lv, S.c⟩ (upd S.E S.n none) = some (v0, hs1) from k2]
    simp only [h3, stOf, h4]
  | exit id => intro S r he; exact he
  | ret => intro S r he; exact he
  | bad => intro S r he; simp [evCode] at he
theorem evCallE_mono {FN FN' : FuncId → Option FnDef} (h : ∀ f d, FN f = some d → FN' f = some d) : ∀ (k k' : Nat), k ≤ k' → LeFf (evCallE FN k) (evCallE FN' k') := by
  intro k
  induction k with
  | zero => intro k' _ e e' _ f vs hs E r he; rw [evCallE_zero] at he; cases he
  | succ k ih =>
    intro k' hk env env' henv f vs hs E r he
    obtain ⟨j, rfl⟩ : ∃ j, k' = j + 1 := ⟨k' - 1, by omega⟩
    cases hf : FN f with
    | none => rw [evCallE_none hf] at he; cases he
    | some d =>
      have hf' := h f d hf
      cases d with
      | prim p => rw [evCallE_prim hf] at he; rw [evCallE_prim hf']; exact he
      | code fn =>
        rw [evCallE_code hf] at he
        rw [evCallE_code hf']
        simp only [evBody] at he ⊢
        cases hq : evCode ⟨evCallE FN k, lowE hs.n env⟩ k fn.body (entry vs hs E) with
        | none => rw [hq] at he; cases he
        | some q =>
          rw [hq] at he
          rw [evCode_mono ⟨henv.low hs.n, ih j (by omega)⟩ (by omega) fn.body hq]
          exact he
theorem evCall_le {FN FN' : FuncId → Option FnDef} (h : ∀ f d, FN f = some d → FN' f = some d) (k k' : Nat) (hk : k ≤ k') : LeF (evCall FN k) (evCall FN' k') := ⟨LeEnv.refl _, evCallE_mono h k k' hk⟩
theorem evCall_mono {FN FN' : FuncId → Option FnDef} (h : ∀ f d, FN f = some d → FN' f = some d) (k k' : Nat) (hk : k ≤ k') : LeF (evCall FN k) (evCall FN' k') := evCall_le h k k' hk
theorem call0_mono (h : LeF F F') {f : FuncId} {vs : List AV} {R : AV} (he : call0 F f vs = some R) : call0 F' f vs = some R := by
  unfold call0 at he ⊢
  obtain ⟨r, h1, rfl⟩ := map_some' he
  rw [evP_mono h h1]; rfl
theorem Calls0.fuel {FN : FuncId → Option FnDef} {k k' : Nat} {f : FuncId} {vs : List AV} {R : AV} (he : Calls0 (evCall FN k) f vs R) (hk : k ≤ k') : Calls0 (evCall FN k') f vs R :=
  ⟨call0_mono (evCall_mono (fun _ _ h => h) k k' hk) he.eq⟩
end
end Go.Abs

/- Rules for slice expressions, appends, copies and shared calls; facts about single operations. No condition. -/
namespace Go.Abs
def asB (i : Int) (y : Nat) : Option Nat := if 0 ≤ i ∧ i ≤ y then some i.toNat else none
theorem asB_of {i : Int} {y : Nat} (h0 : 0 ≤ i) (h1 : i ≤ y) : asB i y = some i.toNat := by unfold asB; rw [if_pos ⟨h0, h1⟩]
def bL (s : List (Nat × AV)) (x : Option X) (d y : Nat) : Option Nat := match x with
  | none => some d
  | some x => match evL s x with
    | some (.int _ i) => asB i y
    | _ => none
section
variable {F : CallF} {l : List IOper} {s : List (Nat × AV)} {os : List (Nat × List AV)} {T : Nat → AV} {H : Hp} {E : Nat → Option TypeId} {n c : Nat} {lv : Nat → Bool} {Q : St → Prop} {d : Nat} {v a b : AV} {x y : X} {lo hi mx : Option X}
theorem bL_bnd {x : Option X} {d y r : Nat} (h : bL s x d y = some r) : bnd (slots s T) x d y = some r := by
  cases x with
  | none => exact h
  | some x =>
    simp only [bL] at h
    split at h
    · rename_i k i hi
      simp only [bnd, evL_ev hi, asI]
      exact h
    · cases h
theorem bnds_of {len p q m : Nat} (h1 : bL s mx len len = some m) (h2 : bL s hi len m = some q) (h3 : bL s lo 0 q = some p) : bnds (slots s T) len lo hi mx = some (p, q, m) := by
  rw [bnds_eq, bL_bnd h1]
  simp only [bL_bnd h2, bL_bnd h3]
theorem p_convA {k0 k1 : IntKind} {i j : Int} (hx : evL s x = some (.int k0 i)) (hw : k1.wrap i = j) (k : WpO F l ⟨slots ((d, .int k1 j) :: s) T, objs os H, E, n, lv, c⟩ Q) : WpO F (⟨some d, .conv k1 x, none⟩ :: l) ⟨slots s T, objs os H, E, n, lv, c⟩ Q :=
  o_eff rfl (by simp only [evOp, evL_ev hx, hw]) k
theorem p_slS {cs : List UInt8} {p q : Nat} (hx : evL s x = some (.str cs)) (h2 : bL s hi cs.length cs.length = some q) (h3 : bL s lo 0 q = some p) (k : WpO F l ⟨slots ((d, .str ((cs.take q).drop p)) :: s) T, objs os H, E, n, lv, c⟩ Q) :
    WpO F (⟨some d, .slS x lo hi, none⟩ :: l) ⟨slots s T, objs os H, E, n, lv, c⟩ Q :=
  o_eff rfl (by simp only [evOp, evL_ev hx, bnds_of (mx := none) rfl h2 h3]) k
theorem p_slL {sz s0 p q : Nat} {xs : List AV} (hx : evL s x = some (.sl 1 s0 xs)) (hs : s0 = sz ∨ xs = []) (h2 : bL s hi (xs.length / sz) (xs.length / sz) = some q) (h3 : bL s lo 0 q = some p) (k : WpO F l ⟨slots ((d, csl sz ((xs.take (q * sz)).drop (p * sz))) :: s) T, objs os H, E, n, lv, c⟩ Q) :
    WpO F (⟨some d, .slL sz x lo hi none, none⟩ :: l) ⟨slots s T, objs os H, E, n, lv, c⟩ Q :=
  o_eff rfl (by
    simp only [evOp, evL_ev hx]
    rw [if_pos (hs.imp id fun h => ⟨h, by omega⟩), bnds_of (mx := none) rfl h2 h3]
    simp [mkSl]) k
theorem p_slL3 {sz p q : Nat} {xs : List AV} (hx : evL s x = some (.sl 3 sz xs)) (h2 : bL s hi (xs.length / sz) (xs.length / sz) = some q) (h3 : bL s lo 0 q = some p) (k : WpO F l ⟨slots ((d, mkSl (if q = xs.length / sz then 3 else 1) sz ((xs.take (q * sz)).drop (p * sz))) :: s) T, objs os H, E, n, lv, c⟩ Q) :
    WpO F (⟨some d, .slL sz x lo hi none, none⟩ :: l) ⟨slots s T, objs os H, E, n, lv, c⟩ Q :=
  o_eff rfl (by
    simp only [evOp, evL_ev hx]
    rw [if_pos (.inl trivial), bnds_of (mx := none) rfl h2 h3]
    simp) k
theorem p_slA_pp {m sz o p q : Nat} {cs : List AV} (hx : evL s x = some (.pp cs o)) (h2 : bL s hi m m = some q) (h3 : bL s lo 0 q = some p) (hne : p ≠ q) (hle : o + q * sz ≤ cs.length)
    (k : WpO F l ⟨slots ((d, mkSl (if m = q then 3 else 1) sz ((cs.take (o + q * sz)).drop (o + p * sz))) :: s) T, objs os H, E, n, lv, c⟩ Q) : WpO F (⟨some d, .slA m sz x lo hi none, none⟩ :: l) ⟨slots s T, objs os H, E, n, lv, c⟩ Q :=
  o_eff rfl (by
    simp only [evOp, bnds_of (mx := none) rfl h2 h3, evL_ev hx]
    rw [if_neg hne, if_pos hle]) k
theorem p_slA_ref {m sz id o p q : Nat} (hx : evL s x = some (.ref id o)) (h2 : bL s hi m m = some q) (h3 : bL s lo 0 q = some p) (hne : p ≠ q)
    (k : WpO F l ⟨slots ((d, .osl id (o + p * sz) (q - p) sz) :: s) T, objs os H, E, n, lv, c⟩ Q) : WpO F (⟨some d, .slA m sz x lo hi none, none⟩ :: l) ⟨slots s T, objs os H, E, n, lv, c⟩ Q :=
  o_eff rfl (by
    simp only [evOp, bnds_of (mx := none) rfl h2 h3, evL_ev hx]
    rw [if_neg hne]) k
theorem bL_some {y : X} {kk : IntKind} {i : Int} {dd e p : Nat} (hy : evL s y = some (.int kk i)) (hb : asB i e = some p) : bL s (some y) dd e = some p := by
  simp only [bL, hy]; exact hb
section
variable {kk kj : IntKind} {i j : Int} {z : X} {p q : Nat}
theorem p_slA_pp_lo {m sz o : Nat} {cs : List AV} (hx : evL s x = some (.pp cs o)) (hy : evL s y = some (.int kk i)) (hb : asB i m = some p) (hne : p ≠ m) (hle : o + m * sz ≤ cs.length)
    (k : WpO F l ⟨slots ((d, .sl 3 sz ((cs.take (o + m * sz)).drop (o + p * sz))) :: s) T, objs os H, E, n, lv, c⟩ Q) : WpO F (⟨some d, .slA m sz x (some y) none none, none⟩ :: l) ⟨slots s T, objs os H, E, n, lv, c⟩ Q := by
  refine p_slA_pp hx rfl (bL_some hy hb) hne hle ?_
  simpa [mkSl] using k
theorem p_slA_ref_lo {m sz id o : Nat} (hx : evL s x = some (.ref id o)) (hy : evL s y = some (.int kk i)) (hb : asB i m = some p) (hne : p ≠ m)
    (k : WpO F l ⟨slots ((d, .osl id (o + p * sz) (m - p) sz) :: s) T, objs os H, E, n, lv, c⟩ Q) : WpO F (⟨some d, .slA m sz x (some y) none none, none⟩ :: l) ⟨slots s T, objs os H, E, n, lv, c⟩ Q := p_slA_ref hx rfl (bL_some hy hb) hne k
theorem p_slL_lo {sz s0 : Nat} {xs : List AV} (hx : evL s x = some (.sl 1 s0 xs)) (hs : s0 = sz ∨ xs = []) (hy : evL s y = some (.int kk i)) (hb : asB i (xs.length / sz) = some p) (k : WpO F l ⟨slots ((d, csl sz ((xs.take (xs.length / sz * sz)).drop (p * sz))) :: s) T, objs os H, E, n, lv, c⟩ Q) :
    WpO F (⟨some d, .slL sz x (some y) none none, none⟩ :: l) ⟨slots s T, objs os H, E, n, lv, c⟩ Q := p_slL hx hs rfl (bL_some hy hb) k
theorem p_slL3_lo {sz : Nat} {xs : List AV} (hx : evL s x = some (.sl 3 sz xs)) (hy : evL s y = some (.int kk i)) (hb : asB i (xs.length / sz) = some p) (k : WpO F l ⟨slots ((d, .sl 3 sz ((xs.take (xs.length / sz * sz)).drop (p * sz))) :: s) T, objs os H, E, n, lv, c⟩ Q) :
    WpO F (⟨some d, .slL sz x (some y) none none, none⟩ :: l) ⟨slots s T, objs os H, E, n, lv, c⟩ Q := by
  refine p_slL3 hx rfl (bL_some hy hb) ?_
  simpa [mkSl] using k
theorem p_slL3_hi {sz : Nat} {xs : List AV} (hx : evL s x = some (.sl 3 sz xs)) (hy : evL s y = some (.int kk i)) (hb : asB i (xs.length / sz) = some q) (k : WpO F l ⟨slots ((d, mkSl (if q = xs.length / sz then 3 else 1) sz ((xs.take (q * sz)).drop (0 * sz))) :: s) T, objs os H, E, n, lv, c⟩ Q) :
    WpO F (⟨some d, .slL sz x none (some y) none, none⟩ :: l) ⟨slots s T, objs os H, E, n, lv, c⟩ Q := p_slL3 hx (bL_some hy hb) rfl k
theorem p_slS_both {cs : List UInt8} (hx : evL s x = some (.str cs)) (hy : evL s y = some (.int kk i)) (hz : evL s z = some (.int kj j)) (h2 : asB j cs.length = some q) (h3 : asB i q = some p) (k : WpO F l ⟨slots ((d, .str ((cs.take q).drop p)) :: s) T, objs os H, E, n, lv, c⟩ Q) :
    WpO F (⟨some d, .slS x (some y) (some z), none⟩ :: l) ⟨slots s T, objs os H, E, n, lv, c⟩ Q := p_slS hx (bL_some hz h2) (bL_some hy h3) k
theorem p_slS_hi {cs : List UInt8} (hx : evL s x = some (.str cs)) (hz : evL s z = some (.int kj j)) (h2 : asB j cs.length = some q) (k : WpO F l ⟨slots ((d, .str ((cs.take q).drop 0)) :: s) T, objs os H, E, n, lv, c⟩ Q) :
    WpO F (⟨some d, .slS x none (some z), none⟩ :: l) ⟨slots s T, objs os H, E, n, lv, c⟩ Q := p_slS hx (bL_some hz h2) rfl k
theorem p_slS_lo {cs : List UInt8} (hx : evL s x = some (.str cs)) (hy : evL s y = some (.int kk i)) (h3 : asB i cs.length = some p) (k : WpO F l ⟨slots ((d, .str ((cs.take cs.length).drop p)) :: s) T, objs os H, E, n, lv, c⟩ Q) :
    WpO F (⟨some d, .slS x (some y) none, none⟩ :: l) ⟨slots s T, objs os H, E, n, lv, c⟩ Q := p_slS hx rfl (bL_some hy h3) k
end
def Own (lv : Nat → Bool) (c br : Nat) (xs : List AV) : Prop := (br = 0 ∧ xs = []) ∨ br = 3 ∨ (4 ≤ br ∧ br < c ∧ lv br = true)
theorem p_app {sz bytes br s0 : Nat} {xs ys : List AV} (hx : evL s x = some (.sl br s0 xs)) (hs : s0 = sz ∨ (xs = [] ∧ br < 4)) (hy : evL s y = some b) (hb : ∀ H, src H sz b = some ys) (h0 : 0 < sz ∧ 0 < bytes) (hr : (xs.length + ys.length) / sz * bytes ≤ room) (ho : Own lv c br xs) (hne : ys ≠ [])
    (k : ∀ lv', lv' c = true → (∀ z, z < c → z ≠ br → lv' z = lv z) → WpO F l ⟨slots ((d, .sl c sz (xs ++ ys)) :: s) T, objs os H, E, n, lv', c + 1⟩ Q) : WpO F (⟨some d, .app sz bytes x y, none⟩ :: l) ⟨slots s T, objs os H, E, n, lv, c⟩ Q := by
  rcases ho with ⟨rfl, rfl⟩ | rfl | ⟨h4, hlt, hl⟩
  · refine o_brand (v := .sl c sz ([] ++ ys)) rfl ?_ fun lv' h1 h2 => k lv' h1 fun z hz _ => h2 z hz
    simp only [evOp, evL_ev hx, evL_ev hy, hb]
    rw [if_pos ⟨hs.imp id fun h => ⟨trivial, h.2⟩, h0.1, h0.2, hr⟩, if_pos (.inl trivial), if_neg hne]
  · refine o_brand (v := .sl c sz (xs ++ ys)) rfl ?_ fun lv' h1 h2 => k lv' h1 fun z hz _ => h2 z hz
    simp only [evOp, evL_ev hx, evL_ev hy, hb]
    rw [if_pos ⟨hs, h0.1, h0.2, hr⟩, if_pos (.inr trivial), if_neg hne]
  · refine o_brand_use (v := .sl c sz (xs ++ ys)) (br := br) rfl ?_ k
    simp only [evOp, evL_ev hx, evL_ev hy, hb]
    rw [if_pos ⟨hs, h0.1, h0.2, hr⟩, if_neg (by omega), if_pos ⟨h4, hl⟩]
theorem p_app_nil {sz bytes br s0 : Nat} {xs : List AV} (hx : evL s x = some (.sl br s0 xs)) (hs : s0 = sz ∨ (xs = [] ∧ br < 4)) (hy : evL s y = some b) (hb : ∀ H, src H sz b = some []) (h0 : 0 < sz ∧ 0 < bytes) (hr : xs.length / sz * bytes ≤ room) (ho : br = 0 ∨ br = 3)
    (k : WpO F l ⟨slots ((d, .sl br sz xs) :: s) T, objs os H, E, n, lv, c⟩ Q) : WpO F (⟨some d, .app sz bytes x y, none⟩ :: l) ⟨slots s T, objs os H, E, n, lv, c⟩ Q := by
  refine o_eff rfl ?_ k
  simp only [evOp, evL_ev hx, evL_ev hy, hb, List.length_nil, Nat.add_zero]
  rw [if_pos ⟨hs, h0.1, h0.2, hr⟩, if_pos ho]
  simp
theorem toB_ofB (u : UInt8) : toB (ofB u) = some u := by
  simp only [toB, ofB, Option.some.injEq]
  simp
theorem allB_ofB (cs : List UInt8) : allB (cs.map ofB) = some cs := by
  induction cs with
  | nil => rfl
  | cons u cs ih => simp only [List.map_cons, allB, toB_ofB, ih]
theorem p_b2s {br s0 : Nat} {cs : List UInt8} (hx : evL s x = some (.sl br s0 (cs.map ofB))) (hs : s0 = 1 ∨ (s0 = 0 ∧ cs = [])) (k : WpO F l ⟨slots ((d, .str cs) :: s) T, objs os H, E, n, lv, c⟩ Q) : WpO F (⟨some d, .b2s x, none⟩ :: l) ⟨slots s T, objs os H, E, n, lv, c⟩ Q :=
  o_eff rfl (by
    rcases hs with rfl | ⟨rfl, rfl⟩
    · simp only [evOp, evL_ev hx, allB_ofB]
    · simp only [evOp, evL_ev hx, List.map_nil]) k
theorem p_mks {sz bytes : Nat} {z : List AV} {k1 k2 : IntKind} {i j : Int} (hx : evL s x = some (.int k1 i)) (hy : evL s y = some (.int k2 j)) (h : 0 ≤ i ∧ i ≤ j ∧ j.toNat * bytes ≤ room ∧ 0 < bytes ∧ z.length = sz ∧ 0 < sz ∧ flatL z = true)
    (k : ∀ lv', lv' c = true → (∀ z, z < c → lv' z = lv z) → WpO F l ⟨slots ((d, .sl c sz (List.replicate i.toNat z).flatten) :: s) T, objs os H, E, n, lv', c + 1⟩ Q) : WpO F (⟨some d, .mks false sz bytes z x y, none⟩ :: l) ⟨slots s T, objs os H, E, n, lv, c⟩ Q :=
  o_brand rfl (by simp only [evOp, evL_ev hx, evL_ev hy, asI]; rw [if_pos h]; rfl) k
theorem p_calls {f : FuncId} {xs : List X} {args : List AV} {v : AV} {H' : Hp} {lv' : Nat → Bool} {c' : Nat} {dd : Option Nat} (ha : xs.mapM (evL s) = some args) (hc : F f args ⟨objs os H, n, lv, c⟩ E = some (v, ⟨H', n, lv', c'⟩)) (k : WpO F l ⟨putT (slots s T) dd v, H', E, n, lv', c'⟩ Q) :
    WpO F (⟨dd, .calls f xs, none⟩ :: l) ⟨slots s T, objs os H, E, n, lv, c⟩ Q := by
  have hargs : xs.map (ev (slots s T)) = args := by
    clear hc k
    induction xs generalizing args with
    | nil => simp at ha; simp [ha]
    | cons x xs ih =>
      rw [List.mapM_cons] at ha
      simp only [Option.bind_eq_bind, Option.bind_eq_some_iff, Option.pure_def, Option.some.injEq] at ha
      obtain ⟨u, hu, r, hr, rfl⟩ := ha
      simp only [List.map_cons, evL_ev hu, ih hr]
  refine o_step ?_ k
  simp only [evStep, wants, isCall, evCallOp, hargs, hc, if_true]
end
section
variable {k : IntKind} {a b : Int}
theorem lss_t (h : a < b) : evBin .lss (.int k a) (.int k b) = some (.bool true) := by simp [evBin, evInt, h]
theorem lss_f (h : b ≤ a) : evBin .lss (.int k a) (.int k b) = some (.bool false) := by simp [evBin, evInt, h]
theorem leq_t (h : a ≤ b) : evBin .leq (.int k a) (.int k b) = some (.bool true) := by simp [evBin, evInt, h]
theorem leq_f (h : b < a) : evBin .leq (.int k a) (.int k b) = some (.bool false) := by simp [evBin, evInt, h]
theorem gtr_t (h : b < a) : evBin .gtr (.int k a) (.int k b) = some (.bool true) := by simp [evBin, evInt, h]
theorem gtr_f (h : a ≤ b) : evBin .gtr (.int k a) (.int k b) = some (.bool false) := by simp [evBin, evInt, h]
theorem geq_t (h : b ≤ a) : evBin .geq (.int k a) (.int k b) = some (.bool true) := by simp [evBin, evInt, h]
theorem geq_f (h : a < b) : evBin .geq (.int k a) (.int k b) = some (.bool false) := by simp [evBin, evInt, h]
theorem eql_t (h : a = b) : evBin .eql (.int k a) (.int k b) = some (.bool true) := by simp [evBin, evInt, h]
theorem eql_f (h : a ≠ b) : evBin .eql (.int k a) (.int k b) = some (.bool false) := by simp [evBin, evInt, h]
theorem neq_t (h : a ≠ b) : evBin .neq (.int k a) (.int k b) = some (.bool true) := by simp [evBin, evInt, h]
theorem neq_f (h : a = b) : evBin .neq (.int k a) (.int k b) = some (.bool false) := by simp [evBin, evInt, h]
end
theorem w64 {n : Int} (h0 : -9223372036854775808 ≤ n) (h1 : n < 9223372036854775808) : IntKind.i64.wrap n = n := by
  have e1 : (2 ^ IntKind.i64.bits : Int) = 18446744073709551616 := by decide +kernel
  have e2 : (2 ^ (IntKind.i64.bits - 1) : Int) = 9223372036854775808 := by decide +kernel
  unfold IntKind.wrap
  simp only [e1, e2]
  split
  · rename_i h
    simp only [Bool.and_eq_true, decide_eq_true_eq] at h
    omega
  · rename_i h
    simp only [Bool.and_eq_true, decide_eq_true_eq, not_and] at h
    have hs : IntKind.i64.signed = true := rfl
    have := h hs
    omega
theorem w32 {n : Int} (h0 : 0 ≤ n) (h1 : n < 4294967296) : IntKind.u32.wrap n = n := by
  have e1 : (2 ^ IntKind.u32.bits : Int) = 4294967296 := by decide +kernel
  unfold IntKind.wrap
  simp only [e1]
  split
  · rename_i h
    have hs : IntKind.u32.signed = false := rfl
    simp [hs] at h
  · omega
theorem w8 (n : Int) : IntKind.u8.wrap n = n % 256 := by
  have e1 : (2 ^ IntKind.u8.bits : Int) = 256 := by decide +kernel
  unfold IntKind.wrap
  simp only [e1]
  split
  · rename_i h
    have hs : IntKind.u8.signed = false := rfl
    simp [hs] at h
  · rfl
section
variable {a b c : Int}
theorem add_w (h : a + b = c) (h0 : -9223372036854775808 ≤ c) (h1 : c < 9223372036854775808) : evBin .add (.int .i64 a) (.int .i64 b) = some (.int .i64 c) := by
  subst h; simp [evBin, evInt, w64 h0 h1]
theorem sub_w (h : a - b = c) (h0 : -9223372036854775808 ≤ c) (h1 : c < 9223372036854775808) : evBin .sub (.int .i64 a) (.int .i64 b) = some (.int .i64 c) := by
  subst h; simp [evBin, evInt, w64 h0 h1]
theorem mul_w (h : a * b = c) (h0 : -9223372036854775808 ≤ c) (h1 : c < 9223372036854775808) : evBin .mul (.int .i64 a) (.int .i64 b) = some (.int .i64 c) := by
  subst h; simp [evBin, evInt, w64 h0 h1]
theorem quo_w (ha : 0 ≤ a) (hb : 0 < b) (h : a / b = c) (h1 : a < 9223372036854775808) : evBin .quo (.int .i64 a) (.int .i64 b) = some (.int .i64 c) := by
  subst h
  have h2 : a.tdiv b = a / b := Int.tdiv_eq_ediv_of_nonneg ha
  have h3 : 0 ≤ a / b := Int.ediv_nonneg ha (by omega)
  have h4 : a / b ≤ a := Int.ediv_le_self _ ha
  simp [evBin, evInt, show ¬ b = 0 by omega, h2, w64 (show -9223372036854775808 ≤ a / b by omega) (by omega)]
theorem rem_w (ha : 0 ≤ a) (hb : 0 < b) (h : a % b = c) : evBin .rem (.int .i64 a) (.int .i64 b) = some (.int .i64 c) := by
  subst h
  simp [evBin, evInt, show ¬ b = 0 by omega, Int.tmod_eq_emod_of_nonneg ha]
end
end Go.Abs

/- Loops by an invariant that lists slots and objects. No condition. -/
namespace Go.Abs
def HoldsE (s : List (Nat × AV)) : List (Nat × AV) → Prop
  | [] => True
  | (i, v) :: l => lk s i = some v ∧ HoldsE s l
def HoldsOE (os : List (Nat × List AV)) : List (Nat × List AV) → Prop
  | [] => True
  | (i, v) :: l => lkO os i = some v ∧ HoldsOE os l
def HoldsS (n : Nat) (s : List (Nat × AV)) : List (Nat × AV) → Prop
  | [] => True
  | (i, v) :: l => (lk s i).map (scrub n) = some v ∧ HoldsS n s l
def HoldsOS (n : Nat) (os : List (Nat × List AV)) : List (Nat × List AV) → Prop
  | [] => True
  | (i, v) :: l => (lkO os i = some v ∧ underL n v = true) ∧ HoldsOS n os l
theorem holdsE {s : List (Nat × AV)} {T : Nat → AV} : ∀ {l : List (Nat × AV)}, HoldsE s l → Holds (slots s T) l := by
  intro l
  induction l with
  | nil => intro _; trivial
  | cons p l ih => obtain ⟨i, v⟩ := p; rintro ⟨h1, h2⟩; exact ⟨lk_slots h1, ih h2⟩
theorem holdsOE {os : List (Nat × List AV)} {H : Hp} : ∀ {l : List (Nat × List AV)}, HoldsOE os l → HoldsO (objs os H) l := by
  intro l
  induction l with
  | nil => intro _; trivial
  | cons p l ih => obtain ⟨i, v⟩ := p; rintro ⟨h1, h2⟩; exact ⟨lkO_objs h1, ih h2⟩
theorem holdsS {n : Nat} {s : List (Nat × AV)} {T : Nat → AV} : ∀ {l : List (Nat × AV)}, HoldsS n s l → Holds (fun t => scrub n (slots s T t)) l := by
  intro l
  induction l with
  | nil => intro _; trivial
  | cons p l ih =>
    obtain ⟨i, v⟩ := p
    rintro ⟨h1, h2⟩
    obtain ⟨u, hu, rfl⟩ := Option.map_eq_some_iff.1 h1
    exact ⟨congrArg (scrub n) (lk_slots hu), ih h2⟩
theorem holdsOS {n : Nat} {os : List (Nat × List AV)} {H : Hp} : ∀ {l : List (Nat × List AV)}, HoldsOS n os l → HoldsO (keepH n (objs os H)) l := by
  intro l
  induction l with
  | nil => intro _; trivial
  | cons p l ih =>
    obtain ⟨i, v⟩ := p
    rintro ⟨⟨h1, h2⟩, h3⟩
    refine ⟨?_, ih h3⟩
    unfold keepH
    rw [lkO_objs h1, if_pos h2]
section
variable {F : CallF} {k : Nat} {s : List (Nat × AV)} {os : List (Nat × List AV)} {T : Nat → AV} {H : Hp} {E : Nat → Option TypeId} {n c : Nat} {lv : Nat → Bool} {K : Ex → St → Prop} {a : IC}
structure LInv (α : Type) where
  P : α → Prop
  μ : α → Nat
  ts : α → List (Nat × AV)
  os : α → List (Nat × List AV)
def Head {α : Type} (I : LInv α) (B : α → (Nat → Bool) → Nat → Prop) (n : Nat) (i : α) (S : St) : Prop := I.P i ∧ ∃ lv c, B i lv c ∧ Known (I.ts i) (I.os i) n lv c S
structure nextK {α : Type} (I : LInv α) (B : α → (Nat → Bool) → Nat → Prop) (n m : Nat) (K : Ex → St → Prop) (e : Ex) (S : St) : Prop where
  h : match e with
    | .norm => ∃ j, I.μ j < m ∧ Head I B n j (pop n S)
    | e => K e S
theorem q_loop {α : Type} (I : LInv α) (B : α → (Nat → Bool) → Nat → Prop) (i : α) (hP : I.P i) (hB : B i lv c) (hμ : I.μ i < k) (h1 : HoldsE s (I.ts i)) (h2 : HoldsOE os (I.os i))
    (round : ∀ i lv c T H E, I.P i → B i lv c → I.μ i < k → Wp F k a ⟨slots (I.ts i) T, objs (I.os i) H, E, n, lv, c⟩ (nextK I B n (I.μ i) K)) : Wp F k (.loop a) ⟨slots s T, objs os H, E, n, lv, c⟩ K := by
  have key : ∀ (m : Nat) (i : α) (S : St), Head I B n i S → I.μ i < m → m ≤ k → ∃ e S', evLoop (evCode F k a) n m S = some (e, S') ∧ K e S' := by
    intro m
    induction m with
    | zero => intro i S _ h; omega
    | succ m ih =>
      rintro i S ⟨hP, lv, c, hB, T, H, E, rfl⟩ hlt hmk
      obtain ⟨e, S1, q1, q2⟩ := (round i lv c T H E hP hB (by omega)).ex
      cases e with
      | norm =>
        obtain ⟨j, hj, hh⟩ := q2.h
        obtain ⟨e2, S2, r1, r2⟩ := ih j _ hh (by omega) (by omega)
        exact ⟨e2, S2, by simp only [evLoop, q1]; exact r1, r2⟩
      | exit id => exact ⟨.exit id, S1, by simp only [evLoop, q1], q2.h⟩
      | ret => exact ⟨.ret, S1, by simp only [evLoop, q1], q2.h⟩
  obtain ⟨e, S', r1, r2⟩ := key k i _ ⟨hP, lv, c, hB, known_of (holdsE h1) (holdsOE h2)⟩ hμ (Nat.le_refl _)
  exact ⟨e, S', by simp only [evCode]; exact r1, r2⟩
theorem n_again {α : Type} {I : LInv α} {B : α → (Nat → Bool) → Nat → Prop} {m n' : Nat} (j : α) (hP : I.P j) (hB : B j lv c) (hμ : I.μ j < m) (h1 : HoldsS n s (I.ts j)) (h2 : HoldsOS n os (I.os j)) : nextK I B n m K .norm ⟨slots s T, objs os H, E, n', lv, c⟩ :=
  ⟨j, hμ, hP, lv, c, hB, known_pop (holdsS h1) (holdsOS h2)⟩
theorem n_exit {α : Type} {I : LInv α} {B : α → (Nat → Bool) → Nat → Prop} {m id : Nat} {S : St} (h : K (.exit id) S) : nextK I B n m K (.exit id) S := ⟨h⟩
theorem n_ret {α : Type} {I : LInv α} {B : α → (Nat → Bool) → Nat → Prop} {m : Nat} {S : St} (h : K .ret S) : nextK I B n m K .ret S := ⟨h⟩
end
theorem under_ofB (n : Nat) (bs : List UInt8) : underL n (bs.map ofB) = true := by
  induction bs with
  | nil => rfl
  | cons b bs ih => simp only [List.map_cons, underL, ih, ofB, AV.under, Bool.and_self]
end Go.Abs

/- Calls that share the caller's objects: how their bodies end. No condition. -/
namespace Go.Abs
section
variable {F : CallF} {k : Nat} {l : List IOper} {s : List (Nat × AV)} {os : List (Nat × List AV)} {T : Nat → AV} {H : Hp} {E : Nat → Option TypeId} {n c d : Nat} {lv : Nat → Bool} {Q : St → Prop} {x y : X} {kk : IntKind} {i : Int} {p : Nat}
def RetS (fn : IFn) (n : Nat) (P : AV → Hs → Prop) (e : Ex) (S : St) : Prop := (e = .norm ∨ e = .ret) ∧ ∃ r hs, finish fn n S = some (r, hs) ∧ P r hs
theorem q_calls {FN : FuncId → Option FnDef} {f : FuncId} {fn : IFn} {vs : List AV} {P : AV → Hs → Prop} (hf : FN f = some (.code fn))
    (h : ∀ (T : Nat → AV), Wp (evCall FN k) k fn.body ⟨slots (argSlots 0 vs) T, objs os H, E, n, lv, c⟩ (RetS fn n P)) : ∃ r hs, evCall FN (k + 1) f vs ⟨objs os H, n, lv, c⟩ E = some (r, hs) ∧ P r hs := by
  have := h (fun _ => .tup [])
  have he : slots (argSlots 0 vs) (fun _ => .tup []) = fun t => vs.getD t (.tup []) := by
    funext t
    rw [argSlots_get]; simp
  rw [he] at this
  obtain ⟨e, S, h1, hne, r, hs, h2, h3⟩ := this.ex
  refine ⟨r, hs, ?_, h3⟩
  rw [evCall_code hf]
  unfold evBody
  have h1' : evCode (evCall FN k) k fn.body (entry vs ⟨objs os H, n, lv, c⟩ E) = some (e, S) := h1
  rw [h1']
  rcases hne with rfl | rfl
  · exact h2
  · exact h2
theorem q_rets {fn : IFn} {P : AV → Hs → Prop} {e : Ex} {us : List AV} {r : AV} {n' : Nat} (he : e = .norm ∨ e = .ret) (h1 : resS s os fn.res = some us) (hz : (fn.res.all fun | .cell _ sz ag => !(ag && Nat.beq sz 0) | _ => true) = true) (h2 : (leaves (packR us)).all (finOk (objs os H) n) = true)
    (h4 : mapLeaf (finCell (objs os H) n) (packR us) = r) (h3 : r.under n = true) (hP : P r ⟨trim n (objs os H), n, lv, c⟩) : RetS fn n P e ⟨slots s T, objs os H, E, n', lv, c⟩ := by
  refine ⟨he, r, _, ?_, hP⟩
  unfold finish
  rw [resS_eq h1 hz]
  simp only [h2, h4, h3, if_true]
structure Writes (F : CallF) (f : FuncId) (args : List AV) (os : List (Nat × List AV)) (H : Hp) (n : Nat) (lv : Nat → Bool) (c : Nat) (E : Nat → Option TypeId) (R : AV) (id : Nat) (v : List AV) : Prop where
  ex : ∃ H', F f args ⟨objs os H, n, lv, c⟩ E = some (R, ⟨H', n, lv, c⟩) ∧ H' id = v ∧ ∀ j, j < n → j ≠ id → H' j = keepH n (objs os H) j
def HoldsX (n id : Nat) (v : List AV) (os : List (Nat × List AV)) : List (Nat × List AV) → Prop
  | [] => True
  | (j, u) :: l => ((j = id ∧ v = u) ∨ (Nat.beq j id = false ∧ Nat.blt j n = true ∧ lkO os j = some u ∧ underL n u = true)) ∧ HoldsX n id v os l
theorem holdsX {id : Nat} {v : List AV} {H' : Hp} (h1 : H' id = v) (h2 : ∀ j, j < n → j ≠ id → H' j = keepH n (objs os H) j) : ∀ {l : List (Nat × List AV)}, HoldsX n id v os l → HoldsO H' l := by
  intro l
  induction l with
  | nil => intro _; trivial
  | cons q l ih =>
    obtain ⟨j, u⟩ := q
    rintro ⟨h, h'⟩
    refine ⟨?_, ih h'⟩
    rcases h with ⟨rfl, rfl⟩ | ⟨k1, k2, k3, k4⟩
    · exact h1
    · rw [h2 j (by simpa using k2) (Nat.ne_of_beq_eq_false k1), keepH, lkO_objs k3, if_pos k4]
theorem p_writes {f : FuncId} {xs : List X} {args : List AV} {R : AV} {id : Nat} {v : List AV} {os' : List (Nat × List AV)} (ha : xs.mapM (evL s) = some args) (hc : ∀ H E, Writes F f args os H n lv c E R id v) (hx : HoldsX n id v os os') (k : ∀ H, WpO F l ⟨slots ((d, R) :: s) T, objs os' H, E, n, lv, c⟩ Q) :
    WpO F (⟨some d, .calls f xs, none⟩ :: l) ⟨slots s T, objs os H, E, n, lv, c⟩ Q := by
  obtain ⟨H', h1, h2, h3⟩ := (hc H E).ex
  refine p_calls (dd := some d) ha h1 ?_
  have := k H'
  rwa [objs_self (holdsX h2 h3 hx)] at this
theorem q_writes {FN : FuncId → Option FnDef} {f : FuncId} {fn : IFn} {vs : List AV} {R : AV} {id : Nat} {v : List AV} (hid : id < n) (hu : underL n v = true) (hf : FN f = some (.code fn))
    (h : ∀ (T : Nat → AV), Wp (evCall FN k) k fn.body ⟨slots (argSlots 0 vs) T, objs os H, E, n, lv, c⟩ (RetS fn n fun r hs => r = R ∧ ∃ H', hs = ⟨trim n H', n, lv, c⟩ ∧ H' id = v ∧ ∀ j, j < n → j ≠ id → keepH n H' j = keepH n (objs os H) j)) : Writes (evCall FN (k + 1)) f vs os H n lv c E R id v := by
  obtain ⟨r, hs, h1, rfl, H', rfl, h2, h3⟩ := q_calls hf h
  refine ⟨trim n H', h1, ?_, fun j hj hne => ?_⟩
  · simp only [trim, if_pos hid, keepH, h2, if_pos hu]
  · simp only [trim, if_pos hj]; exact h3 j hj hne
def Same (n0 id : Nat) (H0 H : Hp) : Prop := ∀ j, j < n0 → j ≠ id → keepH n0 H j = keepH n0 H0 j
theorem underL_le {n m : Nat} (h : n ≤ m) : ∀ (l : List AV), underL n l = true → underL m l = true := by
  have one : ∀ (x : AV), x.under n = true → x.under m = true := by
    intro x
    apply AV.rec (motive_1 := fun x => x.under n = true → x.under m = true) (motive_2 := fun l => underL n l = true → underL m l = true)
    all_goals first
      | (intros; rfl)
      | (intro id o hh; simp only [AV.under, decide_eq_true_eq] at hh ⊢; omega)
      | (intro id hh; simp only [AV.under, decide_eq_true_eq] at hh ⊢; omega)
      | (intro a b c d hh; simp only [AV.under, decide_eq_true_eq] at hh ⊢; omega)
      | (intro f fs cs h1 h2 hh; simp only [AV.under, Bool.and_eq_true] at hh ⊢; exact ⟨h1 hh.1, h2 hh.2⟩)
      | (intro t v h1 hh; simp only [AV.under] at hh ⊢; exact h1 hh)
      | (intro cs h1 hh; simp only [AV.under] at hh ⊢; exact h1 hh)
      | (intro x l h1 h2 hh; simp only [underL, Bool.and_eq_true] at hh ⊢; exact ⟨h1 hh.1, h2 hh.2⟩)
      | skip
  intro l
  induction l with
  | nil => intro _; rfl
  | cons x l ih =>
    intro hh
    simp only [underL, Bool.and_eq_true] at hh ⊢
    exact ⟨one x hh.1, ih hh.2⟩
theorem keep_keep {n m : Nat} (h : n ≤ m) (H : Hp) (j : Nat) : keepH n (keepH m H) j = keepH n H j := by
  unfold keepH
  by_cases h1 : underL n (H j) = true
  · have h2 := underL_le h _ h1
    simp only [h2, if_true, h1]
  · by_cases h2 : underL m (H j) = true
    · simp only [h2, if_true]
    · simp only [h2, h1, if_false, underL]
      simp
theorem Same.keep {n0 id m : Nat} {H0 H : Hp} (h : Same n0 id H0 H) (hm : n0 ≤ m) : Same n0 id H0 (keepH m H) := fun j hj hne => (keep_keep hm H j).trans (h j hj hne)
theorem Same.refl (n0 id : Nat) (H : Hp) : Same n0 id H H := fun _ _ _ => rfl
theorem Same.upd {n0 id i : Nat} {v : List AV} {H0 H : Hp} (h : Same n0 id H0 H) (hi : i = id ∨ n0 ≤ i) : Same n0 id H0 (upd H i v) := by
  intro j hj hne
  have : keepH n0 (Go.Abs.upd H i v) j = keepH n0 H j := by
    have hji : ¬ j = i := by rcases hi with rfl | hi <;> omega
    simp only [keepH, Go.Abs.upd, if_neg hji]
  rw [this]; exact h j hj hne
variable {K : Ex → St → Prop} {a : IC}
end
end Go.Abs

/- Arithmetic without a hypothesis per step: numbers that are natural. No condition. -/
namespace Go.Abs
section
variable {a b m : Nat}
theorem add_nn (h : a + b < 9223372036854775808) : evBin .add (.int .i64 (a : Int)) (.int .i64 (b : Int)) = some (.int .i64 ((a + b : Nat) : Int)) := add_w (by omega) (by omega) (by omega)
theorem add_nl (h : a + (OfNat.ofNat m : Nat) < 9223372036854775808) : evBin .add (.int .i64 (a : Int)) (.int .i64 (OfNat.ofNat m : Int)) = some (.int .i64 ((a + (OfNat.ofNat m : Nat) : Nat) : Int)) := add_nn h
theorem add_ln (h : (OfNat.ofNat m : Nat) + a < 9223372036854775808) : evBin .add (.int .i64 (OfNat.ofNat m : Int)) (.int .i64 (a : Int)) = some (.int .i64 (((OfNat.ofNat m : Nat) + a : Nat) : Int)) := add_nn h
theorem sub_nn (h : b ≤ a ∧ a < 9223372036854775808) : evBin .sub (.int .i64 (a : Int)) (.int .i64 (b : Int)) = some (.int .i64 ((a - b : Nat) : Int)) := sub_w (by omega) (by omega) (by omega)
theorem sub_nl (h : (OfNat.ofNat m : Nat) ≤ a ∧ a < 9223372036854775808) : evBin .sub (.int .i64 (a : Int)) (.int .i64 (OfNat.ofNat m : Int)) = some (.int .i64 ((a - (OfNat.ofNat m : Nat) : Nat) : Int)) := sub_nn h
theorem sub_ln (h : a ≤ (OfNat.ofNat m : Nat) ∧ (OfNat.ofNat m : Nat) < 9223372036854775808) : evBin .sub (.int .i64 (OfNat.ofNat m : Int)) (.int .i64 (a : Int)) = some (.int .i64 (((OfNat.ofNat m : Nat) - a : Nat) : Int)) := sub_nn h
theorem mul_nn (h : a * b < 9223372036854775808) : evBin .mul (.int .i64 (a : Int)) (.int .i64 (b : Int)) = some (.int .i64 ((a * b : Nat) : Int)) := mul_w (by simp) (by omega) (by omega)
theorem mul_nl (h : a * (OfNat.ofNat m : Nat) < 9223372036854775808) : evBin .mul (.int .i64 (a : Int)) (.int .i64 (OfNat.ofNat m : Int)) = some (.int .i64 ((a * (OfNat.ofNat m : Nat) : Nat) : Int)) := mul_nn h
theorem mul_ln (h : (OfNat.ofNat m : Nat) * a < 9223372036854775808) : evBin .mul (.int .i64 (OfNat.ofNat m : Int)) (.int .i64 (a : Int)) = some (.int .i64 (((OfNat.ofNat m : Nat) * a : Nat) : Int)) := mul_nn h
theorem quo_nn (h : 0 < b ∧ a < 9223372036854775808) : evBin .quo (.int .i64 (a : Int)) (.int .i64 (b : Int)) = some (.int .i64 ((a / b : Nat) : Int)) := quo_w (by omega) (by omega) (by simp) (by omega)
theorem quo_nl (h : 0 < (OfNat.ofNat m : Nat) ∧ a < 9223372036854775808) : evBin .quo (.int .i64 (a : Int)) (.int .i64 (OfNat.ofNat m : Int)) = some (.int .i64 ((a / (OfNat.ofNat m : Nat) : Nat) : Int)) := quo_nn h
theorem rem_nn (h : 0 < b) : evBin .rem (.int .i64 (a : Int)) (.int .i64 (b : Int)) = some (.int .i64 ((a % b : Nat) : Int)) := rem_w (by omega) (by omega) (by simp)
theorem rem_nl (h : 0 < (OfNat.ofNat m : Nat)) : evBin .rem (.int .i64 (a : Int)) (.int .i64 (OfNat.ofNat m : Int)) = some (.int .i64 ((a % (OfNat.ofNat m : Nat) : Nat) : Int)) := rem_nn h
theorem w8n (n : Nat) : IntKind.u8.wrap (n : Int) = ((n % 256 : Nat) : Int) := by rw [w8]; simp
theorem inB_n (h : a < b) : inB (a : Int) b = some a := by rw [inB_of (by omega) (by omega)]; exact congrArg some (Int.toNat_natCast _)
theorem inB_l (h : (OfNat.ofNat m : Nat) < b) : inB (OfNat.ofNat m : Int) b = some (OfNat.ofNat m : Nat) := inB_n h
theorem asB_n (h : a ≤ b) : asB (a : Int) b = some a := by rw [asB_of (by omega) (by omega)]; exact congrArg some (Int.toNat_natCast _)
theorem asB_l (h : (OfNat.ofNat m : Nat) ≤ b) : asB (OfNat.ofNat m : Int) b = some (OfNat.ofNat m : Nat) := asB_n h
theorem shr_n {k kk : IntKind} (h : b < k.bits) : evBin .shr (.int k (a : Int)) (.int kk (b : Int)) = some (.int k ((a / 2 ^ b : Nat) : Int)) := by
  have hm : min ((b : Int)).toNat k.bits = b := by simp; omega
  have hneg : ¬ ((b : Int) < 0) := by omega
  simp only [evBin, evShift, or_true, if_true, hneg, if_false, hm]
  congr 2
  rw [show ((2 : Int) ^ b) = ((2 ^ b : Nat) : Int) by simp, Int.fdiv_eq_ediv_of_nonneg _ (Int.natCast_nonneg _)]
  simp
theorem shr_l {k kk : IntKind} (h : (OfNat.ofNat m : Nat) < k.bits) : evBin .shr (.int k (a : Int)) (.int kk (OfNat.ofNat m : Int)) = some (.int k ((a / 2 ^ (OfNat.ofNat m : Nat) : Nat) : Int)) := shr_n h
end
section
variable {F : CallF} {l : List IOper} {s : List (Nat × AV)} {os : List (Nat × List AV)} {T : Nat → AV} {H : Hp} {E : Nat → Option TypeId} {n c d : Nat} {lv : Nat → Bool} {Q : St → Prop}
theorem evL_all {xs : List X} {args : List AV} (ha : xs.mapM (evL s) = some args) : xs.map (ev (slots s T)) = args := by
  induction xs generalizing args with
  | nil => simp at ha; simp [ha]
  | cons x xs ih =>
    rw [List.mapM_cons] at ha
    simp only [Option.bind_eq_bind, Option.bind_eq_some_iff, Option.pure_def, Option.some.injEq] at ha
    obtain ⟨u, hu, r, hr, rfl⟩ := ha
    simp only [List.map_cons, evL_ev hu, ih hr]
def evsS (s : List (Nat × AV)) : List X → Option (List AV)
  | [] => some []
  | x :: xs => match evL s x, evsS s xs with
    | some u, some us => some (u :: us)
    | _, _ => none
theorem evsS_eq : ∀ {xs : List X} {vs : List AV}, evsS s xs = some vs → xs.mapM (evL s) = some vs
  | [], vs, h => by simp only [evsS] at h; rw [← h]; rfl
  | x :: xs, vs, h => by
    simp only [evsS] at h
    split at h
    · rename_i u us h1 h2
      rw [List.mapM_cons, h1, evsS_eq h2, ← h]; rfl
    · simp at h
theorem evP_of {f : FuncId} {vs : List AV} {r : AV} (h : Calls0 F f vs r) (hr : r.scalar = true) : evP F f vs = some r := by
  have h0 := h.eq
  unfold call0 at h0
  obtain ⟨u, h1, h2⟩ := Option.map_eq_some_iff.1 h0
  rw [h1]
  cases u <;> simp only [mapLeaf, canonCell] at h2 <;> first
    | exact congrArg some h2
    | (subst h2; simp [AV.scalar] at hr; done)
    | (split at h2 <;> (subst h2; simp [AV.scalar, csl] at hr))
theorem Same.after {n0 n id : Nat} {H0 Hm H' : Hp} (h : Same n0 id H0 Hm) (hn : n0 ≤ n) (h' : ∀ j, j < n → j ≠ id → H' j = keepH n Hm j) : Same n0 id H0 H' := by
  intro j hj hne
  have e : keepH n0 H' j = keepH n0 (keepH n Hm) j := by
    show (if underL n0 (H' j) = true then H' j else []) = _
    rw [h' j (by omega) hne]; rfl
  rw [e, keep_keep hn]; exact h j hj hne
theorem p_mkf {f : FuncId} {fs cs : List X} {us ws : List AV} (h1 : evsS s fs = some us) (h2 : evsS s cs = some ws) (k : WpO F l ⟨slots ((d, .fn f us ws) :: s) T, objs os H, E, n, lv, c⟩ Q) : WpO F (⟨some d, .mkf f fs cs, none⟩ :: l) ⟨slots s T, objs os H, E, n, lv, c⟩ Q :=
  o_eff rfl (by simp only [evOp, evL_all (evsS_eq h1), evL_all (evsS_eq h2)]) k
theorem p_mn2 {mx : Bool} {kk : IntKind} {i j : Int} {x y : X} (hx : evL s x = some (.int kk i)) (hy : evL s y = some (.int kk j)) (k : WpO F l ⟨slots ((d, .int kk (if mx then max i j else min i j)) :: s) T, objs os H, E, n, lv, c⟩ Q) : WpO F (⟨some d, .mn mx [x, y], none⟩ :: l) ⟨slots s T, objs os H, E, n, lv, c⟩ Q :=
  o_eff rfl (by
    simp only [evOp, evL_ev hx, evMin, evL_ev hy, if_true]
    first
      | rfl
      | (cases mx <;> simp [Int.max_def, Int.min_def] <;> (repeat' split) <;> first | rfl | omega)) k
end
section
variable {k : Nat}
theorem q_evP {FN : FuncId → Option FnDef} {f : FuncId} {fn : IFn} {vs : List AV} {R : AV} (hf : FN f = some (.code fn)) (hR : R.flat = true)
    (h : ∀ (T : Nat → AV) (H : Hp) (E : Nat → Option TypeId) (lv : Nat → Bool), Wp (evCall FN k) k fn.body ⟨slots (argSlots 0 vs) T, objs [] H, E, 0, lv, 4⟩ (RetS fn 0 fun r hs => own hs.lv r = R)) : evP (evCall FN (k + 1)) f vs = some R := by
  obtain ⟨r, hs, h1, h2⟩ := q_calls (k := k) (os := []) (H := fun _ => []) (E := fun _ => none) (n := 0) (lv := fun _ => false) (c := 4) (P := fun r hs => own hs.lv r = R) hf (fun T => h T _ _ _)
  unfold evP
  have e : evCall FN (k + 1) f vs h0 (fun _ => none) = some (r, hs) := h1
  rw [e]
  simp only [h2, hR, if_true]
end
section
variable {F : CallF} {l : List IOper} {s : List (Nat × AV)} {os : List (Nat × List AV)} {T : Nat → AV} {H : Hp} {E : Nat → Option TypeId} {n c d : Nat} {lv : Nat → Bool} {Q : St → Prop} {x y : X} {kk : IntKind} {i j : Int}
theorem p_lss_split (hx : evL s x = some (.int kk i)) (hy : evL s y = some (.int kk j)) (k1 : i < j → WpO F l ⟨slots ((d, .bool true) :: s) T, objs os H, E, n, lv, c⟩ Q) (k2 : j ≤ i → WpO F l ⟨slots ((d, .bool false) :: s) T, objs os H, E, n, lv, c⟩ Q) : WpO F (⟨some d, .bin .lss x y, none⟩ :: l) ⟨slots s T, objs os H, E, n, lv, c⟩ Q := by
  by_cases h : i < j
  · exact p_bin hx hy (lss_t (by omega)) (k1 h)
  · exact p_bin hx hy (lss_f (by omega)) (k2 (by omega))
theorem p_leq_split (hx : evL s x = some (.int kk i)) (hy : evL s y = some (.int kk j)) (k1 : i ≤ j → WpO F l ⟨slots ((d, .bool true) :: s) T, objs os H, E, n, lv, c⟩ Q) (k2 : j < i → WpO F l ⟨slots ((d, .bool false) :: s) T, objs os H, E, n, lv, c⟩ Q) : WpO F (⟨some d, .bin .leq x y, none⟩ :: l) ⟨slots s T, objs os H, E, n, lv, c⟩ Q := by
  by_cases h : i ≤ j
  · exact p_bin hx hy (leq_t (by omega)) (k1 h)
  · exact p_bin hx hy (leq_f (by omega)) (k2 (by omega))
theorem p_gtr_split (hx : evL s x = some (.int kk i)) (hy : evL s y = some (.int kk j)) (k1 : j < i → WpO F l ⟨slots ((d, .bool true) :: s) T, objs os H, E, n, lv, c⟩ Q) (k2 : i ≤ j → WpO F l ⟨slots ((d, .bool false) :: s) T, objs os H, E, n, lv, c⟩ Q) : WpO F (⟨some d, .bin .gtr x y, none⟩ :: l) ⟨slots s T, objs os H, E, n, lv, c⟩ Q := by
  by_cases h : j < i
  · exact p_bin hx hy (gtr_t (by omega)) (k1 h)
  · exact p_bin hx hy (gtr_f (by omega)) (k2 (by omega))
theorem p_geq_split (hx : evL s x = some (.int kk i)) (hy : evL s y = some (.int kk j)) (k1 : j ≤ i → WpO F l ⟨slots ((d, .bool true) :: s) T, objs os H, E, n, lv, c⟩ Q) (k2 : i < j → WpO F l ⟨slots ((d, .bool false) :: s) T, objs os H, E, n, lv, c⟩ Q) : WpO F (⟨some d, .bin .geq x y, none⟩ :: l) ⟨slots s T, objs os H, E, n, lv, c⟩ Q := by
  by_cases h : j ≤ i
  · exact p_bin hx hy (geq_t (by omega)) (k1 h)
  · exact p_bin hx hy (geq_f (by omega)) (k2 (by omega))
theorem p_eql_split (hx : evL s x = some (.int kk i)) (hy : evL s y = some (.int kk j)) (k1 : i = j → WpO F l ⟨slots ((d, .bool true) :: s) T, objs os H, E, n, lv, c⟩ Q) (k2 : i ≠ j → WpO F l ⟨slots ((d, .bool false) :: s) T, objs os H, E, n, lv, c⟩ Q) : WpO F (⟨some d, .bin .eql x y, none⟩ :: l) ⟨slots s T, objs os H, E, n, lv, c⟩ Q := by
  by_cases h : i = j
  · exact p_bin hx hy (eql_t (by omega)) (k1 h)
  · exact p_bin hx hy (eql_f (by omega)) (k2 (by omega))
theorem p_neq_split (hx : evL s x = some (.int kk i)) (hy : evL s y = some (.int kk j)) (k1 : i ≠ j → WpO F l ⟨slots ((d, .bool true) :: s) T, objs os H, E, n, lv, c⟩ Q) (k2 : i = j → WpO F l ⟨slots ((d, .bool false) :: s) T, objs os H, E, n, lv, c⟩ Q) : WpO F (⟨some d, .bin .neq x y, none⟩ :: l) ⟨slots s T, objs os H, E, n, lv, c⟩ Q := by
  by_cases h : i ≠ j
  · exact p_bin hx hy (neq_t (by omega)) (k1 h)
  · exact p_bin hx hy (neq_f (by omega)) (k2 (by omega))
variable {a : IC} {k : Nat} {K : Ex → St → Prop}
theorem q_known {P : St → Prop} (ts : List (Nat × AV)) (os' : List (Nat × List AV)) (h1 : HoldsE s ts) (h2 : HoldsOE os os') (k : ∀ T H E, P ⟨slots ts T, objs os' H, E, n, lv, c⟩) : P ⟨slots s T, objs os H, E, n, lv, c⟩ := by
  obtain ⟨T', H', E', h⟩ := known_of (E := E) (n := n) (lv := lv) (c := c) (holdsE (T := T) h1) (holdsOE (H := H) h2)
  rw [h]; exact k T' H' E'
end
end Go.Abs

/- More rules to step by: the smaller of two numbers, bytes of a string, appends that keep a brand. No condition. -/
namespace Go.Abs
section
variable {F : CallF} {l : List IOper} {s : List (Nat × AV)} {os : List (Nat × List AV)} {T : Nat → AV} {H : Hp} {E : Nat → Option TypeId} {n c d : Nat} {lv : Nat → Bool} {Q : St → Prop} {x y : X}
theorem p_mnN {kk : IntKind} {i j : Nat} (hx : evL s x = some (.int kk (i : Int))) (hy : evL s y = some (.int kk (j : Int))) (k : WpO F l ⟨slots ((d, .int kk ((min i j : Nat) : Int)) :: s) T, objs os H, E, n, lv, c⟩ Q) : WpO F (⟨some d, .mn false [x, y], none⟩ :: l) ⟨slots s T, objs os H, E, n, lv, c⟩ Q :=
  p_mn2 hx hy (by
    have e : (if false = true then max (i : Int) j else min (i : Int) j) = ((min i j : Nat) : Int) := by simp; omega
    rw [e]; exact k)
theorem p_mxN {kk : IntKind} {i j : Nat} (hx : evL s x = some (.int kk (i : Int))) (hy : evL s y = some (.int kk (j : Int))) (k : WpO F l ⟨slots ((d, .int kk ((max i j : Nat) : Int)) :: s) T, objs os H, E, n, lv, c⟩ Q) : WpO F (⟨some d, .mn true [x, y], none⟩ :: l) ⟨slots s T, objs os H, E, n, lv, c⟩ Q :=
  p_mn2 hx hy (by
    have e : (if true = true then max (i : Int) j else min (i : Int) j) = ((max i j : Nat) : Int) := by simp; omega
    rw [e]; exact k)
theorem p_ixSn {l0 : List UInt8} {u : UInt8} {kk : IntKind} {i : Nat} (hx : evL s x = some (.str l0)) (hy : evL s y = some (.int kk (i : Int))) (hj : l0[i]? = some u) (k : WpO F l ⟨slots ((d, ofB u) :: s) T, objs os H, E, n, lv, c⟩ Q) : WpO F (⟨some d, .ixS x y, none⟩ :: l) ⟨slots s T, objs os H, E, n, lv, c⟩ Q :=
  p_ixS hx hy (by omega) (by rw [Int.toNat_natCast]; exact hj) k
def LA (sz : Nat) (lv : Nat → Bool) (c br s0 : Nat) (xs : List AV) : Prop := (br = 0 ∧ s0 = 0 ∧ xs = []) ∨ (4 ≤ br ∧ br < c ∧ lv br = true ∧ s0 = sz)
theorem LA.nil {sz : Nat} : LA sz lv c 0 0 [] := .inl ⟨rfl, rfl, rfl⟩
theorem LA.mine {sz : Nat} {xs : List AV} (h4 : 4 ≤ c) (h : lv c = true) : LA sz lv (c + 1) c sz xs := .inr ⟨h4, Nat.lt_succ_self _, h, rfl⟩
theorem p_appL {sz bytes br s0 b2 : Nat} {xs ys : List AV} (hx : evL s x = some (.sl br s0 xs)) (hy : evL s y = some (.sl b2 sz ys)) (hne : ys.isEmpty = false) (hL : LA sz lv c br s0 xs) (h0 : 0 < sz ∧ 0 < bytes) (hr : (xs.length + ys.length) / sz * bytes ≤ room)
    (k : ∀ lv', lv' c = true → (∀ z, z < c → z ≠ br → lv' z = lv z) → WpO F l ⟨slots ((d, .sl c sz (xs ++ ys)) :: s) T, objs os H, E, n, lv', c + 1⟩ Q) : WpO F (⟨some d, .app sz bytes x y, none⟩ :: l) ⟨slots s T, objs os H, E, n, lv, c⟩ Q := by
  refine p_app hx ?_ hy (fun H => if_pos (.inl rfl)) h0 hr ?_ ?_ k
  · rcases hL with ⟨h1, h2, h3⟩ | ⟨_, _, _, h⟩
    · exact .inr ⟨h3, by omega⟩
    · exact .inl h
  · rcases hL with ⟨h1, h2, h3⟩ | ⟨h1, h2, h3, _⟩
    · exact .inl ⟨h1, h3⟩
    · exact .inr (.inr ⟨h1, h2, h3⟩)
  · intro e; subst e; cases hne
end
end Go.Abs

/- More rules to step by: parts of an object's slice, appends of them, a store of a whole object. No condition. -/
namespace Go.Abs
section
variable {F : CallF} {l : List IOper} {s : List (Nat × AV)} {os : List (Nat × List AV)} {T : Nat → AV} {H : Hp} {E : Nat → Option TypeId} {n c d : Nat} {lv : Nat → Bool} {Q : St → Prop} {x y : X} {b : AV}
theorem p_appH {sz bytes br s0 : Nat} {xs ys : List AV} (hx : evL s x = some (.sl br s0 xs)) (hs : s0 = sz ∨ (xs = [] ∧ br < 4)) (hy : evL s y = some b) (hb : src (objs os H) sz b = some ys) (h0 : 0 < sz ∧ 0 < bytes) (hr : (xs.length + ys.length) / sz * bytes ≤ room) (ho : Own lv c br xs) (hne : ys ≠ [])
    (k : ∀ lv', lv' c = true → (∀ z, z < c → z ≠ br → lv' z = lv z) → WpO F l ⟨slots ((d, .sl c sz (xs ++ ys)) :: s) T, objs os H, E, n, lv', c + 1⟩ Q) : WpO F (⟨some d, .app sz bytes x y, none⟩ :: l) ⟨slots s T, objs os H, E, n, lv, c⟩ Q := by
  rcases ho with ⟨rfl, rfl⟩ | rfl | ⟨h4, hlt, hl⟩
  · refine o_brand (v := .sl c sz ([] ++ ys)) rfl ?_ fun lv' h1 h2 => k lv' h1 fun z hz _ => h2 z hz
    simp only [evOp, evL_ev hx, evL_ev hy, hb]
    rw [if_pos ⟨hs.imp id fun h => ⟨trivial, h.2⟩, h0.1, h0.2, hr⟩, if_pos (.inl trivial), if_neg hne]
  · refine o_brand (v := .sl c sz (xs ++ ys)) rfl ?_ fun lv' h1 h2 => k lv' h1 fun z hz _ => h2 z hz
    simp only [evOp, evL_ev hx, evL_ev hy, hb]
    rw [if_pos ⟨hs, h0.1, h0.2, hr⟩, if_pos (.inr trivial), if_neg hne]
  · refine o_brand_use (v := .sl c sz (xs ++ ys)) (br := br) rfl ?_ k
    simp only [evOp, evL_ev hx, evL_ev hy, hb]
    rw [if_pos ⟨hs, h0.1, h0.2, hr⟩, if_neg (by omega), if_pos ⟨h4, hl⟩]
theorem src_osl {id off len sz : Nat} {cs ys : List AV} (ho : lkO os id = some cs) (he : (cs.drop off).take (len * sz) = ys) (hle : off + len * sz ≤ cs.length) (hf : flatL ys = true) : src (objs os H) sz (.osl id off len sz) = some ys := by
  simp only [src, lkO_objs ho, he]
  rw [if_pos ⟨trivial, hle, hf⟩]
theorem p_appO {sz bytes br s0 id off len : Nat} {xs ys cs : List AV} (hx : evL s x = some (.sl br s0 xs)) (hy : evL s y = some (.osl id off len sz)) (ho : lkO os id = some cs) (he : (cs.drop off).take (len * sz) = ys) (hle : off + len * sz ≤ cs.length) (hf : flatL ys = true) (hne : ys ≠ []) (hL : LA sz lv c br s0 xs) (h0 : 0 < sz ∧ 0 < bytes) (hr : (xs.length + ys.length) / sz * bytes ≤ room)
    (k : ∀ lv', lv' c = true → (∀ z, z < c → z ≠ br → lv' z = lv z) → WpO F l ⟨slots ((d, .sl c sz (xs ++ ys)) :: s) T, objs os H, E, n, lv', c + 1⟩ Q) : WpO F (⟨some d, .app sz bytes x y, none⟩ :: l) ⟨slots s T, objs os H, E, n, lv, c⟩ Q := by
  refine p_appH hx ?_ hy (src_osl ho he hle hf) h0 hr ?_ hne k
  · rcases hL with ⟨h1, h2, h3⟩ | ⟨_, _, _, h⟩
    · exact .inr ⟨h3, by omega⟩
    · exact .inl h
  · rcases hL with ⟨h1, h2, h3⟩ | ⟨h1, h2, h3, _⟩
    · exact .inl ⟨h1, h3⟩
    · exact .inr (.inr ⟨h1, h2, h3⟩)
theorem p_storeA {id sz : Nat} {z cs : List AV} {d : Option Nat} (hx : evL s x = some (.ref id 0)) (hy : evL s y = some (.agg cs)) (ho : lkO os id = some z) (h1 : cs.length = sz) (h2 : z.length = sz) (hd : d = none)
    (k : WpO F l ⟨slots s T, objs ((id, cs) :: os) H, E, n, lv, c⟩ Q) : WpO F (⟨d, .store sz x y, none⟩ :: l) ⟨slots s T, objs os H, E, n, lv, c⟩ Q := by
  subst hd
  refine o_wr (id := id) (cs := cs) (v := .tup []) rfl ?_ k
  simp only [evOp, evL_ev hx, evL_ev hy, stored, lkO_objs ho]
  rw [if_pos ⟨h1, by omega⟩]
  simp only [put1, splice, List.take_zero, List.nil_append, Nat.zero_add]
  rw [List.drop_of_length_le (by omega), List.append_nil]
end
end Go.Abs

/- More rules to step by: maps, regions whose stores and loads are apart, appends that make objects, calls that use brands. No condition. -/
namespace Go.Abs
section
variable {F : CallF} {l : List IOper} {s : List (Nat × AV)} {os : List (Nat × List AV)} {T : Nat → AV} {H : Hp} {E : Nat → Option TypeId} {n c d : Nat} {lv : Nat → Bool} {Q : St → Prop} {x y z : X} {b : AV}
theorem p_mkm (k : ∀ E, WpO F l ⟨slots ((d, .mp n) :: s) T, objs ((n, [.bool true]) :: os) H, E, n + 1, lv, c⟩ Q) : WpO F (⟨some d, .mkm, none⟩ :: l) ⟨slots s T, objs os H, E, n, lv, c⟩ Q :=
  o_new (v := .mp n) (cs := [.bool true]) (t := none) rfl rfl (k _)
theorem p_mget {kd id : Nat} {zr u : AV} {es : List AV} {r : Option AV} (hx : evL s x = some (.mp id)) (ho : lkO os id = some (.bool true :: es)) (hy : evL s y = some u) (hu : u.scalar = true) (hk : Nat.blt kd 3 = true) (hg : getM kd u es = some r)
    (k : WpO F l ⟨slots ((d, r.getD zr) :: s) T, objs os H, E, n, lv, c⟩ Q) : WpO F (⟨some d, .mget kd false zr x y, none⟩ :: l) ⟨slots s T, objs os H, E, n, lv, c⟩ Q :=
  o_eff rfl (by
    simp only [evOp, evL_ev hx, evL_ev hy, lkO_objs ho]
    rw [if_pos ⟨by simpa using hk, hu⟩, hg]
    cases r <;> rfl) k
theorem p_mget2 {kd id : Nat} {zr u : AV} {es : List AV} {r : Option AV} (hx : evL s x = some (.mp id)) (ho : lkO os id = some (.bool true :: es)) (hy : evL s y = some u) (hu : u.scalar = true) (hk : Nat.blt kd 3 = true) (hg : getM kd u es = some r)
    (k : WpO F l ⟨slots ((d, .tup [r.getD zr, .bool r.isSome]) :: s) T, objs os H, E, n, lv, c⟩ Q) : WpO F (⟨some d, .mget kd true zr x y, none⟩ :: l) ⟨slots s T, objs os H, E, n, lv, c⟩ Q :=
  o_eff rfl (by
    simp only [evOp, evL_ev hx, evL_ev hy, lkO_objs ho]
    rw [if_pos ⟨by simpa using hk, hu⟩, hg]
    cases r <;> rfl) k
theorem p_mupd {kd id : Nat} {u v : AV} {es es' : List AV} {d : Option Nat} (hx : evL s x = some (.mp id)) (ho : lkO os id = some (.bool true :: es)) (hy : evL s y = some u) (hz : evL s z = some v) (hu : u.scalar = true) (hk : Nat.blt kd 3 = true) (hv : (stored v).isSome = true) (hg : setM kd u v es = some es') (hd : d = none)
    (k : WpO F l ⟨slots s T, objs ((id, .bool true :: es') :: os) H, E, n, lv, c⟩ Q) : WpO F (⟨d, .mupd kd x y z, none⟩ :: l) ⟨slots s T, objs os H, E, n, lv, c⟩ Q := by
  subst hd
  refine o_wr (id := id) (cs := .bool true :: es') (v := .tup []) rfl ?_ k
  simp only [evOp, evL_ev hx, evL_ev hy, evL_ev hz, lkO_objs ho]
  rw [if_pos ⟨by simpa using hk, hu, hv⟩, hg]
theorem p_nchk {id off : Nat} (hx : evL s x = some (.ref id off)) (k : WpO F l ⟨slots ((d, .ref id off) :: s) T, objs os H, E, n, lv, c⟩ Q) : WpO F (⟨some d, .nchk x, none⟩ :: l) ⟨slots s T, objs os H, E, n, lv, c⟩ Q :=
  o_eff rfl (by simp only [evOp, evL_ev hx]) k
end
section
variable {F : CallF} {k : Nat} {l : List IOper} {s : List (Nat × AV)} {os : List (Nat × List AV)} {T : Nat → AV} {H : Hp} {E : Nat → Option TypeId} {n c : Nat} {lv : Nat → Bool} {K : Ex → St → Prop}
def apartL (s : List (Nat × AV)) (p : Nat × Nat) : Bool := match lk s p.1, lk s p.2 with
  | some (.ref a _), some (.ref b _) => !Nat.beq a b
  | some (.ref _ _), some (.pp _ _) => true
  | some (.pp _ _), some (.ref _ _) => true
  | _, _ => false
theorem apartL_eq {p : Nat × Nat} (h : apartL s p = true) : apartS (slots s T) p = true := by
  unfold apartL at h
  split at h
  · rename_i a o b o' h1 h2
    have e1 : slots s T p.1 = .ref a o := lk_slots h1
    have e2 : slots s T p.2 = .ref b o' := lk_slots h2
    have hne : a ≠ b := fun e => by
      subst e
      have hr : Nat.beq a a = true := Nat.beq_refl a
      rw [hr] at h; cases h
    simp only [apartS, e1, e2]
    simpa using hne
  · rename_i h1 h2
    simp only [apartS, show slots s T p.1 = _ from lk_slots h1, show slots s T p.2 = _ from lk_slots h2]
  · rename_i h1 h2
    simp only [apartS, show slots s T p.1 = _ from lk_slots h1, show slots s T p.2 = _ from lk_slots h2]
  · cases h
theorem q_opsX {ps : List (Nat × Nat)} (h : WpO F l ⟨slots s T, objs os H, E, n, lv, c⟩ (AndX ps (K .norm))) : Wp F k (.opsX l ps) ⟨slots s T, objs os H, E, n, lv, c⟩ K := w_opsX h
theorem q_opsC (i : Nat) (qs : List Nat) {io : IOper} {ps cs : List (Nat × Nat)} (hg : l[i]? = some io) (hc : (qs.map fun q => (i, q)) = cs) (h : WpO F (l.take i) ⟨slots s T, objs os H, E, n, lv, c⟩ (AtX F io (l.drop (i + 1)) qs (AndX ps (K .norm)))) : Wp F k (.opsC l ps cs) ⟨slots s T, objs os H, E, n, lv, c⟩ K := by
  obtain ⟨hi, rfl⟩ := List.getElem?_eq_some_iff.1 hg
  have e := w_opsC (k := k) h
  have e1 : l.take i ++ l[i] :: l.drop (i + 1) = l := by rw [List.getElem_cons_drop, List.take_append_drop]
  rw [e1, show (l.take i).length = i by rw [List.length_take]; omega, hc] at e
  exact e
theorem q_atX {io : IOper} {qs : List Nat} {Q : St → Prop} {S : St} (h : WpO F [io] S (BehX F l S qs Q)) : AtX F io l qs Q S := ⟨h⟩
theorem q_behX {qs : List Nat} {Q : St → Prop} {S1 S2 : St} (h : WpO F l S2 (SameX S1 S2 qs Q)) : BehX F l S1 qs Q S2 := ⟨h⟩
theorem q_sameX {qs : List Nat} {Q : St → Prop} {S1 S2 S : St} (h1 : ∀ q, q ∈ qs → ∃ id o, S.T q = .ref id o ∧ S2.H id = S1.H id) (h : Q S) : SameX S1 S2 qs Q S := ⟨h1, h⟩
theorem q_andX {ps : List (Nat × Nat)} {Q : St → Prop} (hp : ps.all (apartL s) = true) (h : Q ⟨slots s T, objs os H, E, n, lv, c⟩) : AndX ps Q ⟨slots s T, objs os H, E, n, lv, c⟩ :=
  ⟨List.all_eq_true.2 fun p hp' => apartL_eq (List.all_eq_true.1 hp p hp'), h⟩
end
end Go.Abs

/- Shared calls that use brands, and loops in them. No condition. -/
namespace Go.Abs
section
variable {F : CallF} {k : Nat} {s : List (Nat × AV)} {os : List (Nat × List AV)} {T : Nat → AV} {H : Hp} {E : Nat → Option TypeId} {n c : Nat} {lv : Nat → Bool} {K : Ex → St → Prop} {a : IC}
def HeadX {α : Type} (I : LInv α) (B : α → (Nat → Bool) → Nat → Prop) (R : Hp → Prop) (n : Nat) (i : α) (S : St) : Prop := I.P i ∧ ∃ lv c, B i lv c ∧ R S.H ∧ Known (I.ts i) (I.os i) n lv c S
structure nextX {α : Type} (I : LInv α) (B : α → (Nat → Bool) → Nat → Prop) (R : Hp → Prop) (n m : Nat) (K : Ex → St → Prop) (e : Ex) (S : St) : Prop where
  h : match e with
    | .norm => ∃ j, I.μ j < m ∧ HeadX I B R n j (pop n S)
    | e => K e S
theorem q_loopX {α : Type} (I : LInv α) (B : α → (Nat → Bool) → Nat → Prop) (R : Hp → Prop) (i : α) (hP : I.P i) (hB : B i lv c) (hR : R (objs os H)) (hμ : I.μ i < k) (h1 : HoldsE s (I.ts i)) (h2 : HoldsOE os (I.os i))
    (round : ∀ i lv c T H E, I.P i → B i lv c → R (objs (I.os i) H) → I.μ i < k → Wp F k a ⟨slots (I.ts i) T, objs (I.os i) H, E, n, lv, c⟩ (nextX I B R n (I.μ i) K)) : Wp F k (.loop a) ⟨slots s T, objs os H, E, n, lv, c⟩ K := by
  have key : ∀ (m : Nat) (i : α) (S : St), HeadX I B R n i S → I.μ i < m → m ≤ k → ∃ e S', evLoop (evCode F k a) n m S = some (e, S') ∧ K e S' := by
    intro m
    induction m with
    | zero => intro i S _ h; omega
    | succ m ih =>
      rintro i S ⟨hP, lv, c, hB, hR, T, H, E, rfl⟩ hlt hmk
      obtain ⟨e, S1, q1, q2⟩ := (round i lv c T H E hP hB hR (by omega)).ex
      cases e with
      | norm =>
        obtain ⟨j, hj, hh⟩ := q2.h
        obtain ⟨e2, S2, r1, r2⟩ := ih j _ hh (by omega) (by omega)
        exact ⟨e2, S2, by simp only [evLoop, q1]; exact r1, r2⟩
      | exit id => exact ⟨.exit id, S1, by simp only [evLoop, q1], q2.h⟩
      | ret => exact ⟨.ret, S1, by simp only [evLoop, q1], q2.h⟩
  obtain ⟨e, S', r1, r2⟩ := key k i _ ⟨hP, lv, c, hB, hR, known_of (holdsE h1) (holdsOE h2)⟩ hμ (Nat.le_refl _)
  exact ⟨e, S', by simp only [evCode]; exact r1, r2⟩
theorem x_again {α : Type} {I : LInv α} {B : α → (Nat → Bool) → Nat → Prop} {R : Hp → Prop} {m n' : Nat} (j : α) (hP : I.P j) (hB : B j lv c) (hR : R (keepH n (objs os H))) (hμ : I.μ j < m) (h1 : HoldsS n s (I.ts j)) (h2 : HoldsOS n os (I.os j)) : nextX I B R n m K .norm ⟨slots s T, objs os H, E, n', lv, c⟩ :=
  ⟨j, hμ, hP, lv, c, hB, hR, known_pop (holdsS h1) (holdsOS h2)⟩
theorem x_exit {α : Type} {I : LInv α} {B : α → (Nat → Bool) → Nat → Prop} {R : Hp → Prop} {m id : Nat} {S : St} (h : K (.exit id) S) : nextX I B R n m K (.exit id) S := ⟨h⟩
theorem Writes.fuel {FN : FuncId → Option FnDef} {k1 k2 : Nat} {f : FuncId} {vs : List AV} {R : AV} {id : Nat} {v : List AV} (h : Writes (evCall FN k1) f vs os H n lv c E R id v) (hk : k1 ≤ k2) : Writes (evCall FN k2) f vs os H n lv c E R id v := by
  obtain ⟨H', h1, h2⟩ := h.ex
  exact ⟨H', (evCall_mono (fun _ _ h => h) k1 k2 hk).call _ _ _ _ _ h1, h2⟩
end
section
variable {F : CallF} {l : List IOper} {s : List (Nat × AV)} {os : List (Nat × List AV)} {T : Nat → AV} {H : Hp} {E : Nat → Option TypeId} {n c d : Nat} {lv : Nat → Bool} {Q : St → Prop}
theorem Same.cons {n0 id i : Nat} {v : List AV} {H0 : Hp} (h : Same n0 id H0 (Go.Abs.objs os H)) (hi : (Nat.beq i id || Nat.ble n0 i) = true) : Same n0 id H0 (Go.Abs.objs ((i, v) :: os) H) :=
  Same.upd h ((Bool.or_eq_true _ _ ▸ hi).imp Nat.eq_of_beq_eq_true Nat.le_of_ble_eq_true)
theorem p_writesX {f : FuncId} {xs : List X} {args : List AV} {R : AV} {id n0 : Nat} {v : List AV} {H0 : Hp} {os' : List (Nat × List AV)} (ha : evsS s xs = some args) (hc : ∀ H E, Writes F f args os H n lv c E R id v) (hx : HoldsX n id v os os') (hS : Same n0 id H0 (objs os H)) (hn : n0 ≤ n)
    (k : ∀ H', Same n0 id H0 (objs os' H') → WpO F l ⟨slots ((d, R) :: s) T, objs os' H', E, n, lv, c⟩ Q) :
    WpO F (⟨some d, .calls f xs, none⟩ :: l) ⟨slots s T, objs os H, E, n, lv, c⟩ Q := by
  obtain ⟨H', h1, h2, h3⟩ := (hc H E).ex
  have e : objs os' H' = H' := objs_self (holdsX h2 h3 hx)
  have hS' : Same n0 id H0 H' := hS.after hn h3
  have := k H' (by rw [e]; exact hS')
  rw [e] at this
  exact p_calls (dd := some d) (evsS_eq ha) h1 this
end
end Go.Abs

/- An append of anything, to a list of one's own. No condition. -/
namespace Go.Abs
section
variable {F : CallF} {l : List IOper} {s : List (Nat × AV)} {os : List (Nat × List AV)} {T : Nat → AV} {H : Hp} {E : Nat → Option TypeId} {n c d : Nat} {lv : Nat → Bool} {Q : St → Prop} {x y : X} {b : AV}
def Own3 (lv : Nat → Bool) (c br : Nat) : Prop := br = 3 ∨ (4 ≤ br ∧ br < c ∧ lv br = true)
theorem Own3.three {lv : Nat → Bool} {c : Nat} : Own3 lv c 3 := .inl rfl
theorem Own3.ne1 {lv : Nat → Bool} {c br : Nat} (h : Own3 lv c br) : br ≠ 1 := by rcases h with h | h <;> omega
theorem p_appX {sz bytes br : Nat} {xs ys : List AV} (hx : evL s x = some (.sl br sz xs)) (hy : evL s y = some b) (hb : ∀ H, src H sz b = some ys) (h0 : 0 < sz ∧ 0 < bytes) (hr : (xs.length + ys.length) / sz * bytes ≤ room) (ho : Own3 lv c br) (h4 : 4 ≤ c)
    (k : ∀ br' lv' c', c ≤ c' → Own3 lv' c' br' → (∀ z, z < c → z ≠ br → lv' z = lv z) → WpO F l ⟨slots ((d, .sl br' sz (xs ++ ys)) :: s) T, objs os H, E, n, lv', c'⟩ Q) : WpO F (⟨some d, .app sz bytes x y, none⟩ :: l) ⟨slots s T, objs os H, E, n, lv, c⟩ Q := by
  have more : ys ≠ [] → Own lv c br xs → WpO F (⟨some d, .app sz bytes x y, none⟩ :: l) ⟨slots s T, objs os H, E, n, lv, c⟩ Q := fun hne hw =>
    p_app hx (.inl rfl) hy hb h0 hr hw hne fun lv' l1 l2 => k c lv' (c + 1) (by omega) (.inr ⟨h4, by omega, l1⟩) l2
  rcases ho with rfl | ⟨g1, g2, g3⟩
  · by_cases hne : ys = []
    · subst hne
      refine p_app_nil hx (.inl rfl) hy hb h0 (by simpa using hr) (.inr rfl) ?_
      have := k 3 lv c (Nat.le_refl _) (.inl rfl) (fun _ _ _ => rfl)
      rwa [List.append_nil] at this
    · exact more hne (.inr (.inl rfl))
  · by_cases hne : ys = []
    · subst hne
      refine o_brand_use (v := .sl c sz (xs ++ [])) (br := br) rfl ?_ fun lv' l1 l2 => k c lv' (c + 1) (by omega) (.inr ⟨h4, by omega, l1⟩) l2
      simp only [evOp, evL_ev hx, evL_ev hy, hb]
      rw [if_pos ⟨.inl trivial, h0.1, h0.2, hr⟩, if_neg (by omega), if_pos ⟨g1, g3⟩]
    · exact more hne (.inr (.inr ⟨g1, g2, g3⟩))
structure Own4 (lv : Nat → Bool) (c br : Nat) : Prop where
  ge : 4 ≤ br
  lt : br < c
  on : lv br = true
theorem p_appZ {sz bytes br : Nat} {xs ys : List AV} (hx : evL s x = some (.sl br sz xs)) (hy : evL s y = some b) (hb : ∀ H, src H sz b = some ys) (h0 : 0 < sz ∧ 0 < bytes) (hr : (xs.length + ys.length) / sz * bytes ≤ room) (ho : Own4 lv c br) (h4 : 4 ≤ c)
    (k : ∀ lv', Own4 lv' (c + 1) c → (∀ z, z < c → z ≠ br → lv' z = lv z) → WpO F l ⟨slots ((d, .sl c sz (xs ++ ys)) :: s) T, objs os H, E, n, lv', c + 1⟩ Q) : WpO F (⟨some d, .app sz bytes x y, none⟩ :: l) ⟨slots s T, objs os H, E, n, lv, c⟩ Q := by
  refine o_brand_use (v := .sl c sz (xs ++ ys)) (br := br) rfl ?_ fun lv' l1 l2 => k lv' ⟨h4, by omega, l1⟩ l2
  simp only [evOp, evL_ev hx, evL_ev hy, hb]
  have := ho.ge
  rw [if_pos ⟨.inl trivial, h0.1, h0.2, hr⟩, if_neg (by omega), if_pos ⟨ho.ge, ho.on⟩]
theorem Own4.own {lv : Nat → Bool} {c br sz : Nat} {xs : List AV} (h : Own4 lv c br) : ownCell true lv (.sl br sz xs) = .sl 2 sz xs := by
  have := h.ge
  simp only [ownCell]
  rw [if_neg (by omega), if_pos ⟨h.ge, by rw [h.on]; rfl⟩]
theorem Own4.canon {lv : Nat → Bool} {c br sz : Nat} {xs : List AV} (h : Own4 lv c br) : canonCell (.sl br sz xs) = csl sz xs := if_neg (by have := h.ge; omega)
end
end Go.Abs

/- Stepping rules that choose by themselves: one that goes on in one way, one that goes on in two. No condition. -/
namespace Go.Abs
structure Keep (A : Prop) : Prop where
  a : A
theorem stN {A B : Prop} (a : A) (h : Keep A → B := by
  intro hA
  first
   | (apply o_nil; exact hA.a)
   | (apply p_mov; exact rfl; exact hA.a)
   | (apply p_load; (iterate 4 exact rfl); exact hA.a)
   | (apply p_bin; exact rfl; exact rfl; (first | (with_reducible first | assumption | exact add_nn (by omega) | exact add_nl (by omega) | exact add_ln (by omega) | exact sub_nn (by omega) | exact sub_nl (by omega) | exact sub_ln (by omega) | exact mul_nl (by omega) | exact mul_ln (by omega) | exact mul_nn (by omega) | exact quo_nl (by omega) | exact quo_nn (by omega) | exact rem_nl (by omega) | exact rem_nn (by omega) | exact shr_n (by omega) | exact shr_l (by omega) | exact lss_t (by omega) | exact lss_f (by omega) | exact leq_t (by omega) | exact leq_f (by omega) | exact gtr_t (by omega) | exact gtr_f (by omega) | exact geq_t (by omega) | exact geq_f (by omega) | exact eql_t (by omega) | exact eql_f (by omega) | exact neq_t (by omega) | exact neq_f (by omega)) | exact rfl); exact hA.a)
   | (apply p_fadd; exact rfl; exact hA.a)
   | (apply p_box; exact rfl; exact rfl; exact hA.a)
   | (apply p_new; exact hA.a)
   | (apply p_store; (iterate 3 exact rfl); (first | with_reducible assumption | exact rfl); exact rfl; exact rfl; exact hA.a)
   | (apply p_convA; exact rfl; (first | with_reducible assumption | with_reducible exact w64 (by omega) (by omega) | with_reducible exact w32 (by omega) (by omega) | with_reducible exact w8n _); exact hA.a)
   | (apply p_conv; exact rfl; exact hA.a)
   | (apply p_len; exact rfl; (first | exact csz_ok _ _ | exact .inl rfl | exact .inr rfl | assumption); exact hA.a)
   | (apply p_len_osl; exact rfl; exact hA.a)
   | (apply p_lenS; exact rfl; exact hA.a)
   | (apply p_ext; exact rfl; exact rfl; exact hA.a)
   | (apply p_build; exact rfl; exact rfl; exact hA.a)
   | (apply p_bsl; (iterate 4 exact rfl); (first | exact rfl | (simp only [List.length_cons, List.length_nil]; exact rfl)); exact hA.a)
   | (apply p_un; exact rfl; exact rfl; exact hA.a)
   | (apply p_call; exact rfl; exact rfl; (first | assumption); exact hA.a)
   | (apply p_iaS; exact rfl; exact rfl; (first | exact csz_ok _ _ | exact .inl rfl | assumption); (first | with_reducible assumption | with_reducible exact inB_n (by simp only [List.length_map, List.length_cons, List.length_nil]; omega) | with_reducible exact inB_n (by omega) | with_reducible exact inB_l (by simp only [List.length_map]; omega) | with_reducible exact inB_l (by omega) | exact rfl); exact hA.a)
   | (apply p_iaA; exact rfl; exact rfl; (first | with_reducible assumption | with_reducible exact inB_n (by simp only [List.length_map, List.length_cons, List.length_nil]; omega) | with_reducible exact inB_n (by omega) | with_reducible exact inB_l (by simp only [List.length_map]; omega) | with_reducible exact inB_l (by omega) | exact rfl); exact hA.a)
   | (apply p_iaA_pp; exact rfl; exact rfl; (first | with_reducible assumption | with_reducible exact inB_n (by simp only [List.length_map, List.length_cons, List.length_nil]; omega) | with_reducible exact inB_n (by omega) | with_reducible exact inB_l (by simp only [List.length_map]; omega) | with_reducible exact inB_l (by omega) | exact rfl); exact hA.a)
   | (apply p_load_pp; exact rfl; (first | with_reducible assumption | exact rfl); exact hA.a)
   | (apply p_load_cp; (iterate 3 exact rfl); exact hA.a)
   | (apply p_fadd_cp; exact rfl; exact hA.a)
   | (apply p_nchk_cp; exact rfl; exact hA.a)
   | (apply p_s2a; exact rfl; (first | with_reducible assumption | exact ⟨rfl, by omega, by omega, by omega⟩); exact hA.a)
   | (apply p_s2a_osl; exact rfl; (first | with_reducible assumption | exact ⟨rfl, by omega, by omega⟩); exact hA.a)
   | (apply p_fadd_pp; exact rfl; exact hA.a)
   | (apply p_iaS_osl; exact rfl; exact rfl; (first | with_reducible assumption | with_reducible exact inB_n (by simp only [List.length_map, List.length_cons, List.length_nil]; omega) | with_reducible exact inB_n (by omega) | with_reducible exact inB_l (by simp only [List.length_map]; omega) | with_reducible exact inB_l (by omega) | exact rfl); exact hA.a)
   | (apply p_slA_ref_lo; exact rfl; exact rfl; (first | with_reducible assumption | with_reducible exact asB_n (by simp only [List.length_map]; omega) | with_reducible exact asB_n (by omega) | with_reducible exact asB_l (by omega)); (first | with_reducible assumption | omega); exact hA.a)
   | (apply p_slA_pp_lo; exact rfl; exact rfl; (first | with_reducible assumption | with_reducible exact asB_n (by simp only [List.length_map]; omega) | with_reducible exact asB_n (by omega) | with_reducible exact asB_l (by omega)); (first | with_reducible assumption | omega); (first | with_reducible assumption | (simp only [List.length_map]; omega)); exact hA.a)
   | (apply p_slL3_hi; exact rfl; exact rfl; (first | with_reducible assumption | with_reducible exact asB_n (by simp only [List.length_map]; omega) | with_reducible exact asB_n (by omega) | with_reducible exact asB_l (by omega) | with_reducible exact asB_l (by simp only [List.length_cons, List.length_nil, Nat.div_one]; omega)); exact hA.a)
   | (apply p_slL3_lo; exact rfl; exact rfl; (first | with_reducible assumption | with_reducible exact asB_n (by simp only [List.length_map]; omega) | with_reducible exact asB_n (by omega) | with_reducible exact asB_l (by omega) | with_reducible exact asB_l (by simp only [List.length_cons, List.length_nil, Nat.div_one]; omega)); exact hA.a)
   | (apply p_mkf; exact rfl; exact rfl; exact hA.a)
   | (apply p_mkm; exact hA.a)
   | (apply p_nchk; exact rfl; exact hA.a)
   | (apply p_mget; (iterate 5 exact rfl); (first | with_reducible assumption | exact rfl); exact hA.a)
   | (apply p_mget2; (iterate 5 exact rfl); (first | with_reducible assumption | exact rfl); exact hA.a)
   | (apply p_mupd; (iterate 7 exact rfl); (first | with_reducible assumption | exact rfl); exact rfl; exact hA.a)
   | (apply q_opsX; exact hA.a)
   | (apply q_andX; exact rfl; exact hA.a)
   | (apply p_eq; (iterate 3 exact rfl); exact hA.a)
   | (apply p_fld; (iterate 3 exact rfl); exact hA.a)
   | (apply p_guard_yes; exact rfl; exact hA.a)
   | (apply p_guard_no; exact rfl; exact rfl; exact hA.a)
   | (apply p_guard_skip; exact rfl; exact hA.a)
   | (apply p_pick_true; exact rfl; exact rfl; exact hA.a)
   | (apply p_pick_false; exact rfl; exact rfl; exact hA.a)
   | (apply p_pick_bool; (iterate 3 exact rfl); exact hA.a)
   | (apply w_seq; exact hA.a)
   | (apply w_ops; exact hA.a)
   | (apply k_norm; exact hA.a)
   | (apply k_exit; exact hA.a)
   | (apply k_ret; exact hA.a)
   | (apply w_ret; exact hA.a)
   | (apply w_exit; exact hA.a)
   | (apply w_skip; exact hA.a)
   | (apply w_block; exact hA.a)
   | (apply b_norm; exact hA.a)
   | (apply b_ret; exact hA.a)
   | (apply b_exit; exact hA.a)
   | (apply b_other; exact rfl; exact hA.a)
   | (apply q_cond_true; exact rfl; exact hA.a)
   | (apply q_cond_false; exact rfl; exact hA.a)
   | (apply p_mnN; exact rfl; exact rfl; exact hA.a)
   | (apply p_mxN; exact rfl; exact rfl; exact hA.a)
   | (apply p_slS_both; exact rfl; exact rfl; exact rfl; (first | (with_reducible assumption) | exact asB_n (by omega)); (first | (with_reducible assumption) | exact asB_n (by omega)); exact hA.a)
   | (apply p_ixSn; exact rfl; exact rfl; (with_reducible assumption); exact hA.a)
   | (apply p_ixS; exact rfl; exact rfl; decide; exact rfl; exact hA.a)
   | (apply p_slS_hi; exact rfl; exact rfl; (first | (with_reducible assumption) | exact asB_n (by omega)); exact hA.a)
   | (apply p_slS_lo; exact rfl; exact rfl; (first | (with_reducible assumption) | exact asB_n (by omega)); exact hA.a)) : B := h ⟨a⟩
theorem stM {A B : Prop} (a : A) (h : Keep A → B := by
  intro hA
  first
   | (apply o_nil; exact hA.a)
   | (apply p_mov; exact rfl; exact hA.a)
   | (apply p_load; (iterate 4 exact rfl); exact hA.a)
   | (apply p_bin; exact rfl; exact rfl; (first | (with_reducible first | assumption | exact add_nn (by omega) | exact add_nl (by omega) | exact add_ln (by omega) | exact sub_nn (by omega) | exact sub_nl (by omega) | exact sub_ln (by omega) | exact mul_nl (by omega) | exact mul_ln (by omega) | exact mul_nn (by omega) | exact quo_nl (by omega) | exact quo_nn (by omega) | exact rem_nl (by omega) | exact rem_nn (by omega) | exact shr_n (by omega) | exact shr_l (by omega) | exact lss_t (by omega) | exact lss_f (by omega) | exact leq_t (by omega) | exact leq_f (by omega) | exact gtr_t (by omega) | exact gtr_f (by omega) | exact geq_t (by omega) | exact geq_f (by omega) | exact eql_t (by omega) | exact eql_f (by omega) | exact neq_t (by omega) | exact neq_f (by omega))); exact hA.a)
   | (apply p_fadd; exact rfl; exact hA.a)
   | (apply p_box; exact rfl; exact rfl; exact hA.a)
   | (apply p_new; exact hA.a)
   | (apply p_store; (iterate 3 exact rfl); (first | with_reducible assumption | exact rfl); exact rfl; exact rfl; exact hA.a)
   | (apply p_convA; exact rfl; (first | with_reducible assumption | with_reducible exact w64 (by omega) (by omega) | with_reducible exact w32 (by omega) (by omega) | with_reducible exact w8n _); exact hA.a)
   | (apply p_conv; exact rfl; exact hA.a)
   | (apply p_len; exact rfl; (first | exact csz_ok _ _ | exact .inl rfl | exact .inr rfl | assumption); exact hA.a)
   | (apply p_len_osl; exact rfl; exact hA.a)
   | (apply p_lenS; exact rfl; exact hA.a)
   | (apply p_ext; exact rfl; exact rfl; exact hA.a)
   | (apply p_build; exact rfl; exact rfl; exact hA.a)
   | (apply p_bsl; (iterate 4 exact rfl); (first | exact rfl | (simp only [List.length_cons, List.length_nil]; exact rfl)); exact hA.a)
   | (apply p_un; exact rfl; exact rfl; exact hA.a)
   | (apply p_call; exact rfl; exact rfl; (first | assumption); exact hA.a)
   | (apply p_iaS; exact rfl; exact rfl; (first | exact csz_ok _ _ | exact .inl rfl | assumption); (first | with_reducible assumption | with_reducible exact inB_n (by simp only [List.length_map, List.length_cons, List.length_nil]; omega) | with_reducible exact inB_n (by omega) | with_reducible exact inB_l (by simp only [List.length_map]; omega) | with_reducible exact inB_l (by omega) | exact rfl); exact hA.a)
   | (apply p_iaA; exact rfl; exact rfl; (first | with_reducible assumption | with_reducible exact inB_n (by simp only [List.length_map, List.length_cons, List.length_nil]; omega) | with_reducible exact inB_n (by omega) | with_reducible exact inB_l (by simp only [List.length_map]; omega) | with_reducible exact inB_l (by omega) | exact rfl); exact hA.a)
   | (apply p_iaA_pp; exact rfl; exact rfl; (first | with_reducible assumption | with_reducible exact inB_n (by simp only [List.length_map, List.length_cons, List.length_nil]; omega) | with_reducible exact inB_n (by omega) | with_reducible exact inB_l (by simp only [List.length_map]; omega) | with_reducible exact inB_l (by omega) | exact rfl); exact hA.a)
   | (apply p_load_pp; exact rfl; (first | with_reducible assumption | exact rfl); exact hA.a)
   | (apply p_load_cp; (iterate 3 exact rfl); exact hA.a)
   | (apply p_fadd_cp; exact rfl; exact hA.a)
   | (apply p_nchk_cp; exact rfl; exact hA.a)
   | (apply p_s2a; exact rfl; (first | with_reducible assumption | exact ⟨rfl, by omega, by omega, by omega⟩); exact hA.a)
   | (apply p_s2a_osl; exact rfl; (first | with_reducible assumption | exact ⟨rfl, by omega, by omega⟩); exact hA.a)
   | (apply p_fadd_pp; exact rfl; exact hA.a)
   | (apply p_iaS_osl; exact rfl; exact rfl; (first | with_reducible assumption | with_reducible exact inB_n (by simp only [List.length_map, List.length_cons, List.length_nil]; omega) | with_reducible exact inB_n (by omega) | with_reducible exact inB_l (by simp only [List.length_map]; omega) | with_reducible exact inB_l (by omega) | exact rfl); exact hA.a)
   | (apply p_slA_ref_lo; exact rfl; exact rfl; (first | with_reducible assumption | with_reducible exact asB_n (by simp only [List.length_map]; omega) | with_reducible exact asB_n (by omega) | with_reducible exact asB_l (by omega)); (first | with_reducible assumption | omega); exact hA.a)
   | (apply p_slA_pp_lo; exact rfl; exact rfl; (first | with_reducible assumption | with_reducible exact asB_n (by simp only [List.length_map]; omega) | with_reducible exact asB_n (by omega) | with_reducible exact asB_l (by omega)); (first | with_reducible assumption | omega); (first | with_reducible assumption | (simp only [List.length_map]; omega)); exact hA.a)
   | (apply p_slL3_hi; exact rfl; exact rfl; (first | with_reducible assumption | with_reducible exact asB_n (by simp only [List.length_map]; omega) | with_reducible exact asB_n (by omega) | with_reducible exact asB_l (by omega) | with_reducible exact asB_l (by simp only [List.length_cons, List.length_nil, Nat.div_one]; omega)); exact hA.a)
   | (apply p_slL3_lo; exact rfl; exact rfl; (first | with_reducible assumption | with_reducible exact asB_n (by simp only [List.length_map]; omega) | with_reducible exact asB_n (by omega) | with_reducible exact asB_l (by omega) | with_reducible exact asB_l (by simp only [List.length_cons, List.length_nil, Nat.div_one]; omega)); exact hA.a)
   | (apply p_mkf; exact rfl; exact rfl; exact hA.a)
   | (apply p_mkm; exact hA.a)
   | (apply p_nchk; exact rfl; exact hA.a)
   | (apply p_mget; (iterate 5 exact rfl); (first | with_reducible assumption | exact rfl); exact hA.a)
   | (apply p_mget2; (iterate 5 exact rfl); (first | with_reducible assumption | exact rfl); exact hA.a)
   | (apply p_mupd; (iterate 7 exact rfl); (first | with_reducible assumption | exact rfl); exact rfl; exact hA.a)
   | (apply q_opsX; exact hA.a)
   | (apply q_andX; exact rfl; exact hA.a)
   | (apply p_eq; (iterate 3 exact rfl); exact hA.a)
   | (apply p_fld; (iterate 3 exact rfl); exact hA.a)
   | (apply p_guard_yes; exact rfl; exact hA.a)
   | (apply p_guard_no; exact rfl; exact rfl; exact hA.a)
   | (apply p_guard_skip; exact rfl; exact hA.a)
   | (apply p_pick_true; exact rfl; exact rfl; exact hA.a)
   | (apply p_pick_false; exact rfl; exact rfl; exact hA.a)
   | (apply p_pick_bool; (iterate 3 exact rfl); exact hA.a)
   | (apply w_seq; exact hA.a)
   | (apply w_ops; exact hA.a)
   | (apply k_norm; exact hA.a)
   | (apply k_exit; exact hA.a)
   | (apply k_ret; exact hA.a)
   | (apply w_ret; exact hA.a)
   | (apply w_exit; exact hA.a)
   | (apply w_skip; exact hA.a)
   | (apply w_block; exact hA.a)
   | (apply b_norm; exact hA.a)
   | (apply b_ret; exact hA.a)
   | (apply b_exit; exact hA.a)
   | (apply b_other; exact rfl; exact hA.a)
   | (apply q_cond_true; exact rfl; exact hA.a)
   | (apply q_cond_false; exact rfl; exact hA.a)
   | (apply p_mnN; exact rfl; exact rfl; exact hA.a)
   | (apply p_mxN; exact rfl; exact rfl; exact hA.a)
   | (apply p_slS_both; exact rfl; exact rfl; exact rfl; (first | (with_reducible assumption) | exact asB_n (by omega)); (first | (with_reducible assumption) | exact asB_n (by omega)); exact hA.a)
   | (apply p_ixSn; exact rfl; exact rfl; (with_reducible assumption); exact hA.a)
   | (apply p_ixS; exact rfl; exact rfl; decide; exact rfl; exact hA.a)
   | (apply p_slS_hi; exact rfl; exact rfl; (first | (with_reducible assumption) | exact asB_n (by omega)); exact hA.a)
   | (apply p_slS_lo; exact rfl; exact rfl; (first | (with_reducible assumption) | exact asB_n (by omega)); exact hA.a)) : B := h ⟨a⟩
theorem stB {A B : Prop} (a : A) (h : Keep A → B := by
  intro hA
  first
   | (apply p_bin; (iterate 3 exact rfl); exact hA.a)) : B := h ⟨a⟩
theorem stS {A B C : Prop} (a : A) (b : B) (h : Keep A → Keep B → C := by
  intro hA hB
  first
   | (apply p_lss_split; exact rfl; exact rfl; exact hA.a; exact hB.a)
   | (apply p_leq_split; exact rfl; exact rfl; exact hA.a; exact hB.a)
   | (apply p_gtr_split; exact rfl; exact rfl; exact hA.a; exact hB.a)
   | (apply p_geq_split; exact rfl; exact rfl; exact hA.a; exact hB.a)
   | (apply p_eql_split; exact rfl; exact rfl; exact hA.a; exact hB.a)
   | (apply p_neq_split; exact rfl; exact rfl; exact hA.a; exact hB.a)) : C := h ⟨a⟩ ⟨b⟩
theorem stG {A B C : Prop} (a : A) (b : B) (h : Keep A → Keep B → C := by
  intro hA hB
  first
   | (apply p_guard; exact rfl; exact hA.a; exact hB.a)
   | (apply q_cond; exact rfl; exact hA.a; exact hB.a)) : C := h ⟨a⟩ ⟨b⟩
end Go.Abs

/- Short names for resolved code. Definitions alone. -/
namespace Go.O
open Go.Abs
abbrev t (n : Nat) : X := .t n
abbrev v (x : AV) : X := .c x
abbrev i (n : Int) : X := .c (.int .i64 n)
abbrev w (n : Int) : X := .c (.int .u32 n)
abbrev y (n : Int) : X := .c (.int .u8 n)
abbrev I : AV := .int .i64 0
abbrev U : AV := .int .u32 0
abbrev Y : AV := .int .u8 0
abbrev B : AV := .bool false
abbrev N : AV := .sl 0 0 []
abbrev E : AV := .str []
abbrev op (d : Nat) (o : IOp) : IOper := ⟨some d, o, none⟩
abbrev op0 (o : IOp) : IOper := ⟨none, o, none⟩
abbrev g (n : Nat) (b : Bool) (o : IOper) : IOper := ⟨o.dst, o.op, some (n, b)⟩
abbrev m (d a : Nat) : IOper := ⟨some d, .mov (.t a), none⟩
abbrev mc (d : Nat) (x : X) : IOper := ⟨some d, .mov x, none⟩
abbrev l (d a : Nat) : IOper := ⟨some d, .load 1 false (.t a), none⟩
abbrev la (d n a : Nat) : IOper := ⟨some d, .load n true (.t a), none⟩
abbrev s (a b : Nat) : IOper := ⟨none, .store 1 (.t a) (.t b), none⟩
abbrev sn (n a b : Nat) : IOper := ⟨none, .store n (.t a) (.t b), none⟩
abbrev f (d o a : Nat) : IOper := ⟨some d, .fadd o (.t a), none⟩
abbrev b (d : Nat) (o : BinOp) (x y : X) : IOper := ⟨some d, .bin o x y, none⟩
abbrev x (d k a : Nat) : IOper := ⟨some d, .box k (.t a), none⟩
abbrev nw (d k : Nat) (z : List AV) : IOper := ⟨some d, .new k z, none⟩
abbrev e (d a k : Nat) : IOper := ⟨some d, .ext (.t a) k, none⟩
abbrev c (d k : Nat) (l : List X) : IOper := ⟨some d, .callp 0 k l, none⟩
abbrev cv (d : Nat) (k : IntKind) (a : Nat) : IOper := ⟨some d, .conv k (.t a), none⟩
abbrev n (d z a : Nat) : IOper := ⟨some d, .len z (.t a), none⟩
abbrev ns (d a : Nat) : IOper := ⟨some d, .lenS (.t a), none⟩
abbrev is (d z a : Nat) (y : X) : IOper := ⟨some d, .iaS z (.t a) y, none⟩
abbrev ia (d k z a : Nat) (y : X) : IOper := ⟨some d, .iaA k z (.t a) y, none⟩
abbrev fd (d o z : Nat) (g : Bool) (a : Nat) : IOper := ⟨some d, .fld o z g (.t a), none⟩
abbrev bd (d : Nat) (z : List AV) (p : List (Nat × Nat × X)) : IOper := ⟨some d, .build z p, none⟩
abbrev bs (d z : Nat) (l : List AV) (p : List (Nat × Nat × X)) : IOper := ⟨some d, .bsl false z l p, none⟩
abbrev ap (d z k a b : Nat) : IOper := ⟨some d, .app z k (.t a) (.t b), none⟩
abbrev q (a b : IC) : IC := .seq a b
abbrev o (l : List IOper) : IC := .ops false l
abbrev od (l : List IOper) : IC := .ops true l
abbrev k (n : Nat) (a b : IC) : IC := .cond (.t n) a b
abbrev bl (n : Nat) (a : IC) : IC := .block n a
abbrev lp (a : IC) : IC := .loop a
abbrev ex (n : Nat) : IC := .exit n
abbrev R : IC := .ret
abbrev K : IC := .skip
end Go.O

/- A call whose result gets a brand. No condition. -/
namespace Go.Abs
section
variable {F : CallF} {l : List IOper} {s : List (Nat × AV)} {os : List (Nat × List AV)} {T : Nat → AV} {H : Hp} {E : Nat → Option TypeId} {n c d : Nat} {lv : Nat → Bool} {Q : St → Prop}
theorem p_call1 {f : FuncId} {xs : List X} {args : List AV} {r : AV} {sz : Nat} {ys : List AV} (ha : argsS s xs = some args) (hf : flatL args = true) (hc : evP F f args = some r) (ho : ownedOf (leaves r) = some (sz, ys)) (hall : (leaves r).all (fun v => v.scalar || isSl v) = true) (hone : ((leaves r).filter isSl).length = 1)
    (k : ∀ lv', lv' c = true → (∀ z, z < c → lv' z = lv z) → WpO F l ⟨slots ((d, mapLeaf (adoptCell 1 n c) r) :: s) T, objs os H, E, n, lv', c + 1⟩ Q) : WpO F (⟨some d, .callp 1 f xs, none⟩ :: l) ⟨slots s T, objs os H, E, n, lv, c⟩ Q := by
  refine o_step (S1 := ⟨upd (slots s T) d (mapLeaf (adoptCell 1 n c) r), objs os H, E, n, fun b => if c ≤ b ∧ b < c + 1 then true else lv b, c + 1⟩) ?_ (k _ ?_ ?_)
  · have hadopt : adopt 1 n c r = some { v := mapLeaf (adoptCell 1 n c) r, nb := 1 } := by
      unfold adopt
      rw [if_neg (by omega), ho]
      simp only [hall, hone]
      rw [if_pos ⟨trivial, trivial⟩, if_pos trivial]
    simp [evStep, wants, isCall, evCallOp, argsS_eq ha, hf, hc, hadopt, Eff.st, putT]
  · simp
  · intro b hb; simp; omega
theorem args_ne {br sz : Nat} {xs : List AV} {x : X} (hx : evL s x = some (.sl br sz xs)) (h : br ≠ 1) : argsS s [x] = some [csl sz xs] := by
  have e : Nat.beq br 1 = false := by
    cases hb : Nat.beq br 1 with
    | false => rfl
    | true => exact absurd (Nat.eq_of_beq_eq_true hb) h
  have e2 : shareS (.sl br sz xs) = some (csl sz xs) := by simp only [shareS, canonS, e]
  simp only [argsS, hx, e2]
theorem room_val : room = 17592186044416 := by decide +kernel
theorem evP_call0 {f : FuncId} {vs : List AV} {r R : AV} (h : evP F f vs = some r) (hR : mapLeaf canonCell r = R) : Calls0 F f vs R := ⟨by unfold call0; rw [h, ← hR]; rfl⟩
theorem wu64 {n : Int} (h0 : 0 ≤ n) (h1 : n < 18446744073709551616) : IntKind.u64.wrap n = n := by
  have e1 : (2 ^ IntKind.u64.bits : Int) = 18446744073709551616 := by decide +kernel
  have hs : IntKind.u64.signed = false := rfl
  unfold IntKind.wrap
  simp only [e1, hs, Bool.false_and, Bool.false_eq_true, if_false]
  exact Int.emod_eq_of_lt h0 h1
end
end Go.Abs

/- A call of which it is shown that it answers one of several results. No condition. -/
namespace Go.Abs
variable {k : Nat}
end Go.Abs

/- How the calls of this seat are met, and the table of its functions without those that are proved otherwise. No condition. -/
namespace Go.Proofs.Ythplidagfcdibaa
open Go.Abs
def hint : FuncId → Hint := fun f => { shared := fun g => g == 85 || g == 89 || g == 57 || g == 107 || g == 39 || g == 40 || g == 41 || g == 73 || g == 74 || g == 59 || g == 60 || g == 61, mode := fun d => match f, d with | 84, 12 => 2 | 28, 29 => 2 | 107, 13 => 3 | 113, 19 => 2 | 82, 29 => 2 | 15, 34 => 2 | 17, 44 => 2 | 66, 7 => 1 | 33, 96 => 1 | 89, 10 => 1 | 64, 4 => 1 | 32, 78 => 1 | _, _ => 0 }
noncomputable def FN0 : FuncId → Option FnDef := FNof Try.prog hint fun _ => none
theorem tabl0 : Table Try.prog FN0 := table_of (fun f p h => by cases h)
end Go.Proofs.Ythplidagfcdibaa

/- strings.Builder: what copyCheck and String do in memory. Conditions: the builder lies at its block's head; its bytes lie in a row. -/
namespace Go.Proofs.Ythplidagfcdibaa
open Go.RowKit
theorem lies_builder {cells : Nat} (hc : 2 ≤ cells) : liesAt Try.prog Try.prog.depth 136 (cells / Try.prog.cellsOf 136) 0 136 1 = true := by
  have hd : Try.prog.depth = (2 * (Try.prog.types.size + Made.depth) + 1) + 1 := rfl
  have hs : Try.prog.cellsOf 136 = 2 := by kernel_rfl
  rw [hd]
  simp only [liesAt, Bool.or_eq_true]
  left
  rw [hd]
  have : 1 ≤ cells / 2 := by omega
  simp [rowAt, hs, sameLayout, this]
set_option maxHeartbeats 1000000 in
set_option maxRecDepth 100000 in
theorem copy_used (b : Nat) (w : World) (h0 : w.cell? ⟨b, 0, none⟩ = some (.pointer (some ⟨b, 0, none⟩))) :
    Calls Try.prog 98 #[.pointer (some ⟨b, 0, none⟩)] w fun e w' => e = .returned (.tuple #[]) ∧ w' = w := by
  obtain ⟨j, hj, _⟩ := Option.map_eq_some_iff.1 (show (Try.prog.info? 136).map (·.size) = some 2 by kernel_rfl)
  go_enter Try.func98, Try.ntmps98
  go_wp2
  rw [Lib.run_neq_ptr_same w _ Try.underlying134 hj]
  go_wp2
  go_end0
  exact ⟨rfl, rfl⟩
set_option maxHeartbeats 1000000 in
set_option maxRecDepth 100000 in
theorem copy_fresh (b cells : Nat) (w : World) (h0 : w.cell? ⟨b, 0, none⟩ = some (.pointer none)) (hsh : w.shape? b = some (136, cells)) (hc : 2 ≤ cells) (hfz : w.frozen? ⟨b, 0, none⟩ = false) :
    Calls Try.prog 98 #[.pointer (some ⟨b, 0, none⟩)] w fun e w' => e = .returned (.tuple #[]) ∧ w' = w.setCell ⟨b, 0, none⟩ (.pointer (some ⟨b, 0, none⟩)) := by
  obtain ⟨j, hj, hjs⟩ := Option.map_eq_some_iff.1 (show (Try.prog.info? 136).map (·.size) = some 2 by kernel_rfl)
  go_enter Try.func98, Try.ntmps98
  go_wp2
  rw [Lib.run_to_unsafe w ⟨b, 0, none⟩ Try.underlying134 Try.underlying183 hj (by rw [hjs]; decide) hsh (show 0 < cells by omega)]
  simp only [Result.andThen]
  rw [Oper.upon_value]
  go_wp2
  rw [run_callFunc_extern Try.func109 (by kernel_rfl) (by kernel_rfl) (by kernel_rfl) (e := Extern.AbiNoEscape.same) (by kernel_rfl)]
  rw [Lib.run_noEscape]
  simp only [Result.andThen]
  rw [Oper.upon_value]
  go_wp2
  rw [Lib.run_from_unsafe w ⟨b, 0, none⟩ Try.underlying183 Try.underlying134 hj hsh (lies_builder hc)]
  simp only [Result.andThen]
  rw [Oper.upon_value]
  go_wp2
  go_end0
  exact ⟨rfl, rfl⟩
end Go.Proofs.Ythplidagfcdibaa

/- strings.Builder: what WriteString and String come to at a builder that the caller has made. Conditions: the builder lies in a block of its own; the lengths are such as Go's own limit lets by. -/
namespace Go.Proofs.Ythplidagfcdibaa
open Go.RowKit Go.Shelf
def bRen : Go.Shelf.Ren where
  f := fun x => match x with
    | 169 => 76
    | n => n
  t := fun x => match x with
    | 70 => 134
    | 9 => 9
    | 0 => 0
    | 72 => 136
    | 37 => 72
    | 127 => 171
    | 3 => 3
    | 5 => 5
    | n => n
  g := fun x => x
theorem bLays : Lays.n169 Try.prog bRen :=
  { mixed := Eq.refl true, f169 := Eq.trans Try.func76 (congrArg some (Eq.refl (Body.n169 bRen))),
    t0 := Try.underlying0, a0 := Try.isAgg0, z0 := Try.sizeOf0, v0 := Try.zeroValue0, t3 := Try.underlying3,
    a3 := Try.isAgg3, z3 := Try.sizeOf3, v3 := Try.zeroValue3, t9 := Try.underlying9, a9 := Try.isAgg9, z9 := Try.sizeOf9,
    v9 := Try.zeroValue9, t37 := Try.underlying72, a37 := Try.isAgg72, z37 := Try.sizeOf72, v37 := Try.zeroValue72,
    t70 := Try.underlying134, a70 := Try.isAgg134, z70 := Try.sizeOf134, v70 := Try.zeroValue134, t72 := Try.underlying136,
    a72 := Try.isAgg136, z72 := Try.sizeOf136, v72 := Try.zeroValue136, t127 := Try.underlying171, a127 := Try.isAgg171,
    z127 := Try.sizeOf171, v127 := Try.zeroValue171 }
theorem bInfo : (Try.prog.info? 5).map (fun i => (i.zero, i.size, i.bytes)) = some (some (.int .u8 0), 1, 1) := by kernel_rfl
set_option maxRecDepth 100000 in
theorem bExtra : Builder.Extra Try.prog bRen :=
  { sizeBuilder := by kernel_rfl, liesBuilder := lies_builder (Nat.le_refl 2), t5 := Try.underlying5, a5 := Try.isAgg5, z5 := Try.sizeOf5, v5 := Try.zeroValue5,
    infoByte := bInfo, cellsByte := by kernel_rfl, sizeByte := by kernel_rfl, neB5 := by decide }
theorem builder_string (B b : Nat) (l : List UInt8) (w : World) (h : Lib.IsBuilder 136 5 B b (Lib.byteCells l) w) (hBw : B ≤ w.heap.size) :
    Calls Try.prog 76 #[.pointer (some ⟨b, 0, none⟩)] w fun e w' => e = .returned (.string ⟨l.toArray⟩) ∧ Below B w w' :=
  Any.Builder_String_any bLays bExtra B b l w h hBw
theorem builder_copy (B b : Nat) (bs : List Value) (w : World) (h : Lib.IsBuilder 136 5 B b bs w) :
    Calls Try.prog 98 #[.pointer (some ⟨b, 0, none⟩)] w fun e w' => e = .returned (.tuple #[]) ∧ (Lib.BuilderAt 136 5 B b (.pointer (some ⟨b, 0, none⟩)) bs w' ∧ Below B w w') := by
  rcases h with h | h
  · refine (copy_fresh b 2 w h.cell0 h.shape (Nat.le_refl 2) h.frozen0).mono ?_
    rintro e w' ⟨rfl, rfl⟩
    exact ⟨rfl, h.used _, (Below.refl B w).setCell (p := ⟨b, 0, none⟩) h.1 _⟩
  · refine (copy_used b w h.cell0).mono ?_
    rintro e w' ⟨rfl, rfl⟩
    exact ⟨rfl, h, Below.refl B _⟩
set_option maxHeartbeats 2000000 in
set_option maxRecDepth 100000 in
theorem builder_write (B b : Nat) (bs : List Value) (s : ByteArray) (w : World) (h : Lib.IsBuilder 136 5 B b bs w) (hlen : bs.length + s.size ≤ 140737488355328) (hBw : B ≤ w.heap.size) :
    Calls Try.prog 75 #[.pointer (some ⟨b, 0, none⟩), .string s] w fun e w' => e = .returned (.tuple #[.int .i64 s.size, .nilIface]) ∧ (Lib.BuilderAt 136 5 B b (.pointer (some ⟨b, 0, none⟩)) (bs ++ Lib.strCells s) w' ∧ Below B w w') := by
  obtain ⟨i0, hi, hz0, hz1, hz2⟩ := info_parts bInfo
  go_enter Try.func75, Try.ntmps75
  go_wp2_with (go_at_call 98; refine (builder_copy B b bs _ h).mono ?_)
  rintro e w1 ⟨rfl, h1, hb1⟩
  obtain ⟨hB, v, hbk, hown, hne⟩ := h1
  have c0 : w1.cell? ⟨b, 0, none⟩ = some (.pointer (some ⟨b, 0, none⟩)) := by rw [Lib.cell_of_heap hbk]; rfl
  have c1 : w1.cell? ⟨b, 1, none⟩ = some v := by rw [Lib.cell_of_heap hbk]; rfl
  go_wp2_with (at_builtin; refine Lib.wpList_append_own_string _ rfl _ _ 72 9 rfl B 5 i0 Try.underlying72 Try.underlying9 hi hz0 hz1 hz2 _ _ _ rfl hown s rfl ?c3 ?c4 ?c5 ?_)
  case c3 => unfold maxLen; omega
  case c4 => omega
  case c5 => have := hb1.size; omega
  intro v' w2 hown' hgrow _
  have hlt : b < w1.heap.size := by
    rcases Nat.lt_or_ge b w1.heap.size with h' | h'
    · exact h'
    · simp [Array.getElem?_eq_none h'] at hbk
  have hb2 : w2.heap[b]? = some (.cells #[.pointer (some ⟨b, 0, none⟩), v] 136 (0, 0)) := by
    rw [hgrow.block b hlt (fun e => hne e.symm)]
    exact hbk
  have d0 : w2.cell? ⟨b, 0, none⟩ = some (.pointer (some ⟨b, 0, none⟩)) := by rw [Lib.cell_of_heap hb2]; rfl
  have d1 : w2.cell? ⟨b, 1, none⟩ = some v := by rw [Lib.cell_of_heap hb2]; rfl
  have f1 : w2.frozen? ⟨b, 1, none⟩ = false := Lib.frozen_of_heap hb2 1
  obtain ⟨ao, n', cap, rfl⟩ : ∃ ao n' cap, v' = .slice ao n' cap := by
    rcases hown'.2 with ⟨hv, _⟩ | ⟨g, cap, cur, hv, _⟩
    · exact ⟨_, _, _, hv⟩
    · exact ⟨_, _, _, hv⟩
  go_wp2
  go_ret2
  refine ⟨rfl, ?_, ?_⟩
  · exact Lib.BuilderAt.put (T := 136) (e := 5) hB hb2 (bs' := bs ++ Lib.strCells s) (by simpa [Lib.strCells_length] using hown') (by decide)
  · exact (hb1.grown hgrow (by have := hb1.size; omega) (fun k hk => (hown.lt k hk).1)).setCell (p := ⟨b, 1, none⟩) hB _
end Go.Proofs.Ythplidagfcdibaa

/- ring.Gather in memory. Conditions: the parts lie in memory, there are at most 1000; what memory.Read comes to is given; it is at most a million bytes. -/
namespace Go.Proofs.Ythplidagfcdibaa
open Go.RowKit Go.Shelf
structure GP where
  i : Nat
  a : Nat
  n : Nat
  w : Bool
def PartsAt (w : World) (lb lo : Nat) (l : List GP) : Prop := ∀ j p, l[j]? = some p → w.cell? ⟨lb, lo + j * 4, none⟩ = some (.int .i64 p.i) ∧ w.cell? ⟨lb, lo + j * 4 + 1, none⟩ = some (.int .i64 p.a) ∧ w.cell? ⟨lb, lo + j * 4 + 2, none⟩ = some (.int .i64 p.n) ∧ w.cell? ⟨lb, lo + j * 4 + 3, none⟩ = some (.bool p.w)
def gathB (rdB : GP → List UInt8) (l : List GP) : List UInt8 := l.flatMap fun p => if p.w then [] else rdB p
theorem builder_below {B b : Nat} {bs : List Value} {W W' : World} (h : Lib.IsBuilder 136 5 B b bs W) (hb : Below W.heap.size W W') : Lib.IsBuilder 136 5 B b bs W' := by
  have one : ∀ {p : Value}, Lib.BuilderAt 136 5 B b p bs W → Lib.BuilderAt 136 5 B b p bs W' := by
    intro p h
    have hlt := h.lt
    obtain ⟨hB, v, hbk, hown, hne⟩ := h
    refine ⟨hB, v, (hb.block b hlt).trans hbk, ?_, hne⟩
    refine hown.kept (row := none) ⟨hb.os, hb.tape, hb.output, hb.size, fun k hk _ => hb.block k hk⟩ ?_
    rcases h : v.ownBlock with _ | g
    · exact .inl rfl
    · exact .inr (by simp)
  exact h.imp one one
theorem hidI {p : Prop} (h : p) : Hid p := h
theorem gath_snoc {rdB : GP → List UInt8} {l : List GP} {i : Nat} {p : GP} (h : l[i]? = some p) : gathB rdB (l.take (i + 1)) = gathB rdB (l.take i) ++ (if p.w then [] else rdB p) := by
  unfold gathB
  rw [List.take_add_one, h]
  simp
set_option maxHeartbeats 4000000 in
set_option maxRecDepth 100000 in
theorem gather_walk (w : World) (ms : Value) (lb lo cap : Nat) (l : List GP) (rdB : GP → List UInt8) (hl : PartsAt w lb lo l) (hcap : l.length ≤ cap) (hlen : l.length ≤ 1000) (ao : Option Addr) (hao : 0 < l.length → ao = some ⟨lb, lo, none⟩) (hb : ∀ p ∈ l, p.w = false → (rdB p).length ≤ 1000000)
    (hR : ∀ p ∈ l, p.w = false → ∀ wx, Below w.heap.size w wx → Calls Try.prog 29 #[.agg #[ms], .int .i64 p.a, .int .i64 p.n] wx fun e w' => (∃ s ok, e = .returned (.tuple #[.string s, .bool ok]) ∧ s.data.toList = rdB p) ∧ Below wx.heap.size wx w') :
    Calls Try.prog 42 #[.agg #[ms], .slice ao l.length cap] w fun e w' => e = .returned (.string ⟨(gathB rdB l).toArray⟩) ∧ Below w.heap.size w w' := by
  have hs1 : (w.alloc (.cells #[ms] 30)).heap.size = w.heap.size + 1 := Array.size_push _
  have hF := Lib.fresh_isBuilder 136 5 (w.alloc (.cells #[ms] 30))
  rw [hs1] at hF
  have hm0 : (w.alloc (.cells #[ms] 30)).cell? ⟨w.heap.size, 0, none⟩ = some ms := by rw [Lib.cell_of_heap (heap_alloc_new w _)]; rfl
  go_enter Try.func42, Try.ntmps42
  go_wp2_with fail
  go_loopg [12] l.length (fun g s12 wx => ∃ (i : Nat) (acc : List UInt8), s12 = .int .i64 i ∧ i + g = l.length ∧ Hid (acc = gathB rdB (l.take i)) ∧ Hid (acc.length ≤ i * 1000000) ∧
    Hid (Lib.IsBuilder 136 5 (w.heap.size + 1) (w.heap.size + 1) (Lib.byteCells acc) wx) ∧ Hid (Below (w.heap.size + 1) (w.alloc (.cells #[ms] 30)) wx))
  case atStart =>
    exact ⟨0, [], rfl, by omega, hidI rfl, hidI (by simp), hidI hF, hidI ((Below.refl _ _).alloc (by rw [hs1]; exact Nat.le_refl _) _)⟩
  case round =>
    obtain ⟨i, acc, rfl, hig, HA, HL, HB, HW⟩ := hrel
    have hBw : w.heap.size + 1 ≤ wr.heap.size := by have := HW.out.size; rw [hs1] at this; exact this
    have hW0 : Below w.heap.size w wr := ((Below.refl w.heap.size w).alloc (Nat.le_refl _) _).trans (HW.out.mono (Nat.le_succ _))
    have hm : wr.cell? ⟨w.heap.size, 0, none⟩ = some ms := by rw [HW.out.cell (p := ⟨w.heap.size, 0, none⟩) (Nat.lt_succ_self _)]; exact hm0
    cases gk with
    | zero =>
      have hi : ¬ ((i : Int) < (l.length : Int)) := by omega
      go_wp2_with fail
      refine (builder_string (w.heap.size + 1) (w.heap.size + 1) acc wr HB.out hBw).mono ?_
      rintro e w5 ⟨rfl, hb5⟩
      go_wp2
      go_ret
      refine ⟨?_, hW0.trans (hb5.mono (Nat.le_succ _))⟩
      rw [HA.out, List.take_of_length_le (by omega)]
      rfl
    | succ g =>
      obtain rfl := hao (by omega)
      have hi : (i : Int) < (l.length : Int) := by omega
      obtain ⟨p, hp⟩ : ∃ p, l[i]? = some p := ⟨_, List.getElem?_eq_getElem (by omega)⟩
      obtain ⟨d0, d1, d2, d3⟩ := hl i p hp
      have hlb : lb < w.heap.size := World.block_lt_of_cell? _ _ d0
      have e0 := (hW0.cell (p := ⟨lb, lo + i * 4, none⟩) hlb).trans d0
      have e1 := (hW0.cell (p := ⟨lb, lo + i * 4 + 1, none⟩) hlb).trans d1
      have e2 := (hW0.cell (p := ⟨lb, lo + i * 4 + 2, none⟩) hlb).trans d2
      have e3 := (hW0.cell (p := ⟨lb, lo + i * 4 + 3, none⟩) hlb).trans d3
      have hpm := List.mem_of_getElem? hp
      have hgs := gath_snoc (rdB := rdB) hp
      cases hw : p.w with
      | true =>
        rw [hw] at hgs
        have hA2 : acc = gathB rdB (l.take (i + 1)) := by rw [hgs, HA.out]; simp
        have HA2 := hidI hA2
        clear hgs hA2
        go_wp2_with fail
        go_roundg g
        case measure => omega
        case rel =>
          have hbx := fun o => (Below.refl wr.heap.size wr).alloc (Nat.le_refl _) o
          exact ⟨i + 1, acc, rfl, by omega, HA2, hidI (Nat.le_trans HL.out (Nat.mul_le_mul_right _ (Nat.le_succ i))), hidI (builder_below HB.out (hbx _)), hidI (HW.out.alloc hBw _)⟩
      | false =>
        rw [hw] at hgs
        have hA2 : acc ++ rdB p = gathB rdB (l.take (i + 1)) := by rw [hgs, HA.out]; simp
        have HA2 := hidI hA2
        clear hgs hA2
        have hm2 : (wr.alloc (.cells #[.int .i64 p.i, .int .i64 p.a, .int .i64 p.n, .bool false] 103)).cell? ⟨w.heap.size, 0, none⟩ = some ms := by
          rw [← hm]; exact ((Below.refl wr.heap.size wr).alloc (Nat.le_refl _) _).cell (p := ⟨w.heap.size, 0, none⟩) (show w.heap.size < wr.heap.size by omega)
        go_wp2_with fail
        refine (hR p hpm hw _ (hW0.alloc (by omega) _)).mono ?_
        rintro e w3 ⟨⟨s, ok, rfl, hs⟩, hb3⟩
        have hbx := fun o => (Below.refl wr.heap.size wr).alloc (Nat.le_refl _) o
        have hb3' : Below wr.heap.size wr w3 := (hbx _).trans (hb3.mono (by have := (hbx (.cells #[.int .i64 p.i, .int .i64 p.a, .int .i64 p.n, .bool false] 103)).size; exact this))
        have H3 := hidI (builder_below HB.out hb3')
        have HW3 := hidI (HW.out.trans (hb3'.mono hBw))
        have hsl : s.size = (rdB p).length := by rw [← hs, Array.length_toList]; rfl
        have hbp := hb p hpm hw
        have hal := HL.out
        have hBw3 : w.heap.size + 1 ≤ w3.heap.size := by have := hb3'.size; omega
        have HS := hidI hs
        clear hs hb3 hb3' hbx
        go_wp2_with fail
        refine (builder_write (w.heap.size + 1) (w.heap.size + 1) _ s w3 H3.out (by rw [Lib.byteCells_length]; omega) hBw3).mono ?_
        rintro e w4 ⟨rfl, h4, hb4⟩
        rw [Lib.strCells_eq, ← Lib.byteCells_append, HS.out] at h4
        have H4 := hidI (Or.inr h4 : Lib.IsBuilder 136 5 (w.heap.size + 1) (w.heap.size + 1) _ w4)
        have HW4 := hidI (HW3.out.trans hb4)
        clear h4 hb4
        go_wp2
        go_roundg g
        case measure => omega
        case rel =>
          exact ⟨i + 1, acc ++ rdB p, rfl, by omega, HA2, hidI (by rw [List.length_append]; omega), H4, HW4⟩
end Go.Proofs.Ythplidagfcdibaa

/- ring.Gather is met by what it comes to. No condition. -/
namespace Go.Proofs.Ythplidagfcdibaa
open Go.Abs Go.RowKit
def parseP : List AV → Option (List GP)
  | [] => some []
  | .int .i64 i :: .int .i64 a :: .int .i64 n :: .bool w :: xs => if 0 ≤ i ∧ 0 ≤ a ∧ 0 ≤ n then (parseP xs).map (⟨i.toNat, a.toNat, n.toNat, w⟩ :: ·) else none
  | _ => none
def rdOne (F : CallF) (m : AV) (p : GP) : Option (List UInt8) := match F 29 [.agg [m], .int .i64 p.a, .int .i64 p.n] h0 (fun _ => none) with
  | some (.tup [.str s, .bool _], _) => some s
  | _ => none
def rdAll (F : CallF) (m : AV) (p : GP) : List UInt8 := (rdOne F m p).getD []
def okG (F : CallF) (m : AV) (l : List GP) : Bool := l.all fun p => p.w || match rdOne F m p with
  | some s => decide (s.length ≤ 1000000)
  | none => false
def pGather (F : CallF) : Prim := fun vs hs _ => match vs with
  | [.agg [m], .sl _ s0 xs] => match parseP xs with
    | some l => if m.flat = true ∧ l.length ≤ 1000 ∧ okG F m l = true ∧ s0 = csz 4 xs then some (.str (gathB (rdAll F m) l), hs) else none
    | none => none
  | _ => none
def gpV (p : GP) : List AV := [.int .i64 p.i, .int .i64 p.a, .int .i64 p.n, .bool p.w]
theorem parseP_eq : ∀ {xs : List AV} {l : List GP}, parseP xs = some l → xs = l.flatMap gpV
  | [], l, h => by simp only [parseP, Option.some.injEq] at h; subst h; rfl
  | .int .i64 i :: .int .i64 a :: .int .i64 n :: .bool w :: xs, l, h => by
    simp only [parseP] at h
    split at h
    · rename_i hc
      obtain ⟨l', h1, rfl⟩ := Option.map_eq_some_iff.1 h
      have ih := parseP_eq h1
      rw [ih]
      simp [gpV, Int.toNat_of_nonneg hc.1, Int.toNat_of_nonneg hc.2.1, Int.toNat_of_nonneg hc.2.2]
    · cases h
theorem gp_length : ∀ (l : List GP), (l.flatMap gpV).length = l.length * 4
  | [] => rfl
  | p :: l => by
    have := gp_length l
    rw [List.flatMap_cons, List.length_append, this, List.length_cons]
    show 4 + _ = _
    omega
theorem gp_get {t : Nat} {p : GP} (ht : t < 4) : ∀ {l : List GP} {j : Nat}, l[j]? = some p → (l.flatMap gpV)[j * 4 + t]? = (gpV p)[t]?
  | [], j, h => by simp at h
  | x :: l, 0, h => by
    simp only [List.getElem?_cons_zero, Option.some.injEq] at h
    subst h
    rw [List.flatMap_cons, List.getElem?_append_left (show 0 * 4 + t < 4 by omega)]
    congr 1; omega
  | x :: l, j + 1, h => by
    have ih := gp_get (p := p) ht (l := l) (j := j) (by simpa using h)
    rw [List.flatMap_cons, List.getElem?_append_right (show 4 ≤ (j + 1) * 4 + t by omega), ← ih]
    congr 1
    show (j + 1) * 4 + t - 4 = _
    omega
theorem rep_two {G : Gh} {w : World} {s : List UInt8} {b : Bool} {v : Value} (h : Rep G w (.tup [.str s, .bool b]) v) : ∃ t : ByteArray, v = .tuple #[.string t, .bool b] ∧ t.data.toList = s := by
  cases h with
  | tup _ arr hl h =>
    obtain ⟨a0, a1, rfl⟩ : ∃ a0 a1, arr = #[a0, a1] := by
      rcases arr with ⟨l⟩
      rcases l with _ | ⟨a0, _ | ⟨a1, _ | ⟨a2, t⟩⟩⟩ <;> simp at hl
      exact ⟨a0, a1, rfl⟩
    have h0 := h 0 _ _ rfl rfl
    have h1 := h 1 _ _ rfl rfl
    cases h0 with
    | str _ t ht =>
      cases h1
      exact ⟨t, rfl, ht⟩
theorem allG_rel (w : World) : WRel (allG w) h0.H (fun _ => none) h0.lv w := by
  constructor
  · intro id b o h; cases h
  · intro id b h; cases h
  · intro id b o h; cases h
  · intro id id' b o o' h; cases h
  · intro br h; cases h
  · intro br br' b e e' h; cases h
  · exact fun b i h => h
  · intro br b e h; cases h
  · intro b r h; cases h
theorem ext_below {w w' : World} {G' : Gh} {lv' : Nat → Bool} (h : Ext (allG w) h0.lv w G' lv' w') : Below w.heap.size w w' := by
  refine ⟨h.os, h.tape, h.output, h.size, fun k hk => h.keep k hk ?_⟩
  rintro (⟨id, o, h⟩ | ⟨br, e, h, _⟩)
  · cases h
  · cases h
theorem below_ext {G : Gh} {lv : Nat → Bool} {w w' : World} (hb : Below w.heap.size w w') (hσ : ∀ b i, G.σ b i → b < w.heap.size) : Ext G lv w G lv w' := by
  refine ⟨fun _ _ h => h, fun _ _ h => h, fun _ _ h => h, fun _ _ h _ _ => h, fun _ _ h => h, fun b h _ => hb.block b h, fun b i h => ?_, fun b h => ?_, hb.size, hb.os, hb.tape, hb.output, fun _ _ h => h, fun _ _ h => h⟩
  · exact cell_congr (hb.block b (hσ b i h)) i
  · exact shape_congr (hb.block b h)
theorem below_rel {G : Gh} {H : Hp} {E : Nat → Option TypeId} {lv : Nat → Bool} {w w' : World} (hW : WRel G H E lv w) (hb : Below w.heap.size w w') : WRel G H E lv w' := by
  have hext := below_ext (lv := lv) hb hW.σlt
  constructor
  · intro id b o h
    obtain ⟨cs, T, fz, h1, h2, h3, h4, h5⟩ := hW.obj id b o h
    have hk := hb.block b (hW.βlt h)
    refine ⟨cs, T, fz, hk.trans h1, h2, fun i x hx => ?_, fun i hi => ?_, h5⟩
    · obtain ⟨q1, q2, v, q3, q4⟩ := h3 i x hx
      exact ⟨q1, q2, v, q3, q4.mono hext.mono⟩
    · rw [frozen_congr hk]; exact h4 i hi
  · exact fun id b h => hW.mobj_of hext.mono h (hb.block b (hW.βlt h)) rfl
  · exact hW.nσ
  · exact hW.inj
  · intro br h
    obtain ⟨q1, b, e, cs, T, fz, q2, q3, q4, q5, q6⟩ := hW.tip br h
    have hk := hb.block b (hW.τlt _ _ _ q2)
    exact ⟨q1, b, e, cs, T, fz, q2, hk.trans q3, fun i hi => by rw [frozen_congr hk]; exact q4 i hi, q5, q6⟩
  · exact hW.tinj
  · exact fun b i h => Nat.lt_of_lt_of_le (hW.σlt b i h) hb.size
  · exact fun br b e h => Nat.lt_of_lt_of_le (hW.τlt br b e h) hb.size
  · exact fun b r h => Nat.lt_of_lt_of_le (hW.ρlt b r h) hb.size
theorem gather_sound {F : CallF} (hF : Sound Try.prog F) : SoundAt Try.prog 42 (pGather F) := by
  intro vs hs E r hs' h
  unfold pGather at h
  split at h
  · rename_i m br s0 xs
    split at h
    · rename_i l hl
      split at h
      · rename_i hc
        obtain ⟨c1, c2, c3, c4⟩ := hc
        simp only [Option.some.injEq, Prod.mk.injEq] at h
        obtain ⟨rfl, rfl⟩ := h
        have hxs := parseP_eq hl
        refine ⟨okB_enters (by kernel_rfl), rfl, Nat.le_refl _, ?_⟩
        intro G w args hsz hrep hW hβ hτ h4
        obtain ⟨v0, v1, rfl⟩ : ∃ v0 v1, args = #[v0, v1] := by
          rcases args with ⟨a⟩
          rcases a with _ | ⟨a0, _ | ⟨a1, _ | ⟨a2, t⟩⟩⟩ <;> simp at hsz
          exact ⟨a0, a1, rfl⟩
        have r0 := hrep 0 _ _ rfl rfl
        have r1 := hrep 1 _ _ rfl rfl
        obtain ⟨ms, rfl⟩ : ∃ ms, v0 = .agg #[ms] := by
          cases r0 with
          | agg _ arr hl _ _ =>
            rcases arr with ⟨a⟩
            rcases a with _ | ⟨a0, _ | ⟨a1, t⟩⟩ <;> simp at hl
            exact ⟨a0, rfl⟩
        obtain ⟨ao, lb, lo, cap, rfl, hao, hcap, hparts⟩ : ∃ ao lb lo cap, v1 = .slice ao l.length cap ∧ (0 < l.length → ao = some ⟨lb, lo, none⟩) ∧ l.length ≤ cap ∧ PartsAt w lb lo l := by
          cases r1 with
          | emp _ _ p cap hb =>
            have : l = [] := by
              have e := gp_length l
              rw [← hxs] at e
              exact List.eq_nil_of_length_eq_zero (by simp at e; omega)
            subst this
            exact ⟨p, 0, 0, cap, rfl, fun h => absurd h (Nat.lt_irrefl 0), Nat.zero_le _, fun j p h => by simp at h⟩
          | sl _ _ _ b off len cap hb hsz' hl' hc' vs' hk hx h0' h3 =>
            have e := gp_length l
            rw [← hxs] at e
            have hlen : len = l.length := by
              cases xs with
              | nil =>
                rw [c4] at hsz'
                exact absurd hsz' (by simp [csz])
              | cons y ys =>
                have : s0 = 4 := c4
                subst this
                omega
            subst hlen
            refine ⟨_, b, off, cap, rfl, fun _ => rfl, hc', fun j p hp => ?_⟩
            have get : ∀ t x, t < 4 → (gpV p)[t]? = some x → w.cell? ⟨b, off + (j * 4 + t), none⟩ = some (vs' (j * 4 + t)) ∧ Rep G w x (vs' (j * 4 + t)) := by
              intro t x ht hx'
              have hg : xs[j * 4 + t]? = some x := by rw [hxs, gp_get ht hp, hx']
              exact ⟨(hk _ x hg).1, hx _ x hg⟩
            obtain ⟨a0, b0⟩ := get 0 _ (by omega) rfl
            obtain ⟨a1, b1⟩ := get 1 _ (by omega) rfl
            obtain ⟨a2, b2⟩ := get 2 _ (by omega) rfl
            obtain ⟨a3, b3⟩ := get 3 _ (by omega) rfl
            have i0 : vs' (j * 4 + 0) = .int .i64 p.i := by generalize vs' (j * 4 + 0) = q at b0; cases b0; rfl
            have i1 : vs' (j * 4 + 1) = .int .i64 p.a := by generalize vs' (j * 4 + 1) = q at b1; cases b1; rfl
            have i2 : vs' (j * 4 + 2) = .int .i64 p.n := by generalize vs' (j * 4 + 2) = q at b2; cases b2; rfl
            have i3 : vs' (j * 4 + 3) = .bool p.w := by generalize vs' (j * 4 + 3) = q at b3; cases b3; rfl
            rw [i0] at a0; rw [i1] at a1; rw [i2] at a2; rw [i3] at a3
            exact ⟨a0, by rw [Nat.add_assoc]; exact a1, by rw [Nat.add_assoc]; exact a2, by rw [Nat.add_assoc]; exact a3⟩
        have hok : ∀ p ∈ l, p.w = false → ∃ s, rdOne F m p = some s ∧ s.length ≤ 1000000 := by
          intro p hp hw
          unfold okG at c3
          rw [List.all_eq_true] at c3
          have := c3 p hp
          rw [hw, Bool.false_or] at this
          split at this
          · rename_i s hs'
            exact ⟨s, hs', by simpa using this⟩
          · cases this
        refine (gather_walk w ms lb lo cap l (rdAll F m) hparts hcap c2 ao hao ?_ ?_).mono ?_
        · intro p hp hw
          obtain ⟨s, e1, e2⟩ := hok p hp hw
          unfold rdAll; rw [e1]; exact e2
        · intro p hp hw wx hbx
          obtain ⟨s, e1, _⟩ := hok p hp hw
          have e1' := e1
          unfold rdOne at e1'
          split at e1'
          · rename_i s' ok hs1 hF1
            simp only [Option.some.injEq] at e1'
            subst e1'
            obtain ⟨_, _, _, hcalls⟩ := hF.call 29 _ _ _ _ _ hF1
            have hm : Rep (allG wx) wx (.agg [m]) (.agg #[ms]) := by
              refine r0.fmono ⟨fun b i hs => Nat.lt_of_lt_of_le (hW.σlt b i hs) hbx.size, fun b i hs => ?_⟩ ?_
              · exact cell_congr (hbx.block b (hW.σlt b i hs)) i
              · simp only [AV.flat, flatL, c1, Bool.and_self]
            refine (hcalls (allG wx) wx #[.agg #[ms], .int .i64 p.a, .int .i64 p.n] rfl ?_ (allG_rel wx) (fun _ _ => rfl) (fun _ _ => rfl) (Nat.le_refl _) (EnvOK.zero _ _ _ _)).mono ?_
            · intro i x v hx hv
              match i, hx, hv with
              | 0, hx, hv => simp at hx hv; subst hx; subst hv; exact hm
              | 1, hx, hv => simp at hx hv; subst hx; subst hv; exact .int _ _
              | 2, hx, hv => simp at hx hv; subst hx; subst hv; exact .int _ _
              | i + 3, hx, hv => simp at hx
            · rintro e w' ⟨v, G', rfl, hext, _, hrv, _⟩
              obtain ⟨t, rfl, ht⟩ := rep_two hrv
              refine ⟨⟨t, ok, rfl, ?_⟩, ext_below hext⟩
              unfold rdAll; rw [e1]; exact ht
          · cases e1'
        · rintro e w' ⟨rfl, hb⟩
          exact ⟨_, G, rfl, below_ext hb hW.σlt, below_rel hW hb, .str _ _ (by simp), fun _ => rfl, hτ⟩
      · cases h
    · cases h
  · cases h
end Go.Proofs.Ythplidagfcdibaa
