/- Part 3 of the texts on which the proof in this folder rests: each says what it proves at its own head. No condition. -/
import Derived.Test.YthkkhmkieknemaaM2
set_option linter.unusedVariables false
set_option linter.unusedSimpArgs false
/- Calls that share the caller's objects: how their bodies end. No condition. -/
namespace Go.Abs
section
variable {F : CallF} {k : Nat} {l : List IOper} {s : List (Nat × AV)} {os : List (Nat × List AV)} {T : Nat → AV} {H : Hp} {E : Nat → Option TypeId} {n c d : Nat} {lv : Nat → Bool} {Q : St → Prop} {x y : X} {kk : IntKind} {i : Int} {p : Nat}

/-- A part of a slice whose brand is not kept. -/
theorem p_slL_rest {br sz s0 : Nat} {xs : List AV} (hx : evL s x = some (.sl br s0 xs)) (hs : s0 = sz ∨ (xs = [] ∧ br < 2)) (hy : evL s y = some (.int kk i)) (hb : asB i (xs.length / sz) = some p) (hbr : br = 1 ∨ (br ≠ 0 ∧ br ≠ 3 ∧ p ≠ 0))
    (k : WpO F l ⟨slots ((d, csl sz ((xs.take (xs.length / sz * sz)).drop (p * sz))) :: s) T, objs os H, E, n, lv, c⟩ Q) : WpO F (⟨some d, .slL sz x (some y) none none, none⟩ :: l) ⟨slots s T, objs os H, E, n, lv, c⟩ Q :=
  o_eff rfl (by
    simp only [evOp, evL_ev hx]
    rw [if_pos hs, bnds_of (mx := none) rfl (show bL s none (xs.length / sz) (xs.length / sz) = some (xs.length / sz) from rfl) (bL_some hy hb)]
    rcases hbr with rfl | ⟨h0, h3, hp⟩
    · simp [mkSl]
    · simp [mkSl, h0, h3, hp]) k

/-- What is asked where a shared body ends: R: the answer, HP: what is known of the objects. -/
def RetS (fn : IFn) (n : Nat) (P : AV → Hs → Prop) (e : Ex) (S : St) : Prop := (e = .norm ∨ e = .ret) ∧ ∃ r hs, finish fn n S = some (r, hs) ∧ P r hs

theorem q_calls {FN : FuncId → Option FnDef} {f : FuncId} {fn : IFn} {vs : List AV} {P : AV → Hs → Prop} (hf : FN f = some (.code fn))
    (h : ∀ (T : Nat → AV), Wp (evCall FN k) k fn.body ⟨slots (argSlots 0 vs) T, objs os H, E, n, lv, c⟩ (RetS fn n P)) : ∃ r hs, evCall FN (k + 1) f vs ⟨objs os H, n, lv, c⟩ E = some (r, hs) ∧ P r hs := by
  have := h (fun _ => .tup [])
  have he : slots (argSlots 0 vs) (fun _ => .tup []) = fun t => vs.getD t (.tup []) := by
    funext t
    rw [argSlots_get]; simp
  rw [he] at this
  obtain ⟨e, S, h1, hne, r, hs, h2, h3⟩ := this.ex
  refine ⟨r, hs, ?_, h3⟩
  rw [evCall_code hf]
  unfold evBody
  have h1' : evCode (evCall FN k) k fn.body (entry vs ⟨objs os H, n, lv, c⟩ E) = some (e, S) := h1
  rw [h1']
  rcases hne with rfl | rfl
  · exact h2
  · exact h2

theorem q_rets {fn : IFn} {P : AV → Hs → Prop} {e : Ex} {us : List AV} {r : AV} {n' : Nat} (he : e = .norm ∨ e = .ret) (h1 : resS s os fn.res = some us) (hz : (fn.res.all fun | .cell _ sz ag => !(ag && Nat.beq sz 0) | _ => true) = true) (h2 : (leaves (packR us)).all (finOk (objs os H) n) = true)
    (h4 : mapLeaf (finCell (objs os H) n) (packR us) = r) (h3 : r.under n = true) (hP : P r ⟨trim n (objs os H), n, lv, c⟩) : RetS fn n P e ⟨slots s T, objs os H, E, n', lv, c⟩ := by
  refine ⟨he, r, _, ?_, hP⟩
  unfold finish
  rw [resS_eq h1 hz]
  simp only [h2, h4, h3, if_true]

/-- One object is written, the others stay. -/
structure Writes (F : CallF) (f : FuncId) (args : List AV) (os : List (Nat × List AV)) (H : Hp) (n : Nat) (lv : Nat → Bool) (c : Nat) (E : Nat → Option TypeId) (R : AV) (id : Nat) (v : List AV) : Prop where
  ex : ∃ H', F f args ⟨objs os H, n, lv, c⟩ E = some (R, ⟨H', n, lv, c⟩) ∧ H' id = v ∧ ∀ j, j < n → j ≠ id → H' j = keepH n (objs os H) j

/-- The objects behind it. -/
def HoldsX (n id : Nat) (v : List AV) (os : List (Nat × List AV)) : List (Nat × List AV) → Prop
  | [] => True
  | (j, u) :: l => ((j = id ∧ v = u) ∨ (Nat.beq j id = false ∧ Nat.blt j n = true ∧ lkO os j = some u ∧ underL n u = true)) ∧ HoldsX n id v os l

theorem holdsX {id : Nat} {v : List AV} {H' : Hp} (h1 : H' id = v) (h2 : ∀ j, j < n → j ≠ id → H' j = keepH n (objs os H) j) : ∀ {l : List (Nat × List AV)}, HoldsX n id v os l → HoldsO H' l := by
  intro l
  induction l with
  | nil => intro _; trivial
  | cons q l ih =>
    obtain ⟨j, u⟩ := q
    rintro ⟨h, h'⟩
    refine ⟨?_, ih h'⟩
    rcases h with ⟨rfl, rfl⟩ | ⟨k1, k2, k3, k4⟩
    · exact h1
    · rw [h2 j (by simpa using k2) (Nat.ne_of_beq_eq_false k1), keepH, lkO_objs k3, if_pos k4]

theorem p_writes {f : FuncId} {xs : List X} {args : List AV} {R : AV} {id : Nat} {v : List AV} {os' : List (Nat × List AV)} (ha : xs.mapM (evL s) = some args) (hc : ∀ H E, Writes F f args os H n lv c E R id v) (hx : HoldsX n id v os os') (k : ∀ H, WpO F l ⟨slots ((d, R) :: s) T, objs os' H, E, n, lv, c⟩ Q) :
    WpO F (⟨some d, .calls f xs, none⟩ :: l) ⟨slots s T, objs os H, E, n, lv, c⟩ Q := by
  obtain ⟨H', h1, h2, h3⟩ := (hc H E).ex
  refine p_calls (dd := some d) ha h1 ?_
  have := k H'
  rwa [objs_self (holdsX h2 h3 hx)] at this

/-- A function value is called: a method's value, say. -/
theorem p_callv {f : FuncId} {x : X} {xs : List X} {fs args : List AV} {R : AV} {id : Nat} {v : List AV} {os' : List (Nat × List AV)} (hf : evL s x = some (.fn f fs [])) (ha : xs.mapM (evL s) = some args) (hc : ∀ H E, Writes F f (fs ++ args) os H n lv c E R id v) (hx : HoldsX n id v os os') (k : ∀ H, WpO F l ⟨slots ((d, R) :: s) T, objs os' H, E, n, lv, c⟩ Q) :
    WpO F (⟨some d, .callv x xs, none⟩ :: l) ⟨slots s T, objs os H, E, n, lv, c⟩ Q := by
  obtain ⟨H', h1, h2, h3⟩ := (hc H E).ex
  have hargs : xs.map (ev (slots s T)) = args := by
    clear hc hx k h1
    induction xs generalizing args with
    | nil => simp at ha; simp [ha]
    | cons x xs ih =>
      rw [List.mapM_cons] at ha
      simp only [Option.bind_eq_bind, Option.bind_eq_some_iff, Option.pure_def, Option.some.injEq] at ha
      obtain ⟨u, hu, r, hr, rfl⟩ := ha
      simp only [List.map_cons, evL_ev hu, ih hr]
  refine o_step (S1 := ⟨putT (slots s T) (some d) R, H', E, n, lv, c⟩) ?_ ?_
  · simp only [evStep, wants, isCall, evCallOp, evL_ev hf, hargs, List.append_nil, h1, if_true]
  · have := k H'
    rwa [objs_self (holdsX h2 h3 hx)] at this

/-- A shared body that writes one object. -/
theorem q_writes {FN : FuncId → Option FnDef} {f : FuncId} {fn : IFn} {vs : List AV} {R : AV} {id : Nat} {v : List AV} (hid : id < n) (hu : underL n v = true) (hf : FN f = some (.code fn))
    (h : ∀ (T : Nat → AV), Wp (evCall FN k) k fn.body ⟨slots (argSlots 0 vs) T, objs os H, E, n, lv, c⟩ (RetS fn n fun r hs => r = R ∧ ∃ H', hs = ⟨trim n H', n, lv, c⟩ ∧ H' id = v ∧ ∀ j, j < n → j ≠ id → keepH n H' j = keepH n (objs os H) j)) : Writes (evCall FN (k + 1)) f vs os H n lv c E R id v := by
  obtain ⟨r, hs, h1, rfl, H', rfl, h2, h3⟩ := q_calls hf h
  refine ⟨trim n H', h1, ?_, fun j hj hne => ?_⟩
  · simp only [trim, if_pos hid, keepH, h2, if_pos hu]
  · simp only [trim, if_pos hj]; exact h3 j hj hne

theorem objs_cons_ne {q : Nat × List AV} {j : Nat} (h : q.1 ≠ j) : objs (q :: os) H j = objs os H j := by
  obtain ⟨i, v⟩ := q
  simp only [objs, upd]
  rw [if_neg (fun e => h e.symm)]

/-! ### A loop that leaves other objects alone -/

/-- All objects below n0 but one hold what they held, as far as the caller may know. -/
def Same (n0 id : Nat) (H0 H : Hp) : Prop := ∀ j, j < n0 → j ≠ id → keepH n0 H j = keepH n0 H0 j

theorem underL_le {n m : Nat} (h : n ≤ m) : ∀ (l : List AV), underL n l = true → underL m l = true := by
  have one : ∀ (x : AV), x.under n = true → x.under m = true := by
    intro x
    apply AV.rec (motive_1 := fun x => x.under n = true → x.under m = true) (motive_2 := fun l => underL n l = true → underL m l = true)
    all_goals first
      | (intros; rfl)
      | (intro id o hh; simp only [AV.under, decide_eq_true_eq] at hh ⊢; omega)
      | (intro a b c d hh; simp only [AV.under, decide_eq_true_eq] at hh ⊢; omega)
      | (intro f fs cs h1 h2 hh; simp only [AV.under, Bool.and_eq_true] at hh ⊢; exact ⟨h1 hh.1, h2 hh.2⟩)
      | (intro t v h1 hh; simp only [AV.under] at hh ⊢; exact h1 hh)
      | (intro cs h1 hh; simp only [AV.under] at hh ⊢; exact h1 hh)
      | (intro x l h1 h2 hh; simp only [underL, Bool.and_eq_true] at hh ⊢; exact ⟨h1 hh.1, h2 hh.2⟩)
      | skip
  intro l
  induction l with
  | nil => intro _; rfl
  | cons x l ih =>
    intro hh
    simp only [underL, Bool.and_eq_true] at hh ⊢
    exact ⟨one x hh.1, ih hh.2⟩

theorem keep_keep {n m : Nat} (h : n ≤ m) (H : Hp) (j : Nat) : keepH n (keepH m H) j = keepH n H j := by
  unfold keepH
  by_cases h1 : underL n (H j) = true
  · have h2 := underL_le h _ h1
    simp only [h2, if_true, h1]
  · by_cases h2 : underL m (H j) = true
    · simp only [h2, if_true]
    · simp only [h2, h1, if_false, underL]
      simp

theorem Same.keep {n0 id m : Nat} {H0 H : Hp} (h : Same n0 id H0 H) (hm : n0 ≤ m) : Same n0 id H0 (keepH m H) := fun j hj hne => (keep_keep hm H j).trans (h j hj hne)
theorem Same.refl (n0 id : Nat) (H : Hp) : Same n0 id H H := fun _ _ _ => rfl
theorem Same.upd {n0 id i : Nat} {v : List AV} {H0 H : Hp} (h : Same n0 id H0 H) (hi : i = id ∨ n0 ≤ i) : Same n0 id H0 (upd H i v) := by
  intro j hj hne
  have : keepH n0 (Go.Abs.upd H i v) j = keepH n0 H j := by
    have hji : ¬ j = i := by rcases hi with rfl | hi <;> omega
    simp only [keepH, Go.Abs.upd, if_neg hji]
  rw [this]; exact h j hj hne
theorem Same.objs {n0 id : Nat} {H0 H : Hp} : ∀ {l : List (Nat × List AV)}, Same n0 id H0 H → (l.all fun p => Nat.beq p.1 id || Nat.ble n0 p.1) = true → Same n0 id H0 (objs l H) := by
  intro l
  induction l with
  | nil => intro h _; exact h
  | cons p l ih =>
    obtain ⟨i, v⟩ := p
    intro h hl
    simp only [List.all_cons, Bool.and_eq_true, Bool.or_eq_true] at hl
    exact (ih h hl.2).upd (hl.1.imp Nat.eq_of_beq_eq_true Nat.le_of_ble_eq_true)

def HeadR {α : Type} (I : LInv α) (R : Hp → Prop) (n : Nat) (lv : Nat → Bool) (c : Nat) (i : α) (S : St) : Prop := I.P i ∧ R S.H ∧ Known (I.ts i) (I.os i) n lv c S

structure nextR {α : Type} (I : LInv α) (R : Hp → Prop) (n : Nat) (lv : Nat → Bool) (c m : Nat) (K : Ex → St → Prop) (e : Ex) (S : St) : Prop where
  h : match e with
    | .norm => ∃ j, I.μ j < m ∧ HeadR I R n lv c j (pop n S)
    | e => K e S

variable {K : Ex → St → Prop} {a : IC}

theorem q_loopR {α : Type} (I : LInv α) (R : Hp → Prop) (i : α) (hP : I.P i) (hR : R (objs os H)) (hμ : I.μ i < k) (h1 : HoldsE s (I.ts i)) (h2 : HoldsOE os (I.os i))
    (round : ∀ i T H E, I.P i → R (objs (I.os i) H) → I.μ i < k → Wp F k a ⟨slots (I.ts i) T, objs (I.os i) H, E, n, lv, c⟩ (nextR I R n lv c (I.μ i) K)) : Wp F k (.loop a) ⟨slots s T, objs os H, E, n, lv, c⟩ K := by
  have key : ∀ (m : Nat) (i : α) (S : St), HeadR I R n lv c i S → I.μ i < m → m ≤ k → ∃ e S', evLoop (evCode F k a) n m S = some (e, S') ∧ K e S' := by
    intro m
    induction m with
    | zero => intro i S _ h; omega
    | succ m ih =>
      rintro i S ⟨hP, hR, T, H, E, rfl⟩ hlt hmk
      obtain ⟨e, S1, q1, q2⟩ := (round i T H E hP hR (by omega)).ex
      cases e with
      | norm =>
        obtain ⟨j, hj, hh⟩ := q2.h
        obtain ⟨e2, S2, r1, r2⟩ := ih j _ hh (by omega) (by omega)
        exact ⟨e2, S2, by simp only [evLoop, q1]; exact r1, r2⟩
      | exit id => exact ⟨.exit id, S1, by simp only [evLoop, q1], q2.h⟩
      | ret => exact ⟨.ret, S1, by simp only [evLoop, q1], q2.h⟩
  obtain ⟨e, S', r1, r2⟩ := key k i _ ⟨hP, hR, known_of (holdsE h1) (holdsOE h2)⟩ hμ (Nat.le_refl _)
  exact ⟨e, S', by simp only [evCode]; exact r1, r2⟩

theorem r_again {α : Type} {I : LInv α} {R : Hp → Prop} {m n' : Nat} (j : α) (hP : I.P j) (hR : R (keepH n (objs os H))) (hμ : I.μ j < m) (h1 : HoldsS n s (I.ts j)) (h2 : HoldsOS n os (I.os j)) : nextR I R n lv c m K .norm ⟨slots s T, objs os H, E, n', lv, c⟩ :=
  ⟨j, hμ, hP, hR, known_pop (holdsS h1) (holdsOS h2)⟩
theorem r_exit' {α : Type} {I : LInv α} {R : Hp → Prop} {m id : Nat} {S : St} (h : K (.exit id) S) : nextR I R n lv c m K (.exit id) S := ⟨h⟩
theorem r_ret' {α : Type} {I : LInv α} {R : Hp → Prop} {m : Nat} {S : St} (h : K .ret S) : nextR I R n lv c m K .ret S := ⟨h⟩

end
end Go.Abs

/- Arithmetic without a hypothesis per step: numbers that are natural. No condition. -/
namespace Go.Abs
section
variable {a b m : Nat}

theorem add_nn (h : a + b < 9223372036854775808) : evBin .add (.int .i64 (a : Int)) (.int .i64 (b : Int)) = some (.int .i64 ((a + b : Nat) : Int)) := add_w (by omega) (by omega) (by omega)
theorem add_nl (h : a + (OfNat.ofNat m : Nat) < 9223372036854775808) : evBin .add (.int .i64 (a : Int)) (.int .i64 (OfNat.ofNat m : Int)) = some (.int .i64 ((a + (OfNat.ofNat m : Nat) : Nat) : Int)) := add_nn h
theorem add_ln (h : (OfNat.ofNat m : Nat) + a < 9223372036854775808) : evBin .add (.int .i64 (OfNat.ofNat m : Int)) (.int .i64 (a : Int)) = some (.int .i64 (((OfNat.ofNat m : Nat) + a : Nat) : Int)) := add_nn h
theorem sub_nn (h : b ≤ a ∧ a < 9223372036854775808) : evBin .sub (.int .i64 (a : Int)) (.int .i64 (b : Int)) = some (.int .i64 ((a - b : Nat) : Int)) := sub_w (by omega) (by omega) (by omega)
theorem sub_nl (h : (OfNat.ofNat m : Nat) ≤ a ∧ a < 9223372036854775808) : evBin .sub (.int .i64 (a : Int)) (.int .i64 (OfNat.ofNat m : Int)) = some (.int .i64 ((a - (OfNat.ofNat m : Nat) : Nat) : Int)) := sub_nn h
theorem sub_ln (h : a ≤ (OfNat.ofNat m : Nat) ∧ (OfNat.ofNat m : Nat) < 9223372036854775808) : evBin .sub (.int .i64 (OfNat.ofNat m : Int)) (.int .i64 (a : Int)) = some (.int .i64 (((OfNat.ofNat m : Nat) - a : Nat) : Int)) := sub_nn h
theorem mul_nn (h : a * b < 9223372036854775808) : evBin .mul (.int .i64 (a : Int)) (.int .i64 (b : Int)) = some (.int .i64 ((a * b : Nat) : Int)) := mul_w (by simp) (by omega) (by omega)
theorem mul_nl (h : a * (OfNat.ofNat m : Nat) < 9223372036854775808) : evBin .mul (.int .i64 (a : Int)) (.int .i64 (OfNat.ofNat m : Int)) = some (.int .i64 ((a * (OfNat.ofNat m : Nat) : Nat) : Int)) := mul_nn h
theorem mul_ln (h : (OfNat.ofNat m : Nat) * a < 9223372036854775808) : evBin .mul (.int .i64 (OfNat.ofNat m : Int)) (.int .i64 (a : Int)) = some (.int .i64 (((OfNat.ofNat m : Nat) * a : Nat) : Int)) := mul_nn h
theorem quo_nn (h : 0 < b ∧ a < 9223372036854775808) : evBin .quo (.int .i64 (a : Int)) (.int .i64 (b : Int)) = some (.int .i64 ((a / b : Nat) : Int)) := quo_w (by omega) (by omega) (by simp) (by omega)
theorem quo_nl (h : 0 < (OfNat.ofNat m : Nat) ∧ a < 9223372036854775808) : evBin .quo (.int .i64 (a : Int)) (.int .i64 (OfNat.ofNat m : Int)) = some (.int .i64 ((a / (OfNat.ofNat m : Nat) : Nat) : Int)) := quo_nn h
theorem rem_nn (h : 0 < b) : evBin .rem (.int .i64 (a : Int)) (.int .i64 (b : Int)) = some (.int .i64 ((a % b : Nat) : Int)) := rem_w (by omega) (by omega) (by simp)
theorem rem_nl (h : 0 < (OfNat.ofNat m : Nat)) : evBin .rem (.int .i64 (a : Int)) (.int .i64 (OfNat.ofNat m : Int)) = some (.int .i64 ((a % (OfNat.ofNat m : Nat) : Nat) : Int)) := rem_nn h

theorem w8n (n : Nat) : IntKind.u8.wrap (n : Int) = ((n % 256 : Nat) : Int) := by rw [w8]; simp

theorem inB_n (h : a < b) : inB (a : Int) b = some a := by rw [inB_of (by omega) (by omega)]; exact congrArg some (Int.toNat_natCast _)
theorem inB_l (h : (OfNat.ofNat m : Nat) < b) : inB (OfNat.ofNat m : Int) b = some (OfNat.ofNat m : Nat) := inB_n h
theorem asB_n (h : a ≤ b) : asB (a : Int) b = some a := by rw [asB_of (by omega) (by omega)]; exact congrArg some (Int.toNat_natCast _)
theorem asB_l (h : (OfNat.ofNat m : Nat) ≤ b) : asB (OfNat.ofNat m : Int) b = some (OfNat.ofNat m : Nat) := asB_n h

theorem shr_n {k kk : IntKind} (h : b < k.bits) : evBin .shr (.int k (a : Int)) (.int kk (b : Int)) = some (.int k ((a / 2 ^ b : Nat) : Int)) := by
  have hm : min ((b : Int)).toNat k.bits = b := by simp; omega
  have hneg : ¬ ((b : Int) < 0) := by omega
  simp only [evBin, evShift, or_true, if_true, hneg, if_false, hm]
  congr 2
  rw [show ((2 : Int) ^ b) = ((2 ^ b : Nat) : Int) by simp, Int.fdiv_eq_ediv_of_nonneg _ (Int.natCast_nonneg _)]
  simp
theorem shr_l {k kk : IntKind} (h : (OfNat.ofNat m : Nat) < k.bits) : evBin .shr (.int k (a : Int)) (.int kk (OfNat.ofNat m : Int)) = some (.int k ((a / 2 ^ (OfNat.ofNat m : Nat) : Nat) : Int)) := shr_n h

theorem and_u32 (ha : a < 4294967296) (hb : b < 4294967296) : evBin .and (.int .u32 (a : Int)) (.int .u32 (b : Int)) = some (.int .u32 ((a &&& b : Nat) : Int)) := by
  have e : ∀ n : Nat, n < 4294967296 → (BitVec.ofInt 32 (n : Int)).toNat = n := fun n h => by simp only [BitVec.toNat_ofInt]; omega
  have h1 : (BitVec.ofInt IntKind.u32.bits (a : Int) &&& BitVec.ofInt IntKind.u32.bits (b : Int)).toNat = a &&& b := by
    show (BitVec.ofInt 32 (a : Int) &&& BitVec.ofInt 32 (b : Int)).toNat = _
    rw [BitVec.toNat_and, e a ha, e b hb]
  have : a &&& b ≤ a := Nat.and_le_left
  simp only [evBin, reduceCtorEq, or_self, if_false, if_true, evInt, h1]
  rw [w32 (by omega) (by omega)]

theorem and_two (a : Nat) : a &&& 2 = 2 * (a / 2 % 2) := by
  have h : a &&& 2 = (a / 2 % 2) <<< 1 := by
    apply Nat.eq_of_testBit_eq
    intro i
    have h2 : Nat.testBit 2 i = decide (i = 1) := by
      rcases i with _ | _ | i
      · rfl
      · rfl
      · simp [Nat.testBit_succ]
    rw [Nat.testBit_and, h2, Nat.testBit_shiftLeft]
    rcases i with _ | _ | i
    · simp
    · have : a.testBit 1 = (a / 2 % 2).testBit 0 := by rw [Nat.testBit_succ]; simp [Nat.testBit_zero]
      simp [this]
    · have : (a / 2 % 2) < 2 := Nat.mod_lt _ (by omega)
      have : (a / 2 % 2).testBit (i + 1) = false := Nat.testBit_lt_two_pow (by have : 2 ^ 1 ≤ 2 ^ (i + 1) := Nat.pow_le_pow_right (by omega) (by omega); omega)
      simp [this]
  rw [h, Nat.shiftLeft_eq]; omega

theorem and_255 (a : Nat) : a &&& 255 = a % 256 := by
  have := Nat.and_two_pow_sub_one_eq_mod a 8
  simpa using this
end

/-! ### Calls that are handed what lies in the caller's objects -/

def Snap (os : List (Nat × List AV)) (v w : AV) : Prop := ∀ H, (leaves v).all (snapOk (objs os H)) = true ∧ (mapLeaf (snapCell (objs os H)) v).share = w
def Snaps (os : List (Nat × List AV)) : List AV → List AV → Prop
  | [], [] => True
  | v :: vs, w :: ws => Snap os v w ∧ Snaps os vs ws
  | _, _ => False

theorem snaps {os : List (Nat × List AV)} {H : Hp} : ∀ {vs ws : List AV}, Snaps os vs ws → vs.all (fun v => (leaves v).all (snapOk (objs os H))) = true ∧ vs.map (fun v => (mapLeaf (snapCell (objs os H)) v).share) = ws
  | [], [], _ => ⟨rfl, rfl⟩
  | [], _ :: _, h => h.elim
  | _ :: _, [], h => h.elim
  | v :: vs, w :: ws, h => by
    obtain ⟨h1, h2⟩ := snaps (H := H) h.2
    simp only [List.all_cons, List.map_cons, (h.1 H).1, (h.1 H).2, h1, h2, Bool.and_self, and_self]

section
variable {F : CallF} {l : List IOper} {s : List (Nat × AV)} {os : List (Nat × List AV)} {T : Nat → AV} {H : Hp} {E : Nat → Option TypeId} {n c d : Nat} {lv : Nat → Bool} {Q : St → Prop}

theorem evL_all {xs : List X} {args : List AV} (ha : xs.mapM (evL s) = some args) : xs.map (ev (slots s T)) = args := by
  induction xs generalizing args with
  | nil => simp at ha; simp [ha]
  | cons x xs ih =>
    rw [List.mapM_cons] at ha
    simp only [Option.bind_eq_bind, Option.bind_eq_some_iff, Option.pure_def, Option.some.injEq] at ha
    obtain ⟨u, hu, r, hr, rfl⟩ := ha
    simp only [List.map_cons, evL_ev hu, ih hr]

def evsS (s : List (Nat × AV)) : List X → Option (List AV)
  | [] => some []
  | x :: xs => match evL s x, evsS s xs with
    | some u, some us => some (u :: us)
    | _, _ => none

theorem evsS_eq : ∀ {xs : List X} {vs : List AV}, evsS s xs = some vs → xs.mapM (evL s) = some vs
  | [], vs, h => by simp only [evsS] at h; rw [← h]; rfl
  | x :: xs, vs, h => by
    simp only [evsS] at h
    split at h
    · rename_i u us h1 h2
      rw [List.mapM_cons, h1, evsS_eq h2, ← h]; rfl
    · simp at h

theorem p_calln {f : FuncId} {xs : List X} {vs ws : List AV} {r : AV} (ha' : evsS s xs = some vs) (hw : Snaps os vs ws) (hc : evP F f ws = some r) (hr : (leaves r).all AV.scalar = true) (k : WpO F l ⟨slots ((d, r) :: s) T, objs os H, E, n, lv, c⟩ Q) :
    WpO F (⟨some d, .calln f xs, none⟩ :: l) ⟨slots s T, objs os H, E, n, lv, c⟩ Q := by
  have ha := evsS_eq ha'
  obtain ⟨h1, h2⟩ := snaps (H := H) hw
  have hm := evL_all (T := T) ha
  have h2' : xs.map (fun x => (mapLeaf (snapCell (objs os H)) (ev (slots s T) x)).share) = ws := by rw [← h2, ← hm, List.map_map]; rfl
  refine o_step (S1 := ⟨upd (slots s T) d r, objs os H, E, n, lv, c⟩) ?_ k
  simp only [evStep, wants, isCall, evCallOp, hm, h1, h2', hc, hr, if_true, Eff.st, putT, Nat.add_zero]
  rw [show (fun b => if c ≤ b ∧ b < c then true else if (none : Option Nat) = some b then false else lv b) = lv from live0 lv c]

/-- A call that answers with a number or a bool: what it answers, before its brands are forgotten. -/
theorem evP_of {f : FuncId} {vs : List AV} {r : AV} (h : Calls0 F f vs r) (hr : r.scalar = true) : evP F f vs = some r := by
  have h0 := h.eq
  unfold call0 at h0
  obtain ⟨u, h1, h2⟩ := Option.map_eq_some_iff.1 h0
  rw [h1]
  cases u <;> simp only [mapLeaf, canonCell] at h2 <;> first
    | exact congrArg some h2
    | (subst h2; simp [AV.scalar] at hr; done)
    | (split at h2 <;> (subst h2; simp [AV.scalar, csl] at hr))

theorem Same.after {n0 n id : Nat} {H0 Hm H' : Hp} (h : Same n0 id H0 Hm) (hn : n0 ≤ n) (h' : ∀ j, j < n → j ≠ id → H' j = keepH n Hm j) : Same n0 id H0 H' := by
  intro j hj hne
  have e : keepH n0 H' j = keepH n0 (keepH n Hm) j := by
    show (if underL n0 (H' j) = true then H' j else []) = _
    rw [h' j (by omega) hne]; rfl
  rw [e, keep_keep hn]; exact h j hj hne

theorem p_mkf {f : FuncId} {fs cs : List X} {us ws : List AV} (h1 : evsS s fs = some us) (h2 : evsS s cs = some ws) (k : WpO F l ⟨slots ((d, .fn f us ws) :: s) T, objs os H, E, n, lv, c⟩ Q) : WpO F (⟨some d, .mkf f fs cs, none⟩ :: l) ⟨slots s T, objs os H, E, n, lv, c⟩ Q :=
  o_eff rfl (by simp only [evOp, evL_all (evsS_eq h1), evL_all (evsS_eq h2)]) k

/-- The smaller, or the greater, of two. -/
theorem p_mn2 {mx : Bool} {kk : IntKind} {i j : Int} {x y : X} (hx : evL s x = some (.int kk i)) (hy : evL s y = some (.int kk j)) (k : WpO F l ⟨slots ((d, .int kk (if mx then max i j else min i j)) :: s) T, objs os H, E, n, lv, c⟩ Q) : WpO F (⟨some d, .mn mx [x, y], none⟩ :: l) ⟨slots s T, objs os H, E, n, lv, c⟩ Q :=
  o_eff rfl (by
    simp only [evOp, evL_ev hx, evMin, evL_ev hy, if_true]
    first
      | rfl
      | (cases mx <;> simp [Int.max_def, Int.min_def] <;> (repeat' split) <;> first | rfl | omega)) k

/-- A call that writes one object; what is known of the objects goes on as a relation. -/
theorem p_writesR {f : FuncId} {xs : List X} {args : List AV} {R : AV} {id : Nat} {v : List AV} (ha : evsS s xs = some args) (hc : ∀ H E, Writes F f args os H n lv c E R id v) (k : ∀ H', H' id = v → (∀ j, j < n → j ≠ id → H' j = keepH n (objs os H) j) → WpO F l ⟨slots ((d, R) :: s) T, objs [] H', E, n, lv, c⟩ Q) :
    WpO F (⟨some d, .calls f xs, none⟩ :: l) ⟨slots s T, objs os H, E, n, lv, c⟩ Q := by
  obtain ⟨H', h1, h2, h3⟩ := (hc H E).ex
  exact p_calls (dd := some d) (evsS_eq ha) h1 (k H' h2 h3)

theorem p_callvR {f : FuncId} {x : X} {xs : List X} {fs args : List AV} {R : AV} {id : Nat} {v : List AV} {os' : List (Nat × List AV)} (hf : evL s x = some (.fn f fs [])) (ha : evsS s xs = some args) (hc : ∀ H E, Writes F f (fs ++ args) os H n lv c E R id v) (hx : HoldsX n id v os os') (k : ∀ H, WpO F l ⟨slots ((d, R) :: s) T, objs os' H, E, n, lv, c⟩ Q) :
    WpO F (⟨some d, .callv x xs, none⟩ :: l) ⟨slots s T, objs os H, E, n, lv, c⟩ Q := p_callv hf (evsS_eq ha) hc hx k
end

section
variable {k : Nat}
/-- What a function answers before its brands are forgotten. -/
theorem q_evP {FN : FuncId → Option FnDef} {f : FuncId} {fn : IFn} {vs : List AV} {R : AV} (hf : FN f = some (.code fn)) (hR : R.flat = true)
    (h : ∀ (T : Nat → AV) (H : Hp) (E : Nat → Option TypeId) (lv : Nat → Bool), Wp (evCall FN k) k fn.body ⟨slots (argSlots 0 vs) T, objs [] H, E, 0, lv, 4⟩ (RetS fn 0 fun r hs => own hs.lv r = R)) : evP (evCall FN (k + 1)) f vs = some R := by
  obtain ⟨r, hs, h1, h2⟩ := q_calls (k := k) (os := []) (H := fun _ => []) (E := fun _ => none) (n := 0) (lv := fun _ => false) (c := 4) (P := fun r hs => own hs.lv r = R) hf (fun T => h T _ _ _)
  unfold evP
  have e : evCall FN (k + 1) f vs h0 (fun _ => none) = some (r, hs) := h1
  rw [e]
  simp only [h2, hR, if_true]
end

/-! ### Comparisons: both ways -/
section
variable {F : CallF} {l : List IOper} {s : List (Nat × AV)} {os : List (Nat × List AV)} {T : Nat → AV} {H : Hp} {E : Nat → Option TypeId} {n c d : Nat} {lv : Nat → Bool} {Q : St → Prop} {x y : X} {kk : IntKind} {i j : Int}
theorem p_lss_split (hx : evL s x = some (.int kk i)) (hy : evL s y = some (.int kk j)) (k1 : i < j → WpO F l ⟨slots ((d, .bool true) :: s) T, objs os H, E, n, lv, c⟩ Q) (k2 : j ≤ i → WpO F l ⟨slots ((d, .bool false) :: s) T, objs os H, E, n, lv, c⟩ Q) : WpO F (⟨some d, .bin .lss x y, none⟩ :: l) ⟨slots s T, objs os H, E, n, lv, c⟩ Q := by
  by_cases h : i < j
  · exact p_bin hx hy (lss_t (by omega)) (k1 h)
  · exact p_bin hx hy (lss_f (by omega)) (k2 (by omega))
theorem p_leq_split (hx : evL s x = some (.int kk i)) (hy : evL s y = some (.int kk j)) (k1 : i ≤ j → WpO F l ⟨slots ((d, .bool true) :: s) T, objs os H, E, n, lv, c⟩ Q) (k2 : j < i → WpO F l ⟨slots ((d, .bool false) :: s) T, objs os H, E, n, lv, c⟩ Q) : WpO F (⟨some d, .bin .leq x y, none⟩ :: l) ⟨slots s T, objs os H, E, n, lv, c⟩ Q := by
  by_cases h : i ≤ j
  · exact p_bin hx hy (leq_t (by omega)) (k1 h)
  · exact p_bin hx hy (leq_f (by omega)) (k2 (by omega))
theorem p_gtr_split (hx : evL s x = some (.int kk i)) (hy : evL s y = some (.int kk j)) (k1 : j < i → WpO F l ⟨slots ((d, .bool true) :: s) T, objs os H, E, n, lv, c⟩ Q) (k2 : i ≤ j → WpO F l ⟨slots ((d, .bool false) :: s) T, objs os H, E, n, lv, c⟩ Q) : WpO F (⟨some d, .bin .gtr x y, none⟩ :: l) ⟨slots s T, objs os H, E, n, lv, c⟩ Q := by
  by_cases h : j < i
  · exact p_bin hx hy (gtr_t (by omega)) (k1 h)
  · exact p_bin hx hy (gtr_f (by omega)) (k2 (by omega))
theorem p_geq_split (hx : evL s x = some (.int kk i)) (hy : evL s y = some (.int kk j)) (k1 : j ≤ i → WpO F l ⟨slots ((d, .bool true) :: s) T, objs os H, E, n, lv, c⟩ Q) (k2 : i < j → WpO F l ⟨slots ((d, .bool false) :: s) T, objs os H, E, n, lv, c⟩ Q) : WpO F (⟨some d, .bin .geq x y, none⟩ :: l) ⟨slots s T, objs os H, E, n, lv, c⟩ Q := by
  by_cases h : j ≤ i
  · exact p_bin hx hy (geq_t (by omega)) (k1 h)
  · exact p_bin hx hy (geq_f (by omega)) (k2 (by omega))
theorem p_eql_split (hx : evL s x = some (.int kk i)) (hy : evL s y = some (.int kk j)) (k1 : i = j → WpO F l ⟨slots ((d, .bool true) :: s) T, objs os H, E, n, lv, c⟩ Q) (k2 : i ≠ j → WpO F l ⟨slots ((d, .bool false) :: s) T, objs os H, E, n, lv, c⟩ Q) : WpO F (⟨some d, .bin .eql x y, none⟩ :: l) ⟨slots s T, objs os H, E, n, lv, c⟩ Q := by
  by_cases h : i = j
  · exact p_bin hx hy (eql_t (by omega)) (k1 h)
  · exact p_bin hx hy (eql_f (by omega)) (k2 (by omega))
theorem p_neq_split (hx : evL s x = some (.int kk i)) (hy : evL s y = some (.int kk j)) (k1 : i ≠ j → WpO F l ⟨slots ((d, .bool true) :: s) T, objs os H, E, n, lv, c⟩ Q) (k2 : i = j → WpO F l ⟨slots ((d, .bool false) :: s) T, objs os H, E, n, lv, c⟩ Q) : WpO F (⟨some d, .bin .neq x y, none⟩ :: l) ⟨slots s T, objs os H, E, n, lv, c⟩ Q := by
  by_cases h : i ≠ j
  · exact p_bin hx hy (neq_t (by omega)) (k1 h)
  · exact p_bin hx hy (neq_f (by omega)) (k2 (by omega))

variable {a : IC} {k : Nat} {K : Ex → St → Prop}
/-- What is known is forgotten but for some of it. -/
theorem q_known {P : St → Prop} (ts : List (Nat × AV)) (os' : List (Nat × List AV)) (h1 : HoldsE s ts) (h2 : HoldsOE os os') (k : ∀ T H E, P ⟨slots ts T, objs os' H, E, n, lv, c⟩) : P ⟨slots s T, objs os H, E, n, lv, c⟩ := by
  obtain ⟨T', H', E', h⟩ := known_of (E := E) (n := n) (lv := lv) (c := c) (holdsE (T := T) h1) (holdsOE (H := H) h2)
  rw [h]; exact k T' H' E'
end
end Go.Abs

/- More rules to step by: the smaller of two numbers, bytes of a string, appends that keep a brand. No condition. -/
namespace Go.Abs
section
variable {F : CallF} {l : List IOper} {s : List (Nat × AV)} {os : List (Nat × List AV)} {T : Nat → AV} {H : Hp} {E : Nat → Option TypeId} {n c d : Nat} {lv : Nat → Bool} {Q : St → Prop} {x y : X}

theorem p_mnN {kk : IntKind} {i j : Nat} (hx : evL s x = some (.int kk (i : Int))) (hy : evL s y = some (.int kk (j : Int))) (k : WpO F l ⟨slots ((d, .int kk ((min i j : Nat) : Int)) :: s) T, objs os H, E, n, lv, c⟩ Q) : WpO F (⟨some d, .mn false [x, y], none⟩ :: l) ⟨slots s T, objs os H, E, n, lv, c⟩ Q :=
  p_mn2 hx hy (by
    have e : (if false = true then max (i : Int) j else min (i : Int) j) = ((min i j : Nat) : Int) := by simp; omega
    rw [e]; exact k)

theorem p_mxN {kk : IntKind} {i j : Nat} (hx : evL s x = some (.int kk (i : Int))) (hy : evL s y = some (.int kk (j : Int))) (k : WpO F l ⟨slots ((d, .int kk ((max i j : Nat) : Int)) :: s) T, objs os H, E, n, lv, c⟩ Q) : WpO F (⟨some d, .mn true [x, y], none⟩ :: l) ⟨slots s T, objs os H, E, n, lv, c⟩ Q :=
  p_mn2 hx hy (by
    have e : (if true = true then max (i : Int) j else min (i : Int) j) = ((max i j : Nat) : Int) := by simp; omega
    rw [e]; exact k)

theorem p_ixSn {l0 : List UInt8} {u : UInt8} {kk : IntKind} {i : Nat} (hx : evL s x = some (.str l0)) (hy : evL s y = some (.int kk (i : Int))) (hj : l0[i]? = some u) (k : WpO F l ⟨slots ((d, ofB u) :: s) T, objs os H, E, n, lv, c⟩ Q) : WpO F (⟨some d, .ixS x y, none⟩ :: l) ⟨slots s T, objs os H, E, n, lv, c⟩ Q :=
  p_ixS hx hy (by omega) (by rw [Int.toNat_natCast]; exact hj) k

/-- A list that is appended to: nothing yet, or with a brand of its own. -/
def LA (sz : Nat) (lv : Nat → Bool) (c br s0 : Nat) (xs : List AV) : Prop := (br = 0 ∧ s0 = 0 ∧ xs = []) ∨ (4 ≤ br ∧ br < c ∧ lv br = true ∧ s0 = sz)

theorem LA.nil {sz : Nat} : LA sz lv c 0 0 [] := .inl ⟨rfl, rfl, rfl⟩
theorem LA.mine {sz : Nat} {xs : List AV} (h4 : 4 ≤ c) (h : lv c = true) : LA sz lv (c + 1) c sz xs := .inr ⟨h4, Nat.lt_succ_self _, h, rfl⟩
theorem LA.keep {sz c' br br' s0 : Nat} {lv' : Nat → Bool} {xs : List AV} (h : LA sz lv c br s0 xs) (hc : c ≤ c') (hl : ∀ z, z < c → z ≠ br' → lv' z = lv z) (hne : br = 0 ∨ br ≠ br') : LA sz lv' c' br s0 xs := by
  rcases h with h | ⟨h1, h2, h3, h4⟩
  · exact .inl h
  · exact .inr ⟨h1, by omega, by rw [hl br h2 (by omega)]; exact h3, h4⟩
theorem LA.sz {sz br s0 : Nat} {xs : List AV} (h : LA sz lv c br s0 xs) : s0 = sz ∨ xs = [] := by
  rcases h with ⟨_, _, h⟩ | ⟨_, _, _, h⟩
  · exact .inr h
  · exact .inl h

theorem p_appL {sz bytes br s0 b2 : Nat} {xs ys : List AV} (hx : evL s x = some (.sl br s0 xs)) (hy : evL s y = some (.sl b2 sz ys)) (hne : ys.isEmpty = false) (hL : LA sz lv c br s0 xs) (h0 : 0 < sz ∧ 0 < bytes) (hr : (xs.length + ys.length) / sz * bytes ≤ room)
    (k : ∀ lv', lv' c = true → (∀ z, z < c → z ≠ br → lv' z = lv z) → WpO F l ⟨slots ((d, .sl c sz (xs ++ ys)) :: s) T, objs os H, E, n, lv', c + 1⟩ Q) : WpO F (⟨some d, .app sz bytes x y, none⟩ :: l) ⟨slots s T, objs os H, E, n, lv, c⟩ Q := by
  refine p_app hx ?_ hy (fun H => if_pos (.inl rfl)) h0 hr ?_ ?_ k
  · rcases hL with ⟨h1, h2, h3⟩ | ⟨_, _, _, h⟩
    · exact .inr ⟨h3, by omega⟩
    · exact .inl h
  · rcases hL with ⟨h1, h2, h3⟩ | ⟨h1, h2, h3, _⟩
    · exact .inl ⟨h1, h3⟩
    · exact .inr (.inr ⟨h1, h2, h3⟩)
  · intro e; subst e; cases hne
end
end Go.Abs

/- More rules to step by: parts of an object's slice, appends of them, a store of a whole object. No condition. -/
namespace Go.Abs
section
variable {F : CallF} {l : List IOper} {s : List (Nat × AV)} {os : List (Nat × List AV)} {T : Nat → AV} {H : Hp} {E : Nat → Option TypeId} {n c d : Nat} {lv : Nat → Bool} {Q : St → Prop} {x y : X} {b : AV}

theorem p_appH {sz bytes br s0 : Nat} {xs ys : List AV} (hx : evL s x = some (.sl br s0 xs)) (hs : s0 = sz ∨ (xs = [] ∧ br < 4)) (hy : evL s y = some b) (hb : src (objs os H) sz b = some ys) (h0 : 0 < sz ∧ 0 < bytes) (hr : (xs.length + ys.length) / sz * bytes ≤ room) (ho : Own lv c br xs) (hne : ys ≠ [])
    (k : ∀ lv', lv' c = true → (∀ z, z < c → z ≠ br → lv' z = lv z) → WpO F l ⟨slots ((d, .sl c sz (xs ++ ys)) :: s) T, objs os H, E, n, lv', c + 1⟩ Q) : WpO F (⟨some d, .app sz bytes x y, none⟩ :: l) ⟨slots s T, objs os H, E, n, lv, c⟩ Q := by
  rcases ho with ⟨rfl, rfl⟩ | rfl | ⟨h4, hlt, hl⟩
  · refine o_brand (v := .sl c sz ([] ++ ys)) rfl ?_ fun lv' h1 h2 => k lv' h1 fun z hz _ => h2 z hz
    simp only [evOp, evL_ev hx, evL_ev hy, hb]
    rw [if_pos ⟨hs.imp id fun h => ⟨trivial, h.2⟩, h0.1, h0.2, hr⟩, if_pos (.inl trivial), if_neg hne]
  · refine o_brand (v := .sl c sz (xs ++ ys)) rfl ?_ fun lv' h1 h2 => k lv' h1 fun z hz _ => h2 z hz
    simp only [evOp, evL_ev hx, evL_ev hy, hb]
    rw [if_pos ⟨hs, h0.1, h0.2, hr⟩, if_pos (.inr trivial), if_neg hne]
  · refine o_brand_use (v := .sl c sz (xs ++ ys)) (br := br) rfl ?_ k
    simp only [evOp, evL_ev hx, evL_ev hy, hb]
    rw [if_pos ⟨hs, h0.1, h0.2, hr⟩, if_neg (by omega), if_pos ⟨h4, hl⟩]

theorem src_osl {id off len sz : Nat} {cs ys : List AV} (ho : lkO os id = some cs) (he : (cs.drop off).take (len * sz) = ys) (hle : off + len * sz ≤ cs.length) (hf : flatL ys = true) : src (objs os H) sz (.osl id off len sz) = some ys := by
  simp only [src, lkO_objs ho, he]
  rw [if_pos ⟨trivial, hle, hf⟩]

/-- A part of an object is appended. -/
theorem p_appO {sz bytes br s0 id off len : Nat} {xs ys cs : List AV} (hx : evL s x = some (.sl br s0 xs)) (hy : evL s y = some (.osl id off len sz)) (ho : lkO os id = some cs) (he : (cs.drop off).take (len * sz) = ys) (hle : off + len * sz ≤ cs.length) (hf : flatL ys = true) (hne : ys ≠ []) (hL : LA sz lv c br s0 xs) (h0 : 0 < sz ∧ 0 < bytes) (hr : (xs.length + ys.length) / sz * bytes ≤ room)
    (k : ∀ lv', lv' c = true → (∀ z, z < c → z ≠ br → lv' z = lv z) → WpO F l ⟨slots ((d, .sl c sz (xs ++ ys)) :: s) T, objs os H, E, n, lv', c + 1⟩ Q) : WpO F (⟨some d, .app sz bytes x y, none⟩ :: l) ⟨slots s T, objs os H, E, n, lv, c⟩ Q := by
  refine p_appH hx ?_ hy (src_osl ho he hle hf) h0 hr ?_ hne k
  · rcases hL with ⟨h1, h2, h3⟩ | ⟨_, _, _, h⟩
    · exact .inr ⟨h3, by omega⟩
    · exact .inl h
  · rcases hL with ⟨h1, h2, h3⟩ | ⟨h1, h2, h3, _⟩
    · exact .inl ⟨h1, h3⟩
    · exact .inr (.inr ⟨h1, h2, h3⟩)

theorem p_slL_osl {id off len sz q : Nat} {kk : IntKind} {i : Int} (hx : evL s x = some (.osl id off len sz)) (hy : evL s y = some (.int kk i)) (hb : asB i len = some q) (hq : q ≠ 0)
    (k : WpO F l ⟨slots ((d, .osl id off q sz) :: s) T, objs os H, E, n, lv, c⟩ Q) : WpO F (⟨some d, .slL sz x none (some y) none, none⟩ :: l) ⟨slots s T, objs os H, E, n, lv, c⟩ Q :=
  o_eff rfl (by
    simp only [evOp, evL_ev hx]
    rw [if_pos ⟨trivial, rfl⟩, bnds_of (mx := none) rfl (bL_some hy hb) (show bL s none 0 q = some 0 from rfl)]
    simp only [if_neg (Ne.symm hq), Nat.zero_mul, Nat.add_zero, Nat.sub_zero]) k

theorem p_storeA {id sz : Nat} {z cs : List AV} {d : Option Nat} (hx : evL s x = some (.ref id 0)) (hy : evL s y = some (.agg cs)) (ho : lkO os id = some z) (h1 : cs.length = sz) (h2 : z.length = sz) (hd : d = none)
    (k : WpO F l ⟨slots s T, objs ((id, cs) :: os) H, E, n, lv, c⟩ Q) : WpO F (⟨d, .store sz x y, none⟩ :: l) ⟨slots s T, objs os H, E, n, lv, c⟩ Q := by
  subst hd
  refine o_wr (id := id) (cs := cs) (v := .tup []) rfl ?_ k
  simp only [evOp, evL_ev hx, evL_ev hy, stored, lkO_objs ho]
  rw [if_pos ⟨h1, by omega⟩]
  simp only [put1, splice, List.take_zero, List.nil_append, Nat.zero_add]
  rw [List.drop_of_length_le (by omega), List.append_nil]
end
end Go.Abs
