/- Part 25 of the texts on which proofs about this seat rest: each says what it proves at its own head. No condition. -/
import Derived.Test.YthplidagfcdibaaM24
set_option linter.unusedVariables false
set_option linter.unusedSimpArgs false
/- The reference's Decode answers what decR says. Condition: at most 3000 bytes. -/
namespace Go.Proofs.Ythplidagfcdibaa
open Go.Abs
variable {k : Nat}
def decVr (x : BI × Nat) : AV := .agg (biC x.1 ++ [.int .i64 x.2])
theorem inB_iV {l : List Int} {j : Nat} (h : j < l.length) : inB (j : Int) ((iV l).length / 1) = some j := inB_n (by rw [iV_len]; omega)
theorem rd_iV {l : List Int} {j : Nat} {x : Int} (h : l[j]? = some x) : rd (iV l) (j * 1) 1 false = some (.int .i64 x) := by
  unfold rd iV
  simp [h, AV.leaf]
theorem drop_iV (l : List Int) (p : Nat) : csl 1 (((iV l).take ((iV l).length / 1 * 1)).drop (p * 1)) = csl 1 (iV (l.drop p)) := by
  rw [Nat.div_one, Nat.mul_one, Nat.mul_one, List.take_length]
  unfold iV
  rw [List.map_drop]
theorem rrPs_none {t t' : List Int} {ps : List PI} {i a m w : Int} {j : Nat} (h : rrPs j t = some (ps, i :: a :: m :: w :: t')) (hw : 1 < w) : ∀ d, rrPs (j + 1 + d) t = none
  | 0 => by simp only [Nat.add_zero, rrPs, h]; rw [if_pos hw]
  | d + 1 => by
    have := rrPs_none h hw d
    show rrPs (j + 1 + d + 1) t = none
    rw [rrPs, this]
theorem rrQs_none {l u : List Int} {qs : List RI} {j : Nat} (h : rrQs j l = some (qs, u)) (hq : rrQ u = none) : ∀ d, rrQs (j + 1 + d) l = none
  | 0 => by simp only [Nat.add_zero, rrQs, h, hq]
  | d + 1 => by
    have := rrQs_none h hq d
    show rrQs (j + 1 + d + 1) l = none
    rw [rrQs, this]
theorem getsF_len (b : List UInt8) : ∀ n a acc, (getsF b n a acc).1.length ≤ acc.length + n
  | 0, a, acc => Nat.le_refl _
  | n + 1, a, acc => by
    unfold getsF
    split
    · exact Nat.zero_le _
    · have := getsF_len b n (a + (getI (b.drop a)).2.1) (acc ++ [(getI (b.drop a)).1])
      rw [List.length_append, List.length_cons, List.length_nil] at this
      omega
theorem getL_len (b : List UInt8) : (getL b).1.length ≤ b.length := by
  have h := lenI_use b
  unfold getL
  split
  · exact Nat.zero_le _
  · have := getsF_len b (lenI b 1).1 (lenI b 1).2.1 []
    simp only [List.length_nil] at this
    omega
def pg (l : List UInt8) (i : Nat) : List UInt8 := l.take i ++ List.replicate (128 - i) 0
theorem pg_len {l : List UInt8} {i : Nat} (hi : i ≤ 128) (hl : i ≤ l.length) : (pg l i).length = 128 := by
  unfold pg
  rw [List.length_append, List.length_take, List.length_replicate]; omega
theorem pg_step {l : List UInt8} {i : Nat} {x : UInt8} (hx : l[i]? = some x) (hi : i < 128) : (pg l i).set i x = pg l (i + 1) := by
  have hil : i < l.length := (List.getElem?_eq_some_iff.1 hx).1
  have e : (l.take i).length = i := by rw [List.length_take]; omega
  unfold pg
  rw [List.set_append_right _ _ (by omega), e, Nat.sub_self, show 128 - i = (128 - (i + 1)) + 1 by omega, List.replicate_succ, List.set_cons_zero, List.take_add_one, hx, List.append_assoc]
  rfl
theorem pg_put {l : List UInt8} {i : Nat} {x : UInt8} (hx : l[i]? = some x) (hi : i < 128) : putS ((pg l i).map ofB) (0 + i * 1) 1 (ofB x) = some ((pg l (i + 1)).map ofB) := by
  have hil : i < l.length := (List.getElem?_eq_some_iff.1 hx).1
  rw [show 0 + i * 1 = i by omega, ← pg_step hx hi]
  exact setS_map (by rw [pg_len (by omega) (by omega)]; omega)
theorem pg_all {l : List UInt8} (h : l.length = 128) : pg l 128 = l := by
  unfold pg
  rw [List.take_of_length_le (by omega)]; simp
theorem p_loadR {F : CallF} {l : List IOper} {s : List (Nat × AV)} {os : List (Nat × List AV)} {T : Nat → AV} {H : Hp} {E : Nat → Option TypeId} {n c d : Nat} {lv : Nat → Bool} {Q : St → Prop} {x : X} {v : AV} {id off sz : Nat} {ag : Bool} {cs : List AV} (hx : evL s x = some (.ref id off)) (ho : lkO os id = some cs) (hr : rd cs off sz ag = some v)
    (k : WpO F l ⟨slots ((d, v) :: s) T, objs os H, E, n, lv, c⟩ Q) : WpO F (⟨some d, .load sz ag x, none⟩ :: l) ⟨slots s T, objs os H, E, n, lv, c⟩ Q :=
  o_eff rfl (by simp only [evOp, evL_ev hx, lkO_objs ho, hr]) k
def z7 : List AV := [.int .u32 0, .int .u32 0, .int .i64 0, .int .i64 0, .sl 0 0 [], .sl 0 0 [], .int .i64 0]
def b7 : List AV := [.int .u32 0, .int .u32 0, .int .i64 0, .int .i64 0, .sl 0 0 [], .sl 0 0 [], .int .i64 11]
def dvO (gb gs : Nat) (A B : Int) (v w : AV) : List AV := [.int .u32 gb, .int .u32 gs, .int .i64 A, .int .i64 B, v, w]
def tail1 : IC := O.q (O.q (O.o f31o33) (O.k 176 (O.q (O.o f31o34) O.R) O.K)) (O.q (O.q (O.o f31o35) (O.bl 6 (O.lp f31l45))) (O.q (O.od f31o46) (O.q (O.q (O.o f31o47) (O.k 210 (O.q (O.o f31o48) O.R) O.K)) (O.q (O.o f31o49) O.R))))
set_option maxRecDepth 100000 in
set_option maxHeartbeats 4000000 in
theorem s31e {D : List UInt8} {u d : Nat} {L3 : List Int} {gb gs : Nat} {A B : Int} {Q : List RI} {br z c : Nat} {lv : Nat → Bool} {sl : List (Nat × AV)} {os : List (Nat × List AV)} {T : Nat → AV} {H : Hp} {E : Nat → Option TypeId} {R : BI × Nat}
    (hb : D.length ≤ 3000) (hu : u ≤ D.length) (hd : d < 4294967296) (hg : gb < 4294967296 ∧ gs < 4294967296) (hQ : ∀ q ∈ Q, RIok q) (hQl : Q.length ≤ 5000) (h4 : 4 ≤ c) (hL : LA 5 lv c br z (risV Q))
    (h1 : HoldsE sl [(0, csl 1 (D.map ofB)), (2, .ref 0 0), (3, .ref 1 0), (4, csl 1 (iV L3)), (5, .int .i64 (u : Int)), (8, .ref 2 0), (9, .int .i64 (d : Int))])
    (h2 : HoldsOE os [(0, z7), (1, b7), (2, dvO gb gs A B (.sl 0 0 []) (.sl br z (risV Q)))])
    (hR : (if L3 ≠ [] ∨ 64 < d ∨ D.length ≠ u + 128 * d then (bi0, 11) else if validB 8192 ⟨gb, gs, A, B, D.drop u, Q⟩ = false then (bi0, 11) else (⟨gb, gs, A, B, D.drop u, Q⟩, 0)) = R) :
    Wp (evCall FN (k + 100999)) (k + 100999) tail1 ⟨slots sl T, objs os H, E, 3, lv, c⟩ (Ret f31 (decVr R)) := by
  refine q_known (P := fun S => Wp _ _ _ S _) _ _ h1 h2 fun T H E => ?_
  clear h1 h2
  have hlD : (D.map ofB).length / 1 = D.length := by simp
  have hl3 : (iV L3).length / 1 = L3.length := by rw [iV_len, Nat.div_one]
  unfold tail1
  by_cases g1 : L3 = []
  · subst g1
    by_cases g2 : 64 < d
    · rw [if_pos (.inr (.inl g2))] at hR
      subst hR
      repeat (first | refine stN ?_ | intro E)
      exact q_ret (.inr rfl) rfl rfl rfl rfl rfl rfl
    · by_cases g3 : D.length ≠ u + 128 * d
      · rw [if_pos (.inr (.inr g3))] at hR
        subst hR
        repeat (first | refine stN ?_ | intro E)
        exact q_ret (.inr rfl) rfl rfl rfl rfl rfl rfl
      · rw [if_neg (fun h => by
          rcases h with h | h | h
          · exact h rfl
          · exact g2 h
          · exact g3 h)] at hR
        have g3 : D.length = u + 128 * d := Classical.byContradiction g3
        have g2 : d ≤ 64 := by omega
        repeat (first | refine stN ?_ | intro E)
        refine q_loop (α := Nat × Nat × Nat) (LInv.mk (fun p => p.1 ≤ d) (fun p => d - p.1)
          (fun p => [(15, .int .i64 (p.1 : Int)), (0, csl 1 (D.map ofB)), (2, .ref 0 0), (3, .ref 1 0), (5, .int .i64 (u : Int)), (8, .ref 2 0), (9, .int .i64 (d : Int))])
          (fun p => [(0, z7), (1, b7), (2, dvO gb gs A B (.sl p.2.1 p.2.2 (((D.drop u).take (p.1 * 128)).map ofB)) (.sl br z (risV Q)))]))
          (fun p lv' c' => 4 ≤ c' ∧ LA 128 lv' c' p.2.1 p.2.2 (((D.drop u).take (p.1 * 128)).map ofB)) (0, 0, 0) (Nat.zero_le _) ⟨h4, by simp only [Nat.zero_mul, List.take_zero, List.map_nil]; exact LA.nil⟩ (show d - 0 < k + 100999 by omega) ⟨rfl, rfl, rfl, rfl, rfl, rfl, rfl, trivial⟩ ⟨rfl, rfl, by simp only [Nat.zero_mul, List.take_zero, List.map_nil]; rfl, trivial⟩ ?_
        rintro ⟨j, br1, z1⟩ lv1 c1 T H E hj ⟨hc1, hL1⟩ hμ
        have hj : j ≤ d := hj
        dsimp only at hL1 ⊢
        clear hμ
        rcases Nat.lt_or_ge j d with hjd | hjd
        · have hPl : ((D.drop (u + 128 * j)).take 128).length = 128 := by rw [List.length_take, List.length_drop]; omega
          have hPP : ((D.drop u).take (j * 128)).map ofB ++ ((D.drop (u + 128 * j)).take 128).map ofB = ((D.drop u).take ((j + 1) * 128)).map ofB := by
            rw [← List.map_append, show (j + 1) * 128 = j * 128 + 128 by omega, List.take_add, List.drop_drop, Nat.mul_comm 128 j]
          have hd0 : (((D.drop u).take (j * 128)).map ofB).length = j * 128 := by rw [List.length_map, List.length_take, List.length_drop]; omega
          have hget : ∀ i, i < 128 → ((D.drop (u + 128 * j)).take 128)[i]? = D[u + 128 * j + i]? := fun i hi => by
            rw [List.getElem?_take_of_lt hi, List.getElem?_drop]
          have hz0 : List.replicate 128 (AV.int .u8 0) = (pg ((D.drop (u + 128 * j)).take 128) 0).map ofB := by unfold pg; rw [List.take_zero, List.nil_append, List.map_replicate]; rfl
          generalize (D.drop (u + 128 * j)).take 128 = P at *
          generalize hS : ((D.drop u).take (j * 128)).map ofB = S at *
          repeat (first | refine stN ?_ | intro E)
          refine q_loop (α := Nat) (LInv.mk (fun i => i ≤ 128) (fun i => 128 - i)
            (fun i => [(17, .int .i64 (i : Int)), (16, .ref 3 0), (15, .int .i64 (j : Int)), (0, csl 1 (D.map ofB)), (2, .ref 0 0), (3, .ref 1 0), (5, .int .i64 (u : Int)), (8, .ref 2 0), (9, .int .i64 (d : Int))])
            (fun i => [(3, (pg P i).map ofB), (0, z7), (1, b7), (2, dvO gb gs A B (.sl br1 z1 S) (.sl br z (risV Q)))]))
            (fun _ lv' c' => lv' = lv1 ∧ c' = c1) 0 (Nat.zero_le _) ⟨rfl, rfl⟩ (show 128 - 0 < k + 100999 by omega) ⟨rfl, rfl, rfl, rfl, rfl, rfl, rfl, rfl, rfl, trivial⟩ ⟨by rw [← hz0]; rfl, rfl, rfl, rfl, trivial⟩ ?_
          clear hz0
          rintro i _ _ T H E hi ⟨rfl, rfl⟩ hμ
          have hi : i ≤ 128 := hi
          dsimp only
          clear hμ
          rcases Nat.lt_or_ge i 128 with hi | hi'
          · obtain ⟨x, hx⟩ : ∃ x, P[i]? = some x := ⟨_, List.getElem?_eq_getElem (by omega)⟩
            have hst := pg_put hx hi
            have gD : inB ((u + 128 * j + i : Nat) : Int) ((D.map ofB).length / 1) = some (u + 128 * j + i) := inB_n (by rw [hlD]; omega)
            have hrd : rd (D.map ofB) ((u + 128 * j + i) * 1) 1 false = some (ofB x) := by
              have := hget i hi
              rw [hx] at this
              unfold rd
              rw [if_neg (by simp), Nat.mul_one, List.getElem?_map, ← this]
              rfl
            have gi : inB (i : Int) 128 = some i := inB_n hi
            repeat (first | refine stN ?_ | intro E)
            exact n_again (i + 1) (show i + 1 ≤ 128 by omega) ⟨rfl, rfl⟩ (show 128 - (i + 1) < 128 - i by omega) ⟨rfl, rfl, rfl, rfl, rfl, rfl, rfl, rfl, rfl, trivial⟩ ⟨⟨rfl, under_ofB _ _⟩, ⟨rfl, rfl⟩, ⟨rfl, rfl⟩, ⟨rfl, rfl⟩, trivial⟩
          · obtain rfl : i = 128 := by omega
            rw [pg_all hPl]
            have hPf : flatL (P.map ofB) = true := flat_ofB _
            have hPm : (P.map ofB).length = 128 := by rw [List.length_map]; exact hPl
            have hPs : (AV.agg (P.map ofB)).share = .agg (P.map ofB) := by
              show AV.agg (List.map canonCell _) = _
              rw [List.map_map]; rfl
            have hPr : rd (P.map ofB) 0 128 true = some (.agg (P.map ofB)) := by
              unfold rd
              rw [if_pos rfl, if_pos (by omega), List.drop_zero, List.take_of_length_le (by omega)]
            repeat (first | refine stN ?_ | intro E)
            apply n_exit
            apply b_exit
            repeat (first | refine stN ?_ | intro E)
            apply p_loadR
            · exact rfl
            · exact rfl
            · exact hPr
            apply p_bslG (r := P.map ofB)
            · exact rfl
            · exact hPs
            · exact hPm
            · exact rfl
            · omega
            · exact hPf
            apply p_appL
            · exact rfl
            · exact rfl
            · cases P with
              | nil => cases hPl
              | cons y ys => rfl
            · exact hL1
            · exact ⟨by omega, by omega⟩
            · rw [hd0, hPm, room_val]; omega
            intro lv3 m1 m2
            rw [hPP]
            repeat (first | refine stN ?_ | intro E)
            refine n_again (j + 1, _, 128) hjd ⟨by omega, LA.mine (by omega) m1⟩ (show d - (j + 1) < d - j by omega) ⟨rfl, rfl, rfl, rfl, rfl, rfl, rfl, trivial⟩ ⟨⟨rfl, rfl⟩, ⟨rfl, rfl⟩, ⟨rfl, rfl⟩, trivial⟩
        · obtain rfl : j = d := by omega
          clear hjd hj
          have hX : (D.drop u).take (j * 128) = D.drop u := List.take_of_length_le (by rw [List.length_drop]; omega)
          have lx1 := LA.can hL1
          have lx2 := LA.can hL
          rw [hX] at lx1 ⊢
          repeat (first | refine stN ?_ | intro E)
          apply n_exit
          apply b_exit
          repeat (first | refine stN ?_ | intro E)
          apply p_mks
          · exact rfl
          · exact rfl
          · exact ⟨by omega, by omega, by rw [room_val]; omega, by omega, List.length_replicate, by omega, zs_flat⟩
          intro lv3 m1 m2
          rw [show O.Y = AV.int .u8 0 from rfl, pages0]
          have hZ : VM (List.replicate 8192 (0 : UInt8)) := ⟨64, by omega, by omega, List.length_replicate⟩
          have hZl : (List.replicate 8192 (0 : UInt8)).length = 8192 := List.length_replicate
          generalize List.replicate 8192 (0 : UInt8) = Z at *
          have e1 : biV ⟨gb, gs, A, B, D.drop u, Q⟩ = (AV.agg [.int .u32 gb, .int .u32 gs, .int .i64 A, .int .i64 B, .sl br1 z1 ((D.drop u).map ofB), .sl br z (risV Q)]).share := by
            show _ = AV.agg [_, _, _, _, canonCell (.sl br1 z1 _), canonCell (.sl br z _)]
            rw [lx1, lx2]; rfl
          have c12 : Calls0 (evCall FN (k + 100999)) 12 [biV ⟨gb, gs, A, B, D.drop u, Q⟩, memV Z] (.bool (validB 8192 ⟨gb, gs, A, B, D.drop u, Q⟩)) := by
            rw [← hZl]
            exact (s12 (k := 0) hZ hg.1 hg.2 (by show ((D.drop u).map ofB).length / 128 < _; rw [List.length_map, List.length_drop]; omega) hQl hQ).fuel (by omega)
          have e2 : memV Z = (AV.agg [.sl c1 128 (Z.map ofB)]).share := by
            show _ = AV.agg [canonCell (.sl c1 128 (Z.map ofB))]
            rw [show canonCell (.sl c1 128 (Z.map ofB)) = csl 128 (Z.map ofB) from if_neg (by omega)]; rfl
          have hf2 : flatL [biV ⟨gb, gs, A, B, D.drop u, Q⟩, memV Z] = true := rfl
          repeat (first | refine stN ?_ | intro E)
          generalize hV : validB 8192 ⟨gb, gs, A, B, D.drop u, Q⟩ = V at *
          apply p_callH (args := [biV ⟨gb, gs, A, B, D.drop u, Q⟩, memV Z])
          · exact rfl
          · rw [e1, e2]; rfl
          · exact hf2
          · exact c12
          cases V with
          | false =>
            rw [if_pos rfl] at hR
            subst hR
            repeat (first | refine stN ?_ | intro E)
            exact q_ret (.inr rfl) rfl rfl rfl rfl rfl rfl
          | true =>
            rw [if_neg (by simp)] at hR
            subst hR
            repeat (first | refine stN ?_ | intro E)
            have e3 : decVr (⟨gb, gs, A, B, D.drop u, Q⟩, 0) = .agg [.int .u32 gb, .int .u32 gs, .int .i64 A, .int .i64 B, canonCell (.sl br1 z1 ((D.drop u).map ofB)), canonCell (.sl br z (risV Q)), .int .i64 0] := by
              rw [lx1, lx2]; rfl
            exact q_ret (.inr rfl) rfl rfl rfl rfl (by rw [e3]; rfl) rfl
  · rw [if_pos (.inl g1)] at hR
    subst hR
    have : 0 < L3.length := List.length_pos_iff.2 g1
    repeat (first | refine stN ?_ | intro E)
    exact q_ret (.inr rfl) rfl rfl rfl rfl rfl rfl
end Go.Proofs.Ythplidagfcdibaa
