/- Part of the texts on which proofs about this seat rest: each says what it proves at its own head. No condition. -/
import Derived.Test.YtepcejdglbcbkaaGreatM2
import Derived.Deep.Slices
import Derived.OpenShut
import Derived.HandedShaped
import Derived.ReadAgain
import Derived.JoinedOf
import Derived.ChangeSame
set_option linter.unusedVariables false
set_option linter.unusedSimpArgs false
/- Code comes to what the evaluator says. Condition: the callees do what the evaluator says ('Sound'). -/
namespace Go.Abs
section
variable {P:Program}{F:aE}{hint:Hint}{nt mk:Nat}{G G0:Gh}{w w0:World}{a:Act}{S S':St}{n:Nat}
theorem AJ {q:Option Nat}{lv lv':Nat→Bool}{G':Gh}{w':World}(hq:∀ l,q=some l→∃ id r0,G.β id=some (l,none)∧G.ρ l=some r0) (x:Ext G lv w G' lv' w'):∀ l,q=some l→∃ id r0,G'.β id=some (l,none)∧G'.ρ l=some r0:=fun l hl=>by
 obtain ⟨id,r0,h1,h2⟩:=hq l hl
 exact ⟨id,r0,x.β _ _ h1,x.ρ _ _ h2⟩
theorem rk {q:Option Nat}{d:Nat}{c:Code}{ic:IC}{k:Nat}(ih:jl P F nt k c ic) :
 ∀ (m:Nat) (S S':St) (e:Ex) (G:Gh) (a:Act) (w:World) (Q:Exit→Act→World→Prop),cl P F.env G w→(∀ l,q=some l→∃ id r0,G.β id=some (l,none)∧G.ρ l=some r0)→cu G S nt mk a w→cg (ar F k ic) S.n m S=some (e,S')→
  (∀ a' w' G',dM G S w nt mk S' G' a' w'→Q e.to a' w')→Code.roundsIn (Fr q) d P c Q m a w:=by
 intro m
 induction m with
 | zero=>intro S S' e G a w Q _ _ _ he;simp [cg] at he
 | succ m ihm=>
  intro S S' e G a w Q hE hq hs he hk
  rw [roundsIn_succ]
  simp only [cg] at he
  split at he
  ·rename_i S1 h1
   refine ih mk q d S S1 .norm G a w _ hE hq hs h1 fun a1 w1 G1 hb=>?_
   have hp:=hb.pop hs
   refine ihm (Go.Abs.pop S.n S1) S' e (cut G1 S.n) a1 w1 Q (hE.ext hp.ext) (AJ hq hp.ext) hp.rel he fun a2 w2 G2 hb2=>hk a2 w2 G2 (hp.trans hb2)
  ·rename_i h1
   refine ih mk q d S S' e G a w _ hE hq hs he fun a1 w1 G1 hb=>?_
   cases e with
   | norm=>exact absurd he (h1 S')
   | exit id=>exact hk a1 w1 G1 hb
   | ret=>exact hk a1 w1 G1 hb
theorem sW (hSE:∀ env,dX env→Sound P ⟨F.ff,env⟩) (hM:dX F.env) {k:Nat}{f:Operand}{x:X}{ps:Array Tmp}{assign body:Code}{ia ib:IC}(hx:aI f=some x) (iha:jl P F nt k assign ia) (ihb:jl P F nt k body ib) (hps:∀ t∈ps.toList,t<nt) :
 jl P F nt k (.rangeFunc f ps assign body) (.rangeF x ps.toList ia ib):=by
 intro mk q d S S' e G a w Q hE hq hs he hk
 obtain ⟨g,fs,cs,v0,hs1,s,hfn,hcall,hst,hex,rfl⟩:=iU he
 have hfv:=h8 hs.T f x hx
 rw [hfn] at hfv
 obtain ⟨gs,ds,hval,hl1,hl2,hr1,hr2⟩:=hfv.inv_fn
 refine wpIn_rangeFunc fun fn _=>?_
 obtain ⟨mark,wd,df,henter,hx0,hW0,hdok⟩:=nh hs hq fn ps assign body
 obtain ⟨hx1,hW1⟩:=vf (w:=wd) (E:=S.E) (lv:=S.lv) (H:=S.H) (nid:=S.n) (r:={ state:=.ready,pending:=none,fn,tmps:=a.tmps,params:=ps,assign,body,defers:=df }) hW0 (hs.β _ (Nat.le_refl _)) ⟨rfl,rfl⟩
 generalize hr0:({ state:=.ready,pending:=none,fn,tmps:=a.tmps,params:=ps,assign,body,defers:=df }:Loop)=r0 at henter hx1 hW1
 have hx01:=hx0.trans hx1
 have hy:dX (F.ext S.n (cP (ar F k ia) (ar F k ib) S.T ps.toList S.n)).env:=AI hM fun h=>nu (fun S e S'=>lM hSE hM ia S S' e) (fun S e S'=>lM hSE hM ib S S' e) h
 obtain ⟨hen,hnn,hcc,hcall⟩:=(hSE _ hy).call g _ _ _ _ _ hcall
 have hβ1:(du G S.n wd.heap.size r0).β S.n=some (wd.heap.size,none):=by simp [du,bH]
 have hρ1:(du G S.n wd.heap.size r0).ρ wd.heap.size=some r0:=by simp [du]
 have hE1:cl P (di (S.n+1) (F.ext S.n (cP (ar F k ia) (ar F k ib) S.T ps.toList S.n)).env) (du G S.n wd.heap.size r0) (wd.alloc (.loop r0)):=by
  have hEx:=hE.ext hx01
  intro id y hy'
  unfold di at hy'
  split at hy'
  ·simp only [aE.ext,upd] at hy'
   split at hy'
   ·rename_i hid
    cases hy'
    subst hid
    refine ⟨_,r0,hβ1,hρ1,fun G' w' hsz hm=>?_⟩
    subst hr0
    exact sV hSE hM iha ihb (fun t=>(hs.T t).mono hx01.mono) hs.nt hps hβ1 hρ1 rfl rfl rfl hEx G' w' hsz hm
   ·exact hEx id y hy'
  ·cases hy'
 have hargs:(fs++(.yl S.n::cs)).length=(gs ++ #[Value.func (.yield wd.heap.size) #[] #[]]++ds).size:=by simp [hl1,hl2];omega
 refine ⟨wd.heap.size,mark,wd.alloc (.loop r0),{ target:=.fn (.func g) ds,args:=gs ++ #[Value.func (.yield wd.heap.size) #[] #[]] },wd.alloc (.loop r0),g,gs ++ #[Value.func (.yield wd.heap.size) #[] #[]]++ds,wd.alloc (.loop r0),henter,?_,fun _ _=>trivial,?_,fun h=>absurd h (by simp [Fence.wide]),?_⟩
 ·have hev:∀ v,a.eval (.const v)=v:=fun _=>rfl
  simp only [resolve,hval,Deferred.ofValue,Sem.run_pure]
  simp [hev]
 ·simp only [invoke,gU hen]
 have hc:=hcall (du G S.n wd.heap.size r0) (wd.alloc (.loop r0)) (gs ++ #[Value.func (.yield wd.heap.size) #[] #[]]++ds) hargs ?_ hW1 ?_ ?_ hs.c hE1
 ·have hc':CallsIn Fence.wide (d-1) P g (gs ++ #[Value.func (.yield wd.heap.size) #[] #[]]++ds) (wd.alloc (.loop r0)) _:=callsIn_wide.2 hc
  refine CallsIn.mono (F:=Fr q) hc' fun en w2 hr=>?_
  obtain ⟨v,G2,rfl,hx2,hW2,_,hβ2,hτ2⟩:=hr
  have hb2:G2.β S.n=some (wd.heap.size,none):=(hβ2 _).trans hβ1
  obtain ⟨rr,hbb,hsl,hst'⟩:=jk hW2 hb2 (hx2.ρ _ _ hρ1)
  have hpend:rr.state≠.busy∧rr.pending=iq s:=by
   rw [hst] at hst'
   rcases hst' with h | ⟨s',h,k0,k1⟩
   ·cases h
   ·simp only [bh,List.cons.injEq,AV.int.injEq,true_and,and_true] at h
    subst h
    rcases ri hex with ⟨rfl,_⟩ | ⟨rfl,_⟩ | ⟨h2,_⟩
    ·exact ⟨by rw [(k0 rfl).1];simp,by rw [(k0 rfl).2];simp [iq]⟩
    ·exact ⟨by rw [(k1 (by omega)).1];simp,(k1 (by omega)).2⟩
    ·exact ⟨by rw [(k1 (by omega)).1];simp,(k1 (by omega)).2⟩
  obtain ⟨hx3,hW3⟩:=nq (hs':=[]) (r':={ rr with state:=.exhausted }) hW2 hb2 (hx2.ρ _ _ hρ1) hbb ⟨hsl.fn,hsl.tmps,hsl.params,hsl.assign,hsl.body,hsl.defers⟩ (.inl rfl)
  have hxx:=(hx01.trans hx2).trans hx3
  have hcut:=tv (n:=S.n) (S:=⟨S.T,upd hs1.H S.n [],upd S.E S.n none,S.n,hs1.lv,hs1.c⟩) hW3
  have hlt:∀ {id:Nat}{p:Nat×Option Nat},(cut G2 S.n).β id=some p→id<S.n:=by
   intro id p h
   simp only [cut] at h
   split at h
   ·assumption
   ·cases h
  have hbeh:dM G S w nt mk (Go.Abs.pop S.n { S with H:=hs1.H,lv:=hs1.lv,c:=hs1.c }) (cut G2 S.n) { a with defers:=mark++a.defers } (cH w2 wd.heap.size (.loop { rr with state:=.exhausted })):=by
   refine ⟨⟨fun t=>pP ((hs.T t).mono hxx.mono),hcut.other fun id p hp=>?_,fun id hid=>?_,fun b hb=>hτ2 b hb,Nat.le_trans hs.c hcc,hs.nt,?_⟩,tz hxx fun id p hp=>hs.lt hp,fun id hid=>?_,Nat.le_refl _,hcc⟩
   ·have hne:id≠S.n:=by have:=hlt hp;omega
    exact ⟨by simp [Go.Abs.pop,aV,upd,hne],by simp [Go.Abs.pop,upd,hne]⟩
   ·have hid:S.n≤id:=hid
    simp only [cut];rw [if_neg (by omega)]
   ·exact hdok.ext hW0 (hx1.trans (hx2.trans hx3))
   ·simp only [cut];rw [if_pos hid,hβ2]
    simp only [du]
    exact cG _ (by omega)
  have hQ:=hk _ _ _ hbeh
  have key:∀ (j:Option Code) (w3:World),j=iq s→Q e.to { a with defers:=mark++a.defers } w3→(match j with | none=>Q .normal { a with defers:=mark++a.defers } w3 | some c=>c.wpIn (Fr q) d P Q { a with defers:=mark++a.defers } w3):=by
   rintro j w3 rfl hQ
   rcases ri hex with ⟨rfl,rfl⟩ | ⟨rfl,rfl⟩ | ⟨h2,rfl⟩
   ·exact hQ
   ·exact wpIn_ret hQ
   ·have k1:¬ s=1:=by omega
    simp only [iq,k1,h2,if_true,if_false]
    exact wpIn_exit hQ
  exact ⟨rr.pending,_,run_endLoop hbb hpend.1,key _ _ hpend.2 hQ⟩
 ·intro i y v hy hv
  rcases Nat.lt_or_ge i gs.size with hi | hi
  ·rw [List.getElem?_append_left (by omega)] at hy
   rw [Array.append_assoc,Array.getElem?_append_left hi] at hv
   exact (hr1 i y v hy hv).mono hx01.mono
  ·rw [List.getElem?_append_right (by omega)] at hy
   rw [Array.append_assoc,Array.getElem?_append_right hi] at hv
   rw [hl1] at hy
   cases hj:i-gs.size with
   | zero=>
    rw [hj] at hy hv
    rw [Array.getElem?_append_left (by simp)] at hv
    simp at hy hv
    subst hy;subst hv
    exact .yl _ _ _ hβ1 hρ1
   | succ j=>
    rw [hj] at hy hv
    rw [Array.getElem?_append_right (by simp)] at hv
    exact (hr2 j y v (by simpa using hy) (by simpa using hv)).mono hx01.mono
 ·intro id hid
  have hid:S.n+1≤id:=hid
  have:id≠S.n:=by omega
  exact (cG _ this).trans (hs.β id (by omega))
 ·intro b hb
  exact hs.τ b hb
theorem vi (hSE:∀ env,dX env→Sound P ⟨F.ff,env⟩) (hM:dX F.env) {k:Nat}(c:Code):∀ (ic:IC),bZ P hint nt c=some ic→jl P F nt k c ic:=by
 have hS:=hSE _ hM
 have bad:∀ {c:Code}{S S':St}{e:Ex}{q:Option Nat}{d:Nat}{a:Act}{w:World}{Q:Exit→Act→World→Prop},ar F k .bad S=some (e,S')→c.wpIn (Fr q) d P Q a w:=fun h=>by simp [ar] at h
 induction c with
 | skip=>
  intro ic hr mk q d S S' e G a w Q hE hq hs he hk
  simp only [bZ,Option.some.injEq] at hr;subst hr
  simp only [ar,Option.some.injEq,Prod.mk.injEq] at he
  obtain ⟨rfl,rfl⟩:=he
  exact wpIn_skip (hk a w G (.refl hs))
 | label l=>
  intro ic hr mk q d S S' e G a w Q hE hq hs he hk
  simp only [bZ,Option.some.injEq] at hr;subst hr
  simp only [ar,Option.some.injEq,Prod.mk.injEq] at he
  obtain ⟨rfl,rfl⟩:=he
  exact wpIn_label (hk a w G (.refl hs))
 | region id ops draw=>
  intro ic hr mk q d S S' e G a w Q hE hq hs he hk
  simp only [bZ] at hr
  split at hr
  ·rename_i l hl
   split at hr
   ·rename_i hsafe
    simp only [Option.some.injEq] at hr;subst hr
    simp only [ar] at he
    split at he
    ·rename_i S1 h1
     simp only [Option.some.injEq,Prod.mk.injEq] at he
     obtain ⟨rfl,rfl⟩:=he
     cases draw with
     | false=>exact u6 hS hE hl hs h1 fun a' w' G' k1 k2 k3 k4 k5=>hk a' w' G' ⟨k1,k2,k3,k4,k5⟩
     | true=>
      simp only [Bool.not_true,Bool.false_or,Bool.and_eq_true] at hsafe
      exact jN hS hE hl hsafe.1 hsafe.2 n7 hs h1 fun a' w' G' k1 k2 k3 k4 k5=>hk a' w' G' ⟨k1,k2,k3,k4,k5⟩
    ·simp at he
   ·split at hr
    ·rename_i hdr hsafe
     simp only [Option.some.injEq] at hr;subst hr
     simp only [Bool.and_eq_true] at hsafe
     have hd:draw=true:=by cases draw with
      | true=>rfl
      | false=>simp at hdr
     subst hd
     simp only [ar] at he
     split at he
     ·rename_i S1 h1
      split at he
      ·rename_i hps
       simp only [Option.some.injEq,Prod.mk.injEq] at he
       obtain ⟨rfl,rfl⟩:=he
       exact jN hS hE hl hsafe.1 hsafe.2 (jO h1 hps) hs h1 fun a' w' G' k1 k2 k3 k4 k5=>hk a' w' G' ⟨k1,k2,k3,k4,k5⟩
      ·simp at he
     ·simp at he
    ·split at hr
     ·rename_i hdr _ hsafe
      simp only [Option.some.injEq] at hr;subst hr
      simp only [Bool.and_eq_true] at hsafe
      have hd:draw=true:=by cases draw with
       | true=>rfl
       | false=>simp at hdr
      subst hd
      simp only [ar] at he
      split at he
      ·rename_i S1 h1
       split at he
       ·rename_i hps
        simp only [Option.some.injEq,Prod.mk.injEq] at he
        obtain ⟨rfl,rfl⟩:=he
        simp only [Bool.and_eq_true] at hps
        exact jN hS hE hl hsafe.1 hsafe.2 (mU h1 hps.1 hps.2) hs h1 fun a' w' G' k1 k2 k3 k4 k5=>hk a' w' G' ⟨k1,k2,k3,k4,k5⟩
       ·simp at he
      ·simp at he
     ·split at hr
      ·rename_i hdr _ _ _ j hj
       simp only [Option.some.injEq] at hr
       have hd:draw=true:=by cases draw with
        | true=>rfl
        | false=>simp at hdr
       subst hd
       have hj:j<ops.size:=by
        unfold AE at hj
        have:=(List.findIdx?_eq_some_iff_getElem.1 hj).1
        simpa using this
       unfold wA at hr
       split at hr
       ·rename_i l' hl'
        split at hr
        ·rename_i hsafe
         subst hr
         simp only [Bool.and_eq_true] at hsafe
         simp only [ar] at he
         split at he
         ·rename_i S1 h1
          simp only [Option.some.injEq,Prod.mk.injEq] at he
          obtain ⟨rfl,rfl⟩:=he
          exact kE hsafe.1 hj (gA hS hE hl' hsafe.2 n7 hs h1 fun a' w' G' k1 k2 k3 k4 k5=>hk a' w' G' ⟨k1,k2,k3,k4,k5⟩)
         ·simp at he
        ·split at hr
         ·rename_i hsafe
          subst hr
          simp only [Bool.and_eq_true] at hsafe
          simp only [ar] at he
          split at he
          ·rename_i S1 h1
           split at he
           ·rename_i hps
            simp only [Option.some.injEq,Prod.mk.injEq] at he
            obtain ⟨rfl,rfl⟩:=he
            exact kE hsafe.1 hj (gA hS hE hl' hsafe.2 (jO h1 hps) hs h1 fun a' w' G' k1 k2 k3 k4 k5=>hk a' w' G' ⟨k1,k2,k3,k4,k5⟩)
           ·simp at he
          ·simp at he
         ·split at hr
          ·rename_i hsafe
           subst hr
           simp only [Bool.and_eq_true] at hsafe
           simp only [ar] at he
           split at he
           ·rename_i S1 h1
            split at he
            ·rename_i hps
             simp only [Option.some.injEq,Prod.mk.injEq] at he
             obtain ⟨rfl,rfl⟩:=he
             simp only [Bool.and_eq_true] at hps
             exact kE hsafe.1 hj (gA hS hE hl' hsafe.2 (mU h1 hps.1 hps.2) hs h1 fun a' w' G' k1 k2 k3 k4 k5=>hk a' w' G' ⟨k1,k2,k3,k4,k5⟩)
            ·simp at he
           ·simp at he
          ·subst hr
           exact bad he
       ·subst hr
        exact bad he
      ·simp only [Option.some.injEq] at hr;subst hr
       exact bad he
  ·simp only [Option.some.injEq] at hr;subst hr
   exact bad he
 | seq x y ihx ihy=>
  intro ic hr mk q d S S' e G a w Q hE hq hs he hk
  simp only [bZ] at hr
  split at hr
  ·rename_i ix iy hx hy
   simp only [Option.some.injEq] at hr;subst hr
   simp only [ar] at he
   refine wpIn_seq ?_
   split at he
   ·rename_i S1 h1
    refine ihx ix hx mk q d S S1 .norm G a w _ hE hq hs h1 fun a1 w1 G1 hb=>?_
    exact ihy iy hy mk q d S1 S' e G1 a1 w1 Q (hE.ext hb.ext) (AJ hq hb.ext) hb.rel he fun a2 w2 G2 hb2=>hk a2 w2 G2 (hb.trans hb2)
   ·rename_i h1
    refine ihx ix hx mk q d S S' e G a w _ hE hq hs he fun a1 w1 G1 hb=>?_
    cases e with
    | norm=>exact absurd he (h1 S')
    | exit id=>exact hk a1 w1 G1 hb
    | ret=>exact hk a1 w1 G1 hb
  ·simp at hr
 | cond x c1 c2 ih1 ih2=>
  intro ic hr mk q d S S' e G a w Q hE hq hs he hk
  simp only [bZ] at hr
  split at hr
  ·rename_i x' i1 i2 hx h1 h2
   simp only [Option.some.injEq] at hr;subst hr
   simp only [ar] at he
   have hv:=h8 hs.T x x' hx
   split at he
   ·rename_i heq
    rw [heq] at hv
    exact wpIn_cond_true hv.inv_bool (ih1 i1 h1 mk q d S S' e G a w Q hE hq hs he hk)
   ·rename_i heq
    rw [heq] at hv
    exact wpIn_cond_false hv.inv_bool (ih2 i2 h2 mk q d S S' e G a w Q hE hq hs he hk)
   ·simp at he
  ·simp at hr
 | block id c ih=>
  intro ic hr mk q d S S' e G a w Q hE hq hs he hk
  simp only [bZ] at hr
  obtain ⟨i1,h1,rfl⟩:=aC hr
  simp only [ar] at he
  refine wpIn_block ?_
  split at he
  ·rename_i j S1 hj
   refine ih i1 h1 mk q d S S1 (.exit j) G a w _ hE hq hs hj fun a1 w1 G1 hb=>?_
   show Exit.inBlock id Q (.exit j) a1 w1
   simp only [Exit.inBlock]
   split at he
   ·rename_i hji
    simp only [Option.some.injEq,Prod.mk.injEq] at he
    obtain ⟨rfl,rfl⟩:=he
    rw [if_pos hji];exact hk a1 w1 G1 hb
   ·rename_i hji
    simp only [Option.some.injEq,Prod.mk.injEq] at he
    obtain ⟨rfl,rfl⟩:=he
    rw [if_neg hji];exact hk a1 w1 G1 hb
  ·rename_i hne
   refine ih i1 h1 mk q d S S' e G a w _ hE hq hs he fun a1 w1 G1 hb=>?_
   cases e with
   | norm=>exact hk a1 w1 G1 hb
   | exit j=>exact absurd he (hne j S')
   | ret=>exact hk a1 w1 G1 hb
 | loop c ih=>
  intro ic hr mk q d S S' e G a w Q hE hq hs he hk
  simp only [bZ] at hr
  obtain ⟨i1,h1,rfl⟩:=aC hr
  simp only [ar] at he
  exact wpIn_loop_rounds k (rk (ih i1 h1) k S S' e G a w Q hE hq hs he hk)
 | scope c ih=>
  intro ic hr mk q d S S' e G a w Q hE hq hs he hk
  simp only [bZ] at hr
  refine ll (ih ic hr mk q d S S' e G a w _ hE hq hs he fun a1 w1 G1 hb=>?_)
  cases e<;>exact hk a1 w1 G1 hb
 | exit id=>
  intro ic hr mk q d S S' e G a w Q hE hq hs he hk
  simp only [bZ,Option.some.injEq] at hr;subst hr
  simp only [ar,Option.some.injEq,Prod.mk.injEq] at he
  obtain ⟨rfl,rfl⟩:=he
  exact wpIn_exit (hk a w G (.refl hs))
 | ret=>
  intro ic hr mk q d S S' e G a w Q hE hq hs he hk
  simp only [bZ,Option.some.injEq] at hr;subst hr
  simp only [ar,Option.some.injEq,Prod.mk.injEq] at he
  obtain ⟨rfl,rfl⟩:=he
  exact wpIn_ret (hk a w G (.refl hs))
 | rangeFunc f ps x y ihx ihy=>
  intro ic hr
  simp only [bZ] at hr
  split at hr
  ·rename_i x' ia ib hx ha hb
   split at hr
   ·rename_i hps
    simp only [Option.some.injEq] at hr;subst hr
    exact sW hSE hM hx (ihx ia ha) (ihy ib hb) fun t ht=>by simpa using List.all_eq_true.1 hps t ht
   ·simp only [Option.some.injEq] at hr;subst hr
    intro mk q d S S' e G a w Q hE hq hs he hk;exact bad he
  ·cases hr
 | goto l=>intro ic hr mk q d S S' e G a w Q hE hq hs he hk;simp only [bZ,Option.some.injEq] at hr;subst hr;exact bad he
 | refuse s=>intro ic hr mk q d S S' e G a w Q hE hq hs he hk;simp only [bZ,Option.some.injEq] at hr;subst hr;exact bad he
end
end Go.Abs
/- A call comes to what the evaluator says. Condition: the callees do what the evaluator says ('Sound'). -/
namespace Go.Abs
section
variable {P:Program}{F:aE}{hint:Hint}{nt mk:Nat}{G G0:Gh}{w w0:World}{a:Act}{S S':St}{n:Nat}
def nv (tmps:Array Value):ResultVar→Sem Value
 | .tmp t=>pure (tmps.getD t undef)
 | .cell a t=>do loadVar t (← asAddr (tmps.getD a undef))
theorem vj (fn:Func) (tmps:Array Value):results fn tmps=(fn.results.mapM (nv tmps) >>= fun vs=>pure (if h:vs.size=1 then vs[0] else .tuple vs)):=rfl
theorem rl (h:cu G S nt mk a w):∀ (rs:List ResultVar) (irs:List lq) (vs:List AV),gx P rs=some irs→ga S.T S.H irs=some vs→
 ∃ us,(rs.mapM (nv a.tmps)).run P w = .ok us w∧us.length=vs.length∧∀ (i:Nat) (x:AV) (u:Value),vs[i]? = some x→us[i]? = some u→Rep G w x u:=by
 intro rs
 induction rs with
 | nil=>
  intro irs vs h1 h2
  simp only [gx,Option.some.injEq] at h1;subst h1
  simp only [ga,Option.some.injEq] at h2;subst h2
  exact ⟨[],rfl,rfl,by simp⟩
 | cons r rs ih=>
  intro irs vs h1 h2
  have cons:∀ {x:AV}{u:Value}{irs':List lq}{vs':List AV},(nv a.tmps r).run P w = .ok u w→Rep G w x u→gx P rs=some irs'→ga S.T S.H irs'=some vs'→vs=x::vs'→
   ∃ us,((r::rs).mapM (nv a.tmps)).run P w = .ok us w∧us.length=vs.length∧∀ (i:Nat) (x:AV) (u:Value),vs[i]? = some x→us[i]? = some u→Rep G w x u:=by
   intro x u irs' vs' k1 k2 k3 k4 k5
   obtain ⟨us,q1,q2,q3⟩:=ih irs' vs' k3 k4
   subst k5
   refine ⟨u::us,?_,by simp [q2],fun i y v hy hv=>?_⟩
   ·rw [List.mapM_cons]
    simp only [Sem.run_bind,k1,Result.andThen_ok,q1,Sem.run_pure]
   ·cases i with
    | zero=>simp at hy hv;subst hy;subst hv;exact k2
    | succ i=>exact q3 i y v (by simpa using hy) (by simpa using hv)
  cases r with
  | tmp t=>
   simp only [gx] at h1
   obtain ⟨irs',k3,rfl⟩:=aC h1
   simp only [ga] at h2
   split at h2
   ·rename_i vs' k4
    simp only [Option.some.injEq] at h2
    exact cons (by simp only [nv,Sem.run_pure]) (h.T t) k3 k4 h2.symm
   ·simp at h2
  | cell t ty=>
   simp only [gx] at h1
   split at h1
   ·rename_i s g irs' hs hg k3
    simp only [Option.some.injEq] at h1;subst h1
    simp only [ga] at h2
    split at h2
    ·rename_i id off heq
     split at h2
     ·rename_i v vs' hv k4
      simp only [Option.some.injEq] at h2
      have hr:=h.T t
      rw [heq] at hr
      obtain ⟨b,o,hp,hb⟩:=hr.ptr_ref
      obtain ⟨u,q1,q2⟩:=km (jg.of_obj h.W hb) hv hs hg
      exact cons (u:=u) (by simp only [nv,hp,asAddr,Sem.run_bind,Sem.run_pure,Result.andThen_ok,q1]) q2 k3 k4 h2.symm
     ·simp at h2
    ·simp at h2
   ·simp at h1
theorem qm (h:cu G S nt mk a w) {fn:Func}{irs:List lq}{vs:List AV}(h1:gx P fn.results.toList=some irs) (h2:ga S.T S.H irs=some vs) :
 ∃ v,(results fn a.tmps).run P w = .ok v w∧Rep G w (eW vs) v:=by
 obtain ⟨us,q1,q2,q3⟩:=rl h _ _ _ h1 h2
 rw [vj]
 have harr:(fn.results.mapM (nv a.tmps)).run P w = .ok us.toArray w:=by
  rw [Array.mapM_eq_mapM_toList]
  simp only [map_eq_pure_bind,Sem.run_bind,q1,Result.andThen_ok,Sem.run_pure]
 simp only [Sem.run_bind,harr,Result.andThen_ok,Sem.run_pure]
 refine ⟨_,rfl,?_⟩
 match vs,us,q2,q3 with
 | [],[],_,_=>exact .tup [] _ rfl (by simp)
 | [x],[u],_,q3=>exact q3 0 x u rfl rfl
 | x::y::vs,u::v::us,q2,q3=>exact .tup _ _ (by simpa using q2.symm) (fun i z q hz hq=>q3 i z q hz (by simpa using hq))
end
end Go.Abs
/- The evaluator is sound. Condition: each entry of its table is a function's resolved code, or proved otherwise. -/
namespace Go.Abs
section
variable {P:Program}{F:aE}{hint:Hint}{nt mk:Nat}{G G0:Gh}{w w0:World}{a:Act}{S S':St}{n:Nat}{H:Hp}{E:Nat→Option TypeId}{lv:Nat→Bool}
theorem xl (sz:Nat) (xs:List AV):(csl sz xs).cells=[csl sz xs]:=by cases xs<;>rfl
theorem BY (sz:Nat) (xs cs:List AV):csl sz xs≠.tup cs:=by cases xs<;>simp [csl]
theorem qn (v:AV) (h:∀ cs,v≠.agg cs):(bM H n v).cells=[bM H n v]:=by
 cases v<;>first | (exact absurd rfl (h _)) | rfl | skip
 simp only [bM];split<;>first | rfl | exact xl _ _
theorem sX (v:AV) (h:∀ cs,v≠.tup cs) (cs:List AV):bM H n v≠.tup cs:=by
 cases v<;>first | (simp [bM] at h ⊢;done) | skip
 simp only [bM];split<;>first | (simp;done) | exact BY _ _ _
theorem rm {y:AV}(h:y.leaf=true):(bM H n y).leaf=true:=by
 cases y<;>first | exact h | skip
 simp only [bM];split<;>first | rfl | exact qW _ _
theorem rn {x:AV}(h:x.under n=true):∀ y∈leaves x,y.under n=true:=by
 have aggm:∀ {cs:List AV},(AV.agg cs).under n=true→∀ y∈cs,y.under n=true:=by
  intro cs h y hy
  simp only [AV.under,bO] at h
  exact h y hy
 cases x with
 | agg cs=>exact aggm h
 | tup vs=>
  intro y hy
  simp only [AV.under,bO] at h
  obtain ⟨z,hz,hy'⟩:=List.mem_flatMap.1 hy
  have hzu:=h z hz
  cases z
  case agg cs=>exact aggm hzu y hy'
  all_goals (simp only [AV.cells,List.mem_singleton] at hy';subst hy';exact hzu)
 | _=>
  intro y hy
  simp only [leaves,AV.cells,List.mem_singleton] at hy
  subst hy;exact h
theorem tC (hW:aG G H E lv w) {x:AV}{v:Value}(h:Rep G w x v) (hu:(jb H n x).under n=true):Rep (fin G H n) w (jb H n x) v:=by
 cases x
 case ref id off=>
  by_cases hid:id<n
  ·simp only [jb,if_pos hid] at hu ⊢
   exact gV h hu
  ·simp only [jb,if_neg hid] at hu ⊢
   simp only [AV.under,bO] at hu
   obtain ⟨b,o,rfl,hβ⟩:=h.ptr_ref
   obtain ⟨cs,T0,fz,h1,h2,h3,_⟩:=hW.obj id b o hβ
   refine .cp (H id) off b o (fun i=>(cs[o+i]?).getD undef) (fun i x hx=>?_) (fun i x hx=>?_)
   ·obtain ⟨_,k2,v,k3,k4⟩:=h3 i x hx
    have hi:=(List.getElem?_eq_some_iff.1 hx).1
    exact ⟨by rw [cell_of w b _ h1,k3];rfl,.inr ⟨id,o,by omega,hβ,by omega,by omega⟩,k2⟩
   ·obtain ⟨_,k2,v,k3,k4⟩:=h3 i x hx
    simp only [k3,Option.getD_some]
    exact gV k4 (hu x (List.mem_of_getElem? hx))
 all_goals exact gV h hu
theorem BZ (hW:aG G H E lv w) {r:AV}{v:Value}(h:Rep G w r v) (hok:(leaves r).all (fk H n)=true) (hu:(aA (bM H n) r).under n=true):Rep (fin G H n) w (aA (bM H n) r) v:=by
 rw [List.all_eq_true] at hok
 refine h.leafmap2 (fun y hy u hr=>⟨?_,rm⟩)
 have hyu:(bM H n y).under n=true:=by
  refine rn hu _ ?_
  rw [nT (fun v h=>qn v h) (fun v h=>sX v h)]
  exact List.mem_map_of_mem hy
 have hyok:=hok y hy
 cases y
 case osl id off len sz=>
  by_cases hid:id<n
  ·simp only [bM,if_pos hid] at hyu ⊢
   exact gV hr hyu
  ·simp only [bM,if_neg hid]
   simp only [fk,decide_eq_false hid,Bool.false_or,Bool.and_eq_true,decide_eq_true_eq,cm] at hyok
   obtain ⟨hle,hfl⟩:=hyok
   obtain ⟨b,o,cap,rfl,hβ,hsz,hc⟩:=hr.inv_osl
   obtain ⟨cs,T0,fz,h1,h2,h3,_⟩:=hW.obj id b o hβ
   refine (Rep.canon (br:=1) (sz:=sz) (Rep.mk_sl (by omega) hsz ?_ hc ?_ (by omega) (by omega))).1
   ·rw [List.length_map,List.length_take,List.length_drop];omega
   ·intro i x hx
    simp only [List.getElem?_map,Option.map_eq_some_iff] at hx
    obtain ⟨x,hx,rfl⟩:=hx
    have hi:i<len*sz:=by
     have:=(List.getElem?_eq_some_iff.1 hx).1
     rw [List.length_take] at this;omega
    have hfx:=hfl x (List.mem_of_getElem? hx)
    rw [List.getElem?_take_of_lt hi,List.getElem?_drop] at hx
    obtain ⟨_,k2,v,k3,k4⟩:=h3 _ x hx
    refine ⟨v,?_,.inr ⟨id,o,by omega,hβ,by omega,by omega⟩,fx hfx,fw k2,(show Rep (fin G H n) w x v from k4.fmono ⟨fun _ _ h=>.inl h,fun _ _ _=>rfl⟩ hfx).aF⟩
    rw [Nat.add_assoc,cell_of w b _ h1];exact k3
 case fn f fs cs=>
  simp only [bM] at hyu ⊢
  simp only [AV.under,Bool.and_eq_true,bO] at hyu
  obtain ⟨gs,ds,rfl,h1,h2,h3,h4⟩:=hr.inv_fn
  refine .fn f _ _ gs ds (by simpa using h1) (by simpa using h2) (fun i x v hx hv=>?_) (fun i x v hx hv=>?_)
  ·have hm:=hyu.1 x (List.mem_of_getElem? hx)
   simp only [List.getElem?_map,Option.map_eq_some_iff] at hx
   obtain ⟨x,hx,rfl⟩:=hx
   exact tC hW (h3 i x v hx hv) hm
  ·have hm:=hyu.2 x (List.mem_of_getElem? hx)
   simp only [List.getElem?_map,Option.map_eq_some_iff] at hx
   obtain ⟨x,hx,rfl⟩:=hx
   exact tC hW (h4 i x v hx hv) hm
 all_goals exact gV hr hyu
def gW (P:Program) (f:FuncId) (p:List AV→Hs→(Nat→Option TypeId)→Option (AV×Hs)):Prop:=∀ (vs:List AV) (hs:Hs) (E:Nat→Option TypeId) (r:AV) (hs':Hs),p vs hs E=some (r,hs')→
 Enters P f∧hs'.n=hs.n∧hs.c≤hs'.c∧
 ∀ (G:Gh) (w:World) (args:Array Value),vs.length=args.size→(∀ (i:Nat) (x:AV) (v:Value),vs[i]? = some x→args[i]? = some v→Rep G w x v)→aG G hs.H E hs.lv w→
  (∀ id,hs.n≤id→G.β id=none)→(∀ b,hs.c≤b→G.τ b=none)→4≤hs.c→
  Calls P f args w fun e w'=>∃ v G',e = .returned v∧Ext G hs.lv w G' hs'.lv w'∧aG G' hs'.H E hs'.lv w'∧Rep G' w' r v∧(∀ id,G'.β id=G.β id)∧(∀ b,hs'.c≤b→G'.τ b=none)
structure gX (mk:Nat) (w w2:World):Prop where
 size:w2.heap.size=w.heap.size
 os:w2.os=w.os
 tape:w2.tape=w.tape
 output:w2.output=w.output
 at':∀ b:Nat,w2.heap[b]? = w.heap[b]?∨(mk≤b∧w.heap[b]? = some (.deferred (some []))∧w2.heap[b]? = some (.deferred none))
theorem gX.refl (mk:Nat) (w:World):gX mk w w:=⟨rfl,rfl,rfl,rfl,fun _=>.inl rfl⟩
theorem jK.put {mk r:Nat}{o:Obj}{w:World}:∀ {ds:List Deferred},jK mk w ds→(∀ d'∈ds,d'.target≠.collected r)→jK mk (w.putObj r o) ds
 | [],_,_=>trivial
 | d::ds,⟨⟨r',h1,h0,h2,h3⟩,h⟩,k=>⟨⟨r',h1,h0,(World.putObj_heap_other fun e=>k d List.mem_cons_self (by rw [h1,e])).trans h2,h3⟩,h.put fun d' hd=>k d' (List.mem_cons_of_mem _ hd)⟩
theorem rp {Fe:Fence}{m mk:Nat}{fn:Func}{tmps:Array Value}{R:Ending→World→Prop}:∀ (ds:List Deferred) (w:World),jK mk w ds→(∀ w2,gX mk w w2→LeavesInM Fe m P fn tmps R [] .returning w2)→LeavesInM Fe m P fn tmps R ds .returning w:=by
 intro ds
 induction ds with
 | nil=>intro w _ hk;exact hk w (.refl _ _)
 | cons d ds ih=>
  rintro w ⟨⟨r,h1,h0,h2,h3⟩,h⟩ hk
  refine ⟨by simp,.inl ⟨r,_,h1,run_takeDeferred h2,ih _ (h.put h3) fun w2 s=>hk w2 ⟨s.size.trans (by simp),s.os,s.tape,s.output,fun b=>?_⟩⟩⟩
  have hlt:r<w.heap.size:=(Array.getElem?_eq_some_iff.1 h2).1
  by_cases hb:b=r
  ·subst hb
   have hsame:=World.putObj_heap_same (w:=w) (o:=.deferred none) hlt
   rcases s.at' b with k | ⟨_,k,_⟩
   ·exact .inr ⟨h0,h2,k.trans hsame⟩
   ·rw [hsame] at k;cases k
  ·have hoth:=World.putObj_heap_other (w:=w) (o:=.deferred none) hb
   rcases s.at' b with k | ⟨k0,k1,k2⟩
   ·exact .inl (k.trans hoth)
   ·exact .inr ⟨k0,hoth.symm.trans k1,k2⟩
theorem gX.cell {mk:Nat}{w w2:World}(s:gX mk w w2) (b i:Nat):w2.cell? ⟨b,i,none⟩=w.cell? ⟨b,i,none⟩:=by
 rcases s.at' b with k | ⟨_,k1,k2⟩
 ·exact cC k i
 ·simp [World.cell?,k1,k2]
theorem gX.shape {mk:Nat}{w w2:World}(s:gX mk w w2) (b:Nat):w2.shape? b=w.shape? b:=by
 rcases s.at' b with k | ⟨_,k1,k2⟩
 ·exact cI k
 ·simp [World.shape?,k1,k2]
theorem gX.mono {mk:Nat}{w w2:World}(s:gX mk w w2):dV G w G w2:=⟨fun _ _ h=>h,fun _ _ h=>h,fun _ _ h=>h,fun b i _=>s.cell b i,fun b _=>s.shape b,fun _ _ h=>h,fun _ _ h=>h⟩
theorem gX.rel {mk:Nat}{w w2:World}(s:gX mk w w2) (hW:aG G H E lv w):aG G H E lv w2:=by
 have own:∀ b,fp G lv b→w2.heap[b]? = w.heap[b]?:=fun b ho=>by
  rcases s.at' b with k | ⟨_,k1,_⟩
  ·exact k
  ·exact absurd ho (pG hW k1)
 constructor
 ·intro id b o' hb
  obtain ⟨cs,T,fz,h1,h2,h3,h4,h5⟩:=hW.obj id b o' hb
  have hk:=own b (.inl ⟨id,_,hb⟩)
  exact ⟨cs,T,fz,hk.trans h1,h2,fun i x hx'=>by
   obtain ⟨k1,k2,v,k3,k4⟩:=h3 i x hx'
   exact ⟨k1,k2,v,k3,k4.mono s.mono⟩,fun i hi=>(aP hk _).trans (h4 i hi),h5⟩
 ·intro id b hb
  exact hW.mobj_of s.mono hb (own b (.inl ⟨id,_,hb⟩)) rfl
 ·exact hW.nσ
 ·exact hW.inj
 ·intro br hbr
  obtain ⟨k1,b,e,cs,T,fz,k2,k3,k4,k5,k6⟩:=hW.tip br hbr
  have hk:=own b (.inr ⟨br,e,hbr,k2⟩)
  exact ⟨k1,b,e,cs,T,fz,k2,hk.trans k3,fun i c=>(aP hk _).trans (k4 i c),k5,k6⟩
 ·exact hW.tinj
 ·exact fun b i h=>s.size▸hW.σlt b i h
 ·exact fun br b e h=>s.size▸hW.τlt _ _ _ h
 ·exact fun b r h=>s.size▸hW.ρlt _ _ h
theorem gX.ext {mk:Nat}{w w2:World}(s:gX mk w w2) {lv0:Nat→Bool}(h:Ext G0 lv0 w0 G lv w) (hm:w0.heap.size≤mk):Ext G0 lv0 w0 G lv w2:=
 ⟨h.β,h.σ,h.τ,h.σn,h.own,fun b hb ho=>by
  rcases s.at' b with k | ⟨k,_,_⟩
  ·exact k.trans (h.keep b hb ho)
  ·omega,fun b i hσ=>(s.cell b i).trans (h.kσ b i hσ),fun b hb=>(s.shape b).trans (h.shp b hb),s.size▸h.size,s.os.trans h.os,s.tape.trans h.tape,s.output.trans h.output,h.ρ,h.ρn⟩
def fc (F:aE) (k:Nat) (fn:IFn) (vs:List AV) (hs:Hs) (E:Nat→Option TypeId):Option (AV×Hs):=
 match ar F k fn.body (entry vs hs E) with
 | some (.norm,S)=>finish fn hs.n S
 | some (.ret,S)=>finish fn hs.n S
 | _=>none
theorem vk {fn:IFn}{r:AV}{hs':Hs}(h:finish fn n S=some (r,hs')):∃ vs,ga S.T S.H fn.res=some vs∧(leaves (eW vs)).all (fk S.H n)=true∧r=aA (bM S.H n) (eW vs)∧r.under n=true∧hs'={ H:=trim n S.H,n:=n,lv:=S.lv,c:=S.c }:=by
 unfold finish at h
 split at h
 ·simp at h
 ·rename_i vs hv
  simp only at h
  split at h
  ·rename_i hok
   split at h
   ·rename_i hu
    simp only [Option.some.injEq,Prod.mk.injEq] at h
    obtain ⟨rfl,rfl⟩:=h
    exact ⟨vs,hv,hok,rfl,hu,rfl⟩
   ·simp at h
  ·simp at h
theorem gW.e {f:FuncId}{p:List AV→Hs→(Nat→Option TypeId)→Option (AV×Hs)}(h:gW P f p) (env:Env):nQ P env f p:=fun vs hs E r hs' hp=>by
 obtain ⟨h1,h2,h3,h4⟩:=h vs hs E r hs' hp
 exact ⟨h1,h2,h3,fun G w args a b c d e f _=>h4 G w args a b c d e f⟩
theorem vl {ff:Env→jV}(hSE:∀ env,dX env→Sound P ⟨ff,env⟩) {env:Env}(hM0:dX env) {f:FuncId}{ifn:IFn}{k:Nat}(hr:qv P hint f=some ifn) (hen:Enters P f):nQ P env f (fun vs hs E=>fc ⟨ff,di hs.n env⟩ k ifn vs hs E):=by
 intro vs hs E r hs' he
 have hM:dX (⟨ff,di hs.n env⟩:aE).env:=hM0.low _
 have hS:=hSE _ hM
 unfold qv at hr
 split at hr
 case h_2=>simp at hr
 rename_i fn hf
 split at hr
 case h_2=>simp at hr
 rename_i c hb
 split at hr
 case h_2=>simp at hr
 rename_i b rs hcode hres
 simp only [Option.some.injEq] at hr;subst hr
 have hbody:∃ e S1,ar ⟨ff,di hs.n env⟩ k b (entry vs hs E)=some (e,S1)∧(e = .norm∨e = .ret)∧finish ⟨b,rs,fn.ntmps⟩ hs.n S1=some (r,hs'):=by
  have he:fc ⟨ff,di hs.n env⟩ k ⟨b,rs,fn.ntmps⟩ vs hs E=some (r,hs'):=he
  unfold fc at he
  split at he
  ·rename_i S1 h1;exact ⟨.norm,S1,h1,.inl rfl,he⟩
  ·rename_i S1 h1;exact ⟨.ret,S1,h1,.inr rfl,he⟩
  ·simp at he
 obtain ⟨e,S1,h1,hne,h2⟩:=hbody
 obtain ⟨us,v1,v2,v3,v4,v5⟩:=vk h2
 refine ⟨hen,by rw [v5],by rw [v5];exact lM hSE hM b _ _ _ h1,?_⟩
 intro G w args hl ha hW hβ hτ hc hE
 refine (callsIn_wide (n:=0)).1 (callsIn_of_wp_marks hf hb trivial ?_)
 have hsr:cu G (entry vs hs E) fn.ntmps w.heap.size { tmps:=args++Array.replicate (fn.ntmps-args.size) undef,defers:=[] } w:=by
  refine ⟨fun t=>?_,hW,hβ,hτ,hc,by simp;omega,Nat.le_refl _,trivial⟩
  show Rep G w (vs.getD t (.tup [])) ((args++Array.replicate (fn.ntmps-args.size) undef).getD t undef)
  simp only [List.getD_eq_getElem?_getD,Array.getD_eq_getD_getElem?]
  by_cases ht:t<vs.length
  ·rw [List.getElem?_eq_getElem ht,Array.getElem?_append_left (by omega),Array.getElem?_eq_getElem (by omega)]
   exact ha t _ _ (List.getElem?_eq_getElem ht) (Array.getElem?_eq_getElem (by omega))
  ·rw [List.getElem?_eq_none (by omega),Array.getElem?_append_right (by omega),Array.getElem?_replicate]
   split<;>exact lF
 refine vi (F:=⟨ff,di hs.n env⟩) hSE hM c b hcode w.heap.size none 0 _ S1 e G _ w _ hE (fun l h=>by cases h) hsr h1 fun a' w' G' hbd=>?_
 have hβlt:∀ id p,G.β id=some p→id<hs.n:=fun id p hp=>by
  rcases Nat.lt_or_ge id hs.n with h' | h'
  ·exact h'
  ·rw [hβ id h'] at hp;cases hp
 have hEE:=(rj hS b _ _ _ h1).2
 have hpost:LeavesInM Fence.wide 0 P fn a'.tmps (fun e w'=>∃ v' G'',e = .returned v'∧Ext G hs.lv w G'' hs'.lv w'∧aG G'' hs'.H E hs'.lv w'∧Rep G'' w' r v'∧(∀ id,G''.β id=G.β id)∧(∀ b,hs'.c≤b→G''.τ b=none)) a'.defers .returning w':=by
  refine rp (mk:=w.heap.size) a'.defers w' hbd.rel.d.2 fun w2 s=>?_
  have hW2:=s.rel hbd.rel.W
  have hrel2:cu G' S1 fn.ntmps w.heap.size { tmps:=a'.tmps,defers:=[] } w2:=⟨fun t=>(hbd.rel.T t).mono s.mono,hW2,hbd.rel.β,hbd.rel.τ,hbd.rel.c,hbd.rel.nt,by rw [s.size];exact hbd.rel.d.1,trivial⟩
  have hext:=s.ext hbd.ext (Nat.le_refl _)
  obtain ⟨v,q1,q2⟩:=qm hrel2 hres v1
  refine ⟨v,q1,v,fin G' S1.H hs.n,rfl,?_,?_,?_,?_,?_⟩
  ·rw [v5];exact tB hext hβlt
  ·rw [v5];exact tA hW2 hs.n fun id hid=>hEE id hid
  ·rw [v3];exact BZ hW2 q2 v2 (by rw [← v3];exact v4)
  ·intro id
   simp only [fin]
   split
   ·rename_i hid;exact hbd.stay id hid
   ·rename_i hid;exact (hβ id (by omega)).symm
  ·rw [v5];exact hbd.rel.τ
 rcases hne with rfl | rfl
 ·exact hpost
 ·exact hpost
def Table (P:Program) (FN:FuncId→Option cr):Prop:=∀ f d,FN f=some d→match d with
 | .code ifn=>Enters P f∧∃ hint,qv P hint f=some ifn
 | .prim p=>gW P f p
theorem ru (FN:FuncId→Option cr) (env:Env) (f:FuncId) (vs:List AV) (hs:Hs) (E:Nat→Option TypeId):bG FN 0 env f vs hs E=none:=rfl
theorem fe {FN:FuncId→Option cr}{f:FuncId}{fn:IFn}(h:FN f=some (.code fn)) (k:Nat) (env:Env):bG FN (k+1) env f=fun vs hs E=>fc ⟨bG FN k,di hs.n env⟩ k fn vs hs E:=by
 funext vs hs E
 simp only [bG,h,fc]
 rfl
theorem gB {FN:FuncId→Option cr}{f:FuncId}{p:List AV→Hs→(Nat→Option TypeId)→Option (AV×Hs)}(h:FN f=some (.prim p)) (k:Nat) (env:Env):bG FN (k+1) env f=p:=by
 funext vs hs E
 simp only [bG,h]
theorem lN {FN:FuncId→Option cr}{f:FuncId}(h:FN f=none) (k:Nat) (env:Env) (vs:List AV) (hs:Hs) (E:Nat→Option TypeId):bG FN (k+1) env f vs hs E=none:=by
 simp only [bG,h]
theorem xn (n:Nat):di n (fun _=>none)=fun _=>none:=by
 funext i
 unfold di
 split<;>rfl
theorem mV {FN:FuncId→Option cr}{f:FuncId}{fn:IFn}(h:FN f=some (.code fn)) (k:Nat):ab FN (k+1) f=fc (ab FN k) k fn:=by
 show bG FN (k+1) (fun _=>none) f=_
 rw [fe h]
 funext vs hs E
 rw [xn]
 rfl
theorem sY {FN:FuncId→Option cr}{f:FuncId}{p:List AV→Hs→(Nat→Option TypeId)→Option (AV×Hs)}(h:FN f=some (.prim p)) (k:Nat):ab FN (k+1) f=p:=gB h k _
theorem ry {FN:FuncId→Option cr}(hT:Table P FN):∀ k env,dX env→Sound P ⟨bG FN k,env⟩:=by
 intro k
 induction k with
 | zero=>intro env hM;exact ⟨hM,fun f vs hs E r hs' h=>by cases (show (none:Option (AV×Hs))=some (r,hs') from h)⟩
 | succ k ih=>
  intro env hM
  refine ⟨hM,fun f=>?_⟩
  show nQ P env f (bG FN (k+1) env f)
  cases hf:FN f with
  | none=>intro vs hs E r hs' h;rw [lN hf] at h;cases h
  | some d=>
   have:=hT f d hf
   cases d with
   | code fn=>
    obtain ⟨hen,hint,hr⟩:=this
    rw [fe hf]
    exact vl ih hM hr hen
   | prim p=>rw [gB hf];exact gW.e this env
theorem mW {FN:FuncId→Option cr}(hT:Table P FN) (k:Nat):Sound P (ab FN k):=ry hT k _ dX.none
end
end Go.Abs
/- Arguments that read as data are abstract values. Condition: their types are built of integers, bools, strings, slices, arrays and structs ('shT'). -/
namespace Go.Abs
open Go.ChangeShapes Go.WideShapes
inductive Sh where
 | int (k:IntKind)
 | bool
 | str
 | sl (s:Sh)
 | arr (n:Nat) (s:Sh)
 | agg (l:List Sh)
mutual
def Sh.size:Sh→Nat
 | .int _ | .bool | .str | .sl _=>1
 | .arr n s=>n*s.size
 | .agg l=>gC l
def gC:List Sh→Nat
 | []=>0
 | s::l=>s.size+gC l
end
def shF (P:Program) (sh:TypeId→Option Sh) (off:Nat):List Field→Option (List Sh)
 | []=>some []
 | f::fs=>match sh f.type with
  | some s=>if f.offset=off∧P.cellsOf f.type=s.size then (shF P sh (off+s.size) fs).map (s :: ·) else none
  | none=>none
def shT (P:Program):Nat→TypeId→Option Sh
 | 0,_=>none
 | d+1,t=>match P.underlying t with
  | some (.int k)=>some (.int k)
  | some .bool=>some .bool
  | some .string=>some .str
  | some (.slice e)=>match shT P d e with
   | some s=>if 0<s.size∧P.cellsOf e=s.size then some (.sl s) else none
   | none=>none
  | some (.array n e)=>match shT P d e with
   | some s=>if P.cellsOf e=s.size∧P.cellsOf t=n*s.size then some (.arr n s) else none
   | none=>none
  | some (.struct fs)=>match shF P (shT P d) 0 fs.toList with
   | some l=>if P.cellsOf t=gC l then some (.agg l) else none
   | none=>none
  | _=>none
mutual
/-- Cells that have a shape. -/
def Has:Sh→List AV→Prop
 | .int k,xs=>∃ n,xs=[.int k n]∧(Lit.int k n).wf=true
 | .bool,xs=>∃ b,xs=[.bool b]
 | .str,xs=>∃ l,xs=[.str l]∧l.length≤reachBytes
 | .sl s,xs=>∃ ls:List (List AV),xs=[csl s.size ls.flatten]∧(∀ y∈ls,Has s y)∧ls.length≤maxLen
 | .arr n s,xs=>∃ ls:List (List AV),ls.length=n∧xs=ls.flatten∧∀ y∈ls,Has s y
 | .agg l,xs=>rz l xs
def rz:List Sh→List AV→Prop
 | [],xs=>xs=[]
 | s::l,xs=>∃ ys zs,Has s ys∧rz l zs∧xs=ys++zs
end
theorem lh {α:Type}{n:Nat}:∀ {ls:List (List α)},(∀ y∈ls,y.length=n)→ls.flatten.length=ls.length*n:=by
 intro ls
 induction ls with
 | nil=>simp
 | cons y ls ih=>
  intro h
  rw [List.flatten_cons,List.length_append,h y List.mem_cons_self,ih fun z hz=>h z (List.mem_cons_of_mem _ hz),List.length_cons,Nat.succ_mul]
  omega
mutual
theorem o9:∀ (s:Sh) (xs:List AV),Has s xs→xs.length=s.size
 | .int k,xs,h=>by obtain ⟨n,rfl,_⟩:=h;rfl
 | .bool,xs,h=>by obtain ⟨b,rfl⟩:=h;rfl
 | .str,xs,h=>by obtain ⟨l,rfl,_⟩:=h;rfl
 | .sl s,xs,h=>by obtain ⟨ls,rfl,_⟩:=h;rfl
 | .arr n s,xs,h=>by
  obtain ⟨ls,rfl,rfl,h⟩:=h
  exact lh fun y hy=>o9 s y (h y hy)
 | .agg l,xs,h=>rA l xs h
theorem rA:∀ (l:List Sh) (xs:List AV),rz l xs→xs.length=gC l
 | [],xs,h=>by simp only [rz] at h;subst h;rfl
 | s::l,xs,h=>by
  obtain ⟨ys,zs,h1,h2,rfl⟩:=h
  rw [List.length_append,o9 s ys h1,rA l zs h2];rfl
end
def fL (w:World):Gh:={ β:=fun _=>none,σ:=fun b _=>b<w.heap.size,τ:=fun _=>none }
def cX (w:World) (xs:List AV) (cs:List Value):Prop:=xs.length=cs.length∧∀ (i:Nat) (x:AV) (v:Value),xs[i]? = some x→cs[i]? = some v→Rep (fL w) w x v∧x.leaf=true∧x.flat=true
theorem cX.nil {w:World}:cX w [] []:=⟨rfl,by simp⟩
theorem cX.one {w:World}{x:AV}{v:Value}(h:Rep (fL w) w x v) (h1:x.leaf=true) (h2:x.flat=true):cX w [x] [v]:=by
 refine ⟨rfl,fun i y u hy hu=>?_⟩
 cases i with
 | zero=>simp at hy hu;subst hy;subst hu;exact ⟨h,h1,h2⟩
 | succ i=>simp at hy
theorem cX.append {w:World}{xs ys:List AV}{cs ds:List Value}(h:cX w xs cs) (k:cX w ys ds):cX w (xs++ys) (cs++ds):=by
 refine ⟨by rw [List.length_append,List.length_append,h.1,k.1],fun i x v hx hv=>?_⟩
 by_cases hi:i<xs.length
 ·rw [List.getElem?_append_left hi] at hx
  rw [List.getElem?_append_left (by rw [← h.1];exact hi)] at hv
  exact h.2 i x v hx hv
 ·rw [List.getElem?_append_right (by omega)] at hx
  rw [List.getElem?_append_right (by rw [← h.1];omega),← h.1] at hv
  exact k.2 _ x v hx hv
section
variable {H:Type}{enc:TypeId×Value→H}{P:Program}{w:World}
theorem lO {α β:Type}{f:α→Option β}:∀ {l:List α}{r:List β},l.mapM f=some r→r.length=l.length∧∀ (i:Nat) (x:α) (y:β),l[i]? = some x→r[i]? = some y→f x=some y:=by
 intro l
 induction l with
 | nil=>intro r h;simp at h;subst h;simp
 | cons a l ih=>
  intro r h
  rw [List.mapM_cons] at h
  simp only [Option.bind_eq_bind,Option.bind_eq_some_iff,Option.pure_def,Option.some.injEq] at h
  obtain ⟨b,hb,r',hr,rfl⟩:=h
  obtain ⟨i1,i2⟩:=ih hr
  refine ⟨by simp [i1],fun i x y hx hy=>?_⟩
  cases i with
  | zero=>simp at hx hy;subst hx;subst hy;exact hb
  | succ i=>exact i2 i x y (by simpa using hx) (by simpa using hy)
theorem vn (cs:List Value) (n m:Nat) (hl:cs.length=n*m) (s:Sh) (h:∀ i,i<n→∃ xs,Has s xs∧cX w xs ((cs.drop (i*m)).take m)):∃ ls:List (List AV),ls.length=n∧(∀ y∈ls,Has s y)∧cX w ls.flatten cs:=by
 induction n generalizing cs with
 | zero=>
  have:cs=[]:=List.length_eq_zero_iff.1 (by simpa using hl)
  subst this
  exact ⟨[],rfl,by simp,cX.nil⟩
 | succ n ih=>
  obtain ⟨xs,h1,h2⟩:=h 0 (by omega)
  simp only [Nat.zero_mul,List.drop_zero] at h2
  obtain ⟨ls,k1,k2,k3⟩:=ih (cs.drop m) (by rw [List.length_drop,hl,Nat.succ_mul];omega) fun i hi=>by
   obtain ⟨ys,q1,q2⟩:=h (i+1) (by omega)
   refine ⟨ys,q1,?_⟩
   rw [List.drop_drop,show m+i*m=(i+1)*m by rw [Nat.succ_mul];omega]
   exact q2
  refine ⟨xs::ls,by simp [k1],fun y hy=>?_,?_⟩
  ·rcases List.mem_cons.1 hy with rfl | hy
   ·exact h1
   ·exact k2 y hy
  ·have:=h2.append k3
   rwa [List.take_append_drop] at this
theorem j1 {e:TypeId}:∀ {ds:List (DataW H)}{d:DataW H},d∈ds→∀ x∈d.weights P e,x∈DataW.weightsAll P e ds:=by
 intro ds
 induction ds with
 | nil=>intro d hd;simp at hd
 | cons y ds ih=>
  intro d hd x hx
  simp only [DataW.weightsAll,List.mem_append]
  rcases List.mem_cons.1 hd with rfl | hd
  ·exact .inl hx
  ·exact .inr (ih hd x hx)
theorem vo {a:Addr}{n m:Nat}{s:Sh}(hm:0<m) (h:∀ i,i<n→∃ cs xs,w.cells? 0 (a.add (i*m)) m=some cs∧Has s xs∧cX w xs cs) (hn:0<n) :
 ∃ b off,a=⟨b,off,none⟩∧∃ ls:List (List AV),ls.length=n∧(∀ y∈ls,Has s y)∧Cells (fL w) w b off ls.flatten:=by
 have hspot:a.spot=none:=by
  obtain ⟨cs,xs,h1,_⟩:=h 0 hn
  simp only [Nat.zero_mul,World.cells?,Nat.zero_le,if_true] at h1
  obtain ⟨k1,k2⟩:=lO h1
  have hc:cs.length=m:=by simpa using k1
  have:=k2 0 0 cs[0] (by simp [hm]) (List.getElem?_eq_getElem (by omega))
  simp only [Addr.add,if_true,World.cell?] at this
  split at this
  ·split at this
   ·simp at this
   ·rename_i hs;simpa using hs
  ·simp at this
 obtain ⟨b,off,sp⟩:=a
 simp only at hspot
 subst hspot
 refine ⟨b,off,rfl,?_⟩
 clear hn
 suffices hs:∀ k,k≤n→∃ ls:List (List AV),ls.length=k∧(∀ y∈ls,Has s y)∧ls.flatten.length=k*m∧Cells (fL w) w b off ls.flatten by
  obtain ⟨ls,h1,h2,_,h3⟩:=hs n (Nat.le_refl _)
  exact ⟨ls,h1,h2,h3⟩
 intro k
 induction k with
 | zero=>intro _;exact ⟨[],rfl,by simp,by simp,fun i x hx=>by simp at hx⟩
 | succ k ih=>
  intro hk
  obtain ⟨ls,h1,h2,h3,h4⟩:=ih (by omega)
  obtain ⟨cs,xs,c1,c2,c3⟩:=h k (by omega)
  have hcl:cs.length=m:=by
   simp only [World.cells?,Nat.zero_le,if_true] at c1
   simpa using (lO c1).1
  refine ⟨ls++[xs],by simp [h1],fun y hy=>?_,?_,?_⟩
  ·rcases List.mem_append.1 hy with hy | hy
   ·exact h2 y hy
   ·simp at hy;subst hy;exact c2
  ·rw [List.flatten_append,List.length_append,h3,Nat.succ_mul]
   simp [c3.1,hcl]
  ·intro i x hx
   rw [List.flatten_append] at hx
   by_cases hi:i<ls.flatten.length
   ·rw [List.getElem?_append_left hi] at hx
    exact h4 i x hx
   ·rw [List.getElem?_append_right (by omega),h3] at hx
    simp only [List.flatten_cons,List.flatten_nil,List.append_nil] at hx
    have hlt:i-k*m<cs.length:=by rw [← c3.1];exact (List.getElem?_eq_some_iff.1 hx).1
    obtain ⟨q1,q2,q3⟩:=c3.2 _ x cs[i-k*m] hx (List.getElem?_eq_getElem hlt)
    simp only [World.cells?,Nat.zero_le,if_true] at c1
    have hcell:=(lO c1).2 (i-k*m) (i-k*m) cs[i-k*m] (by rw [List.getElem?_range (by omega)]) (List.getElem?_eq_getElem hlt)
    rw [cS,cS] at hcell
    have he:off+k*m+(i-k*m)=off+i:=by omega
    rw [he] at hcell
    refine ⟨_,hcell,?_,q3,q2,q1⟩
    show b<w.heap.size
    simp only [World.cell?] at hcell
    rcases Nat.lt_or_ge b w.heap.size with h' | h'
    ·exact h'
    ·rw [Array.getElem?_eq_none h'] at hcell;simp at hcell
theorem zE:∀ (d:Nat) (t:TypeId) (s:Sh),shT P d t=some s→∀ (fuel:Nat) (cs:List Value) (x:DataW H×List MemPlace),DataW.trod enc P w 0 (fun _=>true) true fuel t cs=some x→(∀ k∈x.1.weights P t,k≤reachBytes)→
 ∃ xs,Has s xs∧cX w xs cs:=by
 intro d
 induction d with
 | zero=>intro t s h;simp [shT] at h
 | succ d ih=>
  intro t s hs fuel cs x hx hw
  simp only [shT] at hs
  split at hs
  ·rename_i k ht
   simp only [Option.some.injEq] at hs;subst hs
   obtain ⟨n,rfl,rfl,hwf⟩:=DataW.trod_int ht hx
   exact ⟨[.int k n],⟨n,rfl,hwf⟩,cX.one (.int k n) rfl rfl⟩
  ·rename_i ht
   simp only [Option.some.injEq] at hs;subst hs
   obtain ⟨b,rfl,rfl⟩:=DataW.trod_bool ht hx
   exact ⟨[.bool b],⟨b,rfl⟩,cX.one (.bool b) rfl rfl⟩
  ·rename_i ht
   simp only [Option.some.injEq] at hs;subst hs
   obtain ⟨u,rfl,rfl,hl⟩:=DataW.trod_string ht hx
   exact ⟨[.str u.data.toList],⟨_,rfl,hw _ (by simp [DataW.weights])⟩,cX.one (.str _ u rfl) rfl rfl⟩
  ·-- a slice
   rename_i e ht
   split at hs
   ·rename_i s' hse
    split at hs
    ·rename_i hsz
     simp only [Option.some.injEq] at hs;subst hs
     rcases Go.Deep.open_slice ht hx with ⟨rfl,rfl⟩ | ⟨a,len,cap,m,n,D,Pl,rfl,_,hlc,hcm,hm,rfl,hel⟩
     ·exact ⟨[csl s'.size []],⟨[],rfl,by simp,Nat.zero_le _⟩,cX.one (.emp 1 0 none 0 (.inl rfl)) rfl rfl⟩
     ·simp only [if_true] at hm
      subst hm
      have hel':∀ i,i<len→∃ cs xs,w.cells? 0 (a.add (i*s'.size)) s'.size=some cs∧Has s' xs∧cX w xs cs:=by
       intro i hi
       obtain ⟨cs',c1,c2⟩:=hel i (by omega)
       rw [hsz.2] at c1
       obtain ⟨xs,q1,q2⟩:=ih e s' hse n cs' _ c2 fun k hk=>hw k (by
        simp only [DataW.weights,ht]
        exact List.mem_cons_of_mem _ (List.mem_append_left _ (j1 (List.mem_map.2 ⟨i,by simpa using hi,rfl⟩) k hk)))
       exact ⟨cs',xs,c1,q1,q2⟩
      have hcap:len≤maxLen:=by omega
      rcases Nat.eq_zero_or_pos len with h0 | h0
      ·subst h0
       exact ⟨[csl s'.size []],⟨[],rfl,by simp,Nat.zero_le _⟩,cX.one (.emp 1 0 (some a) m (.inl rfl)) rfl rfl⟩
      ·obtain ⟨b,off,rfl,ls,l1,l2,l3⟩:=vo hsz.1 hel' h0
       refine ⟨[csl s'.size ls.flatten],⟨ls,rfl,l2,by omega⟩,?_⟩
       have hlen:ls.flatten.length=len*s'.size:=by rw [lh fun y hy=>o9 s' y (l2 y hy),l1]
       have hr:Rep (fL w) w (.sl 1 s'.size ls.flatten) (.slice (some ⟨b,off,none⟩) len m):=Rep.mk_sl (by omega) hsz.1 hlen hlc l3 (by omega) (by omega)
       exact cX.one hr.canon.1 hr.canon.2 (qL _ _)
    ·simp at hs
   ·simp at hs
  ·-- an array
   rename_i n e ht
   split at hs
   ·rename_i s' hse
    split at hs
    ·rename_i hsz
     simp only [Option.some.injEq] at hs;subst hs
     obtain ⟨ys,m,_,rfl,hl,hlen,hel⟩:=DataW.trod_array ht hx
     have hpart:∀ i,i<n→∃ xs,Has s' xs∧cX w xs ((cs.drop (i*s'.size)).take s'.size):=by
      intro i hi
      have hq:=hel i hi
      rw [List.getElem?_eq_getElem (by omega),hsz.1] at hq
      refine ih e s' hse m _ _ hq fun k hk=>hw k ?_
      simp only [DataW.weights,ht]
      exact j1 (List.mem_map.2 ⟨ys[i],List.getElem_mem _,rfl⟩) k hk
     obtain ⟨ls,l1,l2,l3⟩:=vn cs n s'.size (by rw [hl,hsz.2]) s' hpart
     exact ⟨ls.flatten,⟨ls,l1,rfl,l2⟩,l3⟩
    ·simp at hs
   ·simp at hs
  ·-- a struct
   rename_i fs ht
   split at hs
   ·rename_i l hsf
    split at hs
    ·rename_i hsz
     simp only [Option.some.injEq] at hs;subst hs
     obtain ⟨ys,m,_,rfl,hl,hlen,hel⟩:=DataW.trod_struct ht hx
     have key:∀ (fl:List Field) (yl:List (DataW H×List MemPlace)) (sl:List Sh) (off:Nat),shF P (shT P d) off fl=some sl→yl.length=fl.length→
      (∀ (i:Nat) f,fl[i]? = some f→DataW.trod enc P w 0 (fun _=>true) true m f.type ((cs.drop f.offset).take (P.cellsOf f.type))=yl[i]?)→
      (∀ k∈DataW.weightsEach P (fl.map (·.type)) (yl.map (·.1)),k≤reachBytes)→off+gC sl≤cs.length→∃ xs,rz sl xs∧cX w xs ((cs.drop off).take (gC sl)):=by
      intro fl
      induction fl with
      | nil=>
       intro yl sl off h1 _ _ _ _
       simp only [shF,Option.some.injEq] at h1;subst h1
       exact ⟨[],rfl,by simp [gC];exact cX.nil⟩
      | cons f fl ihf=>
       intro yl sl off h1 h2 h3 h4 h5
       simp only [shF] at h1
       split at h1
       ·rename_i s0 hs0
        split at h1
        ·rename_i hoff
         obtain ⟨sl',h6,rfl⟩:=aC h1
         cases yl with
         | nil=>simp at h2
         | cons y yl=>
          have hy:=h3 0 f rfl
          rw [hoff.1,hoff.2] at hy
          simp only [List.map_cons,DataW.weightsEach,List.mem_append] at h4
          simp only [gC] at h5
          obtain ⟨xs,q1,q2⟩:=ih f.type s0 hs0 m _ y hy fun k hk=>h4 k (.inl hk)
          obtain ⟨zs,r1,r2⟩:=ihf yl sl' (off+s0.size) h6 (by simpa using h2) (fun i g hg=>by simpa using h3 (i+1) g (by simpa using hg)) (fun k hk=>h4 k (.inr hk)) (by omega)
          refine ⟨xs++zs,⟨xs,zs,q1,r1,rfl⟩,?_⟩
          have:=q2.append r2
          simp only [gC]
          rw [List.take_add,List.drop_drop]
          exact this
        ·simp at h1
       ·simp at h1
     simp only [DataW.weights,ht] at hw
     obtain ⟨xs,k1,k2⟩:=key fs.toList ys l 0 hsf (by simpa using hlen) (fun i f hf=>hel i f (by simpa using hf)) hw (by rw [hl,hsz];omega)
     refine ⟨xs,k1,?_⟩
     rw [List.drop_zero,List.take_of_length_le (by rw [hl,hsz];exact Nat.le_refl _)] at k2
     exact k2
    ·simp at hs
   ·simp at hs
  ·simp at hs
end
end Go.Abs
/- From what the evaluator says of a law to the law's row. Conditions: the parameters' types are built of integers, bools, strings, slices, arrays and structs; the law answers one bool; no package variable is listed. -/
namespace Go.Abs
open Go.ChangeShapes Go.WideShapes Go.RowKit
def vp:Sh→List AV→AV
 | .arr _ _,xs=>.agg xs
 | .agg _,xs=>.agg xs
 | _,xs=>xs.headD .junk
def rB:List Sh→List (List AV)→Prop
 | [],[]=>True
 | s::ss,x::xs=>Has s x∧rB ss xs
 | _,_=>False
def gD:List Sh→List (List AV)→List AV
 | s::ss,x::xs=>vp s x::gD ss xs
 | _,_=>[]
section
variable {H:Type}{enc:TypeId×Value→H}{P:Program}{w W':World}
theorem rC {v:Value}(h:∀ cs,v≠.agg cs):v.cells.toList=[v]:=by
 cases v<;>first | rfl | exact absurd rfl (h _)
theorem xp {r:Reach}{b:Nat}{t:TypeId}{d:Nat}{s:Sh}(hs:shT P (d+1) t=some s) {v:Value}(hok:Value.okWide P w r b t v) {xs:List AV}(hh:Has s xs) (hm:cX w xs v.cells.toList):Rep (fL w) w (vp s xs) v∧(vp s xs).flat=true:=by
 have one:∀ {x:AV},xs=[x]→(∀ cs,v≠.agg cs)→Rep (fL w) w x v∧x.flat=true:=by
  intro x hx hv
  subst hx
  rw [rC hv] at hm
  obtain ⟨k1,_,k2⟩:=hm.2 0 x v rfl rfl
  exact ⟨k1,k2⟩
 have aggr:∀ {cs:Array Value},v = .agg cs→Rep (fL w) w (.agg xs) v∧(AV.agg xs).flat=true:=by
  intro cs hv
  subst hv
  refine ⟨Row.agg ⟨by simpa [Value.cells] using hm.1,fun i x u hx hu=>?_⟩,?_⟩
  ·obtain ⟨k1,k2,_⟩:=hm.2 i x u hx (by simpa [Value.cells] using hu)
   exact ⟨k2,k1⟩
  ·simp only [AV.flat,cm]
   intro x hx
   obtain ⟨i,hi⟩:=List.getElem?_of_mem hx
   have hlt:i<cs.toList.length:=by
    have:=(List.getElem?_eq_some_iff.1 hi).1
    have h2:=hm.1
    simp only [Value.cells] at h2
    omega
   exact (hm.2 i x _ hi (List.getElem?_eq_getElem hlt)).2.2
 simp only [shT] at hs
 split at hs
 ·rename_i k ht
  simp only [Option.some.injEq] at hs;subst hs
  obtain ⟨n,rfl,_⟩:=hh
  exact one rfl fun cs hv=>by subst hv;simp [Value.okWide,ht,Cell.okWide,Cell.ok] at hok
 ·rename_i ht
  simp only [Option.some.injEq] at hs;subst hs
  obtain ⟨n,rfl⟩:=hh
  exact one rfl fun cs hv=>by subst hv;simp [Value.okWide,ht,Cell.okWide,Cell.ok] at hok
 ·rename_i ht
  simp only [Option.some.injEq] at hs;subst hs
  obtain ⟨n,rfl,_⟩:=hh
  exact one rfl fun cs hv=>by subst hv;simp [Value.okWide,ht,Cell.okWide,Cell.ok] at hok
 ·rename_i e ht
  split at hs
  ·split at hs
   ·simp only [Option.some.injEq] at hs;subst hs
    obtain ⟨n,rfl,_⟩:=hh
    exact one rfl fun cs hv=>by subst hv;simp [Value.okWide,ht,Cell.okWide,Cell.ok] at hok
   ·simp at hs
  ·simp at hs
 ·rename_i n e ht
  simp only [Value.okWide,ht] at hok
  obtain ⟨cs,hv,_⟩:=hok
  split at hs
  ·split at hs
   ·simp only [Option.some.injEq] at hs;subst hs
    exact aggr hv
   ·simp at hs
  ·simp at hs
 ·rename_i fs ht
  simp only [Value.okWide,ht] at hok
  obtain ⟨cs,hv,_⟩:=hok
  split at hs
  ·split at hs
   ·simp only [Option.some.injEq] at hs;subst hs
    exact aggr hv
   ·simp at hs
  ·simp at hs
 ·simp at hs
theorem zF {r:Reach}{b d:Nat}:∀ (ts:List TypeId) (vs:List Value) (ds:List (DataW H)) (ps:List MemPlace) (shs:List Sh),DataW.TrodAll enc P w 0 (fun _=>true) true ts vs ds ps→
 (∀ (j:Nat) t v,ts[j]? = some t→vs[j]? = some v→Value.okWide P w r b t v)→(∀ k∈DataW.weightsEach P ts ds,k≤reachBytes)→ts.mapM (shT P (d+1))=some shs→
 ∃ xss,rB shs xss∧(gD shs xss).length=vs.length∧ds.length=ts.length∧∀ (i:Nat) (x:AV) (v:Value),(gD shs xss)[i]? = some x→vs[i]? = some v→Rep (fL w) w x v:=by
 intro ts
 induction ts with
 | nil=>
  intro vs ds ps shs h _ _ hs
  obtain ⟨rfl,rfl,_⟩:=trodAll_nil h
  simp at hs;subst hs
  exact ⟨[],trivial,rfl,rfl,by simp [gD]⟩
 | cons t ts ih=>
  intro vs ds ps shs h hok hw hs
  obtain ⟨v,vs',d0,ds',p,q,rfl,rfl,_,h1,h2⟩:=trodAll_cons h
  rw [List.mapM_cons] at hs
  simp only [Option.bind_eq_bind,Option.bind_eq_some_iff,Option.pure_def,Option.some.injEq] at hs
  obtain ⟨s,hs1,ss,hs2,rfl⟩:=hs
  simp only [DataW.weightsEach,List.mem_append] at hw
  obtain ⟨fuel,hf⟩:=h1
  obtain ⟨xs,k1,k2⟩:=zE (d+1) t s hs1 fuel _ _ hf fun k hk=>hw k (.inl hk)
  obtain ⟨xss,q1,q2,q3,q4⟩:=ih vs' ds' q ss h2 (fun j t' v' ht hv=>hok (j+1) t' v' (by simpa using ht) (by simpa using hv)) (fun k hk=>hw k (.inr hk)) hs2
  obtain ⟨m1,_⟩:=xp hs1 (hok 0 t v rfl rfl) k1 k2
  refine ⟨xs::xss,⟨k1,q1⟩,by simp [gD,q2],by simp [q3],fun i x u hx hu=>?_⟩
  cases i with
  | zero=>simp [gD] at hx hu;subst hx;subst hu;exact m1
  | succ i=>exact q4 i x u (by simpa [gD] using hx) (by simpa using hu)
theorem qo {sp:Nat→Bool}(hkeep:∀ b,b<w.heap.size→W'.heap[b]? = w.heap[b]?):∀ (ts:List TypeId) (vs:List Value) (ds:List (DataW H)) (ps:List MemPlace),DataW.TrodAll enc P w 0 sp true ts vs ds ps→DataW.TrodAll enc P W' 0 sp true ts vs ds ps:=by
 intro ts
 induction ts with
 | nil=>intro vs ds ps h;obtain ⟨rfl,rfl,rfl⟩:=trodAll_nil h;rfl
 | cons t ts ih=>
  intro vs ds ps h
  obtain ⟨v,vs',d0,ds',p,q,rfl,rfl,rfl,⟨fuel,h1⟩,h2⟩:=trodAll_cons h
  refine ⟨p,q,⟨fuel,DataW.trod_carry fuel _ _ _ h1 fun x hx=>?_⟩,ih vs' ds' q h2,rfl⟩
  have hlt:=DataW.trod_lt fuel _ _ _ h1 x hx
  cases x with
  | cell bk off=>
   show W'.cell? ⟨bk,off,none⟩=w.cell? ⟨bk,off,none⟩
   simp only [World.cell?,hkeep bk hlt]
  | map bk=>exact hkeep bk hlt
end
theorem sZ {C:Checked}{os:Os}{f:FuncId}{fn:Func}{s:ChangeSpec}{tb:TypeId}{H:Type}{enc:TypeId×Value→H}{shs:List Sh}{d:Nat}{FN:FuncId→Option cr}
 (own:ownKnob C.prog.godebug=none) (started:os.Started) (noInit:C.prog.inits.idxOf? f=none) (hfn:C.prog.funcs[f]? = some fn)
 (witness:∃ (w:World) (tape:Tape) (i:Input),w.os=os∧(w.forCall tape i).Shaped C.prog∧i.vars=[]∧Input.okWide C.prog (w.forCall tape i) .any w.heap.size f i∧
  s.pre6 enc C.prog fn [] false (w.forCall tape i).memory i.args∧({}:Assume).holds C.prog (Go.lone (Frame.enter C.prog f i.args .normal) [] (w.forCall tape i)))
 (laid:laidOutB C.prog=true) (maps:mapsRowed C.prog=true) (full:((List.range C.prog.types.size).all fun t=>match C.prog.underlying t with | some (.slice e)=>decide (0<C.prog.cellsOf e) | _=>true)=true)
 (params:fn.params.all (· < C.prog.types.size)=true)
 (vars:s.vars=[]) (spec:∀ (ds:List (DataW H)),ds.length=fn.params.toList.length→(s.fn H (ds++[])).results=[.lit (.bool true)]∧(s.fn H (ds++[])).args=ds)
 (hvars:∀ (ds:List (DataW H)),ds.length=fn.params.toList.length→(s.fn H (ds++[])).vars=[])
 (res:fn.resultTypes = #[tb]) (hb:C.prog.underlying tb=some .bool) (shapes:fn.params.toList.mapM (shT C.prog (d+1))=some shs) (table:Table C.prog FN)
 (eval:∀ xss,rB shs xss→∃ k hs',ab FN k f (gD shs xss) h0 (fun _=>none)=some (.bool true,hs')) :
 ReturnsInHanded {} C os f .any (s.pre6 enc C.prog fn [] false) (s.post enc C.prog fn false true false false):=by
 refine returnsInHanded_of_change_shaped own started noInit hfn witness ?_
 intro W base args ds gs before hval hW _ hweights _ _
 have hW':=hW
 obtain ⟨p,q,hA,hV,rfl,hfz,hnd⟩:=hW
 rw [vars] at hV
 obtain ⟨rfl,rfl⟩:=trodVars_none hV
 have hw:∀ k∈DataW.weightsEach C.prog fn.params.toList ds,k≤reachBytes:=by
  have hvt:s.plain.varTypes C.prog=[]:=by simp [ChangeSpec.plain,DataSpec.varTypes,vars]
  rw [hvt,List.append_nil,List.append_nil,List.all_eq_true] at hweights
  intro k hk
  simpa using hweights k hk
 obtain ⟨xss,k1,k2,k3,k4⟩:=zF fn.params.toList args.toList ds p shs hA (fun j t v ht hv=>hval j t v (by simpa using ht) (by simpa using hv)) hw shapes
 obtain ⟨k,hs',he⟩:=eval xss k1
 obtain ⟨_,_,_,hcalls⟩:=(mW table k).call f _ _ _ _ _ he
 have hrel:aG (fL W) h0.H (fun _=>none) h0.lv W:=by
  constructor
  ·intro id b o h;cases h
  ·intro id b h;cases h
  ·intro id b o h;cases h
  ·intro id id' b o o' h;cases h
  ·intro br h;cases h
  ·intro br br' b e e' h;cases h
  ·exact fun b i h=>h
  ·intro br b e h;cases h
  ·intro b r h;cases h
 refine (hcalls (fL W) W args (by simpa using k2) (fun i x v hx hv=>k4 i x v hx (by simpa using hv)) hrel (fun _ _=>rfl) (fun _ _=>rfl) (Nat.le_refl _) (cl.zero _ _ _ _)).mono fun e W' hR=>?_
 obtain ⟨v,G',rfl,hext,_,hrep,_⟩:=hR
 have hvb:=hrep.inv_bool
 subst hvb
 have hnot:∀ b,¬ fp (fL W) h0.lv b:=by
  rintro b (⟨id,o,h⟩ | ⟨br,e,h,_⟩)
  ·cases h
  ·cases h
 have hkeep:∀ b,b<W.heap.size→W'.heap[b]? = W.heap[b]?:=fun b hb=>hext.keep b hb (hnot b)
 obtain ⟨sp1,sp2⟩:=spec ds k3
 have sp3:=hvars ds k3
 refine ⟨_,rfl,ds,[],p++[],[],p,[],hW',?_,?_,?_,?_,fun h=>by cases h⟩
 ·rw [sp1,res]
  exact trodAll_cons_mk (shut_bool hb true) trodAll_mk0
 ·rw [sp2]
  have hall:∀ t∈fn.params.toList,t<C.prog.types.size:=by
   intro t ht
   rw [Array.all_eq_true_iff_forall_mem] at params
   simpa using params t (by simpa using ht)
  refine DataW.TrodAll.respare (kids_rows laid maps) (fun t e hT ht=>slices_full_of C.prog full t e hT ht) hall (qo hkeep _ _ _ _ hA) fun x hx=>?_
  have:=hW'.lt x (by simpa using hx)
  simpa using this
 ·rw [vars,sp3];rfl
 ·refine ⟨hext.os,hext.output,fun i hi=>?_⟩
  rw [hkeep i hi]
  split
  ·rename_i heq1 heq2
   rw [heq1] at heq2
   simp only [Option.some.injEq,Obj.cells.injEq] at heq2
   obtain ⟨rfl,rfl,rfl⟩:=heq2
   exact ⟨rfl,rfl,rfl,fun _ _=>rfl⟩
  ·rename_i heq1 heq2
   rw [heq1] at heq2
   simp only [Option.some.injEq,Obj.map.injEq] at heq2
   obtain ⟨rfl,rfl⟩:=heq2
   exact .inr ⟨rfl,rfl⟩
  ·rfl
end Go.Abs
/- Rules to step through resolved code. No condition. -/
namespace Go.Abs
structure WpO (F:aE) (l:List aa) (S:St) (Q:St→Prop):Prop where
 ex:∃ S',aS F l S=some S'∧Q S'
structure Wp (F:aE) (k:Nat) (c:IC) (S:St) (Q:Ex→St→Prop):Prop where
 ex:∃ e S',ar F k c S=some (e,S')∧Q e S'
def dS (F:aE) (f:FuncId) (vs:List AV):Option AV:=(evP F f vs).map (aA aF)
structure ad (F:aE) (f:FuncId) (vs:List AV) (R:AV):Prop where
 eq:dS F f vs=some R
section
variable {F:aE}{k:Nat}{l:List aa}{T:Nat→AV}{H:Hp}{E:Nat→Option TypeId}{n c:Nat}{lv:Nat→Bool}{Q:St→Prop}{op:IOp}{d:Nat}{v:AV}
theorem AK {S:St}(h:Q S):WpO F [] S Q:=⟨S,rfl,h⟩
theorem dC {io:aa}{S S1:St}(h:bA F io S=some S1) (k:WpO F l S1 Q):WpO F (io::l) S Q:=by
 obtain ⟨S',h1,h2⟩:=k.ex
 exact ⟨S',by rw [dG,h];exact h1,h2⟩
theorem kG (lv:Nat→Bool) (c:Nat):(fun b=>if c≤b∧b<c+0 then true else if (none:Option Nat)=some b then false else lv b)=lv:=by
 funext b
 rw [if_neg (by omega),if_neg (by simp)]
theorem bw (hc:bg op=false) (h:au T H lv n c op=some ⟨v,none,none,none,none,0⟩) (k:WpO F l ⟨upd T d v,H,E,n,lv,c⟩ Q):WpO F (⟨some d,op,none⟩::l) ⟨T,H,E,n,lv,c⟩ Q:=by
 refine dC ?_ k
 simp only [bA,bW,hc,h,Bool.false_eq_true,if_false,Eff.st,cF,Nat.add_zero]
 rw [show (fun b=>if c≤b∧b<c then true else if (none:Option Nat)=some b then false else lv b)=lv from kG lv c]
theorem vq {cs:List AV}{t:Option TypeId}(hc:bg op=false) (h:au T H lv n c op=some ⟨v,some cs,t,none,none,0⟩) (k:WpO F l ⟨upd T d v,upd H n cs,upd E n t,n+1,lv,c⟩ Q):WpO F (⟨some d,op,none⟩::l) ⟨T,H,E,n,lv,c⟩ Q:=by
 refine dC ?_ k
 simp only [bA,bW,hc,h,Bool.false_eq_true,if_false,Eff.st,cF,Nat.add_zero]
 rw [show (fun b=>if c≤b∧b<c then true else if (none:Option Nat)=some b then false else lv b)=lv from kG lv c]
theorem vr {d:Option Nat}{id:Nat}{cs:List AV}(hc:bg op=false) (h:au T H lv n c op=some ⟨v,none,none,some (id,cs),none,0⟩) (k:WpO F l ⟨cF T d v,upd H id cs,E,n,lv,c⟩ Q):WpO F (⟨d,op,none⟩::l) ⟨T,H,E,n,lv,c⟩ Q:=by
 refine dC ?_ k
 simp only [bA,bW,hc,h,Bool.false_eq_true,if_false,Eff.st,Nat.add_zero]
 rw [show (fun b=>if c≤b∧b<c then true else if (none:Option Nat)=some b then false else lv b)=lv from kG lv c]
theorem j2 (hc:bg op=false) (h:au T H lv n c op=some ⟨v,none,none,none,none,1⟩) (k:∀ lv',lv' c=true→(∀ b,b<c→lv' b=lv b)→WpO F l ⟨upd T d v,H,E,n,lv',c+1⟩ Q):WpO F (⟨some d,op,none⟩::l) ⟨T,H,E,n,lv,c⟩ Q:=by
 refine dC (S1:=⟨upd T d v,H,E,n,fun b=>if c≤b∧b<c+1 then true else lv b,c+1⟩) ?_ (k _ ?_ ?_)
 ·simp [bA,bW,hc,h,Eff.st,cF]
 ·simp
 ·intro b hb;simp;omega
theorem ig {br:Nat}(hc:bg op=false) (h:au T H lv n c op=some ⟨v,none,none,none,some br,1⟩) (k:∀ lv',lv' c=true→(∀ b,b<c→b≠br→lv' b=lv b)→WpO F l ⟨upd T d v,H,E,n,lv',c+1⟩ Q):WpO F (⟨some d,op,none⟩::l) ⟨T,H,E,n,lv,c⟩ Q:=by
 refine dC (S1:=⟨upd T d v,H,E,n,fun b=>if c≤b∧b<c+1 then true else if br=b then false else lv b,c+1⟩) ?_ (k _ ?_ ?_)
 ·simp [bA,bW,hc,h,Eff.st,cF]
 ·simp
 ·intro b hb hne
  rw [if_neg (by omega),if_neg (Ne.symm hne)]
theorem Ft {f:FuncId}{xs:List X}{args:List AV}{R:AV}(ha:(xs.map fun x=>(ev T x).share)=args) (hf:bK args=true) (hc:dS F f args=some R) (k:WpO F l ⟨upd T d R,H,E,n,lv,c⟩ Q):WpO F (⟨some d,.callp 0 f xs,none⟩::l) ⟨T,H,E,n,lv,c⟩ Q:=by
 refine dC ?_ k
 obtain ⟨r,h1,h2⟩:=Option.map_eq_some_iff.1 hc
 simp only [bA,bW,bg,aR,ha,hf,h1,gv,if_true,Eff.st,cF,Nat.add_zero,h2]
 rw [show (fun b=>if c≤b∧b<c then true else if (none:Option Nat)=some b then false else lv b)=lv from kG lv c]
theorem mX {d:Option Nat}{t:Nat}{w:Bool}(hg:T t = .bool w) (k:WpO F (⟨d,op,none⟩::l) ⟨T,H,E,n,lv,c⟩ Q):WpO F (⟨d,op,some (t,w)⟩::l) ⟨T,H,E,n,lv,c⟩ Q:=by
 obtain ⟨S',h1,h2⟩:=k.ex
 refine ⟨S',?_,h2⟩
 rw [dG] at h1 ⊢
 have:bA F ⟨d,op,some (t,w)⟩ ⟨T,H,E,n,lv,c⟩=bA F ⟨d,op,none⟩ ⟨T,H,E,n,lv,c⟩:=by
  simp [bA,bW,hg]
 rw [this];exact h1
theorem vt {d:Option Nat}{t:Nat}{w b:Bool}(hg:T t = .bool b) (hb:(b==w)=false) (k:WpO F l ⟨cF T d (.tup []),H,E,n,lv,c⟩ Q):WpO F (⟨d,op,some (t,w)⟩::l) ⟨T,H,E,n,lv,c⟩ Q:=by
 refine dC ?_ k
 simp [bA,bW,hg,hb]
theorem rD {d:Option Nat}{t:Nat}{w:Bool}(hg:T t = .tup []) (k:WpO F l ⟨cF T d (.tup []),H,E,n,lv,c⟩ Q):WpO F (⟨d,op,some (t,w)⟩::l) ⟨T,H,E,n,lv,c⟩ Q:=by
 refine dC ?_ k
 simp [bA,bW,hg]
theorem lP {α:Type}(f:Nat→α) (i:Nat) (v:α) (h:f i=v):upd f i v=f:=by
 funext j
 simp only [upd]
 split
 ·rename_i hj;rw [hj,h]
 ·rfl
variable {K:Ex→St→Prop}{a b:IC}{S:St}
structure vu (F:aE) (k:Nat) (b:IC) (K:Ex→St→Prop) (e:Ex) (S:St):Prop where
 h:match e with
  | .norm=>Wp F k b S K
  | e=>K e S
structure lQ (id:Nat) (K:Ex→St→Prop) (e:Ex) (S:St):Prop where
 h:match e with
  | .exit j=>if j=id then K .norm S else K (.exit j) S
  | e=>K e S
theorem xq (h:K .norm S):Wp F k .skip S K:=⟨.norm,S,rfl,h⟩
theorem xu {id:Nat}(h:K (.exit id) S):Wp F k (.exit id) S K:=⟨.exit id,S,rfl,h⟩
theorem AL (h:K .ret S):Wp F k .ret S K:=⟨.ret,S,rfl,h⟩
theorem AM {dr:Bool}(h:WpO F l S (K .norm)):Wp F k (.ops dr l) S K:=by
 obtain ⟨S',h1,h2⟩:=h.ex
 exact ⟨.norm,S',by simp only [ar,h1],h2⟩
structure rE (ps:List (Nat×Nat)) (K:St→Prop) (S:St):Prop where
 a:ps.all (fN S.T)=true
 k:K S
theorem Fu {ps:List (Nat×Nat)}(h:WpO F l S (rE ps (K .norm))):Wp F k (.opsX l ps) S K:=by
 obtain ⟨S',h1,h2⟩:=h.ex
 exact ⟨.norm,S',by simp only [ar,h1,h2.a,if_true],h2.k⟩
structure vw (S1 S2:St) (qs:List Nat) (K:St→Prop) (S:St):Prop where
 s:∀ q,q∈qs→∃ id o,S.T q = .ref id o∧S2.H id=S1.H id
 k:K S
structure zG (F:aE) (l:List aa) (S1:St) (qs:List Nat) (K:St→Prop) (S2:St):Prop where
 h:WpO F l S2 (vw S1 S2 qs K)
structure AtX (F:aE) (io:aa) (l:List aa) (qs:List Nat) (K:St→Prop) (S1:St):Prop where
 h:WpO F [io] S1 (zG F l S1 qs K)
theorem Fv {l1 l2:List aa}{io:aa}{ps:List (Nat×Nat)}{qs:List Nat}(h:WpO F l1 S (AtX F io l2 qs (rE ps (K .norm)))):Wp F k (.opsC (l1++io::l2) ps (qs.map fun q=>(l1.length,q))) S K:=by
 obtain ⟨S1,h1,h2⟩:=h.ex
 obtain ⟨S2,h3,h4⟩:=h2.h.ex
 obtain ⟨S3,h5,h6⟩:=h4.h.ex
 have e3:aS F (l1++io::l2) S=some S3:=by
  rw [fb,h1]
  show aS F ([io]++l2) S1=_
  rw [fb,h3]
  exact h5
 have t1:Sx F (l1++io::l2) S l1.length=S1:=by
  unfold Sx
  rw [List.take_left,h1];rfl
 have t2:Sx F (l1++io::l2) S (l1.length+1)=S2:=by
  unfold Sx
  rw [show l1++io::l2=(l1++[io])++l2 by simp,show l1.length+1=(l1++[io]).length by simp,List.take_left,fb,h1]
  show (aS F [io] S1).getD S=S2
  rw [h3];rfl
 have hc:(qs.map fun q=>(l1.length,q)).all (iN F (l1++io::l2) S S3.T)=true:=by
  rw [List.all_map,List.all_eq_true]
  intro q hq
  obtain ⟨id,o,k1,k2⟩:=h6.s q hq
  simp only [Function.comp,iN,k1,t1,t2,k2]
  exact iw _
 refine ⟨.norm,S3,?_,h6.k.k⟩
 simp only [ar,e3,h6.k.a,hc,Bool.and_true,if_true]
theorem AN (h:Wp F k a S (vu F k b K)):Wp F k (.seq a b) S K:=by
 obtain ⟨e,S1,h1,h2⟩:=h.ex
 cases e with
 | norm=>
  obtain ⟨e2,S2,h3,h4⟩:=Wp.ex h2.h
  exact ⟨e2,S2,by simp only [ar,h1];exact h3,h4⟩
 | exit id=>exact ⟨.exit id,S1,by simp only [ar,h1],h2.h⟩
 | ret=>exact ⟨.ret,S1,by simp only [ar,h1],h2.h⟩
theorem rF {x:X}{t:Bool}(hx:ev S.T x = .bool t) (h1:t=true→Wp F k a S K) (h2:t=false→Wp F k b S K):Wp F k (.cond x a b) S K:=by
 cases t with
 | true=>
  obtain ⟨e,S1,h3,h4⟩:=(h1 rfl).ex
  exact ⟨e,S1,by simp only [ar,hx];exact h3,h4⟩
 | false=>
  obtain ⟨e,S1,h3,h4⟩:=(h2 rfl).ex
  exact ⟨e,S1,by simp only [ar,hx];exact h3,h4⟩
theorem s5 {x:X}(hx:ev S.T x = .bool true) (h:Wp F k a S K):Wp F k (.cond x a b) S K:=rF hx (fun _=>h) (fun h=>by cases h)
theorem rG {x:X}(hx:ev S.T x = .bool false) (h:Wp F k b S K):Wp F k (.cond x a b) S K:=rF hx (fun h=>by cases h) (fun _=>h)
theorem tD {id:Nat}(h:Wp F k a S (lQ id K)):Wp F k (.block id a) S K:=by
 obtain ⟨e,S1,h1,h2⟩:=h.ex
 cases e with
 | norm=>exact ⟨.norm,S1,by simp only [ar,h1],h2.h⟩
 | ret=>exact ⟨.ret,S1,by simp only [ar,h1],h2.h⟩
 | exit j=>
  have h2:=h2.h
  simp only at h2
  split at h2
  ·rename_i hj;exact ⟨.norm,S1,by simp only [ar,h1];rw [if_pos hj],h2⟩
  ·rename_i hj;exact ⟨.exit j,S1,by simp only [ar,h1];rw [if_neg hj],h2⟩
theorem xv (h:Wp F k b S K):vu F k b K .norm S:=⟨h⟩
theorem xw {id:Nat}(h:K (.exit id) S):vu F k b K (.exit id) S:=⟨h⟩
theorem AO (h:K .ret S):vu F k b K .ret S:=⟨h⟩
theorem rH {id:Nat}(h:K .norm S):lQ id K .norm S:=⟨h⟩
theorem n9 {id:Nat}(h:K .ret S):lQ id K .ret S:=⟨h⟩
theorem aM {id:Nat}(h:K .norm S):lQ id K (.exit id) S:=⟨by simp only [if_true];exact h⟩
theorem tF {id j:Nat}(hj:Nat.beq j id=false) (h:K (.exit j) S):lQ id K (.exit j) S:=⟨by
 have:j≠id:=Nat.ne_of_beq_eq_false hj
 simp only [if_neg this];exact h⟩
def af:List (Nat×AV)→(Nat→AV)→Nat→AV
 | [],T=>T
 | (i,v)::l,T=>upd (af l T) i v
def ah:List (Nat×List AV)→Hp→Hp
 | [],H=>H
 | (i,v)::l,H=>upd (ah l H) i v
def mv (T:Nat→AV):List (Nat×AV)→Prop
 | []=>True
 | (i,v)::l=>T i=v∧mv T l
def jm (H:Hp):List (Nat×List AV)→Prop
 | []=>True
 | (i,v)::l=>H i=v∧jm H l
theorem kH {T:Nat→AV}:∀ {l:List (Nat×AV)},mv T l→af l T=T:=by
 intro l
 induction l with
 | nil=>intro _;rfl
 | cons p l ih=>
  obtain ⟨i,v⟩:=p
  rintro ⟨h1,h2⟩
  simp only [af,ih h2]
  exact lP _ _ _ h1
theorem dZ {H:Hp}:∀ {l:List (Nat×List AV)},jm H l→ah l H=H:=by
 intro l
 induction l with
 | nil=>intro _;rfl
 | cons p l ih=>
  obtain ⟨i,v⟩:=p
  rintro ⟨h1,h2⟩
  simp only [ah,ih h2]
  exact lP _ _ _ h1
def oa (ts:List (Nat×AV)) (os:List (Nat×List AV)) (n:Nat) (lv:Nat→Bool) (c:Nat) (S:St):Prop:=∃ T H E,S=⟨af ts T,ah os H,E,n,lv,c⟩
theorem kI {ts:List (Nat×AV)}{os:List (Nat×List AV)}(h1:mv T ts) (h2:jm H os):oa ts os n lv c ⟨T,H,E,n,lv,c⟩:=⟨T,H,E,by rw [kH h1,dZ h2]⟩
theorem lR {ts:List (Nat×AV)}{os:List (Nat×List AV)}{n':Nat}(h1:mv (fun t=>jx n (T t)) ts) (h2:jm (aV n H) os):oa ts os n lv c (pop n ⟨T,H,E,n',lv,c⟩):=⟨fun t=>jx n (T t),aV n H,E,by rw [kH h1,dZ h2];rfl⟩
def Ret (fn:IFn) (R:AV) (e:Ex) (S:St):Prop:=(e = .norm∨e = .ret)∧∃ vs,ga S.T S.H fn.res=some vs∧(leaves (eW vs)).all (fk S.H 0)=true∧(aA (bM S.H 0) (eW vs)).under 0=true∧
 aA aF (aA (bM S.H 0) (eW vs))=R∧R.flat=true
theorem xx (one:Bool) (lv:Nat→Bool) (y:AV):aF (aO one lv y)=aF y:=by
 cases y
 case sl br sz xs=>
  simp only [aO]
  split
  ·rfl
  ·rename_i h
   have hb:¬ br=1:=by omega
   split
   ·simp [aF,hb]
   ·simp [aF,hb,csl]
 all_goals rfl
theorem oc (lv:Nat→Bool) (r:AV):aA aF (own lv r)=aA aF r:=by
 unfold own
 rw [nm]
 congr 1
 funext y
 exact xx _ _ _
theorem jA (y:AV) (one:Bool) (lv:Nat→Bool):(aO one lv y).flat=(aF y).flat:=by
 cases y
 case sl br sz xs=>
  have:(aF (.sl br sz xs)).flat=true:=by simp only [aF];split<;>rfl
  rw [this]
  simp only [aO]
  split
  ·simp only [AV.flat];rw [decide_eq_true_eq];omega
  ·split<;>rfl
 all_goals rfl
theorem lS {f g:AV→AV}(l:List AV) (h:∀ y,(f y).flat=(g y).flat):bK (l.map f)=bK (l.map g):=by
 induction l with
 | nil=>rfl
 | cons x l ih=>simp only [List.map_cons,bK,ih,h]
theorem zH (lv:Nat→Bool) (r:AV):(own lv r).flat=(aA aF r).flat:=by
 unfold own
 cases r with
 | agg cs=>simp only [aA,AV.flat];exact lS cs fun y=>jA y _ _
 | tup vs=>
  simp only [aA,AV.flat]
  apply lS
  intro y
  cases y
  case agg cs=>simp only [AV.flat];exact lS cs fun y=>jA y _ _
  all_goals exact jA _ _ _
 | _=>simp only [aA];exact jA _ _ _
theorem zI {FN:FuncId→Option cr}{f:FuncId}{fn:IFn}{vs:List AV}{R:AV}(hf:FN f=some (.code fn)) (h:Wp (ab FN k) k fn.body ⟨fun t=>vs.getD t (.tup []),fun _=>[],fun _=>none,0,fun _=>false,4⟩ (Ret fn R)):dS (ab FN (k+1)) f vs=some R:=by
 obtain ⟨e,S,h1,he,us,h2,h3,h4,h5,h6⟩:=h.ex
 have hfin:finish fn 0 S=some (aA (bM S.H 0) (eW us),⟨trim 0 S.H,0,S.lv,S.c⟩):=by
  unfold finish
  rw [h2]
  simp only [h3,if_true,h4]
 have hbody:fc (ab FN k) k fn vs h0 (fun _=>none)=some (aA (bM S.H 0) (eW us),⟨trim 0 S.H,0,S.lv,S.c⟩):=by
  unfold fc
  have h1':ar (ab FN k) k fn.body (entry vs h0 fun _=>none)=some (e,S):=h1
  rw [h1']
  rcases he with rfl | rfl
  ·exact hfin
  ·exact hfin
 unfold dS evP
 rw [mV hf,hbody]
 simp only [zH,h5,h6,if_true,Option.map_some,oc]
end
end Go.Abs
/- The table of a program's functions. No condition. -/
namespace Go.Abs
abbrev Prim:=List AV→Hs→(Nat→Option TypeId)→Option (AV×Hs)
def okB (P:Program) (f:FuncId):Bool:=match P.funcs[f]? with
 | some fn=>fn.body.isSome && !(fn.name == "runtime.NumGoroutine")
 | none=>false
def vx (P:Program) (hint:FuncId→Hint) (kQ:FuncId→Option Prim) (f:FuncId):Option cr:=match kQ f with
 | some p=>some (.prim p)
 | none=>if okB P f then (qv P (hint f) f).map .code else none
theorem kJ {P:Program}{f:FuncId}(h:okB P f=true):Enters P f:=by
 unfold okB at h
 split at h
 ·rename_i fn hf
  simp only [Bool.and_eq_true,Bool.not_eq_true'] at h
  exact ⟨fn,hf,h.1,h.2⟩
 ·cases h
theorem rI {P:Program}{hint:FuncId→Hint}{kQ:FuncId→Option Prim}(h:∀ f p,kQ f=some p→gW P f p):Table P (vx P hint kQ):=by
 intro f d hd
 unfold vx at hd
 split at hd
 ·rename_i p hp
  simp only [Option.some.injEq] at hd;subst hd
  exact h f p hp
 ·split at hd
  ·rename_i hok
   obtain ⟨fn,hr,rfl⟩:=aC hd
   exact ⟨kJ hok,hint f,hr⟩
  ·cases hd
end Go.Abs
/- Rules to step through resolved code, with slots and objects as lists: every premise is met by 'rfl' where nothing in it is open. No condition. -/
namespace Go.Abs
def lk:List (Nat×AV)→Nat→Option AV
 | [],_=>none
 | (i,v)::l,n=>match Nat.beq i n with
  | true=>some v
  | false=>lk l n
def lkO:List (Nat×List AV)→Nat→Option (List AV)
 | [],_=>none
 | (i,v)::l,n=>match Nat.beq i n with
  | true=>some v
  | false=>lkO l n
def evL (s:List (Nat×AV)):X→Option AV
 | .t n=>lk s n
 | .c v=>some v
def rJ (xs:List AV) (off:Nat):Nat→Option (List AV)
 | 0=>some []
 | m+1=>match xs[off]? with
  | some v=>match rJ xs (off+1) m with
   | some r=>some (v::r)
   | none=>none
  | none=>none
def rdS (xs:List AV) (off sz:Nat):Bool→Option AV
 | true=>match rJ xs off sz with
  | some r=>some (.agg r)
  | none=>none
 | false=>match xs[off]? with
  | some v=>match v.leaf with
   | true=>some v
   | false=>none
  | none=>none
def kK:List AV→Nat→AV→Option (List AV)
 | [],_,_=>none
 | _::l,0,v=>some (v::l)
 | x::l,n+1,v=>match kK l n v with
  | some r=>some (x::r)
  | none=>none
def j3:List AV→Nat→List AV→Option (List AV)
 | z,_,[]=>some z
 | z,off,c::cs=>match kK z off c with
  | some z'=>j3 z' (off+1) cs
  | none=>none
def lT (z:List AV) (off sz:Nat):AV→Option (List AV)
 | .agg cs=>match Nat.beq cs.length sz with
  | true=>j3 z off cs
  | false=>none
 | .tup _ | .junk=>none
 | v=>match Nat.beq sz 1 with
  | true=>kK z off v
  | false=>none
theorem cA {T:Nat→AV}:∀ {s:List (Nat×AV)}{n:Nat}{v:AV},lk s n=some v→af s T n=v:=by
 intro s
 induction s with
 | nil=>intro n v h;simp [lk] at h
 | cons p s ih=>
  obtain ⟨i,u⟩:=p
  intro n v h
  simp only [lk] at h
  simp only [af,upd]
  split at h
  ·rename_i hb
   simp only [Option.some.injEq] at h
   rw [if_pos (Nat.eq_of_beq_eq_true hb).symm];exact h
  ·rename_i hb
   rw [if_neg (fun h=>Nat.ne_of_beq_eq_false hb h.symm)]
   exact ih h
theorem av {H:Hp}:∀ {s:List (Nat×List AV)}{n:Nat}{v:List AV},lkO s n=some v→ah s H n=v:=by
 intro s
 induction s with
 | nil=>intro n v h;simp [lkO] at h
 | cons p s ih=>
  obtain ⟨i,u⟩:=p
  intro n v h
  simp only [lkO] at h
  simp only [ah,upd]
  split at h
  ·rename_i hb
   simp only [Option.some.injEq] at h
   rw [if_pos (Nat.eq_of_beq_eq_true hb).symm];exact h
  ·rename_i hb
   rw [if_neg (fun h=>Nat.ne_of_beq_eq_false hb h.symm)]
   exact ih h
theorem aw {T:Nat→AV}{s:List (Nat×AV)}{x:X}{v:AV}(h:evL s x=some v):ev (af s T) x=v:=by
 cases x with
 | t n=>exact cA h
 | c w=>simp only [evL,Option.some.injEq] at h;exact h
theorem tG:∀ {m off:Nat}{xs r:List AV},rJ xs off m=some r→off+m≤xs.length∧(xs.drop off).take m=r∨m=0∧r=[]:=by
 intro m
 induction m with
 | zero=>intro off xs r h;simp only [rJ,Option.some.injEq] at h;exact .inr ⟨rfl,h.symm⟩
 | succ m ih=>
  intro off xs r h
  left
  simp only [rJ] at h
  split at h
  ·rename_i v hv
   split at h
   ·rename_i r' hr
    simp only [Option.some.injEq] at h;subst h
    obtain ⟨hlt,hv'⟩:=List.getElem?_eq_some_iff.1 hv
    have hd:xs.drop off=v::xs.drop (off+1):=by rw [← hv'];exact List.drop_eq_getElem_cons hlt
    rcases ih hr with ⟨h1,h2⟩ | ⟨h1,h2⟩
    ·exact ⟨by omega,by rw [hd,List.take_succ_cons,h2]⟩
    ·subst h1;subst h2
     exact ⟨by omega,by rw [hd];rfl⟩
   ·cases h
  ·cases h
theorem Fw {xs:List AV}{off sz:Nat}{ag:Bool}{v:AV}(h:rdS xs off sz ag=some v) (h0:ag=true→off≤xs.length):rd xs off sz ag=some v:=by
 cases ag with
 | true=>
  simp only [rdS] at h
  split at h
  ·rename_i r hr
   simp only [Option.some.injEq] at h;subst h
   simp only [rd,if_true]
   rcases tG hr with ⟨h1,h2⟩ | ⟨rfl,rfl⟩
   ·rw [if_pos h1,h2]
   ·rw [if_pos (by have:=h0 rfl;omega)];simp
  ·cases h
 | false=>
  simp only [rdS] at h
  simp only [rd,Bool.false_eq_true,if_false]
  split at h
  ·rename_i u hu
   rw [hu]
   split at h
   ·rename_i hl
    simp only [Option.some.injEq] at h;subst h
    simp only [hl,if_true]
   ·cases h
  ·cases h
theorem mw {xs:List AV}{off sz:Nat}{ag:Bool}{v:AV}(h:rdS xs off sz ag=some v) (h0:ag=true→sz≠0):rd xs off sz ag=some v:=by
 refine Fw h fun ht=>?_
 subst ht
 simp only [rdS] at h
 split at h
 ·rename_i r hr
  rcases tG hr with ⟨h1,_⟩ | ⟨rfl,_⟩
  ·omega
  ·exact absurd rfl (h0 rfl)
 ·cases h
theorem qw {ag:Bool}{sz:Nat}(hz:(ag&&Nat.beq sz 0)=false) (h:ag=true):sz≠0:=by
 subst h
 rintro rfl
 cases hz
theorem pb {b:Bool}(h:(!b)=true):b=false:=by cases b<;>simp at h ⊢
theorem tH:∀ {z:List AV}{off:Nat}{v:AV}{r:List AV},kK z off v=some r→off<z.length∧z.set off v=r:=by
 intro z
 induction z with
 | nil=>intro off v r h;simp [kK] at h
 | cons x z ih=>
  intro off v r h
  cases off with
  | zero=>simp only [kK,Option.some.injEq] at h;exact ⟨by simp,by simpa using h⟩
  | succ off=>
   simp only [kK] at h
   split at h
   ·rename_i r' hr
    simp only [Option.some.injEq] at h;subst h
    obtain ⟨h1,h2⟩:=ih hr
    exact ⟨by simp;omega,by simp [h2]⟩
   ·cases h
theorem s6 {z:List AV}{off:Nat}{c:AV}{cs:List AV}(h:off<z.length):cd (z.set off c) (off+1) cs=cd z off (c::cs):=by
 unfold cd
 rw [List.take_set,List.drop_set]
 have h1:¬ (off+1+cs.length<off):=by omega
 have h2:off<off+1+cs.length:=by omega
 rw [if_pos h2]
 have h3:(z.take (off+1)).set off c=z.take off++[c]:=by
  rw [List.take_succ_eq_append_getElem h,List.set_append_right _ _ (by simp;omega)]
  simp [Nat.min_eq_left (Nat.le_of_lt h)]
 rw [h3]
 simp [show off+1+cs.length=off+(cs.length+1) by omega]
theorem vy (z:List AV) (off:Nat):cd z off []=z:=by simp [cd]
theorem vz:∀ {cs:List AV}{z:List AV}{off:Nat}{r:List AV},j3 z off cs=some r→(off+cs.length≤z.length∨cs=[])∧cd z off cs=r:=by
 intro cs
 induction cs with
 | nil=>intro z off r h;simp only [j3,Option.some.injEq] at h;exact ⟨.inr rfl,by rw [vy];exact h⟩
 | cons c cs ih=>
  intro z off r h
  simp only [j3] at h
  split at h
  ·rename_i z' hz
   obtain ⟨h1,rfl⟩:=tH hz
   obtain ⟨h2,h3⟩:=ih h
   rw [s6 h1] at h3
   refine ⟨.inl ?_,h3⟩
   rcases h2 with h2 | rfl
   ·simp at h2 ⊢;omega
   ·simp;omega
  ·cases h
theorem tI {z:List AV}{off sz:Nat}{v:AV}{r:List AV}(h:lT z off sz v=some r) (h0:0<sz):∃ cs,stored v=some cs∧cs.length=sz∧off+sz≤z.length∧lu z off v=r:=by
 cases v
 case agg cs=>
  simp only [lT] at h
  split at h
  ·rename_i hb
   have hl:=Nat.eq_of_beq_eq_true hb
   obtain ⟨h1,h2⟩:=vz h
   refine ⟨cs,rfl,hl,?_,h2⟩
   rcases h1 with h1 | rfl
   ·omega
   ·simp at hl;omega
  ·cases h
 case tup=>simp [lT] at h
 case junk=>simp [lT] at h
 all_goals
  simp only [lT] at h
  split at h
  ·rename_i hb
   have hl:=Nat.eq_of_beq_eq_true hb
   obtain ⟨h1,h2⟩:=tH h
   exact ⟨_,rfl,by simp [hl],by omega,h2⟩
  ·cases h
section
variable {F:aE}{l:List aa}{s:List (Nat×AV)}{os:List (Nat×List AV)}{T:Nat→AV}{H:Hp}{E:Nat→Option TypeId}{n c:Nat}{lv:Nat→Bool}{Q:St→Prop}{d:Nat}{v a b:AV}{x y:X}
theorem AP (hx:evL s x=some v) (k:WpO F l ⟨af ((d,v)::s) T,ah os H,E,n,lv,c⟩ Q):WpO F (⟨some d,.mov x,none⟩::l) ⟨af s T,ah os H,E,n,lv,c⟩ Q:=
 bw rfl (by simp only [au,aw hx]) k
theorem AQ {t:TypeId}{cs:List AV}(hx:evL s x=some a) (hs:stored a=some cs) (k:∀ E,WpO F l ⟨af ((d,.ref n 0)::s) T,ah ((n,cs)::os) H,E,n+1,lv,c⟩ Q):WpO F (⟨some d,.box t x,none⟩::l) ⟨af s T,ah os H,E,n,lv,c⟩ Q:=
 vq (v:=.ref n 0) (cs:=cs) (t:=some t) rfl (by simp only [au,aw hx,hs]) (k _)
theorem AR {t:TypeId}{cs:List AV}(k:∀ E,WpO F l ⟨af ((d,.ref n 0)::s) T,ah ((n,cs)::os) H,E,n+1,lv,c⟩ Q):WpO F (⟨some d,.new t cs,none⟩::l) ⟨af s T,ah os H,E,n,lv,c⟩ Q:=
 vq (v:=.ref n 0) (cs:=cs) (t:=some t) rfl rfl (k _)
theorem xy {id off sz:Nat}{ag:Bool}{cs:List AV}(hx:evL s x=some (.ref id off)) (ho:lkO os id=some cs) (hr:rdS cs off sz ag=some v) (hz:(ag&&Nat.beq sz 0)=false) (k:WpO F l ⟨af ((d,v)::s) T,ah os H,E,n,lv,c⟩ Q) :
 WpO F (⟨some d,.load sz ag x,none⟩::l) ⟨af s T,ah os H,E,n,lv,c⟩ Q:=
 bw rfl (by simp only [au,aw hx,av ho,mw hr (qw hz)]) k
theorem pQ {off sz:Nat}{ag:Bool}{cs:List AV}(hx:evL s x=some (.pp cs off)) (hr:rd cs off sz ag=some v) (k:WpO F l ⟨af ((d,v)::s) T,ah os H,E,n,lv,c⟩ Q) :
 WpO F (⟨some d,.load sz ag x,none⟩::l) ⟨af s T,ah os H,E,n,lv,c⟩ Q:=
 bw rfl (by simp only [au,aw hx,hr]) k
theorem pR {off sz:Nat}{ag:Bool}{cs:List AV}(hx:evL s x=some (.cp cs off)) (hr:rdS cs off sz ag=some v) (hz:(ag&&Nat.beq sz 0)=false) (k:WpO F l ⟨af ((d,v)::s) T,ah os H,E,n,lv,c⟩ Q) :
 WpO F (⟨some d,.load sz ag x,none⟩::l) ⟨af s T,ah os H,E,n,lv,c⟩ Q:=
 bw rfl (by simp only [au,aw hx,mw hr (qw hz)]) k
theorem tJ {id off sz:Nat}{cs cs':List AV}{d:Option Nat}(hx:evL s x=some (.ref id off)) (hy:evL s y=some v) (ho:lkO os id=some cs) (hp:lT cs off sz v=some cs') (hz:Nat.blt 0 sz=true) (hd:d=none)
 (k:WpO F l ⟨af s T,ah ((id,cs')::os) H,E,n,lv,c⟩ Q):WpO F (⟨d,.store sz x y,none⟩::l) ⟨af s T,ah os H,E,n,lv,c⟩ Q:=by
 subst hd
 obtain ⟨ds,h1,h2,h3,h4⟩:=tI hp (by simpa using hz)
 refine vr (id:=id) (cs:=cs') (v:=.tup []) rfl ?_ k
 simp only [au,aw hx,aw hy,h1,av ho]
 rw [if_pos ⟨h2,h3⟩,h4]
theorem eG {op:BinOp}(hx:evL s x=some a) (hy:evL s y=some b) (hb:aj op a b=some v) (k:WpO F l ⟨af ((d,v)::s) T,ah os H,E,n,lv,c⟩ Q):WpO F (⟨some d,.bin op x y,none⟩::l) ⟨af s T,ah os H,E,n,lv,c⟩ Q:=
 bw rfl (by simp only [au,aw hx,aw hy,hb]) k
theorem Fx {op:UnOp}(hx:evL s x=some a) (hb:uJ op a=some v) (k:WpO F l ⟨af ((d,v)::s) T,ah os H,E,n,lv,c⟩ Q):WpO F (⟨some d,.un op x,none⟩::l) ⟨af s T,ah os H,E,n,lv,c⟩ Q:=
 bw rfl (by simp only [au,aw hx,hb]) k
theorem xA {k0 k1:IntKind}{i:Int}(hx:evL s x=some (.int k0 i)) (k:WpO F l ⟨af ((d,.int k1 (k1.wrap i))::s) T,ah os H,E,n,lv,c⟩ Q):WpO F (⟨some d,.conv k1 x,none⟩::l) ⟨af s T,ah os H,E,n,lv,c⟩ Q:=
 bw rfl (by simp only [au,aw hx]) k
theorem xB {id o off:Nat}(hx:evL s x=some (.ref id o)) (k:WpO F l ⟨af ((d,.ref id (o+off))::s) T,ah os H,E,n,lv,c⟩ Q):WpO F (⟨some d,.fadd off x,none⟩::l) ⟨af s T,ah os H,E,n,lv,c⟩ Q:=
 bw rfl (by simp only [au,aw hx]) k
theorem pS {o off:Nat}{cs:List AV}(hx:evL s x=some (.pp cs o)) (k:WpO F l ⟨af ((d,.pp cs (o+off))::s) T,ah os H,E,n,lv,c⟩ Q):WpO F (⟨some d,.fadd off x,none⟩::l) ⟨af s T,ah os H,E,n,lv,c⟩ Q:=
 bw rfl (by simp only [au,aw hx]) k
theorem AS {off sz:Nat}{ag:Bool}{cs:List AV}(hx:evL s x=some (.agg cs)) (hr:rdS cs off sz ag=some v) (hz:(ag&&Nat.beq sz 0)=false) (k:WpO F l ⟨af ((d,v)::s) T,ah os H,E,n,lv,c⟩ Q):WpO F (⟨some d,.fld off sz ag x,none⟩::l) ⟨af s T,ah os H,E,n,lv,c⟩ Q:=
 bw rfl (by simp only [au,aw hx,mw hr (qw hz)]) k
theorem AT {i:Nat}{vs:List AV}(hx:evL s x=some (.tup vs)) (hr:vs[i]? = some v) (k:WpO F l ⟨af ((d,v)::s) T,ah os H,E,n,lv,c⟩ Q):WpO F (⟨some d,.ext x i,none⟩::l) ⟨af s T,ah os H,E,n,lv,c⟩ Q:=
 bw rfl (by simp only [au,aw hx,hr]) k
theorem AU {br s0 sz:Nat}{xs:List AV}(hx:evL s x=some (.sl br s0 xs)) (hs:s0=sz∨xs=[]) (k:WpO F l ⟨af ((d,.int .i64 ((xs.length/sz:Nat):Int))::s) T,ah os H,E,n,lv,c⟩ Q):WpO F (⟨some d,.len sz x,none⟩::l) ⟨af s T,ah os H,E,n,lv,c⟩ Q:=
 bw rfl (by simp only [au,aw hx];rw [if_pos hs]) k
theorem pT {id off len s0 sz:Nat}(hx:evL s x=some (.osl id off len s0)) (k:WpO F l ⟨af ((d,.int .i64 (len:Int))::s) T,ah os H,E,n,lv,c⟩ Q):WpO F (⟨some d,.len sz x,none⟩::l) ⟨af s T,ah os H,E,n,lv,c⟩ Q:=
 bw rfl (by simp only [au,aw hx]) k
theorem xC {cs:List UInt8}(hx:evL s x=some (.str cs)) (k:WpO F l ⟨af ((d,.int .i64 (cs.length:Int))::s) T,ah os H,E,n,lv,c⟩ Q):WpO F (⟨some d,.lenS x,none⟩::l) ⟨af s T,ah os H,E,n,lv,c⟩ Q:=
 bw rfl (by simp only [au,aw hx]) k
theorem xD {j:Int}{m:Nat}(h0:0≤j) (h1:j<m):inB j m=some j.toNat:=by unfold inB;rw [if_pos ⟨h0,h1⟩]
theorem AW {m sz id o j:Nat}{kk:IntKind}{i:Int}(hx:evL s x=some (.ref id o)) (hy:evL s y=some (.int kk i)) (hj:inB i m=some j) (k:WpO F l ⟨af ((d,.ref id (o+j*sz))::s) T,ah os H,E,n,lv,c⟩ Q):WpO F (⟨some d,.iaA m sz x y,none⟩::l) ⟨af s T,ah os H,E,n,lv,c⟩ Q:=
 bw rfl (by simp only [au,aw hx,aw hy,asI,hj]) k
theorem rK {m sz o j:Nat}{cs:List AV}{kk:IntKind}{i:Int}(hx:evL s x=some (.pp cs o)) (hy:evL s y=some (.int kk i)) (hj:inB i m=some j) (k:WpO F l ⟨af ((d,.pp cs (o+j*sz))::s) T,ah os H,E,n,lv,c⟩ Q):WpO F (⟨some d,.iaA m sz x y,none⟩::l) ⟨af s T,ah os H,E,n,lv,c⟩ Q:=
 bw rfl (by simp only [au,aw hx,aw hy,asI,hj]) k
theorem pU {o off:Nat}{cs:List AV}(hx:evL s x=some (.cp cs o)) (k:WpO F l ⟨af ((d,.cp cs (o+off))::s) T,ah os H,E,n,lv,c⟩ Q):WpO F (⟨some d,.fadd off x,none⟩::l) ⟨af s T,ah os H,E,n,lv,c⟩ Q:=
 bw rfl (by simp only [au,aw hx]) k
theorem pV {o:Nat}{cs:List AV}(hx:evL s x=some (.cp cs o)) (k:WpO F l ⟨af ((d,.cp cs o)::s) T,ah os H,E,n,lv,c⟩ Q):WpO F (⟨some d,.nchk x,none⟩::l) ⟨af s T,ah os H,E,n,lv,c⟩ Q:=
 bw rfl (by simp only [au,aw hx]) k
theorem AX {br s0 sz m:Nat}{xs:List AV}(hx:evL s x=some (.sl br s0 xs)) (hc:s0=sz∧0<m∧0<sz∧m*sz≤xs.length) (k:WpO F l ⟨af ((d,.pp xs 0)::s) T,ah os H,E,n,lv,c⟩ Q):WpO F (⟨some d,.s2a m sz x,none⟩::l) ⟨af s T,ah os H,E,n,lv,c⟩ Q:=
 bw rfl (by simp only [au,aw hx,if_pos hc]) k
theorem pW {id off len s0 sz m:Nat}(hx:evL s x=some (.osl id off len s0)) (hc:s0=sz∧0<m∧m≤len) (k:WpO F l ⟨af ((d,.ref id off)::s) T,ah os H,E,n,lv,c⟩ Q):WpO F (⟨some d,.s2a m sz x,none⟩::l) ⟨af s T,ah os H,E,n,lv,c⟩ Q:=
 bw rfl (by simp only [au,aw hx,if_pos hc]) k
theorem AY {br s0 sz j:Nat}{xs:List AV}{kk:IntKind}{i:Int}(hx:evL s x=some (.sl br s0 xs)) (hy:evL s y=some (.int kk i)) (hs:s0=sz∨xs=[]) (hj:inB i (xs.length/sz)=some j) (k:WpO F l ⟨af ((d,.pp xs (j*sz))::s) T,ah os H,E,n,lv,c⟩ Q):WpO F (⟨some d,.iaS sz x y,none⟩::l) ⟨af s T,ah os H,E,n,lv,c⟩ Q:=
 bw rfl (by simp only [au,aw hx,aw hy,asI];rw [if_pos hs,hj]) k
theorem pX {id off len sz j:Nat}{kk:IntKind}{i:Int}(hx:evL s x=some (.osl id off len sz)) (hy:evL s y=some (.int kk i)) (hj:inB i len=some j) (k:WpO F l ⟨af ((d,.ref id (off+j*sz))::s) T,ah os H,E,n,lv,c⟩ Q):WpO F (⟨some d,.iaS sz x y,none⟩::l) ⟨af s T,ah os H,E,n,lv,c⟩ Q:=
 bw rfl (by simp only [au,aw hx,aw hy,asI,if_true,hj]) k
theorem vA {l0:List UInt8}{u:UInt8}{kk:IntKind}{i:Int}(hx:evL s x=some (.str l0)) (hy:evL s y=some (.int kk i)) (h0:0≤i) (hj:l0[i.toNat]? = some u) (k:WpO F l ⟨af ((d,ofB u)::s) T,ah os H,E,n,lv,c⟩ Q):WpO F (⟨some d,.ixS x y,none⟩::l) ⟨af s T,ah os H,E,n,lv,c⟩ Q:=
 bw rfl (by simp only [au,aw hx,aw hy,asI];rw [if_pos h0,hj]) k
def j4:AV→Option AV
 | .sl br sz xs=>match Nat.beq br 1 with
  | true=>some (.sl 1 sz xs)
  | false=>some (csl sz xs)
 | v=>some v
def j5:List AV→Option (List AV)
 | []=>some []
 | v::l=>match j4 v with
  | some u=>match j5 l with
   | some r=>some (u::r)
   | none=>none
  | none=>none
def iz:AV→Option AV
 | .agg cs=>match j5 cs with
  | some r=>some (.agg r)
  | none=>none
 | v=>j4 v
theorem pY {v u:AV}(h:j4 v=some u):aF v=u:=by
 cases v
 case sl br sz xs=>
  simp only [j4] at h
  simp only [aF]
  split at h
  ·rename_i hb
   simp only [Option.some.injEq] at h
   rw [if_pos (Nat.eq_of_beq_eq_true hb)];exact h
  ·rename_i hb
   simp only [Option.some.injEq] at h
   rw [if_neg (Nat.ne_of_beq_eq_false hb)];exact h
 all_goals (simp only [j4,Option.some.injEq] at h;exact h)
theorem vB:∀ {l r:List AV},j5 l=some r→l.map aF=r:=by
 intro l
 induction l with
 | nil=>intro r h;simp only [j5,Option.some.injEq] at h;subst h;rfl
 | cons v l ih=>
  intro r h
  simp only [j5] at h
  split at h
  ·rename_i u hu
   split at h
   ·rename_i r' hr
    simp only [Option.some.injEq] at h;subst h
    simp only [List.map_cons,pY hu,ih hr]
   ·cases h
  ·cases h
theorem lU {v u:AV}(h:iz v=some u):v.share=u:=by
 cases v
 case agg cs=>
  simp only [iz] at h
  split at h
  ·rename_i r hr
   simp only [Option.some.injEq] at h;subst h
   simp only [AV.share,vB hr]
  ·cases h
 all_goals (simp only [iz] at h;exact pY h)
def shS:Bool→AV→Option AV
 | true,v=>iz v
 | false,v=>some v
theorem Fy {b:Bool}{v u:AV}(h:shS b v=some u):(if b=true then v.share else v)=u:=by
 cases b
 ·simp only [shS,Option.some.injEq] at h;simp [h]
 ·rw [if_pos rfl];exact lU h
def j6 (s:List (Nat×AV)) (sh:Bool) (z:List AV):List (Nat×Nat×X)→Option (List AV)
 | []=>some z
 | (off,sz,x)::ps=>match evL s x with
  | some v=>match shS sh v with
   | some u=>match lT z off sz u with
    | some z'=>j6 s sh z' ps
    | none=>none
   | none=>none
  | none=>none
theorem mY {sh:Bool}:∀ {ps:List (Nat×Nat×X)}{z r:List AV},j6 s sh z ps=some r→(ps.all fun p=>Nat.blt 0 p.2.1)=true→fill (af s T) sh z ps=some r:=by
 intro ps
 induction ps with
 | nil=>intro z r h _;simpa [j6,fill] using h
 | cons p ps ih=>
  obtain ⟨off,sz,x⟩:=p
  intro z r h hz
  simp only [List.all_cons,Bool.and_eq_true] at hz
  simp only [j6] at h
  split at h
  ·rename_i u hu
   split at h
   ·rename_i w hw
    split at h
    ·rename_i z' hp
     obtain ⟨cs,h1,h2,h3,h4⟩:=tI hp (by simpa using hz.1)
     simp only [fill,aw hu,Fy hw,h1]
     rw [if_pos ⟨h2,h3⟩,h4]
     exact ih h hz.2
    ·cases h
   ·cases h
  ·cases h
theorem tK {z r:List AV}{ps:List (Nat×Nat×X)}(hb:j6 s false z ps=some r) (hz:(ps.all fun p=>Nat.blt 0 p.2.1)=true) (k:WpO F l ⟨af ((d,.agg r)::s) T,ah os H,E,n,lv,c⟩ Q):WpO F (⟨some d,.build z ps,none⟩::l) ⟨af s T,ah os H,E,n,lv,c⟩ Q:=
 bw rfl (by simp only [au,mY hb hz]) k
theorem AZ {z r:List AV}{sz:Nat}{ps:List (Nat×Nat×X)}(hb:j6 s true z ps=some r) (hz:(ps.all fun p=>Nat.blt 0 p.2.1)=true) (hf:bK r=true) (h0:Nat.blt 0 sz=true) (hm:Nat.beq (r.length%sz) 0=true) (k:WpO F l ⟨af ((d,.sl 3 sz r)::s) T,ah os H,E,n,lv,c⟩ Q) :
 WpO F (⟨some d,.bsl false sz z ps,none⟩::l) ⟨af s T,ah os H,E,n,lv,c⟩ Q:=
 bw rfl (by
  have h1:0<sz:=by simpa using h0
  have h2:=Nat.eq_of_beq_eq_true hm
  simp only [au,mY hb hz,hf,h2,h1,decide_true,Bool.and_self,if_true,Bool.false_eq_true,if_false]) k
def iW (s:List (Nat×AV)):List X→Option (List AV)
 | []=>some []
 | x::xs=>match evL s x with
  | some v=>match iz v with
   | some u=>match iW s xs with
    | some r=>some (u::r)
    | none=>none
   | none=>none
  | none=>none
theorem nx:∀ {xs:List X}{r:List AV},iW s xs=some r→(xs.map fun x=>(ev (af s T) x).share)=r:=by
 intro xs
 induction xs with
 | nil=>intro r h;simp only [iW,Option.some.injEq] at h;simp [h]
 | cons x xs ih=>
  intro r h
  simp only [iW] at h
  split at h
  ·rename_i u hu
   split at h
   ·rename_i w hw
    split at h
    ·rename_i r' hr
     simp only [Option.some.injEq] at h;subst h
     simp only [List.map_cons,aw hu,lU hw,ih hr]
    ·cases h
   ·cases h
  ·cases h
theorem xE {b:AV}{cs:List AV}(hx:evL s x=some a) (hs:iz a=some b) (hb:stored b=some cs) (hf:bK cs=true) (k:WpO F l ⟨af ((d,.pp cs 0)::s) T,ah os H,E,n,lv,c⟩ Q):WpO F (⟨some d,.boxp x,none⟩::l) ⟨af s T,ah os H,E,n,lv,c⟩ Q:=
 bw rfl (by simp only [au,aw hx,lU hs,hb,hf,if_true]) k
theorem oe {f:FuncId}{xs:List X}{args:List AV}{R:AV}(ha:iW s xs=some args) (hf:bK args=true) (hc:ad F f args R) (k:WpO F l ⟨af ((d,R)::s) T,ah os H,E,n,lv,c⟩ Q):WpO F (⟨some d,.callp 0 f xs,none⟩::l) ⟨af s T,ah os H,E,n,lv,c⟩ Q:=
 Ft (nx ha) hf hc.eq k
theorem mZ {u w t:Bool}{z:X}(hx:evL s x=some (.bool t)) (hy:evL s y=some (.bool u)) (hz:evL s z=some (.bool w)) (k:WpO F l ⟨af ((d,.bool (bif t then u else w))::s) T,ah os H,E,n,lv,c⟩ Q):WpO F (⟨some d,.pick x y z,none⟩::l) ⟨af s T,ah os H,E,n,lv,c⟩ Q:=
 bw rfl (by cases t<;>simp only [au,aw hx,aw hy,aw hz,cond_true,cond_false]) k
theorem m6 {z:X}(hx:evL s x=some (.bool true)) (hy:evL s y=some v) (k:WpO F l ⟨af ((d,v)::s) T,ah os H,E,n,lv,c⟩ Q):WpO F (⟨some d,.pick x y z,none⟩::l) ⟨af s T,ah os H,E,n,lv,c⟩ Q:=
 bw rfl (by simp only [au,aw hx,aw hy]) k
theorem lV {z:X}(hx:evL s x=some (.bool false)) (hy:evL s z=some v) (k:WpO F l ⟨af ((d,v)::s) T,ah os H,E,n,lv,c⟩ Q):WpO F (⟨some d,.pick x y z,none⟩::l) ⟨af s T,ah os H,E,n,lv,c⟩ Q:=
 bw rfl (by simp only [au,aw hx,aw hy]) k
theorem zJ {neg:Bool}{kd:Nat}{r:Bool}(hx:evL s x=some a) (hy:evL s y=some b) (hr:eqK kd a b=some r) (k:WpO F l ⟨af ((d,.bool (if neg then !r else r))::s) T,ah os H,E,n,lv,c⟩ Q):WpO F (⟨some d,.eq neg kd x y,none⟩::l) ⟨af s T,ah os H,E,n,lv,c⟩ Q:=
 bw rfl (by simp only [au,aw hx,aw hy,hr]) k
theorem iX {neg:Bool}{ks:List Nat}{r:Bool}{xs ys:List AV}(hx:evL s x=some (.agg xs)) (hy:evL s y=some (.agg ys)) (hr:cE ks xs ys=some r) (k:WpO F l ⟨af ((d,.bool (if neg then !r else r))::s) T,ah os H,E,n,lv,c⟩ Q):WpO F (⟨some d,.eqA neg ks x y,none⟩::l) ⟨af s T,ah os H,E,n,lv,c⟩ Q:=
 bw rfl (by simp only [au,aw hx,aw hy,hr]) k
variable {op:IOp}{dd:Option Nat}
theorem m7 {t:Nat}{w:Bool}(hg:lk s t=some (.bool w)) (k:WpO F (⟨dd,op,none⟩::l) ⟨af s T,ah os H,E,n,lv,c⟩ Q):WpO F (⟨dd,op,some (t,w)⟩::l) ⟨af s T,ah os H,E,n,lv,c⟩ Q:=mX (cA hg) k
theorem og {t:Nat}{w b:Bool}(hg:lk s t=some (.bool b)) (hb:(b==w)=false) (k:WpO F l ⟨af ((d,.tup [])::s) T,ah os H,E,n,lv,c⟩ Q):WpO F (⟨some d,op,some (t,w)⟩::l) ⟨af s T,ah os H,E,n,lv,c⟩ Q:=vt (cA hg) hb k
theorem lW {t:Nat}{w:Bool}(hg:lk s t=some (.tup [])) (k:WpO F l ⟨af ((d,.tup [])::s) T,ah os H,E,n,lv,c⟩ Q):WpO F (⟨some d,op,some (t,w)⟩::l) ⟨af s T,ah os H,E,n,lv,c⟩ Q:=rD (cA hg) k
theorem B0 {t:Nat}{w b:Bool}(hg:lk s t=some (.bool b)) (h1:b=w→WpO F (⟨dd,op,none⟩::l) ⟨af ((t,.bool w)::s) T,ah os H,E,n,lv,c⟩ Q) (h2:b = !w→WpO F (⟨dd,op,some (t,w)⟩::l) ⟨af ((t,.bool (!w))::s) T,ah os H,E,n,lv,c⟩ Q) :
 WpO F (⟨dd,op,some (t,w)⟩::l) ⟨af s T,ah os H,E,n,lv,c⟩ Q:=by
 have hs:∀ u,b=u→af ((t,.bool u)::s) T=af s T:=fun u hu=>lP _ _ _ (by rw [cA hg,hu])
 by_cases hb:b=w
 ·have:=h1 hb
  rw [hs w hb] at this
  exact mX (by rw [cA hg,hb]) this
 ·have hb':b = !w:=by cases b<;>cases w<;>simp_all
  have:=h2 hb'
  rwa [hs _ hb'] at this
end
section
variable {F:aE}{k:Nat}{s:List (Nat×AV)}{os:List (Nat×List AV)}{T:Nat→AV}{H:Hp}{E:Nat→Option TypeId}{n c:Nat}{lv:Nat→Bool}{K:Ex→St→Prop}{a b:IC}{x:X}
theorem Fz {t:Bool}(hx:evL s x=some (.bool t)) (h1:t=true→Wp F k a ⟨af s T,ah os H,E,n,lv,c⟩ K) (h2:t=false→Wp F k b ⟨af s T,ah os H,E,n,lv,c⟩ K):Wp F k (.cond x a b) ⟨af s T,ah os H,E,n,lv,c⟩ K:=rF (aw hx) h1 h2
theorem m8 (hx:evL s x=some (.bool true)) (h:Wp F k a ⟨af s T,ah os H,E,n,lv,c⟩ K):Wp F k (.cond x a b) ⟨af s T,ah os H,E,n,lv,c⟩ K:=s5 (aw hx) h
theorem lX (hx:evL s x=some (.bool false)) (h:Wp F k b ⟨af s T,ah os H,E,n,lv,c⟩ K):Wp F k (.cond x a b) ⟨af s T,ah os H,E,n,lv,c⟩ K:=rG (aw hx) h
def jP (s:List (Nat×AV)) (os:List (Nat×List AV)):List lq→Option (List AV)
 | []=>some []
 | .t n::rs=>match lk s n with
  | some v=>match jP s os rs with
   | some r=>some (v::r)
   | none=>none
  | none=>none
 | .cell n sz ag::rs=>match lk s n with
  | some (.ref id off)=>match lkO os id with
   | some cs=>match rdS cs off sz ag with
    | some v=>match jP s os rs with
     | some r=>some (v::r)
     | none=>none
    | none=>none
   | none=>none
  | _=>none
theorem tN:∀ {rs:List lq}{r:List AV},jP s os rs=some r→(rs.all fun | .cell _ sz ag=>!(ag&&Nat.beq sz 0) | _=>true)=true→ga (af s T) (ah os H) rs=some r:=by
 intro rs
 induction rs with
 | nil=>intro r h _;simpa [jP,ga] using h
 | cons q rs ih=>
  intro r h hz
  simp only [List.all_cons,Bool.and_eq_true] at hz
  cases q with
  | t n=>
   simp only [jP] at h
   split at h
   ·rename_i v hv
    split at h
    ·rename_i r' hr
     simp only [Option.some.injEq] at h;subst h
     simp only [ga,ih hr hz.2,cA hv]
    ·cases h
   ·cases h
  | cell n sz ag=>
   simp only [jP] at h
   split at h
   ·rename_i id off hv
    split at h
    ·rename_i cs hcs
     split at h
     ·rename_i v hrd
      split at h
      ·rename_i r' hr
       simp only [Option.some.injEq] at h;subst h
       simp only [ga,cA hv,av hcs,ih hr hz.2]
       rw [mw hrd (qw (pb hz.1))]
      ·cases h
     ·cases h
    ·cases h
   ·cases h
theorem ae {fn:IFn}{R:AV}{e:Ex}{us:List AV}(he:e = .norm∨e = .ret) (h1:jP s os fn.res=some us) (hz:(fn.res.all fun | .cell _ sz ag=>!(ag&&Nat.beq sz 0) | _=>true)=true) (h2:(leaves (eW us)).all (fk (ah os H) 0)=true) (h3:(aA (bM (ah os H) 0) (eW us)).under 0=true)
 (h4:aA aF (aA (bM (ah os H) 0) (eW us))=R) (h5:R.flat=true):Ret fn R e ⟨af s T,ah os H,E,n,lv,c⟩:=⟨he,us,tN h1 hz,h2,h3,h4,h5⟩
def cL:Nat→List AV→List (Nat×AV)
 | _,[]=>[]
 | i,v::vs=>(i,v)::cL (i+1) vs
theorem jn (vs:List AV):∀ (i t:Nat),af (cL i vs) (fun t=>.tup []) t=if t<i then .tup [] else vs.getD (t-i) (.tup []):=by
 induction vs with
 | nil=>intro i t;simp [cL,af]
 | cons v vs ih=>
  intro i t
  simp only [cL,af,upd,ih (i+1)]
  by_cases h1:t=i
  ·subst h1;simp
  ·rw [if_neg h1]
   by_cases h2:t<i
   ·rw [if_pos h2,if_pos (by omega)]
   ·rw [if_neg h2,if_neg (by omega),show t-i=(t-(i+1))+1 by omega]
    simp
theorem ak {FN:FuncId→Option cr}{f:FuncId}{fn:IFn}{vs:List AV}{R:AV}(hf:FN f=some (.code fn)) (h:∀ (T:Nat→AV) (H:Hp) (E:Nat→Option TypeId) (lv:Nat→Bool),Wp (ab FN k) k fn.body ⟨af (cL 0 vs) T,ah [] H,E,0,lv,4⟩ (Ret fn R)):ad (ab FN (k+1)) f vs R:=by
 refine ⟨zI hf ?_⟩
 have:=h (fun _=>.tup []) (fun _=>[]) (fun _=>none) (fun _=>false)
 have he:af (cL 0 vs) (fun _=>.tup [])=fun t=>vs.getD t (.tup []):=by
  funext t
  rw [jn];simp
 rw [he] at this
 exact this
end
theorem dD (sz:Nat) (xs:List AV):csz sz xs=sz∨xs=[]:=by cases xs<;>simp [csz]
end Go.Abs
/- More fuel, and more of a table, changes no answer. No condition. -/
namespace Go.Abs
def LeY (y y':fW):Prop:=∀ vs hs E r,y vs hs E=some r→y' vs hs E=some r
def jB (e e':Env):Prop:=∀ id y,e id=some y→∃ y',e' id=some y'∧LeY y y'
def FA (g g':Env→jV):Prop:=∀ e e',jB e e'→∀ f vs hs E r,g e f vs hs E=some r→g' e' f vs hs E=some r
structure LeF (F F':aE):Prop where
 env:jB F.env F'.env
 ff:FA F.ff F'.ff
theorem LeF.call {F F':aE}(h:LeF F F'):∀ f vs hs E r,F f vs hs E=some r→F' f vs hs E=some r:=h.ff _ _ h.env
theorem jB.refl (e:Env):jB e e:=fun _ y h=>⟨y,h,fun _ _ _ _ h=>h⟩
theorem jB.low {e e':Env}(h:jB e e') (n:Nat):jB (di n e) (di n e'):=fun id y hy=>by
 unfold di at hy ⊢
 split at hy
 ·rename_i hid
  rw [if_pos hid];exact h id y hy
 ·cases hy
theorem LeF.ext {F F':aE}(h:LeF F F') {i:Nat}{y y':fW}(hy:LeY y y'):LeF (F.ext i y) (F'.ext i y'):=⟨fun id z hz=>by
 simp only [aE.ext,upd] at hz ⊢
 split at hz
 ·rename_i hid
  cases hz
  rw [if_pos hid];exact ⟨y',rfl,hy⟩
 ·rename_i hid
  rw [if_neg hid];exact h.env id z hz,h.ff⟩
theorem xF {ea eb ea' eb':St→Option (Ex×St)}(ha:∀ S r,ea S=some r→ea' S=some r) (hb:∀ S r,eb S=some r→eb' S=some r) (T:Nat→AV) (ps:List Nat) (i:Nat):LeY (cP ea eb T ps i) (cP ea' eb' T ps i):=by
 rintro vs hs E ⟨r,hs'⟩ h
 obtain ⟨h0,hl,hi,S1,e,S2,h1,h2,h3,rfl,rfl⟩:=kF h
 have k1:=ha _ _ h1
 have k3:=hb _ _ h3
 unfold cP
 rw [h0]
 simp only [bh,hl,hi,and_self,if_true]
 rw [k1]
 simp only []
 rw [h2]
 simp only [bh]
 simp only [bh] at k3
 rw [k3]
section
variable {F F':aE}
theorem kL (h:LeF F F') {f:FuncId}{vs:List AV}{r:AV}(he:evP F f vs=some r):evP F' f vs=some r:=by
 unfold evP at he ⊢
 split at he
 ·rename_i r0 hs h1
  rw [h.call f vs h0 _ _ h1];exact he
 ·cases he
theorem qp (h:LeF F F') {T:Nat→AV}{H:Hp}{E:Nat→Option TypeId}{lv:Nat→Bool}{n c:Nat}{op:IOp}{s:de}(he:aR F T H E lv n c op=some s):aR F' T H E lv n c op=some s:=by
 cases op
 case callp m f args=>
  simp only [aR] at he ⊢
  split at he
  ·rename_i hfl
   rw [if_pos hfl]
   split at he
   ·rename_i r hr
    rw [kL h hr];exact he
   ·cases he
  ·cases he
 case calln f args=>
  simp only [aR] at he ⊢
  split at he
  ·rename_i hfl
   rw [if_pos hfl]
   split at he
   ·rename_i r hr
    rw [kL h hr];exact he
   ·cases he
  ·cases he
 case calli tb x args=>
  simp only [aR] at he ⊢
  split at he
  ·split at he
   ·split at he
    ·rename_i hfl
     rw [if_pos hfl]
     split at he
     ·rename_i r hr
      rw [kL h hr];exact he
     ·cases he
    ·cases he
   ·cases he
  ·cases he
 case calls f args=>
  simp only [aR] at he ⊢
  split at he
  ·rename_i v hs hr
   rw [h.call _ _ _ _ _ hr];exact he
  ·cases he
 case callv x args=>
  simp only [aR] at he ⊢
  split at he
  ·split at he
   ·rename_i v hs hr
    rw [h.call _ _ _ _ _ hr];exact he
   ·cases he
  ·split at he
   ·rename_i y hy
    obtain ⟨y',hy',hle⟩:=h.env _ y hy
    rw [hy']
    split at he
    ·rename_i v hs hr
     simp only [hle _ _ _ _ hr];exact he
    ·cases he
   ·cases he
  ·cases he
 all_goals (simp [aR] at he)
theorem vC (h:LeF F F') {T:Nat→AV}{H:Hp}{E:Nat→Option TypeId}{lv:Nat→Bool}{n c:Nat}{op:IOp}{s:de}(he:cJ F T H E lv n c op=some s):cJ F' T H E lv n c op=some s:=by
 unfold cJ at he ⊢
 split at he
 ·rename_i hc;rw [if_pos hc];exact qp h he
 ·rename_i hc;rw [if_neg hc];exact he
theorem s7 (h:LeF F F') {io:aa}{S S':St}(he:bA F io S=some S'):bA F' io S=some S':=by
 rw [lE] at he ⊢
 split at he
 ·cases he
 ·rename_i hw;exact he
 ·rename_i hw
  obtain ⟨s,hs,rfl⟩:=aC he
  simp only [vC h hs,Option.map_some]
theorem iY (h:LeF F F'):∀ {l:List aa}{S S':St},aS F l S=some S'→aS F' l S=some S':=by
 intro l
 induction l with
 | nil=>intro S S' he;exact he
 | cons io l ih=>
  intro S S' he
  rw [dG] at he ⊢
  obtain ⟨S1,h1,h2⟩:=Option.bind_eq_some_iff.1 he
  rw [s7 h h1]
  exact ih h2
theorem s8 (h:LeF F F') {k k':Nat}(hk:k≤k'):∀ (c:IC) {S:St}{r:Ex×St},ar F k c S=some r→ar F' k' c S=some r:=by
 intro c
 induction c with
 | skip=>intro S r he;exact he
 | ops d l=>
  intro S r he
  simp only [ar] at he ⊢
  split at he
  ·rename_i S1 h1
   rw [iY h h1];exact he
  ·cases he
 | opsX l ps=>
  intro S r he
  simp only [ar] at he ⊢
  split at he
  ·rename_i S1 h1
   rw [iY h h1];exact he
  ·cases he
 | opsC l ps cs=>
  intro S r he
  simp only [ar] at he ⊢
  split at he
  ·rename_i S1 h1
   rw [iY h h1]
   have hx:∀ j,Sx F' l S j=Sx F l S j:=fun j=>by
    unfold Sx
    obtain ⟨Sj,hj,_⟩:=nY h1 j
    rw [hj,iY h hj]
   have hs:iN F' l S S1.T=iN F l S S1.T:=by funext p;simp only [iN,hx]
   rw [← hs] at he
   exact he
  ·cases he
 | seq a b iha ihb=>
  intro S r he
  simp only [ar] at he ⊢
  split at he
  ·rename_i S1 h1
   rw [iha h1];exact ihb he
  ·rename_i h1
   cases hq:ar F k a S with
   | none=>rw [hq] at he;cases he
   | some q=>
    obtain ⟨e,S1⟩:=q
    rw [hq] at he
    simp only [Option.some.injEq] at he
    rw [iha hq]
    cases e with
    | norm=>exact absurd hq (h1 S1)
    | exit id=>subst he;rfl
    | ret=>subst he;rfl
 | cond x a b iha ihb=>
  intro S r he
  simp only [ar] at he ⊢
  split at he
  ·exact iha he
  ·exact ihb he
  ·cases he
 | block id a ih=>
  intro S r he
  simp only [ar] at he ⊢
  cases hq:ar F k a S with
  | none=>rw [hq] at he;cases he
  | some q=>
   rw [hq] at he
   rw [ih hq];exact he
 | loop a ih=>
  intro S r he
  simp only [ar] at he ⊢
  have key:∀ (n m m':Nat) (S:St),m≤m'→cg (ar F k a) n m S=some r→cg (ar F' k' a) n m' S=some r:=by
   intro n m
   induction m with
   | zero=>intro m' S _ hl;simp [cg] at hl
   | succ m ihm=>
    intro m' S hm hl
    obtain ⟨j,rfl⟩:∃ j,m'=j+1:=⟨m'-1,by omega⟩
    simp only [cg] at hl ⊢
    cases hq:ar F k a S with
    | none=>rw [hq] at hl;cases hl
    | some q=>
     rw [hq] at hl
     rw [ih hq]
     obtain ⟨e,S1⟩:=q
     cases e with
     | norm=>exact ihm j _ (by omega) hl
     | exit id=>exact hl
     | ret=>exact hl
  exact key S.n k k' S hk he
 | rangeF x ps a b iha ihb=>
  rintro S ⟨e,S'⟩ he
  obtain ⟨g,fs,cs,v0,hs1,st,h1,h2,h3,h4,rfl⟩:=iU he
  have k2:=(h.ext (xF (fun S r=>iha (S:=S) (r:=r)) (fun S r=>ihb (S:=S) (r:=r)) S.T ps S.n)).call _ _ _ _ _ h2
  simp only [ar,h1,aE.call] at k2 ⊢
  rw [show (F'.ext S.n (cP (ar F' k' a) (ar F' k' b) S.T ps S.n)).ff (F'.ext S.n (cP (ar F' k' a) (ar F' k' b) S.T ps S.n)).env g (fs++(.yl S.n::cs)) ⟨upd S.H S.n (bh 0),S.n+1,S.lv,S.c⟩ (upd S.E S.n none)=some (v0,hs1) from k2]
  simp only [h3,bh,h4]
 | exit id=>intro S r he;exact he
 | ret=>intro S r he;exact he
 | bad=>intro S r he;simp [ar] at he
theorem lY {FN FN':FuncId→Option cr}(h:∀ f d,FN f=some d→FN' f=some d):∀ (k k':Nat),k≤k'→FA (bG FN k) (bG FN' k'):=by
 intro k
 induction k with
 | zero=>intro k' _ e e' _ f vs hs E r he;rw [ru] at he;cases he
 | succ k ih=>
  intro k' hk env env' henv f vs hs E r he
  obtain ⟨j,rfl⟩:∃ j,k'=j+1:=⟨k'-1,by omega⟩
  cases hf:FN f with
  | none=>rw [lN hf] at he;cases he
  | some d=>
   have hf':=h f d hf
   cases d with
   | prim p=>rw [gB hf] at he;rw [gB hf'];exact he
   | code fn=>
    rw [fe hf] at he
    rw [fe hf']
    simp only [fc] at he ⊢
    cases hq:ar ⟨bG FN k,di hs.n env⟩ k fn.body (entry vs hs E) with
    | none=>rw [hq] at he;cases he
    | some q=>
     rw [hq] at he
     rw [s8 ⟨henv.low hs.n,ih j (by omega)⟩ (by omega) fn.body hq]
     exact he
theorem xG {FN FN':FuncId→Option cr}(h:∀ f d,FN f=some d→FN' f=some d) (k k':Nat) (hk:k≤k'):LeF (ab FN k) (ab FN' k'):=⟨jB.refl _,lY h k k' hk⟩
theorem jQ {FN FN':FuncId→Option cr}(h:∀ f d,FN f=some d→FN' f=some d) (k k':Nat) (hk:k≤k'):LeF (ab FN k) (ab FN' k'):=xG h k k' hk
theorem oh (h:LeF F F') {f:FuncId}{vs:List AV}{R:AV}(he:dS F f vs=some R):dS F' f vs=some R:=by
 unfold dS at he ⊢
 obtain ⟨r,h1,rfl⟩:=aC he
 rw [kL h h1];rfl
theorem ad.fuel {FN:FuncId→Option cr}{k k':Nat}{f:FuncId}{vs:List AV}{R:AV}(he:ad (ab FN k) f vs R) (hk:k≤k'):ad (ab FN k') f vs R:=
 ⟨oh (jQ (fun _ _ h=>h) k k' hk) he.eq⟩
end
end Go.Abs
/- Rules for slice expressions, appends, copies and shared calls; facts about single operations. No condition. -/
namespace Go.Abs
def asB (i:Int) (y:Nat):Option Nat:=if 0≤i∧i≤y then some i.toNat else none
theorem oi {i:Int}{y:Nat}(h0:0≤i) (h1:i≤y):asB i y=some i.toNat:=by unfold asB;rw [if_pos ⟨h0,h1⟩]
def bL (s:List (Nat×AV)) (x:Option X) (d y:Nat):Option Nat:=match x with
 | none=>some d
 | some x=>match evL s x with
  | some (.int _ i)=>asB i y
  | _=>none
section
variable {F:aE}{l:List aa}{s:List (Nat×AV)}{os:List (Nat×List AV)}{T:Nat→AV}{H:Hp}{E:Nat→Option TypeId}{n c:Nat}{lv:Nat→Bool}{Q:St→Prop}{d:Nat}{v a b:AV}{x y:X}{lo hi mx:Option X}
theorem rL {x:Option X}{d y r:Nat}(h:bL s x d y=some r):bnd (af s T) x d y=some r:=by
 cases x with
 | none=>exact h
 | some x=>
  simp only [bL] at h
  split at h
  ·rename_i k i hi
   simp only [bnd,aw hi,asI]
   exact h
  ·cases h
theorem gq {len p q m:Nat}(h1:bL s mx len len=some m) (h2:bL s hi len m=some q) (h3:bL s lo 0 q=some p):eX (af s T) len lo hi mx=some (p,q,m):=by
 rw [jZ,rL h1]
 simp only [rL h2,rL h3]
theorem tO {k0 k1:IntKind}{i j:Int}(hx:evL s x=some (.int k0 i)) (hw:k1.wrap i=j) (k:WpO F l ⟨af ((d,.int k1 j)::s) T,ah os H,E,n,lv,c⟩ Q):WpO F (⟨some d,.conv k1 x,none⟩::l) ⟨af s T,ah os H,E,n,lv,c⟩ Q:=
 bw rfl (by simp only [au,aw hx,hw]) k
theorem vD {cs:List UInt8}{p q:Nat}(hx:evL s x=some (.str cs)) (h2:bL s hi cs.length cs.length=some q) (h3:bL s lo 0 q=some p) (k:WpO F l ⟨af ((d,.str ((cs.take q).drop p))::s) T,ah os H,E,n,lv,c⟩ Q) :
 WpO F (⟨some d,.slS x lo hi,none⟩::l) ⟨af s T,ah os H,E,n,lv,c⟩ Q:=
 bw rfl (by simp only [au,aw hx,gq (mx:=none) rfl h2 h3]) k
theorem Tz {sz s0 p q:Nat}{xs:List AV}(hx:evL s x=some (.sl 1 s0 xs)) (hs:s0=sz∨xs=[]) (h2:bL s hi (xs.length/sz) (xs.length/sz)=some q) (h3:bL s lo 0 q=some p) (k:WpO F l ⟨af ((d,csl sz ((xs.take (q*sz)).drop (p*sz)))::s) T,ah os H,E,n,lv,c⟩ Q) :
 WpO F (⟨some d,.slL sz x lo hi none,none⟩::l) ⟨af s T,ah os H,E,n,lv,c⟩ Q:=
 bw rfl (by
  simp only [au,aw hx]
  rw [if_pos (hs.imp id fun h=>⟨h,by omega⟩),gq (mx:=none) rfl h2 h3]
  simp [eo]) k
theorem xH {sz p q:Nat}{xs:List AV}(hx:evL s x=some (.sl 3 sz xs)) (h2:bL s hi (xs.length/sz) (xs.length/sz)=some q) (h3:bL s lo 0 q=some p) (k:WpO F l ⟨af ((d,eo (if q=xs.length/sz then 3 else 1) sz ((xs.take (q*sz)).drop (p*sz)))::s) T,ah os H,E,n,lv,c⟩ Q) :
 WpO F (⟨some d,.slL sz x lo hi none,none⟩::l) ⟨af s T,ah os H,E,n,lv,c⟩ Q:=
 bw rfl (by
  simp only [au,aw hx]
  rw [if_pos (.inl trivial),gq (mx:=none) rfl h2 h3]
  simp) k
theorem zK {m sz o p q:Nat}{cs:List AV}(hx:evL s x=some (.pp cs o)) (h2:bL s hi m m=some q) (h3:bL s lo 0 q=some p) (hne:p≠q) (hle:o+q*sz≤cs.length)
 (k:WpO F l ⟨af ((d,eo (if m=q then 3 else 1) sz ((cs.take (o+q*sz)).drop (o+p*sz)))::s) T,ah os H,E,n,lv,c⟩ Q):WpO F (⟨some d,.slA m sz x lo hi none,none⟩::l) ⟨af s T,ah os H,E,n,lv,c⟩ Q:=
 bw rfl (by
  simp only [au,gq (mx:=none) rfl h2 h3,aw hx]
  rw [if_neg hne,if_pos hle]) k
theorem xI {m sz id o p q:Nat}(hx:evL s x=some (.ref id o)) (h2:bL s hi m m=some q) (h3:bL s lo 0 q=some p) (hne:p≠q)
 (k:WpO F l ⟨af ((d,.osl id (o+p*sz) (q-p) sz)::s) T,ah os H,E,n,lv,c⟩ Q):WpO F (⟨some d,.slA m sz x lo hi none,none⟩::l) ⟨af s T,ah os H,E,n,lv,c⟩ Q:=
 bw rfl (by
  simp only [au,gq (mx:=none) rfl h2 h3,aw hx]
  rw [if_neg hne]) k
theorem dJ {y:X}{kk:IntKind}{i:Int}{dd e p:Nat}(hy:evL s y=some (.int kk i)) (hb:asB i e=some p):bL s (some y) dd e=some p:=by
 simp only [bL,hy];exact hb
section
variable {kk kj:IntKind}{i j:Int}{z:X}{p q:Nat}
theorem m9 {m sz o:Nat}{cs:List AV}(hx:evL s x=some (.pp cs o)) (hy:evL s y=some (.int kk i)) (hb:asB i m=some p) (hne:p≠m) (hle:o+m*sz≤cs.length)
 (k:WpO F l ⟨af ((d,.sl 3 sz ((cs.take (o+m*sz)).drop (o+p*sz)))::s) T,ah os H,E,n,lv,c⟩ Q):WpO F (⟨some d,.slA m sz x (some y) none none,none⟩::l) ⟨af s T,ah os H,E,n,lv,c⟩ Q:=by
 refine zK hx rfl (dJ hy hb) hne hle ?_
 simpa [eo] using k
theorem lZ {m sz id o:Nat}(hx:evL s x=some (.ref id o)) (hy:evL s y=some (.int kk i)) (hb:asB i m=some p) (hne:p≠m)
 (k:WpO F l ⟨af ((d,.osl id (o+p*sz) (m-p) sz)::s) T,ah os H,E,n,lv,c⟩ Q):WpO F (⟨some d,.slA m sz x (some y) none none,none⟩::l) ⟨af s T,ah os H,E,n,lv,c⟩ Q:=xI hx rfl (dJ hy hb) hne k
theorem jo {sz s0:Nat}{xs:List AV}(hx:evL s x=some (.sl 1 s0 xs)) (hs:s0=sz∨xs=[]) (hy:evL s y=some (.int kk i)) (hb:asB i (xs.length/sz)=some p) (k:WpO F l ⟨af ((d,csl sz ((xs.take (xs.length/sz*sz)).drop (p*sz)))::s) T,ah os H,E,n,lv,c⟩ Q) :
 WpO F (⟨some d,.slL sz x (some y) none none,none⟩::l) ⟨af s T,ah os H,E,n,lv,c⟩ Q:=Tz hx hs rfl (dJ hy hb) k
theorem jC {sz:Nat}{xs:List AV}(hx:evL s x=some (.sl 3 sz xs)) (hy:evL s y=some (.int kk i)) (hb:asB i (xs.length/sz)=some p) (k:WpO F l ⟨af ((d,.sl 3 sz ((xs.take (xs.length/sz*sz)).drop (p*sz)))::s) T,ah os H,E,n,lv,c⟩ Q) :
 WpO F (⟨some d,.slL sz x (some y) none none,none⟩::l) ⟨af s T,ah os H,E,n,lv,c⟩ Q:=by
 refine xH hx rfl (dJ hy hb) ?_
 simpa [eo] using k
theorem pZ {sz:Nat}{xs:List AV}(hx:evL s x=some (.sl 3 sz xs)) (hy:evL s y=some (.int kk i)) (hb:asB i (xs.length/sz)=some q) (k:WpO F l ⟨af ((d,eo (if q=xs.length/sz then 3 else 1) sz ((xs.take (q*sz)).drop (0*sz)))::s) T,ah os H,E,n,lv,c⟩ Q) :
 WpO F (⟨some d,.slL sz x none (some y) none,none⟩::l) ⟨af s T,ah os H,E,n,lv,c⟩ Q:=xH hx (dJ hy hb) rfl k
theorem oj {cs:List UInt8}(hx:evL s x=some (.str cs)) (hy:evL s y=some (.int kk i)) (hz:evL s z=some (.int kj j)) (h2:asB j cs.length=some q) (h3:asB i q=some p) (k:WpO F l ⟨af ((d,.str ((cs.take q).drop p))::s) T,ah os H,E,n,lv,c⟩ Q) :
 WpO F (⟨some d,.slS x (some y) (some z),none⟩::l) ⟨af s T,ah os H,E,n,lv,c⟩ Q:=vD hx (dJ hz h2) (dJ hy h3) k
theorem rM {cs:List UInt8}(hx:evL s x=some (.str cs)) (hz:evL s z=some (.int kj j)) (h2:asB j cs.length=some q) (k:WpO F l ⟨af ((d,.str ((cs.take q).drop 0))::s) T,ah os H,E,n,lv,c⟩ Q) :
 WpO F (⟨some d,.slS x none (some z),none⟩::l) ⟨af s T,ah os H,E,n,lv,c⟩ Q:=vD hx (dJ hz h2) rfl k
theorem rN {cs:List UInt8}(hx:evL s x=some (.str cs)) (hy:evL s y=some (.int kk i)) (h3:asB i cs.length=some p) (k:WpO F l ⟨af ((d,.str ((cs.take cs.length).drop p))::s) T,ah os H,E,n,lv,c⟩ Q) :
 WpO F (⟨some d,.slS x (some y) none,none⟩::l) ⟨af s T,ah os H,E,n,lv,c⟩ Q:=vD hx rfl (dJ hy h3) k
end
def Own (lv:Nat→Bool) (c br:Nat) (xs:List AV):Prop:=(br=0∧xs=[])∨br=3∨(4≤br∧br<c∧lv br=true)
theorem fB {sz bytes br s0:Nat}{xs ys:List AV}(hx:evL s x=some (.sl br s0 xs)) (hs:s0=sz∨(xs=[]∧br<4)) (hy:evL s y=some b) (hb:∀ H,src H sz b=some ys) (h0:0<sz∧0<bytes) (hr:(xs.length+ys.length)/sz*bytes≤room) (ho:Own lv c br xs) (hne:ys≠[])
 (k:∀ lv',lv' c=true→(∀ z,z<c→z≠br→lv' z=lv z)→WpO F l ⟨af ((d,.sl c sz (xs++ys))::s) T,ah os H,E,n,lv',c+1⟩ Q):WpO F (⟨some d,.app sz bytes x y,none⟩::l) ⟨af s T,ah os H,E,n,lv,c⟩ Q:=by
 rcases ho with ⟨rfl,rfl⟩ | rfl | ⟨h4,hlt,hl⟩
 ·refine j2 (v:=.sl c sz ([]++ys)) rfl ?_ fun lv' h1 h2=>k lv' h1 fun z hz _=>h2 z hz
  simp only [au,aw hx,aw hy,hb]
  rw [if_pos ⟨hs.imp id fun h=>⟨trivial,h.2⟩,h0.1,h0.2,hr⟩,if_pos (.inl trivial),if_neg hne]
 ·refine j2 (v:=.sl c sz (xs++ys)) rfl ?_ fun lv' h1 h2=>k lv' h1 fun z hz _=>h2 z hz
  simp only [au,aw hx,aw hy,hb]
  rw [if_pos ⟨hs,h0.1,h0.2,hr⟩,if_pos (.inr trivial),if_neg hne]
 ·refine ig (v:=.sl c sz (xs++ys)) (br:=br) rfl ?_ k
  simp only [au,aw hx,aw hy,hb]
  rw [if_pos ⟨hs,h0.1,h0.2,hr⟩,if_neg (by omega),if_pos ⟨h4,hl⟩]
theorem p6 {sz bytes br s0:Nat}{xs:List AV}(hx:evL s x=some (.sl br s0 xs)) (hs:s0=sz∨(xs=[]∧br<4)) (hy:evL s y=some b) (hb:∀ H,src H sz b=some []) (h0:0<sz∧0<bytes) (hr:xs.length/sz*bytes≤room) (ho:br=0∨br=3)
 (k:WpO F l ⟨af ((d,.sl br sz xs)::s) T,ah os H,E,n,lv,c⟩ Q):WpO F (⟨some d,.app sz bytes x y,none⟩::l) ⟨af s T,ah os H,E,n,lv,c⟩ Q:=by
 refine bw rfl ?_ k
 simp only [au,aw hx,aw hy,hb,List.length_nil,Nat.add_zero]
 rw [if_pos ⟨hs,h0.1,h0.2,hr⟩,if_pos ho]
 simp
theorem B1 (u:UInt8):toB (ofB u)=some u:=by
 simp only [toB,ofB,Option.some.injEq]
 simp
theorem zL (cs:List UInt8):ln (cs.map ofB)=some cs:=by
 induction cs with
 | nil=>rfl
 | cons u cs ih=>simp only [List.map_cons,ln,B1,ih]
theorem my {br s0:Nat}{cs:List UInt8}(hx:evL s x=some (.sl br s0 (cs.map ofB))) (hs:s0=1∨(s0=0∧cs=[])) (k:WpO F l ⟨af ((d,.str cs)::s) T,ah os H,E,n,lv,c⟩ Q):WpO F (⟨some d,.b2s x,none⟩::l) ⟨af s T,ah os H,E,n,lv,c⟩ Q:=
 bw rfl (by
  rcases hs with rfl | ⟨rfl,rfl⟩
  ·simp only [au,aw hx,zL]
  ·simp only [au,aw hx,List.map_nil]) k
theorem A0 {sz bytes:Nat}{z:List AV}{k1 k2:IntKind}{i j:Int}(hx:evL s x=some (.int k1 i)) (hy:evL s y=some (.int k2 j)) (h:0≤i∧i≤j∧j.toNat*bytes≤room∧0<bytes∧z.length=sz∧0<sz∧bK z=true)
 (k:∀ lv',lv' c=true→(∀ z,z<c→lv' z=lv z)→WpO F l ⟨af ((d,.sl c sz (List.replicate i.toNat z).flatten)::s) T,ah os H,E,n,lv',c+1⟩ Q):WpO F (⟨some d,.mks false sz bytes z x y,none⟩::l) ⟨af s T,ah os H,E,n,lv,c⟩ Q:=
 j2 rfl (by simp only [au,aw hx,aw hy,asI];rw [if_pos h];rfl) k
theorem A1 {id off len sz:Nat}{cs ys:List AV}(hx:evL s x=some (.osl id off len sz)) (hy:evL s y=some b) (hb:∀ H,src H sz b=some ys) (ho:lkO os id=some cs) (h0:0<sz) (hle:off+len*sz≤cs.length)
 (k:WpO F l ⟨af ((d,.int .i64 (min (ys.length/sz) len:Nat))::s) T,ah ((id,cd cs off (ys.take (min (ys.length/sz) len*sz)))::os) H,E,n,lv,c⟩ Q):WpO F (⟨some d,.cpy sz x y,none⟩::l) ⟨af s T,ah os H,E,n,lv,c⟩ Q:=by
 refine vr (d:=some d) (id:=id) (cs:=cd cs off (ys.take (min (ys.length/sz) len*sz))) (v:=.int .i64 (min (ys.length/sz) len:Nat)) rfl ?_ k
 simp only [au,aw hx,aw hy,hb,av ho]
 rw [if_pos ⟨trivial,h0,hle⟩]
theorem tP {f:FuncId}{xs:List X}{args:List AV}{r:AV}{sz:Nat}{ys:List AV}(ha:iW s xs=some args) (hf:bK args=true) (hc:evP F f args=some r) (ho:eM (leaves r)=some (sz,ys)) (hall:(leaves r).all (fun v=>v.scalar||db v)=true) (hone:((leaves r).filter db).length=1)
 (hsc:ys.all AV.scalar=true) (h0:0<sz) (k:∀ E,WpO F l ⟨af ((d,aA (bB 2 n c) r)::s) T,ah ((n,ys)::os) H,E,n+1,lv,c⟩ Q):WpO F (⟨some d,.callp 2 f xs,none⟩::l) ⟨af s T,ah os H,E,n,lv,c⟩ Q:=by
 refine dC (S1:=⟨upd (af s T) d (aA (bB 2 n c) r),upd (ah os H) n ys,upd E n none,n+1,lv,c⟩) ?_ (k _)
 have hadopt:gv 2 n c r=some { v:=aA (bB 2 n c) r,new:=some ys }:=by
  unfold gv
  rw [if_neg (by omega),ho]
  simp only [hall,hone]
  rw [if_pos ⟨trivial,trivial⟩,if_neg (by omega),if_pos ⟨hsc,h0⟩]
 simp only [bA,bW,bg,aR,nx ha,hf,hc,hadopt,if_true,Eff.st,cF,Nat.add_zero]
 rw [show (fun b=>if c≤b∧b<c then true else if (none:Option Nat)=some b then false else lv b)=lv from kG lv c]
theorem j7 {f:FuncId}{xs:List X}{args:List AV}{v:AV}{H':Hp}{lv':Nat→Bool}{c':Nat}{dd:Option Nat}(ha:xs.mapM (evL s)=some args) (hc:F f args ⟨ah os H,n,lv,c⟩ E=some (v,⟨H',n,lv',c'⟩)) (k:WpO F l ⟨cF (af s T) dd v,H',E,n,lv',c'⟩ Q) :
 WpO F (⟨dd,.calls f xs,none⟩::l) ⟨af s T,ah os H,E,n,lv,c⟩ Q:=by
 have hargs:xs.map (ev (af s T))=args:=by
  clear hc k
  induction xs generalizing args with
  | nil=>simp at ha;simp [ha]
  | cons x xs ih=>
   rw [List.mapM_cons] at ha
   simp only [Option.bind_eq_bind,Option.bind_eq_some_iff,Option.pure_def,Option.some.injEq] at ha
   obtain ⟨u,hu,r,hr,rfl⟩:=ha
   simp only [List.map_cons,aw hu,ih hr]
 refine dC ?_ k
 simp only [bA,bW,bg,aR,hargs,hc,if_true]
end
section
variable {k:IntKind}{a b:Int}
theorem mz (h:a<b):aj .lss (.int k a) (.int k b)=some (.bool true):=by simp [aj,bC,h]
theorem mA (h:b≤a):aj .lss (.int k a) (.int k b)=some (.bool false):=by simp [aj,bC,h]
theorem om (h:a≤b):aj .leq (.int k a) (.int k b)=some (.bool true):=by simp [aj,bC,h]
theorem vE (h:b<a):aj .leq (.int k a) (.int k b)=some (.bool false):=by simp [aj,bC,h]
theorem oo (h:b<a):aj .gtr (.int k a) (.int k b)=some (.bool true):=by simp [aj,bC,h]
theorem oq (h:a≤b):aj .gtr (.int k a) (.int k b)=some (.bool false):=by simp [aj,bC,h]
theorem ot (h:b≤a):aj .geq (.int k a) (.int k b)=some (.bool true):=by simp [aj,bC,h]
theorem vF (h:a<b):aj .geq (.int k a) (.int k b)=some (.bool false):=by simp [aj,bC,h]
theorem vG (h:a=b):aj .eql (.int k a) (.int k b)=some (.bool true):=by simp [aj,bC,h]
theorem qx (h:a≠b):aj .eql (.int k a) (.int k b)=some (.bool false):=by simp [aj,bC,h]
theorem vH (h:a≠b):aj .neq (.int k a) (.int k b)=some (.bool true):=by simp [aj,bC,h]
theorem ou (h:a=b):aj .neq (.int k a) (.int k b)=some (.bool false):=by simp [aj,bC,h]
end
theorem w64 {n:Int}(h0 : -9223372036854775808≤n) (h1:n<9223372036854775808):IntKind.i64.wrap n=n:=by
 have e1:(2 ^ IntKind.i64.bits:Int)=18446744073709551616:=by decide +kernel
 have e2:(2 ^ (IntKind.i64.bits-1):Int)=9223372036854775808:=by decide +kernel
 unfold IntKind.wrap
 simp only [e1,e2]
 split
 ·rename_i h
  simp only [Bool.and_eq_true,decide_eq_true_eq] at h
  omega
 ·rename_i h
  simp only [Bool.and_eq_true,decide_eq_true_eq,not_and] at h
  have hs:IntKind.i64.signed=true:=rfl
  have:=h hs
  omega
theorem w32 {n:Int}(h0:0≤n) (h1:n<4294967296):IntKind.u32.wrap n=n:=by
 have e1:(2 ^ IntKind.u32.bits:Int)=4294967296:=by decide +kernel
 unfold IntKind.wrap
 simp only [e1]
 split
 ·rename_i h
  have hs:IntKind.u32.signed=false:=rfl
  simp [hs] at h
 ·omega
theorem w8 (n:Int):IntKind.u8.wrap n=n%256:=by
 have e1:(2 ^ IntKind.u8.bits:Int)=256:=by decide +kernel
 unfold IntKind.wrap
 simp only [e1]
 split
 ·rename_i h
  have hs:IntKind.u8.signed=false:=rfl
  simp [hs] at h
 ·rfl
section
variable {a b c:Int}
theorem fC (h:a+b=c) (h0 : -9223372036854775808≤c) (h1:c<9223372036854775808):aj .add (.int .i64 a) (.int .i64 b)=some (.int .i64 c):=by
 subst h;simp [aj,bC,w64 h0 h1]
theorem fD (h:a-b=c) (h0 : -9223372036854775808≤c) (h1:c<9223372036854775808):aj .sub (.int .i64 a) (.int .i64 b)=some (.int .i64 c):=by
 subst h;simp [aj,bC,w64 h0 h1]
theorem ov (h:a*b=c) (h0 : -9223372036854775808≤c) (h1:c<9223372036854775808):aj .mul (.int .i64 a) (.int .i64 b)=some (.int .i64 c):=by
 subst h;simp [aj,bC,w64 h0 h1]
theorem ow (ha:0≤a) (hb:0<b) (h:a/b=c) (h1:a<9223372036854775808):aj .quo (.int .i64 a) (.int .i64 b)=some (.int .i64 c):=by
 subst h
 have h2:a.tdiv b=a/b:=Int.tdiv_eq_ediv_of_nonneg ha
 have h3:0≤a/b:=Int.ediv_nonneg ha (by omega)
 have h4:a/b≤a:=Int.ediv_le_self _ ha
 simp [aj,bC,show ¬ b=0 by omega,h2,w64 (show -9223372036854775808≤a/b by omega) (by omega)]
theorem kM (ha:0≤a) (hb:0<b) (h:a%b=c):aj .rem (.int .i64 a) (.int .i64 b)=some (.int .i64 c):=by
 subst h
 simp [aj,bC,show ¬ b=0 by omega,Int.tmod_eq_emod_of_nonneg ha]
end
end Go.Abs
/- Loops by an invariant that lists slots and objects. No condition. -/
namespace Go.Abs
def gE (s:List (Nat×AV)):List (Nat×AV)→Prop
 | []=>True
 | (i,v)::l=>lk s i=some v∧gE s l
def fE (os:List (Nat×List AV)):List (Nat×List AV)→Prop
 | []=>True
 | (i,v)::l=>lkO os i=some v∧fE os l
def l5 (n:Nat) (s:List (Nat×AV)):List (Nat×AV)→Prop
 | []=>True
 | (i,v)::l=>(lk s i).map (jx n)=some v∧l5 n s l
def j8 (n:Nat) (os:List (Nat×List AV)):List (Nat×List AV)→Prop
 | []=>True
 | (i,v)::l=>(lkO os i=some v∧bJ n v=true)∧j8 n os l
theorem ox {s:List (Nat×AV)}{T:Nat→AV}:∀ {l:List (Nat×AV)},gE s l→mv (af s T) l:=by
 intro l
 induction l with
 | nil=>intro _;trivial
 | cons p l ih=>obtain ⟨i,v⟩:=p;rintro ⟨h1,h2⟩;exact ⟨cA h1,ih h2⟩
theorem mB {os:List (Nat×List AV)}{H:Hp}:∀ {l:List (Nat×List AV)},fE os l→jm (ah os H) l:=by
 intro l
 induction l with
 | nil=>intro _;trivial
 | cons p l ih=>obtain ⟨i,v⟩:=p;rintro ⟨h1,h2⟩;exact ⟨av h1,ih h2⟩
theorem rO {n:Nat}{s:List (Nat×AV)}{T:Nat→AV}:∀ {l:List (Nat×AV)},l5 n s l→mv (fun t=>jx n (af s T t)) l:=by
 intro l
 induction l with
 | nil=>intro _;trivial
 | cons p l ih=>
  obtain ⟨i,v⟩:=p
  rintro ⟨h1,h2⟩
  obtain ⟨u,hu,rfl⟩:=Option.map_eq_some_iff.1 h1
  exact ⟨congrArg (jx n) (cA hu),ih h2⟩
theorem pc {n:Nat}{os:List (Nat×List AV)}{H:Hp}:∀ {l:List (Nat×List AV)},j8 n os l→jm (aV n (ah os H)) l:=by
 intro l
 induction l with
 | nil=>intro _;trivial
 | cons p l ih=>
  obtain ⟨i,v⟩:=p
  rintro ⟨⟨h1,h2⟩,h3⟩
  refine ⟨?_,ih h3⟩
  unfold aV
  rw [av h1,if_pos h2]
section
variable {F:aE}{k:Nat}{s:List (Nat×AV)}{os:List (Nat×List AV)}{T:Nat→AV}{H:Hp}{E:Nat→Option TypeId}{n c:Nat}{lv:Nat→Bool}{K:Ex→St→Prop}{a:IC}
structure a8 (α:Type) where
 P:α→Prop
 μ:α→Nat
 ts:α→List (Nat×AV)
 os:α→List (Nat×List AV)
def Head {α:Type}(I:a8 α) (B:α→(Nat→Bool)→Nat→Prop) (n:Nat) (i:α) (S:St):Prop:=I.P i∧∃ lv c,B i lv c∧oa (I.ts i) (I.os i) n lv c S
structure qy {α:Type}(I:a8 α) (B:α→(Nat→Bool)→Nat→Prop) (n m:Nat) (K:Ex→St→Prop) (e:Ex) (S:St):Prop where
 h:match e with
  | .norm=>∃ j,I.μ j<m∧Head I B n j (pop n S)
  | e=>K e S
theorem aW {α:Type}(I:a8 α) (B:α→(Nat→Bool)→Nat→Prop) (i:α) (hP:I.P i) (hB:B i lv c) (hμ:I.μ i<k) (h1:gE s (I.ts i)) (h2:fE os (I.os i))
 (round:∀ i lv c T H E,I.P i→B i lv c→I.μ i<k→Wp F k a ⟨af (I.ts i) T,ah (I.os i) H,E,n,lv,c⟩ (qy I B n (I.μ i) K)):Wp F k (.loop a) ⟨af s T,ah os H,E,n,lv,c⟩ K:=by
 have key:∀ (m:Nat) (i:α) (S:St),Head I B n i S→I.μ i<m→m≤k→∃ e S',cg (ar F k a) n m S=some (e,S')∧K e S':=by
  intro m
  induction m with
  | zero=>intro i S _ h;omega
  | succ m ih=>
   rintro i S ⟨hP,lv,c,hB,T,H,E,rfl⟩ hlt hmk
   obtain ⟨e,S1,q1,q2⟩:=(round i lv c T H E hP hB (by omega)).ex
   cases e with
   | norm=>
    obtain ⟨j,hj,hh⟩:=q2.h
    obtain ⟨e2,S2,r1,r2⟩:=ih j _ hh (by omega) (by omega)
    exact ⟨e2,S2,by simp only [cg,q1];exact r1,r2⟩
   | exit id=>exact ⟨.exit id,S1,by simp only [cg,q1],q2.h⟩
   | ret=>exact ⟨.ret,S1,by simp only [cg,q1],q2.h⟩
 obtain ⟨e,S',r1,r2⟩:=key k i _ ⟨hP,lv,c,hB,kI (ox h1) (mB h2)⟩ hμ (Nat.le_refl _)
 exact ⟨e,S',by simp only [ar];exact r1,r2⟩
theorem aB {α:Type}{I:a8 α}{B:α→(Nat→Bool)→Nat→Prop}{m n':Nat}(j:α) (hP:I.P j) (hB:B j lv c) (hμ:I.μ j<m) (h1:l5 n s (I.ts j)) (h2:j8 n os (I.os j)):qy I B n m K .norm ⟨af s T,ah os H,E,n',lv,c⟩:=
 ⟨j,hμ,hP,lv,c,hB,lR (rO h1) (pc h2)⟩
theorem aN {α:Type}{I:a8 α}{B:α→(Nat→Bool)→Nat→Prop}{m id:Nat}{S:St}(h:K (.exit id) S):qy I B n m K (.exit id) S:=⟨h⟩
theorem bz {α:Type}{I:a8 α}{B:α→(Nat→Bool)→Nat→Prop}{m:Nat}{S:St}(h:K .ret S):qy I B n m K .ret S:=⟨h⟩
end
theorem cO (n:Nat) (bs:List UInt8):bJ n (bs.map ofB)=true:=by
 induction bs with
 | nil=>rfl
 | cons b bs ih=>simp only [List.map_cons,bJ,ih,ofB,AV.under,Bool.and_self]
end Go.Abs
/- Calls that share the caller's objects: how their bodies end. No condition. -/
namespace Go.Abs
section
variable {F:aE}{k:Nat}{l:List aa}{s:List (Nat×AV)}{os:List (Nat×List AV)}{T:Nat→AV}{H:Hp}{E:Nat→Option TypeId}{n c d:Nat}{lv:Nat→Bool}{Q:St→Prop}{x y:X}{kk:IntKind}{i:Int}{p:Nat}
theorem iZ {br sz s0:Nat}{xs:List AV}(hx:evL s x=some (.sl br s0 xs)) (hs:s0=sz∨(xs=[]∧br<2)) (hy:evL s y=some (.int kk i)) (hb:asB i (xs.length/sz)=some p) (hbr:br=1∨(br≠0∧br≠3∧p≠0))
 (k:WpO F l ⟨af ((d,csl sz ((xs.take (xs.length/sz*sz)).drop (p*sz)))::s) T,ah os H,E,n,lv,c⟩ Q):WpO F (⟨some d,.slL sz x (some y) none none,none⟩::l) ⟨af s T,ah os H,E,n,lv,c⟩ Q:=
 bw rfl (by
  simp only [au,aw hx]
  rw [if_pos hs,gq (mx:=none) rfl (show bL s none (xs.length/sz) (xs.length/sz)=some (xs.length/sz) from rfl) (dJ hy hb)]
  rcases hbr with rfl | ⟨h0,h3,hp⟩
  ·simp [eo]
  ·simp [eo,h0,h3,hp]) k
def jR (fn:IFn) (n:Nat) (P:AV→Hs→Prop) (e:Ex) (S:St):Prop:=(e = .norm∨e = .ret)∧∃ r hs,finish fn n S=some (r,hs)∧P r hs
theorem pd {FN:FuncId→Option cr}{f:FuncId}{fn:IFn}{vs:List AV}{P:AV→Hs→Prop}(hf:FN f=some (.code fn))
 (h:∀ (T:Nat→AV),Wp (ab FN k) k fn.body ⟨af (cL 0 vs) T,ah os H,E,n,lv,c⟩ (jR fn n P)):∃ r hs,ab FN (k+1) f vs ⟨ah os H,n,lv,c⟩ E=some (r,hs)∧P r hs:=by
 have:=h (fun _=>.tup [])
 have he:af (cL 0 vs) (fun _=>.tup [])=fun t=>vs.getD t (.tup []):=by
  funext t
  rw [jn];simp
 rw [he] at this
 obtain ⟨e,S,h1,hne,r,hs,h2,h3⟩:=this.ex
 refine ⟨r,hs,?_,h3⟩
 rw [mV hf]
 unfold fc
 have h1':ar (ab FN k) k fn.body (entry vs ⟨ah os H,n,lv,c⟩ E)=some (e,S):=h1
 rw [h1']
 rcases hne with rfl | rfl
 ·exact h2
 ·exact h2
theorem aQ {fn:IFn}{P:AV→Hs→Prop}{e:Ex}{us:List AV}{r:AV}{n':Nat}(he:e = .norm∨e = .ret) (h1:jP s os fn.res=some us) (hz:(fn.res.all fun | .cell _ sz ag=>!(ag&&Nat.beq sz 0) | _=>true)=true) (h2:(leaves (eW us)).all (fk (ah os H) n)=true)
 (h4:aA (bM (ah os H) n) (eW us)=r) (h3:r.under n=true) (hP:P r ⟨trim n (ah os H),n,lv,c⟩):jR fn n P e ⟨af s T,ah os H,E,n',lv,c⟩:=by
 refine ⟨he,r,_,?_,hP⟩
 unfold finish
 rw [tN h1 hz]
 simp only [h2,h4,h3,if_true]
structure aU (F:aE) (f:FuncId) (args:List AV) (os:List (Nat×List AV)) (H:Hp) (n:Nat) (lv:Nat→Bool) (c:Nat) (E:Nat→Option TypeId) (R:AV) (id:Nat) (v:List AV):Prop where
 ex:∃ H',F f args ⟨ah os H,n,lv,c⟩ E=some (R,⟨H',n,lv,c⟩)∧H' id=v∧∀ j,j<n→j≠id→H' j=aV n (ah os H) j
def iA (n id:Nat) (v:List AV) (os:List (Nat×List AV)):List (Nat×List AV)→Prop
 | []=>True
 | (j,u)::l=>((j=id∧v=u)∨(Nat.beq j id=false∧Nat.blt j n=true∧lkO os j=some u∧bJ n u=true))∧iA n id v os l
theorem l6 {id:Nat}{v:List AV}{H':Hp}(h1:H' id=v) (h2:∀ j,j<n→j≠id→H' j=aV n (ah os H) j):∀ {l:List (Nat×List AV)},iA n id v os l→jm H' l:=by
 intro l
 induction l with
 | nil=>intro _;trivial
 | cons q l ih=>
  obtain ⟨j,u⟩:=q
  rintro ⟨h,h'⟩
  refine ⟨?_,ih h'⟩
  rcases h with ⟨rfl,rfl⟩ | ⟨k1,k2,k3,k4⟩
  ·exact h1
  ·rw [h2 j (by simpa using k2) (Nat.ne_of_beq_eq_false k1),aV,av k3,if_pos k4]
theorem zM {f:FuncId}{xs:List X}{args:List AV}{R:AV}{id:Nat}{v:List AV}{os':List (Nat×List AV)}(ha:xs.mapM (evL s)=some args) (hc:∀ H E,aU F f args os H n lv c E R id v) (hx:iA n id v os os') (k:∀ H,WpO F l ⟨af ((d,R)::s) T,ah os' H,E,n,lv,c⟩ Q) :
 WpO F (⟨some d,.calls f xs,none⟩::l) ⟨af s T,ah os H,E,n,lv,c⟩ Q:=by
 obtain ⟨H',h1,h2,h3⟩:=(hc H E).ex
 refine j7 (dd:=some d) ha h1 ?_
 have:=k H'
 rwa [dZ (l6 h2 h3 hx)] at this
theorem B2 {f:FuncId}{x:X}{xs:List X}{fs args:List AV}{R:AV}{id:Nat}{v:List AV}{os':List (Nat×List AV)}(hf:evL s x=some (.fn f fs [])) (ha:xs.mapM (evL s)=some args) (hc:∀ H E,aU F f (fs++args) os H n lv c E R id v) (hx:iA n id v os os') (k:∀ H,WpO F l ⟨af ((d,R)::s) T,ah os' H,E,n,lv,c⟩ Q) :
 WpO F (⟨some d,.callv x xs,none⟩::l) ⟨af s T,ah os H,E,n,lv,c⟩ Q:=by
 obtain ⟨H',h1,h2,h3⟩:=(hc H E).ex
 have hargs:xs.map (ev (af s T))=args:=by
  clear hc hx k h1
  induction xs generalizing args with
  | nil=>simp at ha;simp [ha]
  | cons x xs ih=>
   rw [List.mapM_cons] at ha
   simp only [Option.bind_eq_bind,Option.bind_eq_some_iff,Option.pure_def,Option.some.injEq] at ha
   obtain ⟨u,hu,r,hr,rfl⟩:=ha
   simp only [List.map_cons,aw hu,ih hr]
 refine dC (S1:=⟨cF (af s T) (some d) R,H',E,n,lv,c⟩) ?_ ?_
 ·simp only [bA,bW,bg,aR,aw hf,hargs,List.append_nil,h1,if_true]
 ·have:=k H'
  rwa [dZ (l6 h2 h3 hx)] at this
theorem bY {FN:FuncId→Option cr}{f:FuncId}{fn:IFn}{vs:List AV}{R:AV}{id:Nat}{v:List AV}(hid:id<n) (hu:bJ n v=true) (hf:FN f=some (.code fn))
 (h:∀ (T:Nat→AV),Wp (ab FN k) k fn.body ⟨af (cL 0 vs) T,ah os H,E,n,lv,c⟩ (jR fn n fun r hs=>r=R∧∃ H',hs=⟨trim n H',n,lv,c⟩∧H' id=v∧∀ j,j<n→j≠id→aV n H' j=aV n (ah os H) j)):aU (ab FN (k+1)) f vs os H n lv c E R id v:=by
 obtain ⟨r,hs,h1,rfl,H',rfl,h2,h3⟩:=pd hf h
 refine ⟨trim n H',h1,?_,fun j hj hne=>?_⟩
 ·simp only [trim,if_pos hid,aV,h2,if_pos hu]
 ·simp only [trim,if_pos hj];exact h3 j hj hne
def az (n0 id:Nat) (H0 H:Hp):Prop:=∀ j,j<n0→j≠id→aV n0 H j=aV n0 H0 j
theorem xJ {n m:Nat}(h:n≤m):∀ (l:List AV),bJ n l=true→bJ m l=true:=by
 have one:∀ (x:AV),x.under n=true→x.under m=true:=by
  intro x
  apply AV.rec (motive_1:=fun x=>x.under n=true→x.under m=true) (motive_2:=fun l=>bJ n l=true→bJ m l=true)
  all_goals first
   | (intros;rfl)
   | (intro id o hh;simp only [AV.under,decide_eq_true_eq] at hh ⊢;omega)
   | (intro id hh;simp only [AV.under,decide_eq_true_eq] at hh ⊢;omega)
   | (intro a b c d hh;simp only [AV.under,decide_eq_true_eq] at hh ⊢;omega)
   | (intro f fs cs h1 h2 hh;simp only [AV.under,Bool.and_eq_true] at hh ⊢;exact ⟨h1 hh.1,h2 hh.2⟩)
   | (intro t v h1 hh;simp only [AV.under] at hh ⊢;exact h1 hh)
   | (intro cs h1 hh;simp only [AV.under] at hh ⊢;exact h1 hh)
   | (intro x l h1 h2 hh;simp only [bJ,Bool.and_eq_true] at hh ⊢;exact ⟨h1 hh.1,h2 hh.2⟩)
   | skip
 intro l
 induction l with
 | nil=>intro _;rfl
 | cons x l ih=>
  intro hh
  simp only [bJ,Bool.and_eq_true] at hh ⊢
  exact ⟨one x hh.1,ih hh.2⟩
theorem iB {n m:Nat}(h:n≤m) (H:Hp) (j:Nat):aV n (aV m H) j=aV n H j:=by
 unfold aV
 by_cases h1:bJ n (H j)=true
 ·have h2:=xJ h _ h1
  simp only [h2,if_true,h1]
 ·by_cases h2:bJ m (H j)=true
  ·simp only [h2,if_true]
  ·simp only [h2,h1,if_false,bJ]
   simp
theorem az.keep {n0 id m:Nat}{H0 H:Hp}(h:az n0 id H0 H) (hm:n0≤m):az n0 id H0 (aV m H):=fun j hj hne=>(iB hm H j).trans (h j hj hne)
theorem az.refl (n0 id:Nat) (H:Hp):az n0 id H H:=fun _ _ _=>rfl
theorem az.upd {n0 id i:Nat}{v:List AV}{H0 H:Hp}(h:az n0 id H0 H) (hi:i=id∨n0≤i):az n0 id H0 (upd H i v):=by
 intro j hj hne
 have:aV n0 (Go.Abs.upd H i v) j=aV n0 H j:=by
  have hji:¬ j=i:=by rcases hi with rfl | hi<;>omega
  simp only [aV,Go.Abs.upd,if_neg hji]
 rw [this];exact h j hj hne
def A2 {α:Type}(I:a8 α) (R:Hp→Prop) (n:Nat) (lv:Nat→Bool) (c:Nat) (i:α) (S:St):Prop:=I.P i∧R S.H∧oa (I.ts i) (I.os i) n lv c S
structure vI {α:Type}(I:a8 α) (R:Hp→Prop) (n:Nat) (lv:Nat→Bool) (c m:Nat) (K:Ex→St→Prop) (e:Ex) (S:St):Prop where
 h:match e with
  | .norm=>∃ j,I.μ j<m∧A2 I R n lv c j (pop n S)
  | e=>K e S
variable {K:Ex→St→Prop}{a:IC}
theorem tQ {α:Type}(I:a8 α) (R:Hp→Prop) (i:α) (hP:I.P i) (hR:R (ah os H)) (hμ:I.μ i<k) (h1:gE s (I.ts i)) (h2:fE os (I.os i))
 (round:∀ i T H E,I.P i→R (ah (I.os i) H)→I.μ i<k→Wp F k a ⟨af (I.ts i) T,ah (I.os i) H,E,n,lv,c⟩ (vI I R n lv c (I.μ i) K)):Wp F k (.loop a) ⟨af s T,ah os H,E,n,lv,c⟩ K:=by
 have key:∀ (m:Nat) (i:α) (S:St),A2 I R n lv c i S→I.μ i<m→m≤k→∃ e S',cg (ar F k a) n m S=some (e,S')∧K e S':=by
  intro m
  induction m with
  | zero=>intro i S _ h;omega
  | succ m ih=>
   rintro i S ⟨hP,hR,T,H,E,rfl⟩ hlt hmk
   obtain ⟨e,S1,q1,q2⟩:=(round i T H E hP hR (by omega)).ex
   cases e with
   | norm=>
    obtain ⟨j,hj,hh⟩:=q2.h
    obtain ⟨e2,S2,r1,r2⟩:=ih j _ hh (by omega) (by omega)
    exact ⟨e2,S2,by simp only [cg,q1];exact r1,r2⟩
   | exit id=>exact ⟨.exit id,S1,by simp only [cg,q1],q2.h⟩
   | ret=>exact ⟨.ret,S1,by simp only [cg,q1],q2.h⟩
 obtain ⟨e,S',r1,r2⟩:=key k i _ ⟨hP,hR,kI (ox h1) (mB h2)⟩ hμ (Nat.le_refl _)
 exact ⟨e,S',by simp only [ar];exact r1,r2⟩
theorem jd {α:Type}{I:a8 α}{R:Hp→Prop}{m n':Nat}(j:α) (hP:I.P j) (hR:R (aV n (ah os H))) (hμ:I.μ j<m) (h1:l5 n s (I.ts j)) (h2:j8 n os (I.os j)):vI I R n lv c m K .norm ⟨af s T,ah os H,E,n',lv,c⟩:=
 ⟨j,hμ,hP,hR,lR (rO h1) (pc h2)⟩
theorem tR {α:Type}{I:a8 α}{R:Hp→Prop}{m id:Nat}{S:St}(h:K (.exit id) S):vI I R n lv c m K (.exit id) S:=⟨h⟩
end
end Go.Abs
/- Arithmetic without a hypothesis per step: numbers that are natural. No condition. -/
namespace Go.Abs
section
variable {a b m:Nat}
theorem iC (h:a+b<9223372036854775808):aj .add (.int .i64 (a:Int)) (.int .i64 (b:Int))=some (.int .i64 ((a+b:Nat):Int)):=fC (by omega) (by omega) (by omega)
theorem xK (h:a+(OfNat.ofNat m:Nat)<9223372036854775808):aj .add (.int .i64 (a:Int)) (.int .i64 (OfNat.ofNat m:Int))=some (.int .i64 ((a+(OfNat.ofNat m:Nat):Nat):Int)):=iC h
theorem xL (h:(OfNat.ofNat m:Nat)+a<9223372036854775808):aj .add (.int .i64 (OfNat.ofNat m:Int)) (.int .i64 (a:Int))=some (.int .i64 (((OfNat.ofNat m:Nat)+a:Nat):Int)):=iC h
theorem oy (h:b≤a∧a<9223372036854775808):aj .sub (.int .i64 (a:Int)) (.int .i64 (b:Int))=some (.int .i64 ((a-b:Nat):Int)):=fD (by omega) (by omega) (by omega)
theorem xM (h:(OfNat.ofNat m:Nat)≤a∧a<9223372036854775808):aj .sub (.int .i64 (a:Int)) (.int .i64 (OfNat.ofNat m:Int))=some (.int .i64 ((a-(OfNat.ofNat m:Nat):Nat):Int)):=oy h
theorem xN (h:a≤(OfNat.ofNat m:Nat)∧(OfNat.ofNat m:Nat)<9223372036854775808):aj .sub (.int .i64 (OfNat.ofNat m:Int)) (.int .i64 (a:Int))=some (.int .i64 (((OfNat.ofNat m:Nat)-a:Nat):Int)):=oy h
theorem oz (h:a*b<9223372036854775808):aj .mul (.int .i64 (a:Int)) (.int .i64 (b:Int))=some (.int .i64 ((a*b:Nat):Int)):=ov (by simp) (by omega) (by omega)
theorem xO (h:a*(OfNat.ofNat m:Nat)<9223372036854775808):aj .mul (.int .i64 (a:Int)) (.int .i64 (OfNat.ofNat m:Int))=some (.int .i64 ((a*(OfNat.ofNat m:Nat):Nat):Int)):=oz h
theorem xP (h:(OfNat.ofNat m:Nat)*a<9223372036854775808):aj .mul (.int .i64 (OfNat.ofNat m:Int)) (.int .i64 (a:Int))=some (.int .i64 (((OfNat.ofNat m:Nat)*a:Nat):Int)):=oz h
theorem rP (h:0<b∧a<9223372036854775808):aj .quo (.int .i64 (a:Int)) (.int .i64 (b:Int))=some (.int .i64 ((a/b:Nat):Int)):=ow (by omega) (by omega) (by simp) (by omega)
theorem iD (h:0<(OfNat.ofNat m:Nat)∧a<9223372036854775808):aj .quo (.int .i64 (a:Int)) (.int .i64 (OfNat.ofNat m:Int))=some (.int .i64 ((a/(OfNat.ofNat m:Nat):Nat):Int)):=rP h
theorem gF (h:0<b):aj .rem (.int .i64 (a:Int)) (.int .i64 (b:Int))=some (.int .i64 ((a%b:Nat):Int)):=kM (by omega) (by omega) (by simp)
theorem oA (h:0<(OfNat.ofNat m:Nat)):aj .rem (.int .i64 (a:Int)) (.int .i64 (OfNat.ofNat m:Int))=some (.int .i64 ((a%(OfNat.ofNat m:Nat):Nat):Int)):=gF h
theorem w8n (n:Nat):IntKind.u8.wrap (n:Int)=((n%256:Nat):Int):=by rw [w8];simp
theorem aZ (h:a<b):inB (a:Int) b=some a:=by rw [xD (by omega) (by omega)];exact congrArg some (Int.toNat_natCast _)
theorem ek (h:(OfNat.ofNat m:Nat)<b):inB (OfNat.ofNat m:Int) b=some (OfNat.ofNat m:Nat):=aZ h
theorem cx (h:a≤b):asB (a:Int) b=some a:=by rw [oi (by omega) (by omega)];exact congrArg some (Int.toNat_natCast _)
theorem fF (h:(OfNat.ofNat m:Nat)≤b):asB (OfNat.ofNat m:Int) b=some (OfNat.ofNat m:Nat):=cx h
theorem kN {k kk:IntKind}(h:b<k.bits):aj .shr (.int k (a:Int)) (.int kk (b:Int))=some (.int k ((a/2 ^ b:Nat):Int)):=by
 have hm:min ((b:Int)).toNat k.bits=b:=by simp;omega
 have hneg:¬ ((b:Int)<0):=by omega
 simp only [aj,ja,or_true,if_true,hneg,if_false,hm]
 congr 2
 rw [show ((2:Int) ^ b)=((2 ^ b:Nat):Int) by simp,Int.fdiv_eq_ediv_of_nonneg _ (Int.natCast_nonneg _)]
 simp
theorem kO {k kk:IntKind}(h:(OfNat.ofNat m:Nat)<k.bits):aj .shr (.int k (a:Int)) (.int kk (OfNat.ofNat m:Int))=some (.int k ((a/2 ^ (OfNat.ofNat m:Nat):Nat):Int)):=kN h
theorem tS (ha:a<4294967296) (hb:b<4294967296):aj .and (.int .u32 (a:Int)) (.int .u32 (b:Int))=some (.int .u32 ((a &&& b:Nat):Int)):=by
 have e:∀ n:Nat,n<4294967296→(BitVec.ofInt 32 (n:Int)).toNat=n:=fun n h=>by simp only [BitVec.toNat_ofInt];omega
 have h1:(BitVec.ofInt IntKind.u32.bits (a:Int) &&& BitVec.ofInt IntKind.u32.bits (b:Int)).toNat=a &&& b:=by
  show (BitVec.ofInt 32 (a:Int) &&& BitVec.ofInt 32 (b:Int)).toNat=_
  rw [BitVec.toNat_and,e a ha,e b hb]
 have:a &&& b≤a:=Nat.and_le_left
 simp only [aj,reduceCtorEq,or_self,if_false,if_true,bC,h1]
 rw [w32 (by omega) (by omega)]
theorem B3 (a:Nat):a &&& 2=2*(a/2%2):=by
 have h:a &&& 2=(a/2%2) <<< 1:=by
  apply Nat.eq_of_testBit_eq
  intro i
  have h2:Nat.testBit 2 i=decide (i=1):=by
   rcases i with _ | _ | i
   ·rfl
   ·rfl
   ·simp [Nat.testBit_succ]
  rw [Nat.testBit_and,h2,Nat.testBit_shiftLeft]
  rcases i with _ | _ | i
  ·simp
  ·have:a.testBit 1=(a/2%2).testBit 0:=by rw [Nat.testBit_succ];simp [Nat.testBit_zero]
   simp [this]
  ·have:(a/2%2)<2:=Nat.mod_lt _ (by omega)
   have:(a/2%2).testBit (i+1)=false:=Nat.testBit_lt_two_pow (by have:2 ^ 1≤2 ^ (i+1):=Nat.pow_le_pow_right (by omega) (by omega);omega)
   simp [this]
 rw [h,Nat.shiftLeft_eq];omega
theorem B4 (a:Nat):a &&& 255=a%256:=by
 have:=Nat.and_two_pow_sub_one_eq_mod a 8
 simpa using this
end
def FC (os:List (Nat×List AV)) (v w:AV):Prop:=∀ H,(leaves v).all (ep (ah os H))=true∧(aA (bU (ah os H)) v).share=w
def vJ (os:List (Nat×List AV)):List AV→List AV→Prop
 | [],[]=>True
 | v::vs,w::ws=>FC os v w∧vJ os vs ws
 | _,_=>False
theorem A3 {os:List (Nat×List AV)}{H:Hp}:∀ {vs ws:List AV},vJ os vs ws→vs.all (fun v=>(leaves v).all (ep (ah os H)))=true∧vs.map (fun v=>(aA (bU (ah os H)) v).share)=ws
 | [],[],_=>⟨rfl,rfl⟩
 | [],_::_,h=>h.elim
 | _::_,[],h=>h.elim
 | v::vs,w::ws,h=>by
  obtain ⟨h1,h2⟩:=A3 (H:=H) h.2
  simp only [List.all_cons,List.map_cons,(h.1 H).1,(h.1 H).2,h1,h2,Bool.and_self,and_self]
section
variable {F:aE}{l:List aa}{s:List (Nat×AV)}{os:List (Nat×List AV)}{T:Nat→AV}{H:Hp}{E:Nat→Option TypeId}{n c d:Nat}{lv:Nat→Bool}{Q:St→Prop}
theorem mC {xs:List X}{args:List AV}(ha:xs.mapM (evL s)=some args):xs.map (ev (af s T))=args:=by
 induction xs generalizing args with
 | nil=>simp at ha;simp [ha]
 | cons x xs ih=>
  rw [List.mapM_cons] at ha
  simp only [Option.bind_eq_bind,Option.bind_eq_some_iff,Option.pure_def,Option.some.injEq] at ha
  obtain ⟨u,hu,r,hr,rfl⟩:=ha
  simp only [List.map_cons,aw hu,ih hr]
def gG (s:List (Nat×AV)):List X→Option (List AV)
 | []=>some []
 | x::xs=>match evL s x,gG s xs with
  | some u,some us=>some (u::us)
  | _,_=>none
theorem dK:∀ {xs:List X}{vs:List AV},gG s xs=some vs→xs.mapM (evL s)=some vs
 | [],vs,h=>by simp only [gG] at h;rw [← h];rfl
 | x::xs,vs,h=>by
  simp only [gG] at h
  split at h
  ·rename_i u us h1 h2
   rw [List.mapM_cons,h1,dK h2,← h];rfl
  ·simp at h
theorem B5 {f:FuncId}{xs:List X}{vs ws:List AV}{r:AV}(ha':gG s xs=some vs) (hw:vJ os vs ws) (hc:evP F f ws=some r) (hr:(leaves r).all AV.scalar=true) (k:WpO F l ⟨af ((d,r)::s) T,ah os H,E,n,lv,c⟩ Q) :
 WpO F (⟨some d,.calln f xs,none⟩::l) ⟨af s T,ah os H,E,n,lv,c⟩ Q:=by
 have ha:=dK ha'
 obtain ⟨h1,h2⟩:=A3 (H:=H) hw
 have hm:=mC (T:=T) ha
 have h2':xs.map (fun x=>(aA (bU (ah os H)) (ev (af s T) x)).share)=ws:=by rw [← h2,← hm,List.map_map];rfl
 refine dC (S1:=⟨upd (af s T) d r,ah os H,E,n,lv,c⟩) ?_ k
 simp only [bA,bW,bg,aR,hm,h1,h2',hc,hr,if_true,Eff.st,cF,Nat.add_zero]
 rw [show (fun b=>if c≤b∧b<c then true else if (none:Option Nat)=some b then false else lv b)=lv from kG lv c]
theorem xQ {f:FuncId}{vs:List AV}{r:AV}(h:ad F f vs r) (hr:r.scalar=true):evP F f vs=some r:=by
 have h0:=h.eq
 unfold dS at h0
 obtain ⟨u,h1,h2⟩:=Option.map_eq_some_iff.1 h0
 rw [h1]
 cases u<;>simp only [aA,aF] at h2<;>first
  | exact congrArg some h2
  | (subst h2;simp [AV.scalar] at hr;done)
  | (split at h2<;>(subst h2;simp [AV.scalar,csl] at hr))
theorem az.after {n0 n id:Nat}{H0 Hm H':Hp}(h:az n0 id H0 Hm) (hn:n0≤n) (h':∀ j,j<n→j≠id→H' j=aV n Hm j):az n0 id H0 H':=by
 intro j hj hne
 have e:aV n0 H' j=aV n0 (aV n Hm) j:=by
  show (if bJ n0 (H' j)=true then H' j else [])=_
  rw [h' j (by omega) hne];rfl
 rw [e,iB hn];exact h j hj hne
theorem A4 {f:FuncId}{fs cs:List X}{us ws:List AV}(h1:gG s fs=some us) (h2:gG s cs=some ws) (k:WpO F l ⟨af ((d,.fn f us ws)::s) T,ah os H,E,n,lv,c⟩ Q):WpO F (⟨some d,.mkf f fs cs,none⟩::l) ⟨af s T,ah os H,E,n,lv,c⟩ Q:=
 bw rfl (by simp only [au,mC (dK h1),mC (dK h2)]) k
theorem A5 {mx:Bool}{kk:IntKind}{i j:Int}{x y:X}(hx:evL s x=some (.int kk i)) (hy:evL s y=some (.int kk j)) (k:WpO F l ⟨af ((d,.int kk (if mx then max i j else min i j))::s) T,ah os H,E,n,lv,c⟩ Q):WpO F (⟨some d,.mn mx [x,y],none⟩::l) ⟨af s T,ah os H,E,n,lv,c⟩ Q:=
 bw rfl (by
  simp only [au,aw hx,hU,aw hy,if_true]
  first
   | rfl
   | (cases mx<;>simp [Int.max_def,Int.min_def]<;>(repeat' split)<;>first | rfl | omega)) k
theorem xR {f:FuncId}{xs:List X}{args:List AV}{R:AV}{id:Nat}{v:List AV}(ha:gG s xs=some args) (hc:∀ H E,aU F f args os H n lv c E R id v) (k:∀ H',H' id=v→(∀ j,j<n→j≠id→H' j=aV n (ah os H) j)→WpO F l ⟨af ((d,R)::s) T,ah [] H',E,n,lv,c⟩ Q) :
 WpO F (⟨some d,.calls f xs,none⟩::l) ⟨af s T,ah os H,E,n,lv,c⟩ Q:=by
 obtain ⟨H',h1,h2,h3⟩:=(hc H E).ex
 exact j7 (dd:=some d) (dK ha) h1 (k H' h2 h3)
theorem dB {f:FuncId}{x:X}{xs:List X}{fs args:List AV}{R:AV}{id:Nat}{v:List AV}{os':List (Nat×List AV)}(hf:evL s x=some (.fn f fs [])) (ha:gG s xs=some args) (hc:∀ H E,aU F f (fs++args) os H n lv c E R id v) (hx:iA n id v os os') (k:∀ H,WpO F l ⟨af ((d,R)::s) T,ah os' H,E,n,lv,c⟩ Q) :
 WpO F (⟨some d,.callv x xs,none⟩::l) ⟨af s T,ah os H,E,n,lv,c⟩ Q:=B2 hf (dK ha) hc hx k
end
section
variable {k:Nat}
theorem qz {FN:FuncId→Option cr}{f:FuncId}{fn:IFn}{vs:List AV}{R:AV}(hf:FN f=some (.code fn)) (hR:R.flat=true)
 (h:∀ (T:Nat→AV) (H:Hp) (E:Nat→Option TypeId) (lv:Nat→Bool),Wp (ab FN k) k fn.body ⟨af (cL 0 vs) T,ah [] H,E,0,lv,4⟩ (jR fn 0 fun r hs=>own hs.lv r=R)):evP (ab FN (k+1)) f vs=some R:=by
 obtain ⟨r,hs,h1,h2⟩:=pd (k:=k) (os:=[]) (H:=fun _=>[]) (E:=fun _=>none) (n:=0) (lv:=fun _=>false) (c:=4) (P:=fun r hs=>own hs.lv r=R) hf (fun T=>h T _ _ _)
 unfold evP
 have e:ab FN (k+1) f vs h0 (fun _=>none)=some (r,hs):=h1
 rw [e]
 simp only [h2,hR,if_true]
end
section
variable {F:aE}{l:List aa}{s:List (Nat×AV)}{os:List (Nat×List AV)}{T:Nat→AV}{H:Hp}{E:Nat→Option TypeId}{n c d:Nat}{lv:Nat→Bool}{Q:St→Prop}{x y:X}{kk:IntKind}{i j:Int}
theorem tc (hx:evL s x=some (.int kk i)) (hy:evL s y=some (.int kk j)) (k1:i<j→WpO F l ⟨af ((d,.bool true)::s) T,ah os H,E,n,lv,c⟩ Q) (k2:j≤i→WpO F l ⟨af ((d,.bool false)::s) T,ah os H,E,n,lv,c⟩ Q):WpO F (⟨some d,.bin .lss x y,none⟩::l) ⟨af s T,ah os H,E,n,lv,c⟩ Q:=by
 by_cases h:i<j
 ·exact eG hx hy (mz (by omega)) (k1 h)
 ·exact eG hx hy (mA (by omega)) (k2 (by omega))
theorem te (hx:evL s x=some (.int kk i)) (hy:evL s y=some (.int kk j)) (k1:i≤j→WpO F l ⟨af ((d,.bool true)::s) T,ah os H,E,n,lv,c⟩ Q) (k2:j<i→WpO F l ⟨af ((d,.bool false)::s) T,ah os H,E,n,lv,c⟩ Q):WpO F (⟨some d,.bin .leq x y,none⟩::l) ⟨af s T,ah os H,E,n,lv,c⟩ Q:=by
 by_cases h:i≤j
 ·exact eG hx hy (om (by omega)) (k1 h)
 ·exact eG hx hy (vE (by omega)) (k2 (by omega))
theorem tf (hx:evL s x=some (.int kk i)) (hy:evL s y=some (.int kk j)) (k1:j<i→WpO F l ⟨af ((d,.bool true)::s) T,ah os H,E,n,lv,c⟩ Q) (k2:i≤j→WpO F l ⟨af ((d,.bool false)::s) T,ah os H,E,n,lv,c⟩ Q):WpO F (⟨some d,.bin .gtr x y,none⟩::l) ⟨af s T,ah os H,E,n,lv,c⟩ Q:=by
 by_cases h:j<i
 ·exact eG hx hy (oo (by omega)) (k1 h)
 ·exact eG hx hy (oq (by omega)) (k2 (by omega))
theorem tg (hx:evL s x=some (.int kk i)) (hy:evL s y=some (.int kk j)) (k1:j≤i→WpO F l ⟨af ((d,.bool true)::s) T,ah os H,E,n,lv,c⟩ Q) (k2:i<j→WpO F l ⟨af ((d,.bool false)::s) T,ah os H,E,n,lv,c⟩ Q):WpO F (⟨some d,.bin .geq x y,none⟩::l) ⟨af s T,ah os H,E,n,lv,c⟩ Q:=by
 by_cases h:j≤i
 ·exact eG hx hy (ot (by omega)) (k1 h)
 ·exact eG hx hy (vF (by omega)) (k2 (by omega))
theorem th (hx:evL s x=some (.int kk i)) (hy:evL s y=some (.int kk j)) (k1:i=j→WpO F l ⟨af ((d,.bool true)::s) T,ah os H,E,n,lv,c⟩ Q) (k2:i≠j→WpO F l ⟨af ((d,.bool false)::s) T,ah os H,E,n,lv,c⟩ Q):WpO F (⟨some d,.bin .eql x y,none⟩::l) ⟨af s T,ah os H,E,n,lv,c⟩ Q:=by
 by_cases h:i=j
 ·exact eG hx hy (vG (by omega)) (k1 h)
 ·exact eG hx hy (qx (by omega)) (k2 (by omega))
theorem ti (hx:evL s x=some (.int kk i)) (hy:evL s y=some (.int kk j)) (k1:i≠j→WpO F l ⟨af ((d,.bool true)::s) T,ah os H,E,n,lv,c⟩ Q) (k2:i=j→WpO F l ⟨af ((d,.bool false)::s) T,ah os H,E,n,lv,c⟩ Q):WpO F (⟨some d,.bin .neq x y,none⟩::l) ⟨af s T,ah os H,E,n,lv,c⟩ Q:=by
 by_cases h:i≠j
 ·exact eG hx hy (vH (by omega)) (k1 h)
 ·exact eG hx hy (ou (by omega)) (k2 (by omega))
variable {a:IC}{k:Nat}{K:Ex→St→Prop}
theorem dv {P:St→Prop}(ts:List (Nat×AV)) (os':List (Nat×List AV)) (h1:gE s ts) (h2:fE os os') (k:∀ T H E,P ⟨af ts T,ah os' H,E,n,lv,c⟩):P ⟨af s T,ah os H,E,n,lv,c⟩:=by
 obtain ⟨T',H',E',h⟩:=kI (E:=E) (n:=n) (lv:=lv) (c:=c) (ox (T:=T) h1) (mB (H:=H) h2)
 rw [h];exact k T' H' E'
end
end Go.Abs
/- More rules to step by: the smaller of two numbers, bytes of a string, appends that keep a brand. No condition. -/
namespace Go.Abs
section
variable {F:aE}{l:List aa}{s:List (Nat×AV)}{os:List (Nat×List AV)}{T:Nat→AV}{H:Hp}{E:Nat→Option TypeId}{n c d:Nat}{lv:Nat→Bool}{Q:St→Prop}{x y:X}
theorem A6 {kk:IntKind}{i j:Nat}(hx:evL s x=some (.int kk (i:Int))) (hy:evL s y=some (.int kk (j:Int))) (k:WpO F l ⟨af ((d,.int kk ((min i j:Nat):Int))::s) T,ah os H,E,n,lv,c⟩ Q):WpO F (⟨some d,.mn false [x,y],none⟩::l) ⟨af s T,ah os H,E,n,lv,c⟩ Q:=
 A5 hx hy (by
  have e:(if false=true then max (i:Int) j else min (i:Int) j)=((min i j:Nat):Int):=by simp;omega
  rw [e];exact k)
theorem A7 {kk:IntKind}{i j:Nat}(hx:evL s x=some (.int kk (i:Int))) (hy:evL s y=some (.int kk (j:Int))) (k:WpO F l ⟨af ((d,.int kk ((max i j:Nat):Int))::s) T,ah os H,E,n,lv,c⟩ Q):WpO F (⟨some d,.mn true [x,y],none⟩::l) ⟨af s T,ah os H,E,n,lv,c⟩ Q:=
 A5 hx hy (by
  have e:(if true=true then max (i:Int) j else min (i:Int) j)=((max i j:Nat):Int):=by simp;omega
  rw [e];exact k)
theorem xS {l0:List UInt8}{u:UInt8}{kk:IntKind}{i:Nat}(hx:evL s x=some (.str l0)) (hy:evL s y=some (.int kk (i:Int))) (hj:l0[i]? = some u) (k:WpO F l ⟨af ((d,ofB u)::s) T,ah os H,E,n,lv,c⟩ Q):WpO F (⟨some d,.ixS x y,none⟩::l) ⟨af s T,ah os H,E,n,lv,c⟩ Q:=
 vA hx hy (by omega) (by rw [Int.toNat_natCast];exact hj) k
def LA (sz:Nat) (lv:Nat→Bool) (c br s0:Nat) (xs:List AV):Prop:=(br=0∧s0=0∧xs=[])∨(4≤br∧br<c∧lv br=true∧s0=sz)
theorem LA.nil {sz:Nat}:LA sz lv c 0 0 []:=.inl ⟨rfl,rfl,rfl⟩
theorem LA.mine {sz:Nat}{xs:List AV}(h4:4≤c) (h:lv c=true):LA sz lv (c+1) c sz xs:=.inr ⟨h4,Nat.lt_succ_self _,h,rfl⟩
theorem l7 {sz bytes br s0 b2:Nat}{xs ys:List AV}(hx:evL s x=some (.sl br s0 xs)) (hy:evL s y=some (.sl b2 sz ys)) (hne:ys.isEmpty=false) (hL:LA sz lv c br s0 xs) (h0:0<sz∧0<bytes) (hr:(xs.length+ys.length)/sz*bytes≤room)
 (k:∀ lv',lv' c=true→(∀ z,z<c→z≠br→lv' z=lv z)→WpO F l ⟨af ((d,.sl c sz (xs++ys))::s) T,ah os H,E,n,lv',c+1⟩ Q):WpO F (⟨some d,.app sz bytes x y,none⟩::l) ⟨af s T,ah os H,E,n,lv,c⟩ Q:=by
 refine fB hx ?_ hy (fun H=>if_pos (.inl rfl)) h0 hr ?_ ?_ k
 ·rcases hL with ⟨h1,h2,h3⟩ | ⟨_,_,_,h⟩
  ·exact .inr ⟨h3,by omega⟩
  ·exact .inl h
 ·rcases hL with ⟨h1,h2,h3⟩ | ⟨h1,h2,h3,_⟩
  ·exact .inl ⟨h1,h3⟩
  ·exact .inr (.inr ⟨h1,h2,h3⟩)
 ·intro e;subst e;cases hne
end
end Go.Abs
/- More rules to step by: parts of an object's slice, appends of them, a store of a whole object. No condition. -/
namespace Go.Abs
section
variable {F:aE}{l:List aa}{s:List (Nat×AV)}{os:List (Nat×List AV)}{T:Nat→AV}{H:Hp}{E:Nat→Option TypeId}{n c d:Nat}{lv:Nat→Bool}{Q:St→Prop}{x y:X}{b:AV}
theorem FD {sz bytes br s0:Nat}{xs ys:List AV}(hx:evL s x=some (.sl br s0 xs)) (hs:s0=sz∨(xs=[]∧br<4)) (hy:evL s y=some b) (hb:src (ah os H) sz b=some ys) (h0:0<sz∧0<bytes) (hr:(xs.length+ys.length)/sz*bytes≤room) (ho:Own lv c br xs) (hne:ys≠[])
 (k:∀ lv',lv' c=true→(∀ z,z<c→z≠br→lv' z=lv z)→WpO F l ⟨af ((d,.sl c sz (xs++ys))::s) T,ah os H,E,n,lv',c+1⟩ Q):WpO F (⟨some d,.app sz bytes x y,none⟩::l) ⟨af s T,ah os H,E,n,lv,c⟩ Q:=by
 rcases ho with ⟨rfl,rfl⟩ | rfl | ⟨h4,hlt,hl⟩
 ·refine j2 (v:=.sl c sz ([]++ys)) rfl ?_ fun lv' h1 h2=>k lv' h1 fun z hz _=>h2 z hz
  simp only [au,aw hx,aw hy,hb]
  rw [if_pos ⟨hs.imp id fun h=>⟨trivial,h.2⟩,h0.1,h0.2,hr⟩,if_pos (.inl trivial),if_neg hne]
 ·refine j2 (v:=.sl c sz (xs++ys)) rfl ?_ fun lv' h1 h2=>k lv' h1 fun z hz _=>h2 z hz
  simp only [au,aw hx,aw hy,hb]
  rw [if_pos ⟨hs,h0.1,h0.2,hr⟩,if_pos (.inr trivial),if_neg hne]
 ·refine ig (v:=.sl c sz (xs++ys)) (br:=br) rfl ?_ k
  simp only [au,aw hx,aw hy,hb]
  rw [if_pos ⟨hs,h0.1,h0.2,hr⟩,if_neg (by omega),if_pos ⟨h4,hl⟩]
theorem B6 {id off len sz:Nat}{cs ys:List AV}(ho:lkO os id=some cs) (he:(cs.drop off).take (len*sz)=ys) (hle:off+len*sz≤cs.length) (hf:bK ys=true):src (ah os H) sz (.osl id off len sz)=some ys:=by
 simp only [src,av ho,he]
 rw [if_pos ⟨trivial,hle,hf⟩]
theorem FE {sz bytes br s0 id off len:Nat}{xs ys cs:List AV}(hx:evL s x=some (.sl br s0 xs)) (hy:evL s y=some (.osl id off len sz)) (ho:lkO os id=some cs) (he:(cs.drop off).take (len*sz)=ys) (hle:off+len*sz≤cs.length) (hf:bK ys=true) (hne:ys≠[]) (hL:LA sz lv c br s0 xs) (h0:0<sz∧0<bytes) (hr:(xs.length+ys.length)/sz*bytes≤room)
 (k:∀ lv',lv' c=true→(∀ z,z<c→z≠br→lv' z=lv z)→WpO F l ⟨af ((d,.sl c sz (xs++ys))::s) T,ah os H,E,n,lv',c+1⟩ Q):WpO F (⟨some d,.app sz bytes x y,none⟩::l) ⟨af s T,ah os H,E,n,lv,c⟩ Q:=by
 refine FD hx ?_ hy (B6 ho he hle hf) h0 hr ?_ hne k
 ·rcases hL with ⟨h1,h2,h3⟩ | ⟨_,_,_,h⟩
  ·exact .inr ⟨h3,by omega⟩
  ·exact .inl h
 ·rcases hL with ⟨h1,h2,h3⟩ | ⟨h1,h2,h3,_⟩
  ·exact .inl ⟨h1,h3⟩
  ·exact .inr (.inr ⟨h1,h2,h3⟩)
theorem xT {id off len sz q:Nat}{kk:IntKind}{i:Int}(hx:evL s x=some (.osl id off len sz)) (hy:evL s y=some (.int kk i)) (hb:asB i len=some q) (hq:q≠0)
 (k:WpO F l ⟨af ((d,.osl id off q sz)::s) T,ah os H,E,n,lv,c⟩ Q):WpO F (⟨some d,.slL sz x none (some y) none,none⟩::l) ⟨af s T,ah os H,E,n,lv,c⟩ Q:=
 bw rfl (by
  simp only [au,aw hx]
  rw [if_pos ⟨trivial,rfl⟩,gq (mx:=none) rfl (dJ hy hb) (show bL s none 0 q=some 0 from rfl)]
  simp only [if_neg (Ne.symm hq),Nat.zero_mul,Nat.add_zero,Nat.sub_zero]) k
theorem zN {id sz:Nat}{z cs:List AV}{d:Option Nat}(hx:evL s x=some (.ref id 0)) (hy:evL s y=some (.agg cs)) (ho:lkO os id=some z) (h1:cs.length=sz) (h2:z.length=sz) (hd:d=none)
 (k:WpO F l ⟨af s T,ah ((id,cs)::os) H,E,n,lv,c⟩ Q):WpO F (⟨d,.store sz x y,none⟩::l) ⟨af s T,ah os H,E,n,lv,c⟩ Q:=by
 subst hd
 refine vr (id:=id) (cs:=cs) (v:=.tup []) rfl ?_ k
 simp only [au,aw hx,aw hy,stored,av ho]
 rw [if_pos ⟨h1,by omega⟩]
 simp only [lu,cd,List.take_zero,List.nil_append,Nat.zero_add]
 rw [List.drop_of_length_le (by omega),List.append_nil]
end
end Go.Abs
/- More rules to step by: maps, regions whose stores and loads are apart, appends that make objects, calls that use brands. No condition. -/
namespace Go.Abs
section
variable {F:aE}{l:List aa}{s:List (Nat×AV)}{os:List (Nat×List AV)}{T:Nat→AV}{H:Hp}{E:Nat→Option TypeId}{n c d:Nat}{lv:Nat→Bool}{Q:St→Prop}{x y z:X}{b:AV}
theorem A8 (k:∀ E,WpO F l ⟨af ((d,.mp n)::s) T,ah ((n,[.bool true])::os) H,E,n+1,lv,c⟩ Q):WpO F (⟨some d,.mkm,none⟩::l) ⟨af s T,ah os H,E,n,lv,c⟩ Q:=
 vq (v:=.mp n) (cs:=[.bool true]) (t:=none) rfl rfl (k _)
theorem xU {kd id:Nat}{zr u:AV}{es:List AV}{r:Option AV}(hx:evL s x=some (.mp id)) (ho:lkO os id=some (.bool true::es)) (hy:evL s y=some u) (hu:u.scalar=true) (hk:Nat.blt kd 3=true) (hg:getM kd u es=some r)
 (k:WpO F l ⟨af ((d,r.getD zr)::s) T,ah os H,E,n,lv,c⟩ Q):WpO F (⟨some d,.mget kd false zr x y,none⟩::l) ⟨af s T,ah os H,E,n,lv,c⟩ Q:=
 bw rfl (by
  simp only [au,aw hx,aw hy,av ho]
  rw [if_pos ⟨by simpa using hk,hu⟩,hg]
  cases r<;>rfl) k
theorem j9 {kd id:Nat}{zr u:AV}{es:List AV}{r:Option AV}(hx:evL s x=some (.mp id)) (ho:lkO os id=some (.bool true::es)) (hy:evL s y=some u) (hu:u.scalar=true) (hk:Nat.blt kd 3=true) (hg:getM kd u es=some r)
 (k:WpO F l ⟨af ((d,.tup [r.getD zr,.bool r.isSome])::s) T,ah os H,E,n,lv,c⟩ Q):WpO F (⟨some d,.mget kd true zr x y,none⟩::l) ⟨af s T,ah os H,E,n,lv,c⟩ Q:=
 bw rfl (by
  simp only [au,aw hx,aw hy,av ho]
  rw [if_pos ⟨by simpa using hk,hu⟩,hg]
  cases r<;>rfl) k
theorem xV {kd id:Nat}{u v:AV}{es es':List AV}{d:Option Nat}(hx:evL s x=some (.mp id)) (ho:lkO os id=some (.bool true::es)) (hy:evL s y=some u) (hz:evL s z=some v) (hu:u.scalar=true) (hk:Nat.blt kd 3=true) (hv:(stored v).isSome=true) (hg:dU kd u v es=some es') (hd:d=none)
 (k:WpO F l ⟨af s T,ah ((id,.bool true::es')::os) H,E,n,lv,c⟩ Q):WpO F (⟨d,.mupd kd x y z,none⟩::l) ⟨af s T,ah os H,E,n,lv,c⟩ Q:=by
 subst hd
 refine vr (id:=id) (cs:=.bool true::es') (v:=.tup []) rfl ?_ k
 simp only [au,aw hx,aw hy,aw hz,av ho]
 rw [if_pos ⟨by simpa using hk,hu,hv⟩,hg]
theorem xW {id off:Nat}(hx:evL s x=some (.ref id off)) (k:WpO F l ⟨af ((d,.ref id off)::s) T,ah os H,E,n,lv,c⟩ Q):WpO F (⟨some d,.nchk x,none⟩::l) ⟨af s T,ah os H,E,n,lv,c⟩ Q:=
 bw rfl (by simp only [au,aw hx]) k
theorem zO {br sz s0 q:Nat}{xs:List AV}{kk kj:IntKind}(hx:evL s x=some (.sl br s0 xs)) (hbr:br≠0) (hs:s0=sz∨(xs=[]∧br<2)) (hy:evL s y=some (.int kk (q:Int))) (hz:evL s z=some (.int kj (q:Int))) (hq:q≤xs.length/sz)
 (k:WpO F l ⟨af ((d,.sl 3 sz (xs.take (q*sz)))::s) T,ah os H,E,n,lv,c⟩ Q):WpO F (⟨some d,.slL sz x none (some y) (some z),none⟩::l) ⟨af s T,ah os H,E,n,lv,c⟩ Q:=
 bw rfl (by
  have h1:asB (q:Int) (xs.length/sz)=some q:=by rw [oi (by omega) (by omega)];exact congrArg some (Int.toNat_natCast _)
  have h2:asB (q:Int) q=some q:=by rw [oi (by omega) (by omega)];exact congrArg some (Int.toNat_natCast _)
  simp only [au,aw hx]
  rw [if_pos hs,gq (mx:=some z) (dJ hz h1) (dJ hy h2) (show bL s none 0 q=some 0 from rfl)]
  simp [eo,hbr]) k
end
section
variable {F:aE}{k:Nat}{l:List aa}{s:List (Nat×AV)}{os:List (Nat×List AV)}{T:Nat→AV}{H:Hp}{E:Nat→Option TypeId}{n c:Nat}{lv:Nat→Bool}{K:Ex→St→Prop}
def rQ (s:List (Nat×AV)) (p:Nat×Nat):Bool:=match lk s p.1,lk s p.2 with
 | some (.ref a _),some (.ref b _)=>!Nat.beq a b
 | some (.ref _ _),some (.pp _ _)=>true
 | some (.pp _ _),some (.ref _ _)=>true
 | _,_=>false
theorem xX {p:Nat×Nat}(h:rQ s p=true):fN (af s T) p=true:=by
 unfold rQ at h
 split at h
 ·rename_i a o b o' h1 h2
  have e1:af s T p.1 = .ref a o:=cA h1
  have e2:af s T p.2 = .ref b o':=cA h2
  have hne:a≠b:=fun e=>by
   subst e
   have hr:Nat.beq a a=true:=Nat.beq_refl a
   rw [hr] at h;cases h
  simp only [fN,e1,e2]
  simpa using hne
 ·rename_i h1 h2
  simp only [fN,show af s T p.1=_ from cA h1,show af s T p.2=_ from cA h2]
 ·rename_i h1 h2
  simp only [fN,show af s T p.1=_ from cA h1,show af s T p.2=_ from cA h2]
 ·cases h
theorem xY {ps:List (Nat×Nat)}(h:WpO F l ⟨af s T,ah os H,E,n,lv,c⟩ (rE ps (K .norm))):Wp F k (.opsX l ps) ⟨af s T,ah os H,E,n,lv,c⟩ K:=Fu h
theorem xZ (i:Nat) (qs:List Nat) {io:aa}{ps cs:List (Nat×Nat)}(hg:l[i]? = some io) (hc:(qs.map fun q=>(i,q))=cs) (h:WpO F (l.take i) ⟨af s T,ah os H,E,n,lv,c⟩ (AtX F io (l.drop (i+1)) qs (rE ps (K .norm)))):Wp F k (.opsC l ps cs) ⟨af s T,ah os H,E,n,lv,c⟩ K:=by
 obtain ⟨hi,rfl⟩:=List.getElem?_eq_some_iff.1 hg
 have e:=Fv (k:=k) h
 have e1:l.take i++l[i]::l.drop (i+1)=l:=by rw [List.getElem_cons_drop,List.take_append_drop]
 rw [e1,show (l.take i).length=i by rw [List.length_take];omega,hc] at e
 exact e
theorem A9 {io:aa}{qs:List Nat}{Q:St→Prop}{S:St}(h:WpO F [io] S (zG F l S qs Q)):AtX F io l qs Q S:=⟨h⟩
theorem x6 {qs:List Nat}{Q:St→Prop}{S1 S2:St}(h:WpO F l S2 (vw S1 S2 qs Q)):zG F l S1 qs Q S2:=⟨h⟩
theorem tT {qs:List Nat}{Q:St→Prop}{S1 S2 S:St}(h1:∀ q,q∈qs→∃ id o,S.T q = .ref id o∧S2.H id=S1.H id) (h:Q S):vw S1 S2 qs Q S:=⟨h1,h⟩
theorem oB {ps:List (Nat×Nat)}{Q:St→Prop}(hp:ps.all (rQ s)=true) (h:Q ⟨af s T,ah os H,E,n,lv,c⟩):rE ps Q ⟨af s T,ah os H,E,n,lv,c⟩:=
 ⟨List.all_eq_true.2 fun p hp'=>xX (List.all_eq_true.1 hp p hp'),h⟩
end
end Go.Abs
/- Shared calls that use brands, and loops in them. No condition. -/
namespace Go.Abs
section
variable {F:aE}{k:Nat}{s:List (Nat×AV)}{os:List (Nat×List AV)}{T:Nat→AV}{H:Hp}{E:Nat→Option TypeId}{n c:Nat}{lv:Nat→Bool}{K:Ex→St→Prop}{a:IC}
def Ba {α:Type}(I:a8 α) (B:α→(Nat→Bool)→Nat→Prop) (R:Hp→Prop) (n:Nat) (i:α) (S:St):Prop:=I.P i∧∃ lv c,B i lv c∧R S.H∧oa (I.ts i) (I.os i) n lv c S
structure qA {α:Type}(I:a8 α) (B:α→(Nat→Bool)→Nat→Prop) (R:Hp→Prop) (n m:Nat) (K:Ex→St→Prop) (e:Ex) (S:St):Prop where
 h:match e with
  | .norm=>∃ j,I.μ j<m∧Ba I B R n j (pop n S)
  | e=>K e S
theorem tU {α:Type}(I:a8 α) (B:α→(Nat→Bool)→Nat→Prop) (R:Hp→Prop) (i:α) (hP:I.P i) (hB:B i lv c) (hR:R (ah os H)) (hμ:I.μ i<k) (h1:gE s (I.ts i)) (h2:fE os (I.os i))
 (round:∀ i lv c T H E,I.P i→B i lv c→R (ah (I.os i) H)→I.μ i<k→Wp F k a ⟨af (I.ts i) T,ah (I.os i) H,E,n,lv,c⟩ (qA I B R n (I.μ i) K)):Wp F k (.loop a) ⟨af s T,ah os H,E,n,lv,c⟩ K:=by
 have key:∀ (m:Nat) (i:α) (S:St),Ba I B R n i S→I.μ i<m→m≤k→∃ e S',cg (ar F k a) n m S=some (e,S')∧K e S':=by
  intro m
  induction m with
  | zero=>intro i S _ h;omega
  | succ m ih=>
   rintro i S ⟨hP,lv,c,hB,hR,T,H,E,rfl⟩ hlt hmk
   obtain ⟨e,S1,q1,q2⟩:=(round i lv c T H E hP hB hR (by omega)).ex
   cases e with
   | norm=>
    obtain ⟨j,hj,hh⟩:=q2.h
    obtain ⟨e2,S2,r1,r2⟩:=ih j _ hh (by omega) (by omega)
    exact ⟨e2,S2,by simp only [cg,q1];exact r1,r2⟩
   | exit id=>exact ⟨.exit id,S1,by simp only [cg,q1],q2.h⟩
   | ret=>exact ⟨.ret,S1,by simp only [cg,q1],q2.h⟩
 obtain ⟨e,S',r1,r2⟩:=key k i _ ⟨hP,lv,c,hB,hR,kI (ox h1) (mB h2)⟩ hμ (Nat.le_refl _)
 exact ⟨e,S',by simp only [ar];exact r1,r2⟩
theorem ka {α:Type}{I:a8 α}{B:α→(Nat→Bool)→Nat→Prop}{R:Hp→Prop}{m n':Nat}(j:α) (hP:I.P j) (hB:B j lv c) (hR:R (aV n (ah os H))) (hμ:I.μ j<m) (h1:l5 n s (I.ts j)) (h2:j8 n os (I.os j)):qA I B R n m K .norm ⟨af s T,ah os H,E,n',lv,c⟩:=
 ⟨j,hμ,hP,lv,c,hB,hR,lR (rO h1) (pc h2)⟩
theorem oC {α:Type}{I:a8 α}{B:α→(Nat→Bool)→Nat→Prop}{R:Hp→Prop}{m id:Nat}{S:St}(h:K (.exit id) S):qA I B R n m K (.exit id) S:=⟨h⟩
theorem vK {α:Type}{I:a8 α}{B:α→(Nat→Bool)→Nat→Prop}{R:Hp→Prop}{m:Nat}{S:St}(h:K .ret S):qA I B R n m K .ret S:=⟨h⟩
structure dx (F:aE) (f:FuncId) (args:List AV) (os:List (Nat×List AV)) (H:Hp) (n:Nat) (lv:Nat→Bool) (c:Nat) (E:Nat→Option TypeId) (R:AV) (id:Nat) (V:List AV→Prop):Prop where
 ex:∃ H' lv' c',F f args ⟨ah os H,n,lv,c⟩ E=some (R,⟨H',n,lv',c'⟩)∧c≤c'∧V (H' id)∧∀ j,j<n→j≠id→H' j=aV n (ah os H) j
theorem jD {FN:FuncId→Option cr}{f:FuncId}{fn:IFn}{vs:List AV}{R:AV}{id:Nat}{V:List AV→Prop}(hid:id<n) (hf:FN f=some (.code fn))
 (h:∀ (T:Nat→AV),Wp (ab FN k) k fn.body ⟨af (cL 0 vs) T,ah os H,E,n,lv,c⟩ (jR fn n fun r hs=>r=R∧∃ H' lv' c',hs=⟨trim n H',n,lv',c'⟩∧c≤c'∧V (H' id)∧bJ n (H' id)=true∧∀ j,j<n→j≠id→aV n H' j=aV n (ah os H) j)):dx (ab FN (k+1)) f vs os H n lv c E R id V:=by
 obtain ⟨r,hs,h1,rfl,H',lv',c',rfl,hc,h2,hu,h3⟩:=pd hf h
 refine ⟨trim n H',lv',c',h1,hc,?_,fun j hj hne=>?_⟩
 ·simp only [trim,if_pos hid,aV,if_pos hu];exact h2
 ·simp only [trim,if_pos hj];exact h3 j hj hne
theorem dx.fuel {FN:FuncId→Option cr}{k1 k2:Nat}{f:FuncId}{vs:List AV}{R:AV}{id:Nat}{V:List AV→Prop}(h:dx (ab FN k1) f vs os H n lv c E R id V) (hk:k1≤k2):dx (ab FN k2) f vs os H n lv c E R id V:=by
 obtain ⟨H',lv',c',h1,h2⟩:=h.ex
 exact ⟨H',lv',c',(jQ (fun _ _ h=>h) k1 k2 hk).call _ _ _ _ _ h1,h2⟩
theorem aU.fuel {FN:FuncId→Option cr}{k1 k2:Nat}{f:FuncId}{vs:List AV}{R:AV}{id:Nat}{v:List AV}(h:aU (ab FN k1) f vs os H n lv c E R id v) (hk:k1≤k2):aU (ab FN k2) f vs os H n lv c E R id v:=by
 obtain ⟨H',h1,h2⟩:=h.ex
 exact ⟨H',(jQ (fun _ _ h=>h) k1 k2 hk).call _ _ _ _ _ h1,h2⟩
end
section
variable {F:aE}{l:List aa}{s:List (Nat×AV)}{os:List (Nat×List AV)}{T:Nat→AV}{H:Hp}{E:Nat→Option TypeId}{n c d:Nat}{lv:Nat→Bool}{Q:St→Prop}
theorem zP {f:FuncId}{x:X}{xs:List X}{fs args:List AV}{R:AV}{id:Nat}{V:List AV→Prop}{os':List AV→List (Nat×List AV)}(hf:evL s x=some (.fn f fs [])) (ha:gG s xs=some args) (hc:∀ H E,dx F f (fs++args) os H n lv c E R id V) (hx:∀ v,V v→iA n id v os (os' v))
 (k:∀ v H lv' c',V v→c≤c'→WpO F l ⟨af ((d,R)::s) T,ah (os' v) H,E,n,lv',c'⟩ Q) :
 WpO F (⟨some d,.callv x xs,none⟩::l) ⟨af s T,ah os H,E,n,lv,c⟩ Q:=by
 obtain ⟨H',lv',c',h1,hcc,h2,h3⟩:=(hc H E).ex
 have hargs:xs.map (ev (af s T))=args:=by
  replace ha:=dK ha
  clear hc hx k h1
  induction xs generalizing args with
  | nil=>simp at ha;simp [ha]
  | cons x xs ih=>
   rw [List.mapM_cons] at ha
   simp only [Option.bind_eq_bind,Option.bind_eq_some_iff,Option.pure_def,Option.some.injEq] at ha
   obtain ⟨u,hu,r,hr,rfl⟩:=ha
   simp only [List.map_cons,aw hu,ih hr]
 refine dC (S1:=⟨cF (af s T) (some d) R,H',E,n,lv',c'⟩) ?_ ?_
 ·simp only [bA,bW,bg,aR,aw hf,hargs,List.append_nil,h1,if_true]
 ·have:=k (H' id) H' lv' c' h2 hcc
  rwa [dZ (l6 rfl h3 (hx _ h2))] at this
theorem az.cons {n0 id i:Nat}{v:List AV}{H0:Hp}(h:az n0 id H0 (Go.Abs.ah os H)) (hi:(Nat.beq i id||Nat.ble n0 i)=true):az n0 id H0 (Go.Abs.ah ((i,v)::os) H):=
 az.upd h ((Bool.or_eq_true _ _▸hi).imp Nat.eq_of_beq_eq_true Nat.le_of_ble_eq_true)
theorem ee {f:FuncId}{xs:List X}{args:List AV}{R:AV}{id n0:Nat}{v:List AV}{H0:Hp}{os':List (Nat×List AV)}(ha:gG s xs=some args) (hc:∀ H E,aU F f args os H n lv c E R id v) (hx:iA n id v os os') (hS:az n0 id H0 (ah os H)) (hn:n0≤n)
 (k:∀ H',az n0 id H0 (ah os' H')→WpO F l ⟨af ((d,R)::s) T,ah os' H',E,n,lv,c⟩ Q) :
 WpO F (⟨some d,.calls f xs,none⟩::l) ⟨af s T,ah os H,E,n,lv,c⟩ Q:=by
 obtain ⟨H',h1,h2,h3⟩:=(hc H E).ex
 have e:ah os' H'=H':=dZ (l6 h2 h3 hx)
 have hS':az n0 id H0 H':=hS.after hn h3
 have:=k H' (by rw [e];exact hS')
 rw [e] at this
 exact j7 (dd:=some d) (dK ha) h1 this
end
end Go.Abs
/- An append of anything, to a list of one's own. No condition. -/
namespace Go.Abs
section
variable {F:aE}{l:List aa}{s:List (Nat×AV)}{os:List (Nat×List AV)}{T:Nat→AV}{H:Hp}{E:Nat→Option TypeId}{n c d:Nat}{lv:Nat→Bool}{Q:St→Prop}{x y:X}{b:AV}
def l8 (lv:Nat→Bool) (c br:Nat):Prop:=br=3∨(4≤br∧br<c∧lv br=true)
theorem l8.three {lv:Nat→Bool}{c:Nat}:l8 lv c 3:=.inl rfl
theorem l8.ne1 {lv:Nat→Bool}{c br:Nat}(h:l8 lv c br):br≠1:=by rcases h with h | h<;>omega
theorem oD {sz bytes br:Nat}{xs ys:List AV}(hx:evL s x=some (.sl br sz xs)) (hy:evL s y=some b) (hb:∀ H,src H sz b=some ys) (h0:0<sz∧0<bytes) (hr:(xs.length+ys.length)/sz*bytes≤room) (ho:l8 lv c br) (h4:4≤c)
 (k:∀ br' lv' c',c≤c'→l8 lv' c' br'→(∀ z,z<c→z≠br→lv' z=lv z)→WpO F l ⟨af ((d,.sl br' sz (xs++ys))::s) T,ah os H,E,n,lv',c'⟩ Q):WpO F (⟨some d,.app sz bytes x y,none⟩::l) ⟨af s T,ah os H,E,n,lv,c⟩ Q:=by
 have more:ys≠[]→Own lv c br xs→WpO F (⟨some d,.app sz bytes x y,none⟩::l) ⟨af s T,ah os H,E,n,lv,c⟩ Q:=fun hne hw=>
  fB hx (.inl rfl) hy hb h0 hr hw hne fun lv' l1 l2=>k c lv' (c+1) (by omega) (.inr ⟨h4,by omega,l1⟩) l2
 rcases ho with rfl | ⟨g1,g2,g3⟩
 ·by_cases hne:ys=[]
  ·subst hne
   refine p6 hx (.inl rfl) hy hb h0 (by simpa using hr) (.inr rfl) ?_
   have:=k 3 lv c (Nat.le_refl _) (.inl rfl) (fun _ _ _=>rfl)
   rwa [List.append_nil] at this
  ·exact more hne (.inr (.inl rfl))
 ·by_cases hne:ys=[]
  ·subst hne
   refine ig (v:=.sl c sz (xs++[])) (br:=br) rfl ?_ fun lv' l1 l2=>k c lv' (c+1) (by omega) (.inr ⟨h4,by omega,l1⟩) l2
   simp only [au,aw hx,aw hy,hb]
   rw [if_pos ⟨.inl trivial,h0.1,h0.2,hr⟩,if_neg (by omega),if_pos ⟨g1,g3⟩]
  ·exact more hne (.inr (.inr ⟨g1,g2,g3⟩))
structure kP (lv:Nat→Bool) (c br:Nat):Prop where
 ge:4≤br
 lt:br<c
 on:lv br=true
theorem x7 {sz bytes br:Nat}{xs ys:List AV}(hx:evL s x=some (.sl br sz xs)) (hy:evL s y=some b) (hb:∀ H,src H sz b=some ys) (h0:0<sz∧0<bytes) (hr:(xs.length+ys.length)/sz*bytes≤room) (ho:kP lv c br) (h4:4≤c)
 (k:∀ lv',kP lv' (c+1) c→(∀ z,z<c→z≠br→lv' z=lv z)→WpO F l ⟨af ((d,.sl c sz (xs++ys))::s) T,ah os H,E,n,lv',c+1⟩ Q):WpO F (⟨some d,.app sz bytes x y,none⟩::l) ⟨af s T,ah os H,E,n,lv,c⟩ Q:=by
 refine ig (v:=.sl c sz (xs++ys)) (br:=br) rfl ?_ fun lv' l1 l2=>k lv' ⟨h4,by omega,l1⟩ l2
 simp only [au,aw hx,aw hy,hb]
 have:=ho.ge
 rw [if_pos ⟨.inl trivial,h0.1,h0.2,hr⟩,if_neg (by omega),if_pos ⟨ho.ge,ho.on⟩]
theorem kP.own {lv:Nat→Bool}{c br sz:Nat}{xs:List AV}(h:kP lv c br):aO true lv (.sl br sz xs) = .sl 2 sz xs:=by
 have:=h.ge
 simp only [aO]
 rw [if_neg (by omega),if_pos ⟨h.ge,by rw [h.on];rfl⟩]
theorem kP.canon {lv:Nat→Bool}{c br sz:Nat}{xs:List AV}(h:kP lv c br):aF (.sl br sz xs)=csl sz xs:=if_neg (by have:=h.ge;omega)
end
end Go.Abs
/- Stepping rules that choose by themselves: one that goes on in one way, one that goes on in two. No condition. -/
namespace Go.Abs
structure ny (A:Prop):Prop where
 a:A
theorem stN {A B:Prop}(a:A) (h:ny A→B:=by
 intro hA
 first
  | (apply AK;exact hA.a)
  | (apply AP;exact rfl;exact hA.a)
  | (apply xy;(iterate 4 exact rfl);exact hA.a)
  | (apply eG;exact rfl;exact rfl;(first | (with_reducible first | assumption | exact iC (by omega) | exact xK (by omega) | exact xL (by omega) | exact oy (by omega) | exact xM (by omega) | exact xN (by omega) | exact xO (by omega) | exact xP (by omega) | exact oz (by omega) | exact iD (by omega) | exact rP (by omega) | exact oA (by omega) | exact gF (by omega) | exact kN (by omega) | exact kO (by omega) | exact mz (by omega) | exact mA (by omega) | exact om (by omega) | exact vE (by omega) | exact oo (by omega) | exact oq (by omega) | exact ot (by omega) | exact vF (by omega) | exact vG (by omega) | exact qx (by omega) | exact vH (by omega) | exact ou (by omega)) | exact rfl);exact hA.a)
  | (apply xB;exact rfl;exact hA.a)
  | (apply AQ;exact rfl;exact rfl;exact hA.a)
  | (apply xE;(iterate 4 exact rfl);exact hA.a)
  | (apply AR;exact hA.a)
  | (apply tJ;(iterate 3 exact rfl);(first | with_reducible assumption | exact rfl);exact rfl;exact rfl;exact hA.a)
  | (apply tO;exact rfl;(first | with_reducible assumption | with_reducible exact w64 (by omega) (by omega) | with_reducible exact w32 (by omega) (by omega) | with_reducible exact w8n _);exact hA.a)
  | (apply xA;exact rfl;exact hA.a)
  | (apply AU;exact rfl;(first | exact dD _ _ | exact .inl rfl | exact .inr rfl | assumption);exact hA.a)
  | (apply pT;exact rfl;exact hA.a)
  | (apply xC;exact rfl;exact hA.a)
  | (apply AT;exact rfl;exact rfl;exact hA.a)
  | (apply tK;exact rfl;exact rfl;exact hA.a)
  | (apply AZ;(iterate 4 exact rfl);(first | exact rfl | (simp only [List.length_cons,List.length_nil];exact rfl));exact hA.a)
  | (apply Fx;exact rfl;exact rfl;exact hA.a)
  | (apply oe;exact rfl;exact rfl;(first | assumption);exact hA.a)
  | (apply AY;exact rfl;exact rfl;(first | exact dD _ _ | exact .inl rfl | assumption);(first | with_reducible assumption | with_reducible exact aZ (by simp only [List.length_map,List.length_cons,List.length_nil];omega) | with_reducible exact aZ (by omega) | with_reducible exact ek (by simp only [List.length_map];omega) | with_reducible exact ek (by omega) | exact rfl);exact hA.a)
  | (apply AW;exact rfl;exact rfl;(first | with_reducible assumption | with_reducible exact aZ (by simp only [List.length_map,List.length_cons,List.length_nil];omega) | with_reducible exact aZ (by omega) | with_reducible exact ek (by simp only [List.length_map];omega) | with_reducible exact ek (by omega) | exact rfl);exact hA.a)
  | (apply rK;exact rfl;exact rfl;(first | with_reducible assumption | with_reducible exact aZ (by simp only [List.length_map,List.length_cons,List.length_nil];omega) | with_reducible exact aZ (by omega) | with_reducible exact ek (by simp only [List.length_map];omega) | with_reducible exact ek (by omega) | exact rfl);exact hA.a)
  | (apply pQ;exact rfl;(first | with_reducible assumption | exact rfl);exact hA.a)
  | (apply pR;(iterate 3 exact rfl);exact hA.a)
  | (apply pU;exact rfl;exact hA.a)
  | (apply pV;exact rfl;exact hA.a)
  | (apply AX;exact rfl;(first | with_reducible assumption | exact ⟨rfl,by omega,by omega,by omega⟩);exact hA.a)
  | (apply pW;exact rfl;(first | with_reducible assumption | exact ⟨rfl,by omega,by omega⟩);exact hA.a)
  | (apply pS;exact rfl;exact hA.a)
  | (apply pX;exact rfl;exact rfl;(first | with_reducible assumption | with_reducible exact aZ (by simp only [List.length_map,List.length_cons,List.length_nil];omega) | with_reducible exact aZ (by omega) | with_reducible exact ek (by simp only [List.length_map];omega) | with_reducible exact ek (by omega) | exact rfl);exact hA.a)
  | (apply lZ;exact rfl;exact rfl;(first | with_reducible assumption | with_reducible exact cx (by simp only [List.length_map];omega) | with_reducible exact cx (by omega) | with_reducible exact fF (by omega));(first | with_reducible assumption | omega);exact hA.a)
  | (apply m9;exact rfl;exact rfl;(first | with_reducible assumption | with_reducible exact cx (by simp only [List.length_map];omega) | with_reducible exact cx (by omega) | with_reducible exact fF (by omega));(first | with_reducible assumption | omega);(first | with_reducible assumption | (simp only [List.length_map];omega));exact hA.a)
  | (apply pZ;exact rfl;exact rfl;(first | with_reducible assumption | with_reducible exact cx (by simp only [List.length_map];omega) | with_reducible exact cx (by omega) | with_reducible exact fF (by omega) | with_reducible exact fF (by simp only [List.length_cons,List.length_nil,Nat.div_one];omega));exact hA.a)
  | (apply jC;exact rfl;exact rfl;(first | with_reducible assumption | with_reducible exact cx (by simp only [List.length_map];omega) | with_reducible exact cx (by omega) | with_reducible exact fF (by omega) | with_reducible exact fF (by simp only [List.length_cons,List.length_nil,Nat.div_one];omega));exact hA.a)
  | (apply A4;exact rfl;exact rfl;exact hA.a)
  | (apply A8;exact hA.a)
  | (apply xW;exact rfl;exact hA.a)
  | (apply xU;(iterate 5 exact rfl);(first | with_reducible assumption | exact rfl);exact hA.a)
  | (apply j9;(iterate 5 exact rfl);(first | with_reducible assumption | exact rfl);exact hA.a)
  | (apply xV;(iterate 7 exact rfl);(first | with_reducible assumption | exact rfl);exact rfl;exact hA.a)
  | (apply xY;exact hA.a)
  | (apply oB;exact rfl;exact hA.a)
  | (apply zJ;(iterate 3 exact rfl);exact hA.a)
  | (apply AS;(iterate 3 exact rfl);exact hA.a)
  | (apply m7;exact rfl;exact hA.a)
  | (apply og;exact rfl;exact rfl;exact hA.a)
  | (apply lW;exact rfl;exact hA.a)
  | (apply m6;exact rfl;exact rfl;exact hA.a)
  | (apply lV;exact rfl;exact rfl;exact hA.a)
  | (apply mZ;(iterate 3 exact rfl);exact hA.a)
  | (apply AN;exact hA.a)
  | (apply AM;exact hA.a)
  | (apply xv;exact hA.a)
  | (apply xw;exact hA.a)
  | (apply AO;exact hA.a)
  | (apply AL;exact hA.a)
  | (apply xu;exact hA.a)
  | (apply xq;exact hA.a)
  | (apply tD;exact hA.a)
  | (apply rH;exact hA.a)
  | (apply n9;exact hA.a)
  | (apply aM;exact hA.a)
  | (apply tF;exact rfl;exact hA.a)
  | (apply m8;exact rfl;exact hA.a)
  | (apply lX;exact rfl;exact hA.a)
  | (apply A6;exact rfl;exact rfl;exact hA.a)
  | (apply A7;exact rfl;exact rfl;exact hA.a)
  | (apply oj;exact rfl;exact rfl;exact rfl;(first | (with_reducible assumption) | exact cx (by omega));(first | (with_reducible assumption) | exact cx (by omega));exact hA.a)
  | (apply xS;exact rfl;exact rfl;(with_reducible assumption);exact hA.a)
  | (apply vA;exact rfl;exact rfl;decide;exact rfl;exact hA.a)
  | (apply rM;exact rfl;exact rfl;(first | (with_reducible assumption) | exact cx (by omega));exact hA.a)
  | (apply rN;exact rfl;exact rfl;(first | (with_reducible assumption) | exact cx (by omega));exact hA.a)):B:=h ⟨a⟩
theorem stM {A B:Prop}(a:A) (h:ny A→B:=by
 intro hA
 first
  | (apply AK;exact hA.a)
  | (apply AP;exact rfl;exact hA.a)
  | (apply xy;(iterate 4 exact rfl);exact hA.a)
  | (apply eG;exact rfl;exact rfl;(first | (with_reducible first | assumption | exact iC (by omega) | exact xK (by omega) | exact xL (by omega) | exact oy (by omega) | exact xM (by omega) | exact xN (by omega) | exact xO (by omega) | exact xP (by omega) | exact oz (by omega) | exact iD (by omega) | exact rP (by omega) | exact oA (by omega) | exact gF (by omega) | exact kN (by omega) | exact kO (by omega) | exact mz (by omega) | exact mA (by omega) | exact om (by omega) | exact vE (by omega) | exact oo (by omega) | exact oq (by omega) | exact ot (by omega) | exact vF (by omega) | exact vG (by omega) | exact qx (by omega) | exact vH (by omega) | exact ou (by omega)));exact hA.a)
  | (apply xB;exact rfl;exact hA.a)
  | (apply AQ;exact rfl;exact rfl;exact hA.a)
  | (apply xE;(iterate 4 exact rfl);exact hA.a)
  | (apply AR;exact hA.a)
  | (apply tJ;(iterate 3 exact rfl);(first | with_reducible assumption | exact rfl);exact rfl;exact rfl;exact hA.a)
  | (apply tO;exact rfl;(first | with_reducible assumption | with_reducible exact w64 (by omega) (by omega) | with_reducible exact w32 (by omega) (by omega) | with_reducible exact w8n _);exact hA.a)
  | (apply xA;exact rfl;exact hA.a)
  | (apply AU;exact rfl;(first | exact dD _ _ | exact .inl rfl | exact .inr rfl | assumption);exact hA.a)
  | (apply pT;exact rfl;exact hA.a)
  | (apply xC;exact rfl;exact hA.a)
  | (apply AT;exact rfl;exact rfl;exact hA.a)
  | (apply tK;exact rfl;exact rfl;exact hA.a)
  | (apply AZ;(iterate 4 exact rfl);(first | exact rfl | (simp only [List.length_cons,List.length_nil];exact rfl));exact hA.a)
  | (apply Fx;exact rfl;exact rfl;exact hA.a)
  | (apply oe;exact rfl;exact rfl;(first | assumption);exact hA.a)
  | (apply AY;exact rfl;exact rfl;(first | exact dD _ _ | exact .inl rfl | assumption);(first | with_reducible assumption | with_reducible exact aZ (by simp only [List.length_map,List.length_cons,List.length_nil];omega) | with_reducible exact aZ (by omega) | with_reducible exact ek (by simp only [List.length_map];omega) | with_reducible exact ek (by omega) | exact rfl);exact hA.a)
  | (apply AW;exact rfl;exact rfl;(first | with_reducible assumption | with_reducible exact aZ (by simp only [List.length_map,List.length_cons,List.length_nil];omega) | with_reducible exact aZ (by omega) | with_reducible exact ek (by simp only [List.length_map];omega) | with_reducible exact ek (by omega) | exact rfl);exact hA.a)
  | (apply rK;exact rfl;exact rfl;(first | with_reducible assumption | with_reducible exact aZ (by simp only [List.length_map,List.length_cons,List.length_nil];omega) | with_reducible exact aZ (by omega) | with_reducible exact ek (by simp only [List.length_map];omega) | with_reducible exact ek (by omega) | exact rfl);exact hA.a)
  | (apply pQ;exact rfl;(first | with_reducible assumption | exact rfl);exact hA.a)
  | (apply pR;(iterate 3 exact rfl);exact hA.a)
  | (apply pU;exact rfl;exact hA.a)
  | (apply pV;exact rfl;exact hA.a)
  | (apply AX;exact rfl;(first | with_reducible assumption | exact ⟨rfl,by omega,by omega,by omega⟩);exact hA.a)
  | (apply pW;exact rfl;(first | with_reducible assumption | exact ⟨rfl,by omega,by omega⟩);exact hA.a)
  | (apply pS;exact rfl;exact hA.a)
  | (apply pX;exact rfl;exact rfl;(first | with_reducible assumption | with_reducible exact aZ (by simp only [List.length_map,List.length_cons,List.length_nil];omega) | with_reducible exact aZ (by omega) | with_reducible exact ek (by simp only [List.length_map];omega) | with_reducible exact ek (by omega) | exact rfl);exact hA.a)
  | (apply lZ;exact rfl;exact rfl;(first | with_reducible assumption | with_reducible exact cx (by simp only [List.length_map];omega) | with_reducible exact cx (by omega) | with_reducible exact fF (by omega));(first | with_reducible assumption | omega);exact hA.a)
  | (apply m9;exact rfl;exact rfl;(first | with_reducible assumption | with_reducible exact cx (by simp only [List.length_map];omega) | with_reducible exact cx (by omega) | with_reducible exact fF (by omega));(first | with_reducible assumption | omega);(first | with_reducible assumption | (simp only [List.length_map];omega));exact hA.a)
  | (apply pZ;exact rfl;exact rfl;(first | with_reducible assumption | with_reducible exact cx (by simp only [List.length_map];omega) | with_reducible exact cx (by omega) | with_reducible exact fF (by omega) | with_reducible exact fF (by simp only [List.length_cons,List.length_nil,Nat.div_one];omega));exact hA.a)
  | (apply jC;exact rfl;exact rfl;(first | with_reducible assumption | with_reducible exact cx (by simp only [List.length_map];omega) | with_reducible exact cx (by omega) | with_reducible exact fF (by omega) | with_reducible exact fF (by simp only [List.length_cons,List.length_nil,Nat.div_one];omega));exact hA.a)
  | (apply A4;exact rfl;exact rfl;exact hA.a)
  | (apply A8;exact hA.a)
  | (apply xW;exact rfl;exact hA.a)
  | (apply xU;(iterate 5 exact rfl);(first | with_reducible assumption | exact rfl);exact hA.a)
  | (apply j9;(iterate 5 exact rfl);(first | with_reducible assumption | exact rfl);exact hA.a)
  | (apply xV;(iterate 7 exact rfl);(first | with_reducible assumption | exact rfl);exact rfl;exact hA.a)
  | (apply xY;exact hA.a)
  | (apply oB;exact rfl;exact hA.a)
  | (apply zJ;(iterate 3 exact rfl);exact hA.a)
  | (apply AS;(iterate 3 exact rfl);exact hA.a)
  | (apply m7;exact rfl;exact hA.a)
  | (apply og;exact rfl;exact rfl;exact hA.a)
  | (apply lW;exact rfl;exact hA.a)
  | (apply m6;exact rfl;exact rfl;exact hA.a)
  | (apply lV;exact rfl;exact rfl;exact hA.a)
  | (apply mZ;(iterate 3 exact rfl);exact hA.a)
  | (apply AN;exact hA.a)
  | (apply AM;exact hA.a)
  | (apply xv;exact hA.a)
  | (apply xw;exact hA.a)
  | (apply AO;exact hA.a)
  | (apply AL;exact hA.a)
  | (apply xu;exact hA.a)
  | (apply xq;exact hA.a)
  | (apply tD;exact hA.a)
  | (apply rH;exact hA.a)
  | (apply n9;exact hA.a)
  | (apply aM;exact hA.a)
  | (apply tF;exact rfl;exact hA.a)
  | (apply m8;exact rfl;exact hA.a)
  | (apply lX;exact rfl;exact hA.a)
  | (apply A6;exact rfl;exact rfl;exact hA.a)
  | (apply A7;exact rfl;exact rfl;exact hA.a)
  | (apply oj;exact rfl;exact rfl;exact rfl;(first | (with_reducible assumption) | exact cx (by omega));(first | (with_reducible assumption) | exact cx (by omega));exact hA.a)
  | (apply xS;exact rfl;exact rfl;(with_reducible assumption);exact hA.a)
  | (apply vA;exact rfl;exact rfl;decide;exact rfl;exact hA.a)
  | (apply rM;exact rfl;exact rfl;(first | (with_reducible assumption) | exact cx (by omega));exact hA.a)
  | (apply rN;exact rfl;exact rfl;(first | (with_reducible assumption) | exact cx (by omega));exact hA.a)):B:=h ⟨a⟩
theorem stB {A B:Prop}(a:A) (h:ny A→B:=by
 intro hA
 first
  | (apply eG;(iterate 3 exact rfl);exact hA.a)):B:=h ⟨a⟩
theorem stS {A B C:Prop}(a:A) (b:B) (h:ny A→ny B→C:=by
 intro hA hB
 first
  | (apply tc;exact rfl;exact rfl;exact hA.a;exact hB.a)
  | (apply te;exact rfl;exact rfl;exact hA.a;exact hB.a)
  | (apply tf;exact rfl;exact rfl;exact hA.a;exact hB.a)
  | (apply tg;exact rfl;exact rfl;exact hA.a;exact hB.a)
  | (apply th;exact rfl;exact rfl;exact hA.a;exact hB.a)
  | (apply ti;exact rfl;exact rfl;exact hA.a;exact hB.a)):C:=h ⟨a⟩ ⟨b⟩
theorem stG {A B C:Prop}(a:A) (b:B) (h:ny A→ny B→C:=by
 intro hA hB
 first
  | (apply B0;exact rfl;exact hA.a;exact hB.a)
  | (apply Fz;exact rfl;exact hA.a;exact hB.a)):C:=h ⟨a⟩ ⟨b⟩
end Go.Abs
/- Short names for resolved code. Definitions alone. -/
namespace Go.O
open Go.Abs
abbrev t (n:Nat):X:=.t n
abbrev v (x:AV):X:=.c x
abbrev i (n:Int):X:=.c (.int .i64 n)
abbrev w (n:Int):X:=.c (.int .u32 n)
abbrev y (n:Int):X:=.c (.int .u8 n)
abbrev I:AV:=.int .i64 0
abbrev U:AV:=.int .u32 0
abbrev Y:AV:=.int .u8 0
abbrev B:AV:=.bool false
abbrev N:AV:=.sl 0 0 []
abbrev E:AV:=.str []
abbrev op (d:Nat) (o:IOp):aa:=⟨some d,o,none⟩
abbrev op0 (o:IOp):aa:=⟨none,o,none⟩
abbrev g (n:Nat) (b:Bool) (o:aa):aa:=⟨o.dst,o.op,some (n,b)⟩
abbrev m (d a:Nat):aa:=⟨some d,.mov (.t a),none⟩
abbrev mc (d:Nat) (x:X):aa:=⟨some d,.mov x,none⟩
abbrev l (d a:Nat):aa:=⟨some d,.load 1 false (.t a),none⟩
abbrev la (d n a:Nat):aa:=⟨some d,.load n true (.t a),none⟩
abbrev s (a b:Nat):aa:=⟨none,.store 1 (.t a) (.t b),none⟩
abbrev sn (n a b:Nat):aa:=⟨none,.store n (.t a) (.t b),none⟩
abbrev f (d o a:Nat):aa:=⟨some d,.fadd o (.t a),none⟩
abbrev b (d:Nat) (o:BinOp) (x y:X):aa:=⟨some d,.bin o x y,none⟩
abbrev x (d k a:Nat):aa:=⟨some d,.box k (.t a),none⟩
abbrev nw (d k:Nat) (z:List AV):aa:=⟨some d,.new k z,none⟩
abbrev e (d a k:Nat):aa:=⟨some d,.ext (.t a) k,none⟩
abbrev c (d k:Nat) (l:List X):aa:=⟨some d,.callp 0 k l,none⟩
abbrev cv (d:Nat) (k:IntKind) (a:Nat):aa:=⟨some d,.conv k (.t a),none⟩
abbrev n (d z a:Nat):aa:=⟨some d,.len z (.t a),none⟩
abbrev ns (d a:Nat):aa:=⟨some d,.lenS (.t a),none⟩
abbrev is (d z a:Nat) (y:X):aa:=⟨some d,.iaS z (.t a) y,none⟩
abbrev ia (d k z a:Nat) (y:X):aa:=⟨some d,.iaA k z (.t a) y,none⟩
abbrev fd (d o z:Nat) (g:Bool) (a:Nat):aa:=⟨some d,.fld o z g (.t a),none⟩
abbrev bd (d:Nat) (z:List AV) (p:List (Nat×Nat×X)):aa:=⟨some d,.build z p,none⟩
abbrev bs (d z:Nat) (l:List AV) (p:List (Nat×Nat×X)):aa:=⟨some d,.bsl false z l p,none⟩
abbrev ap (d z k a b:Nat):aa:=⟨some d,.app z k (.t a) (.t b),none⟩
abbrev q (a b:IC):IC:=.seq a b
abbrev o (l:List aa):IC:=.ops false l
abbrev od (l:List aa):IC:=.ops true l
abbrev k (n:Nat) (a b:IC):IC:=.cond (.t n) a b
abbrev bl (n:Nat) (a:IC):IC:=.block n a
abbrev lp (a:IC):IC:=.loop a
abbrev ex (n:Nat):IC:=.exit n
abbrev R:IC:=.ret
abbrev K:IC:=.skip
end Go.O
/- A call whose result gets a brand. No condition. -/
namespace Go.Abs
section
variable {F:aE}{l:List aa}{s:List (Nat×AV)}{os:List (Nat×List AV)}{T:Nat→AV}{H:Hp}{E:Nat→Option TypeId}{n c d:Nat}{lv:Nat→Bool}{Q:St→Prop}
theorem tV {f:FuncId}{xs:List X}{args:List AV}{r:AV}{sz:Nat}{ys:List AV}(ha:iW s xs=some args) (hf:bK args=true) (hc:evP F f args=some r) (ho:eM (leaves r)=some (sz,ys)) (hall:(leaves r).all (fun v=>v.scalar||db v)=true) (hone:((leaves r).filter db).length=1)
 (k:∀ lv',lv' c=true→(∀ z,z<c→lv' z=lv z)→WpO F l ⟨af ((d,aA (bB 1 n c) r)::s) T,ah os H,E,n,lv',c+1⟩ Q):WpO F (⟨some d,.callp 1 f xs,none⟩::l) ⟨af s T,ah os H,E,n,lv,c⟩ Q:=by
 refine dC (S1:=⟨upd (af s T) d (aA (bB 1 n c) r),ah os H,E,n,fun b=>if c≤b∧b<c+1 then true else lv b,c+1⟩) ?_ (k _ ?_ ?_)
 ·have hadopt:gv 1 n c r=some { v:=aA (bB 1 n c) r,nb:=1 }:=by
   unfold gv
   rw [if_neg (by omega),ho]
   simp only [hall,hone]
   rw [if_pos ⟨trivial,trivial⟩,if_pos trivial]
  simp [bA,bW,bg,aR,nx ha,hf,hc,hadopt,Eff.st,cF]
 ·simp
 ·intro b hb;simp;omega
theorem B7 {br sz:Nat}{xs:List AV}{x:X}(hx:evL s x=some (.sl br sz xs)) (h:br≠1):iW s [x]=some [csl sz xs]:=by
 have e:Nat.beq br 1=false:=by
  cases hb:Nat.beq br 1 with
  | false=>rfl
  | true=>exact absurd (Nat.eq_of_beq_eq_true hb) h
 have e2:iz (.sl br sz xs)=some (csl sz xs):=by simp only [iz,j4,e]
 simp only [iW,hx,e2]
theorem dN:room=17592186044416:=by decide +kernel
theorem x8 {f:FuncId}{vs:List AV}{r R:AV}(h:evP F f vs=some r) (hR:aA aF r=R):ad F f vs R:=⟨by unfold dS;rw [h,← hR];rfl⟩
theorem vL {n:Int}(h0:0≤n) (h1:n<18446744073709551616):IntKind.u64.wrap n=n:=by
 have e1:(2 ^ IntKind.u64.bits:Int)=18446744073709551616:=by decide +kernel
 have hs:IntKind.u64.signed=false:=rfl
 unfold IntKind.wrap
 simp only [e1,hs,Bool.false_and,Bool.false_eq_true,if_false]
 exact Int.emod_eq_of_lt h0 h1
end
end Go.Abs
/- Stepping rules for ranges over functions: the statement, a round, a call of yield; what is known of calls without rounds holds within them. No condition. -/
namespace Go.Abs
section
variable {FN:FuncId→Option cr}{F:aE}{k:Nat}{l:List aa}{s:List (Nat×AV)}{os:List (Nat×List AV)}{T:Nat→AV}{H:Hp}{E:Nat→Option TypeId}{n c d:Nat}{lv:Nat→Bool}{Q:St→Prop}{K:Ex→St→Prop}{x:X}{env:Env}
theorem x9 (FN:FuncId→Option cr) {k k':Nat}(hk:k≤k') (env:Env):LeF (ab FN k) ⟨bG FN k',env⟩:=⟨fun _ _ h=>(by cases h),lY (fun _ _ h=>h) k k' hk⟩
theorem ad.inEnv {k k':Nat}{f:FuncId}{vs:List AV}{R:AV}(he:ad (ab FN k) f vs R) (hk:k≤k') (env:Env):ad ⟨bG FN k',env⟩ f vs R:=⟨oh (x9 FN hk env) he.eq⟩
theorem aU.inEnv {k k':Nat}{f:FuncId}{vs:List AV}{R:AV}{id:Nat}{v:List AV}(h:aU (ab FN k) f vs os H n lv c E R id v) (hk:k≤k') (env:Env):aU ⟨bG FN k',env⟩ f vs os H n lv c E R id v:=by
 obtain ⟨H',h1,h2⟩:=h.ex
 exact ⟨H',(x9 FN hk env).call _ _ _ _ _ h1,h2⟩
theorem B8 {id:Nat}{y:fW}{xs:List X}{args:List AV}{R:AV}{H':Hp}{n' c':Nat}{lv':Nat→Bool}(hx:evL s x=some (.yl id)) (ha:xs.mapM (evL s)=some args) (hy:F.env id=some y) (h:y args ⟨ah os H,n,lv,c⟩ E=some (R,⟨H',n',lv',c'⟩))
 (k:WpO F l ⟨af ((d,R)::s) T,H',E,n',lv',c'⟩ Q):WpO F (⟨some d,.callv x xs,none⟩::l) ⟨af s T,ah os H,E,n,lv,c⟩ Q:=by
 have hargs:xs.map (ev (af s T))=args:=by
  clear h k
  induction xs generalizing args with
  | nil=>simp at ha;simp [ha]
  | cons x xs ih=>
   rw [List.mapM_cons] at ha
   simp only [Option.bind_eq_bind,Option.bind_eq_some_iff,Option.pure_def,Option.some.injEq] at ha
   obtain ⟨u,hu,r,hr,rfl⟩:=ha
   simp only [List.map_cons,aw hu,ih hr]
 refine dC (S1:=⟨cF (af s T) (some d) R,H',E,n',lv',c'⟩) ?_ k
 simp only [bA,bW,bg,aR,aw hx,hargs,hy,h,if_true]
theorem zQ {f:FuncId}{fn:IFn}{vs:List AV}{P:AV→Hs→Prop}(hf:FN f=some (.code fn))
 (h:∀ (T:Nat→AV),Wp ⟨bG FN k,di n env⟩ k fn.body ⟨af (cL 0 vs) T,ah os H,E,n,lv,c⟩ (jR fn n P)):∃ r hs,bG FN (k+1) env f vs ⟨ah os H,n,lv,c⟩ E=some (r,hs)∧P r hs:=by
 have:=h (fun _=>.tup [])
 have he:af (cL 0 vs) (fun _=>.tup [])=fun t=>vs.getD t (.tup []):=by
  funext t
  rw [jn];simp
 rw [he] at this
 obtain ⟨e,S,h1,hne,r,hs,h2,h3⟩:=this.ex
 refine ⟨r,hs,?_,h3⟩
 rw [fe hf]
 simp only [fc]
 have h1':ar ⟨bG FN k,di n env⟩ k fn.body (entry vs ⟨ah os H,n,lv,c⟩ E)=some (e,S):=h1
 rw [h1']
 rcases hne with rfl | rfl
 ·exact h2
 ·exact h2
theorem zR {k':Nat}{g:FuncId}{fn:IFn}{fs cs:List AV}{ps:List Nat}{a b:IC}(hF:F=⟨bG FN (k'+1),env⟩) (hx:evL s x=some (.fn g fs cs)) (hf:FN g=some (.code fn))
 (h:∀ (y:fW) (T':Nat→AV),y=cP (ar F k a) (ar F k b) (af s T) ps n→∀ env',env' n=some y→Wp ⟨bG FN k',env'⟩ k' fn.body ⟨af (cL 0 (fs++(.yl n::cs))) T',ah ((n,bh 0)::os) H,upd E n none,n+1,lv,c⟩
  (jR fn (n+1) fun _ hs1=>∃ st e,hs1.H n=bh st∧qE st=some e∧K e (pop n ⟨af s T,hs1.H,E,n,hs1.lv,hs1.c⟩))) :
 Wp F k (.rangeF x ps a b) ⟨af s T,ah os H,E,n,lv,c⟩ K:=by
 obtain ⟨r,hs1,h1,st,e,h2,h3,h4⟩:=zQ (os:=(n,bh 0)::os) (H:=H) (E:=upd E n none) (lv:=lv) (c:=c) (env:=upd env n (some (cP (ar F k a) (ar F k b) (af s T) ps n))) hf (fun T'=>h _ T' rfl (di (n+1) (upd env n (some (cP (ar F k a) (ar F k b) (af s T) ps n)))) (by simp [di,upd]))
 refine ⟨e,_,?_,h4⟩
 simp only [ar,aw hx]
 have h1':(F.ext n (cP (ar F k a) (ar F k b) (af s T) ps n)).call g (fs++(.yl n::cs)) ⟨upd (ah os H) n (bh 0),n+1,lv,c⟩ (upd E n none)=some (r,hs1):=by
  subst hF;exact h1
 rw [h1']
 simp only [h2,bh,h3]
theorem B9 {i:Nat}{ps:List Nat}{args:List AV}{a b:IC}{s0:List (Nat×AV)}{P:AV→Hs→Prop}(h0:lkO os i=some (bh 0)) (hl:args.length=ps.length) (hi:i<n) (hs:nK (af s T) ps args=af s0 T)
 (h:Wp F k a ⟨af s0 T,ah os H,E,n,lv,c⟩ fun e S1=>e = .norm∧S1.H i=bh 0∧Wp F k b { S1 with H:=upd S1.H i (bh (-1)) } fun e S2=>P (.bool (going e)) ⟨upd (trim n S2.H) i (bh (eS e)),n,S2.lv,S2.c⟩) :
 ∃ r hs,cP (ar F k a) (ar F k b) (af s T) ps i args ⟨ah os H,n,lv,c⟩ E=some (r,hs)∧P r hs:=by
 obtain ⟨e1,S1,h1,rfl,h2,h3⟩:=h.ex
 obtain ⟨e2,S2,h4,h5⟩:=h3.ex
 refine ⟨_,_,?_,h5⟩
 unfold cP
 rw [show (⟨ah os H,n,lv,c⟩:Hs).H i=bh 0 from av h0]
 simp only [bh,hl,hi,and_self,if_true,hs]
 rw [h1]
 simp only [h2,bh]
 simp only [bh] at h4
 rw [h4]
end
end Go.Abs
/- A call through an interface. No condition. -/
namespace Go.Abs
section
variable {F:aE}{l:List aa}{s:List (Nat×AV)}{os:List (Nat×List AV)}{T:Nat→AV}{H:Hp}{E:Nat→Option TypeId}{n c d:Nat}{lv:Nat→Bool}{Q:St→Prop}
theorem kb {tb:List (TypeId×FuncId)}{f:FuncId}{t:TypeId}{x:X}{v:AV}{xs:List X}{vs args:List AV}{R:AV}(hx:evL s x=some (.iface t v)) (hl:tb.lookup t=some f) (ha:gG s xs=some vs) (hs:v.share::vs.map AV.share=args) (hf:bK args=true) (hc:ad F f args R)
 (k:WpO F l ⟨af ((d,R)::s) T,ah os H,E,n,lv,c⟩ Q):WpO F (⟨some d,.calli tb x xs,none⟩::l) ⟨af s T,ah os H,E,n,lv,c⟩ Q:=by
 refine dC ?_ k
 obtain ⟨r,h1,h2⟩:=Option.map_eq_some_iff.1 hc.eq
 have e:(v.share::xs.map fun x=>(ev (af s T) x).share)=args:=by
  rw [← hs,← mC (T:=T) (dK ha),List.map_map];rfl
 simp only [bA,bW,bg,aR,aw hx,hl,e,hf,h1,h2,if_true,Eff.st,cF,Nat.add_zero]
 rw [show (fun b=>if c≤b∧b<c then true else if (none:Option Nat)=some b then false else lv b)=lv from kG lv c]
 rfl
theorem ij {m sz j:Nat}{ag:Bool}{x y:X}{cs:List AV}{kk:IntKind}{i:Int}{v:AV}(hx:evL s x=some (.agg cs)) (hy:evL s y=some (.int kk i)) (hj:inB i m=some j) (hr:rd cs (j*sz) sz ag=some v)
 (k:WpO F l ⟨af ((d,v)::s) T,ah os H,E,n,lv,c⟩ Q):WpO F (⟨some d,.ixA m sz ag x y,none⟩::l) ⟨af s T,ah os H,E,n,lv,c⟩ Q:=
 bw rfl (by simp only [au,aw hx,aw hy,asI,hj,hr]) k
end
end Go.Abs
