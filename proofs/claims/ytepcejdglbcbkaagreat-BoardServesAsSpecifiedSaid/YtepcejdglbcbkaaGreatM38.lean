/- Part of the texts on which proofs about this seat rest: each says what it proves at its own head. No condition. -/
import Derived.Test.YtepcejdglbcbkaaGreatM37
set_option linter.unusedVariables false
set_option linter.unusedSimpArgs false
set_option maxHeartbeats 4000000
set_option maxRecDepth 100000
/- The rounds over the requests of a ring, whatever is done in a round. Condition: the memory is valid. -/
namespace Go.Proofs.YtepcejdglbcbkaaGreat
open Go.Abs
variable {k:Nat}
structure XS where
 m:List UInt8
 br:Nat
 z:Nat
 xs:List AV
 r:Bool
 ok:Bool
 a:Nat
 st:Nat
def cel (tx:Bool) (tb ts rb rs oth dr:Nat) (x:XS):List AV:=
 match tx with
 | true=>woC x.m 0 (.sl x.br x.z x.xs) x.r x.ok tb ts rb rs x.a oth x.st dr
 | false=>woC x.m 0 (.sl x.br x.z x.xs) x.r x.ok tb ts rb rs oth x.a x.st dr
theorem po {os:List (Nat×List AV)}{H:Hp}{n j:Nat}{u:List AV}(h1:lkO os j=some u) (h2:Nat.blt j n=true) (h3:bJ n u=true):trim n (ah os H) j=u:=by
 have h2:j<n:=by simpa using h2
 simp only [trim,if_pos h2,aV,av h1,if_pos h3]
theorem az.trim {n0 id m:Nat}{H0 H:Hp}(h:az n0 id H0 H) (hm:n0≤m):az n0 id H0 (trim m H):=by
 intro j hj hne
 have e:aV n0 (Go.Abs.trim m H) j=aV n0 (aV m H) j:=by
  have e1:Go.Abs.trim m H j=aV m H j:=if_pos (by omega)
  unfold aV at e1 ⊢
  rw [e1]
 rw [e,iB hm];exact h j hj hne
theorem Ap {i:Nat}(h:i+1<4294967296):aj .add (.int .u32 (i:Int)) (.int .u32 1)=some (.int .u32 ((i+1:Nat):Int)):=by
 have e:((i:Int)+1)=((i+1:Nat):Int):=by omega
 simp only [aj,reduceCtorEq,or_self,if_false,if_true,bC,e]
 rw [w32 (by omega) (by omega)]
def wg (b s y:Nat) (x:XS):XS:={ x with m:=aK x.m b s y,r:=true,a:=(y+1)%s,st:=if a7 x.m b s y≠0 then a7 x.m b s y else x.st }
def pq (y:fW) (tx:Bool) (tb ts rb rs oth dr:Nat) (H0:Hp) (x:XS) (i:Nat) (L:List Pt) (e:Nat) (lv:Nat→Bool) (c:Nat) (P:Bool→XS→(Nat→Bool)→Nat→Prop):Prop:=
 ∀ (H:Hp) (E:Nat→Option TypeId),az 7 5 H0 H→H 5=cel tx tb ts rb rs oth dr x→H 7=bh 0→
  ∃ b x' H' lv' c',y [.agg [.int .i64 i,csl 4 (aY L),.int .i64 e]] ⟨H,9,lv,c⟩ E=some (.bool b,⟨H',9,lv',c'⟩)∧H' 5=cel tx tb ts rb rs oth dr x'∧H' 7=bh (if b then 0 else 2)∧az 7 5 H0 H'∧P b x' lv' c'
theorem jI (tx:Bool) (tb ts rb rs oth dr:Nat) (x:XS) (n:Nat):bJ n (cel tx tb ts rb rs oth dr x)=true:=by
 cases tx<;>rfl
theorem oQ {tx:Bool}{tb ts rb rs oth dr c:Nat}{x:XS}{st:Int}{os:List (Nat×List AV)}{H H0:Hp}{lv:Nat→Bool}{fK:XS→Int→(Nat→Bool)→Nat→Prop}(hp:fK x st lv c) (h5:lkO os 5=some (cel tx tb ts rb rs oth dr x)) (h7:lkO os 7=some (bh st)) (hS:az 7 5 H0 (ah os H)) :
 ∃ x st,fK x st (Hs.lv ⟨trim 8 (ah os H),8,lv,c⟩) (Hs.c ⟨trim 8 (ah os H),8,lv,c⟩)∧(Hs.H ⟨trim 8 (ah os H),8,lv,c⟩) 5=cel tx tb ts rb rs oth dr x∧(Hs.H ⟨trim 8 (ah os H),8,lv,c⟩) 7=bh st∧az 7 5 H0 (Hs.H ⟨trim 8 (ah os H),8,lv,c⟩):=by
 refine ⟨x,st,hp,?_,?_,?_⟩
 ·exact po (n:=8) h5 rfl (jI ..)
 ·exact po (n:=8) h7 rfl rfl
 ·exact az.trim hS (by omega)
theorem uz {F:aE}{l:List aa}{s:List (Nat×AV)}{os:List (Nat×List AV)}{T:Nat→AV}{H H0:Hp}{E:Nat→Option TypeId}{c d:Nat}{lv:Nat→Bool}{Q:St→Prop}{a:X}{y:fW}{xs:List X}{tx:Bool}{tb ts rb rs oth dr:Nat}{x:XS}{i e:Nat}{L:List Pt}{P:Bool→XS→(Nat→Bool)→Nat→Prop}(hx:evL s a=some (.yl 7)) (ha:gG s xs=some [.agg [.int .i64 i,csl 4 (aY L),.int .i64 e]]) (hy:F.env 7=some y)
 (hr:pq y tx tb ts rb rs oth dr H0 x i L e lv c P) (hS:az 7 5 H0 (ah os H)) (h5:lkO os 5=some (cel tx tb ts rb rs oth dr x)) (h7:lkO os 7=some (bh 0))
 (k:∀ b x' H' lv' c',P b x' lv' c'→az 7 5 H0 (ah [(7,bh (if b then 0 else 2)),(5,cel tx tb ts rb rs oth dr x')] H')→WpO F l ⟨af ((d,.bool b)::s) T,ah [(7,bh (if b then 0 else 2)),(5,cel tx tb ts rb rs oth dr x')] H',E,9,lv',c'⟩ Q) :
 WpO F (⟨some d,.callv a xs,none⟩::l) ⟨af s T,ah os H,E,9,lv,c⟩ Q:=by
 obtain ⟨b,x',H',lv',c',g1,g2,g3,g4,g5⟩:=hr _ E hS (av h5) (av h7)
 have e:ah [(7,bh (if b then 0 else 2)),(5,cel tx tb ts rb rs oth dr x')] H'=H':=dZ ⟨g3,g2,trivial⟩
 have:=k b x' H' lv' c' g5 (by rw [e];exact g4)
 rw [e] at this
 exact B8 hx (dK ha) hy g1 this
theorem Zq {tb ts rb rs oth dr b s c:Nat}{x0:XS}{H:Hp}{E:Nat→Option TypeId}{lv:Nat→Bool}{T:Nat→AV}{env:Env}{y:fW}(Inv:Nat→XS→(Nat→Bool)→Nat→Prop) (fK:XS→Int→(Nat→Bool)→Nat→Prop) {H0:Hp}
 (hm:VM x0.m) (hb:b<4294967296) (hs:s<4294967296) (henv:env 7=some y) (hS:az 7 5 H0 (ah [(7,bh 0),(5,cel true tb ts rb rs oth dr x0)] H))
 (h0:aX x0.m.length b s≠0→fK { x0 with st:=aX x0.m.length b s } 0 lv c)
 (h1:RV x0.m b s→Inv 0 x0 lv c)
 (hI:∀ i x lv c,Inv i x lv c→RV x.m b s∧x.a<s)
 (hstop:∀ i x lv c,i<s→Inv i x lv c→(cT x.m b s x.a s 0).2=false→fK x 0 lv c)
 (hend:∀ x lv c,Inv s x lv c→fK x 0 lv c)
 (hround:∀ i x lv c j,i<s→j<s→Inv i x lv c→cT x.m b s x.a s 0=(j,true)→pq y true tb ts rb rs oth dr H0 (wg b s j x) j (ba x.m b s j) (a7 x.m b s j) lv c fun bb x' lv' c'=>if bb=true then Inv (i+1) x' lv' c' else fK x' 2 lv' c') :
 Wp ⟨bG FN (k+10600),env⟩ (k+10600) f165.body ⟨af (cL 0 [.yl 7,.cp [.ref 5 0] 0,.cp [.int .u32 b,.int .u32 s] 0,.cp [.ref 5 9] 0]) T,ah [(7,bh 0),(5,cel true tb ts rb rs oth dr x0)] H,E,8,lv,c⟩
  (jR f165 8 fun _ hs=>∃ x st,fK x st hs.lv hs.c∧hs.H 5=cel true tb ts rb rs oth dr x∧hs.H 7=bh st∧az 7 5 H0 hs.H):=by
 have c156:ad ⟨bG FN (k+10600),env⟩ 156 [aq x0.m,aL b s] (.int .i64 (aX x0.m.length b s)):=(vX (k:=0) hm hb hs).inEnv (by omega) env
 have c166:∀ (n e:Nat) (x:XS) H lv c E,6≤n→aU ⟨bG FN (k+10600),env⟩ 166 [.ref 5 0,.int .i64 e] [(5,cel true tb ts rb rs oth dr x)] H n lv c E (.tup []) 5 (cel true tb ts rb rs oth dr { x with st:=e }):=by
  intro n e x H lv c E hn
  exact (SG (k:=0) hn).inEnv (by omega) env
 rcases ld x0.m.length b s with hc | hc
 ·have hrv:=sC hm hc
  have hI0:=h1 hrv
  rw [hc] at c156
  clear h0 h1 hm
  have hsz:=hrv.hs
  have hs8:s≤8:=by omega
  have hws:IntKind.i64.wrap (s:Int)=s:=w64 (by omega) (by omega)
  unfold cel
  repeat (first | refine stN ?_ | intro E)
  refine tU (α:=Nat×XS) (a8.mk (fun p=>p.1≤s) (fun p=>s-p.1)
   (fun p=>[(25,.int .u32 (p.1:Int)),(24,.int .u32 (s:Int)),(0,.yl 7),(1,.cp [.ref 5 0] 0),(2,.cp [.int .u32 b,.int .u32 s] 0),(3,.cp [.ref 5 9] 0)])
   (fun p=>[(7,bh 0),(5,cel true tb ts rb rs oth dr p.2)]))
   (fun p lv c=>Inv p.1 p.2 lv c) (az 7 5 H0) (0,x0) (Nat.zero_le _) hI0 hS (show s-0<k+10600 by omega) ⟨rfl,rfl,rfl,rfl,rfl,rfl,trivial⟩ ⟨rfl,rfl,trivial⟩ ?_
  clear hS hI0 c156
  rintro ⟨i,x⟩ lv c T H E hP hi0 hS hμ
  have hP:i≤s:=hP
  clear hμ hrv
  dsimp only at hS hi0 ⊢
  have hN:=hI _ _ _ _ hi0
  rcases Nat.lt_or_ge i s with hi | hi
  ·have hr:=fun j=>hround i x lv c j hi
   have hst:=hstop i x lv c hi hi0
   clear hround hstop hend
   obtain ⟨⟨j,w⟩,hyz⟩:∃ q,cT x.m b s x.a s 0=q:=⟨_,rfl⟩
   have hylt:=k8 (m:=x.m) (b:=b) (s:=s) (pos:=x.a) (by omega) s 0
   rw [hyz] at hylt hst
   have hr:=fun hj=>hr j hj hi0
   obtain ⟨n1,n2⟩:=hN
   have c167:ad ⟨bG FN (k+10600),env⟩ 167 [aq x.m,aL b s,.int .i64 x.a] (.tup [.int .i64 j,.bool w]):=(Sn (k:=0) n1 (by omega) hyz).inEnv (by omega) env
   have hadd:=Ap (i:=i) (by omega)
   cases w
   ·have hp:=hst rfl
    clear hr hst hylt c166
    unfold cel
    repeat (first | refine stN ?_ | intro E)
    apply vK
    apply n9
    repeat (first | refine stN ?_ | intro E)
    exact aQ (.inr rfl) rfl rfl rfl rfl rfl (oQ (tx:=true) (tb:=tb) (ts:=ts) (rb:=rb) (rs:=rs) (oth:=oth) (dr:=dr) hp rfl rfl hS)
   ·have hj:=hylt rfl
    have hr:=hr hj hyz
    clear hst hylt
    have c168:ad ⟨bG FN (k+10600),env⟩ 168 [aq x.m,aL b s,.int .i64 j] (.tup [aq (aK x.m b s j),csl 4 (aH x.m b (bN x.m b s j)),.int .i64 (a7 x.m b s j)]):=(Sm (k:=0) n1 hj).inEnv (by omega) env
    rw [show aH x.m b (bN x.m b s j)=aY (ba x.m b s j) from gu _ _ _] at c168
    have hmod:aj .rem (.int .i64 ((j+1:Nat):Int)) (.int .i64 (s:Int))=some (.int .i64 (((j+1)%s:Nat):Int)):=gF (by omega)
    unfold wg at hr
    by_cases he:a7 x.m b s j≠0
    ·rw [if_pos he] at hr
     generalize aK x.m b s j=M at *
     generalize ba x.m b s j=L at *
     generalize a7 x.m b s j=e at *
     have c166:=c166 9 e ⟨M,x.br,x.z,x.xs,true,x.ok,(j+1)%s,x.st⟩
     unfold cel at hS ⊢
     repeat (first | refine stN ?_ | intro E)
     apply ee (args:=[.ref 5 0,.int .i64 e]) (id:=5) (n0:=7) (H0:=H0) (os':=[(7,bh 0),(5,cel true tb ts rb rs oth dr ⟨M,x.br,x.z,x.xs,true,x.ok,(j+1)%s,e⟩)])
     ·exact rfl
     ·exact fun H E=>fJ rfl (c166 (ah _ H) _ _ _ (by omega))
     ·exact ⟨.inr ⟨rfl,rfl,rfl,rfl⟩,.inl ⟨rfl,rfl⟩,trivial⟩
     ·exact (by repeat (first | exact hS | refine az.cons ?_ rfl))
     ·omega
     intro H2 hS2
     repeat (first | refine stN ?_ | intro E)
     apply uz (y:=y) (tx:=true) (tb:=tb) (ts:=ts) (rb:=rb) (rs:=rs) (oth:=oth) (dr:=dr) (x:=⟨M,x.br,x.z,x.xs,true,x.ok,(j+1)%s,e⟩)
     ·exact rfl
     ·exact rfl
     ·exact henv
     ·exact hr
     ·exact hS2
     ·exact rfl
     ·exact rfl
     intro bb x' H3 lv3 c3 g1 g2
     cases bb
     ·rw [if_neg (by decide)] at g1 g2 ⊢
      repeat (first | refine stN ?_ | intro E)
      apply vK
      apply n9
      repeat (first | refine stN ?_ | intro E)
      exact aQ (.inr rfl) rfl rfl rfl rfl rfl (oQ (tx:=true) (tb:=tb) (ts:=ts) (rb:=rb) (rs:=rs) (oth:=oth) (dr:=dr) g1 rfl rfl g2)
     ·rw [if_pos rfl] at g1 g2 ⊢
      repeat (first | refine stN ?_ | intro E)
      exact ka (i+1,x') (show i+1≤s by omega) g1 (az.keep g2 (by omega)) (show s-(i+1)<s-i by omega) ⟨rfl,rfl,rfl,rfl,rfl,rfl,trivial⟩ ⟨⟨rfl,rfl⟩,⟨rfl,rfl⟩,trivial⟩
    ·rw [if_neg he] at hr
     have he:a7 x.m b s j=0:=by omega
     rw [he] at hr c168
     clear c166 he
     generalize aK x.m b s j=M at *
     generalize ba x.m b s j=L at *
     unfold cel at hS ⊢
     repeat (first | refine stN ?_ | intro E)
     apply uz (y:=y) (tx:=true) (tb:=tb) (ts:=ts) (rb:=rb) (rs:=rs) (oth:=oth) (dr:=dr) (x:=⟨M,x.br,x.z,x.xs,true,x.ok,(j+1)%s,x.st⟩)
     ·exact rfl
     ·exact rfl
     ·exact henv
     ·exact hr
     ·exact (by repeat (first | exact hS | refine az.cons ?_ rfl))
     ·exact rfl
     ·exact rfl
     intro bb x' H3 lv3 c3 g1 g2
     cases bb
     ·rw [if_neg (by decide)] at g1 g2 ⊢
      repeat (first | refine stN ?_ | intro E)
      apply vK
      apply n9
      repeat (first | refine stN ?_ | intro E)
      exact aQ (.inr rfl) rfl rfl rfl rfl rfl (oQ (tx:=true) (tb:=tb) (ts:=ts) (rb:=rb) (rs:=rs) (oth:=oth) (dr:=dr) g1 rfl rfl g2)
     ·rw [if_pos rfl] at g1 g2 ⊢
      repeat (first | refine stN ?_ | intro E)
      exact ka (i+1,x') (show i+1≤s by omega) g1 (az.keep g2 (by omega)) (show s-(i+1)<s-i by omega) ⟨rfl,rfl,rfl,rfl,rfl,rfl,trivial⟩ ⟨⟨rfl,rfl⟩,⟨rfl,rfl⟩,trivial⟩
  ·have hi:i=s:=by omega
   subst hi
   have hp:=hend _ _ _ hi0
   clear hround hstop hend c166
   unfold cel
   repeat (first | refine stN ?_ | intro E)
   apply oC
   repeat (first | refine stN ?_ | intro E)
   exact aQ (.inl rfl) rfl rfl rfl rfl rfl (oQ (tx:=true) (tb:=tb) (ts:=ts) (rb:=rb) (rs:=rs) (oth:=oth) (dr:=dr) hp rfl rfl hS)
 ·have h0:=h0 (by rw [hc];decide)
  rw [hc] at c156 h0
  have c166:=c166 8 160 x0
  clear h1 hround hstop hend hI
  unfold cel at hS c166 ⊢
  repeat (first | refine stN ?_ | intro E)
  apply ee (args:=[.ref 5 0,.int .i64 160]) (id:=5) (n0:=7) (H0:=H0) (os':=[(7,bh 0),(5,cel true tb ts rb rs oth dr { x0 with st:=160 })])
  ·exact rfl
  ·exact fun H E=>fJ rfl (c166 (ah _ H) _ _ _ (by omega))
  ·exact ⟨.inr ⟨rfl,rfl,rfl,rfl⟩,.inl ⟨rfl,rfl⟩,trivial⟩
  ·exact hS
  ·omega
  intro H2 hS2
  repeat (first | refine stN ?_ | intro E)
  exact aQ (.inr rfl) rfl rfl rfl rfl rfl (oQ (tx:=true) (tb:=tb) (ts:=ts) (rb:=rb) (rs:=rs) (oth:=oth) (dr:=dr) h0 rfl rfl hS2)
end Go.Proofs.YtepcejdglbcbkaaGreat
