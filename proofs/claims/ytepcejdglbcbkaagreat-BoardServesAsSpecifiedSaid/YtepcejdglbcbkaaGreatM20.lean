/- Part of the texts on which proofs about this seat rest: each says what it proves at its own head. No condition. -/
import Derived.Test.YtepcejdglbcbkaaGreatM19
set_option linter.unusedVariables false
set_option linter.unusedSimpArgs false
set_option maxHeartbeats 2000000
set_option maxRecDepth 100000
/- The reference takes a request. Condition: the memory is valid, the ring is there, the index is of the ring. -/
namespace Go.Proofs.YtepcejdglbcbkaaGreat
open Go.Abs
variable {k:Nat}
def LB (br sz:Nat) (js:List Nat) (lv:Nat→Bool) (c:Nat):Prop:=4≤c∧((br=0∧sz=0∧js=[])∨(∃ q,br=q+4∧br<c∧lv br=true∧sz=4))
theorem fU (H:Hp) (br sz:Nat) (ys:List AV):src H sz (.sl br sz ys)=some ys:=if_pos (.inl rfl)
theorem Sf {bs:List UInt8}{b s i:Nat}(h:RV bs b s) (hi:i<s):ad (ab FN (k+300)) 131 [aq bs,aL b s,.int .i64 i] (.agg [csl 128 ((aK bs b s i).map ofB),csl 4 (aH bs b (bN bs b s i)),.int .i64 (a7 bs b s i)]):=by
 have hl:=h.m.le
 have hs:=h.hs
 have hle:=h.le
 have hb16:=h.hb
 refine ak X4 fun T H E lv=>?_
 repeat (first | refine stN ?_ | intro E)
 refine aW (α:=Nat×List Nat×Nat×Nat×Nat) (a8.mk (fun p=>WP bs b s i p.1 p.2.1 p.2.2.1) (fun p=>p.1)
  (fun p=>[(7,.sl p.2.2.2.1 p.2.2.2.2 (aH bs b p.2.1)),(8,.int .i64 (p.2.2.1:Int)),(2,.int .i64 i),(3,.ref 0 0),(4,.ref 1 0),(6,.ref 2 0)])
  (fun p=>[(2,[.sl 0 0 [],.sl 0 0 [],.int .i64 0]),(1,[.int .u32 b,.int .u32 s]),(0,[csl 128 (bs.map ofB)])]))
  (fun p lv c=>LB p.2.2.2.1 p.2.2.2.2 p.2.1 lv c) (5,[],i,0,0) ⟨rfl,by omega,hi,by simp,rfl⟩ ⟨by omega,.inl ⟨rfl,rfl,rfl⟩⟩ (show 5<k+299 by omega) ⟨rfl,rfl,rfl,rfl,rfl,rfl,trivial⟩ ⟨rfl,rfl,rfl,trivial⟩ ?_
 rintro ⟨f,js,cur,br,sz⟩ lv c T H E hP hB hμ
 have hW:WP bs b s i f js cur:=hP
 have hL:LB br sz js lv c:=hB
 clear hP hB hμ
 obtain ⟨hW1,hW2,hW3,hW4,hW5⟩:=id hW
 dsimp only
 have hfl:=i4 bs b js
 have c178:ad (ab FN (k+299)) 178 [aq bs,aL b s,csl 4 (aH bs b js),.int .i64 cur] (.int .i64 (bF bs b s js cur)):=(aa9 (k:=0) h hW3 (by omega)).fuel (by omega)
 have ci:ad (ab FN (k+299)) 177 [aq bs,aL b s,.int .i64 i,.int .i64 ((3:Nat):Int)] (.int .i64 (dw bs b i 3)):=(kR (k:=0) h hi (by omega)).fuel (by omega)
 have c0:ad (ab FN (k+299)) 177 [aq bs,aL b s,.int .i64 cur,.int .i64 ((0:Nat):Int)] (.int .i64 (dw bs b cur 0)):=(kR (k:=0) h hW3 (by omega)).fuel (by omega)
 have c1:ad (ab FN (k+299)) 177 [aq bs,aL b s,.int .i64 cur,.int .i64 ((1:Nat):Int)] (.int .i64 (dw bs b cur 1)):=(kR (k:=0) h hW3 (by omega)).fuel (by omega)
 have c2:ad (ab FN (k+299)) 177 [aq bs,aL b s,.int .i64 cur,.int .i64 ((2:Nat):Int)] (.int .i64 (dw bs b cur 2)):=(kR (k:=0) h hW3 (by omega)).fuel (by omega)
 have hr:=oI (bn (decide (cur∈js))) js.length (dw bs b cur 3) (dw bs b cur 0) (dw bs b cur 1) bs.length (dw bs b cur 2) s (bn (js.any (wr bs b)))
 have hr:bF bs b s js cur=0∨(161≤bF bs b s js cur∧bF bs b s js cur≤165):=hr
 have w2:=jH bs b cur 2
 have c180:bF bs b s js cur=0→ad (ab FN (k+299)) 180 [aq bs,aL b s,csl 4 (aH bs b (js++[cur])),.int .i64 ((2:Nat):Int)] (aq (bm bs b 2 (js++[cur]))):=by
  intro he
  refine (Sd (k:=0) h ?_ (by omega) (by rw [List.length_append,List.length_singleton];omega)).fuel (by omega)
  intro j hj
  rcases List.mem_append.1 hj with hh | hh
  ·exact hW4 j hh
  ·rw [List.mem_singleton] at hh;omega
 have c179:bF bs b s js cur≠0→ad (ab FN (k+299)) 179 [aq bs,aL b s,.int .i64 i,.int .i64 ((4+(bF bs b s js cur-160):Nat):Int)] (aq (bj b (4+(bF bs b s js cur-160)) bs i)):=fun he=>(Ac (k:=0) h hi (by omega)).fuel (by omega)
 obtain ⟨hc4,hL⟩:=hL
 obtain ⟨c',rfl⟩:∃ c',c=c'+4:=⟨c-4,by omega⟩
 have hsnoc:∀ v,wr bs b cur=v→aH bs b js++[.int .i64 cur,.int .i64 (dw bs b cur 0),.int .i64 (dw bs b cur 1),.bool v]=aH bs b (js++[cur]):=by
  intro v hv
  rw [← oJ,← hv];rfl
 have hroom:((aH bs b js).length+4)/4*32≤room:=by rw [fj,room];omega
 have hOwn:Own lv (c'+4) br (aH bs b js):=by
  rcases hL with ⟨rfl,rfl,rfl⟩ | ⟨q,rfl,hq1,hq2,rfl⟩
  ·exact .inl ⟨rfl,rfl⟩
  ·exact .inr (.inr ⟨by omega,hq1,hq2⟩)
 have hsz:sz=4∨(aH bs b js=[]∧br<4):=by
  rcases hL with ⟨rfl,rfl,rfl⟩ | ⟨q,rfl,hq1,hq2,rfl⟩
  ·exact .inr ⟨rfl,by omega⟩
  ·exact .inl rfl
 have hmore:=fun he hm=>hW.more he hm
 have hlast:=fun he hm=>uh (hW.last he hm)
 have herr:=fun he=>se (hW.err he) he
 rcases hL with ⟨rfl,rfl,rfl⟩ | ⟨q,rfl,hq1,hq2,rfl⟩
 all_goals
  rcases hr with he | he
  ·have ok:=jr he
   have c180:=c180 he
   rcases Nat.mod_two_eq_zero_or_one (dw bs b cur 2) with hw | hw
   ·have hwr:wr bs b cur=false:=by simp [wr,hw]
    have hsn:=hsnoc false hwr
    rcases Nat.mod_two_eq_zero_or_one (dw bs b cur 2/2) with hm | hm
    all_goals
     repeat (first | refine stN ?_ | intro E)
     apply fB
     ·exact rfl
     ·exact hsz
     ·exact rfl
     ·exact fun H=>fU _ _ _ _
     ·exact ⟨by omega,by omega⟩
     ·exact hroom
     ·exact hOwn
     ·exact List.cons_ne_nil _ _
     intro lv' l1 l2
     rw [hsn]
     repeat (first | refine stN ?_ | intro E)
    ·apply bz
     repeat (first | refine stN ?_ | intro E)
     rw [(hlast he (by omega)).1,(hlast he (by omega)).2.1,(hlast he (by omega)).2.2]
     exact ae (.inr rfl) rfl rfl rfl rfl rfl rfl
    ·exact aB (f-1,_,dw bs b cur 2/256%256,c'+4,4) (hmore he hm) ⟨by omega,.inr ⟨c',rfl,Nat.lt_succ_self _,l1,rfl⟩⟩ (show f-1<f by omega) ⟨rfl,rfl,rfl,rfl,rfl,rfl,trivial⟩ ⟨⟨rfl,rfl⟩,⟨rfl,rfl⟩,⟨rfl,rfl⟩,trivial⟩
   ·have hwr:wr bs b cur=true:=by simp [wr,hw]
    have hsn:=hsnoc true hwr
    rcases Nat.mod_two_eq_zero_or_one (dw bs b cur 2/2) with hm | hm
    all_goals
     repeat (first | refine stN ?_ | intro E)
     apply fB
     ·exact rfl
     ·exact hsz
     ·exact rfl
     ·exact fun H=>fU _ _ _ _
     ·exact ⟨by omega,by omega⟩
     ·exact hroom
     ·exact hOwn
     ·exact List.cons_ne_nil _ _
     intro lv' l1 l2
     rw [hsn]
     repeat (first | refine stN ?_ | intro E)
    ·apply bz
     repeat (first | refine stN ?_ | intro E)
     rw [(hlast he (by omega)).1,(hlast he (by omega)).2.1,(hlast he (by omega)).2.2]
     exact ae (.inr rfl) rfl rfl rfl rfl rfl rfl
    ·exact aB (f-1,_,dw bs b cur 2/256%256,c'+4,4) (hmore he hm) ⟨by omega,.inr ⟨c',rfl,Nat.lt_succ_self _,l1,rfl⟩⟩ (show f-1<f by omega) ⟨rfl,rfl,rfl,rfl,rfl,rfl,trivial⟩ ⟨⟨rfl,rfl⟩,⟨rfl,rfl⟩,⟨rfl,rfl⟩,trivial⟩
  ·have c179:=c179 (by omega)
   obtain ⟨e1,e2,e3⟩:=herr (by omega)
   rw [e1,e2,e3]
   by_cases h3:dw bs b i 3=1
   ·rw [if_pos h3]
    repeat (first | refine stN ?_ | intro E)
    apply bz
    repeat (first | refine stN ?_ | intro E)
    exact ae (.inr rfl) rfl rfl rfl rfl rfl rfl
   ·rw [if_neg h3]
    repeat (first | refine stN ?_ | intro E)
    apply bz
    repeat (first | refine stN ?_ | intro E)
    exact ae (.inr rfl) rfl rfl rfl rfl rfl rfl
end Go.Proofs.YtepcejdglbcbkaaGreat
