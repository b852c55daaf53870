/- Part of the texts on which proofs about this seat rest: each says what it proves at its own head. No condition. -/
import Derived.Test.YtepcejdglbcbkaaGreatM21
set_option linter.unusedVariables false
set_option linter.unusedSimpArgs false
set_option maxHeartbeats 16000000
set_option maxRecDepth 100000
/- A request is read. Condition: the memory is valid, the ring is there, the index is of the ring. -/
namespace Go.Proofs.YtepcejdglbcbkaaGreat
open Go.Abs
variable {k:Nat}
theorem yo (x:Nat):bn (decide (x%2=1))=x%2:=by
 rcases Nat.mod_two_eq_zero_or_one x with h | h<;>rw [h]<;>rfl
def LS (br1 br2 sz:Nat) (js:List Nat) (lv:Nat→Bool) (c:Nat):Prop:=4≤c∧(∃ q,br1=q+4∧br1<c∧lv br1=true)∧((br2=0∧sz=0∧js=[])∨(∃ q,br2=q+4∧br2<c∧lv br2=true∧sz=4))∧br1≠br2
theorem yp {bs:List UInt8}{b s i:Nat}{sl:List (Nat×AV)}{os:List (Nat×List AV)}{T:Nat→AV}{H:Hp}{E:Nat→Option TypeId}{lv:Nat→Bool}{K:Ex→St→Prop}(h:RV bs b s) (hi:i<s) (hlv:lv 4=true)
 (h1:gE sl [(10,.sl 4 1 []),(9,.sl 0 0 []),(11,.bool false),(12,.int .i64 i),(13,.int .i64 0),(2,.int .i64 i),(3,.ref 0 0),(4,.ref 1 0),(6,.ref 2 0)])
 (h2:fE os [(2,[.sl 0 0 []]),(1,[.int .u32 b,.int .u32 s]),(0,[csl 128 (bs.map ofB)])])
 (kerr:∀ e js n lv c T H E,walk bs b s 5 [] i=(js,e)→161≤e→e≤165→K (.exit 0) ⟨af [(13,.int .i64 (e:Nat)),(2,.int .i64 i),(3,.ref 0 0),(4,.ref 1 0),(6,.ref 2 0)] T,ah [(2,[.sl 0 0 []]),(1,[.int .u32 b,.int .u32 s]),(0,[csl 128 (bs.map ofB)])] H,E,n,lv,c⟩)
 (kok:∀ br js n lv c T H E,walk bs b s 5 [] i=(js,0)→K .ret ⟨af [(7,.sl (br+4) 4 (aH bs b js)),(8,.int .i64 0),(6,.ref 2 0)] T,ah [(2,[csl 128 ((bm bs b 2 js).map ofB)])] H,E,n,lv,c⟩) :
 Wp (ab FN (k+10399)) (k+10399) (.loop tX) ⟨af sl T,ah os H,E,3,lv,5⟩ K:=by
 have hl:=h.m.le
 have hs:=h.hs
 have hle:=h.le
 have hb16:=h.hb
 refine aW (α:=Nat×List Nat×Nat×Nat×Nat×Nat) (a8.mk (fun p=>WP bs b s i p.1 p.2.1 p.2.2.1) (fun p=>p.1)
  (fun p=>[(10,.sl p.2.2.2.1 1 (dI p.2.1)),(9,.sl p.2.2.2.2.1 p.2.2.2.2.2 (aH bs b p.2.1)),(11,.bool (p.2.1.any (wr bs b))),(12,.int .i64 (p.2.2.1:Int)),(13,.int .i64 0),(2,.int .i64 i),(3,.ref 0 0),(4,.ref 1 0),(6,.ref 2 0)])
  (fun p=>[(2,[.sl 0 0 []]),(1,[.int .u32 b,.int .u32 s]),(0,[csl 128 (bs.map ofB)])]))
  (fun p lv c=>LS p.2.2.2.1 p.2.2.2.2.1 p.2.2.2.2.2 p.2.1 lv c) (5,[],i,4,0,0) ⟨rfl,by omega,hi,by simp,rfl⟩ ⟨by omega,⟨0,rfl,Nat.lt_succ_self 4,hlv⟩,.inl ⟨rfl,rfl,rfl⟩,by simp⟩ (show 5<k+10399 by omega) h1 h2 ?_
 rintro ⟨f,js,cur,br1,br2,sz⟩ lv c T H E hP hB hμ
 have hW:WP bs b s i f js cur:=hP
 have hL:LS br1 br2 sz js lv c:=hB
 clear hP hB hμ h1 h2
 obtain ⟨hW1,hW2,hW3,hW4,hW5⟩:=id hW
 dsimp only
 have c191:ad (ab FN (k+10399)) 191 [aq bs,aL b s,.int .i64 cur] (dcV cur (dw bs b cur 0) (dw bs b cur 1) (wr bs b cur) (dw bs b cur 2) (dw bs b cur 3)):=(vW (k:=0) h hW3).fuel (by omega)
 have w0:=jH bs b cur 0;have w1:=jH bs b cur 1;have w2:=jH bs b cur 2
 have c157:ad (ab FN (k+10399)) 157 [aq bs] (.int .i64 bs.length):=(vS (k:=0) h.m).fuel (by omega)
 have c192:ad (ab FN (k+10399)) 192 [dcV cur (dw bs b cur 0) (dw bs b cur 1) (wr bs b cur) (dw bs b cur 2) (dw bs b cur 3)] (.bool (mb (dw bs b cur 2))):=(aba (k:=0) w2).fuel (by omega)
 have c193:ad (ab FN (k+10399)) 193 [dcV cur (dw bs b cur 0) (dw bs b cur 1) (wr bs b cur) (dw bs b cur 2) (dw bs b cur 3)] (.bool (decide (dw bs b cur 2/2%2=1))):=(Sg (k:=0) w2).fuel (by omega)
 have c194:ad (ab FN (k+10399)) 194 [dcV cur (dw bs b cur 0) (dw bs b cur 1) (wr bs b cur) (dw bs b cur 2) (dw bs b cur 3)] (.int .i64 ((dw bs b cur 2/256%256:Nat):Int)):=(Si (k:=0) w2).fuel (by omega)
 have hws:IntKind.i64.wrap (s:Int)=s:=w64 (by omega) (by omega)
 obtain ⟨hc4,⟨q1,rfl,hq1,hq2⟩,hL2,hne⟩:=hL
 obtain ⟨c',rfl⟩:∃ c',c=c'+4:=⟨c-4,by omega⟩
 repeat (first | refine stN ?_ | intro E)
 rw [eP,Nat.div_one]
 refine aW (α:=Nat) (a8.mk (fun j=>j≤js.length∧cur∉js.take j) (fun j=>js.length-j)
  (fun j=>[(25,.int .i64 (j:Int)),(24,.int .i64 (js.length:Int)),(23,.sl (q1+4) 1 (dI js)),(10,.sl (q1+4) 1 (dI js)),(9,.sl br2 sz (aH bs b js)),(11,.bool (js.any (wr bs b))),(12,.int .i64 (cur:Int)),(13,.int .i64 0),(14,.ref 3 0),(2,.int .i64 i),(3,.ref 0 0),(4,.ref 1 0),(6,.ref 2 0)])
  (fun j=>[(3,[.int .i64 cur,.int .i64 (dw bs b cur 0),.int .i64 (dw bs b cur 1),.bool (wr bs b cur),.int .u32 (dw bs b cur 2),.int .u32 (dw bs b cur 3)]),(2,[.sl 0 0 []]),(1,[.int .u32 b,.int .u32 s]),(0,[csl 128 (bs.map ofB)])]))
  (fun _ lv1 c1=>lv1=lv∧c1=c'+4) 0 ⟨Nat.zero_le _,by simp⟩ ⟨rfl,rfl⟩ (show js.length-0<k+10399 by omega) ⟨rfl,rfl,rfl,rfl,rfl,rfl,rfl,rfl,rfl,rfl,rfl,rfl,rfl,trivial⟩ ⟨rfl,rfl,rfl,rfl,trivial⟩ ?_
 rintro j lv1 c1 T H E ⟨hP,hni⟩ ⟨rfl,rfl⟩ hμ
 have hP:j≤js.length:=hP
 have hni:cur∉js.take j:=hni
 clear hμ
 dsimp only
 rcases Nat.lt_or_ge j js.length with hlt | hge
 ·obtain ⟨x,hx⟩:∃ x,js[j]? = some x:=⟨_,List.getElem?_eq_getElem hlt⟩
  have hr:=ug hx
  have gi:inB (j:Int) ((dI js).length/1)=some j:=aZ (by rw [eP];omega)
  by_cases he:x=cur
  ·have herr:bF bs b s js cur=163:=by
    have:bn (decide (cur∈js))=1:=by rw [decide_eq_true (he▸List.mem_of_getElem? hx)];rfl
    unfold bF eu;rw [if_pos (.inl this)]
   repeat (first | refine stN ?_ | intro E)
   apply aN
   repeat (first | refine stN ?_ | intro E)
   apply aN
   exact dv (P:=K (.exit 0)) [(13,.int .i64 ((163:Nat):Int)),(2,.int .i64 i),(3,.ref 0 0),(4,.ref 1 0),(6,.ref 2 0)] [(2,[.sl 0 0 []]),(1,[.int .u32 b,.int .u32 s]),(0,[csl 128 (bs.map ofB)])] ⟨rfl,rfl,rfl,rfl,rfl,trivial⟩ ⟨rfl,rfl,rfl,trivial⟩ fun T H E=>kerr 163 js _ _ _ _ _ _ (by rw [hW.err (by omega),herr]) (by omega) (by omega)
  ·repeat (first | refine stN ?_ | intro E)
   refine aB (j+1) ⟨by omega,?_⟩ ⟨rfl,rfl⟩ (show js.length-(j+1)<js.length-j by omega) ⟨rfl,rfl,rfl,rfl,rfl,rfl,rfl,rfl,rfl,rfl,rfl,rfl,rfl,trivial⟩ ⟨⟨rfl,rfl⟩,⟨rfl,rfl⟩,⟨rfl,rfl⟩,⟨rfl,rfl⟩,trivial⟩
   rw [List.take_add_one,hx]
   simp only [Option.toList_some,List.mem_append,List.mem_singleton]
   rintro (h | h)
   ·exact hni h
   ·exact he h.symm
 ·rw [List.take_of_length_le hge] at hni
  have hin:bn (decide (cur∈js))=0:=by rw [decide_eq_false hni];rfl
  have hjl:j=js.length:=by omega
  subst hjl
  repeat (first | refine stN ?_ | intro E)
  apply aN
  have hlenI:=eP js
  have hfl:mb (dw bs b cur 2)=true∨mb (dw bs b cur 2)=false:=by cases mb (dw bs b cur 2)<;>simp
  have hal:js.any (wr bs b)=true∨js.any (wr bs b)=false:=by cases js.any (wr bs b)<;>simp
  rcases hfl with hf | hf
  ·have hf':dw bs b cur 2/4%64=0∧dw bs b cur 2/65536=0∧(dw bs b cur 2/2%2=1∨dw bs b cur 2/256%256=0):=by simpa only [mb,decide_eq_true_eq] using hf
   rw [hf] at c192
   have hsnoc:∀ v,wr bs b cur=v→aH bs b js++[.int .i64 cur,.int .i64 (dw bs b cur 0),.int .i64 (dw bs b cur 1),.bool v]=aH bs b (js++[cur]):=by
    intro v hv
    rw [← oJ,← hv];rfl
   have hseen:dI js++[.int .i64 (cur:Int)]=dI (js++[cur]):=by simp [dI]
   have hroom:((aH bs b js).length+4)/4*32≤room:=by rw [fj,room];omega
   have hOwn:∀ lv2:Nat→Bool,(∀ z,z<c'+4→z≠q1+4→lv2 z=lv1 z)→Own lv2 (c'+4+1) br2 (aH bs b js):=by
    intro lv2 hz
    rcases hL2 with ⟨rfl,rfl,rfl⟩ | ⟨q,rfl,g1,g2,rfl⟩
    ·exact .inl ⟨rfl,rfl⟩
    ·exact .inr (.inr ⟨by omega,by omega,by rw [hz _ g1 (Ne.symm hne)];exact g2⟩)
   have hbr2:br2<c'+4:=by
    rcases hL2 with ⟨rfl,rfl,rfl⟩ | ⟨q,rfl,g1,g2,rfl⟩
    ·omega
    ·exact g1
   have hsz:sz=4∨(aH bs b js=[]∧br2<4):=by
    rcases hL2 with ⟨rfl,rfl,rfl⟩ | ⟨q,rfl,g1,g2,rfl⟩
    ·exact .inr ⟨rfl,by omega⟩
    ·exact .inl rfl
   have c176:bF bs b s js cur=0→ad (ab FN (k+10399)) 176 [aq bs,aL b s,.int .i64 ((2:Nat):Int),csl 1 (dI (js++[cur]))] (aq (bm bs b 2 (js++[cur]))):=by
    intro he
    refine (Aa (k:=0) h ?_ (by omega) (by rw [List.length_append,List.length_singleton];omega)).fuel (by omega)
    intro j hj
    rcases List.mem_append.1 hj with hh | hh
    ·exact hW4 j hh
    ·rw [List.mem_singleton] at hh;omega
   clear hL2
   have hany0:(js++[cur]).any (wr bs b)=(js.any (wr bs b)||wr bs b cur):=by simp
   have hb1:bn true=1:=rfl
   have hb0:bn false=0:=rfl
   have hwd:bn (wr bs b cur)=dw bs b cur 2%2:=yo _
   have hmd:bn (decide (dw bs b cur 2/2%2=1))=dw bs b cur 2/2%2:=yo _
   cases ha:js.any (wr bs b)<;>cases hwr:wr bs b cur<;>cases hmb:decide (dw bs b cur 2/2%2=1)
   all_goals
    have hbn:=congrArg bn ha
    rw [hwr] at c192 c193 c194 hwd
    rw [hmb] at c193 hmd
    rw [ha,hwr] at hany0
    repeat' (first | refine stM ?_ | intro E | (refine stS ?_ ?_<;>intro hc) | refine stB ?_ | (refine stG ?_ ?_<;>intro hc))
    all_goals first
    | (apply aN
       first
     | (refine dv (P:=K (.exit 0)) [(13,.int .i64 ((163:Nat):Int)),(2,.int .i64 i),(3,.ref 0 0),(4,.ref 1 0),(6,.ref 2 0)] [(2,[.sl 0 0 []]),(1,[.int .u32 b,.int .u32 s]),(0,[csl 128 (bs.map ofB)])] ⟨rfl,rfl,rfl,rfl,rfl,trivial⟩ ⟨rfl,rfl,rfl,trivial⟩ fun T H E=>kerr 163 js _ _ _ _ _ _ ?_ (by omega) (by omega)
        have herr:bF bs b s js cur=163:=by
         unfold bF eu
         (repeat' split)<;>omega
        rw [hW.err (by omega),herr])
     | (refine dv (P:=K (.exit 0)) [(13,.int .i64 ((165:Nat):Int)),(2,.int .i64 i),(3,.ref 0 0),(4,.ref 1 0),(6,.ref 2 0)] [(2,[.sl 0 0 []]),(1,[.int .u32 b,.int .u32 s]),(0,[csl 128 (bs.map ofB)])] ⟨rfl,rfl,rfl,rfl,rfl,trivial⟩ ⟨rfl,rfl,rfl,trivial⟩ fun T H E=>kerr 165 js _ _ _ _ _ _ ?_ (by omega) (by omega)
        have herr:bF bs b s js cur=165:=by
         unfold bF eu
         (repeat' split)<;>omega
        rw [hW.err (by omega),herr])
     | (refine dv (P:=K (.exit 0)) [(13,.int .i64 ((161:Nat):Int)),(2,.int .i64 i),(3,.ref 0 0),(4,.ref 1 0),(6,.ref 2 0)] [(2,[.sl 0 0 []]),(1,[.int .u32 b,.int .u32 s]),(0,[csl 128 (bs.map ofB)])] ⟨rfl,rfl,rfl,rfl,rfl,trivial⟩ ⟨rfl,rfl,rfl,trivial⟩ fun T H E=>kerr 161 js _ _ _ _ _ _ ?_ (by omega) (by omega)
        have herr:bF bs b s js cur=161:=by
         unfold bF eu
         (repeat' split)<;>omega
        rw [hW.err (by omega),herr])
     | (refine dv (P:=K (.exit 0)) [(13,.int .i64 ((164:Nat):Int)),(2,.int .i64 i),(3,.ref 0 0),(4,.ref 1 0),(6,.ref 2 0)] [(2,[.sl 0 0 []]),(1,[.int .u32 b,.int .u32 s]),(0,[csl 128 (bs.map ofB)])] ⟨rfl,rfl,rfl,rfl,rfl,trivial⟩ ⟨rfl,rfl,rfl,trivial⟩ fun T H E=>kerr 164 js _ _ _ _ _ _ ?_ (by omega) (by omega)
        have herr:bF bs b s js cur=164:=by
         unfold bF eu
         (repeat' split)<;>omega
        rw [hW.err (by omega),herr])
     | (refine dv (P:=K (.exit 0)) [(13,.int .i64 ((162:Nat):Int)),(2,.int .i64 i),(3,.ref 0 0),(4,.ref 1 0),(6,.ref 2 0)] [(2,[.sl 0 0 []]),(1,[.int .u32 b,.int .u32 s]),(0,[csl 128 (bs.map ofB)])] ⟨rfl,rfl,rfl,rfl,rfl,trivial⟩ ⟨rfl,rfl,rfl,trivial⟩ fun T H E=>kerr 162 js _ _ _ _ _ _ ?_ (by omega) (by omega)
        have herr:bF bs b s js cur=162:=by
         unfold bF eu
         (repeat' split)<;>omega
        rw [hW.err (by omega),herr])
     )
    | (
     have he:bF bs b s js cur=0:=by
      unfold bF eu
      (repeat' split)<;>omega
     have hj4:=(jr he).2.1
     have c176:=c176 he
     apply fB
     ·exact rfl
     ·exact .inl rfl
     ·exact rfl
     ·exact fun H=>fU _ _ _ _
     ·exact ⟨by omega,by omega⟩
     ·rw [eP];simp only [List.length_cons,List.length_nil,room];omega
     ·exact .inr (.inr ⟨by omega,hq1,hq2⟩)
     ·exact List.cons_ne_nil _ _
     intro lv2 l1 l2
     rw [hseen]
     repeat (first | refine stN ?_ | intro E)
     apply fB
     ·exact rfl
     ·exact hsz
     ·exact rfl
     ·exact fun H=>fU _ _ _ _
     ·exact ⟨by omega,by omega⟩
     ·exact hroom
     ·exact hOwn lv2 l2
     ·exact List.cons_ne_nil _ _
     intro lv3 m1 m2
     rw [hsnoc _ hwr]
     repeat (first | refine stN ?_ | intro E)
     first
     | (apply bz
        exact dv (P:=K .ret) [(7,.sl (c'+1+4) 4 (aH bs b (js++[cur]))),(8,.int .i64 0),(6,.ref 2 0)] [(2,[csl 128 ((bm bs b 2 (js++[cur])).map ofB)])] ⟨rfl,rfl,rfl,trivial⟩ ⟨rfl,trivial⟩ fun T H E=>kok _ _ _ _ _ _ _ _ (hW.last he (by omega)))
     | (refine aB (f-1,js++[cur],dw bs b cur 2/256%256,c'+4,c'+4+1,4) (hW.more he (by omega)) ⟨by omega,⟨c',rfl,?_,?_⟩,.inr ⟨c'+1,rfl,?_,m1,rfl⟩,?_⟩ (show f-1<f by omega) ?_ ⟨⟨rfl,rfl⟩,⟨rfl,rfl⟩,⟨rfl,rfl⟩,trivial⟩
        ·show c'+4<c'+4+1+1;omega
        ·show lv3 (c'+4)=true
         rw [m2 (c'+4) (by omega) (by omega)];exact l1
        ·show c'+4+1<c'+4+1+1;omega
        ·show c'+4≠c'+4+1;omega
        ·dsimp only
         rw [hany0]
         exact ⟨rfl,rfl,rfl,rfl,rfl,rfl,rfl,rfl,rfl,trivial⟩)
     )
  ·have hf':¬ (dw bs b cur 2/4%64=0∧dw bs b cur 2/65536=0∧(dw bs b cur 2/2%2=1∨dw bs b cur 2/256%256=0)):=by simpa only [mb,decide_eq_false_iff_not] using hf
   rw [hf] at c192
   repeat' (first | refine stM ?_ | intro E | (refine stS ?_ ?_<;>intro hc) | refine stB ?_ | (refine stG ?_ ?_<;>intro hc))
   all_goals
    apply aN
    first
    | (refine dv (P:=K (.exit 0)) [(13,.int .i64 ((163:Nat):Int)),(2,.int .i64 i),(3,.ref 0 0),(4,.ref 1 0),(6,.ref 2 0)] [(2,[.sl 0 0 []]),(1,[.int .u32 b,.int .u32 s]),(0,[csl 128 (bs.map ofB)])] ⟨rfl,rfl,rfl,rfl,rfl,trivial⟩ ⟨rfl,rfl,rfl,trivial⟩ fun T H E=>kerr 163 js _ _ _ _ _ _ ?_ (by omega) (by omega)
       have herr:bF bs b s js cur=163:=by
        unfold bF eu
        (repeat' split)<;>omega
       rw [hW.err (by omega),herr])
    | (refine dv (P:=K (.exit 0)) [(13,.int .i64 ((165:Nat):Int)),(2,.int .i64 i),(3,.ref 0 0),(4,.ref 1 0),(6,.ref 2 0)] [(2,[.sl 0 0 []]),(1,[.int .u32 b,.int .u32 s]),(0,[csl 128 (bs.map ofB)])] ⟨rfl,rfl,rfl,rfl,rfl,trivial⟩ ⟨rfl,rfl,rfl,trivial⟩ fun T H E=>kerr 165 js _ _ _ _ _ _ ?_ (by omega) (by omega)
       have herr:bF bs b s js cur=165:=by
        unfold bF eu
        (repeat' split)<;>omega
       rw [hW.err (by omega),herr])
    | (refine dv (P:=K (.exit 0)) [(13,.int .i64 ((161:Nat):Int)),(2,.int .i64 i),(3,.ref 0 0),(4,.ref 1 0),(6,.ref 2 0)] [(2,[.sl 0 0 []]),(1,[.int .u32 b,.int .u32 s]),(0,[csl 128 (bs.map ofB)])] ⟨rfl,rfl,rfl,rfl,rfl,trivial⟩ ⟨rfl,rfl,rfl,trivial⟩ fun T H E=>kerr 161 js _ _ _ _ _ _ ?_ (by omega) (by omega)
       have herr:bF bs b s js cur=161:=by
        unfold bF eu
        (repeat' split)<;>omega
       rw [hW.err (by omega),herr])
    | (refine dv (P:=K (.exit 0)) [(13,.int .i64 ((164:Nat):Int)),(2,.int .i64 i),(3,.ref 0 0),(4,.ref 1 0),(6,.ref 2 0)] [(2,[.sl 0 0 []]),(1,[.int .u32 b,.int .u32 s]),(0,[csl 128 (bs.map ofB)])] ⟨rfl,rfl,rfl,rfl,rfl,trivial⟩ ⟨rfl,rfl,rfl,trivial⟩ fun T H E=>kerr 164 js _ _ _ _ _ _ ?_ (by omega) (by omega)
       have herr:bF bs b s js cur=164:=by
        unfold bF eu
        (repeat' split)<;>omega
       rw [hW.err (by omega),herr])
    | (refine dv (P:=K (.exit 0)) [(13,.int .i64 ((162:Nat):Int)),(2,.int .i64 i),(3,.ref 0 0),(4,.ref 1 0),(6,.ref 2 0)] [(2,[.sl 0 0 []]),(1,[.int .u32 b,.int .u32 s]),(0,[csl 128 (bs.map ofB)])] ⟨rfl,rfl,rfl,rfl,rfl,trivial⟩ ⟨rfl,rfl,rfl,trivial⟩ fun T H E=>kerr 162 js _ _ _ _ _ _ ?_ (by omega) (by omega)
       have herr:bF bs b s js cur=162:=by
        unfold bF eu
        (repeat' split)<;>omega
       rw [hW.err (by omega),herr])
end Go.Proofs.YtepcejdglbcbkaaGreat
