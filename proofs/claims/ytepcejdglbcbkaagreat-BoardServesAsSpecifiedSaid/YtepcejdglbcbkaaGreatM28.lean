/- Part of the texts on which proofs about this seat rest: each says what it proves at its own head. No condition. -/
import Derived.Test.YtepcejdglbcbkaaGreatM27
set_option linter.unusedVariables false
set_option linter.unusedSimpArgs false
set_option maxHeartbeats 4000000
set_option maxRecDepth 100000
/- Whether a device is valid, by the program and by the reference. Condition: the memory is valid; the numbers are such as their types hold; at most 100 requests of 100 parts. -/
namespace Go.Proofs.YtepcejdglbcbkaaGreat
open Go.Abs
variable {k:Nat}
def cD (s:Nat):Bool:=decide (s=1∨s=2∨s=4∨s=8)
theorem abl {s:Nat}(hs:s<4294967296):ad (ab FN (k+1)) 104 [.int .u32 s] (.bool (cD s)):=by
 refine ak XM fun T H E lv=>?_
 by_cases h:s=1∨s=2∨s=4∨s=8
 ·have e:cD s=true:=decide_eq_true h
  rw [e]
  rcases h with rfl | rfl | rfl | rfl
  all_goals
   repeat (first | refine stN ?_ | intro E)
   exact ae (.inr rfl) rfl rfl rfl rfl rfl rfl
 ·have e:cD s=false:=decide_eq_false h
  rw [e]
  repeat (first | refine stN ?_ | intro E)
  exact ae (.inr rfl) rfl rfl rfl rfl rfl rfl
def eh (x:BI):Nat:=(x.d.map ofB).length/128
def nD (r:RI):Prop:=r.b<4294967296∧r.s<4294967296∧r.l.length≤5000
def ju (L:Nat) (x:BI):Prop:=
 (x.at'=0∨(0<x.at'∧cD x.s=true∧x.at'<x.s))∧(x.st=0∨(160≤x.st∧x.st≤165))∧eh x≤64∧x.f.length≤8∧∀ r∈x.f,cj L (eh x) r=true
noncomputable def dE (L:Nat) (x:BI):Bool:=@decide (ju L x) (Classical.propDecidable _)
theorem nE {L:Nat}{x:BI}(h:ju L x):dE L x=true:=@decide_eq_true _ (Classical.propDecidable _) h
theorem kY {L:Nat}{x:BI}(h:¬ ju L x):dE L x=false:=@decide_eq_false _ (Classical.propDecidable _) h
theorem vZ {L:Nat}{x:BI}:dE L x=true↔ju L x:=⟨fun h=>@of_decide_eq_true _ (Classical.propDecidable _) h,nE⟩
theorem s44 {bs:List UInt8}{x:BI}(h:VM bs) (hb:x.b<4294967296) (hs:x.s<4294967296) (hd:eh x<1000000) (hf:x.f.length≤5000) (hr:∀ r∈x.f,nD r):ad (ab FN (k+600)) 44 [biV x,aq bs] (.bool (dE bs.length x)):=by
 have hl:=h.le
 obtain ⟨b,s,at',st,d,f⟩:=x
 have hD:eh ⟨b,s,at',st,d,f⟩=(d.map ofB).length/128:=rfl
 rw [hD] at hd
 dsimp only at hb hs hf hr
 have c104:ad (ab FN (k+599)) 104 [.int .u32 s] (.bool (cD s)):=(abl (k:=0) hs).fuel (by omega)
 have hdv:=dy f
 have hws:IntKind.i64.wrap (s:Int)=s:=w64 (by omega) (by omega)
 change ad _ _ [AV.agg [.int .u32 b,.int .u32 s,.int .i64 at',.int .i64 st,csl 128 (d.map ofB),csl 5 (bp f)],_] _
 refine ak aag fun T H E lv=>?_
 by_cases hA:(at'=0∨(0<at'∧cD s=true∧at'<s))∧(st=0∨(160≤st∧st≤165))∧(d.map ofB).length/128≤64∧f.length≤8
 ·obtain ⟨hat,hst,hdl,hfl⟩:=id hA
  obtain hat | ⟨t1,t2,t3⟩:=hat
  all_goals first
   | subst hat
   | rw [t2] at c104
  all_goals obtain hst | hst:=hst
  case' inl.inl=>subst hst
  case' inr.inl=>subst hst
  all_goals
   repeat (first | refine stN ?_ | intro E)
   rw [dy]
   refine aW (α:=Nat) (a8.mk (fun i=>i≤f.length∧(∀ r∈f.take i,cj bs.length ((d.map ofB).length/128) r=true)) (fun i=>f.length-i)
    (fun i=>[(66,.int .i64 (i:Int)),(65,.int .i64 (f.length:Int)),(64,csl 5 (bp f)),(4,.bool false),(3,.ref 1 0),(2,.ref 0 0)])
    (fun i=>[(1,[csl 128 (bs.map ofB)]),(0,[.int .u32 b,.int .u32 s,.int .i64 _,.int .i64 _,csl 128 (d.map ofB),csl 5 (bp f)])]))
    (fun _ _ c=>c=4) 0 ⟨Nat.zero_le _,by simp⟩ rfl (show f.length-0<k+599 by omega) ⟨rfl,rfl,rfl,rfl,rfl,rfl,trivial⟩ ⟨rfl,rfl,trivial⟩ ?_
   rintro i lv c T H E hP rfl hμ
   have hP:i≤f.length∧(∀ r∈f.take i,cj bs.length ((d.map ofB).length/128) r=true):=hP
   obtain ⟨hP,hok⟩:=hP
   clear hμ
   dsimp only
   rcases Nat.lt_or_ge i f.length with hi | hi
   ·obtain ⟨r,hp⟩:∃ p,f[i]? = some p:=⟨_,List.getElem?_eq_getElem hi⟩
    have gi:inB (i:Int) ((bp f).length/5)=some i:=aZ (by rw [dy];omega)
    have hrd:rd (bp f) (i*5) 5 true=some (.agg [.int .u32 r.b,.int .u32 r.s,.int .i64 r.q,.bool r.w,csl 4 (bf r.l)]):=gK fI hp
    obtain ⟨r1,r2,r3⟩:=hr r (List.mem_of_getElem? hp)
    have c105:ad (ab FN (k+599)) 105 [AV.agg [.int .u32 r.b,.int .u32 r.s,.int .i64 r.q,.bool r.w,csl 4 (bf r.l)],aq bs,.int .i64 (((d.map ofB).length/128:Nat):Int)] (.bool (cj bs.length ((d.map ofB).length/128) r)):=(abj (k:=0) h r1 r2 hd r3).fuel (by omega)
    cases hq:cj bs.length ((d.map ofB).length/128) r
    ·rw [hq] at c105
     rw [kY fun hV=>by
      have:=hV.2.2.2.2 r (List.mem_of_getElem? hp)
      rw [hD,hq] at this;cases this]
     repeat (first | refine stN ?_ | intro E)
     apply bz
     repeat (first | refine stN ?_ | intro E)
     exact ae (.inr rfl) rfl rfl rfl rfl rfl rfl
    ·rw [hq] at c105
     repeat (first | refine stN ?_ | intro E)
     refine aB (i+1) ⟨by omega,?_⟩ rfl (show f.length-(i+1)<f.length-i by omega) ⟨rfl,rfl,rfl,rfl,rfl,rfl,trivial⟩ ⟨⟨rfl,rfl⟩,⟨rfl,rfl⟩,trivial⟩
     intro p' hp'
     rw [List.take_add_one,hp] at hp'
     rcases List.mem_append.1 hp' with hh | hh
     ·exact hok p' hh
     ·simp only [Option.toList_some,List.mem_singleton] at hh;rw [hh];exact hq
   ·rw [List.take_of_length_le hi] at hok
    rw [nE ⟨hA.1,hA.2.1,by rw [hD];exact hdl,hfl,fun r hr'=>by rw [hD];exact hok r hr'⟩]
    repeat (first | refine stN ?_ | intro E)
    apply aN
    apply aM
    repeat (first | refine stN ?_ | intro E)
    exact ae (.inr rfl) rfl rfl rfl rfl rfl rfl
 ·have hv:dE bs.length ⟨b,s,at',st,d,f⟩=false:=kY fun hV=>hA ⟨hV.1,hV.2.1,hV.2.2.1,hV.2.2.2.1⟩
  rw [hv]
  obtain hat | ⟨t1,t2,t3⟩ | ⟨t1,t2,t3⟩ | ⟨t1,t2⟩ | t1:at'=0∨(0<at'∧cD s=true∧at'<s)∨(0<at'∧cD s=true∧s≤at')∨(0<at'∧cD s=false)∨at'<0:=by
   have hw:cD s=true∨cD s=false:=by cases cD s<;>simp
   rcases hw with e | e
   ·simp only [e,true_and,reduceCtorEq,false_and,and_false,false_or];omega
   ·simp only [e,reduceCtorEq,false_and,and_false,false_or,and_true];omega
  all_goals first | rw [t2] at c104 | skip
  all_goals first | subst hat | skip
  all_goals obtain hst | hst | hst | hst:st=0∨(160≤st∧st≤165)∨(st≠0∧st<160)∨165<st:=by omega
  all_goals first
   | (have hdd:64<(d.map ofB).length/128∨((d.map ofB).length/128≤64∧8<f.length):=by
    rcases Nat.lt_or_ge 64 ((d.map ofB).length/128) with h1 | h1
    ·exact .inl h1
    ·exact .inr ⟨h1,Nat.lt_of_not_le fun h2=>hA ⟨by first | exact .inl rfl | exact .inr ⟨t1,t2,t3⟩,by first | exact .inl hst | exact .inr hst,h1,h2⟩⟩
      obtain hdd | hdd:=hdd)
   | skip
  all_goals
   repeat (first | refine stN ?_ | intro E)
   exact ae (.inr rfl) rfl rfl rfl rfl rfl rfl
end Go.Proofs.YtepcejdglbcbkaaGreat
/- Whether a device is valid, by the reference; and whether there is little of it. Condition: the memory is valid; the numbers are such as their types hold; at most 100 requests of 100 parts. -/
namespace Go.Proofs.YtepcejdglbcbkaaGreat
open Go.Abs
variable {k:Nat}
theorem v7 {bs d:List UInt8}{b s:Nat}{at' st:Int}{f:List RI}{sl:List (Nat×AV)}{os:List (Nat×List AV)}{T:Nat→AV}{H:Hp}{E:Nat→Option TypeId}{lv:Nat→Bool}(h:VM bs) (hd:(d.map ofB).length/128<1000000) (hf:f.length≤5000) (hr:∀ r∈f,nD r)
 (hA:(at'=0∨(0<at'∧cD s=true∧at'<s))∧(st=0∨(160≤st∧st≤165))∧(d.map ofB).length/128≤64∧f.length≤8)
 (h1:gE sl [(4,.bool false),(3,.ref 1 0),(2,.ref 0 0)]) (h2:fE os [(1,[csl 128 (bs.map ofB)]),(0,[.int .u32 b,.int .u32 s,.int .i64 at',.int .i64 st,csl 128 (d.map ofB),csl 5 (bp f)])]) :
 Wp (ab FN (k+599)) (k+599) (.seq (.seq (.ops false vO) (.block 0 (.loop rT))) (.seq (.ops false rU) .ret)) ⟨af sl T,ah os H,E,2,lv,4⟩ (Ret f49 (.bool (dE bs.length ⟨b,s,at',st,d,f⟩))):=by
 have hl:=h.le
 have hD:eh ⟨b,s,at',st,d,f⟩=(d.map ofB).length/128:=rfl
 have hdv:=dy f
 refine dv (P:=fun S=>Wp _ _ _ S _) _ _ h1 h2 fun T H E=>?_
 repeat (first | refine stN ?_ | intro E)
 refine aW (α:=Nat) (a8.mk (fun i=>i≤f.length∧(∀ r∈f.take i,cj bs.length ((d.map ofB).length/128) r=true)) (fun i=>f.length-i)
  (fun i=>[(7,.int .i64 (i:Int)),(4,.bool false),(3,.ref 1 0),(2,.ref 0 0)])
  (fun i=>[(1,[csl 128 (bs.map ofB)]),(0,[.int .u32 b,.int .u32 s,.int .i64 at',.int .i64 st,csl 128 (d.map ofB),csl 5 (bp f)])]))
  (fun _ _ c=>c=4) 0 ⟨Nat.zero_le _,by simp⟩ rfl (show f.length-0<k+599 by omega) ⟨rfl,rfl,rfl,rfl,trivial⟩ ⟨rfl,rfl,trivial⟩ ?_
 rintro i lv c T H E hP rfl hμ
 have hP:i≤f.length∧(∀ r∈f.take i,cj bs.length ((d.map ofB).length/128) r=true):=hP
 obtain ⟨hP,hok⟩:=hP
 clear hμ
 dsimp only
 rcases Nat.lt_or_ge i f.length with hi | hi
 ·obtain ⟨r,hp⟩:∃ p,f[i]? = some p:=⟨_,List.getElem?_eq_getElem hi⟩
  have gi:inB (i:Int) ((bp f).length/5)=some i:=aZ (by rw [dy];omega)
  have hrd:rd (bp f) (i*5) 5 true=some (.agg [.int .u32 r.b,.int .u32 r.s,.int .i64 r.q,.bool r.w,csl 4 (bf r.l)]):=gK fI hp
  obtain ⟨r1,r2,r3⟩:=hr r (List.mem_of_getElem? hp)
  have c108:ad (ab FN (k+599)) 108 [AV.agg [.int .u32 r.b,.int .u32 r.s,.int .i64 r.q,.bool r.w,csl 4 (bf r.l)],aq bs,.int .i64 (((d.map ofB).length/128:Nat):Int)] (.bool (cj bs.length ((d.map ofB).length/128) r)):=(abk (k:=0) h r1 r2 hd r3).fuel (by omega)
  cases hq:cj bs.length ((d.map ofB).length/128) r
  ·rw [hq] at c108
   rw [kY fun hV=>by
    have:=hV.2.2.2.2 r (List.mem_of_getElem? hp)
    rw [hD,hq] at this;cases this]
   repeat (first | refine stN ?_ | intro E)
   apply bz
   repeat (first | refine stN ?_ | intro E)
   exact ae (.inr rfl) rfl rfl rfl rfl rfl rfl
  ·rw [hq] at c108
   repeat (first | refine stN ?_ | intro E)
   refine aB (i+1) ⟨by omega,?_⟩ rfl (show f.length-(i+1)<f.length-i by omega) ⟨rfl,rfl,rfl,rfl,trivial⟩ ⟨⟨rfl,rfl⟩,⟨rfl,rfl⟩,trivial⟩
   intro p' hp'
   rw [List.take_add_one,hp] at hp'
   rcases List.mem_append.1 hp' with hh | hh
   ·exact hok p' hh
   ·simp only [Option.toList_some,List.mem_singleton] at hh;rw [hh];exact hq
 ·rw [List.take_of_length_le hi] at hok
  rw [nE ⟨hA.1,hA.2.1,by rw [hD];exact hA.2.2.1,hA.2.2.2,fun r hr'=>by rw [hD];exact hok r hr'⟩]
  repeat (first | refine stN ?_ | intro E)
  apply aN
  apply aM
  repeat (first | refine stN ?_ | intro E)
  exact ae (.inr rfl) rfl rfl rfl rfl rfl rfl
theorem yy {bs d:List UInt8}{b s:Nat}{at' st:Int}{f:List RI}{sl:List (Nat×AV)}{os:List (Nat×List AV)}{T:Nat→AV}{H:Hp}{E:Nat→Option TypeId}{lv:Nat→Bool}(h:VM bs) (hs:s<4294967296) (hd:(d.map ofB).length/128<1000000) (hf:f.length≤5000) (hr:∀ r∈f,nD r)
 {w:Bool}(hw:cD s=w) (h1:gE sl [(6,.bool w),(5,.int .u32 s),(4,.bool false),(3,.ref 1 0),(2,.ref 0 0)]) (h2:fE os [(1,[csl 128 (bs.map ofB)]),(0,[.int .u32 b,.int .u32 s,.int .i64 at',.int .i64 st,csl 128 (d.map ofB),csl 5 (bp f)])]) :
 Wp (ab FN (k+599)) (k+599) (.seq (.seq (.ops false Bb) (.cond (.t 47) (.seq (.ops false Bc) .ret) .skip)) (.seq (.seq (.ops false Bd) (.cond (.t 72) (.seq (.ops false Be) .ret) .skip)) (.seq (.seq (.ops false vO) (.block 0 (.loop rT))) (.seq (.ops false rU) .ret)))) ⟨af sl T,ah os H,E,2,lv,4⟩ (Ret f49 (.bool (dE bs.length ⟨b,s,at',st,d,f⟩))):=by
 have hdv:=dy f
 have hws:IntKind.i64.wrap (s:Int)=s:=w64 (by omega) (by omega)
 refine dv (P:=fun S=>Wp _ _ _ S _) _ _ h1 h2 fun T H E=>?_
 by_cases hA:(at'=0∨(0<at'∧cD s=true∧at'<s))∧(st=0∨(160≤st∧st≤165))∧(d.map ofB).length/128≤64∧f.length≤8
 ·obtain ⟨hat,hst,hdl,hfl⟩:=id hA
  have hs0:w=true→0<s:=fun e=>by
   rw [e] at hw
   have:=of_decide_eq_true hw
   omega
  have hrest:=fun sl os T H E lv h1 h2=>v7 (k:=k) (b:=b) (sl:=sl) (os:=os) (T:=T) (H:=H) (E:=E) (lv:=lv) h hd hf hr hA h1 h2
  generalize hR:dE bs.length ⟨b,s,at',st,d,f⟩=R at hrest ⊢
  obtain hat | ⟨t1,t2,t3⟩:=hat
  ·cases w
   all_goals first
    | have hs1:=hs0 rfl
    | skip
   all_goals obtain hst | hst:=hst
   all_goals
    repeat (first | exact hrest _ _ _ _ _ _ ⟨rfl,rfl,rfl,trivial⟩ ⟨rfl,rfl,trivial⟩ | (first | refine stN ?_ | intro E))
  ·rw [hw] at t2
   subst t2
   obtain hst | hst:=hst
   all_goals
    repeat (first | exact hrest _ _ _ _ _ _ ⟨rfl,rfl,rfl,trivial⟩ ⟨rfl,rfl,trivial⟩ | (first | refine stN ?_ | intro E))
 ·have hv:dE bs.length ⟨b,s,at',st,d,f⟩=false:=kY fun hV=>hA ⟨hV.1,hV.2.1,hV.2.2.1,hV.2.2.2.1⟩
  rw [hv]
  by_cases hP:at'=0∨(0<at'∧cD s=true∧at'<s)
  ·have hdd:(st=0∧64<(d.map ofB).length/128)∨(160≤st∧st≤165∧64<(d.map ofB).length/128)∨(st=0∧(d.map ofB).length/128≤64∧8<f.length)∨(160≤st∧st≤165∧(d.map ofB).length/128≤64∧8<f.length)∨(st≠0∧st<160)∨165<st:=by
    have:¬ ((st=0∨(160≤st∧st≤165))∧(d.map ofB).length/128≤64∧f.length≤8):=fun hh=>hA ⟨hP,hh⟩
    omega
   have hs0:w=true→0<s:=fun e=>by
    rw [e] at hw
    have:=of_decide_eq_true hw
    omega
   obtain hat | ⟨t1,t2,t3⟩:=hP
   ·cases w
    all_goals first
     | have hs1:=hs0 rfl
     | skip
    all_goals obtain hst | hst | hst | hst | hst | hst:=hdd
    all_goals
     repeat (first | refine stN ?_ | intro E)
     exact ae (.inr rfl) rfl rfl rfl rfl rfl rfl
   ·rw [hw] at t2
    subst t2
    obtain hst | hst | hst | hst | hst | hst:=hdd
    all_goals
     repeat (first | refine stN ?_ | intro E)
     exact ae (.inr rfl) rfl rfl rfl rfl rfl rfl
  ·rw [hw] at hP
   have hP:at'<0∨(0<at'∧w=false)∨(0<at'∧w=true∧(s:Int)≤at'):=by
    cases w
    ·simp only [reduceCtorEq,false_and,and_false,or_false,and_true] at hP ⊢;omega
    ·simp only [true_and,reduceCtorEq,and_false,false_or] at hP ⊢;omega
   obtain t1 | ⟨t1,t2⟩ | ⟨t1,t2,t3⟩:=hP
   case' inr.inl=>subst t2
   case' inr.inr=>subst t2
   all_goals
    repeat (first | refine stN ?_ | intro E)
    exact ae (.inr rfl) rfl rfl rfl rfl rfl rfl
theorem s49 {bs:List UInt8}{x:BI}(h:VM bs) (hb:x.b<4294967296) (hs:x.s<4294967296) (hd:eh x<1000000) (hf:x.f.length≤5000) (hr:∀ r∈x.f,nD r):ad (ab FN (k+600)) 49 [biV x,aq bs] (.bool (dE bs.length x)):=by
 obtain ⟨b,s,at',st,d,f⟩:=x
 have hD:eh ⟨b,s,at',st,d,f⟩=(d.map ofB).length/128:=rfl
 rw [hD] at hd
 dsimp only at hb hs hf hr
 change ad _ _ [AV.agg [.int .u32 b,.int .u32 s,.int .i64 at',.int .i64 st,csl 128 (d.map ofB),csl 5 (bp f)],_] _
 refine ak aal fun T H E lv=>?_
 have hwh:((s=1∨s=2∨s=4∨s=8)∧cD s=true)∨((s≠1∧s≠2∧s≠4∧s≠8)∧cD s=false):=by
  unfold cD
  by_cases h1:s=1∨s=2∨s=4∨s=8
  ·exact .inl ⟨h1,decide_eq_true h1⟩
  ·exact .inr ⟨by omega,decide_eq_false h1⟩
 obtain ⟨hq | hq | hq | hq,hw⟩ | ⟨⟨q1,q3,q4,q5⟩,hw⟩:=hwh
 all_goals
  have hrest:=fun sl os T H E lv h1 h2=>yy (k:=k) (b:=b) (at':=at') (st:=st) (sl:=sl) (os:=os) (T:=T) (H:=H) (E:=E) (lv:=lv) h hs hd hf hr hw h1 h2
  generalize dE bs.length ⟨b,s,at',st,d,f⟩=R at hrest ⊢
  repeat (first | exact hrest _ _ _ _ _ _ ⟨rfl,rfl,rfl,rfl,rfl,trivial⟩ ⟨rfl,rfl,trivial⟩ | (first | refine stN ?_ | intro E))
end Go.Proofs.YtepcejdglbcbkaaGreat
