/- Part of the texts on which proofs about this seat rest: each says what it proves at its own head. No condition. -/
import Derived.Test.YtepcejdglbcbkaaGreatM7
import Derived.KernelRfl
set_option linter.unusedVariables false
set_option linter.unusedSimpArgs false
set_option maxHeartbeats 4000000
set_option maxRecDepth 100000
/- The reference's Valid of the lines. Condition: the numbers are such as their types hold. -/
namespace Go.Proofs.YtepcejdglbcbkaaGreat
open Go.Abs
variable {k:Nat}
theorem s46 {c:LnI}(h:LnR c):ad (ab FN (k+100)) 46 [lnV c] (.bool (lnB c)):=by
 refine ak aai fun T H E lv=>?_
 by_cases hn:1≤c.n∧c.n≤4
 ·obtain ⟨n1,n4⟩:=id hn
  repeat (first | refine stN ?_ | intro E)
  refine aW (α:=Nat) (a8.mk (fun i=>i≤4∧∀ j,j<i→c.okK j) (fun i=>4-i) (fun i=>[(3,.int .i64 (i:Int)),(1,.pp (lnC c) 0)]) (fun _=>[])) (fun _ lv' c'=>lv'=lv∧c'=4) 0 ⟨by omega,fun j hj=>by omega⟩ ⟨rfl,rfl⟩ (show 4-0<k+99 by omega) ⟨rfl,rfl,trivial⟩ trivial ?_
  rintro i lv1 _ T H E hP ⟨hlv,rfl⟩ hμ
  have hP:i≤4∧∀ j,j<i→c.okK j:=hP
  obtain ⟨hi,hall⟩:=hP
  dsimp only
  clear hμ
  rcases Nat.lt_or_ge i 4 with hi4 | hi4
  ·have r1:=rW c hi4
   have r2:=rX c hi4
   have gi:inB (i:Int) 4=some i:=aZ hi4
   have hRi:=h.R i
   have hMi:=h.M i
   have hbad:=ub (c:=c) hi4
   unfold LnI.okK at hbad
   generalize hx:c.R i=x at *
   generalize hy:c.M i=y at *
   have hgood:(x<32∧y<32∧((i:Int)<c.n∨(x=0∧y=0)))→∀ j,j<i+1→c.okK j:=fun hg j hj=>by
    rcases Nat.lt_or_ge j i with hji | hji
    ·exact hall j hji
    ·obtain rfl:j=i:=by omega
     unfold LnI.okK
     rw [hx,hy];exact hg
   by_cases hG:x<32∧y<32∧((i:Int)<c.n∨(x=0∧y=0))
   ·have hg:=hgood hG
    obtain ⟨g1,g2,g3 | ⟨rfl,rfl⟩⟩:=hG
    ·repeat (first | refine stN ?_ | intro E)
     exact aB (i+1) ⟨by omega,hg⟩ ⟨hlv,rfl⟩ (show 4-(i+1)<4-i by omega) ⟨rfl,rfl,trivial⟩ trivial
    ·by_cases hin:(i:Int)<c.n
     all_goals
      repeat (first | refine stN ?_ | intro E)
      exact aB (i+1) ⟨by omega,hg⟩ ⟨hlv,rfl⟩ (show 4-(i+1)<4-i by omega) ⟨rfl,rfl,trivial⟩ trivial
   ·rw [hbad hG]
    obtain q | q | q | q:32≤x∨(x<32∧32≤y)∨(x<32∧y<32∧c.n≤(i:Int)∧x≠0)∨(x<32∧y<32∧c.n≤(i:Int)∧x=0∧y≠0):=by omega
    all_goals
     repeat (first | refine stN ?_ | intro E)
     apply bz
     repeat (first | refine stN ?_ | intro E)
     exact ae (.inr rfl) rfl rfl rfl rfl rfl rfl
  ·obtain rfl:i=4:=by omega
   have hkk:∀ j,j<4→c.okK j:=hall
   repeat (first | refine stN ?_ | intro E)
   apply aN
   apply aM
   repeat (first | refine stN ?_ | intro E)
   refine aW (α:=Nat) (a8.mk (fun i=>i≤5∧∀ j,j<i→c.okT j) (fun i=>5-i) (fun i=>[(4,.int .i64 (i:Int)),(1,.pp (lnC c) 0)]) (fun _=>[])) (fun _ lv' c'=>lv'=lv1∧c'=4) 0 ⟨by omega,fun j hj=>by omega⟩ ⟨rfl,rfl⟩ (show 5-0<k+99 by omega) ⟨rfl,rfl,trivial⟩ trivial ?_
   rintro i _ _ T H E hP ⟨rfl,rfl⟩ hμ
   have hP:i≤5∧∀ j,j<i→c.okT j:=hP
   obtain ⟨hi,hall⟩:=hP
   dsimp only
   clear hμ
   rcases Nat.lt_or_ge i 5 with hi5 | hi5
   ·have r1:=aaB c hi5
    have gi:inB (i:Int) 5=some i:=aZ hi5
    have hbad:=uc (c:=c) hi5
    have c107:ad (ab FN (k+99)) 107 [.int .i64 (i:Int)] (.bool (decide (i=1∨i=2∨i=3))):=zX (k:=k+98) i
    unfold LnI.okT at hbad
    generalize hx:c.T i=x at *
    have hgood:(0≤x∧x<c.n∧((i=1∨i=2∨i=3)∨x=0))→∀ j,j<i+1→c.okT j:=fun hg j hj=>by
     rcases Nat.lt_or_ge j i with hji | hji
     ·exact hall j hji
     ·obtain rfl:j=i:=by omega
      unfold LnI.okT
      rw [hx];exact hg
    by_cases hA:x<0
    ·rw [hbad (by omega)]
     repeat (first | refine stN ?_ | intro E)
     apply bz
     repeat (first | refine stN ?_ | intro E)
     exact ae (.inr rfl) rfl rfl rfl rfl rfl rfl
    by_cases hB:c.n≤x
    ·rw [hbad (by omega)]
     repeat (first | refine stN ?_ | intro E)
     apply bz
     repeat (first | refine stN ?_ | intro E)
     exact ae (.inr rfl) rfl rfl rfl rfl rfl rfl
    by_cases hD:i=1∨i=2∨i=3
    ·rw [decide_eq_true hD] at c107
     repeat (first | refine stN ?_ | intro E)
     exact aB (i+1) ⟨by omega,hgood (by omega)⟩ ⟨rfl,rfl⟩ (show 5-(i+1)<5-i by omega) ⟨rfl,rfl,trivial⟩ trivial
    rw [decide_eq_false hD] at c107
    by_cases hC:x=0
    ·repeat (first | refine stN ?_ | intro E)
     exact aB (i+1) ⟨by omega,hgood (by omega)⟩ ⟨rfl,rfl⟩ (show 5-(i+1)<5-i by omega) ⟨rfl,rfl,trivial⟩ trivial
    ·rw [hbad (by omega)]
     repeat (first | refine stN ?_ | intro E)
     apply bz
     repeat (first | refine stN ?_ | intro E)
     exact ae (.inr rfl) rfl rfl rfl rfl rfl rfl
   ·obtain rfl:i=5:=by omega
    rw [Bs ⟨hn,hkk,hall⟩]
    repeat (first | refine stN ?_ | intro E)
    apply aN
    apply aM
    repeat (first | refine stN ?_ | intro E)
    exact ae (.inr rfl) rfl rfl rfl rfl rfl rfl
 ·rw [qC fun hc=>hn hc.n]
  obtain h1 | h1:c.n<1∨(1≤c.n∧4<c.n):=by omega
  all_goals
   repeat (first | refine stN ?_ | intro E)
   exact ae (.inr rfl) rfl rfl rfl rfl rfl rfl
end Go.Proofs.YtepcejdglbcbkaaGreat
/- A line is raised, by the program and by the reference. Condition: the control is valid. -/
namespace Go.Proofs.YtepcejdglbcbkaaGreat
open Go.Abs
variable {k:Nat}
def dg (l:Nat) (i:Int):Prop:=(l=0∧i=0)∨(l=1∧i=1)∨(l=2∧i=2)∨(l=3∧i=3)∨(l=4∧i=4)
theorem b0:dS (ab FN 20) 116 [.int .i64 0]=some (.int .u32 1):=by kernel_rfl
theorem b1:dS (ab FN 20) 116 [.int .i64 1]=some (.int .u32 2):=by kernel_rfl
theorem b2:dS (ab FN 20) 116 [.int .i64 2]=some (.int .u32 4):=by kernel_rfl
theorem b3:dS (ab FN 20) 116 [.int .i64 3]=some (.int .u32 8):=by kernel_rfl
theorem b4:dS (ab FN 20) 116 [.int .i64 4]=some (.int .u32 16):=by kernel_rfl
theorem vP {l:Nat}{i:Int}(h:dg l i):ad (ab FN (k+20)) 116 [.int .i64 i] (.int .u32 ((2 ^ l:Nat):Int)):=by
 rcases h with ⟨rfl,rfl⟩ | ⟨rfl,rfl⟩ | ⟨rfl,rfl⟩ | ⟨rfl,rfl⟩ | ⟨rfl,rfl⟩
 ·exact (ad.mk b0).fuel (by omega)
 ·exact (ad.mk b1).fuel (by omega)
 ·exact (ad.mk b2).fuel (by omega)
 ·exact (ad.mk b3).fuel (by omega)
 ·exact (ad.mk b4).fuel (by omega)
theorem vQ {x l:Nat}{i:Int}(h:dg l i) (hx:x<4294967296):ad (ab FN (k+21)) 115 [.int .u32 x,.int .i64 i] (.bool (decide (x/2 ^ l%2=1))):=by
 have c116:ad (ab FN (k+20)) 116 [.int .i64 i] (.int .u32 ((2 ^ l:Nat):Int)):=vP h
 have hp:0<2 ^ l:=Nat.two_pow_pos l
 generalize 2 ^ l=p at *
 have hq:aj .quo (.int .u32 (x:Int)) (.int .u32 (p:Int))=some (.int .u32 ((x/p:Nat):Int)):=by
  have h0:x/p≤x:=Nat.div_le_self x p
  have h1:(x:Int).tdiv (p:Int)=((x/p:Nat):Int):=by
   rw [Int.tdiv_eq_ediv_of_nonneg (by omega)];rfl
  generalize x/p=z at *
  simp only [aj,reduceCtorEq,or_self,if_false,if_true,bC,h1]
  rw [if_neg (by omega),w32 (by omega) (by omega)]
 generalize x/p=z at *
 have hm:aj .rem (.int .u32 (z:Int)) (.int .u32 2)=some (.int .u32 ((z%2:Nat):Int)):=by
  simp only [aj,reduceCtorEq,or_self,if_false,if_true,bC]
  rw [if_neg (by omega)]
  congr 2
 refine ak XV fun T H E lv=>?_
 by_cases hd:z%2=1
 ·rw [decide_eq_true hd]
  repeat (first | refine stN ?_ | intro E)
  exact ae (.inr rfl) rfl rfl rfl rfl rfl rfl
 ·rw [decide_eq_false hd]
  repeat (first | refine stN ?_ | intro E)
  exact ae (.inr rfl) rfl rfl rfl rfl rfl rfl
theorem bI.Tn {c:LnI}(h:bI c) {i:Nat}(hi:i<5):∃ t:Nat,c.T i=(t:Int)∧t<4:=by
 have h1:=h.t i hi
 have h2:=h.n
 obtain ⟨g1,g2,_⟩:=h1
 exact ⟨(c.T i).toNat,by omega,by omega⟩
theorem bI.at_lt {c:LnI}(h:bI c) {l j:Nat}(hl:l<5) (hj:j<4):c.at l j<4:=by
 unfold LnI.at
 split
 ·obtain ⟨t,e,ht⟩:=h.Tn hl
  rw [e];exact ht
 ·exact hj
theorem s61 {c:LnI}(h:bI c) {l j:Nat}{i:Int}(hl:dg l i) (hj:j<4):ad (ab FN (k+30)) 61 [lnV c,.int .i64 i,.int .i64 j] (lnV (c.raise l j)):=by
 have hl5:l<5:=by unfold dg at hl;omega
 have hat:=h.at_lt hl5 hj
 have hok:=h.k _ hat
 unfold LnI.raise
 have hor:∀ (p:Int),p=((2 ^ l:Nat):Int)→aj .or (.int .u32 ((c.R (c.at l j):Nat):Int)) (.int .u32 p)=some (.int .u32 ((jT (c.R (c.at l j)) l:Nat):Int)):=fun p hp=>by
  have hp2:2 ^ l<4294967296:=by
   have:=hok.1
   rcases hl with ⟨rfl,_⟩ | ⟨rfl,_⟩ | ⟨rfl,_⟩ | ⟨rfl,_⟩ | ⟨rfl,_⟩<;>decide
  rw [hp,← EA _ hok.1 l hl5]
  exact yj (by have:=hok.1;omega) hp2
 generalize hY:jT (c.R (c.at l j)) l=y at *
 clear hY
 refine ak aav fun T H E lv=>?_
 have c103:ad (ab FN (k+29)) 103 [.int .u32 i] (.bool (decide (l=1∨l=2∨l=3))):=by
  have e:i=(l:Int):=by unfold dg at hl;omega
  rw [e];exact zW (k:=k+28) l
 have hT:∃ t,c.at l j=t∧((l=1∨l=2∨l=3)→c.T l=(t:Int))∧(¬ (l=1∨l=2∨l=3)→t=j):=by
  refine ⟨_,rfl,fun hh=>?_,fun hh=>?_⟩
  ·unfold LnI.at
   rw [if_pos hh]
   obtain ⟨t,e,_⟩:=h.Tn hl5
   rw [e];rfl
  ·unfold LnI.at
   rw [if_neg hh]
 obtain ⟨t,ht,hd1,hd2⟩:=hT
 rw [ht] at hor hat ⊢
 clear ht hok h
 obtain ⟨n,r0,r1,r2,r3,m0,m1,m2,m3,t0,t1,t2,t3,t4⟩:=c
 rcases hl with ⟨rfl,rfl⟩ | ⟨rfl,rfl⟩ | ⟨rfl,rfl⟩ | ⟨rfl,rfl⟩ | ⟨rfl,rfl⟩
 ·obtain rfl:=hd2 (by omega)
  have hs:aj .shl (.int .u32 1) (.int .i64 0)=some (.int .u32 1):=rfl
  have ho:=hor 1 rfl
  obtain rfl | rfl | rfl | rfl:t=0∨t=1∨t=2∨t=3:=by omega
  all_goals
   simp only [LnI.R] at ho
   simp only [LnI.setR]
   dsimp only [lnV,lnC]
   repeat (first | refine stN ?_ | intro E)
   exact ae (.inr rfl) rfl rfl rfl rfl rfl rfl
 ·have hs:aj .shl (.int .u32 1) (.int .i64 1)=some (.int .u32 2):=rfl
  have ho:=hor 2 rfl
  have hd:=hd1 (by omega)
  dsimp only [LnI.T] at hd
  subst hd
  obtain rfl | rfl | rfl | rfl:t=0∨t=1∨t=2∨t=3:=by omega
  all_goals
   simp only [LnI.R] at ho
   simp only [LnI.setR]
   dsimp only [lnV,lnC]
   repeat (first | refine stN ?_ | intro E)
   exact ae (.inr rfl) rfl rfl rfl rfl rfl rfl
 ·have hs:aj .shl (.int .u32 1) (.int .i64 2)=some (.int .u32 4):=rfl
  have ho:=hor 4 rfl
  have hd:=hd1 (by omega)
  dsimp only [LnI.T] at hd
  subst hd
  obtain rfl | rfl | rfl | rfl:t=0∨t=1∨t=2∨t=3:=by omega
  all_goals
   simp only [LnI.R] at ho
   simp only [LnI.setR]
   dsimp only [lnV,lnC]
   repeat (first | refine stN ?_ | intro E)
   exact ae (.inr rfl) rfl rfl rfl rfl rfl rfl
 ·have hs:aj .shl (.int .u32 1) (.int .i64 3)=some (.int .u32 8):=rfl
  have ho:=hor 8 rfl
  have hd:=hd1 (by omega)
  dsimp only [LnI.T] at hd
  subst hd
  obtain rfl | rfl | rfl | rfl:t=0∨t=1∨t=2∨t=3:=by omega
  all_goals
   simp only [LnI.R] at ho
   simp only [LnI.setR]
   dsimp only [lnV,lnC]
   repeat (first | refine stN ?_ | intro E)
   exact ae (.inr rfl) rfl rfl rfl rfl rfl rfl
 ·obtain rfl:=hd2 (by omega)
  have hs:aj .shl (.int .u32 1) (.int .i64 4)=some (.int .u32 16):=rfl
  have ho:=hor 16 rfl
  obtain rfl | rfl | rfl | rfl:t=0∨t=1∨t=2∨t=3:=by omega
  all_goals
   simp only [LnI.R] at ho
   simp only [LnI.setR]
   dsimp only [lnV,lnC]
   repeat (first | refine stN ?_ | intro E)
   exact ae (.inr rfl) rfl rfl rfl rfl rfl rfl
end Go.Proofs.YtepcejdglbcbkaaGreat
/- The reference raises a line; what is pending. Condition: the control is valid. -/
namespace Go.Proofs.YtepcejdglbcbkaaGreat
open Go.Abs
variable {k:Nat}
theorem s63 {c:LnI}(h:bI c) {l j:Nat}{i:Int}(hl:dg l i) (hj:j<4):ad (ab FN (k+30)) 63 [lnV c,.int .i64 i,.int .i64 j] (lnV (c.raise l j)):=by
 have hl5:l<5:=by unfold dg at hl;omega
 have hat:=h.at_lt hl5 hj
 have hok:=(h.k _ hat).1
 have hbit:=tY _ hok l hl5
 unfold LnI.raise
 have c107:ad (ab FN (k+29)) 107 [.int .i64 i] (.bool (decide (l=1∨l=2∨l=3))):=by
  have e:i=(l:Int):=by unfold dg at hl;omega
  rw [e];exact zX (k:=k+28) l
 have c115:ad (ab FN (k+29)) 115 [.int .u32 (c.R (c.at l j):Nat),.int .i64 i] (.bool (decide (c.R (c.at l j)/2 ^ l%2=1))):=vQ (k:=k+8) hl (by omega)
 have c116:ad (ab FN (k+29)) 116 [.int .i64 i] (.int .u32 ((2 ^ l:Nat):Int)):=vP (k:=k+9) hl
 have hadd:¬ (c.R (c.at l j)/2 ^ l%2=1)→aj .add (.int .u32 ((c.R (c.at l j):Nat):Int)) (.int .u32 ((2 ^ l:Nat):Int))=some (.int .u32 ((jT (c.R (c.at l j)) l:Nat):Int)):=fun hh=>by
  unfold jT at hbit ⊢
  rw [if_neg hh] at hbit ⊢
  simp only [aj,reduceCtorEq,or_self,if_false,if_true,bC]
  rw [show ((c.R (c.at l j):Nat):Int)+((2 ^ l:Nat):Int)=((c.R (c.at l j)+2 ^ l:Nat):Int) from (Int.natCast_add _ _).symm]
  generalize c.R (c.at l j)+2 ^ l=z at *
  rw [w32 (by omega) (by omega)]
 have hY:(c.R (c.at l j)/2 ^ l%2=1∧jT (c.R (c.at l j)) l=c.R (c.at l j))∨¬ (c.R (c.at l j)/2 ^ l%2=1):=by
  by_cases hh:c.R (c.at l j)/2 ^ l%2=1
  ·exact .inl ⟨hh,if_pos hh⟩
  ·exact .inr hh
 generalize hy:jT (c.R (c.at l j)) l=y at *
 clear hy hbit
 generalize 2 ^ l=p at *
 have hT:∃ t,c.at l j=t∧((l=1∨l=2∨l=3)→c.T l=(t:Int))∧(¬ (l=1∨l=2∨l=3)→t=j):=by
  refine ⟨_,rfl,fun hh=>?_,fun hh=>?_⟩
  ·unfold LnI.at
   rw [if_pos hh]
   obtain ⟨t,e,_⟩:=h.Tn hl5
   rw [e];rfl
  ·unfold LnI.at
   rw [if_neg hh]
 obtain ⟨t,ht,hd1,hd2⟩:=hT
 rw [ht] at c115 hadd hY hat ⊢
 clear ht hok h
 refine ak aax fun T H E lv=>?_
 have step:∀ {d:Bool},(d=true→c.R t/p%2=1∧y=c.R t)→(d=false→¬ (c.R t/p%2=1))→True:=fun _ _=>trivial
 obtain ⟨n,r0,r1,r2,r3,m0,m1,m2,m3,t0,t1,t2,t3,t4⟩:=c
 rcases hY with ⟨hh,hye⟩ | hh
 ·rw [decide_eq_true hh] at c115
  subst hye
  clear hadd hh
  rcases hl with ⟨rfl,rfl⟩ | ⟨rfl,rfl⟩ | ⟨rfl,rfl⟩ | ⟨rfl,rfl⟩ | ⟨rfl,rfl⟩
  case' inl=>obtain rfl:=hd2 (by omega);clear hd1
  case' inr.inr.inr.inr=>obtain rfl:=hd2 (by omega);clear hd1
  all_goals
   first
    | (have hd:=hd1 (by omega);dsimp only [LnI.T] at hd;subst hd)
    | skip
   obtain rfl | rfl | rfl | rfl:t=0∨t=1∨t=2∨t=3:=by omega
   all_goals
    simp only [LnI.R] at c115
    simp only [LnI.setR,LnI.R]
    dsimp only [lnV,lnC]
    repeat (first | refine stN ?_ | intro E)
    exact ae (.inr rfl) rfl rfl rfl rfl rfl rfl
 ·rw [decide_eq_false hh] at c115
  have hadd:=hadd hh
  clear hh
  rcases hl with ⟨rfl,rfl⟩ | ⟨rfl,rfl⟩ | ⟨rfl,rfl⟩ | ⟨rfl,rfl⟩ | ⟨rfl,rfl⟩
  case' inl=>obtain rfl:=hd2 (by omega);clear hd1
  case' inr.inr.inr.inr=>obtain rfl:=hd2 (by omega);clear hd1
  all_goals
   first
    | (have hd:=hd1 (by omega);dsimp only [LnI.T] at hd;subst hd)
    | skip
   obtain rfl | rfl | rfl | rfl:t=0∨t=1∨t=2∨t=3:=by omega
   all_goals
    simp only [LnI.R] at c115 hadd
    simp only [LnI.setR]
    dsimp only [lnV,lnC]
    repeat (first | refine stN ?_ | intro E)
    exact ae (.inr rfl) rfl rfl rfl rfl rfl rfl
end Go.Proofs.YtepcejdglbcbkaaGreat
