/- Part of the texts on which proofs about this seat rest: each says what it proves at its own head. No condition. -/
import Derived.Test.YtepcejdglbcbkaaGreatM41
set_option linter.unusedVariables false
set_option linter.unusedSimpArgs false
set_option maxHeartbeats 8000000
set_option maxRecDepth 100000
/- Whether a board is valid for a memory, and small: by the program and by the reference. Condition: the numbers are such as their types hold. -/
namespace Go.Proofs.YtepcejdglbcbkaaGreat
open Go.Abs
variable {k:Nat}
structure pv (b:BdI):Prop where
 c:LnR b.c
 hb:b.x.b<4294967296
 hs:b.x.s<4294967296
 hd:b.x.d.length%128=0
 hr:∀ r∈b.x.f,r.b<4294967296∧r.s<4294967296
 y:NRq b.y
noncomputable def bvB (b:BdI) (m:List UInt8):Bool:=lnB b.c&&(ckB b.k&&(csB b.s&&(dE m.length b.x&&c7 b.y)))
def px (b:BdI) (m:List UInt8):Prop:=VM m∧eh b.x≤70∧b.x.f.length≤20∧b.s.s.length≤200∧sw m b.x
noncomputable def bfB (b:BdI) (m:List UInt8):Bool:=@decide (px b m) (Classical.propDecidable _)
theorem BD {b:BdI}{m:List UInt8}(h:px b m):bfB b m=true:=@decide_eq_true _ (Classical.propDecidable _) h
theorem mO {b:BdI}{m:List UInt8}(h:¬ px b m):bfB b m=false:=@decide_eq_false _ (Classical.propDecidable _) h
theorem px.ok {b:BdI}{m:List UInt8}(h:px b m) (hx:pv b):eh b.x<1000000∧b.x.f.length≤5000∧∀ r∈b.x.f,nD r:=by
 obtain ⟨_,_,_,_,f1,f2,f3,f4⟩:=h
 refine ⟨by omega,by omega,fun r hr=>⟨(hx.hr r hr).1,(hx.hr r hr).2,?_⟩⟩
 have:=f1 r (by rw [List.take_of_length_le (by omega)];exact hr)
 omega
theorem Zu {b:BdI}{m:List UInt8}(hm:VM m) (hx:pv b) (h:bvB b m=true):eK b m:=by
 unfold bvB at h
 simp only [Bool.and_eq_true] at h
 obtain ⟨h1,h2,h3,h4,h5⟩:=h
 have v4:=vZ.1 h4
 obtain ⟨a,ha,hr⟩:=Zn (b:=b.x.b) (s:=b.x.s) (at':=b.x.at') (st:=b.x.st) (d:=b.x.d) (f:=b.x.f) hm hx.hb hx.hs hx.hd v4
 exact ⟨@of_decide_eq_true _ (Classical.propDecidable _) h1,@of_decide_eq_true _ (Classical.propDecidable _) h2,of_decide_eq_true (p:=b.s.s.length≤64∧0≤b.s.n∧b.s.n≤1099511627776) h3,⟨a,ha,hr⟩,h5,hx.y⟩
section
variable {b:BdI}{m:List UInt8}
theorem s11 (hm:VM m) (hx:pv b) (h1:eh b.x<1000000) (h2:b.x.f.length≤5000) (h3:∀ r∈b.x.f,nD r):ad (ab FN (k+700)) 11 [bdV b,aq m] (.bool (bvB b m)):=by
 have c41:ad (ab FN (k+699)) 41 [lnV b.c] (.bool (lnB b.c)):=s41 (k:=k+599) hx.c
 have c42:ad (ab FN (k+699)) 42 [ckV b.k] (.bool (ckB b.k)):=s42 (k:=k+599)
 have c43:ad (ab FN (k+699)) 43 [csV b.s] (.bool (csB b.s)):=s43 (k:=k+698)
 have c44:ad (ab FN (k+699)) 44 [biV b.x,aq m] (.bool (dE m.length b.x)):=s44 (k:=k+99) hm hx.hb hx.hs h1 h2 h3
 have c45:ad (ab FN (k+699)) 45 [niV b.y] (.bool (c7 b.y)):=s45 (k:=k+99) hx.y.ts hx.y.rs
 unfold bvB
 generalize lnB b.c=t1 at *
 generalize ckB b.k=t2 at *
 generalize csB b.s=t3 at *
 generalize dE m.length b.x=t4 at *
 generalize c7 b.y=t5 at *
 clear hm hx h1 h2 h3
 refine ak ZX fun T H E lv=>?_
 obtain ⟨c,q,s,x,y⟩:=b
 unfold bdV
 dsimp only at *
 dsimp only [aq,bdC,lnC,ckC,csC,biC,niC,List.cons_append,List.nil_append] at *
 cases t1
 ·repeat (first | refine stN ?_ | intro E)
  exact ae (.inr rfl) rfl rfl rfl rfl rfl rfl
 cases t2
 ·repeat (first | refine stN ?_ | intro E)
  exact ae (.inr rfl) rfl rfl rfl rfl rfl rfl
 cases t3
 ·repeat (first | refine stN ?_ | intro E)
  exact ae (.inr rfl) rfl rfl rfl rfl rfl rfl
 cases t4
 ·repeat (first | refine stN ?_ | intro E)
  exact ae (.inr rfl) rfl rfl rfl rfl rfl rfl
 repeat (first | refine stN ?_ | intro E)
 exact ae (.inr rfl) rfl rfl rfl rfl rfl rfl
theorem s12 (hm:VM m) (hx:pv b) (h1:eh b.x<1000000) (h2:b.x.f.length≤5000) (h3:∀ r∈b.x.f,nD r):ad (ab FN (k+700)) 12 [bdV b,aq m] (.bool (bvB b m)):=by
 have c46:ad (ab FN (k+699)) 46 [lnV b.c] (.bool (lnB b.c)):=s46 (k:=k+599) hx.c
 have c47:ad (ab FN (k+699)) 47 [ckV b.k] (.bool (ckB b.k)):=s47 (k:=k+599)
 have c48:ad (ab FN (k+699)) 48 [csV b.s] (.bool (csB b.s)):=s48 (k:=k+698)
 have c49:ad (ab FN (k+699)) 49 [biV b.x,aq m] (.bool (dE m.length b.x)):=s49 (k:=k+99) hm hx.hb hx.hs h1 h2 h3
 have c50:ad (ab FN (k+699)) 50 [niV b.y] (.bool (c7 b.y)):=s50 (k:=k+99) hx.y.ts hx.y.rs
 unfold bvB
 generalize lnB b.c=t1 at *
 generalize ckB b.k=t2 at *
 generalize csB b.s=t3 at *
 generalize dE m.length b.x=t4 at *
 generalize c7 b.y=t5 at *
 clear hm hx h1 h2 h3
 refine ak ZY fun T H E lv=>?_
 obtain ⟨c,q,s,x,y⟩:=b
 unfold bdV
 dsimp only at *
 dsimp only [aq,bdC,lnC,ckC,csC,biC,niC,List.cons_append,List.nil_append] at *
 cases t1
 ·repeat (first | refine stN ?_ | intro E)
  exact ae (.inr rfl) rfl rfl rfl rfl rfl rfl
 cases t2
 ·repeat (first | refine stN ?_ | intro E)
  exact ae (.inr rfl) rfl rfl rfl rfl rfl rfl
 cases t3
 ·repeat (first | refine stN ?_ | intro E)
  exact ae (.inr rfl) rfl rfl rfl rfl rfl rfl
 cases t4
 ·repeat (first | refine stN ?_ | intro E)
  exact ae (.inr rfl) rfl rfl rfl rfl rfl rfl
 repeat (first | refine stN ?_ | intro E)
 exact ae (.inr rfl) rfl rfl rfl rfl rfl rfl
theorem s9 {p:Nat}(hp:m.length=128*p):ad (ab FN (k+200)) 9 [bdV b,aq m] (.bool (bfB b m)):=by
 have c37:ad (ab FN (k+199)) 37 [biV b.x,aq m] (.bool (pk m b.x)):=s37 (k:=k+99)
 by_cases h0:p=0∨64<p
 ·have c36:ad (ab FN (k+199)) 36 [aq m] (.bool false):=abe (k:=k+198) hp h0
  rw [mO fun h=>by obtain ⟨⟨q,q1,q2,q3⟩,_⟩:=h;omega]
  clear c37
  refine ak fn9 fun T H E lv=>?_
  obtain ⟨c,q,s,x,y⟩:=b
  unfold bdV
  dsimp only [aq,bdC,lnC,ckC,csC,biC,niC,List.cons_append,List.nil_append] at *
  repeat (first | refine stN ?_ | intro E)
  exact ae (.inr rfl) rfl rfl rfl rfl rfl rfl
 have hm:VM m:=⟨p,by omega,by omega,hp⟩
 have c36:ad (ab FN (k+199)) 36 [aq m] (.bool true):=abd (k:=k+198) hm
 have e:bfB b m=(decide (eh b.x≤70)&&(decide (b.x.f.length≤20)&&(decide (b.s.s.length≤200)&&pk m b.x))):=by
  by_cases h1:eh b.x≤70
  ·by_cases h2:b.x.f.length≤20
   ·by_cases h3:b.s.s.length≤200
    ·by_cases h4:sw m b.x
     ·rw [BD ⟨hm,h1,h2,h3,h4⟩,decide_eq_true h1,decide_eq_true h2,decide_eq_true h3,yz h4];rfl
     ·rw [mO (fun h=>h4 h.2.2.2.2),sA h4];simp
    ·rw [mO (fun h=>h3 h.2.2.2.1),decide_eq_false h3];simp
   ·rw [mO (fun h=>h2 h.2.2.1),decide_eq_false h2];simp
  ·rw [mO (fun h=>h1 h.2.1),decide_eq_false h1];simp
 rw [e]
 clear e h0 hp hm
 generalize pk m b.x=t at *
 have hdv:=dy b.x.f
 unfold eh
 refine ak fn9 fun T H E lv=>?_
 obtain ⟨c,q,s,x,y⟩:=b
 unfold bdV
 dsimp only at *
 by_cases h1:(x.d.map ofB).length/128≤70
 ·rw [decide_eq_true h1]
  by_cases h2:x.f.length≤20
  ·rw [decide_eq_true h2]
   by_cases h3:s.s.length≤200
   ·rw [decide_eq_true h3]
    dsimp only [aq,bdC,lnC,ckC,csC,biC,niC,List.cons_append,List.nil_append] at *
    repeat (first | refine stN ?_ | intro E)
    exact ae (.inr rfl) rfl rfl rfl rfl rfl rfl
   ·rw [decide_eq_false h3]
    dsimp only [aq,bdC,lnC,ckC,csC,biC,niC,List.cons_append,List.nil_append] at *
    repeat (first | refine stN ?_ | intro E)
    exact ae (.inr rfl) rfl rfl rfl rfl rfl rfl
  ·rw [decide_eq_false h2]
   dsimp only [aq,bdC,lnC,ckC,csC,biC,niC,List.cons_append,List.nil_append] at *
   repeat (first | refine stN ?_ | intro E)
   exact ae (.inr rfl) rfl rfl rfl rfl rfl rfl
 ·rw [decide_eq_false h1]
  dsimp only [aq,bdC,lnC,ckC,csC,biC,niC,List.cons_append,List.nil_append] at *
  repeat (first | refine stN ?_ | intro E)
  exact ae (.inr rfl) rfl rfl rfl rfl rfl rfl
end
end Go.Proofs.YtepcejdglbcbkaaGreat
