/- Part of the texts on which proofs about this seat rest: each says what it proves at its own head. No condition. -/
import Derived.Test.YtepcejdglbcbkaaGreatM29
set_option linter.unusedVariables false
set_option linter.unusedSimpArgs false
set_option maxHeartbeats 4000000
set_option maxRecDepth 100000
/- What a notification does, and the reference's. Condition: the memory is valid, the ring is there. -/
namespace Go.Proofs.YtepcejdglbcbkaaGreat
open Go.Abs
variable {k:Nat}
structure NS where
 a:Nat
 st:Int
 f:List RI
 m:List UInt8
 r:Bool
def eJ (m:List UInt8) (b s i:Nat):List Pt:=(bN m b s i).map (nB m b)
def gL (b s D i:Nat) (x:NS):NS:=
 if a7 x.m b s i≠0 then ⟨(i+1)%s,a7 x.m b s i,x.f,aK x.m b s i,true⟩
 else if dY (aK x.m b s i) D (eJ x.m b s i)=0 then ⟨(i+1)%s,x.st,x.f++[iL b s (aK x.m b s i) (eJ x.m b s i)],aK x.m b s i,x.r⟩
 else ⟨(i+1)%s,dY (aK x.m b s i) D (eJ x.m b s i),x.f,bj b (4+(dY (aK x.m b s i) D (eJ x.m b s i)-160)) (aK x.m b s i) i,true⟩
def dq (b s D:Nat):Nat→NS→NS
 | 0,x=>x
 | n+1,x=>if (cT x.m b s x.a s 0).2=false∨8≤x.f.length then x else dq b s D n (gL b s D (cT x.m b s x.a s 0).1 x)
structure NI (b s:Nat) (x:NS):Prop where
 m:RV x.m b s
 a:x.a<s
 f:x.f.length≤8
theorem mJ {m:List UInt8}{b s pos:Nat}(hs:0<s):∀ (f j:Nat),(cT m b s pos f j).2=true→(cT m b s pos f j).1<s
 | 0,j,h=>by cases h
 | f+1,j,h=>by
  unfold cT at h ⊢
  split
  ·exact Nat.mod_lt _ hs
  ·next hn=>rw [if_neg hn] at h;exact mJ hs f (j+1) h
theorem mK {m:List UInt8}{b s i:Nat}(h:RV m b s) (hi:i<s):RV (aK m b s i) b s:=by
 by_cases he:a7 m b s i=0
 ·obtain ⟨h1,h2,_⟩:=dp hi he
  rw [h2];exact h.bm fun j hj=>(h1.one j hj).1
 ·obtain ⟨_,h2,_⟩:=gY he
  rw [h2];split
  ·exact h.bj hi
  ·exact h
theorem mg {b s w:Nat}:∀ {js:List Nat}{m:List UInt8},RV m b s→(∀ j∈js,j<s)→(bm m b w js).length=m.length
 | [],_,_,_=>rfl
 | j::js,m,h,hj=>by
  have hjs:=hj j List.mem_cons_self
  have hle:=h.le
  have:=mg (w:=w) (h.bj (w:=w) hjs) fun x hx=>hj x (List.mem_cons_of_mem _ hx)
  rw [show bm m b w (j::js)=bm (bj b w m j) b w js from rfl,this]
  exact dn (by omega)
theorem sB {m:List UInt8}{b s i:Nat}(h:RV m b s) (hi:i<s) (he:a7 m b s i=0):∃ p t,eJ m b s i=p::t∧oP (aK m b s i) p t:=by
 obtain ⟨h1,h2,h3⟩:=dp hi he
 obtain ⟨j,js,hj⟩:∃ j js,bN m b s i=j::js:=by
  cases hq:bN m b s i with
  | nil=>rw [hq] at h3;cases h3
  | cons j js=>exact ⟨j,js,rfl⟩
 refine ⟨nB m b j,js.map (nB m b),by unfold eJ;rw [hj];rfl,?_,?_⟩
 ·have:=h1.len
  rw [hj] at this
  simp only [List.length_cons] at this
  rw [List.length_map];omega
 ·intro q hq
  have hq':q∈(bN m b s i).map (nB m b):=by rw [hj];exact hq
  obtain ⟨x,hx,rfl⟩:=List.mem_map.1 hq'
  obtain ⟨_,_,o3,o4,o5⟩:=h1.one x hx
  have hl:(aK m b s i).length=m.length:=by rw [h2];exact mg h fun j hj=>(h1.one j hj).1
  rw [hl]
  exact ⟨o3,o4,o5⟩
theorem qe {b s D i:Nat}{x:NS}(h:NI b s x) (hi:i<s) (hf:x.f.length<8):NI b s (gL b s D i x):=by
 have hm:=mK h.m hi
 have hs:=h.a
 have hlt:(i+1)%s<s:=Nat.mod_lt _ (by omega)
 unfold gL
 split
 ·exact ⟨hm,hlt,h.f⟩
 ·split
  ·exact ⟨hm,hlt,by simp only [List.length_append,List.length_singleton];omega⟩
  ·exact ⟨hm.bj hi,hlt,h.f⟩
theorem abr {b s v at0:Nat}{st:Int}{d m:List UInt8}{f:List RI}{r ok:Bool}(h:RV m b s) (ha:at0<s) (hd:(d.map ofB).length/128≤64) (hf:f.length≤8) :
 ad (ab FN (k+10600)) 113 [.agg (eV b s at0 st d f m v r ok)]
  (.agg (eV b s (dq b s ((d.map ofB).length/128) s ⟨at0,st,f,m,r⟩).a (dq b s ((d.map ofB).length/128) s ⟨at0,st,f,m,r⟩).st d (dq b s ((d.map ofB).length/128) s ⟨at0,st,f,m,r⟩).f (dq b s ((d.map ofB).length/128) s ⟨at0,st,f,m,r⟩).m v (dq b s ((d.map ofB).length/128) s ⟨at0,st,f,m,r⟩).r ok)):=by
 have hb:b<4294967296:=by have:=h.le;have:=h.m.le;omega
 have hs:=h.hs
 have hs':s<4294967296:=by omega
 have hws:IntKind.i64.wrap (s:Int)=s:=w64 (by omega) (by omega)
 have hck:aX m.length b s=0:=by
  unfold aX
  rw [if_pos ⟨h.hs,h.hb,h.le⟩]
 have c129:ad (ab FN (k+10599)) 129 [aq m,aL b s] (.int .i64 (aX m.length b s)):=(sf (k:=0) h.m hb hs').fuel (by omega)
 rw [hck] at c129
 generalize hR:dq b s ((d.map ofB).length/128) s ⟨at0,st,f,m,r⟩=R
 refine ak Bg fun T H E lv=>?_
 repeat (first | refine stN ?_ | intro E)
 refine aW (α:=Nat×NS) (a8.mk (fun p=>p.1≤s∧NI b s p.2∧dq b s ((d.map ofB).length/128) (s-p.1) p.2=R) (fun p=>s-p.1)
  (fun p=>[(5,.int .i64 (p.1:Int)),(4,.int .i64 (s:Int)),(2,.ref 1 0),(1,.ref 0 0)])
  (fun p=>[(1,[.int .u32 0,.int .u32 0,.int .i64 0,.int .i64 0,.sl 0 0 [],.sl 0 0 [],.sl 0 0 [],.int .u32 0,.sl 0 0 [],.bool false,.bool false]),(0,eV b s p.2.a p.2.st d p.2.f p.2.m v p.2.r ok)]))
  (fun _ _ c=>c=4) (0,⟨at0,st,f,m,r⟩) ⟨Nat.zero_le _,⟨h,ha,hf⟩,hR⟩ rfl (show s-0<k+10599 by omega) ⟨rfl,rfl,rfl,rfl,trivial⟩ ⟨rfl,rfl,trivial⟩ ?_
 rintro ⟨i,x⟩ lv c T H E hP rfl hμ
 obtain ⟨hP,hN,hRx⟩:i≤s∧NI b s x∧dq b s ((d.map ofB).length/128) (s-i) x=R:=hP
 clear hμ hR
 dsimp only
 obtain ⟨xa,xst,xf,xm,xr⟩:=x
 obtain ⟨n1,n2,n3⟩:=hN
 dsimp only at n1 n2 n3 hRx ⊢
 have hdv:=dy xf
 rcases Nat.lt_or_ge i s with hi | hi
 ·have hsi:s-i=(s-(i+1))+1:=by omega
  rw [hsi] at hRx
  unfold dq at hRx
  dsimp only at hRx
  obtain ⟨⟨y,z⟩,hyz⟩:∃ q,cT xm b s xa s 0=q:=⟨_,rfl⟩
  have hylt:=mJ (m:=xm) (b:=b) (s:=s) (pos:=xa) (by omega) s 0
  rw [hyz] at hRx hylt
  dsimp only at hRx hylt
  have c130:ad (ab FN (k+10599)) 130 [aq xm,aL b s,.int .i64 xa] (.agg [.int .i64 y,.bool z]):=(So (k:=0) n1 (by omega) hyz).fuel (by omega)
  by_cases hstop:z=false∨8≤xf.length
  ·rw [if_pos hstop] at hRx
   subst hRx
   cases z
   ·repeat (first | refine stN ?_ | intro E)
    apply bz
    repeat (first | refine stN ?_ | intro E)
    exact ae (.inr rfl) rfl rfl rfl rfl rfl rfl
   ·have hstop:8≤xf.length:=by simpa using hstop
    repeat (first | refine stN ?_ | intro E)
    apply bz
    repeat (first | refine stN ?_ | intro E)
    exact ae (.inr rfl) rfl rfl rfl rfl rfl rfl
  ·rw [if_neg hstop] at hRx
   have hz:z=true:=by cases z<;>simp_all
   have hf8:xf.length<8:=by omega
   subst hz
   clear hstop
   have hy:=hylt rfl
   have c131:ad (ab FN (k+10599)) 131 [aq xm,aL b s,.int .i64 y] (.agg [csl 128 ((aK xm b s y).map ofB),csl 4 (aH xm b (bN xm b s y)),.int .i64 (a7 xm b s y)]):=(Sf (k:=0) n1 hy).fuel (by omega)
   have hni:=qe (D:=(d.map ofB).length/128) (x:=⟨xa,xst,xf,xm,xr⟩) ⟨n1,n2,n3⟩ hy hf8
   have hrv:=mK n1 hy
   have hmod:aj .rem (.int .i64 ((y+1:Nat):Int)) (.int .i64 (s:Int))=some (.int .i64 (((y+1)%s:Nat):Int)):=gF (by omega)
   by_cases he:a7 xm b s y≠0
   ·have hsv:gL b s ((d.map ofB).length/128) y ⟨xa,xst,xf,xm,xr⟩=⟨(y+1)%s,a7 xm b s y,xf,aK xm b s y,true⟩:=if_pos he
    rw [hsv] at hni hRx
    generalize aK xm b s y=M at c131 hni hRx hrv
    generalize aH xm b (bN xm b s y)=L at c131
    generalize a7 xm b s y=e at c131 hni hRx he
    clear hsv
    repeat (first | refine stN ?_ | intro E)
    exact aB (i+1,⟨(y+1)%s,e,xf,M,true⟩) ⟨by omega,hni,hRx⟩ rfl (show s-(i+1)<s-i by omega) ⟨rfl,rfl,rfl,rfl,trivial⟩ ⟨⟨rfl,rfl⟩,⟨rfl,rfl⟩,trivial⟩
   ·have he:a7 xm b s y=0:=by omega
    obtain ⟨p,t,hpt,hok⟩:=sB n1 hy he
    have c164:=fun stx rx=>abo (k:=k+99) (b:=b) (s:=s) (i:=y) (v:=v) (at':=(((y+1)%s:Nat):Int)) (st:=stx) (d:=d) (m:=aK xm b s y) (f:=xf) (r:=rx) (ok:=ok) hrv hy hok hd n3
    have c164:ad (ab FN (k+10599)) 164 _ _:=c164 xst xr
    have hLp:aH xm b (bN xm b s y)=aY (p::t):=by rw [gu,← hpt];rfl
    rw [hLp,he] at c131
    have hsv:gL b s ((d.map ofB).length/128) y ⟨xa,xst,xf,xm,xr⟩=_:=if_neg (by simpa using he)
    rw [hpt] at hsv
    rw [hsv] at hni hRx
    clear hsv hLp
    generalize aK xm b s y=M at c131 c164 hni hRx hrv hok
    clear hok
    by_cases hq:dY M ((d.map ofB).length/128) (p::t)=0
    ·rw [if_pos hq] at hni hRx c164
     clear hq
     generalize iL b s M (p::t)=rq at c164 hni hRx
     repeat (first | refine stN ?_ | intro E)
     exact aB (i+1,⟨(y+1)%s,xst,xf++[rq],M,xr⟩) ⟨by omega,hni,hRx⟩ rfl (show s-(i+1)<s-i by omega) ⟨rfl,rfl,rfl,rfl,trivial⟩ ⟨⟨rfl,rfl⟩,⟨rfl,rfl⟩,trivial⟩
    ·rw [if_neg hq] at hni hRx c164
     generalize dY M ((d.map ofB).length/128) (p::t)=e at c164 hni hRx hq
     clear hq
     repeat (first | refine stN ?_ | intro E)
     exact aB (i+1,⟨(y+1)%s,e,xf,bj b (4+(e-160)) M y,true⟩) ⟨by omega,hni,hRx⟩ rfl (show s-(i+1)<s-i by omega) ⟨rfl,rfl,rfl,rfl,trivial⟩ ⟨⟨rfl,rfl⟩,⟨rfl,rfl⟩,trivial⟩
 ·have:s-i=0:=by omega
  rw [this] at hRx
  subst hRx
  repeat (first | refine stN ?_ | intro E)
  apply aN
  apply aM
  repeat (first | refine stN ?_ | intro E)
  exact ae (.inr rfl) rfl rfl rfl rfl rfl rfl
end Go.Proofs.YtepcejdglbcbkaaGreat
/- A notification, by the program: a method that writes the object of the work under way. Condition: the memory is valid, the ring is there. -/
namespace Go.Proofs.YtepcejdglbcbkaaGreat
open Go.Abs
variable {k:Nat}
theorem EN {i:Nat}(h:i+1<4294967296):aj .add (.int .u32 (i:Int)) (.int .u32 1)=some (.int .u32 ((i+1:Nat):Int)):=by
 have e:((i:Int)+1)=((i+1:Nat):Int):=by omega
 simp only [aj,reduceCtorEq,or_self,if_false,if_true,bC,e]
 rw [w32 (by omega) (by omega)]
def FB (br z:Nat) (f:List RI):Prop:=(br=1∧z=csz 5 (bp f))∨(4≤br∧z=5)
theorem FB.len {br z:Nat}{f:List RI}(h:FB br z f):z=5∨bp f=[]:=by
 rcases h with ⟨_,rfl⟩ | ⟨_,rfl⟩
 ·exact dD _ _
 ·exact .inl rfl
theorem FB.cut {br z:Nat}{f:List RI}(h:FB br z f):z=5∨(bp f=[]∧br<2):=by
 rcases h with ⟨rfl,rfl⟩ | ⟨_,rfl⟩
 ·exact (dD _ _).imp id fun h=>⟨h,by omega⟩
 ·exact .inl rfl
theorem FB.ne {br z:Nat}{f:List RI}(h:FB br z f):br≠0:=by
 rcases h with ⟨rfl,_⟩ | ⟨_,_⟩<;>omega
theorem yA {m:List UInt8}{D b s:Nat}{p:Pt}{t:List Pt}(h:dY m D (p::t)=0):mf m D b s p t=riV (iL b s m (p::t)):=by
 unfold mf
 rw [if_neg fun hc=>by rw [i7 hc] at h;cases h]
theorem abt {b s v c at0 x0:Nat}{st:Int}{d m:List UInt8}{f:List RI}{r ok:Bool}{H:Hp}{E:Nat→Option TypeId}{lv:Nat→Bool}(hc4:4≤c) (h:RV m b s) (ha:at0<s) (hd:(d.map ofB).length/128≤64) (hf:f.length≤8) :
 dx (ab FN (k+10700)) 248 [.ref 5 0,.int .u32 x0] [(5,ei b s at0 st d (csl 5 (bp f)) m v r ok)] H 7 lv c E (.tup []) 5
  (fun cs=>∃ br z,FB br z (dq b s ((d.map ofB).length/128) s ⟨at0,st,f,m,r⟩).f∧cs=ei b s (dq b s ((d.map ofB).length/128) s ⟨at0,st,f,m,r⟩).a (dq b s ((d.map ofB).length/128) s ⟨at0,st,f,m,r⟩).st d (.sl br z (bp (dq b s ((d.map ofB).length/128) s ⟨at0,st,f,m,r⟩).f)) (dq b s ((d.map ofB).length/128) s ⟨at0,st,f,m,r⟩).m v (dq b s ((d.map ofB).length/128) s ⟨at0,st,f,m,r⟩).r ok):=by
 have hb:b<4294967296:=by have:=h.le;have:=h.m.le;omega
 have hs:=h.hs
 have hs':s<4294967296:=by omega
 have hws:IntKind.i64.wrap (s:Int)=s:=w64 (by omega) (by omega)
 have hck:aX m.length b s=0:=by
  unfold aX
  rw [if_pos ⟨h.hs,h.hb,h.le⟩]
 have c156:ad (ab FN (k+10699)) 156 [aq m,aL b s] (.int .i64 (aX m.length b s)):=(vX (k:=0) h.m hb hs').fuel (by omega)
 rw [hck] at c156
 generalize hR:dq b s ((d.map ofB).length/128) s ⟨at0,st,f,m,r⟩=R
 refine jD (by omega) Bq fun T=>?_
 repeat (first | refine stN ?_ | intro E)
 refine tU (α:=Nat×NS×Nat×Nat) (a8.mk (fun p=>p.1≤s∧NI b s p.2.1∧FB p.2.2.1 p.2.2.2 p.2.1.f∧dq b s ((d.map ofB).length/128) (s-p.1) p.2.1=R) (fun p=>s-p.1)
  (fun p=>[(35,.int .u32 (p.1:Int)),(34,.int .u32 (s:Int)),(0,.ref 5 0)])
  (fun p=>[(5,ei b s p.2.1.a p.2.1.st d (.sl p.2.2.1 p.2.2.2 (bp p.2.1.f)) p.2.1.m v p.2.1.r ok)]))
  (fun _ _ c'=>c≤c') (az 7 5 (ah [(5,ei b s at0 st d (csl 5 (bp f)) m v r ok)] H)) (0,⟨at0,st,f,m,r⟩,1,csz 5 (bp f)) ⟨Nat.zero_le _,⟨h,ha,hf⟩,.inl ⟨rfl,rfl⟩,hR⟩ (Nat.le_refl _) (az.refl _ _ _) (show s-0<k+10699 by omega) ⟨rfl,rfl,rfl,trivial⟩ ⟨rfl,trivial⟩ ?_
 rintro ⟨i,x,br,z⟩ lv c1 T H1 E hP hc1 hS hμ
 obtain ⟨hP,hN,hB,hRx⟩:i≤s∧NI b s x∧FB br z x.f∧dq b s ((d.map ofB).length/128) (s-i) x=R:=hP
 have hc1:c≤c1:=hc1
 clear hμ hR c156
 dsimp only at hS ⊢
 generalize ah [(5,ei b s at0 st d (csl 5 (bp f)) m v r ok)] H=H0 at hS ⊢
 obtain ⟨xa,xst,xf,xm,xr⟩:=x
 obtain ⟨n1,n2,n3⟩:=hN
 dsimp only at n1 n2 n3 hRx hB hS ⊢
 have hdv:=dy xf
 have hzl:=hB.len
 rcases Nat.lt_or_ge i s with hi | hi
 ·have hsi:s-i=(s-(i+1))+1:=by omega
  rw [hsi] at hRx
  unfold dq at hRx
  dsimp only at hRx
  obtain ⟨⟨y,w⟩,hyz⟩:∃ q,cT xm b s xa s 0=q:=⟨_,rfl⟩
  have hylt:=mJ (m:=xm) (b:=b) (s:=s) (pos:=xa) (by omega) s 0
  rw [hyz] at hRx hylt
  dsimp only at hRx hylt
  have c167:ad (ab FN (k+10699)) 167 [aq xm,aL b s,.int .i64 xa] (.tup [.int .i64 y,.bool w]):=(Sn (k:=0) n1 (by omega) hyz).fuel (by omega)
  have hadd:=EN (i:=i) (by omega)
  by_cases hstop:w=false∨8≤xf.length
  ·rw [if_pos hstop] at hRx
   subst hRx
   cases w
   ·repeat (first | refine stN ?_ | intro E)
    apply oC
    repeat (first | refine stN ?_ | intro E)
    exact aQ (.inl rfl) rfl rfl rfl rfl rfl ⟨rfl,_,_,_,rfl,hc1,⟨br,z,hB,av rfl⟩,by rw [av (show lkO _ 5=some _ from rfl)];rfl,hS⟩
   ·have hstop:8≤xf.length:=by simpa using hstop
    repeat (first | refine stN ?_ | intro E)
    apply oC
    repeat (first | refine stN ?_ | intro E)
    exact aQ (.inl rfl) rfl rfl rfl rfl rfl ⟨rfl,_,_,_,rfl,hc1,⟨br,z,hB,av rfl⟩,by rw [av (show lkO _ 5=some _ from rfl)];rfl,hS⟩
  ·rw [if_neg hstop] at hRx
   have hw:w=true:=by cases w<;>simp_all
   have hf8:xf.length<8:=by omega
   subst hw
   clear hstop
   have hy:=hylt rfl
   have c168:ad (ab FN (k+10699)) 168 [aq xm,aL b s,.int .i64 y] (.tup [aq (aK xm b s y),csl 4 (aH xm b (bN xm b s y)),.int .i64 (a7 xm b s y)]):=(Sm (k:=0) n1 hy).fuel (by omega)
   have hni:=qe (D:=(d.map ofB).length/128) (x:=⟨xa,xst,xf,xm,xr⟩) ⟨n1,n2,n3⟩ hy hf8
   have hrv:=mK n1 hy
   have hmod:aj .rem (.int .i64 ((y+1:Nat):Int)) (.int .i64 (s:Int))=some (.int .i64 (((y+1)%s:Nat):Int)):=gF (by omega)
   by_cases he:a7 xm b s y≠0
   ·have hsv:gL b s ((d.map ofB).length/128) y ⟨xa,xst,xf,xm,xr⟩=⟨(y+1)%s,a7 xm b s y,xf,aK xm b s y,true⟩:=if_pos he
    rw [hsv] at hni hRx
    generalize aK xm b s y=M at c168 hni hRx hrv
    generalize aH xm b (bN xm b s y)=L at c168
    generalize a7 xm b s y=e at c168 hni hRx he
    clear hsv
    repeat (first | refine stN ?_ | intro E)
    exact ka (i+1,⟨(y+1)%s,e,xf,M,true⟩,br,z) ⟨by omega,hni,hB,hRx⟩ hc1 (az.keep (by repeat (first | exact hS | refine az.cons ?_ rfl)) (by omega)) (show s-(i+1)<s-i by omega) ⟨rfl,rfl,rfl,trivial⟩ ⟨⟨rfl,rfl⟩,trivial⟩
   ·have he:a7 xm b s y=0:=by omega
    obtain ⟨p,t,hpt,hok⟩:=sB n1 hy he
    have hLp:aH xm b (bN xm b s y)=aY (p::t):=by rw [gu,← hpt];rfl
    rw [hLp,he] at c168
    have hsv:gL b s ((d.map ofB).length/128) y ⟨xa,xst,xf,xm,xr⟩=_:=if_neg (by simpa using he)
    rw [hpt] at hsv
    rw [hsv] at hni hRx
    clear hsv hLp
    generalize aK xm b s y=M at c168 hni hRx hrv hok
    have c249:=fun H E lv=>abq (k:=k+199) (b:=b) (s:=s) (v:=v) (c:=c1) (at':=(((y+1)%s:Nat):Int)) (st:=xst) (d:=d) (m:=M) (fl:=.sl br z (bp xf)) (r:=xr) (ok:=ok) (H:=H) (E:=E) (lv:=lv) rfl hrv hok hd
    by_cases hq:dY M ((d.map ofB).length/128) (p::t)=0
    ·rw [if_pos hq] at hni hRx
     simp only [hq,yA hq] at c249
     clear hq hok
     generalize iL b s M (p::t)=rq at c249 hni hRx
     have htk:(bp xf).take ((bp xf).length/5*5)=bp xf:=List.take_of_length_le (by rw [dy,i6];exact Nat.le_refl _)
     repeat (first | refine stN ?_ | intro E)
     apply ee (args:=[.ref 5 0,csl 4 (aY (p::t))]) (id:=5) (n0:=7) (H0:=H0) (os':=[(5,ei b s (((y+1)%s:Nat):Int) xst d (.sl br z (bp xf)) M v xr ok),(7,[csl 128 (M.map ofB)])])
     ·exact rfl
     ·exact fun H E=>iH rfl (c249 (ah _ H) E lv)
     ·exact ⟨.inl ⟨rfl,rfl⟩,.inr ⟨rfl,rfl,rfl,rfl⟩,trivial⟩
     ·exact (by repeat (first | exact hS | refine az.cons ?_ rfl))
     ·omega
     intro H2 hS2
     repeat (first | refine stN ?_ | intro E)
     apply zO
     ·exact rfl
     ·exact hB.ne
     ·exact hB.cut
     ·exact rfl
     ·exact rfl
     ·exact Nat.le_refl _
     rw [htk]
     repeat (first | refine stN ?_ | intro E)
     apply fB
     ·exact rfl
     ·exact .inl rfl
     ·exact rfl
     ·exact fun H=>fU _ _ _ _
     ·exact ⟨by omega,by omega⟩
     ·have:room=17592186044416:=by decide +kernel
      rw [this,i6];simp only [List.length_cons,List.length_nil];omega
     ·exact .inr (.inl rfl)
     ·exact List.cons_ne_nil _ _
     intro lv' l1 l2
     repeat (first | refine stN ?_ | intro E)
     exact ka (i+1,⟨(y+1)%s,xst,xf++[rq],M,xr⟩,c1,5) ⟨by omega,hni,.inr ⟨show 4≤c1 by omega,rfl⟩,hRx⟩ (show c≤c1+1 by omega) (az.keep (by repeat (first | exact hS2 | refine az.cons ?_ rfl)) (by omega)) (show s-(i+1)<s-i by omega) ⟨rfl,rfl,rfl,trivial⟩ ⟨⟨by rw [← nf];rfl,rfl⟩,trivial⟩
    ·rw [if_neg hq] at hni hRx
     have hV:∃ u0 u1 u2 u3 u4,mf M ((d.map ofB).length/128) b s p t=[u0,u1,u2,u3,u4]:=by
      unfold mf
      split
      ·exact ⟨_,_,_,_,_,rfl⟩
      ·exact ⟨_,_,_,_,_,rfl⟩
     obtain ⟨u0,u1,u2,u3,u4,hV⟩:=hV
     have hec:=oO M ((d.map ofB).length/128) (p::t)
     simp only [hV] at c249
     clear hV hok
     generalize dY M ((d.map ofB).length/128) (p::t)=e at c249 hni hRx hq hec
     have he':160≤e∧e≤165:=by omega
     have c250:=fun H E lv=>abp (k:=k+199) (b:=b) (s:=s) (i:=y) (v:=v) (c:=c1) (at':=(((y+1)%s:Nat):Int)) (st:=xst) (d:=d) (m:=M) (fl:=.sl br z (bp xf)) (r:=xr) (ok:=ok) (H:=H) (E:=E) (lv:=lv) rfl hrv hy he'
     clear hec
     repeat (first | refine stN ?_ | intro E)
     apply ee (args:=[.ref 5 0,csl 4 (aY (p::t))]) (id:=5) (n0:=7) (H0:=H0) (os':=[(5,ei b s (((y+1)%s:Nat):Int) xst d (.sl br z (bp xf)) M v xr ok),(7,[csl 128 (M.map ofB)])])
     ·exact rfl
     ·exact fun H E=>iH rfl (c249 (ah _ H) E lv)
     ·exact ⟨.inl ⟨rfl,rfl⟩,.inr ⟨rfl,rfl,rfl,rfl⟩,trivial⟩
     ·exact (by repeat (first | exact hS | refine az.cons ?_ rfl))
     ·omega
     intro H2 hS2
     repeat (first | refine stN ?_ | intro E)
     apply ee (args:=[.ref 5 0,.int .i64 y,.int .i64 e]) (id:=5) (n0:=7) (H0:=H0) (os':=[(5,ei b s (((y+1)%s:Nat):Int) e d (.sl br z (bp xf)) (bj b (4+(e-160)) M y) v true ok)])
     ·exact rfl
     ·exact fun H E=>iH rfl (c250 (ah _ H) E lv)
     ·exact ⟨.inl ⟨rfl,rfl⟩,trivial⟩
     ·exact (by repeat (first | exact hS2 | refine az.cons ?_ rfl))
     ·omega
     intro H3 hS3
     repeat (first | refine stN ?_ | intro E)
     exact ka (i+1,⟨(y+1)%s,e,xf,bj b (4+(e-160)) M y,true⟩,br,z) ⟨by omega,hni,hB,hRx⟩ hc1 (az.keep (by repeat (first | exact hS3 | refine az.cons ?_ rfl)) (by omega)) (show s-(i+1)<s-i by omega) ⟨rfl,rfl,rfl,trivial⟩ ⟨⟨rfl,rfl⟩,trivial⟩
 ·have:s-i=0:=by omega
  rw [this] at hRx
  subst hRx
  repeat (first | refine stN ?_ | intro E)
  apply oC
  repeat (first | refine stN ?_ | intro E)
  exact aQ (.inl rfl) rfl rfl rfl rfl rfl ⟨rfl,_,_,_,rfl,hc1,⟨br,z,hB,av rfl⟩,by rw [av (show lkO _ 5=some _ from rfl)];rfl,hS⟩
end Go.Proofs.YtepcejdglbcbkaaGreat
/- A notification of any ring: by the program and by the reference. Condition: the memory is valid; the numbers are words. -/
namespace Go.Proofs.YtepcejdglbcbkaaGreat
open Go.Abs
variable {k:Nat}
def ntf (b s D:Nat) (x:NS):NS:=if aX x.m.length b s=0 then dq b s D s x else ⟨x.a,aX x.m.length b s,x.f,x.m,x.r⟩
theorem EO {b s v at0:Nat}{st:Int}{d m:List UInt8}{f:List RI}{r ok:Bool}(h:VM m) (hb:b<4294967296) (hs:s<4294967296) (ha:aX m.length b s=0→at0<s) (hd:(d.map ofB).length/128≤64) (hf:f.length≤8) {R:NS}(hR:ntf b s ((d.map ofB).length/128) ⟨at0,st,f,m,r⟩=R) :
 ad (ab FN (k+10600)) 113 [.agg (eV b s at0 st d f m v r ok)] (.agg (eV b s R.a R.st d R.f R.m v R.r ok)):=by
 by_cases hc:aX m.length b s=0
 ·have e:ntf b s ((d.map ofB).length/128) ⟨at0,st,f,m,r⟩=dq b s ((d.map ofB).length/128) s ⟨at0,st,f,m,r⟩:=if_pos hc
  rw [e] at hR
  subst hR
  exact abr (mI h hc) (ha hc) hd hf
 ·have e:ntf b s ((d.map ofB).length/128) ⟨at0,st,f,m,r⟩=⟨at0,aX m.length b s,f,m,r⟩:=if_neg hc
  rw [e] at hR
  subst hR
  have c129:ad (ab FN (k+10599)) 129 [aq m,aL b s] (.int .i64 (aX m.length b s)):=(sf (k:=0) h hb hs).fuel (by omega)
  dsimp only
  generalize aX m.length b s=e at c129 hc ⊢
  refine ak Bg fun T H E lv=>?_
  repeat (first | refine stN ?_ | intro E)
  exact ae (.inr rfl) rfl rfl rfl rfl rfl rfl
theorem Aj {b s v c at0 x0:Nat}{st:Int}{d m:List UInt8}{f:List RI}{r ok:Bool}{H:Hp}{E:Nat→Option TypeId}{lv:Nat→Bool}(hc4:4≤c) (h:VM m) (hb:b<4294967296) (hs:s<4294967296) (ha:aX m.length b s=0→at0<s) (hd:(d.map ofB).length/128≤64) (hf:f.length≤8) {R:NS}(hR:ntf b s ((d.map ofB).length/128) ⟨at0,st,f,m,r⟩=R) :
 dx (ab FN (k+10700)) 248 [.ref 5 0,.int .u32 x0] [(5,ei b s at0 st d (csl 5 (bp f)) m v r ok)] H 7 lv c E (.tup []) 5 (fun cs=>∃ br z,FB br z R.f∧cs=ei b s R.a R.st d (.sl br z (bp R.f)) R.m v R.r ok):=by
 by_cases hc:aX m.length b s=0
 ·have e:ntf b s ((d.map ofB).length/128) ⟨at0,st,f,m,r⟩=dq b s ((d.map ofB).length/128) s ⟨at0,st,f,m,r⟩:=if_pos hc
  rw [e] at hR
  subst hR
  exact abt hc4 (mI h hc) (ha hc) hd hf
 ·have e:ntf b s ((d.map ofB).length/128) ⟨at0,st,f,m,r⟩=⟨at0,aX m.length b s,f,m,r⟩:=if_neg hc
  rw [e] at hR
  subst hR
  have c156:ad (ab FN (k+10699)) 156 [aq m,aL b s] (.int .i64 (aX m.length b s)):=(vX (k:=0) h hb hs).fuel (by omega)
  dsimp only
  generalize aX m.length b s=e at c156 hc ⊢
  refine jD (by omega) Bq fun T=>?_
  repeat (first | refine stN ?_ | intro E)
  exact aQ (.inr rfl) rfl rfl rfl rfl rfl ⟨rfl,_,_,_,rfl,Nat.le_refl _,⟨1,csz 5 (bp f),.inl ⟨rfl,rfl⟩,av rfl⟩,by rw [av (show lkO _ 5=some _ from rfl)];rfl,(by repeat (first | exact az.refl _ _ _ | refine az.cons ?_ rfl))⟩
theorem abu {b s v c x0:Nat}{at' st:Int}{d m:List UInt8}{fl:AV}{r ok:Bool}{H:Hp}{E:Nat→Option TypeId}{lv:Nat→Bool}(hu:fl.under 7=true) :
 aU (ab FN (k+1)) 246 [.ref 5 0,.int .u32 x0] [(5,ei b s at' st d fl m v r ok)] H 7 lv c E (.tup []) 5 (ei x0 s 0 st d fl m v r ok):=by
 refine bY (by omega) ?_ Y7 fun T=>?_
 ·simp only [bJ,AV.under,csl,hu,Bool.and_self]
 repeat (first | refine stN ?_ | intro E)
 exact aQ (.inl rfl) rfl rfl rfl rfl rfl ⟨rfl,_,rfl,av rfl,(by repeat (first | exact az.refl _ _ _ | refine az.cons ?_ rfl))⟩
theorem abv {b s v c x0:Nat}{at' st:Int}{d m:List UInt8}{fl:AV}{r ok:Bool}{H:Hp}{E:Nat→Option TypeId}{lv:Nat→Bool}(hu:fl.under 7=true) :
 aU (ab FN (k+1)) 247 [.ref 5 0,.int .u32 x0] [(5,ei b s at' st d fl m v r ok)] H 7 lv c E (.tup []) 5 (ei b x0 0 st d fl m v r ok):=by
 refine bY (by omega) ?_ Y8 fun T=>?_
 ·simp only [bJ,AV.under,csl,hu,Bool.and_self]
 repeat (first | refine stN ?_ | intro E)
 exact aQ (.inl rfl) rfl rfl rfl rfl rfl ⟨rfl,_,rfl,av rfl,(by repeat (first | exact az.refl _ _ _ | refine az.cons ?_ rfl))⟩
end Go.Proofs.YtepcejdglbcbkaaGreat
