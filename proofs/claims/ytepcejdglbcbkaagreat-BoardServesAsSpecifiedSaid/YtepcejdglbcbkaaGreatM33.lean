/- Part of the texts on which proofs about this seat rest: each says what it proves at its own head. No condition. -/
import Derived.Test.YtepcejdglbcbkaaGreatM32
set_option linter.unusedVariables false
set_option linter.unusedSimpArgs false
set_option maxHeartbeats 4000000
set_option maxRecDepth 100000
/- The encoding of a device, by the reference; devices that are equal, by it. Condition: the numbers fit, the lists are not long. -/
namespace Go.Proofs.YtepcejdglbcbkaaGreat
open Go.Abs
variable {k:Nat}
structure Sml (x:BI):Prop where
 hb:x.b<4294967296
 hs:x.s<4294967296
 ha:I64 x.at'
 ht:I64 x.st
 hf:x.f.length≤10
 hd:x.d.length≤8192
 hd1:x.d.length%128=0
 hr:∀ r∈x.f,r.b<4294967296∧r.s<4294967296∧I64 r.q∧r.l.length≤10∧∀ p∈r.l,I64 p.i∧I64 p.a∧I64 p.n
def one (w:Bool):Int:=if w then 1 else 0
def piI (p:PI):List Int:=[p.i,p.a,p.n,one p.w]
def riI (r:RI):List Int:=[(r.b:Int),(r.s:Int),r.q,one r.w,(r.l.length:Int)]++r.l.flatMap piI
def biI (x:BI):List Int:=[(x.b:Int),(x.s:Int),x.at',x.st,(x.d.length/128:Nat),(x.f.length:Int)]++x.f.flatMap riI
def we (x:BI):List UInt8:=nG (biI x)++x.d
theorem uo (w:Bool):I64 (one w):=by cases w<;>exact ⟨by decide,by decide⟩
theorem gZ {n:Nat}(h:n<9223372036854775808):I64 (n:Int):=⟨by omega,by omega⟩
theorem uq (l:List PI):(l.flatMap piI).length=4*l.length:=by
 induction l with
 | nil=>rfl
 | cons p l ih=>rw [List.flatMap_cons,List.length_append,List.length_cons,ih,show (piI p).length=4 from rfl];omega
theorem ur {l:List RI}(h:∀ r∈l,r.l.length≤10):(l.flatMap riI).length≤45*l.length:=by
 induction l with
 | nil=>simp
 | cons r l ih=>
  have:=ih fun x hx=>h x (List.mem_cons_of_mem _ hx)
  have h2:=h r List.mem_cons_self
  rw [List.flatMap_cons,List.length_append,List.length_cons]
  have:(riI r).length=5+4*r.l.length:=by unfold riI;rw [List.length_append,uq];simp only [List.length_cons,List.length_nil]
  omega
theorem EP {x:BI}(h:Sml x):(biI x).length≤456:=by
 have h1:=ur (l:=x.f) fun r hr=>(h.hr r hr).2.2.2.1
 have h2:=h.hf
 unfold biI
 rw [List.length_append];simp only [List.length_cons,List.length_nil];omega
theorem ER {x:BI}(h:Sml x):∀ n∈biI x,I64 n:=by
 intro n hn
 have hb:=h.hb
 have hs:=h.hs
 have hf:=h.hf
 have hd:=h.hd
 unfold biI at hn
 rcases List.mem_append.1 hn with hn | hn
 ·simp only [List.mem_cons,List.not_mem_nil,or_false] at hn
  rcases hn with rfl | rfl | rfl | rfl | rfl | rfl
  ·exact gZ (by omega)
  ·exact gZ (by omega)
  ·exact h.ha
  ·exact h.ht
  ·exact gZ (by omega)
  ·exact gZ (by omega)
 ·obtain ⟨r,hr,hn⟩:=List.mem_flatMap.1 hn
  obtain ⟨r1,r2,r3,r4,r5⟩:=h.hr r hr
  unfold riI at hn
  rcases List.mem_append.1 hn with hn | hn
  ·simp only [List.mem_cons,List.not_mem_nil,or_false] at hn
   rcases hn with rfl | rfl | rfl | rfl | rfl
   ·exact gZ (by omega)
   ·exact gZ (by omega)
   ·exact r3
   ·exact uo _
   ·exact gZ (by omega)
  ·obtain ⟨p,hp,hn⟩:=List.mem_flatMap.1 hn
   obtain ⟨p1,p2,p3⟩:=r5 p hp
   simp only [piI,List.mem_cons,List.not_mem_nil,or_false] at hn
   rcases hn with rfl | rfl | rfl | rfl
   ·exact p1
   ·exact p2
   ·exact p3
   ·exact uo _
theorem uu (Y:List UInt8):csz 1 (Y.map ofB)=1∨(csz 1 (Y.map ofB)=0∧Y=[]):=by cases Y<;>simp [csz]
theorem SA (w:Bool):ad (ab FN (k+1)) 155 [.bool w] (.int .i64 (one w)):=by
 refine ak Yc fun T H E lv=>?_
 cases w
 all_goals
  repeat (first | refine stN ?_ | intro E)
  exact ae (.inr rfl) rfl rfl rfl rfl rfl rfl
theorem mh (a b:List Int):iV (a++b)=iV a++iV b:=List.map_append
theorem Ak {α β:Type}(f:α→List β) {l:List α}{j:Nat}{p:α}(h:l[j]? = some p):(l.take (j+1)).flatMap f=(l.take j).flatMap f++f p:=by
 rw [List.take_add_one,h,List.flatMap_append];simp
theorem abB {x:BI}(h:Sml x):ad (ab FN (k+5300)) 101 [biV x] (csl 1 ((we x).map ofB)):=by
 obtain ⟨b,s,at',st,d,f⟩:=x
 have hI:=ER h
 have hIl:=EP h
 obtain ⟨hb,hs,ha,ht,hf,hd,hd1,hr⟩:=h
 dsimp only at hb hs ha ht hf hd hd1 hr
 have c152:evP (ab FN (k+5299)) 152 [csl 1 (iV (biI ⟨b,s,at',st,d,f⟩))]=some (.sl 2 1 ((nG (biI ⟨b,s,at',st,d,f⟩)).map ofB)):=abA (k:=k+99) (by omega) hI
 have hE:we ⟨b,s,at',st,d,f⟩=nG (biI ⟨b,s,at',st,d,f⟩)++d:=rfl
 have hEl:(nG (biI ⟨b,s,at',st,d,f⟩)).length≤10+10*456:=by
  have h1:=qf (biI ⟨b,s,at',st,d,f⟩)
  have h2:=kZ (biI ⟨b,s,at',st,d,f⟩).length
  unfold nG
  rw [List.length_append];omega
 have hbi:iV (biI ⟨b,s,at',st,d,f⟩)=[.int .i64 b,.int .i64 s,.int .i64 at',.int .i64 st,.int .i64 ((d.map ofB).length/128:Nat),.int .i64 ((bp f).length/5:Nat)]++iV (f.flatMap riI):=by
  unfold biI;rw [mh,dy,List.length_map];rfl
 rw [hE]
 generalize nG (biI ⟨b,s,at',st,d,f⟩)=Y at c152 hEl ⊢
 generalize iV (biI ⟨b,s,at',st,d,f⟩)=J at c152 hbi
 refine ak XK fun T H E lv=>?_
 dsimp only [biV,biC]
 repeat (first | refine stN ?_ | intro E)
 generalize hA:[AV.int .i64 b,.int .i64 s,.int .i64 at',.int .i64 st,.int .i64 ((d.map ofB).length/128:Nat),.int .i64 ((bp f).length/5:Nat)]=A at hbi ⊢
 have hAl:A.length=6:=by rw [← hA];rfl
 refine aW (α:=Nat×Nat) (a8.mk (fun p=>p.1≤f.length) (fun p=>f.length-p.1)
  (fun p=>[(4,.int .i64 (p.1:Int)),(3,.sl p.2 1 (A++iV ((f.take p.1).flatMap riI))),(1,.ref 0 0)])
  (fun _=>[(0,[.int .u32 b,.int .u32 s,.int .i64 at',.int .i64 st,csl 128 (d.map ofB),csl 5 (bp f)])]))
  (fun p lv c=>4≤c∧l8 lv c p.2) (0,3) (Nat.zero_le _) ⟨Nat.le_refl _,.three⟩ (show f.length-0<k+5299 by omega) ⟨rfl,by rw [← hA];rfl,rfl,trivial⟩ ⟨rfl,trivial⟩ ?_
 rintro ⟨i,br⟩ lv c T H E hP ⟨hc4,hL⟩ hμ
 have hP:i≤f.length:=hP
 clear hμ
 dsimp only at hL ⊢
 have hdv:=dy f
 rcases Nat.lt_or_ge i f.length with hi | hi
 ·obtain ⟨r,hri⟩:∃ r,f[i]? = some r:=⟨_,List.getElem?_eq_getElem hi⟩
  have hrd:=gK fI hri
  have gi:inB (i:Int) ((bp f).length/5)=some i:=aZ (by omega)
  have hrl:=ur (l:=f.take i) fun y hy=>(hr y (List.mem_of_mem_take hy)).2.2.2.1
  rw [List.length_take] at hrl
  have hft:=Ak riI hri
  obtain ⟨r1,r2,r3,r4,r5⟩:=hr r (List.mem_of_getElem? hri)
  obtain ⟨rb,rs,rq,rw',l⟩:=r
  dsimp only at r1 r2 r3 r4 r5
  have hrd:rd (bp f) (i*5) 5 true=some (.agg [.int .u32 rb,.int .u32 rs,.int .i64 rq,.bool rw',csl 4 (bf l)]):=hrd
  have c155:ad (ab FN (k+5299)) 155 [.bool rw'] (.int .i64 (one rw')):=SA (k:=k+5298) rw'
  repeat (first | refine stN ?_ | intro E)
  apply oD
  ·exact rfl
  ·exact rfl
  ·exact fun H=>rfl
  ·exact ⟨by omega,by omega⟩
  ·rw [List.length_append,yB,dN];simp only [List.length_cons,List.length_nil];omega
  ·exact hL
  ·omega
  intro br1 lv1 c1 g1 g2 g3
  have hA2:A++iV ((f.take i).flatMap riI)++[.int .i64 (rb:Int),.int .i64 (rs:Int),.int .i64 rq,.int .i64 (one rw'),.int .i64 ((bf l).length/4:Nat)]=A++iV ((f.take i).flatMap riI++[(rb:Int),(rs:Int),rq,one rw',(l.length:Int)]):=by
   rw [mh,List.append_assoc,cq];rfl
  rw [hA2]
  generalize hG:(f.take i).flatMap riI++[(rb:Int),(rs:Int),rq,one rw',(l.length:Int)]=G
  have hGl:G.length≤45*f.length+5:=by rw [← hG,List.length_append];simp only [List.length_cons,List.length_nil];omega
  repeat (first | refine stN ?_ | intro E)
  have hdp:=cq l
  refine aW (α:=Nat×Nat) (a8.mk (fun p=>p.1≤l.length) (fun p=>l.length-p.1)
   (fun p=>[(6,.int .i64 (p.1:Int)),(5,.ref 1 0),(4,.int .i64 (i:Int)),(3,.sl p.2 1 (A++iV (G++(l.take p.1).flatMap piI))),(1,.ref 0 0)])
   (fun _=>[(1,[.int .u32 rb,.int .u32 rs,.int .i64 rq,.bool rw',csl 4 (bf l)]),(0,[.int .u32 b,.int .u32 s,.int .i64 at',.int .i64 st,csl 128 (d.map ofB),csl 5 (bp f)])]))
   (fun p lv c=>4≤c∧l8 lv c p.2) (0,br1) (Nat.zero_le _) ⟨by omega,g2⟩ (show l.length-0<k+5299 by omega) ⟨rfl,rfl,rfl,by simp;rfl,rfl,trivial⟩ ⟨rfl,rfl,trivial⟩ ?_
  rintro ⟨j,br2⟩ lv2 c2 T H E hP2 ⟨hc5,hL2⟩ hμ
  have hP2:j≤l.length:=hP2
  clear hμ
  dsimp only at hL2 ⊢
  rcases Nat.lt_or_ge j l.length with hj | hj
  ·obtain ⟨p,hpj⟩:∃ p,l[j]? = some p:=⟨_,List.getElem?_eq_getElem hj⟩
   have gj:inB (j:Int) ((bf l).length/4)=some j:=aZ (by omega)
   have q0:rd (bf l) (j*4+0) 1 false=some (.int .i64 p.i):=il bX (by omega) hpj rfl rfl
   have q1:rd (bf l) (j*4+1) 1 false=some (.int .i64 p.a):=il bX (by omega) hpj rfl rfl
   have q2:rd (bf l) (j*4+2) 1 false=some (.int .i64 p.n):=il bX (by omega) hpj rfl rfl
   have q3:rd (bf l) (j*4+3) 1 false=some (.bool p.w):=il bX (by omega) hpj rfl rfl
   have hpt:=Ak piI hpj
   have hpl:=uq (l.take j)
   rw [List.length_take] at hpl
   have c155:ad (ab FN (k+5299)) 155 [.bool p.w] (.int .i64 (one p.w)):=SA (k:=k+5298) p.w
   repeat (first | refine stN ?_ | intro E)
   apply oD
   ·exact rfl
   ·exact rfl
   ·exact fun H=>rfl
   ·exact ⟨by omega,by omega⟩
   ·rw [List.length_append,yB,List.length_append,dN];simp only [List.length_cons,List.length_nil];omega
   ·exact hL2
   ·omega
   intro br3 lv3 c3 g4 g5 g6
   have hA3:A++iV (G++(l.take j).flatMap piI)++[.int .i64 p.i,.int .i64 p.a,.int .i64 p.n,.int .i64 (one p.w)]=A++iV (G++(l.take (j+1)).flatMap piI):=by
    rw [hpt,← List.append_assoc G,mh (G++_) (piI p),← List.append_assoc A];rfl
   rw [hA3]
   repeat (first | refine stN ?_ | intro E)
   exact aB (j+1,br3) (show j+1≤l.length by omega) ⟨by omega,g5⟩ (show l.length-(j+1)<l.length-j by omega) ⟨rfl,rfl,rfl,rfl,rfl,trivial⟩ ⟨⟨rfl,rfl⟩,⟨rfl,rfl⟩,trivial⟩
  ·rw [List.take_of_length_le hj]
   repeat (first | refine stN ?_ | intro E)
   apply aN
   apply aM
   repeat (first | refine stN ?_ | intro E)
   have hfin:G++l.flatMap piI=(f.take (i+1)).flatMap riI:=by rw [hft,← hG];simp [riI]
   rw [hfin]
   exact aB (i+1,br2) (show i+1≤f.length by omega) ⟨by omega,hL2⟩ (show f.length-(i+1)<f.length-i by omega) ⟨rfl,rfl,rfl,trivial⟩ ⟨⟨rfl,rfl⟩,trivial⟩
 ·rw [List.take_of_length_le hi,← hbi]
  repeat (first | refine stN ?_ | intro E)
  apply aN
  apply aM
  repeat (first | refine stN ?_ | intro E)
  apply tV
  ·exact B7 rfl hL.ne1
  ·exact rfl
  ·exact c152
  ·exact rfl
  ·exact rfl
  ·exact rfl
  intro lv0 m1 m2
  rw [show aA (bB 1 1 c) (AV.sl 2 1 (Y.map ofB)) = .sl c 1 (Y.map ofB) from rfl]
  repeat (first | refine stN ?_ | intro E)
  have hdl:(d.map ofB).length/128*128=d.length:=by rw [List.length_map];omega
  obtain ⟨D,hD⟩:∃ D,D=(d.map ofB).length/128:=⟨_,rfl⟩
  rw [← hD] at hdl
  refine aW (α:=Nat×Nat) (a8.mk (fun p=>p.1≤D) (fun p=>D-p.1)
   (fun p=>[(8,.int .i64 (p.1:Int)),(7,.sl p.2 1 ((Y++d.take (p.1*128)).map ofB)),(1,.ref 0 0)])
   (fun _=>[(0,[.int .u32 b,.int .u32 s,.int .i64 at',.int .i64 st,csl 128 (d.map ofB),csl 5 (bp f)])]))
   (fun p lv c=>4≤c∧kP lv c p.2) (0,c) (Nat.zero_le _) ⟨by omega,hc4,by omega,m1⟩ (show D-0<k+5299 by omega) ⟨rfl,by simp;rfl,rfl,trivial⟩ ⟨rfl,trivial⟩ ?_
  rintro ⟨i,br⟩ lv c T H E hP ⟨hc4,hL⟩ hμ
  have hP:i≤D:=hP
  clear hμ
  dsimp only at hL ⊢
  rcases Nat.lt_or_ge i D with hi | hi
  ·have gi:inB (i:Int) ((d.map ofB).length/128)=some i:=aZ (by omega)
   repeat (first | refine stN ?_ | intro E)
   refine aW (α:=Nat×Nat) (a8.mk (fun p=>p.1≤128) (fun p=>128-p.1)
    (fun p=>[(9,.int .i64 (p.1:Int)),(8,.int .i64 (i:Int)),(7,.sl p.2 1 ((Y++d.take (i*128+p.1)).map ofB)),(1,.ref 0 0)])
    (fun _=>[(0,[.int .u32 b,.int .u32 s,.int .i64 at',.int .i64 st,csl 128 (d.map ofB),csl 5 (bp f)])]))
    (fun p lv c=>4≤c∧kP lv c p.2) (0,br) (Nat.zero_le _) ⟨hc4,hL⟩ (show 128-0<k+5299 by omega) ⟨rfl,rfl,rfl,rfl,trivial⟩ ⟨rfl,trivial⟩ ?_
   rintro ⟨j,br2⟩ lv2 c2 T H E hP2 ⟨hc5,hL2⟩ hμ
   have hP2:j≤128:=hP2
   clear hμ
   dsimp only at hL2 ⊢
   rcases Nat.lt_or_ge j 128 with hj | hj
   ·obtain ⟨u,hu⟩:∃ u,d[i*128+j]? = some u:=⟨_,List.getElem?_eq_getElem (by omega)⟩
    have hru:rd (d.map ofB) (i*128+j*1) 1 false=some (ofB u):=by
     simp only [rd,Bool.false_eq_true,if_false,Nat.mul_one,List.getElem?_map,hu,Option.map_some,ofB,AV.leaf,if_true]
    obtain ⟨c',rfl⟩:∃ c',c2=c'+4:=⟨c2-4,by omega⟩
    repeat (first | refine stN ?_ | intro E)
    apply x7
    ·exact rfl
    ·exact rfl
    ·exact fun H=>rfl
    ·exact ⟨by omega,by omega⟩
    ·rw [List.length_map,List.length_append,List.length_take,dN];simp only [List.length_cons,List.length_nil];omega
    ·exact hL2
    ·omega
    intro lv1 g2 g3
    rw [show (Y++d.take (i*128+j)).map ofB++[ofB u]=(Y++d.take (i*128+(j+1))).map ofB from by
     rw [← Nat.add_assoc,List.take_add_one,hu,← List.append_assoc,List.map_append (l₁:=Y++_)];rfl]
    repeat (first | refine stN ?_ | intro E)
    exact aB (j+1,c'+4) (show j+1≤128 by omega) ⟨by omega,g2⟩ (show 128-(j+1)<128-j by omega) ⟨rfl,rfl,rfl,rfl,trivial⟩ ⟨⟨rfl,rfl⟩,trivial⟩
   ·obtain rfl:j=128:=by omega
    repeat (first | refine stN ?_ | intro E)
    apply aN
    apply aM
    repeat (first | refine stN ?_ | intro E)
    exact aB (i+1,br2) (show i+1≤D by omega) ⟨by omega,hL2⟩ (show D-(i+1)<D-i by omega) ⟨rfl,by rw [Nat.add_mul,Nat.one_mul];rfl,rfl,trivial⟩ ⟨⟨rfl,rfl⟩,trivial⟩
  ·obtain rfl:i=D:=by omega
   rw [List.take_of_length_le (by omega)]
   repeat (first | refine stN ?_ | intro E)
   apply aN
   apply aM
   repeat (first | refine stN ?_ | intro E)
   exact ae (.inr rfl) rfl rfl rfl rfl hL.canon rfl
theorem s34 {x:BI}(h:Sml x):ad (ab FN (k+5301)) 34 [biV x,biV x] (.bool true):=by
 have c101:ad (ab FN (k+5300)) 101 [biV x] (csl 1 ((we x).map ofB)):=abB h
 obtain ⟨b,s,at',st,d,f⟩:=x
 generalize we ⟨b,s,at',st,d,f⟩=Y at c101
 dsimp only [biV,biC] at c101 ⊢
 refine ak aaa fun T H E lv=>?_
 repeat (first | refine stN ?_ | intro E)
 apply my
 ·exact rfl
 ·exact uu Y
 repeat (first | refine stN ?_ | intro E)
 apply my
 ·exact rfl
 ·exact uu Y
 have e:aj .eql (.str Y) (.str Y)=some (.bool true):=by simp [aj,kh]
 repeat (first | refine stN ?_ | intro E)
 exact ae (.inr rfl) rfl rfl rfl rfl rfl rfl
end Go.Proofs.YtepcejdglbcbkaaGreat
/- A notification, and the completion of a request, keep a device right, and touch no other byte. Condition: the memory is valid, the device is right. -/
namespace Go.Proofs.YtepcejdglbcbkaaGreat
open Go.Abs
variable {k:Nat}
structure NV (m0:List UInt8) (D b s n0:Nat) (x:NS):Prop where
 rv:RV x.m b s
 len:x.m.length=m0.length
 a:x.a<s
 f:x.f.length≤8
 f0:n0≤x.f.length
 st:x.st=0∨(160≤x.st∧x.st≤165)
 right:∀ r∈x.f,ez m0.length D r
 out:∀ t,¬ (b≤t∧t<b+16*s)→bt x.m t=bt m0 t
theorem SB {m:List UInt8}{b s:Nat}(h:RV m b s):aX m.length b s=0:=if_pos ⟨h.hs,h.hb,h.le⟩
theorem yC (n b s:Nat):aX n b s=0∨aX n b s=160:=by unfold aX;split<;>simp
theorem RV.top {m:List UInt8}{b s j:Nat}(h:RV m b s) (hj:j<s):b+16*j+16≤m.length:=by have:=h.le;omega
theorem Al {m:List UInt8}{b s i:Nat}(h:RV m b s) (hi:i<s):(aK m b s i).length=m.length∧∀ t,¬ (b≤t∧t<b+16*s)→bt (aK m b s i) t=bt m t:=by
 by_cases he:a7 m b s i=0
 ·obtain ⟨h1,h2,_⟩:=dp hi he
  rw [h2]
  exact ⟨mg h fun j hj=>(h1.one j hj).1,fun t ht=>na (fun j hj=>h.top (h1.one j hj).1) fun j hj=>by have:=(h1.one j hj).1;omega⟩
 ·obtain ⟨_,h2,_⟩:=gY he
  rw [h2];split
  ·exact ⟨dn (h.top hi),fun t ht=>jU (h.top hi) (by omega)⟩
  ·exact ⟨rfl,fun _ _=>rfl⟩
theorem yD {m:List UInt8}{D b s i:Nat}(h:RV m b s) (hi:i<s) (he:a7 m b s i=0) (hr:dY (aK m b s i) D (eJ m b s i)=0):ez m.length D (iL b s (aK m b s i) (eJ m b s i)):=by
 obtain ⟨h1,h2,_⟩:=dp hi he
 obtain ⟨p,t,hp,_⟩:=sB h hi he
 have hlen:=h1.len
 have hnd:(idx ((eJ m b s i).map Pt.toI)).Nodup:=by
  have e:idx ((eJ m b s i).map Pt.toI)=(bN m b s i).map (fun j:Nat=>(j:Int)):=by
   unfold idx eJ
   rw [List.map_map,List.map_map];rfl
  rw [e]
  exact List.Pairwise.map _ (fun (a b:Nat) (hab:a≠b) (hc:(a:Int)=b)=>hab (by omega)) h1.nd
 have hok:∀ x∈(eJ m b s i).map Pt.toI,okP m.length s x:=by
  intro x hx
  obtain ⟨y,hy,rfl⟩:=List.mem_map.1 hx
  obtain ⟨j,hj,rfl⟩:=List.mem_map.1 hy
  obtain ⟨o1,o2,o3,o4,o5⟩:=h1.one j hj
  refine ⟨?_,?_,?_,?_,?_,?_⟩<;>simp only [Pt.toI,nB]<;>omega
 have hpl:(eJ m b s i).length≤4:=by unfold eJ;rw [List.length_map];exact hlen
 rw [hp] at hr hnd hok hpl ⊢
 generalize aK m b s i=M at hr ⊢
 have hno:¬ early M D p:=by
  intro hc
  rw [i7 hc] at hr;cases hr
 rw [qd hno] at hr
 unfold early at hno
 have hne:t≠[]:=by
  rintro rfl
  have:dO [] (decide (word M (p.a+4)=2))=161:=if_pos (.inl rfl)
  rw [List.map_nil,this] at hr;cases hr
 have htl:=List.length_pos_iff.2 hne
 refine ⟨⟨SB h,?_,?_,?_,?_⟩,⟨hok,hnd⟩,p.toI,t.map Pt.toI,rfl,?_,?_,hr⟩
 ·show (0:Int)≤(word M p.a:Nat);omega
 ·show ((word M p.a:Nat):Int)<D
  have:¬ D≤word M p.a:=fun hc=>hno (.inr (.inl hc))
  omega
 ·show 2≤((p::t).map Pt.toI).length
  simp;omega
 ·show ((p::t).map Pt.toI).length≤4
  simp at hpl ⊢;omega
 ·show p.w=false
  cases hw:p.w with
  | false=>rfl
  | true=>exact absurd (.inl (.inr hw)) hno
 ·show (p.n:Int)=8
  have:p.n=8:=Decidable.byContradiction fun hc=>hno (.inl (.inl hc))
  omega
theorem yE {m0:List UInt8}{D b s n0 i:Nat}{x:NS}(h:NV m0 D b s n0 x) (hi:i<s) (hf:x.f.length<8):NV m0 D b s n0 (gL b s D i x):=by
 obtain ⟨t1,t2⟩:=Al h.rv hi
 have hm:=mK h.rv hi
 have hs:=h.a
 have hlt:(i+1)%s<s:=Nat.mod_lt _ (by omega)
 have hl:=h.len
 unfold gL
 split
 ·next he=>
  obtain ⟨_,_,e1,e2⟩:=gY he
  exact ⟨hm,by rw [t1,hl],hlt,h.f,h.f0,.inr (by dsimp only;omega),h.right,fun t ht=>(t2 t ht).trans (h.out t ht)⟩
 ·next he=>
  have he:=Decidable.not_not.1 he
  split
  ·next hr=>
   refine ⟨hm,by rw [t1,hl],hlt,by simp only [List.length_append,List.length_singleton];omega,by have:=h.f0;simp only [List.length_append,List.length_singleton];omega,h.st,?_,fun t ht=>(t2 t ht).trans (h.out t ht)⟩
   intro r hr2
   rcases List.mem_append.1 hr2 with hr2 | hr2
   ·exact h.right r hr2
   ·rw [List.mem_singleton] at hr2;subst hr2
    have:=yD h.rv hi he hr
    rw [hl] at this;exact this
  ·next hr=>
   have hc:=oO (aK x.m b s i) D (eJ x.m b s i)
   refine ⟨hm.bj hi,by rw [dn (hm.top hi),t1,hl],hlt,h.f,h.f0,.inr ?_,h.right,fun t ht=>?_⟩
   ·rcases hc with hc | hc | hc
    ·exact absurd hc hr
    ·rw [hc];dsimp only;omega
    ·rw [hc];dsimp only;omega
   ·rw [jU (hm.top hi) (by omega)];exact (t2 t ht).trans (h.out t ht)
theorem uv {m0:List UInt8}{D b s n0:Nat}:∀ (n:Nat) {x:NS},NV m0 D b s n0 x→NV m0 D b s n0 (dq b s D n x)
 | 0,x,h=>h
 | n+1,x,h=>by
  unfold dq
  split
  ·exact h
  ·next hc=>
   have hc1:¬ (cT x.m b s x.a s 0).2=false:=fun hq=>hc (.inl hq)
   have hc2:¬ 8≤x.f.length:=fun hq=>hc (.inr hq)
   exact uv n (yE h (mJ (by have:=h.a;omega) s 0 (by simpa using hc1)) (by omega))
structure NR (m:List UInt8) (D b s n0:Nat) (R:NS):Prop where
 len:R.m.length=m.length
 f:R.f.length≤8
 f0:n0≤R.f.length
 a:R.a=0∨(0<R.a∧cD s=true∧R.a<s)
 st:R.st=0∨(160≤R.st∧R.st≤165)
 right:∀ r∈R.f,ez m.length D r
 out:∀ t,¬ (b≤t∧t<b+16*s)→bt R.m t=bt m t
 same:aX m.length b s≠0→R.m=m
theorem Am {s:Nat}(h:s=1∨s=2∨s=4∨s=8):cD s=true:=decide_eq_true h
theorem SC {m:List UInt8}{D b s a:Nat}{st:Int}{f:List RI}{r:Bool}(h:VM m) (ha:a=0∨(0<a∧cD s=true∧a<s)) (hst:st=0∨(160≤st∧st≤165)) (hf:f.length≤8) (hr:∀ r∈f,ez m.length D r) :
 NR m D b s f.length (ntf b s D ⟨a,st,f,m,r⟩):=by
 unfold ntf
 by_cases hc:aX m.length b s=0
 ·rw [if_pos hc]
  have hrv:=mI h hc
  have hs:=hrv.hs
  have ha':a<s:=by omega
  have:=uv (m0:=m) (D:=D) (n0:=f.length) s (x:=⟨a,st,f,m,r⟩) ⟨hrv,rfl,ha',hf,Nat.le_refl _,hst,hr,fun _ _=>rfl⟩
  exact ⟨this.len,this.f,this.f0,(by have h1:=this.a;have h2:=Am hs;rcases Nat.eq_zero_or_pos (dq b s D s ⟨a,st,f,m,r⟩).a with e | e;exact .inl e;exact .inr ⟨e,h2,h1⟩),this.st,this.right,this.out,fun hq=>absurd hc hq⟩
 ·rw [if_neg hc]
  have hc2:=yC m.length b s
  exact ⟨rfl,hf,Nat.le_refl _,ha,.inr (by have e:=hc2.resolve_left hc;rw [e];dsimp only;omega),hr,fun _ _=>rfl,fun _=>rfl⟩
theorem yF {L D:Nat}{r:RI}(hL:L≤8192) (hD:D≤64) (h:ez L D r) (hb:r.b<4294967296) (hs:r.s<4294967296):r.b<4294967296∧r.s<4294967296∧I64 r.q∧r.l.length≤10∧∀ p∈r.l,I64 p.i∧I64 p.a∧I64 p.n:=by
 obtain ⟨⟨_,a2,a3,a4,a5⟩,⟨b1,_⟩,_⟩:=h
 refine ⟨hb,hs,⟨by omega,by omega⟩,by omega,fun p hp=>?_⟩
 obtain ⟨o1,o2,o3,o4,o5,o6⟩:=b1 p hp
 exact ⟨⟨by omega,by omega⟩,⟨by omega,by omega⟩,⟨by omega,by omega⟩⟩
theorem An {L D:Nat}{r:RI}(hL:L≤8192) (h:ez L D r):r.b<4294967296∧r.s<4294967296:=by
 have h1:=h.1.1
 unfold aX at h1
 split at h1
 ·next h2=>omega
 ·omega
theorem yG {L:Nat}{x:BI}(hL:L≤8192) (hb:x.b<4294967296) (hs:x.s<4294967296) (hd:x.d.length%128=0) (h:ju L x):Sml x:=by
 obtain ⟨h1,h2,h3,h4,h5⟩:=h
 unfold eh at h3 h5
 rw [List.length_map] at h3
 have h1' : -9223372036854775808≤x.at'∧x.at'<9223372036854775808:=by
  rcases h1 with h1 | ⟨h1,_,h2⟩<;>omega
 refine ⟨hb,hs,h1',⟨by omega,by omega⟩,by omega,by omega,hd,fun r hr=>?_⟩
 have hR:=oL.1 (h5 r hr)
 obtain ⟨g1,g2⟩:=An hL hR
 exact yF hL (by rw [List.length_map];exact h3) hR g1 g2
end Go.Proofs.YtepcejdglbcbkaaGreat
/- What a port and a completion do, for a device that is right. Condition: the memory is valid, the device is right. -/
namespace Go.Proofs.YtepcejdglbcbkaaGreat
open Go.Abs
variable {k:Nat}
structure Rt (m:List UInt8) (b s a:Nat) (st:Int) (d:List UInt8) (f:List RI):Prop where
 vm:VM m
 hb:b<4294967296
 hs:s<4294967296
 hd:d.length%128=0
 v:ju m.length ⟨b,s,a,st,d,f⟩
theorem Rt.f {m d:List UInt8}{b s a:Nat}{st:Int}{f:List RI}(h:Rt m b s a st d f):f.length≤8:=h.v.2.2.2.1
theorem Rt.eh {m d:List UInt8}{b s a:Nat}{st:Int}{f:List RI}(h:Rt m b s a st d f):(d.map ofB).length/128≤64:=h.v.2.2.1
theorem Rt.st {m d:List UInt8}{b s a:Nat}{st:Int}{f:List RI}(h:Rt m b s a st d f):st=0∨(160≤st∧st≤165):=h.v.2.1
theorem Rt.at0 {m d:List UInt8}{b s a:Nat}{st:Int}{f:List RI}(h:Rt m b s a st d f):a=0∨(0<a∧cD s=true∧a<s):=by
 have:=h.v.1
 dsimp only at this
 rcases this with h1 | ⟨h1,h2,h3⟩
 ·exact .inl (by omega)
 ·exact .inr ⟨by omega,h2,by omega⟩
theorem Rt.at {m d:List UInt8}{b s a:Nat}{st:Int}{f:List RI}(h:Rt m b s a st d f) (hc:aX m.length b s=0):a<s:=by
 have h1:=h.at0
 have h2:=(mI h.vm hc).hs
 omega
theorem Rt.right {m d:List UInt8}{b s a:Nat}{st:Int}{f:List RI}(h:Rt m b s a st d f) {r:RI}(hr:r∈f):ez m.length ((d.map ofB).length/128) r:=oL.1 (h.v.2.2.2.2 r hr)
theorem Rt.sml {m d:List UInt8}{b s a:Nat}{st:Int}{f:List RI}(h:Rt m b s a st d f):Sml ⟨b,s,a,st,d,f⟩:=yG h.vm.le.1 h.hb h.hs h.hd h.v
theorem Rt.nr {m d:List UInt8}{b s a:Nat}{st:Int}{f:List RI}(h:Rt m b s a st d f):NR m ((d.map ofB).length/128) b s f.length (ntf b s ((d.map ofB).length/128) ⟨a,st,f,m,false⟩):=SC h.vm h.at0 h.st h.f fun _ hr=>h.right hr
theorem Zn {m d:List UInt8}{b s:Nat}{at' st:Int}{f:List RI}(hm:VM m) (hb:b<4294967296) (hs:s<4294967296) (hd:d.length%128=0) (h:ju m.length ⟨b,s,at',st,d,f⟩):∃ a:Nat,at'=a∧Rt m b s a st d f:=by
 have h1:=h.1
 dsimp only at h1
 obtain ⟨a,rfl⟩:∃ a:Nat,at'=a:=⟨at'.toNat,by rcases h1 with h1 | ⟨h1,_⟩<;>omega⟩
 exact ⟨a,rfl,hm,hb,hs,hd,h⟩
theorem Rt.next {m d m' d':List UInt8}{b s b' s' a a':Nat}{st st':Int}{f f':List RI}(h:Rt m b s a st d f) (hm:m'.length=m.length) (hb:b'<4294967296) (hs:s'<4294967296) (hd:d'.length=d.length) (ha:a'=0∨(0<a'∧cD s'=true∧a'<s')) (hst:st'=0∨(160≤st'∧st'≤165)) (hf:f'.length≤8) (hr:∀ r∈f',ez m.length ((d.map ofB).length/128) r):Rt m' b' s' a' st' d' f':=by
 refine ⟨h.vm.of_len hm,hb,hs,by rw [hd];exact h.hd,?_,hst,?_,hf,fun r hr'=>?_⟩
 ·dsimp only
  rcases ha with ha | ⟨h1,h2,h3⟩
  ·exact .inl (by omega)
  ·exact .inr ⟨by omega,h2,by omega⟩
 ·show (d'.map ofB).length/128≤64
  have:=h.eh
  rw [List.length_map] at this ⊢;rw [hd];exact this
 ·have:=hr r hr'
  rw [hm]
  show cj m.length ((d'.map ofB).length/128) r=true
  have e:(d'.map ofB).length=(d.map ofB).length:=by rw [List.length_map,List.length_map,hd]
  rw [e]
  exact kX this
end Go.Proofs.YtepcejdglbcbkaaGreat
