/- Part of the texts on which proofs about this seat rest: each says what it proves at its own head. No condition. -/
import Derived.Test.YtepcejdglbcbkaaGreatM22
set_option linter.unusedVariables false
set_option linter.unusedSimpArgs false
set_option maxHeartbeats 1000000
set_option maxRecDepth 100000
/- Take, Fail with any error, Finish: what they come to. Condition: the memory is valid, the ring is there, the indices are of the ring. -/
namespace Go.Proofs.YtepcejdglbcbkaaGreat
open Go.Abs
variable {k:Nat}
theorem Sm {bs:List UInt8}{b s i:Nat}(h:RV bs b s) (hi:i<s):ad (ab FN (k+10400)) 168 [aq bs,aL b s,.int .i64 i] (.tup [aq (aK bs b s i),csl 4 (aH bs b (bN bs b s i)),.int .i64 (a7 bs b s i)]):=by
 have hl:=h.m.le
 have hs:=h.hs
 have hle:=h.le
 have hb16:=h.hb
 have c191:ad (ab FN (k+10399)) 191 [aq bs,aL b s,.int .i64 i] (dcV i (dw bs b i 0) (dw bs b i 1) (wr bs b i) (dw bs b i 2) (dw bs b i 3)):=(vW (k:=0) h hi).fuel (by omega)
 have c195:∀ e,161≤e→e≤165→ad (ab FN (k+10399)) 195 [aq bs,aL b s,.int .i64 i,.int .i64 (e:Nat)] (aq (bj b (4+(e-160)) bs i)):=fun e h1 h2=>(Ae (k:=0) h hi (by omega)).fuel (by omega)
 refine ak Yo fun T H E lv=>?_
 repeat (first | refine stN ?_ | intro E)
 apply A0
 ·exact rfl
 ·exact rfl
 ·exact ⟨by decide,by decide,by decide,by decide,rfl,by decide,rfl⟩
 intro lv' l1 l2
 repeat (first | refine stN ?_ | intro E)
 refine yp h hi l1 ⟨rfl,rfl,rfl,rfl,rfl,rfl,rfl,rfl,rfl,trivial⟩ ⟨rfl,rfl,rfl,trivial⟩ ?_ ?_
 ·intro e js n lv c T H E hw he1 he2
  obtain ⟨e1,e2,e3⟩:=se hw (by omega)
  have c195:=c195 e he1 he2
  rw [e1,e2,e3]
  apply aM
  by_cases h3:dw bs b i 3=1
  ·rw [if_pos h3]
   repeat (first | refine stN ?_ | intro E)
   exact ae (.inr rfl) rfl rfl rfl rfl rfl rfl
  ·rw [if_neg h3]
   repeat (first | refine stN ?_ | intro E)
   exact ae (.inr rfl) rfl rfl rfl rfl rfl rfl
 ·intro br js n lv c T H E hw
  obtain ⟨e1,e2,e3⟩:=uh hw
  rw [e1,e2,e3]
  repeat (first | refine stN ?_ | intro E)
  exact ae (.inr rfl) rfl rfl rfl rfl rfl rfl
theorem abb {bs bs0:List UInt8}{b s:Nat}{js:List Nat}(h:RV bs b s) (hj:∀ j∈js,j<s) (hn:js.length≤100):ad (ab FN (k+201)) 135 [aq bs,aL b s,csl 4 (aH bs0 b js)] (aq (bm bs b 3 js)):=by
 have c180:ad (ab FN (k+200)) 180 [aq bs,aL b s,csl 4 (aH bs0 b js),.int .i64 ((3:Nat):Int)] (aq (bm bs b 3 js)):=Sd h hj (by omega) hn
 refine ak X7 fun T H E lv=>?_
 repeat (first | refine stN ?_ | intro E)
 exact ae (.inr rfl) rfl rfl rfl rfl rfl rfl
theorem EI {bs:List UInt8}{b j i:Nat}{js:List Nat}(h:js[j]? = some i):rd (aH bs b js) (j*4) 4 true=some (.agg (mH bs b i)):=by
 have hlt:j<js.length:=(List.getElem?_eq_some_iff.1 h).1
 have hl:=fj bs b js
 simp only [rd,if_true]
 rw [if_pos (by omega)]
 congr 2
 apply List.ext_getElem?
 intro t
 by_cases ht:t<4
 ·rw [List.getElem?_take_of_lt ht,List.getElem?_drop,jG ht h]
 ·rw [List.getElem?_eq_none (by rw [List.length_take];omega),List.getElem?_eq_none (by rw [fh];omega)]
theorem abc {bs bs0:List UInt8}{b s:Nat}{js:List Nat}(h:RV bs b s) (hj:∀ j∈js,j<s) (hn:js.length≤100):ad (ab FN (k+10400)) 126 [aq bs,aL b s,csl 4 (aH bs0 b js)] (aq (bm bs b 3 js)):=by
 have hl:=h.m.le
 have hs:=h.hs
 have hle:=h.le
 have hb16:=h.hb
 refine ak X0 fun T H E lv=>?_
 repeat (first | refine stN ?_ | intro E)
 rw [da]
 refine aW (α:=Nat) (a8.mk (fun j=>j≤js.length) (fun j=>js.length-j)
  (fun j=>[(11,.int .i64 (j:Int)),(10,.int .i64 (js.length:Int)),(9,csl 4 (aH bs0 b js)),(6,.ref 2 0),(4,.ref 1 0),(3,.ref 0 0)])
  (fun j=>[(2,[.sl 0 0 []]),(1,[.int .u32 b,.int .u32 s]),(0,[csl 128 ((bm bs b 3 (js.take j)).map ofB)])]))
  (fun _ _ c=>c=4) 0 (Nat.zero_le _) rfl (show js.length-0<k+10399 by omega) ⟨rfl,rfl,rfl,rfl,rfl,rfl,trivial⟩ ⟨rfl,rfl,rfl,trivial⟩ ?_
 rintro j lv c T H E hP rfl hμ
 have hP:j≤js.length:=hP
 clear hμ
 dsimp only
 rcases Nat.lt_or_ge j js.length with hlt | hge
 ·obtain ⟨i,hi⟩:∃ i,js[j]? = some i:=⟨_,List.getElem?_eq_getElem hlt⟩
  have his:i<s:=hj i (List.mem_of_getElem? hi)
  have hr:=EI (bs:=bs0) (b:=b) hi
  have gi:inB (j:Int) ((aH bs0 b js).length/4)=some j:=aZ (by rw [da];omega)
  have hV:RV (bm bs b 3 (js.take j)) b s:=h.bm fun x hx=>hj x (List.mem_of_mem_take hx)
  have c176:ad (ab FN (k+10399)) 176 [aq (bm bs b 3 (js.take j)),aL b s,.int .i64 ((3:Nat):Int),csl 1 (dI [i])] (aq (bj b 3 (bm bs b 3 (js.take j)) i)):=(Aa (k:=0) (js:=[i]) hV (by simp [his]) (by omega) (by simp)).fuel (by omega)
  repeat (first | refine stN ?_ | intro E)
  exact aB (j+1) (show j+1≤js.length by omega) rfl (show js.length-(j+1)<js.length-j by omega) ⟨rfl,rfl,rfl,rfl,rfl,rfl,trivial⟩ ⟨⟨rfl,rfl⟩,⟨rfl,rfl⟩,⟨by rw [kT hi];rfl,rfl⟩,trivial⟩
 ·repeat (first | refine stN ?_ | intro E)
  apply aN
  apply aM
  repeat (first | refine stN ?_ | intro E)
  rw [List.take_of_length_le hge]
  exact ae (.inr rfl) rfl rfl rfl rfl rfl rfl
end Go.Proofs.YtepcejdglbcbkaaGreat
/- First: what it comes to, and the reference's. Condition: the memory is valid, the ring is there. -/
namespace Go.Proofs.YtepcejdglbcbkaaGreat
open Go.Abs
variable {k:Nat}
def cT (bs:List UInt8) (b s pos:Nat):Nat→Nat→Nat×Bool
 | 0,_=>(0,false)
 | f+1,j=>if dw bs b ((pos+j)%s) 3=1 then ((pos+j)%s,true) else cT bs b s pos f (j+1)
theorem qa {bs:List UInt8}{b s pos j:Nat}(h:j<s):cT bs b s pos (s-j) j=if dw bs b ((pos+j)%s) 3=1 then ((pos+j)%s,true) else cT bs b s pos (s-(j+1)) (j+1):=by
 obtain ⟨f,hf⟩:∃ f,s-j=f+1:=⟨s-j-1,by omega⟩
 have hf':s-(j+1)=f:=by omega
 rw [hf,hf',cT]
theorem Sn {bs:List UInt8}{b s pos x:Nat}{y:Bool}(h:RV bs b s) (hp:pos<256) (hx:cT bs b s pos s 0=(x,y)):ad (ab FN (k+100)) 167 [aq bs,aL b s,.int .i64 pos] (.tup [.int .i64 x,.bool y]):=by
 have hl:=h.m.le
 have hs:=h.hs
 have hle:=h.le
 have hb16:=h.hb
 refine ak Yn fun T H E lv=>?_
 repeat (first | refine stN ?_ | intro E)
 refine aW (α:=Nat) (a8.mk (fun j=>j≤s∧cT bs b s pos (s-j) j=(x,y)) (fun j=>s-j)
  (fun j=>[(13,.int .i64 (j:Int)),(12,.int .i64 (s:Int)),(4,.ref 1 0),(3,.ref 0 0),(2,.int .i64 pos)])
  (fun j=>[(1,[.int .u32 b,.int .u32 s]),(0,[csl 128 (bs.map ofB)])]))
  (fun _ _ c=>c=4) 0 ⟨Nat.zero_le _,hx⟩ rfl (show s-0<k+99 by omega) ⟨rfl,rfl,rfl,rfl,rfl,trivial⟩ ⟨rfl,rfl,trivial⟩ ?_
 rintro j lv c T H E ⟨hP,hj⟩ rfl hμ
 have hP:j≤s:=hP
 have hj:cT bs b s pos (s-j) j=(x,y):=hj
 clear hμ
 dsimp only
 rcases Nat.lt_or_ge j s with hlt | hge
 ·rw [qa hlt] at hj
  have his:(pos+j)%s<s:=Nat.mod_lt _ (by omega)
  have c191:ad (ab FN (k+99)) 191 [aq bs,aL b s,.int .i64 (((pos+j)%s:Nat):Int)] (dcV ((pos+j)%s) (dw bs b ((pos+j)%s) 0) (dw bs b ((pos+j)%s) 1) (wr bs b ((pos+j)%s)) (dw bs b ((pos+j)%s) 2) (dw bs b ((pos+j)%s) 3)):=(vW (k:=0) h his).fuel (by omega)
  have gr:aj .rem (.int .i64 ((pos+j:Nat):Int)) (.int .i64 (s:Int))=some (.int .i64 (((pos+j)%s:Nat):Int)):=gF (by omega)
  by_cases hd:dw bs b ((pos+j)%s) 3=1
  ·rw [if_pos hd,Prod.mk.injEq] at hj
   obtain ⟨rfl,rfl⟩:=hj
   repeat (first | refine stN ?_ | intro E)
   apply bz
   repeat (first | refine stN ?_ | intro E)
   exact ae (.inr rfl) rfl rfl rfl rfl rfl rfl
  ·rw [if_neg hd] at hj
   repeat (first | refine stN ?_ | intro E)
   exact aB (j+1) ⟨by omega,hj⟩ rfl (show s-(j+1)<s-j by omega) ⟨rfl,rfl,rfl,rfl,rfl,trivial⟩ ⟨⟨rfl,rfl⟩,⟨rfl,rfl⟩,trivial⟩
 ·have hjs:s-j=0:=by omega
  rw [hjs,cT,Prod.mk.injEq] at hj
  obtain ⟨rfl,rfl⟩:=hj
  repeat (first | refine stN ?_ | intro E)
  apply aN
  apply aM
  repeat (first | refine stN ?_ | intro E)
  exact ae (.inr rfl) rfl rfl rfl rfl rfl rfl
theorem So {bs:List UInt8}{b s pos x:Nat}{y:Bool}(h:RV bs b s) (hp:pos<256) (hx:cT bs b s pos s 0=(x,y)):ad (ab FN (k+100)) 130 [aq bs,aL b s,.int .i64 pos] (.agg [.int .i64 x,.bool y]):=by
 have hl:=h.m.le
 have hs:=h.hs
 have hle:=h.le
 have hb16:=h.hb
 refine ak X3 fun T H E lv=>?_
 repeat (first | refine stN ?_ | intro E)
 refine aW (α:=Nat) (a8.mk (fun j=>j≤s∧cT bs b s pos (s-j) j=(x,y)) (fun j=>s-j)
  (fun j=>[(8,.int .i64 (j:Int)),(7,.int .i64 (s:Int)),(6,.ref 2 0),(4,.ref 1 0),(3,.ref 0 0),(2,.int .i64 pos)])
  (fun j=>[(2,[.int .i64 0,.bool false]),(1,[.int .u32 b,.int .u32 s]),(0,[csl 128 (bs.map ofB)])]))
  (fun _ _ c=>c=4) 0 ⟨Nat.zero_le _,hx⟩ rfl (show s-0<k+99 by omega) ⟨rfl,rfl,rfl,rfl,rfl,rfl,trivial⟩ ⟨rfl,rfl,rfl,trivial⟩ ?_
 rintro j lv c T H E ⟨hP,hj⟩ rfl hμ
 have hP:j≤s:=hP
 have hj:cT bs b s pos (s-j) j=(x,y):=hj
 clear hμ
 dsimp only
 rcases Nat.lt_or_ge j s with hlt | hge
 ·rw [qa hlt] at hj
  have his:(pos+j)%s<s:=Nat.mod_lt _ (by omega)
  have c177:ad (ab FN (k+99)) 177 [aq bs,aL b s,.int .i64 (((pos+j)%s:Nat):Int),.int .i64 ((3:Nat):Int)] (.int .i64 (dw bs b ((pos+j)%s) 3)):=(kR (k:=0) h his (by omega)).fuel (by omega)
  have gr:aj .rem (.int .i64 ((pos+j:Nat):Int)) (.int .i64 (s:Int))=some (.int .i64 (((pos+j)%s:Nat):Int)):=gF (by omega)
  by_cases hd:dw bs b ((pos+j)%s) 3=1
  ·rw [if_pos hd,Prod.mk.injEq] at hj
   obtain ⟨rfl,rfl⟩:=hj
   repeat (first | refine stN ?_ | intro E)
   apply bz
   repeat (first | refine stN ?_ | intro E)
   exact ae (.inr rfl) rfl rfl rfl rfl rfl rfl
  ·rw [if_neg hd] at hj
   repeat (first | refine stN ?_ | intro E)
   exact aB (j+1) ⟨by omega,hj⟩ rfl (show s-(j+1)<s-j by omega) ⟨rfl,rfl,rfl,rfl,rfl,rfl,trivial⟩ ⟨⟨rfl,rfl⟩,⟨rfl,rfl⟩,⟨rfl,rfl⟩,trivial⟩
 ·have hjs:s-j=0:=by omega
  rw [hjs,cT,Prod.mk.injEq] at hj
  obtain ⟨rfl,rfl⟩:=hj
  repeat (first | refine stN ?_ | intro E)
  apply aN
  apply aM
  repeat (first | refine stN ?_ | intro E)
  exact ae (.inr rfl) rfl rfl rfl rfl rfl rfl
end Go.Proofs.YtepcejdglbcbkaaGreat
/- What is valid, and what is there. Condition: the numbers of the ring are words. -/
namespace Go.Proofs.YtepcejdglbcbkaaGreat
open Go.Abs
variable {k:Nat}
theorem abd {bs:List UInt8}(h:VM bs):ad (ab FN (k+1)) 36 [aq bs] (.bool true):=by
 have hl:=h.le
 have hd:(bs.map ofB).length/128=bs.length/128:=by rw [List.length_map]
 refine ak R6 fun T H E lv=>?_
 repeat (first | refine stN ?_ | intro E)
 exact ae (.inr rfl) rfl rfl rfl rfl rfl rfl
theorem abe {bs:List UInt8}{p:Nat}(hp:bs.length=128*p) (h:p=0∨64<p):ad (ab FN (k+1)) 36 [aq bs] (.bool false):=by
 have hd:(bs.map ofB).length/128=p:=by rw [List.length_map];omega
 refine ak R6 fun T H E lv=>?_
 rcases h with h | h
 ·repeat (first | refine stN ?_ | intro E)
  exact ae (.inr rfl) rfl rfl rfl rfl rfl rfl
 ·repeat (first | refine stN ?_ | intro E)
  exact ae (.inr rfl) rfl rfl rfl rfl rfl rfl
def aX (n b s:Nat):Nat:=if (s=1∨s=2∨s=4∨s=8)∧b%16=0∧b+16*s≤n then 0 else 160
theorem mI {bs:List UInt8}{b s:Nat}(h:VM bs) (hc:aX bs.length b s=0):RV bs b s:=by
 unfold aX at hc
 split at hc
 ·next h1=>exact ⟨h,h1.1,h1.2.1,h1.2.2⟩
 ·omega
theorem uj (b:Nat):aj .rem (.int .u32 (b:Int)) (.int .u32 16)=some (.int .u32 ((b%16:Nat):Int)):=by
 simp only [aj,reduceCtorEq,or_self,if_false,if_true,bC]
 rw [if_neg (by decide),Int.tmod_eq_emod_of_nonneg (by omega)]
 simp
theorem vX {bs:List UInt8}{b s:Nat}(h:VM bs) (hb:b<4294967296) (hs:s<4294967296):ad (ab FN (k+2)) 156 [aq bs,aL b s] (.int .i64 (aX bs.length b s)):=by
 have hl:=h.le
 have gr:=uj b
 have c157:ad (ab FN (k+1)) 157 [aq bs] (.int .i64 bs.length):=vS h
 refine ak Yd fun T H E lv=>?_
 repeat' (first | refine stM ?_ | intro E | (refine stS ?_ ?_<;>intro hc) | refine stB ?_ | (refine stG ?_ ?_<;>intro hc))
 all_goals
  refine ae (.inr rfl) rfl rfl rfl rfl ?_ rfl
  refine congrArg (AV.int .i64) ?_
  unfold aX
  split<;>omega
theorem sf {bs:List UInt8}{b s:Nat}(h:VM bs) (hb:b<4294967296) (hs:s<4294967296):ad (ab FN (k+2)) 129 [aq bs,aL b s] (.int .i64 (aX bs.length b s)):=by
 have hl:=h.le
 have gr:=uj b
 have c159:ad (ab FN (k+1)) 159 [aq bs] (.int .i64 bs.length):=r6 h
 refine ak X2 fun T H E lv=>?_
 repeat' (first | refine stM ?_ | intro E | (refine stS ?_ ?_<;>intro hc) | refine stB ?_ | (refine stG ?_ ?_<;>intro hc))
 all_goals
  refine ae (.inr rfl) rfl rfl rfl rfl ?_ rfl
  refine congrArg (AV.int .i64) ?_
  unfold aX
  split<;>omega
end Go.Proofs.YtepcejdglbcbkaaGreat
