/- Part of the texts on which proofs about this seat rest: each says what it proves at its own head. No condition. -/
import Derived.Test.YtepcejdglbcbkaaGreatM18
set_option linter.unusedVariables false
set_option linter.unusedSimpArgs false
set_option maxRecDepth 100000
/- The reference takes a request. Condition: the memory is valid, the ring is there, the index is of the ring. -/
namespace Go.Proofs.YtepcejdglbcbkaaGreat
open Go.Abs
variable {k:Nat}
theorem Ac {bs:List UInt8}{b s i w:Nat}(h:RV bs b s) (hi:i<s) (hw:w<4294967296):ad (ab FN (k+12)) 179 [aq bs,aL b s,.int .i64 i,.int .i64 w] (aq (bj b w bs i)):=by
 have hl:=h.m.le
 have hs:=h.hs
 have hle:=h.le
 have hb16:=h.hb
 have c136:ad (ab FN (k+11)) 136 [aq bs,.agg [.int .i64 ((b+16*i+12:Nat):Int),.int .i64 4,.int .u32 w]] (.agg [csl 128 ((bD bs (b+16*i+12) (le4 w)).map ofB),.bool true]):=(aa6 (k:=0) h.m (by omega) (by omega) hw).fuel (by omega)
 refine ak Yw fun T H E lv=>?_
 repeat (first | refine stN ?_ | intro E)
 exact ae (.inr rfl) rfl rfl rfl rfl rfl rfl
theorem Sd {bs bs0:List UInt8}{b s w:Nat}{js:List Nat}(h:RV bs b s) (hj:∀ j∈js,j<s) (hw:w<4294967296) (hn:js.length≤100):ad (ab FN (k+200)) 180 [aq bs,aL b s,csl 4 (aH bs0 b js),.int .i64 w] (aq (bm bs b w js)):=by
 have hl:=h.m.le
 have hs:=h.hs
 have hle:=h.le
 have hb16:=h.hb
 refine ak Yx fun T H E lv=>?_
 repeat (first | refine stN ?_ | intro E)
 refine aW (α:=Nat) (a8.mk (fun j=>j≤js.length) (fun j=>js.length-j)
  (fun j=>[(9,.int .i64 (j:Int)),(8,.ref 2 0),(5,.ref 1 0),(4,.ref 0 0),(2,csl 4 (aH bs0 b js)),(3,.int .i64 w)])
  (fun j=>[(2,[.sl 0 0 []]),(1,[.int .u32 b,.int .u32 s]),(0,[csl 128 ((bm bs b w (js.take j)).map ofB)])]))
  (fun _ _ c=>c=4) 0 (Nat.zero_le _) rfl (show js.length-0<k+199 by omega) ⟨rfl,rfl,rfl,rfl,rfl,rfl,trivial⟩ ⟨rfl,rfl,rfl,trivial⟩ ?_
 rintro j lv c T H E hP rfl hμ
 have hP:j≤js.length:=hP
 clear hμ
 dsimp only
 rcases Nat.lt_or_ge j js.length with hlt | hge
 ·obtain ⟨i,hi⟩:∃ i,js[j]? = some i:=⟨_,List.getElem?_eq_getElem hlt⟩
  have his:i<s:=hj i (List.mem_of_getElem? hi)
  have hr:=sd (bs:=bs0) (b:=b) hi
  have gi:inB (j:Int) ((aH bs0 b js).length/4)=some j:=aZ (by rw [da];omega)
  have gl:aj .lss (.int .i64 (j:Int)) (.int .i64 (((aH bs0 b js).length/4:Nat):Int))=some (.bool true):=mz (by rw [da];omega)
  have hV:RV (bm bs b w (js.take j)) b s:=h.bm fun x hx=>hj x (List.mem_of_mem_take hx)
  have hfl:bK (aH bs0 b js)=true:=i4 _ _ _
  have c179:ad (ab FN (k+199)) 179 [aq (bm bs b w (js.take j)),aL b s,.int .i64 i,.int .i64 w] (aq (bj b w (bm bs b w (js.take j)) i)):=(Ac (k:=0) hV his hw).fuel (by omega)
  repeat (first | refine stN ?_ | intro E)
  exact aB (j+1) (show j+1≤js.length by omega) rfl (show js.length-(j+1)<js.length-j by omega) ⟨rfl,rfl,rfl,rfl,rfl,rfl,trivial⟩ ⟨⟨rfl,rfl⟩,⟨rfl,rfl⟩,⟨by rw [kT hi];rfl,rfl⟩,trivial⟩
 ·have gl:aj .lss (.int .i64 (j:Int)) (.int .i64 (((aH bs0 b js).length/4:Nat):Int))=some (.bool false):=mA (by rw [da];omega)
  repeat (first | refine stN ?_ | intro E)
  apply aN
  apply aM
  repeat (first | refine stN ?_ | intro E)
  rw [List.take_of_length_le hge]
  exact ae (.inr rfl) rfl rfl rfl rfl rfl rfl
def walk (bs:List UInt8) (b s:Nat):Nat→List Nat→Nat→List Nat×Nat
 | 0,js,_=>(js,0)
 | f+1,js,i=>if bF bs b s js i≠0 then (js,bF bs b s js i) else if dw bs b i 2/2%2=1 then walk bs b s f (js++[i]) (dw bs b i 2/256%256) else (js++[i],0)
def tM (bs:List UInt8) (b i:Nat) (W:List Nat×Nat):List UInt8:=if W.2=0 then bm bs b 2 W.1 else if dw bs b i 3=1 then bj b (4+(W.2-160)) bs i else bs
def tL (W:List Nat×Nat):List Nat:=if W.2=0 then W.1 else []
def aK (bs:List UInt8) (b s i:Nat):List UInt8:=tM bs b i (walk bs b s 5 [] i)
def bN (bs:List UInt8) (b s i:Nat):List Nat:=tL (walk bs b s 5 [] i)
def tE (W:List Nat×Nat):Nat:=W.2
def a7 (bs:List UInt8) (b s i:Nat):Nat:=tE (walk bs b s 5 [] i)
theorem oI (inn len st at_ sz size fl s wrt:Nat):eu inn len st at_ sz size fl s wrt=0∨(161≤eu inn len st at_ sz size fl s wrt∧eu inn len st at_ sz size fl s wrt≤165):=by
 unfold eu
 (repeat' split)<;>omega
theorem jr {bs:List UInt8}{b s i:Nat}{js:List Nat}(h:bF bs b s js i=0):i∉js∧js.length<4∧dw bs b i 3=1∧1≤dw bs b i 1∧dw bs b i 1≤512∧dw bs b i 0+dw bs b i 1≤bs.length∧(dw bs b i 2/2%2=1→dw bs b i 2/256%256<s):=by
 unfold bF eu at h
 split at h<;>try omega
 split at h<;>try omega
 split at h<;>try omega
 split at h<;>try omega
 split at h<;>try omega
 refine ⟨?_,by omega,by omega,by omega,by omega,by omega,by omega⟩
 intro hm
 have:bn (decide (i∈js))=1:=by rw [decide_eq_true hm];rfl
 omega
theorem oJ (bs:List UInt8) (b:Nat) (js:List Nat) (i:Nat):aH bs b js++mH bs b i=aH bs b (js++[i]):=by simp [aH]
def WP (bs:List UInt8) (b s i:Nat) (f:Nat) (js:List Nat) (cur:Nat):Prop:=js.length+f=5∧1≤f∧cur<s∧(∀ j∈js,j<s)∧walk bs b s f js cur=walk bs b s 5 [] i
theorem WP.err {bs:List UInt8}{b s i f:Nat}{js:List Nat}{cur:Nat}(h:WP bs b s i f js cur) (he:bF bs b s js cur≠0):walk bs b s 5 [] i=(js,bF bs b s js cur):=by
 obtain ⟨h1,h2,h3,h4,h5⟩:=h
 obtain ⟨f,rfl⟩:∃ g,f=g+1:=⟨f-1,by omega⟩
 rw [← h5];simp only [walk];rw [if_pos he]
theorem WP.last {bs:List UInt8}{b s i f:Nat}{js:List Nat}{cur:Nat}(h:WP bs b s i f js cur) (he:bF bs b s js cur=0) (hm:¬ dw bs b cur 2/2%2=1):walk bs b s 5 [] i=(js++[cur],0):=by
 obtain ⟨h1,h2,h3,h4,h5⟩:=h
 obtain ⟨f,rfl⟩:∃ g,f=g+1:=⟨f-1,by omega⟩
 rw [← h5];simp only [walk];rw [if_neg (by rw [he];simp),if_neg hm]
theorem WP.more {bs:List UInt8}{b s i f:Nat}{js:List Nat}{cur:Nat}(h:WP bs b s i f js cur) (he:bF bs b s js cur=0) (hm:dw bs b cur 2/2%2=1):WP bs b s i (f-1) (js++[cur]) (dw bs b cur 2/256%256):=by
 obtain ⟨h1,h2,h3,h4,h5⟩:=h
 have ok:=jr he
 obtain ⟨f,rfl⟩:∃ g,f=g+1:=⟨f-1,by omega⟩
 refine ⟨by rw [List.length_append,List.length_singleton];omega,by omega,ok.2.2.2.2.2.2 hm,?_,?_⟩
 ·intro j hj
  rcases List.mem_append.1 hj with h | h
  ·exact h4 j h
  ·rw [List.mem_singleton] at h;omega
 ·rw [← h5];simp only [walk,Nat.add_sub_cancel]
  rw [if_neg (by rw [he];simp),if_pos hm]
theorem Se {bs:List UInt8}{b i e:Nat}{js:List Nat}(he:e≠0):tM bs b i (js,e)=if dw bs b i 3=1 then bj b (4+(e-160)) bs i else bs:=by
 unfold tM;exact if_neg he
theorem se {bs:List UInt8}{b s i e:Nat}{js:List Nat}(h:walk bs b s 5 [] i=(js,e)) (he:e≠0):aK bs b s i=(if dw bs b i 3=1 then bj b (4+(e-160)) bs i else bs)∧bN bs b s i=[]∧a7 bs b s i=e:=
 ⟨(congrArg (tM bs b i) h).trans (Se he),(congrArg tL h).trans (if_neg he),congrArg tE h⟩
theorem uh {bs:List UInt8}{b s i:Nat}{js:List Nat}(h:walk bs b s 5 [] i=(js,0)):aK bs b s i=bm bs b 2 js∧bN bs b s i=js∧a7 bs b s i=0:=
 ⟨(congrArg (tM bs b i) h).trans (if_pos rfl),(congrArg tL h).trans (if_pos rfl),congrArg tE h⟩
end Go.Proofs.YtepcejdglbcbkaaGreat
