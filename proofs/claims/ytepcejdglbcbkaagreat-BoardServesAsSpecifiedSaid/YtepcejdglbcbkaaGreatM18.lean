/- Part of the texts on which proofs about this seat rest: each says what it proves at its own head. No condition. -/
import Derived.Test.YtepcejdglbcbkaaGreatM17
set_option linter.unusedVariables false
set_option linter.unusedSimpArgs false
set_option maxHeartbeats 4000000
set_option maxRecDepth 100000
/- Statuses are marked. Condition: the memory is valid, the ring is there, the indices are of the ring. -/
namespace Go.Proofs.YtepcejdglbcbkaaGreat
open Go.Abs
variable {k:Nat}
def bj (b w:Nat) (bs:List UInt8) (i:Nat):List UInt8:=bD bs (b+16*i+12) (le4 w)
def bm (bs:List UInt8) (b w:Nat) (js:List Nat):List UInt8:=js.foldl (bj b w) bs
theorem kS (w:Nat):(le4 w).length=4:=rfl
theorem dn {b w i:Nat}{bs:List UInt8}(h:b+16*i+16≤bs.length):(bj b w bs i).length=bs.length:=ef (by rw [kS];omega)
theorem RV.bj {bs:List UInt8}{b s w i:Nat}(h:RV bs b s) (hi:i<s):RV (bj b w bs i) b s:=by
 have hl:=h.le
 have e:(Proofs.YtepcejdglbcbkaaGreat.bj b w bs i).length=bs.length:=dn (by omega)
 obtain ⟨p,h1,h2,h3⟩:=h.m
 exact ⟨⟨p,h1,h2,by rw [e,h3]⟩,h.hs,h.hb,by rw [e];exact h.le⟩
theorem RV.bm {b s w:Nat}:∀ {js:List Nat}{bs:List UInt8},RV bs b s→(∀ j∈js,j<s)→RV (bm bs b w js) b s
 | [],_,h,_=>h
 | j::js,_,h,hj=>(h.bj (hj j (by simp))).bm fun i hi=>hj i (by simp [hi])
theorem kT {bs:List UInt8}{b w j i:Nat}{js:List Nat}(h:js[j]? = some i):bm bs b w (js.take (j+1))=bj b w (bm bs b w (js.take j)) i:=by
 rw [List.take_add_one,h]
 simp [bm,List.foldl_append]
def dI (js:List Nat):List AV:=js.map fun j=>.int .i64 (j:Nat)
theorem ug {js:List Nat}{j i:Nat}(h:js[j]? = some i):rd (dI js) (j*1) 1 false=some (.int .i64 i):=by
 simp only [rd,dI,Nat.mul_one,Bool.false_eq_true,if_false,List.getElem?_map,h,Option.map_some];rfl
theorem eP (js:List Nat):(dI js).length=js.length:=by simp [dI]
theorem ym (js:List Nat):bK (dI js)=true:=by
 induction js with
 | nil=>rfl
 | cons j js ih=>simp only [dI,List.map_cons,bK] at ih ⊢;rw [ih];rfl
theorem Aa {bs:List UInt8}{b s w:Nat}{js:List Nat}(h:RV bs b s) (hj:∀ j∈js,j<s) (hw:w<4294967296) (hn:js.length≤100):ad (ab FN (k+10200)) 176 [aq bs,aL b s,.int .i64 w,csl 1 (dI js)] (aq (bm bs b w js)):=by
 have hl:=h.m.le
 have hs:=h.hs
 have hle:=h.le
 have hb16:=h.hb
 have hfl:=ym js
 refine ak Yt fun T H E lv=>?_
 repeat (first | refine stN ?_ | intro E)
 rw [eP,Nat.div_one]
 refine aW (α:=Nat) (a8.mk (fun j=>j≤js.length) (fun j=>js.length-j)
  (fun j=>[(13,.int .i64 (j:Int)),(12,.int .i64 (js.length:Int)),(11,csl 1 (dI js)),(8,.ref 2 0),(5,.ref 1 0),(4,.ref 0 0),(2,.int .i64 w)])
  (fun j=>[(2,[.sl 0 0 []]),(1,[.int .u32 b,.int .u32 s]),(0,[csl 128 ((bm bs b w (js.take j)).map ofB)])]))
  (fun _ _ c=>c=4) 0 (Nat.zero_le _) rfl (show js.length-0<k+10199 by omega) ⟨rfl,rfl,rfl,rfl,rfl,rfl,rfl,trivial⟩ ⟨rfl,rfl,rfl,trivial⟩ ?_
 rintro j lv c T H E hP rfl hμ
 have hP:j≤js.length:=hP
 clear hμ
 dsimp only
 rcases Nat.lt_or_ge j js.length with hlt | hge
 ·obtain ⟨i,hi⟩:∃ i,js[j]? = some i:=⟨_,List.getElem?_eq_getElem hlt⟩
  have his:i<s:=hj i (List.mem_of_getElem? hi)
  have hr:=ug hi
  have gi:inB (j:Int) ((dI js).length/1)=some j:=aZ (by rw [eP];omega)
  have hV:RV (bm bs b w (js.take j)) b s:=h.bm fun x hx=>hj x (List.mem_of_mem_take hx)
  have hV':=hV.le
  have c200:ad (ab FN (k+10199)) 200 [aL b s,.int .i64 i,.int .i64 ((3:Nat):Int)] (.int .i64 ((b+16*i+4*3:Nat):Int)):=(r8 (k:=0) (by omega) (by omega) (by omega)).fuel (by omega)
  have c171:ad (ab FN (k+10199)) 171 [aq (bm bs b w (js.take j)),.agg [.int .i64 ((b+16*i+4*3:Nat):Int),.int .i64 4,.int .u32 w]] (.tup [aq (bj b w (bm bs b w (js.take j)) i),.bool true]):=(aa4 (k:=0) hV.m (by omega) (by omega) hw).fuel (by omega)
  repeat (first | refine stN ?_ | intro E)
  exact aB (j+1) (show j+1≤js.length by omega) rfl (show js.length-(j+1)<js.length-j by omega) ⟨rfl,rfl,rfl,rfl,rfl,rfl,rfl,trivial⟩ ⟨⟨rfl,rfl⟩,⟨rfl,rfl⟩,⟨by rw [kT hi];rfl,rfl⟩,trivial⟩
 ·repeat (first | refine stN ?_ | intro E)
  apply aN
  apply aM
  repeat (first | refine stN ?_ | intro E)
  rw [List.take_of_length_le hge]
  exact ae (.inr rfl) rfl rfl rfl rfl rfl rfl
end Go.Proofs.YtepcejdglbcbkaaGreat
/- The reference's store, and its marks. Condition: the memory is valid, the place is there. -/
namespace Go.Proofs.YtepcejdglbcbkaaGreat
open Go.Abs
variable {k:Nat}
theorem sb:∀ {bs:List UInt8}{o:Nat}{u:UInt8},o<bs.length→kK (bs.map ofB) o (ofB u)=some ((bs.set o u).map ofB)
 | b::bs,0,u,_=>rfl
 | b::bs,o+1,u,h=>by
  have:=sb (bs:=bs) (o:=o) (u:=u) (by simpa using h)
  simp only [List.map_cons,kK,this,List.set_cons_succ]
theorem nA {bs ys:List UInt8}{a:Nat}(h:a+ys.length≤bs.length) (j:Nat):(bD bs a ys)[j]? = if j<a then bs[j]? else if j<a+ys.length then ys[j-a]? else bs[j]?:=by
 have l3:(bs.take a).length=a:=by rw [List.length_take];omega
 unfold bD
 split
 ·next h1=>rw [List.append_assoc,List.getElem?_append_left (by omega),List.getElem?_take_of_lt h1]
 ·next h1=>
  rw [List.append_assoc,List.getElem?_append_right (by omega),l3]
  split
  ·next h2=>rw [List.getElem?_append_left (by omega)]
  ·next h2=>
   rw [List.getElem?_append_right (by omega),List.getElem?_drop]
   congr 1;omega
theorem yn {bs ys:List UInt8}{a i:Nat}{u:UInt8}(h:a+ys.length≤bs.length) (hi:ys[i]? = some u):(bD bs a (ys.take i)).set (a+i) u=bD bs a (ys.take (i+1)):=by
 have hi':i<ys.length:=(List.getElem?_eq_some_iff.1 hi).1
 have l1:(ys.take i).length=i:=by rw [List.length_take];omega
 have l2:(ys.take (i+1)).length=i+1:=by rw [List.length_take];omega
 have l4:(bD bs a (ys.take i)).length=bs.length:=ef (by omega)
 apply List.ext_getElem?
 intro j
 rw [List.getElem?_set,nA (by omega),nA (by omega),l1,l2,l4]
 by_cases h1:a+i=j
 ·subst h1
  rw [if_pos rfl,if_pos (by omega),if_neg (by omega),if_pos (by omega),List.getElem?_take_of_lt (by omega),show a+i-a=i by omega,hi]
 ·rw [if_neg h1]
  by_cases h2:j<a
  ·rw [if_pos h2,if_pos h2]
  ·rw [if_neg h2,if_neg h2]
   by_cases h3:j<a+i
   ·rw [if_pos h3,if_pos (by omega),List.getElem?_take_of_lt (by omega),List.getElem?_take_of_lt (by omega)]
   ·rw [if_neg h3,if_neg (by omega)]
theorem EG (w i:Nat) (h:i<4):(le4 w)[i]? = some (UInt8.ofNat (w/2 ^ (8*i)%256)):=by
 have:i=0∨i=1∨i=2∨i=3:=by omega
 rcases this with rfl | rfl | rfl | rfl<;>simp [le4]
theorem aa5 {bs:List UInt8}(h:VM bs):evP (ab FN (k+1)) 183 [aq bs]=some (.agg [.sl 2 128 (bs.map ofB)]):=by
 have hl:=h.le
 have hfl:=jq bs
 refine qz Yz rfl fun T H E lv=>?_
 repeat (first | refine stN ?_ | intro E)
 apply fB
 ·exact rfl
 ·exact .inl rfl
 ·exact rfl
 ·exact fun H=>if_pos (dD _ _)
 ·exact ⟨by omega,by omega⟩
 ·simp only [List.length_nil,List.length_map,room];omega
 ·exact .inr (.inl rfl)
 ·intro e;rw [List.map_eq_nil_iff] at e;subst e;simp at hl
 intro lv' h1 h2
 repeat (first | refine stN ?_ | intro E)
 refine aQ (.inr rfl) rfl rfl rfl rfl rfl ?_
 show AV.agg [aO true lv' (.sl 4 128 (List.map ofB bs))]=_
 simp [aO,h1]
theorem aa6 {bs:List UInt8}{a w:Nat}(h:VM bs) (ha:a%4=0) (hb:a+4≤bs.length) (hw:w<4294967296):ad (ab FN (k+10)) 136 [aq bs,.agg [.int .i64 a,.int .i64 4,.int .u32 w]] (.agg [csl 128 ((bD bs a (le4 w)).map ofB),.bool true]):=by
 have hl:=h.le
 have c182:ad (ab FN (k+9)) 182 [aq bs,.int .i64 a,.int .i64 4] (.bool true):=(R9 (k:=0) h ha hb).fuel (by omega)
 have c183:evP (ab FN (k+9)) 183 [aq bs]=some (.agg [.sl 2 128 (bs.map ofB)]):=aa5 h
 refine ak X8 fun T H E lv=>?_
 repeat (first | refine stN ?_ | intro E)
 apply tP
 ·exact rfl
 ·exact rfl
 ·exact c183
 ·exact rfl
 ·exact rfl
 ·exact rfl
 ·exact sa _
 ·omega
 intro E
 rw [show aA (bB 2 (0+1+1+1) 4) (AV.agg [AV.sl 2 128 (bs.map ofB)]) = .agg [.osl 3 0 ((bs.map ofB).length/128) 128] from rfl]
 repeat (first | refine stN ?_ | intro E)
 have hLn:bs.length=128*((bs.map ofB).length/128):=by rw [List.length_map];omega
 obtain ⟨L,hL⟩:∃ L,L=(bs.map ofB).length/128:=⟨_,rfl⟩
 rw [← hL] at hLn ⊢
 have hst:∀ i,i<4→lT ((bD bs a ((le4 w).take i)).map ofB) (0+(a+i)/128*128+(a+i)%128*1) 1 (.int .u8 ((w/2 ^ (8*i)%256:Nat):Int))=some ((bD bs a ((le4 w).take (i+1))).map ofB):=by
  intro i hi
  have e:(le4 w).length=4:=rfl
  rw [show 0+(a+i)/128*128+(a+i)%128*1=a+i by omega,← iG _ (by omega),← yn (by omega) (EG w i hi)]
  exact sb (by rw [ef (by rw [List.length_take];omega)];omega)
 have t0:=hst 0 (by omega);have t1:=hst 1 (by omega);have t2:=hst 2 (by omega);have t3:=hst 3 (by omega)
 clear hst
 have q0:aj .shr (.int .u32 (w:Int)) (.int .i64 ((8*0:Nat):Int))=some (.int .u32 ((w/2 ^ (8*0):Nat):Int)):=kN (by decide)
 have q1:aj .shr (.int .u32 (w:Int)) (.int .i64 ((8*1:Nat):Int))=some (.int .u32 ((w/2 ^ (8*1):Nat):Int)):=kN (by decide)
 have q2:aj .shr (.int .u32 (w:Int)) (.int .i64 ((8*2:Nat):Int))=some (.int .u32 ((w/2 ^ (8*2):Nat):Int)):=kN (by decide)
 have q3:aj .shr (.int .u32 (w:Int)) (.int .i64 ((8*3:Nat):Int))=some (.int .u32 ((w/2 ^ (8*3):Nat):Int)):=kN (by decide)
 refine aW (α:=Nat) (a8.mk (fun i=>i≤4) (fun i=>4-i)
  (fun i=>[(7,.int .i64 (i:Int)),(6,.ref 4 0),(4,.ref 2 0),(3,.ref 1 0),(2,.ref 0 0)])
  (fun i=>[(4,[.osl 3 0 L 128]),(3,(bD bs a ((le4 w).take i)).map ofB),(2,[.sl 0 0 [],.bool false]),(1,[.int .i64 a,.int .i64 4,.int .u32 w]),(0,[csl 128 (bs.map ofB)])]))
  (fun _ _ c=>c=4) 0 (show 0≤4 by omega) rfl (show 4-0<k+9 by omega) ⟨rfl,rfl,rfl,rfl,rfl,trivial⟩ ⟨rfl,by rw [List.take_zero,nz];rfl,rfl,rfl,rfl,trivial⟩ ?_
 rintro i lv c T H E hP rfl hμ
 have hj:i=0∨i=1∨i=2∨i=3∨i=4:=by have:i≤4:=hP;omega
 clear hP hμ
 rcases hj with rfl | rfl | rfl | rfl | rfl<;>dsimp only
 ·repeat (first | refine stN ?_ | intro E)
  exact aB 1 (show 1≤4 by omega) rfl (show 4-1<4-0 by omega) ⟨rfl,rfl,rfl,rfl,rfl,trivial⟩ ⟨⟨rfl,rfl⟩,⟨rfl,cO _ _⟩,⟨rfl,rfl⟩,⟨rfl,rfl⟩,⟨rfl,rfl⟩,trivial⟩
 ·repeat (first | refine stN ?_ | intro E)
  exact aB 2 (show 2≤4 by omega) rfl (show 4-2<4-1 by omega) ⟨rfl,rfl,rfl,rfl,rfl,trivial⟩ ⟨⟨rfl,rfl⟩,⟨rfl,cO _ _⟩,⟨rfl,rfl⟩,⟨rfl,rfl⟩,⟨rfl,rfl⟩,trivial⟩
 ·repeat (first | refine stN ?_ | intro E)
  exact aB 3 (show 3≤4 by omega) rfl (show 4-3<4-2 by omega) ⟨rfl,rfl,rfl,rfl,rfl,trivial⟩ ⟨⟨rfl,rfl⟩,⟨rfl,cO _ _⟩,⟨rfl,rfl⟩,⟨rfl,rfl⟩,⟨rfl,rfl⟩,trivial⟩
 ·repeat (first | refine stN ?_ | intro E)
  exact aB 4 (show 4≤4 by omega) rfl (show 4-4<4-3 by omega) ⟨rfl,rfl,rfl,rfl,rfl,trivial⟩ ⟨⟨rfl,rfl⟩,⟨rfl,cO _ _⟩,⟨rfl,rfl⟩,⟨rfl,rfl⟩,⟨rfl,rfl⟩,trivial⟩
 ·have e4:(le4 w).take 4=le4 w:=rfl
  rw [e4]
  repeat (first | refine stN ?_ | intro E)
  apply aN
  apply aM
  repeat (first | refine stN ?_ | intro E)
  have hn:(bD bs a (le4 w)).length=128*L:=by rw [ef (by simp only [le4,List.length_cons,List.length_nil];omega),hLn]
  have hf:=fun os H ho=>uf (os:=os) (H:=H) (id:=3) ho hn
  refine ae (.inr rfl) rfl rfl ?_ ?_ ?_ rfl
  ·show (fk _ 0 (.osl 3 0 L 128)&&(fk _ 0 (.bool true)&&true))=true
   rw [(hf _ _ rfl).1];rfl
  ·show AV.under 0 (.agg [bM _ 0 (.osl 3 0 L 128),.bool true])=true
   rw [(hf _ _ rfl).2];rfl
  ·show aA aF (.agg [bM _ 0 (.osl 3 0 L 128),.bool true])=_
   rw [(hf _ _ rfl).2];rfl
end Go.Proofs.YtepcejdglbcbkaaGreat
/- What is wrong with a descriptor. Condition: the memory is valid, the ring is there. -/
namespace Go.Proofs.YtepcejdglbcbkaaGreat
open Go.Abs
variable {k:Nat}
def wr (bs:List UInt8) (b i:Nat):Bool:=decide (dw bs b i 2%2=1)
def mH (bs:List UInt8) (b i:Nat):List AV:=[.int .i64 i,.int .i64 (dw bs b i 0),.int .i64 (dw bs b i 1),.bool (wr bs b i)]
def aH (bs:List UInt8) (b:Nat) (js:List Nat):List AV:=js.flatMap (mH bs b)
theorem fh (bs:List UInt8) (b i:Nat):(mH bs b i).length=4:=rfl
theorem fj (bs:List UInt8) (b:Nat):∀ (js:List Nat),(aH bs b js).length=js.length*4
 | []=>rfl
 | j::js=>by
  have:=fj bs b js
  simp only [aH,List.flatMap_cons,List.length_append,fh,List.length_cons] at this ⊢
  omega
theorem da (bs:List UInt8) (b:Nat) (js:List Nat):(aH bs b js).length/4=js.length:=by rw [fj];omega
theorem jG {bs:List UInt8}{b t i:Nat}(ht:t<4):∀ {js:List Nat}{j:Nat},js[j]? = some i→(aH bs b js)[j*4+t]? = (mH bs b i)[t]?
 | [],j,h=>by simp at h
 | x::js,0,h=>by
  simp only [List.getElem?_cons_zero,Option.some.injEq] at h
  subst h
  simp only [aH,List.flatMap_cons]
  rw [List.getElem?_append_left (by rw [fh];omega)]
  congr 1;omega
 | x::js,j+1,h=>by
  have ih:=jG (bs:=bs) (b:=b) ht (js:=js) (j:=j) (by simpa using h)
  simp only [aH,List.flatMap_cons] at ih ⊢
  rw [List.getElem?_append_right (by rw [fh];omega),fh,← ih]
  congr 1;omega
theorem sd {bs:List UInt8}{b j i:Nat}{js:List Nat}(h:js[j]? = some i):rd (aH bs b js) (j*4+0) 1 false=some (.int .i64 i):=by
 simp only [rd,Bool.false_eq_true,if_false,jG (t:=0) (by omega) h];rfl
theorem Ab {bs:List UInt8}{b j i:Nat}{js:List Nat}(h:js[j]? = some i):rd (aH bs b js) (j*4+3) 1 false=some (.bool (wr bs b i)):=by
 simp only [rd,Bool.false_eq_true,if_false,jG (t:=3) (by omega) h];rfl
theorem i4 (bs:List UInt8) (b:Nat):∀ (js:List Nat),bK (aH bs b js)=true
 | []=>rfl
 | j::js=>by
  have ih:=i4 bs b js
  simp only [aH,List.flatMap_cons,mH,List.cons_append,List.nil_append,bK,AV.flat,Bool.true_and] at ih ⊢
  exact ih
theorem aa7 {bs:List UInt8}{b i:Nat}{js:List Nat}(hn:js.length≤8):ad (ab FN (k+10)) 202 [csl 4 (aH bs b js),.int .i64 i] (.bool (decide (i∈js))):=by
 refine ak YM fun T H E lv=>?_
 repeat (first | refine stN ?_ | intro E)
 refine aW (α:=Nat) (a8.mk (fun j=>j≤js.length∧i∉js.take j) (fun j=>js.length-j)
  (fun j=>[(5,.int .i64 (j:Int)),(4,.bool false),(0,csl 4 (aH bs b js)),(1,.int .i64 i)]) (fun j=>[]))
  (fun _ _ c=>c=4) 0 ⟨Nat.zero_le _,by simp⟩ rfl (show js.length-0<k+9 by omega) ⟨rfl,rfl,rfl,rfl,trivial⟩ trivial ?_
 rintro j lv c T H E ⟨hP,hni⟩ rfl hμ
 have hP:j≤js.length:=hP
 have hni:i∉js.take j:=hni
 clear hμ
 dsimp only
 rcases Nat.lt_or_ge j js.length with hlt | hge
 ·obtain ⟨x,hx⟩:∃ x,js[j]? = some x:=⟨_,List.getElem?_eq_getElem hlt⟩
  have hr:=sd (bs:=bs) (b:=b) hx
  have gi:inB (j:Int) ((aH bs b js).length/4)=some j:=aZ (by rw [da];omega)
  have gl:aj .lss (.int .i64 (j:Int)) (.int .i64 (((aH bs b js).length/4:Nat):Int))=some (.bool true):=mz (by rw [da];omega)
  by_cases he:x=i
  ·have hd:decide (i∈js)=true:=by rw [decide_eq_true_eq,← he];exact List.mem_of_getElem? hx
   repeat (first | refine stN ?_ | intro E)
   apply bz
   repeat (first | refine stN ?_ | intro E)
   rw [hd]
   exact ae (.inr rfl) rfl rfl rfl rfl rfl rfl
  ·repeat (first | refine stN ?_ | intro E)
   refine aB (j+1) ⟨by omega,?_⟩ rfl (show js.length-(j+1)<js.length-j by omega) ⟨rfl,rfl,rfl,rfl,trivial⟩ trivial
   rw [List.take_add_one,hx]
   simp only [Option.toList_some,List.mem_append,List.mem_singleton]
   rintro (h | h)
   ·exact hni h
   ·exact he h.symm
 ·have gl:aj .lss (.int .i64 (j:Int)) (.int .i64 (((aH bs b js).length/4:Nat):Int))=some (.bool false):=mA (by rw [da];omega)
  rw [List.take_of_length_le hge] at hni
  have hd:decide (i∈js)=false:=by rw [decide_eq_false_iff_not];exact hni
  repeat (first | refine stN ?_ | intro E)
  apply aN
  apply aM
  repeat (first | refine stN ?_ | intro E)
  rw [hd]
  exact ae (.inr rfl) rfl rfl rfl rfl rfl rfl
theorem aa8 {bs:List UInt8}{b:Nat}{js:List Nat}(hn:js.length≤8):ad (ab FN (k+10)) 203 [csl 4 (aH bs b js)] (.bool (js.any (wr bs b))):=by
 refine ak YN fun T H E lv=>?_
 repeat (first | refine stN ?_ | intro E)
 refine aW (α:=Nat) (a8.mk (fun j=>j≤js.length∧(js.take j).any (wr bs b)=false) (fun j=>js.length-j)
  (fun j=>[(3,.int .i64 (j:Int)),(2,.bool false),(0,csl 4 (aH bs b js))]) (fun j=>[]))
  (fun _ _ c=>c=4) 0 ⟨Nat.zero_le _,by simp⟩ rfl (show js.length-0<k+9 by omega) ⟨rfl,rfl,rfl,trivial⟩ trivial ?_
 rintro j lv c T H E ⟨hP,hni⟩ rfl hμ
 have hP:j≤js.length:=hP
 have hni:(js.take j).any (wr bs b)=false:=hni
 clear hμ
 dsimp only
 rcases Nat.lt_or_ge j js.length with hlt | hge
 ·obtain ⟨x,hx⟩:∃ x,js[j]? = some x:=⟨_,List.getElem?_eq_getElem hlt⟩
  have hr:=Ab (bs:=bs) (b:=b) hx
  have gi:inB (j:Int) ((aH bs b js).length/4)=some j:=aZ (by rw [da];omega)
  have gl:aj .lss (.int .i64 (j:Int)) (.int .i64 (((aH bs b js).length/4:Nat):Int))=some (.bool true):=mz (by rw [da];omega)
  cases he:wr bs b x
  ·rw [he] at hr
   repeat (first | refine stN ?_ | intro E)
   refine aB (j+1) ⟨by omega,?_⟩ rfl (show js.length-(j+1)<js.length-j by omega) ⟨rfl,rfl,rfl,trivial⟩ trivial
   rw [List.take_add_one,hx]
   simp [hni,he]
  ·have hd:js.any (wr bs b)=true:=List.any_eq_true.2 ⟨x,List.mem_of_getElem? hx,he⟩
   rw [he] at hr
   repeat (first | refine stN ?_ | intro E)
   apply bz
   repeat (first | refine stN ?_ | intro E)
   rw [hd]
   exact ae (.inr rfl) rfl rfl rfl rfl rfl rfl
 ·have gl:aj .lss (.int .i64 (j:Int)) (.int .i64 (((aH bs b js).length/4:Nat):Int))=some (.bool false):=mA (by rw [da];omega)
  rw [List.take_of_length_le hge] at hni
  repeat (first | refine stN ?_ | intro E)
  apply aN
  apply aM
  repeat (first | refine stN ?_ | intro E)
  rw [hni]
  exact ae (.inr rfl) rfl rfl rfl rfl rfl rfl
end Go.Proofs.YtepcejdglbcbkaaGreat
/- What is wrong with a descriptor that follows others. Condition: the memory is valid, the ring is there. -/
namespace Go.Proofs.YtepcejdglbcbkaaGreat
open Go.Abs
variable {k:Nat}
def eu (inn len st at_ sz size fl s wrt:Nat):Nat:=
 if inn=1∨4≤len then 163 else
 if st≠1 then 165 else
 if sz<1∨512<sz∨size<at_+sz then 161 else
 if fl/4%64≠0∨fl/65536≠0∨(fl/2%2≠1∧fl/256%256≠0)∨(fl%2=0∧wrt=1) then 164 else
 if fl/2%2=1∧s≤fl/256%256 then 162 else 0
def bn (x:Bool):Nat:=if x then 1 else 0
def bF (bs:List UInt8) (b s:Nat) (js:List Nat) (i:Nat):Nat:=
 eu (bn (decide (i∈js))) js.length (dw bs b i 3) (dw bs b i 0) (dw bs b i 1) bs.length (dw bs b i 2) s (bn (js.any (wr bs b)))
theorem jH (bs:List UInt8) (b i j:Nat):dw bs b i j<4294967296:=fH _ _
theorem aa9 {bs:List UInt8}{b s i:Nat}{js:List Nat}(h:RV bs b s) (hi:i<s) (hn:js.length≤4):ad (ab FN (k+12)) 178 [aq bs,aL b s,csl 4 (aH bs b js),.int .i64 i] (.int .i64 (bF bs b s js i)):=by
 have hl:=h.m.le
 have hs:=h.hs
 have hle:=h.le
 have hb16:=h.hb
 have c0:ad (ab FN (k+11)) 177 [aq bs,aL b s,.int .i64 i,.int .i64 ((0:Nat):Int)] (.int .i64 (dw bs b i 0)):=(kR (k:=0) h hi (by omega)).fuel (by omega)
 have c1:ad (ab FN (k+11)) 177 [aq bs,aL b s,.int .i64 i,.int .i64 ((1:Nat):Int)] (.int .i64 (dw bs b i 1)):=(kR (k:=0) h hi (by omega)).fuel (by omega)
 have c2:ad (ab FN (k+11)) 177 [aq bs,aL b s,.int .i64 i,.int .i64 ((2:Nat):Int)] (.int .i64 (dw bs b i 2)):=(kR (k:=0) h hi (by omega)).fuel (by omega)
 have c3:ad (ab FN (k+11)) 177 [aq bs,aL b s,.int .i64 i,.int .i64 ((3:Nat):Int)] (.int .i64 (dw bs b i 3)):=(kR (k:=0) h hi (by omega)).fuel (by omega)
 have c159:ad (ab FN (k+11)) 159 [aq bs] (.int .i64 bs.length):=(r6 (k:=0) h.m).fuel (by omega)
 have c202:ad (ab FN (k+11)) 202 [csl 4 (aH bs b js),.int .i64 i] (.bool (decide (i∈js))):=(aa7 (k:=0) (by omega)).fuel (by omega)
 have c203:ad (ab FN (k+11)) 203 [csl 4 (aH bs b js)] (.bool (js.any (wr bs b))):=(aa8 (k:=0) (by omega)).fuel (by omega)
 have hfl:=i4 bs b js
 have w0:=jH bs b i 0;have w1:=jH bs b i 1;have w2:=jH bs b i 2;have w3:=jH bs b i 3
 have hlen:=da bs b js
 have hws:IntKind.i64.wrap (s:Int)=s:=w64 (by omega) (by omega)
 unfold bF
 generalize decide (i∈js)=inn at *
 generalize js.any (wr bs b)=wrt at *
 generalize dw bs b i 0=d0 at *
 generalize dw bs b i 1=d1 at *
 generalize dw bs b i 2=d2 at *
 generalize dw bs b i 3=d3 at *
 cases inn<;>cases wrt
 all_goals
  refine ak Yv fun T H E lv=>?_
  repeat' (first | refine stM ?_ | intro E | (refine stS ?_ ?_<;>intro hc) | refine stB ?_ | (refine stG ?_ ?_<;>intro hc))
  all_goals
   refine ae (.inr rfl) rfl rfl rfl rfl ?_ rfl
   show AV.int _ _=AV.int _ _
   refine congrArg (AV.int .i64) ?_
   have hb1:bn true=1:=rfl
   have hb0:bn false=0:=rfl
   unfold eu
   (repeat' split)<;>omega
end Go.Proofs.YtepcejdglbcbkaaGreat
