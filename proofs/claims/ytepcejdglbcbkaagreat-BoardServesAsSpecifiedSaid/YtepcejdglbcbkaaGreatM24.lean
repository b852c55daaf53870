/- Part of the texts on which proofs about this seat rest: each says what it proves at its own head. No condition. -/
import Derived.Test.YtepcejdglbcbkaaGreatM23
set_option linter.unusedVariables false
set_option linter.unusedSimpArgs false
set_option maxHeartbeats 1000000
set_option maxRecDepth 100000
/- The same lists, and the same memories, are found to be the same. Condition: the memory is valid. -/
namespace Go.Proofs.YtepcejdglbcbkaaGreat
open Go.Abs
variable {k:Nat}
theorem qb:∀ (n:Nat) (xs:List UInt8),xs.length=n→cE (List.replicate n 0) (xs.map ofB) (xs.map ofB)=some true
 | 0,[],_=>rfl
 | n+1,x::xs,h=>by
  have ih:=qb n xs (by simpa using h)
  simp only [List.replicate_succ,List.map_cons,cE,ih,ofB,eqK,if_true,beq_self_eq_true,Bool.and_self]
theorem abf {bs:List UInt8}(h:VM bs):ad (ab FN (k+200)) 77 [aq bs,aq bs] (csl 1 []):=by
 have hl:=h.le
 obtain ⟨P,hP1,hP2,hP3⟩:=h
 have hd:(bs.map ofB).length/128=P:=by rw [List.length_map];omega
 have hmx:(if true=true then max ((P:Nat):Int) P else min ((P:Nat):Int) P)=P:=by simp
 refine ak aaz fun T H E lv=>?_
 repeat (first | refine stN ?_ | intro E)
 refine aW (α:=Nat) (a8.mk (fun j=>j≤P) (fun j=>P-j)
  (fun j=>[(6,.int .i64 (j:Int)),(5,.sl 0 0 []),(2,.ref 0 0),(3,.ref 1 0)]) (fun j=>[(1,[csl 128 (bs.map ofB)]),(0,[csl 128 (bs.map ofB)])]))
  (fun _ _ c=>c=4) 0 (Nat.zero_le _) rfl (show P-0<k+199 by omega) ⟨rfl,rfl,rfl,rfl,trivial⟩ ⟨rfl,rfl,trivial⟩ ?_
 rintro j lv c T H E hP rfl hμ
 have hP:j≤P:=hP
 clear hμ
 dsimp only
 rcases Nat.lt_or_ge j P with hlt | hge
 ·have hr:rd (bs.map ofB) (j*128) 128 true=some (.agg (((bs.drop (j*128)).take 128).map ofB)):=by
   simp only [rd,if_true]
   rw [if_pos (by rw [List.length_map];omega),List.map_take,List.map_drop]
  have he:=qb 128 ((bs.drop (j*128)).take 128) (by rw [List.length_take,List.length_drop];omega)
  repeat (first | refine stN ?_ | intro E)
  apply iX
  ·exact rfl
  ·exact rfl
  ·exact he
  repeat (first | refine stN ?_ | intro E)
  exact aB (j+1) (show j+1≤P by omega) rfl (show P-(j+1)<P-j by omega) ⟨rfl,rfl,rfl,rfl,trivial⟩ ⟨⟨rfl,rfl⟩,⟨rfl,rfl⟩,trivial⟩
 ·repeat (first | refine stN ?_ | intro E)
  apply aN
  apply aM
  repeat (first | refine stN ?_ | intro E)
  exact ae (.inr rfl) rfl rfl rfl rfl rfl rfl
theorem abg {bs:List UInt8}(h:VM bs):ad (ab FN (k+201)) 28 [aq bs,aq bs] (.bool true):=by
 have c77:ad (ab FN (k+200)) 77 [aq bs,aq bs] (csl 1 []):=abf h
 refine ak Z9 fun T H E lv=>?_
 repeat (first | refine stN ?_ | intro E)
 exact ae (.inr rfl) rfl rfl rfl rfl rfl rfl
end Go.Proofs.YtepcejdglbcbkaaGreat
/- Parts cs a list, what covers a byte, and 'apart'. Conditions: the memories are valid and cs long; the parts' ends are numbers. -/
namespace Go.Proofs.YtepcejdglbcbkaaGreat
open Go.Abs
variable {k:Nat}
structure Pt where
 i:Nat
 a:Nat
 n:Nat
 w:Bool
def ptV (p:Pt):List AV:=[.int .i64 p.i,.int .i64 p.a,.int .i64 p.n,.bool p.w]
def aY (l:List Pt):List AV:=l.flatMap ptV
def nB (bs:List UInt8) (b i:Nat):Pt:=⟨i,dw bs b i 0,dw bs b i 1,wr bs b i⟩
theorem gu (bs:List UInt8) (b:Nat) (js:List Nat):aH bs b js=aY (js.map (nB bs b)):=by
 simp only [aH,aY,List.flatMap_map];rfl
theorem gJ (p:Pt):(ptV p).length=4:=rfl
theorem i5:∀ (l:List Pt),(aY l).length=l.length*4
 | []=>rfl
 | p::l=>by
  have:=i5 l
  simp only [aY,List.flatMap_cons,List.length_append,gJ,List.length_cons] at this ⊢
  omega
theorem eQ (l:List Pt):(aY l).length/4=l.length:=by rw [i5];omega
theorem kg {t:Nat}{p:Pt}(ht:t<4):∀ {l:List Pt}{j:Nat},l[j]? = some p→(aY l)[j*4+t]? = (ptV p)[t]?
 | [],j,h=>by simp at h
 | x::l,0,h=>by
  simp only [List.getElem?_cons_zero,Option.some.injEq] at h
  subst h
  simp only [aY,List.flatMap_cons]
  rw [List.getElem?_append_left (by rw [gJ];omega)]
  congr 1;omega
 | x::l,j+1,h=>by
  have ih:=kg (p:=p) ht (l:=l) (j:=j) (by simpa using h)
  simp only [aY,List.flatMap_cons] at ih ⊢
  rw [List.getElem?_append_right (by rw [gJ];omega),gJ,← ih]
  congr 1;omega
theorem By {p:Pt}{j:Nat}{l:List Pt}(h:l[j]? = some p):rd (aY l) (j*4) 4 true=some (.agg (ptV p)):=by
 have hlt:j<l.length:=(List.getElem?_eq_some_iff.1 h).1
 have hl:=i5 l
 simp only [rd,if_true]
 rw [if_pos (by omega)]
 congr 2
 apply List.ext_getElem?
 intro t
 by_cases ht:t<4
 ·rw [List.getElem?_take_of_lt ht,List.getElem?_drop,kg ht h]
 ·rw [List.getElem?_eq_none (by rw [List.length_take];omega),List.getElem?_eq_none (by rw [gJ];omega)]
theorem yq {p:Pt}{j:Nat}{l:List Pt}(h:l[j]? = some p):rd (aY l) (j*4+1) 1 false=some (.int .i64 p.a):=by
 simp only [rd,Bool.false_eq_true,if_false,kg (t:=1) (by omega) h];rfl
theorem sg {p:Pt}{j:Nat}{l:List Pt}(h:l[j]? = some p):rd (aY l) (j*4+2) 1 false=some (.int .i64 p.n):=by
 simp only [rd,Bool.false_eq_true,if_false,kg (t:=2) (by omega) h];rfl
theorem si {p:Pt}{j:Nat}{l:List Pt}(h:l[j]? = some p):rd (aY l) (j*4+3) 1 false=some (.bool p.w):=by
 simp only [rd,Bool.false_eq_true,if_false,kg (t:=3) (by omega) h];rfl
theorem sj:∀ (l:List Pt),bK (aY l)=true
 | []=>rfl
 | p::l=>by
  have ih:=sj l
  simp only [aY,List.flatMap_cons,ptV,List.cons_append,List.nil_append,bK,AV.flat,Bool.true_and] at ih ⊢
  exact ih
theorem kU {α:Type}{l:List α}{f:α→Bool}{i:Nat}{p:α}(h:l[i]? = some p):(l.take (i+1)).any f=((l.take i).any f||f p):=by
 rw [List.take_add_one,h];simp
end Go.Proofs.YtepcejdglbcbkaaGreat
/- Bytes are written, and scattered over parts, by the program. Condition: the memory is valid, the places are there. -/
namespace Go.Proofs.YtepcejdglbcbkaaGreat
open Go.Abs
variable {k:Nat}
theorem kV {α β:Type}{f:β→α→β}{x:β}{l:List α}{i:Nat}{p:α}(h:l[i]? = some p):(l.take (i+1)).foldl f x=f ((l.take i).foldl f x) p:=by
 rw [List.take_add_one,h,List.foldl_append];rfl
theorem VM.of_len {bs cs:List UInt8}(h:VM bs) (he:cs.length=bs.length):VM cs:=by
 obtain ⟨p,h1,h2,h3⟩:=h;exact ⟨p,h1,h2,by omega⟩
end Go.Proofs.YtepcejdglbcbkaaGreat
/- What marks and scattered bytes change, and what is known of a request that is taken. No condition but that the places are there. -/
namespace Go.Proofs.YtepcejdglbcbkaaGreat
open Go.Abs
theorem Zi {bs cs:List UInt8}{i j:Nat}(h:bs[i]? = cs[j]?):bt bs i=bt cs j:=by
 simp only [bt,List.getD_eq_getElem?_getD,h]
theorem vY {bs ys:List UInt8}{a t:Nat}(h:a+ys.length≤bs.length) (ht:t<a∨a+ys.length≤t):bt (bD bs a ys) t=bt bs t:=by
 apply Zi
 rw [nA h]
 by_cases h1:t<a
 ·rw [if_pos h1]
 ·rw [if_neg h1,if_neg (by omega)]
theorem jU {b w i t:Nat}{bs:List UInt8}(h:b+16*i+16≤bs.length) (ht:t<b+16*i+12∨b+16*i+16≤t):bt (bj b w bs i) t=bt bs t:=
 vY (by rw [kS];omega) (by rw [kS];omega)
theorem na {b w t:Nat}:∀ {js:List Nat}{bs:List UInt8},(∀ j∈js,b+16*j+16≤bs.length)→(∀ j∈js,t<b+16*j+12∨b+16*j+16≤t)→bt (bm bs b w js) t=bt bs t
 | [],_,_,_=>rfl
 | j::js,bs,h1,h2=>by
  have e:=h1 j List.mem_cons_self
  refine (na (js:=js) (bs:=bj b w bs j) (fun i hi=>?_) fun i hi=>h2 i (List.mem_cons_of_mem _ hi)).trans (jU e (h2 j List.mem_cons_self))
  rw [dn e];exact h1 i (List.mem_cons_of_mem _ hi)
def st (b j:Nat):Pt:=⟨0,b+16*j+12,4,false⟩
structure WOK (bs:List UInt8) (b s:Nat) (js:List Nat):Prop where
 len:js.length≤4
 one:∀ j∈js,j<s∧dw bs b j 3=1∧1≤dw bs b j 1∧dw bs b j 1≤512∧dw bs b j 0+dw bs b j 1≤bs.length
 nd:js.Nodup
 ord:js.Pairwise fun x y=>wr bs b x=true→wr bs b y=true
theorem WOK.snoc {bs:List UInt8}{b s i:Nat}{js:List Nat}(h:WOK bs b s js) (hi:i<s) (he:bF bs b s js i=0):WOK bs b s (js++[i]):=by
 obtain ⟨e1,e2,e3,e4,e5,e6,_⟩:=jr he
 refine ⟨by rw [List.length_append,List.length_singleton];omega,fun j hj=>?_,?_,?_⟩
 ·rcases List.mem_append.1 hj with hh | hh
  ·exact h.one j hh
  ·rw [List.mem_singleton] at hh;subst hh;exact ⟨hi,e3,e4,e5,e6⟩
 ·rw [List.nodup_append]
  exact ⟨h.nd,by simp,fun x hx y hy=>by rw [List.mem_singleton] at hy;subst hy;exact fun hxy=>e1 (hxy▸hx)⟩
 ·rw [List.pairwise_append]
  refine ⟨h.ord,by simp,fun x hx y hy hw=>?_⟩
  rw [List.mem_singleton] at hy;subst hy
  have ha:js.any (wr bs b)=true:=List.any_eq_true.2 ⟨x,hx,hw⟩
  unfold bF eu at he
  rw [ha] at he
  have hb1:bn true=1:=rfl
  simp only [wr,decide_eq_true_eq]
  split at he<;>try omega
  split at he<;>try omega
  split at he<;>try omega
  split at he<;>omega
theorem uk {bs:List UInt8}{b s:Nat}:∀ (f:Nat) (js:List Nat) (i:Nat),WOK bs b s js→i<s→(walk bs b s f js i).2=0→WOK bs b s (walk bs b s f js i).1
 | 0,js,i,h,_,_=>h
 | f+1,js,i,h,hi,hz=>by
  unfold walk at hz ⊢
  split at hz
  ·next he=>exact absurd hz he
  ·next he=>
   have he:=Decidable.not_not.1 he
   split at hz
   ·next hm=>
    rw [if_neg (by rw [he];simp),if_pos hm]
    exact uk f _ _ (h.snoc hi he) ((jr he).2.2.2.2.2.2 hm) hz
   ·next hm=>
    rw [if_neg (by rw [he];simp),if_neg hm]
    exact h.snoc hi he
theorem sk {bs:List UInt8}{b s:Nat}:∀ (f:Nat) (js:List Nat) (i:Nat),∃ t,(walk bs b s f js i).1=js++t
 | 0,js,i=>⟨[],by simp [walk]⟩
 | f+1,js,i=>by
  unfold walk
  split
  ·exact ⟨[],by simp⟩
  ·split
   ·obtain ⟨t,ht⟩:=sk (bs:=bs) (b:=b) (s:=s) f (js++[i]) (dw bs b i 2/256%256)
    exact ⟨i::t,by rw [ht];simp⟩
   ·exact ⟨[i],rfl⟩
theorem EJ (bs:List UInt8) (b s:Nat):WOK bs b s []:=⟨by simp,by simp,by simp,by simp⟩
theorem dp {bs:List UInt8}{b s i:Nat}(hi:i<s) (h:a7 bs b s i=0):WOK bs b s (bN bs b s i)∧aK bs b s i=bm bs b 2 (bN bs b s i)∧(bN bs b s i)[0]? = some i:=by
 obtain ⟨W,hW⟩:∃ W,W=walk bs b s 5 [] i:=⟨_,rfl⟩
 have h1:=uk 5 [] i (EJ bs b s) hi
 have h2:W.2=0→W.1[0]? = some i:=by
  intro hz
  rw [hW] at hz ⊢
  unfold walk at hz ⊢
  split at hz
  ·next he=>exact absurd hz he
  ·next he=>
   rw [if_neg he]
   split at hz
   ·next hm=>
    rw [if_pos hm]
    obtain ⟨t,ht⟩:=sk (bs:=bs) (b:=b) (s:=s) 4 ([]++[i]) (dw bs b i 2/256%256)
    rw [ht];simp
   ·next hm=>rw [if_neg hm];simp
 unfold a7 at h
 unfold bN aK
 rw [← hW] at h h1 ⊢
 unfold tE at h
 unfold tL tM
 rw [if_pos h,if_pos h]
 exact ⟨h1 h,rfl,h2 h⟩
theorem gY {bs:List UInt8}{b s i:Nat}(h:a7 bs b s i≠0):bN bs b s i=[]∧aK bs b s i=(if dw bs b i 3=1 then bj b (4+(a7 bs b s i-160)) bs i else bs)∧161≤a7 bs b s i∧a7 bs b s i≤165:=by
 have h3:∀ (f:Nat) (js:List Nat) (j:Nat),(walk bs b s f js j).2=0∨(161≤(walk bs b s f js j).2∧(walk bs b s f js j).2≤165):=by
  intro f
  induction f with
  | zero=>intro js j;exact .inl rfl
  | succ f ih=>
   intro js j
   unfold walk
   split
   ·exact oI _ _ _ _ _ _ _ _ _
   ·split
    ·exact ih _ _
    ·exact .inl rfl
 have h4:=h3 5 [] i
 obtain ⟨W,hW⟩:∃ W,W=walk bs b s 5 [] i:=⟨_,rfl⟩
 unfold a7 at h ⊢
 unfold bN aK
 rw [← hW] at h h4 ⊢
 unfold tE at h ⊢
 unfold tL tM
 rw [if_neg h,if_neg h]
 exact ⟨rfl,rfl,by omega,by omega⟩
end Go.Proofs.YtepcejdglbcbkaaGreat
/- Bytes are read: by the program, whatever table it is looked up in, and by the reference. Condition: the memory is valid, the bytes are there. -/
namespace Go.Proofs.YtepcejdglbcbkaaGreat
open Go.Abs
variable {k:Nat}{X:FuncId→Option cr}
theorem Zj (x34:X 157=some (.code f157)) {bs:List UInt8}(h:VM bs):ad (ab X (k+1)) 157 [aq bs] (.int .i64 bs.length):=by
 have hl:=h.le
 refine ak x34 fun T H E lv=>?_
 repeat (first | refine stN ?_ | intro E)
 refine ae (.inr rfl) rfl rfl rfl rfl ?_ rfl
 show AV.int _ _=_
 rw [List.length_map,w64 (by omega) (by omega)]
 congr 1;omega
theorem yr {bs:List UInt8}{q r m:Nat}(h:r+m≤128):(((bs.drop (q*128)).take 128).drop r).take m=(bs.drop (q*128+r)).take m:=by
 rw [List.drop_take,List.drop_drop,List.take_take]
 congr 1;omega
theorem Bz (x34:X 157=some (.code f157)) (x37:X 172=some (.code f172)) {bs:List UInt8}{a n:Nat}(h:VM bs) (hb:a+n≤bs.length):ad (ab X (k+9000)) 172 [aq bs,.int .i64 a,.int .i64 n] (.tup [.str ((bs.drop a).take n),.bool true]):=by
 have hl:=h.le
 have c157:ad (ab X (k+8999)) 157 [aq bs] (.int .i64 bs.length):=(Zj (k:=0) x34 h).fuel (by omega)
 refine ak x37 fun T H E lv=>?_
 repeat (first | refine stN ?_ | intro E)
 apply A0
 ·exact rfl
 ·exact rfl
 ·exact ⟨by decide,by omega,by simp only [Int.toNat_natCast,room];omega,by decide,rfl,by decide,rfl⟩
 intro lv' l1 l2
 repeat (first | refine stN ?_ | intro E)
 have hA:(bs.map ofB).length=bs.length:=List.length_map ..
 refine aW (α:=Nat×Nat) (a8.mk (fun p=>p.1≤n) (fun p=>n-p.1)
  (fun p=>[(8,.sl (p.2+4) 1 (((bs.drop a).take p.1).map ofB)),(3,.ref 0 0),(2,.int .i64 (n:Int)),(1,.int .i64 (a:Int))])
  (fun p=>[(0,[csl 128 (bs.map ofB)])]))
  (fun p lv c=>4≤c∧p.2+4<c∧lv (p.2+4)=true) (0,0) (Nat.zero_le _) ⟨by omega,by show 0+4<5;omega,l1⟩ (show n-0<k+8999 by omega) ⟨rfl,rfl,rfl,rfl,trivial⟩ ⟨rfl,trivial⟩ ?_
 rintro ⟨j,br⟩ lv c T H E hP ⟨hc4,hc5,hlv⟩ hμ
 have hP:j≤n:=hP
 have hc5:br+4<c:=hc5
 clear hμ
 dsimp only at hlv ⊢
 have hjl:((bs.drop a).take j).length=j:=by rw [List.length_take,List.length_drop];omega
 have hjm:(((bs.drop a).take j).map ofB).length/1=j:=by rw [List.length_map,hjl,Nat.div_one]
 rcases Nat.lt_or_ge j n with hlt | hge
 ·have hq:rd (bs.map ofB) ((a+j)/128*128) 128 true=some (.agg (((bs.drop ((a+j)/128*128)).take 128).map ofB)):=by
   simp only [rd,if_true]
   rw [if_pos (by omega),List.map_take,List.map_drop]
  have hp0:(a+j)%128≠128:=by omega
  have hpl:(((bs.drop ((a+j)/128*128)).take 128).map ofB).length=128:=by rw [List.length_map,List.length_take,List.length_drop];omega
  repeat (first | refine stN ?_ | intro E)
  rw [hjm]
  repeat (first | refine stN ?_ | intro E)
  apply zN
  ·exact rfl
  ·exact rfl
  ·exact rfl
  ·exact hpl
  ·exact rfl
  ·exact rfl
  repeat (first | refine stN ?_ | intro E)
  rw [hjm]
  obtain ⟨m,hm⟩:∃ m,m=min (128-(a+j)%128) (n-j):=⟨_,rfl⟩
  rw [← hm]
  apply xT
  ·exact rfl
  ·exact rfl
  ·exact cx (show m≤_ by omega)
  ·omega
  have e1:((((bs.drop ((a+j)/128*128)).take 128).map ofB).drop (0+(a+j)%128*1)).take (m*1)=((bs.drop (a+j)).take m).map ofB:=by
   rw [← List.map_drop,← List.map_take,Nat.mul_one,Nat.mul_one,Nat.zero_add,yr (by omega),show (a+j)/128*128+(a+j)%128=a+j by omega]
  have e2:((bs.drop a).take j).map ofB++((bs.drop (a+j)).take m).map ofB=((bs.drop a).take (j+m)).map ofB:=by
   rw [← List.map_append,List.take_add,List.drop_drop]
  have hml:((bs.drop (a+j)).take m).length=m:=by rw [List.length_take,List.length_drop];omega
  apply FE
  ·exact rfl
  ·exact rfl
  ·exact rfl
  ·exact e1
  ·rw [hpl];omega
  ·exact jq _
  ·intro e;rw [List.map_eq_nil_iff] at e;rw [e] at hml;simp at hml;omega
  ·exact .inr ⟨by omega,hc5,hlv,rfl⟩
  ·exact ⟨by omega,by omega⟩
  ·rw [List.length_map,List.length_map,hjl,hml,room];omega
  intro lv1 m1 m2
  rw [e2]
  obtain ⟨c',rfl⟩:∃ c',c=c'+4:=⟨c-4,by omega⟩
  repeat (first | refine stN ?_ | intro E)
  exact aB (j+m,c') (show j+m≤n by omega) ⟨by omega,by show c'+4<_;omega,m1⟩ (show n-(j+m)<n-j by omega) ⟨rfl,rfl,rfl,rfl,trivial⟩ ⟨⟨rfl,rfl⟩,trivial⟩
 ·obtain rfl:j=n:=by omega
  repeat (first | refine stN ?_ | intro E)
  apply aN
  apply aM
  repeat (first | refine stN ?_ | intro E)
  apply my
  ·exact rfl
  ·exact .inl rfl
  repeat (first | refine stN ?_ | intro E)
  exact ae (.inr rfl) rfl rfl rfl rfl rfl rfl
theorem Sp {bs:List UInt8}{a n:Nat}(h:VM bs) (hb:a+n≤bs.length):ad (ab FN (k+9000)) 184 [aq bs,.int .i64 a,.int .i64 n] (.agg [.str ((bs.drop a).take n),.bool true]):=by
 have hl:=h.le
 have c159:ad (ab FN (k+8999)) 159 [aq bs] (.int .i64 bs.length):=(r6 (k:=0) h).fuel (by omega)
 refine ak YA fun T H E lv=>?_
 repeat (first | refine stN ?_ | intro E)
 refine aW (α:=Nat×Nat×Nat) (a8.mk (fun p=>p.1≤n) (fun p=>n-p.1)
  (fun p=>[(8,.int .i64 (p.1:Int)),(7,.sl p.2.1 p.2.2 (((bs.drop a).take p.1).map ofB)),(6,.ref 1 0),(3,.ref 0 0),(2,.int .i64 (n:Int)),(1,.int .i64 (a:Int))])
  (fun p=>[(1,[.str [],.bool false]),(0,[csl 128 (bs.map ofB)])]))
  (fun p lv c=>4≤c∧LA 1 lv c p.2.1 p.2.2 (((bs.drop a).take p.1).map ofB)) (0,0,0) (Nat.zero_le _) ⟨Nat.le_refl _,LA.nil⟩ (show n-0<k+8999 by omega) ⟨rfl,rfl,rfl,rfl,rfl,rfl,trivial⟩ ⟨rfl,rfl,trivial⟩ ?_
 rintro ⟨j,br,z⟩ lv c T H E hP ⟨hc4,hL⟩ hμ
 have hP:j≤n:=hP
 clear hμ
 dsimp only at hL ⊢
 have hjl:((bs.drop a).take j).length=j:=by rw [List.length_take,List.length_drop];omega
 rcases Nat.lt_or_ge j n with hlt | hge
 ·have c204:ad (ab FN (k+8999)) 204 [aq bs,.int .i64 ((a+j:Nat):Int)] (.int .u8 (bt bs (a+j))):=(r7 (k:=0) h (by omega)).fuel (by omega)
  have e2:((bs.drop a).take j).map ofB++[.int .u8 (bt bs (a+j):Nat)]=((bs.drop a).take (j+1)).map ofB:=by
   obtain ⟨u,hu⟩:∃ u,bs[a+j]? = some u:=⟨_,List.getElem?_eq_getElem (by omega)⟩
   have hb:bt bs (a+j)=u.toNat:=by simp [bt,List.getD_eq_getElem?_getD,hu]
   rw [List.take_add_one,List.getElem?_drop,hu,List.map_append,hb];rfl
  obtain ⟨c',rfl⟩:∃ c',c=c'+4:=⟨c-4,by omega⟩
  repeat (first | refine stN ?_ | intro E)
  apply l7
  ·exact rfl
  ·exact rfl
  ·exact rfl
  ·exact hL
  ·exact ⟨by omega,by omega⟩
  ·rw [List.length_map,hjl,room];show (j+1)/1*1≤_;omega
  intro lv1 m1 m2
  rw [e2]
  repeat (first | refine stN ?_ | intro E)
  exact aB (j+1,c'+4,1) (show j+1≤n by omega) ⟨by omega,LA.mine (by omega) m1⟩ (show n-(j+1)<n-j by omega) ⟨rfl,rfl,rfl,rfl,rfl,rfl,trivial⟩ ⟨⟨rfl,rfl⟩,⟨rfl,rfl⟩,trivial⟩
 ·obtain rfl:j=n:=by omega
  repeat (first | refine stN ?_ | intro E)
  apply aN
  apply aM
  repeat (first | refine stN ?_ | intro E)
  apply my
  ·exact rfl
  ·rcases hL with ⟨_,h2,h3⟩ | ⟨_,_,_,h2⟩
   ·exact .inr ⟨h2,by simpa using h3⟩
   ·exact .inl h2
  repeat (first | refine stN ?_ | intro E)
  exact ae (.inr rfl) rfl rfl rfl rfl rfl rfl
end Go.Proofs.YtepcejdglbcbkaaGreat
/- What the parts that are read bring: by the program, by the reference. Condition: the memory is valid, the parts that are read lie in it. -/
namespace Go.Proofs.YtepcejdglbcbkaaGreat
open Go.Abs
variable {k:Nat}
def gpO (p:Pt):GP:=⟨p.i,p.a,p.n,p.w⟩
def rdP (bs:List UInt8) (p:Pt):List UInt8:=if p.w then [] else (bs.drop p.a).take p.n
def ew (bs:List UInt8) (l:List Pt):List UInt8:=l.flatMap (rdP bs)
def InR (n:Nat) (l:List Pt):Prop:=∀ p∈l,p.w=false→p.a+p.n≤n
theorem qc:∀ (l:List Pt),iE (aY l)=some (l.map gpO)
 | []=>rfl
 | p::l=>by
  have ih:=qc l
  have e:aY (p::l) = .int .i64 p.i :: .int .i64 p.a :: .int .i64 p.n :: .bool p.w::aY l:=rfl
  rw [e]
  unfold iE
  rw [if_pos ⟨by omega,by omega,by omega⟩,ih]
  simp [gpO]
theorem Af {F:aE}{f:FuncId}{vs:List AV}{s:List UInt8}{b:Bool}(h:ad F f vs (.tup [.str s,.bool b])):∃ hs',F f vs h0 (fun _=>none)=some (.tup [.str s,.bool b],hs'):=by
 have h1:=h.eq
 unfold dS evP at h1
 split at h1
 ·next r hs he=>
  split at h1
  ·simp only [Option.map_some,Option.some.injEq] at h1
   refine ⟨hs,?_⟩
   rw [he,oc] at *
   have:r = .tup [.str s,.bool b]:=by
    clear he
    cases r with
    | tup vs=>
     simp only [aA,AV.tup.injEq] at h1
     rcases vs with _ | ⟨x,_ | ⟨y,_ | ⟨z,t⟩⟩⟩<;>simp only [List.map_cons,List.map_nil,List.cons.injEq,reduceCtorEq,and_true,and_false] at h1
     obtain ⟨hx,hy⟩:=h1
     have ex:x = .str s:=by
      cases x<;>simp only [aF,reduceCtorEq] at hx<;>first | exact hx | (split at hx<;>simp [csl] at hx)
     have ey:y = .bool b:=by
      cases y<;>simp only [aF,reduceCtorEq] at hy<;>first | exact hy | (split at hy<;>simp [csl] at hy)
     rw [ex,ey]
    | sl br sz xs=>
     simp only [aA,aF] at h1
     split at h1<;>simp [csl] at h1
    | _=>simp [aA,aF] at h1
   rw [this]
  ·cases h1
 ·cases h1
theorem yu {bs:List UInt8}{p:Pt}(h:VM bs) (hw:p.w=false) (hp:p.a+p.n≤bs.length):mD (ab FN0 20000) (csl 128 (bs.map ofB)) (gpO p)=some (rdP bs p):=by
 obtain ⟨hs',e⟩:=Af (Bz (k:=11000) XG XH h hp)
 unfold mD rdP
 rw [show ab FN0 20000 172 [.agg [csl 128 (bs.map ofB)],.int .i64 ((gpO p).a:Nat),.int .i64 ((gpO p).n:Nat)] h0 (fun _=>none)=some (.tup [.str ((bs.drop p.a).take p.n),.bool true],hs') from e]
 simp [hw]
theorem Ag {f:FuncId}{p:Prim}{vs:List AV}{s:List UInt8}{hs:Hs}(hf:FN f=some (.prim p)) (h:p vs h0 (fun _=>none)=some (.str s,hs)):ad (ab FN (k+1)) f vs (.str s):=by
 refine ⟨?_⟩
 unfold dS evP
 rw [sY hf,h]
 rfl
theorem me {α β:Type}{f g:α→List β}:∀ {l:List α},(∀ x∈l,f x=g x)→l.flatMap f=l.flatMap g
 | [],_=>rfl
 | x::l,h=>by rw [List.flatMap_cons,List.flatMap_cons,h x List.mem_cons_self,me fun y hy=>h y (List.mem_cons_of_mem _ hy)]
theorem abh {bs:List UInt8}{l:List Pt}(h:VM bs) (hin:InR bs.length l) (hn:l.length≤1000):ad (ab FN (k+1)) 123 [aq bs,csl 4 (aY l)] (.str (ew bs l)):=by
 have hl:=h.le
 have hsz:∀ p∈l,p.w=false→(rdP bs p).length≤1000000:=by
  intro p hp hw
  unfold rdP
  simp only [hw,Bool.false_eq_true,if_false,List.length_take,List.length_drop]
  omega
 have hok:okG (ab FN0 20000) (csl 128 (bs.map ofB)) (l.map gpO)=true:=by
  unfold okG
  rw [List.all_eq_true]
  intro q hq
  obtain ⟨p,hp,rfl⟩:=List.mem_map.1 hq
  cases hw:p.w with
  | true=>simp [gpO,hw]
  | false=>
   rw [yu h hw (hin p hp hw)]
   have:=hsz p hp hw
   simp [this]
 have hg:gH (jE (ab FN0 20000) (csl 128 (bs.map ofB))) (l.map gpO)=ew bs l:=by
  unfold gH ew
  rw [List.flatMap_map]
  have:∀ p∈l,(if (gpO p).w then [] else jE (ab FN0 20000) (csl 128 (bs.map ofB)) (gpO p))=rdP bs p:=by
   intro p hp
   cases hw:p.w with
   | true=>simp [gpO,rdP,hw]
   | false=>
    unfold jE
    rw [yu h hw (hin p hp hw)]
    simp [gpO,hw]
  exact me this
 refine Ag XI (hs:=h0) ?_
 show (match iE (aY l) with
  | some l'=>if (csl 128 (bs.map ofB)).flat=true∧l'.length≤1000∧okG (ab FN0 20000) (csl 128 (bs.map ofB)) l'=true∧csz 4 (aY l)=csz 4 (aY l) then some (AV.str (gH (jE (ab FN0 20000) (csl 128 (bs.map ofB))) l'),h0) else none
  | none=>none)=_
 rw [qc]
 simp only [hok,hg]
 rw [if_pos ⟨rfl,by rw [List.length_map];exact hn,trivial,trivial⟩]
theorem EK {x y:List UInt8}(h:x.length+y.length≤4611686018427387904):aj .add (.str x) (.str y)=some (.str (x++y)):=by
 simp only [aj,kh]
 rw [if_pos (show _≤lx by unfold lx;omega)]
theorem nc {bs:List UInt8}:∀ {l:List Pt},(ew bs l).length≤l.length*bs.length
 | []=>by simp [ew]
 | p::l=>by
  have ih:=nc (bs:=bs) (l:=l)
  have e:(ew bs (p::l))=rdP bs p++ew bs l:=by simp [ew]
  have h1:(rdP bs p).length≤bs.length:=by
   unfold rdP
   split
   ·simp
   ·rw [List.length_take,List.length_drop];omega
  rw [e,List.length_append,List.length_cons,Nat.succ_mul]
  omega
theorem yv {bs:List UInt8}{l:List Pt}{i:Nat}{p:Pt}(h:l[i]? = some p):ew bs (l.take (i+1))=ew bs (l.take i)++rdP bs p:=by
 unfold ew
 rw [List.take_add_one,h]
 simp
theorem abi {bs:List UInt8}{l:List Pt}(h:VM bs) (hin:InR bs.length l) (hn:l.length≤100):ad (ab FN (k+9200)) 137 [aq bs,csl 4 (aY l)] (.str (ew bs l)):=by
 have hl:=h.le
 have hfl:=sj l
 have hdv:=eQ l
 refine ak X9 fun T H E lv=>?_
 repeat (first | refine stN ?_ | intro E)
 refine aW (α:=Nat) (a8.mk (fun i=>i≤l.length) (fun i=>l.length-i)
  (fun i=>[(6,.int .i64 (i:Int)),(5,.str (ew bs (l.take i))),(2,.ref 0 0),(1,csl 4 (aY l))])
  (fun i=>[(0,[csl 128 (bs.map ofB)])]))
  (fun _ _ c=>c=4) 0 (Nat.zero_le _) rfl (show l.length-0<k+9199 by omega) ⟨rfl,rfl,rfl,rfl,trivial⟩ ⟨rfl,trivial⟩ ?_
 rintro i lv c T H E hP rfl hμ
 have hP:i≤l.length:=hP
 clear hμ
 dsimp only
 rcases Nat.lt_or_ge i l.length with hi | hi
 ·obtain ⟨p,hp⟩:∃ p,l[i]? = some p:=⟨_,List.getElem?_eq_getElem hi⟩
  have hpb:=hin p (List.mem_of_getElem? hp)
  have r1:=yq hp
  have r2:=sg hp
  have r3:=si hp
  have gi:inB (i:Int) ((aY l).length/4)=some i:=aZ (by rw [eQ];omega)
  have hgt:=yv (bs:=bs) hp
  have hgl:=nc (bs:=bs) (l:=l.take i)
  obtain ⟨pi,pa,pn,pw⟩:=p
  dsimp only at hpb r1 r2 r3
  cases pw
  ·have hpb:=hpb rfl
   have c184:ad (ab FN (k+9199)) 184 [aq bs,.int .i64 pa,.int .i64 pn] (.agg [.str ((bs.drop pa).take pn),.bool true]):=(Sp (k:=0) h hpb).fuel (by omega)
   have hmul:(l.take i).length*bs.length≤100*8192:=Nat.mul_le_mul (by rw [List.length_take];omega) hl.1
   have fa:aj .add (.str (ew bs (l.take i))) (.str ((bs.drop pa).take pn))=some (.str (ew bs (l.take i)++(bs.drop pa).take pn)):=EK (by rw [List.length_take,List.length_drop];omega)
   have e:rdP bs ⟨pi,pa,pn,false⟩=(bs.drop pa).take pn:=rfl
   rw [e] at hgt
   repeat (first | refine stN ?_ | intro E)
   exact aB (i+1) (show i+1≤l.length by omega) rfl (show l.length-(i+1)<l.length-i by omega) ⟨rfl,by rw [hgt];rfl,rfl,rfl,trivial⟩ ⟨⟨rfl,rfl⟩,trivial⟩
  ·have e:rdP bs ⟨pi,pa,pn,true⟩=[]:=rfl
   rw [e,List.append_nil] at hgt
   repeat (first | refine stN ?_ | intro E)
   exact aB (i+1) (show i+1≤l.length by omega) rfl (show l.length-(i+1)<l.length-i by omega) ⟨rfl,by rw [hgt];rfl,rfl,rfl,trivial⟩ ⟨⟨rfl,rfl⟩,trivial⟩
 ·rw [List.take_of_length_le hi]
  repeat (first | refine stN ?_ | intro E)
  apply aN
  apply aM
  repeat (first | refine stN ?_ | intro E)
  exact ae (.inr rfl) rfl rfl rfl rfl rfl rfl
end Go.Proofs.YtepcejdglbcbkaaGreat
/- Arithmetic of 64-bit words and of bytes; calls of function values. No condition. -/
namespace Go.Proofs.YtepcejdglbcbkaaGreat
open Go.Abs
theorem pj (H:Hp) (sz:Nat) (xs:List AV):src H sz (csl sz xs)=some xs:=by
 cases xs with
 | nil=>exact if_pos (.inr rfl)
 | cons x xs=>exact if_pos (.inl rfl)
theorem Sq {F:aE}{k:Nat}{c:IC}{S:St}{Q Q':Ex→St→Prop}(h:Wp F k c S Q) (hq:∀ e S,Q e S→Q' e S):Wp F k c S Q':=by
 obtain ⟨e,S',h1,h2⟩:=h.ex
 exact ⟨e,S',h1,hq e S' h2⟩
theorem Ah {fn:IFn}{n:Nat}{P P':AV→Hs→Prop}{e:Ex}{S:St}(h:jR fn n P e S) (hp:∀ r hs,P r hs→P' r hs):jR fn n P' e S:=by
 obtain ⟨h1,r,hs,h2,h3⟩:=h
 exact ⟨h1,r,hs,h2,hp r hs h3⟩
end Go.Proofs.YtepcejdglbcbkaaGreat
