/- Part of the texts on which proofs about this seat rest: each says what it proves at its own head. No condition. -/
import Derived.Test.YtepcejdglbcbkaaGreatM24
set_option linter.unusedVariables false
set_option linter.unusedSimpArgs false
set_option maxRecDepth 100000
/- Rows of records in cells, and how requests and block devices lie in cells. No condition. -/
namespace Go.Proofs.YtepcejdglbcbkaaGreat
open Go.Abs
variable {k:Nat}
section
variable {α:Type}{f:α→List AV}{m:Nat}{l:List α}{j t:Nat}{p:α}
theorem eC (hf:∀ x,(f x).length=m):∀ (l:List α),(l.flatMap f).length=l.length*m
 | []=>by simp
 | x::l=>by rw [List.flatMap_cons,List.length_append,hf,eC hf l,List.length_cons,Nat.add_mul,Nat.one_mul,Nat.add_comm]
theorem yw (hf:∀ x,(f x).length=m) (h0:0<m) (l:List α):(l.flatMap f).length/m=l.length:=by
 rw [eC hf,Nat.mul_div_cancel _ h0]
theorem sm (hf:∀ x,(f x).length=m) (ht:t<m):∀ {l:List α}{j:Nat},l[j]? = some p→(l.flatMap f)[j*m+t]? = (f p)[t]?
 | [],j,h=>by simp at h
 | x::l,0,h=>by
  simp only [List.getElem?_cons_zero,Option.some.injEq] at h
  subst h
  rw [List.flatMap_cons,List.getElem?_append_left (by rw [hf];omega)]
  congr 1;omega
 | x::l,j+1,h=>by
  have ih:=sm hf ht (l:=l) (j:=j) (by simpa using h)
  rw [List.flatMap_cons,List.getElem?_append_right (by rw [hf,Nat.add_mul];omega),hf,← ih]
  congr 1;rw [Nat.add_mul];omega
theorem EL (hf:∀ x,(f x).length=m) (h:l[j]? = some p):((l.flatMap f).drop (j*m)).take m=f p:=by
 have hlt:j<l.length:=(List.getElem?_eq_some_iff.1 h).1
 have hl:=eC hf l
 apply List.ext_getElem?
 intro t
 by_cases ht:t<m
 ·rw [List.getElem?_take_of_lt ht,List.getElem?_drop,sm hf ht h]
 ·rw [List.getElem?_eq_none (by rw [List.length_take];omega),List.getElem?_eq_none (by rw [hf];omega)]
theorem gK (hf:∀ x,(f x).length=m) (h:l[j]? = some p):rd (l.flatMap f) (j*m) m true=some (.agg (f p)):=by
 have hlt:j<l.length:=(List.getElem?_eq_some_iff.1 h).1
 have hl:=eC hf l
 have h2:(j+1)*m≤l.length*m:=Nat.mul_le_mul_right _ hlt
 rw [Nat.add_mul,Nat.one_mul] at h2
 simp only [rd,if_true]
 rw [if_pos (by omega),EL hf h]
theorem il (hf:∀ x,(f x).length=m) (ht:t<m) (h:l[j]? = some p) {v:AV}(hv:(f p)[t]? = some v) (hl:v.leaf=true):rd (l.flatMap f) (j*m+t) 1 false=some v:=by
 simp only [rd,Bool.false_eq_true,if_false,sm hf ht h,hv,hl];rfl
end
structure PI where
 i:Int
 a:Int
 n:Int
 w:Bool
def piV (p:PI):List AV:=[.int .i64 p.i,.int .i64 p.a,.int .i64 p.n,.bool p.w]
def bf (l:List PI):List AV:=l.flatMap piV
theorem bX (p:PI):(piV p).length=4:=rfl
theorem cq (l:List PI):(bf l).length/4=l.length:=yw bX (by omega) l
def Pt.toI (p:Pt):PI:=⟨p.i,p.a,p.n,p.w⟩
theorem so (l:List Pt):bf (l.map Pt.toI)=aY l:=by simp only [bf,aY,List.flatMap_map];rfl
structure RI where
 b:Nat
 s:Nat
 q:Int
 w:Bool
 l:List PI
def riV (r:RI):List AV:=[.int .u32 r.b,.int .u32 r.s,.int .i64 r.q,.bool r.w,csl 4 (bf r.l)]
def bp (l:List RI):List AV:=l.flatMap riV
theorem fI (r:RI):(riV r).length=5:=rfl
theorem dy (l:List RI):(bp l).length/5=l.length:=yw fI (by omega) l
structure BI where
 b:Nat
 s:Nat
 at':Int
 st:Int
 d:List UInt8
 f:List RI
def biC (x:BI):List AV:=[.int .u32 x.b,.int .u32 x.s,.int .i64 x.at',.int .i64 x.st,csl 128 (x.d.map ofB),csl 5 (bp x.f)]
def biV (x:BI):AV:=.agg (biC x)
structure DI where
 m:List UInt8
 v:Nat
 r:Bool
 ok:Bool
def diC (x:DI):List AV:=[csl 128 (x.m.map ofB),.int .u32 x.v,.sl 1 0 [],.bool x.r,.bool x.ok]
def diV (x:DI):AV:=.agg (diC x)
def smI (l:List PI):Int:=l.foldl (fun n p=>n+p.n) 0
def dO (l:List PI) (w:Bool):Nat:=if l=[]∨128<smI l then 161 else if l.any (fun p=>p.w==w) then 164 else 0
def okN (l:List PI):Prop:=∀ p∈l,1≤p.n∧p.n≤4294967296
theorem kW:∀ {l:List PI}{n:Int},okN l→n+l.length≤l.foldl (fun n p=>n+p.n) n∧l.foldl (fun n p=>n+p.n) n≤n+l.length*4294967296
 | [],n,_=>by simp
 | p::l,n,h=>by
  have h1:=h p List.mem_cons_self
  have ih:=kW (l:=l) (n:=n+p.n) fun q hq=>h q (List.mem_cons_of_mem _ hq)
  simp only [List.foldl_cons,List.length_cons]
  omega
theorem okN.take {l:List PI}(h:okN l) (i:Nat):okN (l.take i):=fun p hp=>h p (List.mem_of_mem_take hp)
end Go.Proofs.YtepcejdglbcbkaaGreat
/- The parts of a request after the first one: by the program, by the reference. Condition: the lengths are positive words. -/
namespace Go.Proofs.YtepcejdglbcbkaaGreat
open Go.Abs
variable {k:Nat}
theorem Sr {l:List PI}{w:Bool}(hn:l.length≤100) (hs:okN l):ad (ab FN (k+200)) 158 [csl 4 (bf l),.bool w] (.int .i64 (dO l w)):=by
 refine ak Ye fun T H E lv=>?_
 repeat (first | refine stN ?_ | intro E)
 rw [cq]
 refine aW (α:=Nat) (a8.mk (fun i=>i≤l.length) (fun i=>l.length-i)
  (fun i=>[(12,.int .i64 (i:Int)),(11,.int .i64 (l.length:Int)),(10,csl 4 (bf l)),(5,.int .i64 (smI (l.take i))),(4,.int .i64 0),(1,.bool w),(0,csl 4 (bf l))]) (fun i=>[]))
  (fun _ _ c=>c=4) 0 (Nat.zero_le _) rfl (show l.length-0<k+199 by omega) ⟨rfl,rfl,rfl,rfl,rfl,rfl,rfl,trivial⟩ trivial ?_
 rintro i lv c T H E hP rfl hμ
 have hP:i≤l.length:=hP
 clear hμ
 dsimp only
 rcases Nat.lt_or_ge i l.length with hi | hi
 ·obtain ⟨p,hp⟩:∃ p,l[i]? = some p:=⟨_,List.getElem?_eq_getElem hi⟩
  have hps:=hs p (List.mem_of_getElem? hp)
  have gi:inB (i:Int) ((bf l).length/4)=some i:=aZ (by rw [cq];omega)
  have hft:smI (l.take (i+1))=smI (l.take i)+p.n:=kV hp
  have hle:=kW (n:=0) (hs.take i)
  rw [List.length_take] at hle
  have hle:_∧smI (l.take i)≤_:=hle
  have hle0:_≤smI (l.take i):=hle.1
  have hr:rd (bf l) (i*4) 4 true=some (.agg [.int .i64 p.i,.int .i64 p.a,.int .i64 p.n,.bool p.w]):=gK bX hp
  have ha:aj .add (.int .i64 (smI (l.take i))) (.int .i64 p.n)=some (.int .i64 (smI (l.take (i+1)))):=fC hft.symm (by omega) (by omega)
  repeat (first | refine stN ?_ | intro E)
  exact aB (i+1) (show i+1≤l.length by omega) rfl (show l.length-(i+1)<l.length-i by omega) ⟨rfl,rfl,rfl,rfl,rfl,rfl,rfl,trivial⟩ trivial
 ·rw [List.take_of_length_le hi]
  have hle:=kW (n:=0) hs
  have h1:(0:Int)+l.length≤smI l:=hle.1
  repeat (first | refine stN ?_ | intro E)
  apply aN
  apply aM
  by_cases h0:l=[]∨128<smI l
  ·have hf:dO l w=161:=if_pos h0
   rw [hf]
   rcases h0 with rfl | h0
   ·have e:smI []=0:=rfl
    rw [e]
    repeat (first | refine stN ?_ | intro E)
    exact ae (.inr rfl) rfl rfl rfl rfl rfl rfl
   ·repeat (first | refine stN ?_ | intro E)
    exact ae (.inr rfl) rfl rfl rfl rfl rfl rfl
  ·have hf:dO l w=if l.any (fun p=>p.w==w) then 164 else 0:=if_neg h0
   have h2:1≤smI l:=by
    rcases l with _ | ⟨p,l⟩
    ·exact absurd (.inl rfl) h0
    ·simp only [List.length_cons] at h1;omega
   have h3:smI l≤128:=by omega
   rw [hf]
   repeat (first | refine stN ?_ | intro E)
   rw [cq]
   refine aW (α:=Nat) (a8.mk (fun i=>i≤l.length∧(l.take i).any (fun p=>p.w==w)=false) (fun i=>l.length-i)
    (fun i=>[(29,.int .i64 (i:Int)),(28,.int .i64 (l.length:Int)),(27,csl 4 (bf l)),(4,.int .i64 0),(1,.bool w)]) (fun i=>[]))
    (fun _ _ c=>c=4) 0 ⟨Nat.zero_le _,by simp⟩ rfl (show l.length-0<k+199 by omega) ⟨rfl,rfl,rfl,rfl,rfl,trivial⟩ trivial ?_
   rintro i lv c T H E hP rfl hμ
   have hP:i≤l.length∧(l.take i).any (fun p=>p.w==w)=false:=hP
   obtain ⟨hP,hno⟩:=hP
   clear hμ
   dsimp only
   rcases Nat.lt_or_ge i l.length with hi | hi
   ·obtain ⟨p,hp⟩:∃ p,l[i]? = some p:=⟨_,List.getElem?_eq_getElem hi⟩
    have gi:inB (i:Int) ((bf l).length/4)=some i:=aZ (by rw [cq];omega)
    have hr:rd (bf l) (i*4) 4 true=some (.agg [.int .i64 p.i,.int .i64 p.a,.int .i64 p.n,.bool p.w]):=gK bX hp
    have hat:=kU (f:=fun p=>p.w==w) hp
    rw [hno,Bool.false_or] at hat
    cases hpw:(p.w==w)
    ·rw [hpw] at hat
     have:p.w = !w:=by cases hq:p.w<;>cases w<;>simp_all
     rw [this] at hr
     cases w
     all_goals
      repeat (first | refine stN ?_ | intro E)
      exact aB (i+1) ⟨by omega,hat⟩ rfl (show l.length-(i+1)<l.length-i by omega) ⟨rfl,rfl,rfl,rfl,rfl,trivial⟩ trivial
    ·have e:l.any (fun p=>p.w==w)=true:=List.any_eq_true.2 ⟨p,List.mem_of_getElem? hp,hpw⟩
     have:p.w=w:=by simpa using hpw
     rw [e,if_pos rfl]
     rw [this] at hr
     cases w
     all_goals
      repeat (first | refine stN ?_ | intro E)
      apply bz
      repeat (first | refine stN ?_ | intro E)
      exact ae (.inr rfl) rfl rfl rfl rfl rfl rfl
   ·rw [List.take_of_length_le hi] at hno
    rw [hno]
    repeat (first | refine stN ?_ | intro E)
    apply aN
    apply aM
    repeat (first | refine stN ?_ | intro E)
    exact ae (.inr rfl) rfl rfl rfl rfl rfl rfl
theorem Ss {l:List PI}{w:Bool}(hn:l.length≤100) (hs:okN l):ad (ab FN (k+200)) 160 [csl 4 (bf l),.bool w] (.int .i64 (dO l w)):=by
 have hdv:=cq l
 refine ak Yg fun T H E lv=>?_
 repeat (first | refine stN ?_ | intro E)
 refine aW (α:=Nat) (a8.mk (fun i=>i≤l.length) (fun i=>l.length-i)
  (fun i=>[(6,.int .i64 (i:Int)),(5,.int .i64 (smI (l.take i))),(4,.int .i64 0),(1,.bool w),(0,csl 4 (bf l))]) (fun i=>[]))
  (fun _ _ c=>c=4) 0 (Nat.zero_le _) rfl (show l.length-0<k+199 by omega) ⟨rfl,rfl,rfl,rfl,rfl,trivial⟩ trivial ?_
 rintro i lv c T H E hP rfl hμ
 have hP:i≤l.length:=hP
 clear hμ
 dsimp only
 rcases Nat.lt_or_ge i l.length with hi | hi
 ·obtain ⟨p,hp⟩:∃ p,l[i]? = some p:=⟨_,List.getElem?_eq_getElem hi⟩
  have hps:=hs p (List.mem_of_getElem? hp)
  have gi:inB (i:Int) ((bf l).length/4)=some i:=aZ (by rw [cq];omega)
  have hft:smI (l.take (i+1))=smI (l.take i)+p.n:=kV hp
  have hle:=kW (n:=0) (hs.take i)
  rw [List.length_take] at hle
  have hle:_∧smI (l.take i)≤_:=hle
  have hle0:_≤smI (l.take i):=hle.1
  have hr:rd (bf l) (i*4+2) 1 false=some (.int .i64 p.n):=il bX (by omega) hp rfl rfl
  have ha:aj .add (.int .i64 (smI (l.take i))) (.int .i64 p.n)=some (.int .i64 (smI (l.take (i+1)))):=fC hft.symm (by omega) (by omega)
  repeat (first | refine stN ?_ | intro E)
  exact aB (i+1) (show i+1≤l.length by omega) rfl (show l.length-(i+1)<l.length-i by omega) ⟨rfl,rfl,rfl,rfl,rfl,trivial⟩ trivial
 ·rw [List.take_of_length_le hi]
  repeat (first | refine stN ?_ | intro E)
  apply aN
  apply aM
  by_cases h0:l=[]∨128<smI l
  ·have hf:dO l w=161:=if_pos h0
   rw [hf]
   by_cases h00:l=[]
   ·subst h00
    repeat (first | refine stN ?_ | intro E)
    exact ae (.inr rfl) rfl rfl rfl rfl rfl rfl
   ·have h0:=h0.resolve_left h00
    have:0<l.length:=List.length_pos_iff.2 h00
    repeat (first | refine stN ?_ | intro E)
    exact ae (.inr rfl) rfl rfl rfl rfl rfl rfl
  ·have hf:dO l w=if l.any (fun p=>p.w==w) then 164 else 0:=if_neg h0
   have:0<l.length:=List.length_pos_iff.2 fun h=>h0 (.inl h)
   have h3:smI l≤128:=by omega
   rw [hf]
   repeat (first | refine stN ?_ | intro E)
   refine aW (α:=Nat) (a8.mk (fun i=>i≤l.length∧(l.take i).any (fun p=>p.w==w)=false) (fun i=>l.length-i)
    (fun i=>[(7,.int .i64 (i:Int)),(4,.int .i64 0),(1,.bool w),(0,csl 4 (bf l))]) (fun i=>[]))
    (fun _ _ c=>c=4) 0 ⟨Nat.zero_le _,by simp⟩ rfl (show l.length-0<k+199 by omega) ⟨rfl,rfl,rfl,rfl,trivial⟩ trivial ?_
   rintro i lv c T H E hP rfl hμ
   have hP:i≤l.length∧(l.take i).any (fun p=>p.w==w)=false:=hP
   obtain ⟨hP,hno⟩:=hP
   clear hμ
   dsimp only
   rcases Nat.lt_or_ge i l.length with hi | hi
   ·obtain ⟨p,hp⟩:∃ p,l[i]? = some p:=⟨_,List.getElem?_eq_getElem hi⟩
    have gi:inB (i:Int) ((bf l).length/4)=some i:=aZ (by rw [cq];omega)
    have hr:rd (bf l) (i*4+3) 1 false=some (.bool p.w):=il bX (by omega) hp rfl rfl
    have hat:=kU (f:=fun p=>p.w==w) hp
    rw [hno,Bool.false_or] at hat
    cases hpw:(p.w==w)
    ·rw [hpw] at hat
     have:p.w = !w:=by cases hq:p.w<;>cases w<;>simp_all
     rw [this] at hr
     cases w
     all_goals
      repeat (first | refine stN ?_ | intro E)
      exact aB (i+1) ⟨by omega,hat⟩ rfl (show l.length-(i+1)<l.length-i by omega) ⟨rfl,rfl,rfl,rfl,trivial⟩ trivial
    ·have e:l.any (fun p=>p.w==w)=true:=List.any_eq_true.2 ⟨p,List.mem_of_getElem? hp,hpw⟩
     have:p.w=w:=by simpa using hpw
     rw [e,if_pos rfl]
     rw [this] at hr
     cases w
     all_goals
      repeat (first | refine stN ?_ | intro E)
      apply bz
      repeat (first | refine stN ?_ | intro E)
      exact ae (.inr rfl) rfl rfl rfl rfl rfl rfl
   ·rw [List.take_of_length_le hi] at hno
    rw [hno]
    repeat (first | refine stN ?_ | intro E)
    apply aN
    apply aM
    repeat (first | refine stN ?_ | intro E)
    exact ae (.inr rfl) rfl rfl rfl rfl rfl rfl
end Go.Proofs.YtepcejdglbcbkaaGreat
