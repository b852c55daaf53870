/- Part of the texts on which proofs about this seat rest: each says what it proves at its own head. No condition. -/
import Derived.Test.YtepcejdglbcbkaaGreatM30
set_option linter.unusedVariables false
set_option linter.unusedSimpArgs false
set_option maxHeartbeats 4000000
set_option maxRecDepth 100000
/- What an instruction of the device does, by the program. Condition: the memory is valid; the numbers are words. -/
namespace Go.Proofs.YtepcejdglbcbkaaGreat
open Go.Abs
variable {k:Nat}
theorem v8 {F:aE}{f:FuncId}{args:List AV}{os:List (Nat×List AV)}{H:Hp}{n:Nat}{lv:Nat→Bool}{c:Nat}{E:Nat→Option TypeId}{R:AV}{id i:Nat}{cells:List AV}{V:List AV→Prop}(ho:lkO os i=some cells) (h:dx F f args [(i,cells)] (ah os H) n lv c E R id V):dx F f args os H n lv c E R id V:=by
 have e:ah [(i,cells)] (ah os H)=ah os H:=by
  funext j
  simp only [ah,upd]
  split
  ·next hj=>rw [hj,av ho]
  ·rfl
 obtain ⟨h⟩:=h
 rw [e] at h
 exact ⟨h⟩
structure PO where
 b:Nat
 s:Nat
 a:Nat
 st:Int
 f:List RI
 m:List UInt8
 v:Nat
 r:Bool
 ok:Bool
def dT (b s D:Nat) (x:NS) (inn:Bool) (port:Int) (val:Nat):PO:=
 if inn then
  if port=48 then ⟨b,s,x.a,x.st,x.f,x.m,b,x.r,true⟩
  else if port=49 then ⟨b,s,x.a,x.st,x.f,x.m,s,x.r,true⟩
  else if port=51 then ⟨b,s,x.a,0,x.f,x.m,x.st.toNat,x.r,true⟩
  else ⟨b,s,x.a,x.st,x.f,x.m,0,x.r,false⟩
 else
  if port=48 then ⟨val,s,0,x.st,x.f,x.m,0,x.r,true⟩
  else if port=49 then ⟨b,val,0,x.st,x.f,x.m,0,x.r,true⟩
  else if port=50 then ⟨b,s,(ntf b s D x).a,(ntf b s D x).st,(ntf b s D x).f,(ntf b s D x).m,0,(ntf b s D x).r,true⟩
  else ⟨b,s,x.a,x.st,x.f,x.m,0,x.r,false⟩
abbrev poB (d:List UInt8) (p:PO):List AV:=[.int .u32 p.b,.int .u32 p.s,.int .i64 p.a,.int .i64 p.st,csl 128 (d.map ofB),csl 5 (bp p.f)]
abbrev poD (p:PO):List AV:=[csl 128 (p.m.map ofB),.int .u32 p.v,.sl 1 0 [],.bool p.r,.bool p.ok]
theorem Zl {b s a val:Nat}{st port:Int}{d m:List UInt8}{f:List RI}(hst:0≤st∧st<4294967296) :
 ad (ab FN (k+10800)) 245 [.agg [.int .u32 b,.int .u32 s,.int .i64 a,.int .i64 st,csl 128 (d.map ofB),csl 5 (bp f)],aq m,.agg [.bool true,.int .i64 port,.int .u32 val]]
  (.tup [.agg (poB d (dT b s ((d.map ofB).length/128) ⟨a,st,f,m,false⟩ true port val)),.agg (poD (dT b s ((d.map ofB).length/128) ⟨a,st,f,m,false⟩ true port val))]):=by
 have hws:IntKind.u32.wrap st=(st.toNat:Int):=by rw [w32 (by omega) (by omega)];omega
 refine ak Bp fun T H E lv=>?_
 unfold dT
 rw [if_pos rfl]
 by_cases h1:port=48
 ·subst h1
  rw [if_pos rfl]
  repeat (first | refine stN ?_ | intro E)
  exact ae (.inr rfl) rfl rfl rfl rfl rfl rfl
 ·rw [if_neg h1]
  by_cases h2:port=49
  ·subst h2
   rw [if_pos rfl]
   repeat (first | refine stN ?_ | intro E)
   exact ae (.inr rfl) rfl rfl rfl rfl rfl rfl
  ·rw [if_neg h2]
   by_cases h3:port=51
   ·subst h3
    rw [if_pos rfl]
    repeat (first | refine stN ?_ | intro E)
    exact ae (.inr rfl) rfl rfl rfl rfl rfl rfl
   ·rw [if_neg h3]
    repeat (first | refine stN ?_ | intro E)
    exact ae (.inr rfl) rfl rfl rfl rfl rfl rfl
theorem Zm {b s a val:Nat}{st port:Int}{d m:List UInt8}{f:List RI}(h:VM m) (hb:b<4294967296) (hs:s<4294967296) (ha:aX m.length b s=0→a<s) (hd:(d.map ofB).length/128≤64) (hf:f.length≤8) :
 ad (ab FN (k+10800)) 245 [.agg [.int .u32 b,.int .u32 s,.int .i64 a,.int .i64 st,csl 128 (d.map ofB),csl 5 (bp f)],aq m,.agg [.bool false,.int .i64 port,.int .u32 val]]
  (.tup [.agg (poB d (dT b s ((d.map ofB).length/128) ⟨a,st,f,m,false⟩ false port val)),.agg (poD (dT b s ((d.map ofB).length/128) ⟨a,st,f,m,false⟩ false port val))]):=by
 refine ak Bp fun T H E lv=>?_
 unfold dT
 rw [if_neg (by decide)]
 by_cases h1:port=48
 ·subst h1
  rw [if_pos rfl]
  repeat (first | refine stN ?_ | intro E)
  apply dB (os':=[(5,ei val s 0 st d (csl 5 (bp f)) m 0 false true),(3,[.int .u32 0,.int .u32 0,.int .i64 0,.int .i64 0,.sl 0 0 [],.sl 0 0 []]),(4,[.sl 0 0 [],.int .u32 0,.sl 0 0 [],.bool false,.bool false])])
  ·exact rfl
  ·exact rfl
  ·exact fun H E=>iH rfl ((abu (k:=0) rfl).fuel (by omega))
  ·exact ⟨.inl ⟨rfl,rfl⟩,.inr ⟨rfl,rfl,rfl,rfl⟩,.inr ⟨rfl,rfl,rfl,rfl⟩,trivial⟩
  intro H2
  repeat (first | refine stN ?_ | intro E)
  exact ae (.inr rfl) rfl rfl rfl rfl rfl rfl
 ·rw [if_neg h1]
  by_cases h2:port=49
  ·subst h2
   rw [if_pos rfl]
   repeat (first | refine stN ?_ | intro E)
   apply dB (os':=[(5,ei b val 0 st d (csl 5 (bp f)) m 0 false true),(3,[.int .u32 0,.int .u32 0,.int .i64 0,.int .i64 0,.sl 0 0 [],.sl 0 0 []]),(4,[.sl 0 0 [],.int .u32 0,.sl 0 0 [],.bool false,.bool false])])
   ·exact rfl
   ·exact rfl
   ·exact fun H E=>iH rfl ((abv (k:=0) rfl).fuel (by omega))
   ·exact ⟨.inl ⟨rfl,rfl⟩,.inr ⟨rfl,rfl,rfl,rfl⟩,.inr ⟨rfl,rfl,rfl,rfl⟩,trivial⟩
   intro H2
   repeat (first | refine stN ?_ | intro E)
   exact ae (.inr rfl) rfl rfl rfl rfl rfl rfl
  ·rw [if_neg h2]
   by_cases h3:port=50
   ·subst h3
    rw [if_pos rfl]
    generalize hR:ntf b s ((d.map ofB).length/128) ⟨a,st,f,m,false⟩=R
    repeat (first | refine stN ?_ | intro E)
    apply zP (os':=fun v=>[(5,v),(3,[.int .u32 0,.int .u32 0,.int .i64 0,.int .i64 0,.sl 0 0 [],.sl 0 0 []]),(4,[.sl 0 0 [],.int .u32 0,.sl 0 0 [],.bool false,.bool false])]) (V:=fun cs=>∃ br z,FB br z R.f∧cs=ei b s R.a R.st d (.sl br z (bp R.f)) R.m 0 R.r true)
    ·exact rfl
    ·exact rfl
    ·exact fun H E=>v8 rfl ((Aj (k:=0) (Nat.le_refl _) h hb hs ha hd hf hR).fuel (by omega))
    ·exact fun v hv=>⟨.inl ⟨rfl,rfl⟩,.inr ⟨rfl,rfl,rfl,rfl⟩,.inr ⟨rfl,rfl,rfl,rfl⟩,trivial⟩
    rintro v H2 lv' c' ⟨br,z,hB,rfl⟩ hc
    repeat (first | refine stN ?_ | intro E)
    rcases hB with ⟨rfl,rfl⟩ | ⟨h4,rfl⟩
    ·exact ae (.inr rfl) rfl rfl rfl rfl rfl rfl
    ·obtain ⟨q,rfl⟩:∃ q,br=q+4:=⟨br-4,by omega⟩
     exact ae (.inr rfl) rfl rfl rfl rfl rfl rfl
   ·rw [if_neg h3]
    have hg:∀ (x y z:AV),getM 0 (.int .i64 port) [.int .i64 48,x,.int .i64 49,y,.int .i64 50,z]=some none:=by
     intro x y z
     have e1:(port==48)=false:=by simpa using h1
     have e2:(port==49)=false:=by simpa using h2
     have e3:(port==50)=false:=by simpa using h3
     simp only [getM,eqK,if_true,e1,e2,e3]
    repeat (first | refine stN ?_ | intro E)
    apply j9
    ·exact rfl
    ·exact rfl
    ·exact rfl
    ·exact rfl
    ·exact rfl
    ·exact hg _ _ _
    repeat (first | refine stN ?_ | intro E)
    exact ae (.inr rfl) rfl rfl rfl rfl rfl rfl
end Go.Proofs.YtepcejdglbcbkaaGreat
/- What an instruction of the device does, by the reference. Condition: the memory is valid; the numbers are words. -/
namespace Go.Proofs.YtepcejdglbcbkaaGreat
open Go.Abs
variable {k:Nat}
abbrev poG (d:List UInt8) (p:PO):List AV:=eV p.b p.s p.a p.st d p.f p.m p.v p.r p.ok
theorem abw {b s a val:Nat}{st port:Int}{d m:List UInt8}{f:List RI}(hst:0≤st∧st<4294967296) :
 ad (ab FN (k+10800)) 54 [.agg [.int .u32 b,.int .u32 s,.int .i64 a,.int .i64 st,csl 128 (d.map ofB),csl 5 (bp f)],aq m,.agg [.bool true,.int .i64 port,.int .u32 val]]
  (.agg (poG d (dT b s ((d.map ofB).length/128) ⟨a,st,f,m,false⟩ true port val))):=by
 have hws:IntKind.u32.wrap st=(st.toNat:Int):=by rw [w32 (by omega) (by omega)];omega
 refine ak R7 fun T H E lv=>?_
 unfold dT
 rw [if_pos rfl]
 by_cases h1:port=48
 ·subst h1
  rw [if_pos rfl]
  repeat (first | refine stN ?_ | intro E)
  exact ae (.inr rfl) rfl rfl rfl rfl rfl rfl
 ·rw [if_neg h1]
  by_cases h2:port=49
  ·subst h2
   rw [if_pos rfl]
   repeat (first | refine stN ?_ | intro E)
   exact ae (.inr rfl) rfl rfl rfl rfl rfl rfl
  ·rw [if_neg h2]
   by_cases h3:port=51
   ·subst h3
    rw [if_pos rfl]
    repeat (first | refine stN ?_ | intro E)
    exact ae (.inr rfl) rfl rfl rfl rfl rfl rfl
   ·rw [if_neg h3]
    repeat (first | refine stN ?_ | intro E)
    exact ae (.inr rfl) rfl rfl rfl rfl rfl rfl
theorem abx {b s a val:Nat}{st port:Int}{d m:List UInt8}{f:List RI}(h:VM m) (hb:b<4294967296) (hs:s<4294967296) (ha:aX m.length b s=0→a<s) (hd:(d.map ofB).length/128≤64) (hf:f.length≤8) :
 ad (ab FN (k+10800)) 54 [.agg [.int .u32 b,.int .u32 s,.int .i64 a,.int .i64 st,csl 128 (d.map ofB),csl 5 (bp f)],aq m,.agg [.bool false,.int .i64 port,.int .u32 val]]
  (.agg (poG d (dT b s ((d.map ofB).length/128) ⟨a,st,f,m,false⟩ false port val))):=by
 refine ak R7 fun T H E lv=>?_
 unfold dT
 rw [if_neg (by decide)]
 by_cases h1:port=48
 ·subst h1
  rw [if_pos rfl]
  repeat (first | refine stN ?_ | intro E)
  exact ae (.inr rfl) rfl rfl rfl rfl rfl rfl
 ·rw [if_neg h1]
  by_cases h2:port=49
  ·subst h2
   rw [if_pos rfl]
   repeat (first | refine stN ?_ | intro E)
   exact ae (.inr rfl) rfl rfl rfl rfl rfl rfl
  ·rw [if_neg h2]
   by_cases h3:port=50
   ·subst h3
    rw [if_pos rfl]
    generalize hR:ntf b s ((d.map ofB).length/128) ⟨a,st,f,m,false⟩=R
    have c113:ad (ab FN (k+10799)) 113 [.agg (eV b s a st d f m 0 false true)] (.agg (eV b s R.a R.st d R.f R.m 0 R.r true)):=(EO (k:=0) h hb hs ha hd hf hR).fuel (by omega)
    repeat (first | refine stN ?_ | intro E)
    exact ae (.inr rfl) rfl rfl rfl rfl rfl rfl
   ·rw [if_neg h3]
    repeat (first | refine stN ?_ | intro E)
    exact ae (.inr rfl) rfl rfl rfl rfl rfl rfl
end Go.Proofs.YtepcejdglbcbkaaGreat
/- A request is finished, whatever its parts say. Condition: the memory is valid, the ring is there, the indices are of the ring. -/
namespace Go.Proofs.YtepcejdglbcbkaaGreat
open Go.Abs
variable {k:Nat}
def ix (l:List Pt):List Nat:=l.map (·.i)
end Go.Proofs.YtepcejdglbcbkaaGreat
