/- Part of the texts on which proofs about this seat rest: each says what it proves at its own head. No condition. -/
import Derived.Test.YtepcejdglbcbkaaGreatM42
import Derived.ProofKit
import Derived.OpenShut
import Derived.Test.YtepcejdglbcbkaaGreatRows
set_option linter.unusedVariables false
set_option linter.unusedSimpArgs false
set_option maxHeartbeats 8000000
set_option maxRecDepth 100000
/- Boards, outputs, answers that are the same are found to be the same; rings, pending lines. Condition: the disk is small, the memory is valid. -/
namespace Go.Proofs.YtepcejdglbcbkaaGreat
open Go.Abs
variable {k:Nat}
theorem eqL (c:LnI):cE [0,0,0,0,0,0,0,0,0,0,0,0,0,0] (lnC c) (lnC c)=some true:=by simp [cE,eqK,lnC]
theorem eqC (c:CkI):cE [0,1,1,1,1,0,0,0,0,0,0,0,0] (ckC c) (ckC c)=some true:=by simp [cE,eqK,ckC]
theorem eqS (c:CsI):cE [2,0] (csC c) (csC c)=some true:=by simp [cE,eqK,csC]
theorem s17 {b:BdI}(h:Sml b.x):ad (ab FN (k+5400)) 17 [bdV b,bdV b] (.bool true):=by
 have c34:ad (ab FN (k+5399)) 34 [biV b.x,biV b.x] (.bool true):=s34 (k:=k+98) h
 have e1:=eqL b.c
 have e2:=eqC b.k
 have e3:=eqS b.s
 have e4:=abL b.y
 clear h
 refine ak Z3 fun T H E lv=>?_
 obtain ⟨c,q,s,x,y⟩:=b
 unfold bdV
 dsimp only at *
 dsimp only [aq,bdC,lnC,ckC,csC,biC,niC,List.cons_append,List.nil_append] at *
 repeat (first | refine stN ?_ | intro E)
 apply iX
 ·exact rfl
 ·exact rfl
 ·exact e1
 repeat (first | refine stN ?_ | intro E)
 apply iX
 ·exact rfl
 ·exact rfl
 ·exact e2
 repeat (first | refine stN ?_ | intro E)
 apply iX
 ·exact rfl
 ·exact rfl
 ·exact e3
 repeat (first | refine stN ?_ | intro E)
 apply iX
 ·exact rfl
 ·exact rfl
 ·exact e4
 repeat (first | refine stN ?_ | intro E)
 exact ae (.inr rfl) rfl rfl rfl rfl rfl rfl
theorem eqO (a b c:Int) (kd:Int) (y:List UInt8):cE [0,0,0,0,2] [.int .i64 a,.int .i64 kd,.int .i64 b,.int .i64 c,.str y] [.int .i64 a,.int .i64 kd,.int .i64 b,.int .i64 c,.str y]=some true:=by simp [cE,eqK]
theorem s35 {kd j n:Nat}{l:List (List UInt8)}(hl:l.length≤100):ad (ab FN (k+200)) 35 [csl 5 (ouC kd j n l),csl 5 (ouC kd j n l)] (.bool true):=by
 have hlen:(ouC kd j n l).length/5=l.length:=by rw [pt];omega
 have hne:aj .neq (.int .i64 ((ouC kd j n l).length/5:Nat)) (.int .i64 ((ouC kd j n l).length/5:Nat))=some (.bool false):=ou rfl
 refine ak aab fun T H E lv=>?_
 repeat (first | refine stN ?_ | intro E)
 refine aW (α:=Nat) (a8.mk (fun t=>t≤l.length) (fun t=>l.length-t) (fun t=>[(5,.int .i64 (t:Int)),(1,csl 5 (ouC kd j n l)),(0,csl 5 (ouC kd j n l))]) (fun _=>[])) (fun _ lv' c'=>lv'=lv∧c'=4) 0 (Nat.zero_le _) ⟨rfl,rfl⟩ (show l.length-0<k+199 by omega) ⟨rfl,rfl,rfl,trivial⟩ trivial ?_
 rintro t _ _ T H E hP ⟨rfl,rfl⟩ hμ
 have hP:t≤l.length:=hP
 dsimp only
 clear hμ
 rcases Nat.lt_or_ge t l.length with hi | hi
 ·obtain ⟨y,hy⟩:∃ y,l[t]? = some y:=⟨_,List.getElem?_eq_getElem hi⟩
  have hrd:rd (ouC kd j n l) (t*5) 5 true=some (.agg [.int .i64 0,.int .i64 kd,.int .i64 j,.int .i64 n,.str y]):=gK (m:=5) (fun _=>rfl) hy
  have gi:inB (t:Int) ((ouC kd j n l).length/5)=some t:=aZ (by omega)
  have e:=eqO 0 j n kd y
  repeat (first | refine stN ?_ | intro E)
  apply iX
  ·exact rfl
  ·exact rfl
  ·exact e
  repeat (first | refine stN ?_ | intro E)
  exact aB (t+1) hi ⟨rfl,rfl⟩ (show l.length-(t+1)<l.length-t by omega) ⟨rfl,rfl,rfl,trivial⟩ trivial
 ·obtain rfl:t=l.length:=by omega
  repeat (first | refine stN ?_ | intro E)
  apply aN
  apply aM
  repeat (first | refine stN ?_ | intro E)
  exact ae (.inr rfl) rfl rfl rfl rfl rfl rfl
theorem eq_int {kk:IntKind}(a:Int):aj .eql (.int kk a) (.int kk a)=some (.bool true):=by
 simp [aj,bC]
theorem s18 {m:List UInt8}{v kd j n:Nat}{l:List (List UInt8)}{e:Int}(hm:VM m) (hl:l.length≤100):ad (ab FN (k+400)) 18 [.agg (svC m v (ouC kd j n l) e),.agg (svC m v (ouC kd j n l) e)] (.bool true):=by
 have c35:ad (ab FN (k+399)) 35 [csl 5 (ouC kd j n l),csl 5 (ouC kd j n l)] (.bool true):=s35 (k:=k+199) hl
 have c28:ad (ab FN (k+399)) 28 [aq m,aq m] (.bool true):=(abg (k:=0) hm).fuel (by omega)
 have e1:=eq_int (kk:=.u32) (v:Int)
 have e2:=eq_int (kk:=.i64) e
 generalize ouC kd j n l=O at *
 refine ak Z4 fun T H E lv=>?_
 unfold svC
 dsimp only [aq] at *
 repeat (first | refine stN ?_ | intro E)
 exact ae (.inr rfl) rfl rfl rfl rfl rfl rfl
section
variable {b:BdI}
def iM (b:BdI):List AV:=[.int .u32 b.x.b,.int .u32 b.x.s,.int .u32 b.y.tb,.int .u32 b.y.ts,.int .u32 b.y.rb,.int .u32 b.y.rs]
theorem s15:ad (ab FN (k+1)) 15 [bdV b] (csl 2 (iM b)):=by
 refine ak Z1 fun T H E lv=>?_
 obtain ⟨c,q,s,x,y⟩:=b
 unfold bdV iM
 dsimp only [bdC,lnC,ckC,csC,biC,niC,List.cons_append,List.nil_append] at *
 repeat (first | refine stN ?_ | intro E)
 exact ae (.inr rfl) rfl rfl rfl rfl rfl rfl
theorem s16:ad (ab FN (k+1)) 16 [bdV b] (csl 2 (iM b)):=by
 refine ak Z2 fun T H E lv=>?_
 obtain ⟨c,q,s,x,y⟩:=b
 unfold bdV iM
 dsimp only [bdC,lnC,ckC,csC,biC,niC,List.cons_append,List.nil_append] at *
 repeat (first | refine stN ?_ | intro E)
 exact ae (.inr rfl) rfl rfl rfl rfl rfl rfl
theorem s19 {j:Nat}(h:bI b.c) (hj:j<4):ad (ab FN (k+41)) 19 [bdV b,.int .i64 j] (.int .u32 (b.c.pend j)):=by
 have c58:ad (ab FN (k+40)) 58 [lnV b.c,.int .i64 j] (.int .u32 (b.c.pend j)):=s58 (k:=k+10) h hj
 generalize b.c.pend j=z at *
 clear h
 refine ak Z5 fun T H E lv=>?_
 obtain ⟨c,q,s,x,y⟩:=b
 unfold bdV
 dsimp only [bdC,lnV,lnC,ckC,csC,biC,niC,List.cons_append,List.nil_append] at *
 repeat (first | refine stN ?_ | intro E)
 exact ae (.inr rfl) rfl rfl rfl rfl rfl rfl
theorem s20 {j:Nat}(h:bI b.c) (hj:j<4):ad (ab FN (k+41)) 20 [bdV b,.int .i64 j] (.int .u32 (b.c.pend j)):=by
 have c59:ad (ab FN (k+40)) 59 [lnV b.c,.int .i64 j] (.int .u32 (b.c.pend j)):=s59 (k:=k) h hj
 generalize b.c.pend j=z at *
 clear h
 refine ak Z6 fun T H E lv=>?_
 obtain ⟨c,q,s,x,y⟩:=b
 unfold bdV
 dsimp only [bdC,lnV,lnC,ckC,csC,biC,niC,List.cons_append,List.nil_append] at *
 repeat (first | refine stN ?_ | intro E)
 exact ae (.inr rfl) rfl rfl rfl rfl rfl rfl
def BdI.tick (b:BdI) (j n:Nat):BdI:=if b.k.due j n=true then { b with k:=b.k.fire j n,c:=b.c.raise 0 j } else { b with k:=b.k.fire j n }
theorem s21 {j n:Nat}(h:bI b.c) (hj:j<4):ad (ab FN (k+100)) 21 [bdV b,.int .i64 j,.int .i64 n] (bdV (b.tick j n)):=by
 have c60:ad (ab FN (k+99)) 60 [ckV b.k,.int .i64 j,.int .i64 n] (.tup [ckV (b.k.fire j n),.bool (b.k.due j n)]):=s60 (k:=k+96) hj
 have c61:ad (ab FN (k+99)) 61 [lnV b.c,.int .i64 0,.int .i64 j] (lnV (b.c.raise 0 j)):=s61 (k:=k+69) h (.inl ⟨rfl,rfl⟩) hj
 unfold BdI.tick
 generalize b.k.fire j n=q' at *
 generalize b.k.due j n=t at *
 generalize b.c.raise 0 j=c' at *
 clear h
 refine ak Z7 fun T H E lv=>?_
 obtain ⟨c,q,s,x,y⟩:=b
 unfold bdV
 cases t
 ·rw [if_neg (by decide)]
  dsimp only [bdC,lnV,lnC,ckC,csC,biC,niC,List.cons_append,List.nil_append] at *
  repeat (first | refine stN ?_ | intro E)
  exact ae (.inr rfl) rfl rfl rfl rfl rfl rfl
 ·rw [if_pos rfl]
  dsimp only [bdC,lnV,lnC,ckC,csC,biC,niC,List.cons_append,List.nil_append] at *
  repeat (first | refine stN ?_ | intro E)
  exact ae (.inr rfl) rfl rfl rfl rfl rfl rfl
theorem s22 {j n:Nat}(h:bI b.c) (hj:j<4):ad (ab FN (k+100)) 22 [bdV b,.int .i64 j,.int .i64 n] (bdV (b.tick j n)):=by
 have c62:ad (ab FN (k+99)) 62 [ckV b.k,.int .i64 j,.int .i64 n] (.agg (ckC (b.k.fire j n)++[.int .u32 0,.bool (b.k.due j n),.int .i64 0])):=s62 (k:=k+96) hj
 have c63:ad (ab FN (k+99)) 63 [lnV b.c,.int .i64 0,.int .i64 j] (lnV (b.c.raise 0 j)):=s63 (k:=k+69) h (.inl ⟨rfl,rfl⟩) hj
 unfold BdI.tick
 generalize b.k.fire j n=q' at *
 generalize b.k.due j n=t at *
 generalize b.c.raise 0 j=c' at *
 clear h
 refine ak Z8 fun T H E lv=>?_
 obtain ⟨c,q,s,x,y⟩:=b
 unfold bdV
 cases t
 ·rw [if_neg (by decide)]
  dsimp only [bdC,lnV,lnC,ckC,csC,biC,niC,List.cons_append,List.nil_append] at *
  repeat (first | refine stN ?_ | intro E)
  exact ae (.inr rfl) rfl rfl rfl rfl rfl rfl
 ·rw [if_pos rfl]
  dsimp only [bdC,lnV,lnC,ckC,csC,biC,niC,List.cons_append,List.nil_append] at *
  repeat (first | refine stN ?_ | intro E)
  exact ae (.inr rfl) rfl rfl rfl rfl rfl rfl
end
end Go.Proofs.YtepcejdglbcbkaaGreat
/- BoardServesAsSpecified: what it answers. Condition: the arguments are such as their types hold. -/
namespace Go.Proofs.YtepcejdglbcbkaaGreat
open Go.Abs
variable {k:Nat}
theorem abY:ad (ab FN 20000) 10 [] (.bool true):=⟨aaA⟩
theorem eK.sml {b:BdI}{m:List UInt8}(h:eK b m):Sml b.x:=by
 obtain ⟨a,ha,hx⟩:=h.x
 have:=hx.sml
 rw [← ha] at this
 exact this
theorem SR {b:BdI}{j n:Nat}:(b.tick j n).x=b.x:=by
 unfold BdI.tick
 split<;>rfl
theorem EY {b:BdI}{m:List UInt8}(h:eK b m) (cpu:Nat):∃ j:Nat,(j:Int)<b.c.n∧aj .rem (.int .i64 cpu) (.int .i64 b.c.n)=some (.int .i64 j):=by
 have hn:=h.c.n
 obtain ⟨N,hN⟩:∃ N:Nat,b.c.n=N:=⟨b.c.n.toNat,by omega⟩
 have hN1:0<N:=by omega
 refine ⟨cpu%N,?_,?_⟩
 ·rw [hN];have:=Nat.mod_lt cpu hN1;omega
 ·rw [hN]
  simp only [aj,reduceCtorEq,or_self,if_false,if_true,bC]
  rw [if_neg (by omega)]
  rfl
theorem eqR (a c:Nat):cE [0,0] [.int .u32 a,.int .u32 c] [.int .u32 a,.int .u32 c]=some true:=by simp [cE,eqK]
theorem s3 {b:BdI}{m:List UInt8}{p cpu v:Nat}{ct port:Int}{i:Bool}(hp:m.length=128*p) (hx:pv b) (hcpu:cpu<256) (hv:v<4294967296) (hport:port<9223372036854775808):ad (ab FN (k+20001)) 3 [bdV b,aq m,.int .u8 cpu,.int .i64 ct,.agg [.bool i,.int .i64 port,.int .u32 v]] (.bool true):=by
 have c10:ad (ab FN (k+20000)) 10 [] (.bool true):=abY.fuel (by omega)
 have c9:ad (ab FN (k+20000)) 9 [bdV b,aq m] (.bool (bfB b m)):=s9 (k:=k+19800) hp
 by_cases hF:px b m
 ·rw [BD hF] at c9
  by_cases hct:0≤ct∧ct≤1099511627776
  ·obtain ⟨n,rfl⟩:∃ n:Nat,ct=n:=⟨ct.toNat,by omega⟩
   have hn:n≤1099511627776:=by omega
   have c11:ad (ab FN (k+20000)) 11 [bdV b,aq m] (.bool (bvB b m)):=s11 (k:=k+19300) hF.1 hx (hF.ok hx).1 (hF.ok hx).2.1 (hF.ok hx).2.2
   have c12:ad (ab FN (k+20000)) 12 [bdV b,aq m] (.bool (bvB b m)):=s12 (k:=k+19300) hF.1 hx (hF.ok hx).1 (hF.ok hx).2.1 (hF.ok hx).2.2
   cases hV:bvB b m
   ·rw [hV] at c11 c12
    refine ak fn3 fun T H E lv=>?_
    clear hV hF hx hp
    obtain ⟨c,q,s,x,y⟩:=b
    unfold bdV at *
    dsimp only [aq,bdC,lnC,ckC,csC,biC,niC,List.cons_append,List.nil_append] at *
    repeat (first | refine stN ?_ | intro E)
    exact ae (.inr rfl) rfl rfl rfl rfl rfl rfl
   rw [hV] at c11 c12
   have hb:=Zu hF.1 hx hV
   obtain ⟨j,hj,hmod⟩:=EY hb cpu
   obtain ⟨PP,W,hA⟩:=EX (n:=n) (i:=i) (p:=port) hb hj hv
   have h4:=hb.c.n4 hj
   have c13:ad (ab FN (k+20000)) 13 _ _:=(Aw hb hj hn hv hport hA 0).fuel (by omega)
   have c14:ad (ab FN (k+20000)) 14 _ _:=(Ax hb hj hn hv hA 0).fuel (by omega)
   have hok:=hA.ok
   have hol:=hA.g.ol
   clear hA
   generalize im b m j n i port v PP W=S at *
   have c15:ad (ab FN (k+20000)) 15 [bdV b] (csl 2 (iM b)):=s15 (k:=k+19999)
   have c16:ad (ab FN (k+20000)) 16 [bdV b] (csl 2 (iM b)):=s16 (k:=k+19999)
   have c17a:ad (ab FN (k+20000)) 17 [bdV S.b,bdV S.b] (.bool true):=s17 (k:=k+14600) hok.sml
   have c17b:ad (ab FN (k+20000)) 17 [bdV (b.tick j n),bdV (b.tick j n)] (.bool true):=s17 (k:=k+14600) (by rw [SR];exact hb.sml)
   obtain ⟨a,_,hr⟩:=hok.x
   have c18:ad (ab FN (k+20000)) 18 _ (.bool true):=s18 (k:=k+19600) (v:=S.v) (kd:=S.kd) (j:=j) (n:=n) (l:=S.o) (e:=S.e) hr.vm hol
   have c19:ad (ab FN (k+20000)) 19 [bdV b,.int .i64 j] (.int .u32 (b.c.pend j)):=s19 (k:=k+19959) hb.c h4
   have c20:ad (ab FN (k+20000)) 20 [bdV b,.int .i64 j] (.int .u32 (b.c.pend j)):=s20 (k:=k+19959) hb.c h4
   have c21:ad (ab FN (k+20000)) 21 [bdV b,.int .i64 j,.int .i64 n] (bdV (b.tick j n)):=s21 (k:=k+19900) hb.c h4
   have c22:ad (ab FN (k+20000)) 22 [bdV b,.int .i64 j,.int .i64 n] (bdV (b.tick j n)):=s22 (k:=k+19900) hb.c h4
   have e3:=eq_int (kk:=.u32) (b.c.pend j:Int)
   have hw:IntKind.i64.wrap (cpu:Int)=(cpu:Int):=w64 (by omega) (by omega)
   have r0:rd (iM b) (0*2) 2 true=some (.agg [.int .u32 b.x.b,.int .u32 b.x.s]):=rfl
   have r1:rd (iM b) (1*2) 2 true=some (.agg [.int .u32 b.y.tb,.int .u32 b.y.ts]):=rfl
   have r2:rd (iM b) (2*2) 2 true=some (.agg [.int .u32 b.y.rb,.int .u32 b.y.rs]):=rfl
   have hR:(iM b).length/2=3:=by have:(iM b).length=6:=rfl;omega
   generalize iM b=R at *
   have hne:aj .neq (.int .i64 ((R.length/2:Nat):Int)) (.int .i64 3)=some (.bool false):=ou (by omega)
   have f1:=eqR b.x.b b.x.s
   have f2:=eqR b.y.tb b.y.ts
   have f3:=eqR b.y.rb b.y.rs
   obtain ⟨S1,m2,v2,kd,o,e⟩:=S
   unfold svP at c13
   unfold svR at c14
   dsimp only at *
   generalize ouC kd j n o=O at *
   generalize b.tick j n=bt at *
   generalize b.c.pend j=pe at *
   clear hV hF hx hp hb hr hok
   refine ak fn3 fun T H E lv=>?_
   obtain ⟨c,q,s,x,y⟩:=b
   obtain ⟨bc,bq,bs,bx,by'⟩:=bt
   obtain ⟨sc,sq,ss,sx,sy⟩:=S1
   unfold bdV svC at *
   dsimp only at *
   dsimp only [aq,bdC,lnC,ckC,csC,biC,niC,List.cons_append,List.nil_append] at *
   repeat (first | refine stN ?_ | intro E)
   apply iX
   ·exact rfl
   ·exact rfl
   ·exact f1
   repeat (first | refine stN ?_ | intro E)
   apply iX
   ·exact rfl
   ·exact rfl
   ·exact f2
   repeat (first | refine stN ?_ | intro E)
   apply iX
   ·exact rfl
   ·exact rfl
   ·exact f3
   repeat (first | refine stN ?_ | intro E)
   exact ae (.inr rfl) rfl rfl rfl rfl rfl rfl
  ·refine ak fn3 fun T H E lv=>?_
   clear hF hx hp
   obtain ⟨c,q,s,x,y⟩:=b
   unfold bdV at *
   dsimp only [aq,bdC,lnC,ckC,csC,biC,niC,List.cons_append,List.nil_append] at *
   obtain h | h:ct<0∨(0≤ct∧1099511627776<ct):=by omega
   all_goals
    repeat (first | refine stN ?_ | intro E)
    exact ae (.inr rfl) rfl rfl rfl rfl rfl rfl
 ·rw [mO hF] at c9
  refine ak fn3 fun T H E lv=>?_
  clear hF hx hp
  obtain ⟨c,q,s,x,y⟩:=b
  unfold bdV at *
  dsimp only [aq,bdC,lnC,ckC,csC,biC,niC,List.cons_append,List.nil_append] at *
  repeat (first | refine stN ?_ | intro E)
  exact ae (.inr rfl) rfl rfl rfl rfl rfl rfl
end Go.Proofs.YtepcejdglbcbkaaGreat
/- What the arguments of laws are; the table of this seat is sound. No condition. -/
namespace Go.Proofs.YtepcejdglbcbkaaGreat
open Go.Abs Go.ChangeShapes Go.WideShapes Go.ChangeAt Go.RowKit
theorem EZ {F:aE}{f:FuncId}{vs:List AV}{b:Bool}(h:ad F f vs (.bool b)):∃ hs',F f vs h0 (fun _=>none)=some (.bool b,hs'):=by
 have h1:=xQ h rfl
 unfold evP at h1
 split at h1
 ·next r hs he=>
  split at h1
  ·simp only [Option.some.injEq] at h1
   refine ⟨hs,?_⟩
   rw [he]
   cases r<;>simp only [own,aA,aO] at h1<;>first
    | (cases h1;rfl)
    | (split at h1<;>first | cases h1 | (split at h1<;>cases h1))
    | cases h1
  ·cases h1
 ·cases h1
def BE:Sh:=.agg [.sl (.arr 128 (.int .u8))]
def sG:Sh:=.agg [.int .u32,.int .u32]
theorem abZ:ownKnob Tryz.prog.godebug=none:=by kernel_rfl
theorem Ay {xs:List AV}(h:Has (.arr 128 (.int .u8)) xs):∃ bs:List UInt8,bs.length=128∧xs=bs.map ofB:=by
 obtain ⟨ls,hl,rfl,h2⟩:=h
 have key:∀ ls:List (List AV),(∀ y∈ls,Has (.int .u8) y)→∃ bs:List UInt8,bs.length=ls.length∧ls.flatten=bs.map ofB:=by
  intro ls
  induction ls with
  | nil=>intro _;exact ⟨[],rfl,rfl⟩
  | cons y ls ih=>
   intro h
   obtain ⟨bs,e1,e2⟩:=ih fun z hz=>h z (List.mem_cons_of_mem _ hz)
   obtain ⟨n,rfl,hn⟩:=h y List.mem_cons_self
   refine ⟨UInt8.ofNat n.toNat::bs,by simp [e1],?_⟩
   have hb:0≤n∧n<256:=by
    have h1:IntKind.u8.min=0:=rfl
    have h2:IntKind.u8.max=255:=rfl
    simp only [Lit.wf,h1,h2,Bool.and_eq_true,decide_eq_true_eq] at hn
    omega
   rw [List.flatten_cons,e2,List.map_cons,iG _ (by omega)]
   simp [Int.toNat_of_nonneg hb.1]
 obtain ⟨bs,e1,e2⟩:=key ls h2
 exact ⟨bs,by omega,e2⟩
theorem nJ:∀ ls:List (List AV),(∀ y∈ls,Has (.arr 128 (.int .u8)) y)→∃ bs:List UInt8,bs.length=128*ls.length∧ls.flatten=bs.map ofB
 | [],_=>⟨[],rfl,rfl⟩
 | y::ls,h=>by
  obtain ⟨bs,e1,e2⟩:=nJ ls fun z hz=>h z (List.mem_cons_of_mem _ hz)
  obtain ⟨b1,g1,rfl⟩:=Ay (h y List.mem_cons_self)
  refine ⟨b1++bs,by rw [List.length_append,List.length_cons];omega,by rw [List.flatten_cons,e2,List.map_append]⟩
theorem iI {k:IntKind}{n:Int}{m:Nat}(h:(Lit.int k n).wf=true) (h1:k.min=0) (h2:k.max<m):∃ j:Nat,n=j∧j<m:=by
 simp only [Lit.wf,h1,Bool.and_eq_true,decide_eq_true_eq] at h
 exact ⟨n.toNat,by omega,by omega⟩
theorem SS {xs:List AV}(h:Has BE xs):∃ (bs:List UInt8) (p:Nat),bs.length=128*p∧p≤maxLen∧xs=[csl 128 (bs.map ofB)]:=by
 obtain ⟨ys,zs,⟨ls,rfl,h2,h3⟩,rfl,rfl⟩:=h
 obtain ⟨bs,e1,e2⟩:=nJ ls h2
 exact ⟨bs,ls.length,e1,h3,by rw [e2];rfl⟩
theorem mP {xs:List AV}(h:Has sG xs):∃ b s:Nat,b<4294967296∧s<4294967296∧xs=[.int .u32 b,.int .u32 s]:=by
 obtain ⟨_,_,⟨n,rfl,hn⟩,⟨_,_,⟨m,rfl,hm⟩,rfl,rfl⟩,rfl⟩:=h
 obtain ⟨b,rfl,hb⟩:=iI (m:=4294967296) hn rfl (by decide)
 obtain ⟨s,rfl,hs⟩:=iI (m:=4294967296) hm rfl (by decide)
 exact ⟨b,s,hb,hs,rfl⟩
theorem SU:Table Tryz.prog FN:=rI (fun f p h=>by
 unfold kQ at h
 split at h
 ·rename_i hf
  subst hf
  cases h
  exact rS (mW TA _)
 ·split at h
  ·rename_i hf
   subst hf
   cases h
   exact vN
  ·cases h)
theorem SV {xs:List AV}(h:Has .str xs):∃ ys:List UInt8,xs=[.str ys]:=by
 obtain ⟨l,rfl,_⟩:=h
 exact ⟨l,rfl⟩
end Go.Proofs.YtepcejdglbcbkaaGreat
/- What the arguments of the board's laws are. No condition. -/
namespace Go.Proofs.YtepcejdglbcbkaaGreat
open Go.Abs Go.ChangeShapes Go.WideShapes Go.ChangeAt Go.RowKit
def sH:Sh:=.agg [.int .i64,.int .i64,.int .i64,.bool]
def wu:Sh:=.agg [.agg [.int .u32,.int .u32],.int .i64,.bool,.sl sH]
def BF:Sh:=.agg [.agg [.int .u32,.int .u32],.int .i64,.int .i64,.sl (.arr 128 (.int .u8)),.sl wu]
theorem E2 {xs:List AV}(h:Has sH xs):∃ p:PI,xs=piV p:=by
 obtain ⟨_,_,⟨i,rfl,_⟩,⟨_,_,⟨a,rfl,_⟩,⟨_,_,⟨n,rfl,_⟩,⟨_,_,⟨w,rfl⟩,rfl,rfl⟩,rfl⟩,rfl⟩,rfl⟩:=h
 exact ⟨⟨i,a,n,w⟩,rfl⟩
theorem sI:∀ ls:List (List AV),(∀ y∈ls,Has sH y)→∃ l:List PI,ls.flatten=bf l
 | [],_=>⟨[],rfl⟩
 | y::ls,h=>by
  obtain ⟨l,e⟩:=sI ls fun z hz=>h z (List.mem_cons_of_mem _ hz)
  obtain ⟨p,rfl⟩:=E2 (h y List.mem_cons_self)
  exact ⟨p::l,by rw [List.flatten_cons,e];rfl⟩
theorem SW {xs:List AV}(h:Has wu xs):∃ r:RI,xs=riV r∧r.b<4294967296∧r.s<4294967296:=by
 obtain ⟨_,_,hr,⟨_,_,⟨q,rfl,_⟩,⟨_,_,⟨w,rfl⟩,⟨_,_,⟨ls,rfl,h2,_⟩,rfl,rfl⟩,rfl⟩,rfl⟩,rfl⟩:=h
 obtain ⟨b,s,hb,hs,rfl⟩:=mP hr
 obtain ⟨l,e⟩:=sI ls h2
 exact ⟨⟨b,s,q,w,l⟩,by rw [e];rfl,hb,hs⟩
theorem uH:∀ ls:List (List AV),(∀ y∈ls,Has wu y)→∃ l:List RI,ls.flatten=bp l∧∀ r∈l,r.b<4294967296∧r.s<4294967296
 | [],_=>⟨[],rfl,fun r hr=>by cases hr⟩
 | y::ls,h=>by
  obtain ⟨l,e,h1⟩:=uH ls fun z hz=>h z (List.mem_cons_of_mem _ hz)
  obtain ⟨p,rfl,h2⟩:=SW (h y List.mem_cons_self)
  refine ⟨p::l,by rw [List.flatten_cons,e];rfl,fun r hr=>?_⟩
  rcases List.mem_cons.1 hr with rfl | hr
  ·exact h2
  ·exact h1 r hr
theorem SX {xs:List AV}(h:Has BF xs):∃ x:BI,xs=biC x∧x.b<4294967296∧x.s<4294967296∧x.d.length%128=0∧∀ r∈x.f,r.b<4294967296∧r.s<4294967296:=by
 obtain ⟨_,_,hr,⟨_,_,⟨a,rfl,_⟩,⟨_,_,⟨st,rfl,_⟩,⟨_,_,⟨ls,rfl,h2,_⟩,⟨_,_,⟨lr,rfl,h4,_⟩,rfl,rfl⟩,rfl⟩,rfl⟩,rfl⟩,rfl⟩:=h
 obtain ⟨b,s,hb,hs,rfl⟩:=mP hr
 obtain ⟨d,hd,e⟩:=nJ ls h2
 obtain ⟨f,e2,hf⟩:=uH lr h4
 refine ⟨⟨b,s,a,st,d,f⟩,by rw [e,e2];rfl,hb,hs,?_,hf⟩
 show d.length%128=0
 omega
def BG:Sh:=.agg [sG,sG,.int .i64,.int .i64,.int .i64,.int .i64]
def SY:Sh:=.agg [.bool,.int .i64,.int .u32]
theorem wf_i64 {n:Int}(h:(Lit.int .i64 n).wf=true):I64 n:=by
 have h1:IntKind.i64.min = -9223372036854775808:=rfl
 have h2:IntKind.i64.max=9223372036854775807:=rfl
 simp only [Lit.wf,h1,h2,Bool.and_eq_true,decide_eq_true_eq] at h
 exact ⟨by omega,by omega⟩
theorem SZ {xs:List AV}(h:Has BG xs):∃ x:NIq,xs=niC x∧NRq x:=by
 obtain ⟨_,_,h1,⟨_,_,h2,⟨_,_,⟨ta,rfl,w1⟩,⟨_,_,⟨ra,rfl,w2⟩,⟨_,_,⟨st,rfl,w3⟩,⟨_,_,⟨dr,rfl,w4⟩,rfl,rfl⟩,rfl⟩,rfl⟩,rfl⟩,rfl⟩,rfl⟩:=h
 obtain ⟨tb,ts,b1,b2,rfl⟩:=mP h1
 obtain ⟨rb,rs,b3,b4,rfl⟩:=mP h2
 exact ⟨⟨tb,ts,rb,rs,ta,ra,st,dr⟩,rfl,⟨b1,b2,b3,b4,wf_i64 w1,wf_i64 w2,wf_i64 w3,wf_i64 w4⟩⟩
theorem Zv {xs:List AV}(h:Has SY xs):∃ (i:Bool) (port:Int) (v:Nat),v<4294967296∧port<9223372036854775808∧xs=[.bool i,.int .i64 port,.int .u32 v]:=by
 obtain ⟨_,_,⟨i,rfl⟩,⟨_,_,⟨port,rfl,w⟩,⟨_,_,⟨n,rfl,hn⟩,rfl,rfl⟩,rfl⟩,rfl⟩:=h
 obtain ⟨v,rfl,hv⟩:=iI (m:=4294967296) hn rfl (by decide)
 exact ⟨i,port,v,hv,(wf_i64 w).2,rfl⟩
def S0:Sh:=.agg [.int .i64,.arr 4 (.int .u32),.arr 4 (.int .u32),.arr 5 (.int .i64)]
def S4:Sh:=.agg [.int .i64,.arr 4 .bool,.arr 4 (.int .i64),.arr 4 (.int .i64)]
def ab0:Sh:=.agg [.str,.int .i64]
def S5:Sh:=.agg [S0,S4,ab0,BF,BG]
theorem mQ {s:Sh}{xs:List AV}(h:Has (.arr 4 s) xs):∃ a b c d,xs=a++(b++(c++d))∧Has s a∧Has s b∧Has s c∧Has s d:=by
 obtain ⟨ls,hl,rfl,h2⟩:=h
 rcases ls with _ | ⟨a,_ | ⟨b,_ | ⟨c,_ | ⟨d,_ | ⟨e,t⟩⟩⟩⟩⟩<;>simp at hl
 exact ⟨a,b,c,d,by simp,h2 a (by simp),h2 b (by simp),h2 c (by simp),h2 d (by simp)⟩
theorem E3 {s:Sh}{xs:List AV}(h:Has (.arr 5 s) xs):∃ a b c d e,xs=a++(b++(c++(d++e)))∧Has s a∧Has s b∧Has s c∧Has s d∧Has s e:=by
 obtain ⟨ls,hl,rfl,h2⟩:=h
 rcases ls with _ | ⟨a,_ | ⟨b,_ | ⟨c,_ | ⟨d,_ | ⟨e,_ | ⟨f,t⟩⟩⟩⟩⟩⟩<;>simp at hl
 exact ⟨a,b,c,d,e,by simp,h2 a (by simp),h2 b (by simp),h2 c (by simp),h2 d (by simp),h2 e (by simp)⟩
theorem BH {xs:List AV}(h:Has (.arr 4 (.int .u32)) xs):∃ a b c d:Nat,xs=[.int .u32 a,.int .u32 b,.int .u32 c,.int .u32 d]∧a<4294967296∧b<4294967296∧c<4294967296∧d<4294967296:=by
 obtain ⟨_,_,_,_,rfl,⟨a,rfl,wa⟩,⟨b,rfl,wb⟩,⟨c,rfl,wc⟩,⟨d,rfl,wd⟩⟩:=mQ h
 obtain ⟨a',ea,wa'⟩:=iI (m:=4294967296) wa rfl (by decide)
 obtain ⟨b',eb,wb'⟩:=iI (m:=4294967296) wb rfl (by decide)
 obtain ⟨c',ec,wc'⟩:=iI (m:=4294967296) wc rfl (by decide)
 obtain ⟨d',ed,wd'⟩:=iI (m:=4294967296) wd rfl (by decide)
 subst ea eb ec ed
 exact ⟨a',b',c',d',rfl,wa',wb',wc',wd'⟩
theorem Zw {xs:List AV}(h:Has S0 xs):∃ c:LnI,xs=lnC c∧LnR c:=by
 obtain ⟨_,_,⟨n,rfl,_⟩,⟨_,_,h1,⟨_,_,h2,⟨_,_,h3,rfl,rfl⟩,rfl⟩,rfl⟩,rfl⟩:=h
 obtain ⟨r0,r1,r2,r3,rfl,w0,w1,w2,w3⟩:=BH h1
 obtain ⟨m0,m1,m2,m3,rfl,v0,v1,v2,v3⟩:=BH h2
 obtain ⟨_,_,_,_,_,rfl,⟨t0,rfl,_⟩,⟨t1,rfl,_⟩,⟨t2,rfl,_⟩,⟨t3,rfl,_⟩,⟨t4,rfl,_⟩⟩:=E3 h3
 exact ⟨⟨n,r0,r1,r2,r3,m0,m1,m2,m3,t0,t1,t2,t3,t4⟩,rfl,⟨w0,w1,w2,w3,v0,v1,v2,v3⟩⟩
theorem Zx {xs:List AV}(h:Has S4 xs):∃ c:CkI,xs=ckC c:=by
 obtain ⟨_,_,⟨n,rfl,_⟩,⟨_,_,h1,⟨_,_,h2,⟨_,_,h3,rfl,rfl⟩,rfl⟩,rfl⟩,rfl⟩:=h
 obtain ⟨_,_,_,_,rfl,⟨o0,rfl⟩,⟨o1,rfl⟩,⟨o2,rfl⟩,⟨o3,rfl⟩⟩:=mQ h1
 obtain ⟨_,_,_,_,rfl,⟨r0,rfl,_⟩,⟨r1,rfl,_⟩,⟨r2,rfl,_⟩,⟨r3,rfl,_⟩⟩:=mQ h2
 obtain ⟨_,_,_,_,rfl,⟨a0,rfl,_⟩,⟨a1,rfl,_⟩,⟨a2,rfl,_⟩,⟨a3,rfl,_⟩⟩:=mQ h3
 exact ⟨⟨n,o0,o1,o2,o3,r0,r1,r2,r3,a0,a1,a2,a3⟩,rfl⟩
theorem Zy {xs:List AV}(h:Has S5 xs):∃ b:BdI,xs=bdC b∧pv b:=by
 obtain ⟨_,_,h1,⟨_,_,h2,⟨_,_,⟨_,_,hs,⟨_,_,⟨n,rfl,_⟩,rfl,rfl⟩,rfl⟩,⟨_,_,h4,⟨_,_,h5,rfl,rfl⟩,rfl⟩,rfl⟩,rfl⟩,rfl⟩:=h
 obtain ⟨c,rfl,hc⟩:=Zw h1
 obtain ⟨q,rfl⟩:=Zx h2
 obtain ⟨s,rfl⟩:=SV hs
 obtain ⟨x,rfl,x1,x2,x3,x4⟩:=SX h4
 obtain ⟨y,rfl,hy⟩:=SZ h5
 refine ⟨⟨c,q,⟨s,n⟩,x,y⟩,?_,⟨hc,x1,x2,x3,x4,hy⟩⟩
 unfold bdC
 simp only [List.append_nil]
 rfl
theorem S6 {α:Type}{ds:List α}{n:Nat}(h:ds.length=n) (hn:n=5):∃ d1 d2 d3 d4 d5,ds=[d1,d2,d3,d4,d5]:=by
 subst hn
 rcases ds with _ | ⟨x0,_ | ⟨x1,_ | ⟨x2,_ | ⟨x3,_ | ⟨x4,_ | ⟨x5,t⟩⟩⟩⟩⟩⟩<;>simp at h
 exact ⟨x0,x1,x2,x3,x4,rfl⟩
theorem Zz {s0 s1 s2 s3 s4:Sh}{xss:List (List AV)}(h:rB [s0,s1,s2,s3,s4] xss):∃ x0 x1 x2 x3 x4,xss=[x0,x1,x2,x3,x4]∧Has s0 x0∧Has s1 x1∧Has s2 x2∧Has s3 x3∧Has s4 x4:=by
 rcases xss with _ | ⟨x0,_ | ⟨x1,_ | ⟨x2,_ | ⟨x3,_ | ⟨x4,_ | ⟨x5,t⟩⟩⟩⟩⟩⟩
 ·exact h.elim
 ·exact h.2.elim
 ·exact h.2.2.elim
 ·exact h.2.2.2.elim
 ·exact h.2.2.2.2.elim
 ·exact ⟨x0,x1,x2,x3,x4,rfl,h.1,h.2.1,h.2.2.1,h.2.2.2.1,h.2.2.2.2.1⟩
 ·exact h.2.2.2.2.2.elim
end Go.Proofs.YtepcejdglbcbkaaGreat
