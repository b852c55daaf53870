/- Part of the texts on which proofs about this seat rest: each says what it proves at its own head. No condition. -/
import Derived.Test.YtepcejdglbcbkaaGreatM39
set_option linter.unusedVariables false
set_option linter.unusedSimpArgs false
set_option maxHeartbeats 4000000
set_option maxRecDepth 100000
/- An answer with an error, outputs, a line that is raised: by the program and by the reference. No condition but what is said. -/
namespace Go.Proofs.YtepcejdglbcbkaaGreat
open Go.Abs
variable {k:Nat}
theorem s51 {b:BdI}{m:List UInt8}{j n v:Nat}{i:Bool}{p e:Int}:ad (ab FN (k+1)) 51 [.agg (caC b m j n i p v),.int .i64 e] (svP j n (b.err m e)):=by
 refine ak aan fun T H E lv=>?_
 obtain ⟨c,q,s,x,y⟩:=b
 unfold svP bdV BdI.err
 dsimp only [caC,bdC,svC,lnC,ckC,csC,biC,niC,List.cons_append,List.nil_append,ouC,List.flatMap_nil]
 repeat (first | refine stN ?_ | intro E)
 exact ae (.inr rfl) rfl rfl rfl rfl rfl rfl
theorem s52 {b:BdI}{m:List UInt8}{j n:Nat}{e:Int}:ad (ab FN (k+1)) 52 [bdV b,aq m,.int .i64 e] (svR j n (b.err m e)):=by
 refine ak aao fun T H E lv=>?_
 obtain ⟨c,q,s,x,y⟩:=b
 unfold svR bdV BdI.err
 dsimp only [bdC,svC,lnC,ckC,csC,biC,niC,List.cons_append,List.nil_append,ouC,List.flatMap_nil,aq]
 repeat (first | refine stN ?_ | intro E)
 exact ae (.inr rfl) rfl rfl rfl rfl rfl rfl
theorem Aq {sz br s0 c:Nat}{lv:Nat→Bool}{xs:List AV}(h:LA sz lv c br s0 xs):aF (.sl br s0 xs)=csl sz xs:=by
 rcases h with ⟨rfl,rfl,rfl⟩ | ⟨h1,_,_,rfl⟩
 ·rfl
 ·exact if_neg (by omega)
theorem yK {s:List (Nat×AV)}{os:List (Nat×List AV)}{T:Nat→AV}{H:Hp}{E:Nat→Option TypeId}{n c sz br s0:Nat}{lv lv':Nat→Bool}{c':Nat}{fn:IFn}{e:Ex}{xs:List AV}(he:e = .norm∨e = .ret)
 (h1:jP s os fn.res=some [.sl br s0 xs]) (hz:(fn.res.all fun | .cell _ sz ag=>!(ag&&Nat.beq sz 0) | _=>true)=true) (ho:LA sz lv' c' br s0 xs):Ret fn (csl sz xs) e ⟨af s T,ah os H,E,n,lv,c⟩:=
 ae he h1 hz rfl rfl (Aq ho) rfl
theorem BB {kd cpu n i:Nat}{l:List (List UInt8)}{y:List UInt8}(h:l[i]? = some y):ouC kd cpu n (l.take (i+1))=ouC kd cpu n (l.take i)++[.int .i64 0,.int .i64 kd,.int .i64 cpu,.int .i64 n,.str y]:=by
 unfold ouC
 rw [Ak _ h]
theorem SJ {b:BdI}{m:List UInt8}{j n v kd:Nat}{i:Bool}{p:Int}{l:List (List UInt8)}(hl:l.length≤100):ad (ab FN (k+200)) 224 [.agg (caC b m j n i p v),.int .i64 kd,csl 1 (bS l)] (csl 5 (ouC kd j n l)):=by
 refine ak YS fun T H E lv=>?_
 repeat (first | refine stN ?_ | intro E)
 have hlen:(bS l).length/1=l.length:=by rw [fV,Nat.div_one]
 have r44:rd (caC b m j n i p v) (0+44) 1 false=some (.int .i64 j):=rfl
 have r45:rd (caC b m j n i p v) (0+45) 1 false=some (.int .i64 n):=rfl
 generalize hC:caC b m j n i p v=C at *
 refine aW (α:=Nat×Nat×Nat) (a8.mk (fun a=>a.1≤l.length) (fun a=>l.length-a.1)
  (fun a=>[(12,.int .i64 (a.1:Int)),(11,.int .i64 ((bS l).length/1:Nat)),(10,csl 1 (bS l)),(7,.sl a.2.1 a.2.2 (ouC kd j n (l.take a.1))),(3,.pp C 0),(1,.int .i64 kd)])
  (fun _=>[])) (fun a lv c=>4≤c∧LA 5 lv c a.2.1 a.2.2 (ouC kd j n (l.take a.1))) (0,0,0) (Nat.zero_le _) ⟨Nat.le_refl _,.nil⟩ (show l.length-0<k+199 by omega) ⟨rfl,rfl,rfl,rfl,by rw [← hC];rfl,rfl,trivial⟩ trivial ?_
 rintro ⟨t,br,s0⟩ lv c T H E hP ⟨hc4,hL⟩ hμ
 have hP:t≤l.length:=hP
 clear hμ hC
 dsimp only at hL ⊢
 rcases Nat.lt_or_ge t l.length with hi | hi
 ·obtain ⟨y,hy⟩:∃ y,l[t]? = some y:=⟨_,List.getElem?_eq_getElem hi⟩
  have hrd:=sF hy
  have gi:inB (t:Int) ((bS l).length/1)=some t:=aZ (by omega)
  have hft:=BB (kd:=kd) (cpu:=j) (n:=n) hy
  have hol:=pt kd j n (l.take t)
  rw [List.length_take] at hol
  repeat (first | refine stN ?_ | intro E)
  apply l7
  ·exact rfl
  ·exact rfl
  ·exact rfl
  ·exact hL
  ·exact ⟨by omega,by omega⟩
  ·rw [hol,dN];simp only [List.length_cons,List.length_nil];omega
  intro lv2 h1 h2
  rw [← hft]
  repeat (first | refine stN ?_ | intro E)
  exact aB (t+1,c,5) hi ⟨by omega,LA.mine hc4 h1⟩ (show l.length-(t+1)<l.length-t by omega) ⟨rfl,rfl,rfl,rfl,rfl,rfl,trivial⟩ trivial
 ·obtain rfl:t=l.length:=by omega
  rw [List.take_length] at hL ⊢
  repeat (first | refine stN ?_ | intro E)
  apply aN
  apply aM
  repeat (first | refine stN ?_ | intro E)
  exact yK (.inr rfl) rfl rfl hL
theorem s57 {j n kd:Nat}{l:List (List UInt8)}(hl:l.length≤100):ad (ab FN (k+200)) 57 [.int .i64 kd,.int .i64 j,.int .i64 n,csl 1 (bS l)] (csl 5 (ouC kd j n l)):=by
 refine ak aar fun T H E lv=>?_
 repeat (first | refine stN ?_ | intro E)
 have hlen:(bS l).length/1=l.length:=by rw [fV,Nat.div_one]
 refine aW (α:=Nat×Nat×Nat) (a8.mk (fun a=>a.1≤l.length) (fun a=>l.length-a.1)
  (fun a=>[(10,.int .i64 (a.1:Int)),(9,.sl a.2.1 a.2.2 (ouC kd j n (l.take a.1))),(3,csl 1 (bS l)),(2,.int .i64 n),(1,.int .i64 j),(0,.int .i64 kd)])
  (fun _=>[])) (fun a lv c=>4≤c∧LA 5 lv c a.2.1 a.2.2 (ouC kd j n (l.take a.1))) (0,0,0) (Nat.zero_le _) ⟨Nat.le_refl _,.nil⟩ (show l.length-0<k+199 by omega) ⟨rfl,rfl,rfl,rfl,rfl,rfl,trivial⟩ trivial ?_
 rintro ⟨t,br,s0⟩ lv c T H E hP ⟨hc4,hL⟩ hμ
 have hP:t≤l.length:=hP
 clear hμ
 dsimp only at hL ⊢
 rcases Nat.lt_or_ge t l.length with hi | hi
 ·obtain ⟨y,hy⟩:∃ y,l[t]? = some y:=⟨_,List.getElem?_eq_getElem hi⟩
  have hrd:=sF hy
  have gi:inB (t:Int) ((bS l).length/1)=some t:=aZ (by omega)
  have hft:=BB (kd:=kd) (cpu:=j) (n:=n) hy
  have hol:=pt kd j n (l.take t)
  rw [List.length_take] at hol
  repeat (first | refine stN ?_ | intro E)
  apply l7
  ·exact rfl
  ·exact rfl
  ·exact rfl
  ·exact hL
  ·exact ⟨by omega,by omega⟩
  ·rw [hol,dN];simp only [List.length_cons,List.length_nil];omega
  intro lv2 h1 h2
  rw [← hft]
  repeat (first | refine stN ?_ | intro E)
  exact aB (t+1,c,5) hi ⟨by omega,LA.mine hc4 h1⟩ (show l.length-(t+1)<l.length-t by omega) ⟨rfl,rfl,rfl,rfl,rfl,rfl,trivial⟩ trivial
 ·obtain rfl:t=l.length:=by omega
  rw [List.take_length] at hL ⊢
  repeat (first | refine stN ?_ | intro E)
  apply aN
  apply aM
  repeat (first | refine stN ?_ | intro E)
  exact yK (.inr rfl) rfl rfl hL
theorem s69 {b:BdI}{l:Nat}{i:Int}{is:Bool}(h:is=true→bI b.c) (hl:dg l i):ad (ab FN (k+40)) 69 [bdV b,.int .i64 i,.bool is] (bdV (b.up l is)):=by
 refine ak aay fun T H E lv=>?_
 obtain ⟨c,q,s,x,y⟩:=b
 unfold BdI.up bdV
 cases is
 ·rw [if_neg (by decide)]
  dsimp only [bdC,lnC,ckC,csC,biC,niC,List.cons_append,List.nil_append]
  repeat (first | refine stN ?_ | intro E)
  exact ae (.inr rfl) rfl rfl rfl rfl rfl rfl
 ·rw [if_pos rfl]
  have c61:ad (ab FN (k+39)) 61 [lnV c,.int .i64 i,.int .i64 0] (lnV (c.raise l 0)):=s61 (k:=k+9) (j:=0) (h rfl) hl (by omega)
  dsimp only
  generalize c.raise l 0=c' at *
  dsimp only [bdC,lnC,ckC,csC,biC,niC,List.cons_append,List.nil_append]
  repeat (first | refine stN ?_ | intro E)
  exact ae (.inr rfl) rfl rfl rfl rfl rfl rfl
theorem s55 {b:BdI}{l:Nat}{i:Int}{is:Bool}(h:is=true→bI b.c) (hl:dg l i):ad (ab FN (k+40)) 55 [bdV b,.int .i64 i,.bool is] (bdV (b.up l is)):=by
 refine ak aap fun T H E lv=>?_
 obtain ⟨c,q,s,x,y⟩:=b
 unfold BdI.up bdV
 cases is
 ·rw [if_neg (by decide)]
  dsimp only [bdC,lnC,ckC,csC,biC,niC,List.cons_append,List.nil_append]
  repeat (first | refine stN ?_ | intro E)
  exact ae (.inr rfl) rfl rfl rfl rfl rfl rfl
 ·rw [if_pos rfl]
  have c63:ad (ab FN (k+39)) 63 [lnV c,.int .i64 i,.int .i64 0] (lnV (c.raise l 0)):=s63 (k:=k+9) (j:=0) (h rfl) hl (by omega)
  dsimp only
  generalize c.raise l 0=c' at *
  dsimp only [bdC,lnC,ckC,csC,biC,niC,List.cons_append,List.nil_append]
  repeat (first | refine stN ?_ | intro E)
  exact ae (.inr rfl) rfl rfl rfl rfl rfl rfl
end Go.Proofs.YtepcejdglbcbkaaGreat
/- What the lines, the clock, the console serve, by the program. Condition: the board is valid. -/
namespace Go.Proofs.YtepcejdglbcbkaaGreat
open Go.Abs
variable {k:Nat}
section
variable {b:BdI}{m:List UInt8}{j n v:Nat}{i:Bool}{p:Int}
theorem abM (h:bI b.c) (hj:j<4) (hv:v<4294967296):ad (ab FN (k+100)) 225 [.agg (caC b m j n i p v)] (svP j n (b.p0 m j i p v)):=by
 have c226:ad (ab FN (k+99)) 226 [lnV b.c,.int .i64 j,.agg [.bool i,.int .i64 p,.int .u32 v]] (ph b.c (b.c.port j i p v)):=aaI (k:=k+39) h hj hv
 unfold BdI.p0
 rcases hp:b.c.port j i p v with _ | ⟨c',r⟩
 ·rw [hp] at c226
  have c51:ad (ab FN (k+99)) 51 [.agg (caC b m j n i p v),.int .i64 5] (svP j n (b.err m 5)):=s51 (k:=k+98)
  refine ak Bk fun T H E lv=>?_
  clear hp h
  obtain ⟨c,q,s,x,y⟩:=b
  unfold svP bdV BdI.err at *
  unfold ph at c226
  dsimp only at *
  dsimp only [caC,bdC,svC,lnC,ckC,csC,biC,niC,List.cons_append,List.nil_append,ouC,List.flatMap_nil]
  repeat (first | refine stN ?_ | intro E)
  exact ae (.inr rfl) rfl rfl rfl rfl rfl rfl
 ·rw [hp] at c226
  refine ak Bk fun T H E lv=>?_
  clear hp h
  obtain ⟨c,q,s,x,y⟩:=b
  unfold svP bdV
  unfold ph at c226
  dsimp only at *
  dsimp only [caC,bdC,svC,lnC,ckC,csC,biC,niC,List.cons_append,List.nil_append,ouC,List.flatMap_nil]
  repeat (first | refine stN ?_ | intro E)
  exact ae (.inr rfl) rfl rfl rfl rfl rfl rfl
theorem abN (h:eI b.k) (hj:j<4) (hn:n≤1099511627776) (hv:v<4294967296):ad (ab FN (k+100)) 233 [.agg (caC b m j n i p v)] (svP j n (b.p1 m j n i p v)):=by
 have c234:ad (ab FN (k+99)) 234 [ckV b.k,.int .i64 j,.int .i64 n,.agg [.bool i,.int .i64 p,.int .u32 v]] (.tup [ckV (b.k.port j n i p v).1,.int .u32 (b.k.port j n i p v).2.1,.int .i64 (b.k.port j n i p v).2.2]):=aaR (k:=k+59) h hj hn hv
 unfold BdI.p1
 generalize (b.k.port j n i p v).1=q' at *
 generalize (b.k.port j n i p v).2.1=r at *
 generalize (b.k.port j n i p v).2.2=e at *
 by_cases he:e=0
 ·subst he
  rw [if_pos rfl]
  refine ak Bm fun T H E lv=>?_
  clear h
  obtain ⟨c,q,s,x,y⟩:=b
  unfold svP bdV
  dsimp only at *
  dsimp only [caC,bdC,svC,lnC,ckC,csC,biC,niC,List.cons_append,List.nil_append,ouC,List.flatMap_nil]
  repeat (first | refine stN ?_ | intro E)
  exact ae (.inr rfl) rfl rfl rfl rfl rfl rfl
 ·rw [if_neg he]
  have c51:ad (ab FN (k+99)) 51 [.agg (caC b m j n i p v),.int .i64 e] (svP j n (b.err m e)):=s51 (k:=k+98)
  refine ak Bm fun T H E lv=>?_
  clear h
  obtain ⟨c,q,s,x,y⟩:=b
  unfold svP bdV BdI.err at *
  dsimp only at *
  dsimp only [caC,bdC,svC,lnC,ckC,csC,biC,niC,List.cons_append,List.nil_append,ouC,List.flatMap_nil]
  repeat (first | refine stN ?_ | intro E)
  exact ae (.inr rfl) rfl rfl rfl rfl rfl rfl
theorem yL (o:List UInt8):aj .neq (.str o) (.str [])=some (.bool (decide (o≠[]))):=by
 simp only [aj,kh]
 cases o<;>rfl
theorem abO (h:CsP b.s):ad (ab FN (k+300)) 237 [.agg (caC b m j n i p v)] (svP j n (b.p2 m i p v)):=by
 have c238:ad (ab FN (k+299)) 238 [csV b.s,.agg [.bool i,.int .i64 p,.int .u32 v]] (oG b.s (b.s.port i p v)):=aaY (k:=k+269) h
 unfold BdI.p2
 rcases hp:b.s.port i p v with _ | ⟨s',r,o⟩
 ·rw [hp] at c238
  have c51:ad (ab FN (k+299)) 51 [.agg (caC b m j n i p v),.int .i64 5] (svP j n (b.err m 5)):=s51 (k:=k+298)
  refine ak Bn fun T H E lv=>?_
  clear hp h
  obtain ⟨c,q,s,x,y⟩:=b
  unfold svP bdV BdI.err at *
  unfold oG at c238
  dsimp only at *
  dsimp only [caC,bdC,svC,lnC,ckC,csC,biC,niC,List.cons_append,List.nil_append,ouC,List.flatMap_nil]
  repeat (first | refine stN ?_ | intro E)
  exact ae (.inr rfl) rfl rfl rfl rfl rfl rfl
 ·rw [hp] at c238
  have hne:=yL o
  have c224:ad (ab FN (k+299)) 224 [.agg (caC { b with s:=s' } m j n i p v),.int .i64 (1:Nat),csl 1 (bS [o])] (csl 5 (ouC 1 j n [o])):=SJ (k:=k+99) (by simp)
  refine ak Bn fun T H E lv=>?_
  clear hp h
  obtain ⟨c,q,s,x,y⟩:=b
  unfold svP bdV
  unfold oG at c238
  dsimp only at *
  by_cases ho:o=[]
  ·subst ho
   rw [if_pos rfl]
   dsimp only [caC,bdC,svC,lnC,ckC,csC,biC,niC,List.cons_append,List.nil_append,ouC,List.flatMap_nil]
   repeat (first | refine stN ?_ | intro E)
   exact ae (.inr rfl) rfl rfl rfl rfl rfl rfl
  ·rw [if_neg ho]
   rw [decide_eq_true ho] at hne
   generalize ouC 1 j n [o]=O at *
   dsimp only [caC,bdC,svC,lnC,ckC,csC,biC,niC,List.cons_append,List.nil_append]
   repeat (first | refine stN ?_ | intro E)
   exact ae (.inr rfl) rfl rfl rfl rfl rfl rfl
end
end Go.Proofs.YtepcejdglbcbkaaGreat
/- What ports, raised lines and alarms keep: of the models. Condition: the parts are valid. -/
namespace Go.Proofs.YtepcejdglbcbkaaGreat
open Go.Abs
section
variable {c:LnI}{j i l v:Nat}{t:Int}
theorem yM (hi:i<4) (hj:j<4):(c.setR j v).R i=if i=j then v else c.R i:=by
 rcases i with _ | _ | _ | _ | i<;>rcases j with _ | _ | _ | _ | j<;>first | rfl | omega
theorem yN (i:Nat):(c.setR j v).M i=c.M i:=by rcases j with _ | _ | _ | j<;>rfl
theorem yO (i:Nat):(c.setR j v).T i=c.T i:=by rcases j with _ | _ | _ | j<;>rfl
theorem ml:(c.setR j v).n=c.n:=by rcases j with _ | _ | _ | j<;>rfl
theorem SK (hi:i<4) (hj:j<4):(c.dU j v).M i=if i=j then v else c.M i:=by
 rcases i with _ | _ | _ | _ | i<;>rcases j with _ | _ | _ | _ | j<;>first | rfl | omega
theorem SL (i:Nat):(c.dU j v).R i=c.R i:=by rcases j with _ | _ | _ | j<;>rfl
theorem SM (i:Nat):(c.dU j v).T i=c.T i:=by rcases j with _ | _ | _ | j<;>rfl
theorem oS:(c.dU j v).n=c.n:=by rcases j with _ | _ | _ | j<;>rfl
theorem SN (hi:i<5) (hj:j<5):(c.setT j t).T i=if i=j then t else c.T i:=by
 rcases i with _ | _ | _ | _ | _ | i<;>rcases j with _ | _ | _ | _ | _ | j<;>first | rfl | omega
theorem SO (i:Nat):(c.setT j t).R i=c.R i:=by rcases j with _ | _ | _ | _ | j<;>rfl
theorem SP (i:Nat):(c.setT j t).M i=c.M i:=by rcases j with _ | _ | _ | _ | j<;>rfl
theorem oT:(c.setT j t).n=c.n:=by rcases j with _ | _ | _ | _ | j<;>rfl
theorem bI.setR (h:bI c) (hj:j<4) (hn:(j:Int)<c.n) (hv:v<32):bI (c.setR j v):=by
 refine ⟨by rw [ml];exact h.n,fun i hi=>?_,fun i hi=>?_⟩
 ·have:=h.k i hi
  unfold LnI.okK at *
  rw [yM hi hj,yN,ml]
  by_cases e:i=j
  ·rw [if_pos e];omega
  ·rw [if_neg e];exact this
 ·have:=h.t i hi
  unfold LnI.okT at *
  rw [yO,ml];exact this
theorem bI.dU (h:bI c) (hj:j<4) (hn:(j:Int)<c.n) (hv:v<32):bI (c.dU j v):=by
 refine ⟨by rw [oS];exact h.n,fun i hi=>?_,fun i hi=>?_⟩
 ·have:=h.k i hi
  unfold LnI.okK at *
  rw [SK hi hj,SL,oS]
  by_cases e:i=j
  ·rw [if_pos e];omega
  ·rw [if_neg e];exact this
 ·have:=h.t i hi
  unfold LnI.okT at *
  rw [SM,oS];exact this
theorem bI.setT (h:bI c) (hj:j=1∨j=2∨j=3) (ht:0≤t∧t<c.n):bI (c.setT j t):=by
 refine ⟨by rw [oT];exact h.n,fun i hi=>?_,fun i hi=>?_⟩
 ·have:=h.k i hi
  unfold LnI.okK at *
  rw [SP,SO,oT];exact this
 ·have:=h.t i hi
  unfold LnI.okT at *
  rw [SN hi (by omega),oT]
  by_cases e:i=j
  ·rw [if_pos e];omega
  ·rw [if_neg e];exact this
theorem bI.at_n (h:bI c) (hl:l<5) (hj:(j:Int)<c.n):((c.at l j:Nat):Int)<c.n:=by
 unfold LnI.at
 split
 ·have:=h.t l hl
  unfold LnI.okT at this;omega
 ·exact hj
theorem bI.n4 (h:bI c) (hj:(j:Int)<c.n):j<4:=by have:=h.n;omega
theorem bI.raise (h:bI c) (hl:l<5) (hj:(j:Int)<c.n):bI (c.raise l j):=by
 have ha:=h.at_n hl hj
 unfold LnI.raise
 exact h.setR (h.n4 ha) ha (tY _ (h.k _ (h.n4 ha)).1 _ hl)
theorem uB:(c.raise l j).n=c.n:=ml
theorem ET (i:Nat):(c.raise l j).M i=c.M i:=yN i
theorem EU (i:Nat):(c.raise l j).T i=c.T i:=yO i
def LnI.sub (c c':LnI):Prop:=c'.n=c.n∧(∀ i,c'.M i=c.M i)∧(∀ i,c'.T i=c.T i)∧∀ i,i<4→c'.R i=c.R i∨∃ l,l<5∧c'.R i=jT (c.R i) l
theorem lf (c:LnI):c.sub c:=⟨rfl,fun _=>rfl,fun _=>rfl,fun _ _=>.inl rfl⟩
theorem bI.raise_sub (h:bI c) (hl:l<5) (hj:(j:Int)<c.n):c.sub (c.raise l j):=by
 refine ⟨uB,ET,EU,fun i hi=>?_⟩
 have ha:=h.n4 (h.at_n hl hj)
 unfold LnI.raise
 rw [yM hi ha]
 split
 ·next e=>rw [← e];exact .inr ⟨l,hl,rfl⟩
 ·exact .inl rfl
theorem bI.port {r:Nat}{c':LnI}{inn:Bool}{p:Int}(h:bI c) (hj:(j:Int)<c.n) (hp:c.port j inn p v=some (c',r)):bI c'∧r<4294967296∧(inn=false→r=0)∧c'.n=c.n:=by
 have h4:=h.n4 hj
 have hk:=h.k j h4
 unfold LnI.okK at hk
 unfold LnI.port at hp
 cases inn
 ·rw [if_neg (by decide)] at hp
  split at hp
  ·cases hp
   exact ⟨h.dU h4 hj (Nat.mod_lt _ (by decide)),by decide,fun _=>rfl,oS⟩
  split at hp
  ·cases hp
   refine ⟨?_,by decide,fun _=>rfl,?_⟩
   ·split
    ·next h5=>exact h.setR h4 hj (tZ _ hk.1 _ h5)
    ·exact h
   ·split
    ·exact ml
    ·rfl
  split at hp
  ·cases hp
   refine ⟨?_,by decide,fun _=>rfl,?_⟩
   ·split
    ·next h5=>exact h.raise (by decide) h5
    ·exact h
   ·split
    ·exact uB
    ·rfl
  split at hp
  ·cases hp
   refine ⟨?_,by decide,fun _=>rfl,?_⟩
   ·split
    ·next h5=>exact h.setT h5.1 ⟨by omega,h5.2⟩
    ·exact h
   ·split
    ·exact oT
    ·rfl
  ·cases hp
 ·rw [if_pos rfl] at hp
  split at hp
  ·cases hp
   exact ⟨h,by omega,fun e=>(by cases e),rfl⟩
  split at hp
  ·cases hp
   refine ⟨h,?_,fun e=>(by cases e),rfl⟩
   unfold LnI.pend
   have:c.R j &&& c.M j≤c.R j:=Nat.and_le_left
   omega
  ·cases hp
end
section
variable {c:CkI}{j i:Nat}{o:Bool}{t:Int}
theorem yP (hi:i<4) (hj:j<4):(c.setO j o).O i=if i=j then o else c.O i:=by
 rcases i with _ | _ | _ | _ | i<;>rcases j with _ | _ | _ | _ | j<;>first | rfl | omega
theorem yQ (i:Nat):(c.setO j o).R i=c.R i:=by rcases j with _ | _ | _ | j<;>rfl
theorem yR (i:Nat):(c.setO j o).A i=c.A i:=by rcases j with _ | _ | _ | j<;>rfl
theorem yS:(c.setO j o).l=c.l:=by rcases j with _ | _ | _ | j<;>rfl
theorem uC (hi:i<4) (hj:j<4):(c.setR j t).R i=if i=j then t else c.R i:=by
 rcases i with _ | _ | _ | _ | i<;>rcases j with _ | _ | _ | _ | j<;>first | rfl | omega
theorem uD (i:Nat):(c.setR j t).O i=c.O i:=by rcases j with _ | _ | _ | j<;>rfl
theorem uE (i:Nat):(c.setR j t).A i=c.A i:=by rcases j with _ | _ | _ | j<;>rfl
theorem uF:(c.setR j t).l=c.l:=by rcases j with _ | _ | _ | j<;>rfl
theorem yT (hi:i<4) (hj:j<4):(c.setA j t).A i=if i=j then t else c.A i:=by
 rcases i with _ | _ | _ | _ | i<;>rcases j with _ | _ | _ | _ | j<;>first | rfl | omega
theorem yU (i:Nat):(c.setA j t).O i=c.O i:=by rcases j with _ | _ | _ | j<;>rfl
theorem yV (i:Nat):(c.setA j t).R i=c.R i:=by rcases j with _ | _ | _ | j<;>rfl
theorem yW:(c.setA j t).l=c.l:=by rcases j with _ | _ | _ | j<;>rfl
def CkI.oth (c c':CkI) (j:Nat):Prop:=∀ i,i<4→i≠j→c'.O i=c.O i∧c'.R i=c.R i∧c'.A i=c.A i
theorem gg (c:CkI) (j:Nat):c.oth c j:=fun _ _ _=>⟨rfl,rfl,rfl⟩
theorem eI.setA (h:eI c) (hj:j<4) (ht:0≤t∧t≤1099511627776):eI (c.setA j t)∧c.oth (c.setA j t) j:=by
 refine ⟨⟨by rw [yW];exact h.l,fun i hi=>?_⟩,fun i hi hne=>?_⟩
 ·have:=h.k i hi
  unfold CkI.okK at *
  rw [yU,yV,yW,yT hi hj]
  by_cases e:i=j
  ·rw [if_pos e];exact ⟨this.1,this.2.1,this.2.2.1,ht.1,ht.2⟩
  ·rw [if_neg e];exact this
 ·rw [yU,yV,yT hi hj,if_neg hne]
  exact ⟨rfl,rfl,rfl⟩
theorem eI.take (h:eI c) (hj:j<4):eI (c.take j)∧c.oth (c.take j) j:=by
 unfold CkI.take
 refine ⟨⟨by rw [uF,yS];exact h.l,fun i hi=>?_⟩,fun i hi hne=>?_⟩
 ·have:=h.k i hi
  have h0:=h.l
  unfold CkI.okK at *
  rw [uD,uE,uF,uC hi hj,yP hi hj,yQ,yR,yS]
  by_cases e:i=j
  ·rw [if_pos e,if_pos e];exact ⟨by omega,by omega,.inr rfl,this.2.2.2⟩
  ·rw [if_neg e,if_neg e];exact this
 ·rw [uD,uE,uC hi hj,yP hi hj,yQ,yR,if_neg hne,if_neg hne]
  exact ⟨rfl,rfl,rfl⟩
theorem EV (n a:Nat):fg n a≤1099511627776:=by
 unfold fg
 split
 ·exact Nat.zero_le _
 ·exact Nat.min_le_right _ _
theorem eI.port {n v:Nat}{inn:Bool}{p:Int}(h:eI c) (hj:j<4):eI (c.port j n inn p v).1∧c.oth (c.port j n inn p v).1 j∧(inn=false→(c.port j n inn p v).2.1=0)∧((c.port j n inn p v).2.2=0∨(c.port j n inn p v).2.2=5∨(c.port j n inn p v).2.2=4∧p=16∧inn=true):=by
 unfold CkI.port
 split
 ·next e=>
  split
  ·exact ⟨(h.take hj).1,(h.take hj).2,fun e2=>(by rw [e.1] at e2;cases e2),.inl rfl⟩
  ·exact ⟨h,gg c j,fun _=>rfl,.inr (.inr ⟨rfl,e.2,e.1⟩)⟩
 ·split
  ·have:=h.setA (t:=(fg n v:Int)) hj ⟨by omega,by have:=EV n v;omega⟩
   exact ⟨this.1,this.2,fun _=>rfl,.inl rfl⟩
  ·exact ⟨h,gg c j,fun _=>rfl,.inr (.inl rfl)⟩
end
theorem CsP.port {c c':CsI}{r v:Nat}{o:List UInt8}{inn:Bool}{p:Int}(h:CsP c) (hp:c.port inn p v=some (c',r,o)):CsP c'∧(inn=false→r=0):=by
 unfold CsI.port at hp
 split at hp
 ·cases hp;exact ⟨h,fun _=>rfl⟩
 split at hp
 ·next e=>
  split at hp
  ·cases hp;exact ⟨h,fun e2=>by rw [e.2] at e2;cases e2⟩
  ·next b t hs=>
   cases hp
   refine ⟨⟨?_,h.2⟩,fun e2=>by rw [e.2] at e2;cases e2⟩
   have:=h.1
   rw [hs] at this
   simp only [List.length_cons] at this
   show t.length≤64
   omega
 split at hp
 ·next e=>cases hp;exact ⟨h,fun e2=>by rw [e.2] at e2;cases e2⟩
 ·cases hp
end Go.Proofs.YtepcejdglbcbkaaGreat
/- The network device of a board: a port, a packet. Condition: the device and the memory are valid. -/
namespace Go.Proofs.YtepcejdglbcbkaaGreat
open Go.Abs
variable {k:Nat}
theorem yX {b s i:Nat}{x:TS}(h:StV x.st):StV (eB b s i x).st:=by
 unfold eB
 split
 ·next he=>
  obtain ⟨_,_,h3,h4⟩:=gY he
  exact .inr ⟨by show 160≤a7 x.m b s i;omega,h4⟩
 ·split
  ·next hm=>exact .inr (SI _ _ _ _ hm)
  ·exact h
theorem uG {b s:Nat}:∀ (n:Nat) (x:TS),StV x.st→StV (dc b s n x).st
 | 0,_,h=>h
 | n+1,x,h=>by
  unfold dc
  split
  ·exact h
  ·exact uG n _ (yX h)
theorem oU (s:Nat):cV s 0:=by
 unfold cV
 by_cases h:dF s
 ·exact .inl ⟨h,by omega,by unfold dF at h;omega⟩
 ·exact .inr ⟨h,rfl⟩
structure NiG (y:NIq) (m:List UInt8) (y':NIq) (m':List UInt8) (v:Nat) (o:List (List UInt8)) (r ok i:Bool):Prop where
 fy:c7 y'=true
 fr:NRq y'
 fm:m'.length=m.length
 fo:o.length≤100
 fv:v<4294967296
 fi:i=false→v=0
 no:ok=false→y'=y∧m'=m∧v=0∧o=[]
theorem wq {tb ts rb rs ta ra st dr:Nat}(h1:tb<4294967296) (h2:ts<4294967296) (h3:rb<4294967296) (h4:rs<4294967296) (p1:cV ts ta) (p2:cV rs ra) (hs:StV st) (hd:dr≤1099511627776):NRq ⟨tb,ts,rb,rs,ta,ra,st,dr⟩:=by
 have q1:(ta:Int)<4294967296:=by rcases p1 with ⟨_,_,h⟩ | ⟨_,h⟩<;>omega
 have q2:(ra:Int)<4294967296:=by rcases p2 with ⟨_,_,h⟩ | ⟨_,h⟩<;>omega
 have q3:(st:Int)<4294967296:=by rcases hs with h | ⟨_,h⟩<;>omega
 exact ⟨h1,h2,h3,h4,⟨by show _≤(ta:Int);omega,by show (ta:Int)<_;omega⟩,⟨by show _≤(ra:Int);omega,by show (ra:Int)<_;omega⟩,⟨by show _≤(st:Int);omega,by show (st:Int)<_;omega⟩,⟨by show _≤(dr:Int);omega,by show (dr:Int)<_;omega⟩⟩
def nI (m:List UInt8) (v:Nat) (o:List (List UInt8)) (r ok:Bool):List AV:=[csl 128 (m.map ofB),.int .u32 v,csl 1 (bS o),.bool r,.bool ok]
theorem dQ {tb ts rb rs ta ra st dr v:Nat}{tb0 ts0 rb0 rs0 ta0 ra0 st0:Nat}{m:List UInt8}{i ok:Bool}(h1:tb<4294967296) (h2:ts<4294967296) (h3:rb<4294967296) (h4:rs<4294967296) (p1:cV ts ta) (p2:cV rs ra) (hs:StV st) (hd:dr≤1099511627776) (hv:v<4294967296) (hi:i=false→v=0) (hok:ok=true) :
 NiG ⟨tb0,ts0,rb0,rs0,ta0,ra0,st0,dr⟩ m ⟨tb,ts,rb,rs,ta,ra,st,dr⟩ m v [] false ok i:=
 ⟨mj hs hd p1 p2,wq h1 h2 h3 h4 p1 p2 hs hd,rfl,Nat.zero_le _,hv,hi,fun e=>by rw [hok] at e;cases e⟩
theorem EW {tb ts rb rs ta ra st dr w:Nat}{m:List UInt8}{i:Bool}{p:Int}(h:VM m) (h1:tb<4294967296) (h2:ts<4294967296) (h3:rb<4294967296) (h4:rs<4294967296) (p1:cV ts ta) (p2:cV rs ra) (hs:StV st) (hd:dr≤1099511627776) (hw:w<4294967296) :
 ∃ (tb' ts' rb' rs' ta' ra' st' v:Nat) (m':List UInt8) (o:List (List UInt8)) (r ok:Bool),gM tb ts rb rs ta ra st dr m i p w=doC tb' ts' rb' rs' ta' ra' st' dr m' v (csl 1 (bS o)) r ok∧NiG ⟨tb,ts,rb,rs,ta,ra,st,dr⟩ m ⟨tb',ts',rb',rs',ta',ra',st',dr⟩ m' v o r ok i:=by
 have q3:st<4294967296:=by rcases hs with h | ⟨_,h⟩<;>omega
 have hb:∀ {i:Bool},NiG ⟨tb,ts,rb,rs,ta,ra,st,dr⟩ m ⟨tb,ts,rb,rs,ta,ra,st,dr⟩ m 0 [] false false i:=⟨mj hs hd p1 p2,wq h1 h2 h3 h4 p1 p2 hs hd,rfl,Nat.zero_le _,by omega,fun _=>rfl,fun _=>⟨rfl,rfl,rfl,rfl⟩⟩
 have hf:true=false→∀ {P:Prop},P:=fun e=>by cases e
 unfold gM
 cases i
 ·rw [if_neg (by decide)]
  split
  ·exact ⟨_,_,_,_,_,_,_,_,_,[],_,_,rfl,dQ hw h2 h3 h4 (oU _) p2 hs hd (by omega) (fun _=>rfl) rfl⟩
  split
  ·exact ⟨_,_,_,_,_,_,_,_,_,[],_,_,rfl,dQ h1 hw h3 h4 (oU _) p2 hs hd (by omega) (fun _=>rfl) rfl⟩
  split
  ·exact ⟨_,_,_,_,_,_,_,_,_,[],_,_,rfl,dQ h1 h2 hw h4 p1 (oU _) hs hd (by omega) (fun _=>rfl) rfl⟩
  split
  ·exact ⟨_,_,_,_,_,_,_,_,_,[],_,_,rfl,dQ h1 h2 h3 hw p1 (oU _) hs hd (by omega) (fun _=>rfl) rfl⟩
  split
  ·split
   ·next hc=>
    refine ⟨_,_,_,_,_,_,_,_,_,[],_,_,rfl,dQ h1 h2 h3 h4 p1 p2 ?_ hd (by omega) (fun _=>rfl) rfl⟩
    rcases ld m.length tb ts with e | e
    ·exact absurd e hc
    ·rw [e];exact .inr ⟨by omega,by omega⟩
   ·next hc=>
    have hrv:=sC h (Decidable.not_not.1 hc)
    have hws:dF ts:=hrv.hs
    obtain ⟨g1,g2,g3⟩:=uA ts ⟨m,[],false,ta,st⟩ ⟨hrv,p1.lt hws⟩
    have g4:=uG (b:=tb) (s:=ts) ts ⟨m,[],false,ta,st⟩ hs
    have hpl:cV ts (dc tb ts ts ⟨m,[],false,ta,st⟩).a:=.inl ⟨hws,by omega,by have:=g1.a;omega⟩
    exact ⟨_,_,_,_,_,_,_,_,_,_,_,_,rfl,mj g4 hd hpl p2,wq h1 h2 h3 h4 hpl p2 g4 hd,g2,by unfold dF at hws;simp at g3;omega,by omega,fun _=>rfl,fun e=>hf e⟩
  ·exact ⟨_,_,_,_,_,_,_,_,_,[],_,_,rfl,hb⟩
 ·rw [if_pos rfl]
  split
  ·exact ⟨_,_,_,_,_,_,_,_,_,[],_,_,rfl,dQ h1 h2 h3 h4 p1 p2 hs hd (by omega) (fun e=>hf e) rfl⟩
  split
  ·exact ⟨_,_,_,_,_,_,_,_,_,[],_,_,rfl,dQ h1 h2 h3 h4 p1 p2 hs hd (by omega) (fun e=>hf e) rfl⟩
  split
  ·exact ⟨_,_,_,_,_,_,_,_,_,[],_,_,rfl,dQ h1 h2 h3 h4 p1 p2 hs hd (by omega) (fun e=>hf e) rfl⟩
  split
  ·exact ⟨_,_,_,_,_,_,_,_,_,[],_,_,rfl,dQ h1 h2 h3 h4 p1 p2 hs hd (by omega) (fun e=>hf e) rfl⟩
  split
  ·exact ⟨_,_,_,_,_,_,0,_,_,[],_,_,rfl,dQ h1 h2 h3 h4 p1 p2 (.inl rfl) hd (by omega) (fun e=>hf e) rfl⟩
  split
  ·exact ⟨_,_,_,_,_,_,_,_,_,[],_,_,rfl,dQ h1 h2 h3 h4 p1 p2 hs hd (Nat.mod_lt _ (by omega)) (fun e=>hf e) rfl⟩
  ·exact ⟨_,_,_,_,_,_,_,_,_,[],_,_,rfl,hb⟩
def wt (y:NIq) (m:List UInt8) (i:Bool) (p:Int) (w:Nat) (y':NIq) (m':List UInt8) (v:Nat) (o:List (List UInt8)) (r ok:Bool):Prop:=
 ∃ tb ts rb rs ta ra st dr tb' ts' rb' rs' ta' ra' st':Nat,(y=⟨tb,ts,rb,rs,ta,ra,st,dr⟩∧y'=⟨tb',ts',rb',rs',ta',ra',st',dr⟩)∧gM tb ts rb rs ta ra st dr m i p w=doC tb' ts' rb' rs' ta' ra' st' dr m' v (csl 1 (bS o)) r ok∧tb<4294967296∧ts<4294967296∧st≤165∧(dF ts→ta<ts)
theorem Ar {y:NIq}{m:List UInt8}{i:Bool}{p:Int}{w:Nat}(hv:c7 y=true) (hr:NRq y) (hm:VM m) (hw:w<4294967296):∃ (y':NIq) (m':List UInt8) (v:Nat) (o:List (List UInt8)) (r ok:Bool),NiG y m y' m' v o r ok i∧wt y m i p w y' m' v o r ok:=by
 have hb1:=hr.tb;have hb2:=hr.ts;have hb3:=hr.rb;have hb4:=hr.rs
 obtain ⟨ta,ra,st,dr,hxe,hst,hdr,hpt,hpr⟩:=wo hv
 obtain ⟨tb,ts,rb,rs,xta,xra,xst,xdr⟩:=y
 dsimp only at *
 simp only [NIq.mk.injEq,true_and] at hxe
 obtain ⟨rfl,rfl,rfl,rfl⟩:=hxe
 obtain ⟨tb',ts',rb',rs',ta',ra',st',v,m',o,r,ok,e,hG⟩:=EW (i:=i) (p:=p) hm hb1 hb2 hb3 hb4 hpt hpr hst hdr hw
 exact ⟨_,m',v,o,r,ok,hG,tb,ts,rb,rs,ta,ra,st,dr,tb',ts',rb',rs',ta',ra',st',⟨rfl,rfl⟩,e,hb1,hb2,by omega,fun h=>hpt.lt h⟩
theorem As {y y':NIq}{m m':List UInt8}{i r ok:Bool}{p:Int}{w v:Nat}{o:List (List UInt8)}(hm:VM m) (h:wt y m i p w y' m' v o r ok):∀ k,ad (ab FN (k+10700)) 253 [niV y,aq m,.agg [.bool i,.int .i64 p,.int .u32 w]] (.tup [niV y',.agg (nI m' v o r ok)]):=by
 obtain ⟨tb,ts,rb,rs,ta,ra,st,dr,tb',ts',rb',rs',ta',ra',st',⟨rfl,rfl⟩,e,h1,h2,h3,h4⟩:=h
 intro k
 have:=abK (k:=k) (tb:=tb) (ts:=ts) (rb:=rb) (rs:=rs) (ta:=ta) (ra:=ra) (st:=st) (dr:=dr) (p:=p) (w:=w) (i:=i) hm h1 h2 h3 h4
 unfold wk at this
 rw [e] at this
 exact this
theorem At {y y':NIq}{m m':List UInt8}{i r ok:Bool}{p:Int}{w v:Nat}{o:List (List UInt8)}(hm:VM m) (h:wt y m i p w y' m' v o r ok):∀ k,ad (ab FN (k+10700)) 56 [niV y,aq m,.agg [.bool i,.int .i64 p,.int .u32 w]] (.agg (niC y'++nI m' v o r ok)):=by
 obtain ⟨tb,ts,rb,rs,ta,ra,st,dr,tb',ts',rb',rs',ta',ra',st',⟨rfl,rfl⟩,e,h1,h2,h3,h4⟩:=h
 intro k
 have:=s56 (k:=k) (tb:=tb) (ts:=ts) (rb:=rb) (rs:=rs) (ta:=ta) (ra:=ra) (st:=st) (dr:=dr) (p:=p) (w:=w) (i:=i) hm h1 h2 h3 h4
 rw [e] at this
 exact this
end Go.Proofs.YtepcejdglbcbkaaGreat
/- What the disk and the network device serve, by the program. Condition: the device answers as it is said. -/
namespace Go.Proofs.YtepcejdglbcbkaaGreat
open Go.Abs
variable {k:Nat}
section
variable {b:BdI}{m m':List UInt8}{j n v v':Nat}{i r ok:Bool}{p:Int}
theorem abP {x':BI}(hc:bI b.c) (h:∀ k,ad (ab FN (k+10800)) 245 [biV b.x,aq m,.agg [.bool i,.int .i64 p,.int .u32 v]] (.tup [biV x',diV ⟨m',v',r,ok⟩])):ad (ab FN (k+10900)) 244 [.agg (caC b m j n i p v)] (svP j n (if ok=true then ⟨{ b with x:=x' }.up 2 r,m',v',0,[],0⟩ else b.err m 5)):=by
 have c245:=(h 0).fuel (show 0+10800≤k+10899 by omega)
 clear h
 cases ok
 ·rw [if_neg (by decide)]
  have c51:ad (ab FN (k+10899)) 51 [.agg (caC b m j n i p v),.int .i64 5] (svP j n (b.err m 5)):=s51 (k:=k+10898)
  refine ak Bo fun T H E lv=>?_
  obtain ⟨c,q,s,x,y⟩:=b
  unfold svP bdV BdI.err at *
  dsimp only at *
  dsimp only [caC,bdC,svC,lnC,ckC,csC,biC,niC,List.cons_append,List.nil_append,ouC,List.flatMap_nil]
  repeat (first | refine stN ?_ | intro E)
  exact ae (.inr rfl) rfl rfl rfl rfl rfl rfl
 ·rw [if_pos rfl]
  have c69:ad (ab FN (k+10899)) 69 [bdV { b with x:=x' },.int .i64 2,.bool r] (bdV ({ b with x:=x' }.up 2 r)):=s69 (k:=k+10859) (b:={ b with x:=x' }) (l:=2) (fun _=>hc) (by unfold dg;omega)
  refine ak Bo fun T H E lv=>?_
  generalize BdI.up { b with x:=x' } 2 r=b2 at *
  obtain ⟨c,q,s,x,y⟩:=b
  obtain ⟨c2,q2,s2,x2,y2⟩:=b2
  unfold svP bdV at *
  dsimp only at *
  dsimp only [caC,bdC,svC,lnC,ckC,csC,biC,niC,List.cons_append,List.nil_append,ouC,List.flatMap_nil]
  repeat (first | refine stN ?_ | intro E)
  exact ae (.inr rfl) rfl rfl rfl rfl rfl rfl
theorem abQ {y':NIq}{o:List (List UInt8)}(ho:o.length≤100) (hc:bI b.c) (h:∀ k,ad (ab FN (k+10700)) 253 [niV b.y,aq m,.agg [.bool i,.int .i64 p,.int .u32 v]] (.tup [niV y',.agg (nI m' v' o r ok)])):ad (ab FN (k+10900)) 252 [.agg (caC b m j n i p v)] (svP j n (if ok=true then ⟨{ b with y:=y' }.up 3 r,m',v',2,o,0⟩ else b.err m 5)):=by
 have c253:=(h 0).fuel (show 0+10700≤k+10899 by omega)
 clear h
 cases ok
 ·rw [if_neg (by decide)]
  have c51:ad (ab FN (k+10899)) 51 [.agg (caC b m j n i p v),.int .i64 5] (svP j n (b.err m 5)):=s51 (k:=k+10898)
  refine ak Br fun T H E lv=>?_
  obtain ⟨c,q,s,x,y⟩:=b
  unfold svP bdV BdI.err at *
  unfold nI at *
  dsimp only at *
  dsimp only [caC,bdC,svC,lnC,ckC,csC,biC,niC,List.cons_append,List.nil_append,ouC,List.flatMap_nil]
  repeat (first | refine stN ?_ | intro E)
  exact ae (.inr rfl) rfl rfl rfl rfl rfl rfl
 ·rw [if_pos rfl]
  have c69:ad (ab FN (k+10899)) 69 [bdV { b with y:=y' },.int .i64 3,.bool r] (bdV ({ b with y:=y' }.up 3 r)):=s69 (k:=k+10859) (b:={ b with y:=y' }) (l:=3) (fun _=>hc) (by unfold dg;omega)
  have c224:ad (ab FN (k+10899)) 224 [.agg (caC { b with y:=y' } m j n i p v),.int .i64 (2:Nat),csl 1 (bS o)] (csl 5 (ouC 2 j n o)):=SJ (k:=k+10699) ho
  refine ak Br fun T H E lv=>?_
  unfold svP
  dsimp only
  generalize ouC 2 j n o=O at *
  generalize BdI.up { b with y:=y' } 3 r=b2 at *
  obtain ⟨c,q,s,x,y⟩:=b
  obtain ⟨c2,q2,s2,x2,y2⟩:=b2
  unfold bdV at *
  unfold nI at *
  dsimp only at *
  dsimp only [caC,bdC,svC,lnC,ckC,csC,biC,niC,List.cons_append,List.nil_append]
  repeat (first | refine stN ?_ | intro E)
  exact ae (.inr rfl) rfl rfl rfl rfl rfl rfl
end
end Go.Proofs.YtepcejdglbcbkaaGreat
