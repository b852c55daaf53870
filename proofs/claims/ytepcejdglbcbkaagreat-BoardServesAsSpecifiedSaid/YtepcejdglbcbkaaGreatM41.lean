/- Part of the texts on which proofs about this seat rest: each says what it proves at its own head. No condition. -/
import Derived.Test.YtepcejdglbcbkaaGreatM40
set_option linter.unusedVariables false
set_option linter.unusedSimpArgs false
set_option maxHeartbeats 8000000
set_option maxRecDepth 100000
/- What is asked of a board, by the program. Condition: the board is valid for the memory. -/
namespace Go.Proofs.YtepcejdglbcbkaaGreat
open Go.Abs
variable {k:Nat}
theorem jv {F:aE}{l:List aa}{s:List (Nat×AV)}{os:List (Nat×List AV)}{T:Nat→AV}{H:Hp}{E:Nat→Option TypeId}{n c d:Nat}{lv:Nat→Bool}{Q:St→Prop}{t:TypeId}{x:X}{cs:List AV}(hx:evL s x=some (.agg cs)) (k:WpO F l ⟨af ((d,.iface t (.agg cs))::s) T,ah os H,E,n,lv,c⟩ Q):WpO F (⟨some d,.mkif t x,none⟩::l) ⟨af s T,ah os H,E,n,lv,c⟩ Q:=
 bw rfl (by simp only [au,aw hx]) k
section
variable {b:BdI}{m:List UInt8}{j n v:Nat}{i:Bool}{p:Int}
def svE (p:Int) (b:BdI) (m:List UInt8) (s0 s1 s2 s3 s4:SvI):SvI:=
 if p<0∨80≤p then b.err m 5 else if p<16 then s0 else if p<32 then s1 else if p<48 then s2 else if p<64 then s3 else s4
theorem s13 {s0 s1 s2 s3 s4:SvI}(hp64:p<9223372036854775808) (h0:∀ k,ad (ab FN (k+10900)) 225 [.agg (caC b m j n i p v)] (svP j n s0)) (h1:∀ k,ad (ab FN (k+10900)) 233 [.agg (caC b m j n i p v)] (svP j n s1)) (h2:∀ k,ad (ab FN (k+10900)) 237 [.agg (caC b m j n i p v)] (svP j n s2)) (h3:∀ k,ad (ab FN (k+10900)) 244 [.agg (caC b m j n i p v)] (svP j n s3)) (h4:∀ k,ad (ab FN (k+10900)) 252 [.agg (caC b m j n i p v)] (svP j n s4)) :
 ad (ab FN (k+10901)) 13 [bdV b,aq m,.int .i64 j,.int .i64 n,.agg [.bool i,.int .i64 p,.int .u32 v]] (svP j n (svE p b m s0 s1 s2 s3 s4)):=by
 refine ak ZZ fun T H E lv=>?_
 unfold svE
 by_cases hp:p<0∨80≤p
 ·rw [if_pos hp]
  have c51:ad (ab FN (k+10900)) 51 [.agg (caC b m j n i p v),.int .i64 5] (svP j n (b.err m 5)):=s51 (k:=k+10899)
  clear h0 h1 h2 h3 h4
  obtain ⟨c,q,s,x,y⟩:=b
  unfold svP bdV BdI.err at *
  dsimp only [caC,bdC,svC,lnC,ckC,csC,biC,niC,List.cons_append,List.nil_append,ouC,List.flatMap_nil] at *
  rcases hp with hp | hp
  ·repeat (first | (first | refine stN ?_ | intro E) | (apply jv;exact rfl))
   exact ae (.inr rfl) rfl rfl rfl rfl rfl rfl
  ·obtain ⟨N,rfl⟩:∃ N:Nat,p=N:=⟨p.toNat,by omega⟩
   have hq:aj .quo (.int .i64 (N:Int)) (.int .i64 16)=some (.int .i64 ((N/16:Nat):Int)):=iD (by omega)
   have hN:5≤N/16:=by omega
   generalize N/16=d at *
   repeat (first | (first | refine stN ?_ | intro E) | (apply jv;exact rfl))
   exact ae (.inr rfl) rfl rfl rfl rfl rfl rfl
 rw [if_neg hp]
 obtain ⟨N,rfl⟩:∃ N:Nat,p=N:=⟨p.toNat,by omega⟩
 have hq:aj .quo (.int .i64 (N:Int)) (.int .i64 16)=some (.int .i64 ((N/16:Nat):Int)):=iD (by omega)
 have hR:∀ {f:FuncId}{s:SvI},(∀ k,ad (ab FN (k+10900)) f [.agg (caC b m j n i N v)] (svP j n s))→ad (ab FN (k+10900)) f [.agg (caC b m j n i N v)] (svP j n s):=fun h=>h k
 obtain h | h | h | h | h:N/16=0∨N/16=1∨N/16=2∨N/16=3∨N/16=4:=by omega
 ·rw [if_pos (by omega)]
  have c:=hR h0
  rw [h] at hq
  clear h0 h1 h2 h3 h4 hR h
  obtain ⟨b2,m2,v2,kd,o,e⟩:=s0
  obtain ⟨c,q,s,x,y⟩:=b
  obtain ⟨c2,q2,s2,x2,y2⟩:=b2
  unfold svP bdV at *
  dsimp only at *
  generalize ouC kd j n o=O at *
  dsimp only [caC,bdC,svC,lnC,ckC,csC,biC,niC,List.cons_append,List.nil_append] at *
  repeat (first | (first | refine stN ?_ | intro E) | (apply jv;exact rfl))
  apply kb
  ·exact rfl
  ·exact rfl
  ·exact rfl
  ·exact rfl
  ·exact rfl
  ·assumption
  repeat (first | refine stN ?_ | intro E)
  exact ae (.inr rfl) rfl rfl rfl rfl rfl rfl
 ·rw [if_neg (by omega),if_pos (by omega)]
  have c:=hR h1
  rw [h] at hq
  clear h0 h1 h2 h3 h4 hR h
  obtain ⟨b2,m2,v2,kd,o,e⟩:=s1
  obtain ⟨c,q,s,x,y⟩:=b
  obtain ⟨c2,q2,s2,x2,y2⟩:=b2
  unfold svP bdV at *
  dsimp only at *
  generalize ouC kd j n o=O at *
  dsimp only [caC,bdC,svC,lnC,ckC,csC,biC,niC,List.cons_append,List.nil_append] at *
  repeat (first | (first | refine stN ?_ | intro E) | (apply jv;exact rfl))
  apply kb
  ·exact rfl
  ·exact rfl
  ·exact rfl
  ·exact rfl
  ·exact rfl
  ·assumption
  repeat (first | refine stN ?_ | intro E)
  exact ae (.inr rfl) rfl rfl rfl rfl rfl rfl
 ·rw [if_neg (by omega),if_neg (by omega),if_pos (by omega)]
  have c:=hR h2
  rw [h] at hq
  clear h0 h1 h2 h3 h4 hR h
  obtain ⟨b2,m2,v2,kd,o,e⟩:=s2
  obtain ⟨c,q,s,x,y⟩:=b
  obtain ⟨c2,q2,s2,x2,y2⟩:=b2
  unfold svP bdV at *
  dsimp only at *
  generalize ouC kd j n o=O at *
  dsimp only [caC,bdC,svC,lnC,ckC,csC,biC,niC,List.cons_append,List.nil_append] at *
  repeat (first | (first | refine stN ?_ | intro E) | (apply jv;exact rfl))
  apply kb
  ·exact rfl
  ·exact rfl
  ·exact rfl
  ·exact rfl
  ·exact rfl
  ·assumption
  repeat (first | refine stN ?_ | intro E)
  exact ae (.inr rfl) rfl rfl rfl rfl rfl rfl
 ·rw [if_neg (by omega),if_neg (by omega),if_neg (by omega),if_pos (by omega)]
  have c:=hR h3
  rw [h] at hq
  clear h0 h1 h2 h3 h4 hR h
  obtain ⟨b2,m2,v2,kd,o,e⟩:=s3
  obtain ⟨c,q,s,x,y⟩:=b
  obtain ⟨c2,q2,s2,x2,y2⟩:=b2
  unfold svP bdV at *
  dsimp only at *
  generalize ouC kd j n o=O at *
  dsimp only [caC,bdC,svC,lnC,ckC,csC,biC,niC,List.cons_append,List.nil_append] at *
  repeat (first | (first | refine stN ?_ | intro E) | (apply jv;exact rfl))
  apply kb
  ·exact rfl
  ·exact rfl
  ·exact rfl
  ·exact rfl
  ·exact rfl
  ·assumption
  repeat (first | refine stN ?_ | intro E)
  exact ae (.inr rfl) rfl rfl rfl rfl rfl rfl
 ·rw [if_neg (by omega),if_neg (by omega),if_neg (by omega),if_neg (by omega)]
  have c:=hR h4
  rw [h] at hq
  clear h0 h1 h2 h3 h4 hR h
  obtain ⟨b2,m2,v2,kd,o,e⟩:=s4
  obtain ⟨c,q,s,x,y⟩:=b
  obtain ⟨c2,q2,s2,x2,y2⟩:=b2
  unfold svP bdV at *
  dsimp only at *
  generalize ouC kd j n o=O at *
  dsimp only [caC,bdC,svC,lnC,ckC,csC,biC,niC,List.cons_append,List.nil_append] at *
  repeat (first | (first | refine stN ?_ | intro E) | (apply jv;exact rfl))
  apply kb
  ·exact rfl
  ·exact rfl
  ·exact rfl
  ·exact rfl
  ·exact rfl
  ·assumption
  repeat (first | refine stN ?_ | intro E)
  exact ae (.inr rfl) rfl rfl rfl rfl rfl rfl
end
end Go.Proofs.YtepcejdglbcbkaaGreat
/- What the lines, the clock, the console serve, by the reference. Condition: the board is valid. -/
namespace Go.Proofs.YtepcejdglbcbkaaGreat
open Go.Abs
variable {k:Nat}
section
variable {b:BdI}{m:List UInt8}{j n v N:Nat}{i:Bool}
theorem abR (hN:N<16) (h:bI b.c) (hj:j<4) (hv:v<4294967296):ad (ab FN (k+300)) 53 [bdV b,aq m,.int .i64 j,.int .i64 n,.agg [.bool i,.int .i64 N,.int .u32 v]] (svR j n (b.p0 m j i N v)):=by
 have hq:aj .quo (.int .i64 (N:Int)) (.int .i64 16)=some (.int .i64 (0:Nat)):=by
  have:aj .quo (.int .i64 (N:Int)) (.int .i64 16)=some (.int .i64 ((N/16:Nat):Int)):=iD (by omega)
  rw [this];congr 3;omega
 have c110:ad (ab FN (k+299)) 110 [lnV b.c,.int .i64 j,.agg [.bool i,.int .i64 N,.int .u32 v]] (gf b.c (b.c.port j i N v)):=aaK (k:=k+238) h hj hv
 unfold BdI.p0
 rcases hp:b.c.port j i N v with _ | ⟨c',r⟩
 ·rw [hp] at c110
  have c52:ad (ab FN (k+299)) 52 [bdV b,aq m,.int .i64 5] (svR j n (b.err m 5)):=s52 (k:=k+298)
  refine ak pg fun T H E lv=>?_
  clear hp h
  obtain ⟨c,q,s,x,y⟩:=b
  unfold svR bdV BdI.err at *
  unfold gf at c110
  dsimp only at *
  dsimp only [aq,bdC,svC,lnC,ckC,csC,biC,niC,List.cons_append,List.nil_append,ouC,List.flatMap_nil] at *
  repeat (first | refine stN ?_ | intro E)
  exact ae (.inr rfl) rfl rfl rfl rfl rfl rfl
 ·rw [hp] at c110
  refine ak pg fun T H E lv=>?_
  clear hp h
  obtain ⟨c,q,s,x,y⟩:=b
  unfold svR bdV
  unfold gf at c110
  dsimp only at *
  dsimp only [aq,bdC,svC,lnC,ckC,csC,biC,niC,List.cons_append,List.nil_append,ouC,List.flatMap_nil] at *
  repeat (first | refine stN ?_ | intro E)
  exact ae (.inr rfl) rfl rfl rfl rfl rfl rfl
theorem abS (hN:16≤N∧N<32) (h:eI b.k) (hj:j<4) (hn:n≤1099511627776) (hv:v<4294967296):ad (ab FN (k+300)) 53 [bdV b,aq m,.int .i64 j,.int .i64 n,.agg [.bool i,.int .i64 N,.int .u32 v]] (svR j n (b.p1 m j n i N v)):=by
 have hq:aj .quo (.int .i64 (N:Int)) (.int .i64 16)=some (.int .i64 (1:Nat)):=by
  have:aj .quo (.int .i64 (N:Int)) (.int .i64 16)=some (.int .i64 ((N/16:Nat):Int)):=iD (by omega)
  rw [this];congr 3;omega
 have c111:ad (ab FN (k+299)) 111 [ckV b.k,.int .i64 j,.int .i64 n,.agg [.bool i,.int .i64 N,.int .u32 v]] (iK (b.k.port j n i N v).1 (b.k.port j n i N v).2.1 false (b.k.port j n i N v).2.2):=aaS (k:=k+259) h hj hn hv
 unfold BdI.p1
 generalize (b.k.port j n i N v).1=q' at *
 generalize (b.k.port j n i N v).2.1=r at *
 generalize (b.k.port j n i N v).2.2=e at *
 unfold iK at *
 by_cases he:e=0
 ·subst he
  rw [if_pos rfl]
  refine ak pg fun T H E lv=>?_
  clear h
  obtain ⟨c,q,s,x,y⟩:=b
  unfold svR bdV
  dsimp only at *
  dsimp only [aq,bdC,svC,lnC,ckC,csC,biC,niC,List.cons_append,List.nil_append,ouC,List.flatMap_nil] at *
  repeat (first | refine stN ?_ | intro E)
  exact ae (.inr rfl) rfl rfl rfl rfl rfl rfl
 ·rw [if_neg he]
  have c52:ad (ab FN (k+299)) 52 [bdV b,aq m,.int .i64 e] (svR j n (b.err m e)):=s52 (k:=k+298)
  refine ak pg fun T H E lv=>?_
  clear h
  obtain ⟨c,q,s,x,y⟩:=b
  unfold svR bdV BdI.err at *
  dsimp only at *
  dsimp only [aq,bdC,svC,lnC,ckC,csC,biC,niC,List.cons_append,List.nil_append,ouC,List.flatMap_nil] at *
  repeat (first | refine stN ?_ | intro E)
  exact ae (.inr rfl) rfl rfl rfl rfl rfl rfl
theorem abT (hN:32≤N∧N<48) (h:CsP b.s) (hv:v<4294967296):ad (ab FN (k+300)) 53 [bdV b,aq m,.int .i64 j,.int .i64 n,.agg [.bool i,.int .i64 N,.int .u32 v]] (svR j n (b.p2 m i N v)):=by
 have hq:aj .quo (.int .i64 (N:Int)) (.int .i64 16)=some (.int .i64 (2:Nat)):=by
  have:aj .quo (.int .i64 (N:Int)) (.int .i64 16)=some (.int .i64 ((N/16:Nat):Int)):=iD (by omega)
  rw [this];congr 3;omega
 have c112:ad (ab FN (k+299)) 112 [csV b.s,.agg [.bool i,.int .i64 N,.int .u32 v]] (oF b.s (b.s.port i N v)):=aaT (k:=k+298) h hv
 unfold BdI.p2
 rcases hp:b.s.port i N v with _ | ⟨s',r,o⟩
 ·rw [hp] at c112
  have c52:ad (ab FN (k+299)) 52 [bdV b,aq m,.int .i64 5] (svR j n (b.err m 5)):=s52 (k:=k+298)
  refine ak pg fun T H E lv=>?_
  clear hp h
  obtain ⟨c,q,s,x,y⟩:=b
  unfold svR bdV BdI.err at *
  unfold oF at c112
  dsimp only at *
  dsimp only [aq,bdC,svC,lnC,ckC,csC,biC,niC,List.cons_append,List.nil_append,ouC,List.flatMap_nil] at *
  repeat (first | refine stN ?_ | intro E)
  exact ae (.inr rfl) rfl rfl rfl rfl rfl rfl
 ·rw [hp] at c112
  have hne:=yL o
  have c57:ad (ab FN (k+299)) 57 [.int .i64 (1:Nat),.int .i64 j,.int .i64 n,csl 1 (bS [o])] (csl 5 (ouC 1 j n [o])):=s57 (k:=k+99) (by simp)
  refine ak pg fun T H E lv=>?_
  clear hp h
  obtain ⟨c,q,s,x,y⟩:=b
  unfold svR bdV
  unfold oF at c112
  dsimp only at *
  by_cases ho:o=[]
  ·subst ho
   rw [if_pos rfl]
   dsimp only [aq,bdC,svC,lnC,ckC,csC,biC,niC,List.cons_append,List.nil_append,ouC,List.flatMap_nil] at *
   repeat (first | refine stN ?_ | intro E)
   exact ae (.inr rfl) rfl rfl rfl rfl rfl rfl
  ·rw [if_neg ho]
   rw [decide_eq_true ho] at hne
   generalize ouC 1 j n [o]=O at *
   dsimp only [aq,bdC,svC,lnC,ckC,csC,biC,niC,List.cons_append,List.nil_append] at *
   repeat (first | refine stN ?_ | intro E)
   exact ae (.inr rfl) rfl rfl rfl rfl rfl rfl
end
end Go.Proofs.YtepcejdglbcbkaaGreat
/- What is asked of a board, by the reference. Condition: the parts answer as it is said. -/
namespace Go.Proofs.YtepcejdglbcbkaaGreat
open Go.Abs
variable {k:Nat}
section
variable {b:BdI}{m m3 m4:List UInt8}{j n v v3 v4:Nat}{i r3 ok3 r4 ok4:Bool}{p:Int}
theorem s14 {s0 s1 s2:SvI}{x':BI}{y':NIq}{o:List (List UInt8)}(hc:bI b.c) (ho:o.length≤100)
 (h0:0≤p∧p<16→∀ k,ad (ab FN (k+300)) 53 [bdV b,aq m,.int .i64 j,.int .i64 n,.agg [.bool i,.int .i64 p,.int .u32 v]] (svR j n s0))
 (h1:16≤p∧p<32→∀ k,ad (ab FN (k+300)) 53 [bdV b,aq m,.int .i64 j,.int .i64 n,.agg [.bool i,.int .i64 p,.int .u32 v]] (svR j n s1))
 (h2:32≤p∧p<48→∀ k,ad (ab FN (k+300)) 53 [bdV b,aq m,.int .i64 j,.int .i64 n,.agg [.bool i,.int .i64 p,.int .u32 v]] (svR j n s2))
 (h3:∀ k,ad (ab FN (k+10800)) 54 [biV b.x,aq m,.agg [.bool i,.int .i64 p,.int .u32 v]] (.agg (biC x'++diC ⟨m3,v3,r3,ok3⟩)))
 (h4:∀ k,ad (ab FN (k+10700)) 56 [niV b.y,aq m,.agg [.bool i,.int .i64 p,.int .u32 v]] (.agg (niC y'++nI m4 v4 o r4 ok4))) :
 ad (ab FN (k+10901)) 14 [bdV b,aq m,.int .i64 j,.int .i64 n,.agg [.bool i,.int .i64 p,.int .u32 v]] (svR j n (svE p b m s0 s1 s2 (if ok3=true then ⟨{ b with x:=x' }.up 2 r3,m3,v3,0,[],0⟩ else b.err m 5) (if ok4=true then ⟨{ b with y:=y' }.up 3 r4,m4,v4,2,o,0⟩ else b.err m 5))):=by
 have c52:ad (ab FN (k+10900)) 52 [bdV b,aq m,.int .i64 5] (svR j n (b.err m 5)):=s52 (k:=k+10899)
 refine ak Z0 fun T H E lv=>?_
 unfold svE
 by_cases hp:p<0∨80≤p
 ·rw [if_pos hp]
  clear h0 h1 h2 h3 h4
  obtain ⟨c,q,s,x,y⟩:=b
  unfold svR bdV BdI.err at *
  dsimp only [aq,bdC,svC,lnC,ckC,csC,biC,niC,List.cons_append,List.nil_append,ouC,List.flatMap_nil] at *
  rcases hp with hp | hp
  ·repeat (first | refine stN ?_ | intro E)
   exact ae (.inr rfl) rfl rfl rfl rfl rfl rfl
  ·repeat (first | refine stN ?_ | intro E)
   exact ae (.inr rfl) rfl rfl rfl rfl rfl rfl
 rw [if_neg hp]
 by_cases g0:p<48
 ·have key:∀ s:SvI,(∀ k,ad (ab FN (k+300)) 53 [bdV b,aq m,.int .i64 j,.int .i64 n,.agg [.bool i,.int .i64 p,.int .u32 v]] (svR j n s))→Wp (ab FN (k+10900)) (k+10900) f14.body ⟨af (cL 0 [bdV b,aq m,.int .i64 j,.int .i64 n,.agg [.bool i,.int .i64 p,.int .u32 v]]) T,ah [] H,E,0,lv,4⟩ (Ret f14 (svR j n s)):=by
   intro s hs
   have c53:=(hs 0).fuel (show 0+300≤k+10900 by omega)
   clear h0 h1 h2 h3 h4 hs
   obtain ⟨b2,m2,v2,kd,o2,e⟩:=s
   obtain ⟨c,q,s,x,y⟩:=b
   obtain ⟨c2,q2,s2,x2,y2⟩:=b2
   unfold svR bdV at *
   dsimp only at *
   generalize ouC kd j n o2=O at *
   dsimp only [aq,bdC,svC,lnC,ckC,csC,biC,niC,List.cons_append,List.nil_append] at *
   repeat (first | refine stN ?_ | intro E)
   exact ae (.inr rfl) rfl rfl rfl rfl rfl rfl
  by_cases g1:p<16
  ·rw [if_pos g1]
   exact key s0 (h0 ⟨by omega,g1⟩)
  rw [if_neg g1]
  by_cases g2:p<32
  ·rw [if_pos g2]
   exact key s1 (h1 ⟨by omega,g2⟩)
  rw [if_neg g2,if_pos g0]
  exact key s2 (h2 ⟨by omega,g0⟩)
 rw [if_neg (by omega),if_neg (by omega),if_neg g0]
 clear h0 h1 h2
 by_cases g3:p<64
 ·rw [if_pos g3]
  clear h4
  have c54:=(h3 0).fuel (show 0+10800≤k+10900 by omega)
  clear h3
  cases ok3
  ·rw [if_neg (by decide)]
   obtain ⟨c,q,s,x,y⟩:=b
   unfold svR bdV BdI.err at *
   dsimp only at *
   dsimp only [aq,bdC,svC,lnC,ckC,csC,biC,niC,diC,List.cons_append,List.nil_append,ouC,List.flatMap_nil] at *
   repeat (first | refine stN ?_ | intro E)
   exact ae (.inr rfl) rfl rfl rfl rfl rfl rfl
  ·rw [if_pos rfl]
   have c55:ad (ab FN (k+10900)) 55 [bdV { b with x:=x' },.int .i64 2,.bool r3] (bdV ({ b with x:=x' }.up 2 r3)):=s55 (k:=k+10860) (b:={ b with x:=x' }) (l:=2) (fun _=>hc) (by unfold dg;omega)
   clear c52 hc
   generalize BdI.up { b with x:=x' } 2 r3=b2 at *
   obtain ⟨c,q,s,x,y⟩:=b
   obtain ⟨c2,q2,s2,x2,y2⟩:=b2
   unfold svR bdV at *
   dsimp only at *
   dsimp only [aq,bdC,svC,lnC,ckC,csC,biC,niC,diC,List.cons_append,List.nil_append,ouC,List.flatMap_nil] at *
   repeat (first | refine stN ?_ | intro E)
   exact ae (.inr rfl) rfl rfl rfl rfl rfl rfl
 ·rw [if_neg g3]
  clear h3
  have c56:=(h4 0).fuel (show 0+10700≤k+10900 by omega)
  clear h4
  unfold nI at *
  cases ok4
  ·rw [if_neg (by decide)]
   obtain ⟨c,q,s,x,y⟩:=b
   unfold svR bdV BdI.err at *
   dsimp only at *
   dsimp only [aq,bdC,svC,lnC,ckC,csC,biC,niC,List.cons_append,List.nil_append,ouC,List.flatMap_nil] at *
   repeat (first | refine stN ?_ | intro E)
   exact ae (.inr rfl) rfl rfl rfl rfl rfl rfl
  ·rw [if_pos rfl]
   have c55:ad (ab FN (k+10900)) 55 [bdV { b with y:=y' },.int .i64 3,.bool r4] (bdV ({ b with y:=y' }.up 3 r4)):=s55 (k:=k+10860) (b:={ b with y:=y' }) (l:=3) (fun _=>hc) (by unfold dg;omega)
   have c57:ad (ab FN (k+10900)) 57 [.int .i64 (2:Nat),.int .i64 j,.int .i64 n,csl 1 (bS o)] (csl 5 (ouC 2 j n o)):=s57 (k:=k+10700) ho
   clear c52 hc
   unfold svR
   dsimp only
   generalize ouC 2 j n o=O at *
   generalize BdI.up { b with y:=y' } 3 r4=b2 at *
   obtain ⟨c,q,s,x,y⟩:=b
   obtain ⟨c2,q2,s2,x2,y2⟩:=b2
   unfold bdV at *
   dsimp only at *
   dsimp only [aq,bdC,svC,lnC,ckC,csC,biC,niC,List.cons_append,List.nil_append] at *
   repeat (first | refine stN ?_ | intro E)
   exact ae (.inr rfl) rfl rfl rfl rfl rfl rfl
end
end Go.Proofs.YtepcejdglbcbkaaGreat
/- What is asked of a board that is valid for a memory: what it comes to, by the program and by the reference. Condition: the board is valid for the memory. -/
namespace Go.Proofs.YtepcejdglbcbkaaGreat
open Go.Abs
variable {k:Nat}
structure mM (b:BdI) (m:List UInt8) (j:Nat) (i:Bool) (p:Int) (s:SvI):Prop where
 len:s.m.length=m.length
 cn:s.b.c.n=b.c.n
 dl:s.b.x.d=b.x.d
 err:s.e≠0→s.b=b∧s.m=m∧s.v=0∧s.o=[]∧(s.e=5∨s.e=4∧p=16∧i=true)
 rng:s.e=0→0≤p∧p<80
 clk:¬ (16≤p∧p<32)→s.b.k=b.k
 con:¬ (32≤p∧p<48)→s.b.s=b.s
 blk:¬ (48≤p∧p<64)→s.b.x=b.x
 nic:¬ 64≤p→s.b.y=b.y
 mem:p<48→s.m=m
 ctl:¬ p<16→b.c.sub s.b.c∧(p<48→s.b.c=b.c)
 out:s.o=[]∨(32≤p∧p<48∧s.kd=1)∨(64≤p∧s.kd=2)
 ol:s.o.length≤100
 iv:i=false→s.v=0
 vv:s.v<4294967296
 oth:b.k.oth s.b.k j
theorem mN {b:BdI}{m:List UInt8}{j:Nat}{i:Bool}{p e:Int}(he:e=5∨e=4∧p=16∧i=true):mM b m j i p (b.err m e):=
 ⟨rfl,rfl,rfl,fun _=>⟨rfl,rfl,rfl,rfl,he⟩,fun h=>by rcases he with he | he<;>(have h:e=0:=h;omega),fun _=>rfl,fun _=>rfl,fun _=>rfl,fun _=>rfl,fun _=>rfl,fun _=>⟨lf _,fun _=>rfl⟩,.inl rfl,Nat.zero_le _,fun _=>rfl,by show (0:Nat)<_;omega,gg _ _⟩
theorem SQ {m m' d:List UInt8}{b s a:Nat}{st:Int}{f:List RI}(h:Rt m b s a st d f) (hm:m'.length=m.length):Rt m' b s a st d f:=
 h.next hm h.hb h.hs rfl h.at0 h.st h.f fun _ hr=>h.right hr
theorem z32:(0:Nat)<4294967296:=by decide
theorem abU {m d:List UInt8}{b s a val:Nat}{st port:Int}{f:List RI}{i:Bool}{P:PO}(h:Rt m b s a st d f) (hP:dT b s ((d.map ofB).length/128) ⟨a,st,f,m,false⟩ i port val=P) :
 P.m.length=m.length∧(P.ok=false→P.b=b∧P.s=s∧P.a=a∧P.st=st∧P.f=f∧P.m=m∧P.v=0)∧(i=false→P.v=0)∧P.v<4294967296:=by
 have hb:=h.hb
 have hs:=h.hs
 have hst:st.toNat<4294967296:=by have:=h.st;omega
 have hl:=h.nr.len
 have hf:∀ {Q:Prop},true=false→Q:=fun e=>by cases e
 subst hP
 unfold dT
 cases i
 ·rw [if_neg (by decide)]
  split
  ·exact ⟨rfl,fun e=>hf e,fun _=>rfl,z32⟩
  split
  ·exact ⟨rfl,fun e=>hf e,fun _=>rfl,z32⟩
  split
  ·exact ⟨hl,fun e=>hf e,fun _=>rfl,z32⟩
  ·exact ⟨rfl,fun _=>⟨rfl,rfl,rfl,rfl,rfl,rfl,rfl⟩,fun _=>rfl,z32⟩
 ·rw [if_pos rfl]
  split
  ·exact ⟨rfl,fun e=>hf e,fun e=>hf e,hb⟩
  split
  ·exact ⟨rfl,fun e=>hf e,fun e=>hf e,hs⟩
  split
  ·exact ⟨rfl,fun e=>hf e,fun e=>hf e,hst⟩
  ·exact ⟨rfl,fun _=>⟨rfl,rfl,rfl,rfl,rfl,rfl,rfl⟩,fun e=>hf e,z32⟩
theorem abV {m d:List UInt8}{b s a val:Nat}{st port:Int}{f:List RI}{i:Bool}(h:Rt m b s a st d f) (hv:val<4294967296) {P:PO}(hP:dT b s ((d.map ofB).length/128) ⟨a,st,f,m,false⟩ i port val=P):Rt P.m P.b P.s P.a P.st d P.f:=by
 have hr:∀ r∈f,ez m.length ((d.map ofB).length/128) r:=fun r hr=>h.right hr
 have hn:=h.nr
 subst hP
 unfold dT
 cases i
 ·rw [if_neg (by simp)]
  split
  ·exact h.next rfl hv h.hs rfl (.inl rfl) h.st h.f hr
  ·split
   ·exact h.next rfl h.hb hv rfl (.inl rfl) h.st h.f hr
   ·split
    ·exact h.next hn.len h.hb h.hs rfl hn.a hn.st hn.f hn.right
    ·exact h
 ·rw [if_pos rfl]
  split
  ·exact h
  ·split
   ·exact h
   ·split
    ·exact h.next rfl h.hb h.hs rfl h.at0 (.inl rfl) h.f hr
    ·exact h
theorem abW {m d:List UInt8}{b s a val:Nat}{st port:Int}{f:List RI}{i:Bool}(h:Rt m b s a st d f) {P:PO}(hP:dT b s ((d.map ofB).length/128) ⟨a,st,f,m,false⟩ i port val=P) (k:Nat):ad (ab FN (k+10800)) 245 [biV ⟨b,s,a,st,d,f⟩,aq m,.agg [.bool i,.int .i64 port,.int .u32 val]] (.tup [biV ⟨P.b,P.s,P.a,P.st,d,P.f⟩,diV ⟨P.m,P.v,P.r,P.ok⟩]):=by
 have hst:0≤st∧st<4294967296:=by have:=h.st;omega
 subst hP
 cases i
 ·exact Zm (k:=k) (port:=port) (val:=val) h.vm h.hb h.hs h.at h.eh h.f
 ·exact Zl (k:=k) (port:=port) (val:=val) hst
theorem abX {m d:List UInt8}{b s a val:Nat}{st port:Int}{f:List RI}{i:Bool}(h:Rt m b s a st d f) {P:PO}(hP:dT b s ((d.map ofB).length/128) ⟨a,st,f,m,false⟩ i port val=P) (k:Nat):ad (ab FN (k+10800)) 54 [biV ⟨b,s,a,st,d,f⟩,aq m,.agg [.bool i,.int .i64 port,.int .u32 val]] (.agg (biC ⟨P.b,P.s,P.a,P.st,d,P.f⟩++diC ⟨P.m,P.v,P.r,P.ok⟩)):=by
 have hst:0≤st∧st<4294967296:=by have:=h.st;omega
 subst hP
 cases i
 ·exact abx (k:=k) (port:=port) (val:=val) h.vm h.hb h.hs h.at h.eh h.f
 ·exact abw (k:=k) (port:=port) (val:=val) hst
theorem Au {b:BdI}{l:Nat}{is:Bool}(h:bI b.c) (hl:l<5):bI (b.up l is).c∧b.c.sub (b.up l is).c:=by
 have h0:=h.n
 unfold BdI.up
 split
 ·exact ⟨h.raise hl (by omega),h.raise_sub hl (by omega)⟩
 ·exact ⟨h,lf _⟩
theorem Av {b:BdI}{l:Nat}{is:Bool}:(b.up l is).k=b.k∧(b.up l is).s=b.s∧(b.up l is).x=b.x∧(b.up l is).y=b.y:=by
 unfold BdI.up
 split<;>exact ⟨rfl,rfl,rfl,rfl⟩
theorem BC {b:BdI}{m:List UInt8}{l:Nat}{is:Bool}(h:eK b m) (hl:l<5):eK (b.up l is) m:=by
 obtain ⟨r1,r2,r3,r4⟩:=Av (b:=b) (l:=l) (is:=is)
 exact ⟨(Au h.c hl).1,by rw [r1];exact h.k,by rw [r2];exact h.s,by rw [r3];exact h.x,by rw [r4];exact h.y,by rw [r4];exact h.r⟩
theorem Zr {b:BdI}{m:List UInt8}{j v:Nat}{i:Bool}{p:Int}(h:eK b m) (hj:(j:Int)<b.c.n) (hp:0≤p∧p<16):eK (b.p0 m j i p v).b (b.p0 m j i p v).m∧mM b m j i p (b.p0 m j i p v):=by
 unfold BdI.p0
 rcases hq:b.c.port j i p v with _ | ⟨c',r⟩
 ·exact ⟨h,mN (.inl rfl)⟩
 ·obtain ⟨h1,h2,h3,h4⟩:=h.c.port hj hq
  exact ⟨⟨h1,h.k,h.s,h.x,h.y,h.r⟩,⟨rfl,h4,rfl,fun e=>absurd rfl e,fun _=>⟨hp.1,by omega⟩,fun _=>rfl,fun _=>rfl,fun _=>rfl,fun _=>rfl,fun _=>rfl,fun e=>absurd hp.2 e,.inl rfl,Nat.zero_le _,h3,h2,gg _ _⟩⟩
theorem Zs {b:BdI}{m:List UInt8}{j n v:Nat}{i:Bool}{p:Int}(h:eK b m) (hj:j<4) (hv:∀ r,(b.k.port j n i p v).2.1=r→r<4294967296) (hp:16≤p∧p<32):eK (b.p1 m j n i p v).b (b.p1 m j n i p v).m∧mM b m j i p (b.p1 m j n i p v):=by
 obtain ⟨h1,h2,h3,h4⟩:=h.k.port (n:=n) (v:=v) (inn:=i) (p:=p) hj
 unfold BdI.p1
 split
 ·exact ⟨⟨h.c,h1,h.s,h.x,h.y,h.r⟩,⟨rfl,rfl,rfl,fun e=>absurd rfl e,fun _=>⟨by omega,by omega⟩,fun e=>absurd hp e,fun _=>rfl,fun _=>rfl,fun _=>rfl,fun _=>rfl,fun _=>⟨lf _,fun _=>rfl⟩,.inl rfl,Nat.zero_le _,h3,hv _ rfl,h2⟩⟩
 ·next e=>exact ⟨h,mN (h4.resolve_left e)⟩
theorem Zt {b:BdI}{m:List UInt8}{j v:Nat}{i:Bool}{p:Int}(h:eK b m) (hp:32≤p∧p<48):eK (b.p2 m i p v).b (b.p2 m i p v).m∧mM b m j i p (b.p2 m i p v):=by
 unfold BdI.p2
 rcases hq:b.s.port i p v with _ | ⟨s',r,o⟩
 ·exact ⟨h,mN (.inl rfl)⟩
 ·obtain ⟨h1,h2⟩:=h.s.port hq
  have hr:r<4294967296:=by
   have h64:=h.s.1
   unfold CsI.port at hq
   split at hq
   ·cases hq;decide
   split at hq
   ·split at hq
    ·cases hq;decide
    ·next u t _=>cases hq;have:=u.toNat_lt;omega
   split at hq
   ·cases hq;omega
   ·cases hq
  refine ⟨⟨h.c,h.k,h1,h.x,h.y,h.r⟩,⟨rfl,rfl,rfl,fun e=>absurd rfl e,fun _=>⟨by omega,by omega⟩,fun _=>rfl,fun e=>absurd hp e,fun _=>rfl,fun _=>rfl,fun _=>rfl,fun _=>⟨lf _,fun _=>rfl⟩,.inr (.inl ⟨hp.1,hp.2,rfl⟩),?_,h2,hr,gg _ _⟩⟩
  dsimp only
  split<;>simp
structure PW where
 y:NIq
 m:List UInt8
 v:Nat
 o:List (List UInt8)
 r:Bool
 ok:Bool
def im (b:BdI) (m:List UInt8) (j n:Nat) (i:Bool) (p:Int) (v:Nat) (P:PO) (W:PW):SvI:=
 svE p b m (b.p0 m j i p v) (b.p1 m j n i p v) (b.p2 m i p v) (if P.ok=true then ⟨{ b with x:=⟨P.b,P.s,P.a,P.st,b.x.d,P.f⟩ }.up 2 P.r,P.m,P.v,0,[],0⟩ else b.err m 5) (if W.ok=true then ⟨{ b with y:=W.y }.up 3 W.r,W.m,W.v,2,W.o,0⟩ else b.err m 5)
structure Ans (b:BdI) (m:List UInt8) (j n:Nat) (i:Bool) (p:Int) (v:Nat) (P:PO) (W:PW):Prop where
 ok:eK (im b m j n i p v P W).b (im b m j n i p v P W).m
 g:mM b m j i p (im b m j n i p v P W)
 o:W.o.length≤100
 e:wt b.y m i p v W.y W.m W.v W.o W.r W.ok
 p:∃ a:Nat,b.x.at'=a∧dT b.x.b b.x.s ((b.x.d.map ofB).length/128) ⟨a,b.x.st,b.x.f,m,false⟩ i p v=P
theorem EX {b:BdI}{m:List UInt8}{j n v:Nat}{i:Bool}{p:Int}(h:eK b m) (hj:(j:Int)<b.c.n) (hv:v<4294967296):∃ P W,Ans b m j n i p v P W:=by
 have h4:=h.c.n4 hj
 obtain ⟨a,ha,hx⟩:=h.x
 have hm:=hx.vm
 obtain ⟨y',m',v',o,r,ok,hG,hE⟩:=Ar (i:=i) (p:=p) h.y h.r hm hv
 obtain ⟨P,hP⟩:∃ P,dT b.x.b b.x.s ((b.x.d.map ofB).length/128) ⟨a,b.x.st,b.x.f,m,false⟩ i p v=P:=⟨_,rfl⟩
 have hx':=abV hx hv hP
 obtain ⟨g1,g2,g3,g5⟩:=abU hx hP
 have hrd:∀ r,(b.k.port j n i p v).2.1=r→r<4294967296:=by
  intro r e
  subst e
  have h0:=h.k.k j h4
  have h1:=h.k.l
  unfold CkI.okK at h0
  unfold CkI.port
  split
  ·split
   ·show (b.k.R j).toNat<_;omega
   ·exact z32
  ·split<;>exact z32
 refine ⟨P,⟨y',m',v',o,r,ok⟩,?_⟩
 have key:eK (im b m j n i p v P ⟨y',m',v',o,r,ok⟩).b (im b m j n i p v P ⟨y',m',v',o,r,ok⟩).m∧mM b m j i p (im b m j n i p v P ⟨y',m',v',o,r,ok⟩):=by
  unfold im svE
  by_cases q0:p<0∨80≤p
  ·rw [if_pos q0];exact ⟨h,mN (.inl rfl)⟩
  rw [if_neg q0]
  by_cases q1:p<16
  ·rw [if_pos q1];exact Zr h hj ⟨by omega,q1⟩
  rw [if_neg q1]
  by_cases q2:p<32
  ·rw [if_pos q2];exact Zs h h4 hrd ⟨by omega,q2⟩
  rw [if_neg q2]
  by_cases q3:p<48
  ·rw [if_pos q3];exact Zt h ⟨by omega,q3⟩
  rw [if_neg q3]
  by_cases q4:p<64
  ·rw [if_pos q4]
   by_cases hok:P.ok=true
   ·rw [if_pos hok]
    have hb2:eK { b with x:=⟨P.b,P.s,P.a,P.st,b.x.d,P.f⟩ } P.m:=⟨h.c,h.k,h.s,⟨P.a,rfl,hx'⟩,h.y,h.r⟩
    have hu:=Au (b:={ b with x:=⟨P.b,P.s,P.a,P.st,b.x.d,P.f⟩ }) (l:=2) (is:=P.r) h.c (by decide)
    obtain ⟨r1,r2,r3,r4⟩:=Av (b:={ b with x:=⟨P.b,P.s,P.a,P.st,b.x.d,P.f⟩ }) (l:=2) (is:=P.r)
    exact ⟨BC hb2 (by decide),⟨g1,hu.2.1,by dsimp only;rw [r3],fun e=>absurd rfl e,fun _=>⟨by omega,by omega⟩,fun _=>r1,fun _=>r2,fun e=>absurd ⟨by omega,q4⟩ e,fun _=>r4,fun e=>absurd e q3,fun _=>⟨hu.2,fun e=>absurd e q3⟩,.inl rfl,Nat.zero_le _,g3,g5,by dsimp only;rw [r1];exact gg _ _⟩⟩
   ·rw [if_neg hok];exact ⟨h,mN (.inl rfl)⟩
  ·rw [if_neg q4]
   by_cases hok:ok=true
   ·rw [if_pos hok]
    have hb2:eK { b with y:=y' } m':=⟨h.c,h.k,h.s,⟨a,ha,SQ hx hG.fm⟩,hG.fy,hG.fr⟩
    have hu:=Au (b:={ b with y:=y' }) (l:=3) (is:=r) h.c (by decide)
    obtain ⟨r1,r2,r3,r4⟩:=Av (b:={ b with y:=y' }) (l:=3) (is:=r)
    exact ⟨BC hb2 (by decide),⟨hG.fm,hu.2.1,by dsimp only;rw [r3],fun e=>absurd rfl e,fun _=>⟨by omega,by omega⟩,fun _=>r1,fun _=>r2,fun _=>r3,fun e=>absurd (by omega) e,fun e=>absurd e q3,fun _=>⟨hu.2,fun e=>absurd e q3⟩,.inr (.inr ⟨by omega,rfl⟩),hG.fo,hG.fi,hG.fv,by dsimp only;rw [r1];exact gg _ _⟩⟩
   ·rw [if_neg hok];exact ⟨h,mN (.inl rfl)⟩
 exact ⟨key.1,key.2,hG.fo,hE,a,ha,hP⟩
section
variable {b:BdI}{m:List UInt8}{j n v:Nat}{i:Bool}{p:Int}{P:PO}{W:PW}
theorem Aw (h:eK b m) (hj:(j:Int)<b.c.n) (hn:n≤1099511627776) (hv:v<4294967296) (hp:p<9223372036854775808) (hA:Ans b m j n i p v P W) (k:Nat):ad (ab FN (k+10901)) 13 [bdV b,aq m,.int .i64 j,.int .i64 n,.agg [.bool i,.int .i64 p,.int .u32 v]] (svP j n (im b m j n i p v P W)):=by
 have h4:=h.c.n4 hj
 obtain ⟨a,ha,hx⟩:=h.x
 obtain ⟨a',ha',hP⟩:=hA.p
 obtain rfl:a=a':=by omega
 have hxe:b.x=⟨b.x.b,b.x.s,a,b.x.st,b.x.d,b.x.f⟩:=by rw [← ha]
 have dP:=abW hx hP
 rw [← hxe] at dP
 refine s13 hp (fun k=>?_) (fun k=>?_) (fun k=>?_) (fun k=>abP h.c dP) (fun k=>abQ hA.o h.c (As hx.vm hA.e))
 ·exact (abM (k:=k) h.c h4 hv).fuel (by omega)
 ·exact (abN (k:=k) h.k h4 hn hv).fuel (by omega)
 ·exact (abO (k:=k) h.s).fuel (by omega)
theorem Ax (h:eK b m) (hj:(j:Int)<b.c.n) (hn:n≤1099511627776) (hv:v<4294967296) (hA:Ans b m j n i p v P W) (k:Nat):ad (ab FN (k+10901)) 14 [bdV b,aq m,.int .i64 j,.int .i64 n,.agg [.bool i,.int .i64 p,.int .u32 v]] (svR j n (im b m j n i p v P W)):=by
 have h4:=h.c.n4 hj
 obtain ⟨a,ha,hx⟩:=h.x
 obtain ⟨a',ha',hP⟩:=hA.p
 obtain rfl:a=a':=by omega
 have hxe:b.x=⟨b.x.b,b.x.s,a,b.x.st,b.x.d,b.x.f⟩:=by rw [← ha]
 have dR:=abX hx hP
 rw [← hxe] at dR
 refine s14 h.c hA.o (fun q k=>?_) (fun q k=>?_) (fun q k=>?_) dR (At hx.vm hA.e)
 ·obtain ⟨N,rfl⟩:∃ N:Nat,p=N:=⟨p.toNat,by omega⟩
  exact abR (by omega) h.c h4 hv
 ·obtain ⟨N,rfl⟩:∃ N:Nat,p=N:=⟨p.toNat,by omega⟩
  exact abS (by omega) h.k h4 hn hv
 ·obtain ⟨N,rfl⟩:∃ N:Nat,p=N:=⟨p.toNat,by omega⟩
  exact abT (by omega) h.s hv
end
end Go.Proofs.YtepcejdglbcbkaaGreat
