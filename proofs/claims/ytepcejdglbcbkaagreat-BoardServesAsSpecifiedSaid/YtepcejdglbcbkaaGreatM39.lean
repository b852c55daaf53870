/- Part of the texts on which proofs about this seat rest: each says what it proves at its own head. No condition. -/
import Derived.Test.YtepcejdglbcbkaaGreatM38
set_option linter.unusedVariables false
set_option linter.unusedSimpArgs false
set_option maxHeartbeats 4000000
set_option maxRecDepth 100000
/- What a device sends, by the program. Condition: the memory is valid. -/
namespace Go.Proofs.YtepcejdglbcbkaaGreat
open Go.Abs
variable {k:Nat}
theorem ng {F:aE}{f:FuncId}{args:List AV}{os:List (Nat×List AV)}{H:Hp}{n:Nat}{lv:Nat→Bool}{c:Nat}{E:Nat→Option TypeId}{R:AV}{id i:Nat}{V:List AV→Prop}{cells:List AV}(ho:lkO os i=some cells) (h:dx F f args [(i,cells)] (ah os H) n lv c E R id V):dx F f args os H n lv c E R id V:=by
 obtain ⟨h⟩:=h
 rw [uy ho] at h
 exact ⟨h⟩
theorem qj {F:aE}{l:List aa}{s:List (Nat×AV)}{os:List (Nat×List AV)}{T:Nat→AV}{H:Hp}{E:Nat→Option TypeId}{n c d:Nat}{lv:Nat→Bool}{Q:St→Prop}{f:FuncId}{xs:List X}{args:List AV}{R:AV}{id n0:Nat}{V:List AV→Prop}{H0:Hp}{os':List AV→List (Nat×List AV)}(ha:gG s xs=some args) (hc:∀ H E,dx F f args os H n lv c E R id V) (hx:∀ v,V v→iA n id v os (os' v)) (hS:az n0 id H0 (ah os H)) (hn:n0≤n)
 (k:∀ v H lv' c',V v→c≤c'→az n0 id H0 (ah (os' v) H)→WpO F l ⟨af ((d,R)::s) T,ah (os' v) H,E,n,lv',c'⟩ Q) :
 WpO F (⟨some d,.calls f xs,none⟩::l) ⟨af s T,ah os H,E,n,lv,c⟩ Q:=by
 obtain ⟨H',lv',c',h1,hcc,h2,h3⟩:=(hc H E).ex
 have e:ah (os' (H' id)) H'=H':=dZ (l6 rfl h3 (hx _ h2))
 have hS':az n0 id H0 H':=hS.after hn h3
 have:=k (H' id) H' lv' c' h2 hcc (by rw [e];exact hS')
 rw [e] at this
 exact j7 (dd:=some d) (dK ha) h1 this
theorem six {H0 H:Hp}(h:az 7 5 H0 H) (h6:H0 6=[.ref 5 0]):H 6=[.ref 5 0]:=by
 have e:=h 6 (by omega) (by omega)
 have e2:aV 7 H0 6=[.ref 5 0]:=by unfold aV;rw [h6];rfl
 rw [e2] at e
 unfold aV at e
 split at e
 ·exact e
 ·cases e
theorem abG {tx:Bool}{tb ts rb rs oth dr:Nat}{x:XS}{v:List AV}{os:List (Nat×List AV)}{H H0:Hp}(h5:lkO os 5=some (cel tx tb ts rb rs oth dr x)) (hS:az 7 5 H0 (ah os H)) :
 (upd (trim 9 (ah os H)) 7 v) 5=cel tx tb ts rb rs oth dr x∧(upd (trim 9 (ah os H)) 7 v) 7=v∧az 7 5 H0 (upd (trim 9 (ah os H)) 7 v):=by
 refine ⟨?_,by simp [upd],az.upd (az.trim hS (by omega)) (.inr (Nat.le_refl _))⟩
 have e:(upd (trim 9 (ah os H)) 7 v) 5=trim 9 (ah os H) 5:=by simp [upd]
 rw [e];exact po (n:=9) h5 rfl (jI ..)
theorem wh {tx:Bool}{tb ts rb rs oth dr c:Nat}{x:XS}{os:List (Nat×List AV)}{H H0:Hp}{lv:Nat→Bool}{Inv:XS→(Nat→Bool)→Nat→Prop}(hI:Inv x lv c) (h5:lkO os 5=some (cel tx tb ts rb rs oth dr x)) (hS:az 7 5 H0 (ah os H)) :
 AV.bool (going .norm) = .bool true∧∃ x',9=9∧upd (trim 9 (ah os H)) 7 (bh (eS .norm)) 5=cel tx tb ts rb rs oth dr x'∧upd (trim 9 (ah os H)) 7 (bh (eS .norm)) 7=bh 0∧az 7 5 H0 (upd (trim 9 (ah os H)) 7 (bh (eS .norm)))∧Inv x' lv c:=by
 obtain ⟨f1,f2,f3⟩:=abG (v:=bh (eS .norm)) h5 hS
 exact ⟨rfl,x,rfl,f1,f2,f3,hI⟩
def OW (br z:Nat) (o:List (List UInt8)) (lv:Nat→Bool) (c:Nat):Prop:=(br=0∧z=0∧o=[])∨(4≤br∧br<c∧lv br=true∧z=1)
theorem OW.own {br z:Nat}{o:List (List UInt8)}{lv:Nat→Bool}{c:Nat}(h:OW br z o lv c):Own lv c br (bS o):=by
 rcases h with ⟨rfl,rfl,rfl⟩ | ⟨h1,h2,h3,rfl⟩
 ·exact .inl ⟨rfl,rfl⟩
 ·exact .inr (.inr ⟨h1,h2,h3⟩)
theorem OW.sz {br z:Nat}{o:List (List UInt8)}{lv:Nat→Bool}{c:Nat}(h:OW br z o lv c):z=1∨(bS o=[]∧br<4):=by
 rcases h with ⟨rfl,rfl,rfl⟩ | ⟨h1,h2,h3,rfl⟩
 ·exact .inr ⟨rfl,by omega⟩
 ·exact .inl rfl
def TX (x:XS) (o:List (List UInt8)):TS:=⟨x.m,o,x.r,x.a,x.st⟩
def nH (b s c0:Nat) (m0:List UInt8) (R:TS) (i:Nat) (x:XS) (lv:Nat→Bool) (c:Nat):Prop:=
 c0≤c∧RV m0 b s∧RV x.m b s∧x.a<s∧x.ok=true∧∃ o,x.xs=bS o∧o.length≤i∧OW x.br x.z o lv c∧dc b s (s-i) (TX x o)=R
def BA (b s c0:Nat) (R:TS) (x0:XS) (x:XS) (st:Int) (lv:Nat→Bool) (c:Nat):Prop:=
 c0≤c∧st=0∧((aX x0.m.length b s≠0∧x={ x0 with st:=aX x0.m.length b s })∨(aX x0.m.length b s=0∧x.ok=true∧∃ o,x.xs=bS o∧OW x.br x.z o lv c∧TX x o=R))
theorem wj {tb ts rb rs oth dr c0 i j c:Nat}{x:XS}{H0:Hp}{lv:Nat→Bool}{R:TS}{x0:XS}{m0:List UInt8}{Tr:Nat→AV}(h4:4≤c0) (h6:H0 6=[.ref 5 0]) (hT:Tr 1 = .ref 6 0) (hi:i<ts) (hj:j<ts) (hI:nH tb ts c0 m0 R i x lv c) (hf:cT x.m tb ts x.a ts 0=(j,true)) :
 pq (cP (ar (ab FN (k+10601)) (k+10601) rV) (ar (ab FN (k+10601)) (k+10601) kc) Tr [15] 7) true tb ts rb rs oth dr H0 (wg tb ts j x) j (ba x.m tb ts j) (a7 x.m tb ts j) lv c fun bb x' lv' c'=>if bb=true then nH tb ts c0 m0 R (i+1) x' lv' c' else BA tb ts c0 R x0 x' 2 lv' c':=by
 obtain ⟨hc0,hm0,hrv,hxa,hok,o,ho,hol,hO,hR⟩:=hI
 obtain ⟨xm,xbr,xz,xxs,xr,xok,xa,xst⟩:=x
 dsimp only at hrv hxa hok ho hO hR hf ⊢
 subst hok
 subst ho
 have hts:=hrv.hs
 have hsi:ts-i=(ts-(i+1))+1:=by omega
 rw [hsi] at hR
 unfold dc TX at hR
 dsimp only at hR
 rw [hf] at hR
 rw [if_neg (fun h=>Bool.noConfusion h)] at hR
 dsimp only at hR
 have htv:=k9 hrv hj
 have hmod:(j+1)%ts<ts:=Nat.mod_lt _ (by omega)
 intro H E hS h5 h7
 have h6':=six hS h6
 unfold wg at h5
 dsimp only at h5
 have eT:af [(1,.ref 6 0)] Tr=Tr:=kH ⟨hT,trivial⟩
 have eH:ah [(7,bh 0),(6,[.ref 5 0]),(5,cel true tb ts rb rs oth dr ⟨aK xm tb ts j,xbr,xz,bS o,true,true,(j+1)%ts,if a7 xm tb ts j≠0 then a7 xm tb ts j else xst⟩)] H=H:=dZ ⟨h7,h6',h5,trivial⟩
 have key:∃ r hs,cP (ar (ab FN (k+10601)) (k+10601) rV) (ar (ab FN (k+10601)) (k+10601) kc) (af [(1,.ref 6 0)] Tr) [15] 7 [.agg [.int .i64 j,csl 4 (aY (ba xm tb ts j)),.int .i64 (a7 xm tb ts j)]] ⟨ah [(7,bh 0),(6,[.ref 5 0]),(5,cel true tb ts rb rs oth dr ⟨aK xm tb ts j,xbr,xz,bS o,true,true,(j+1)%ts,if a7 xm tb ts j≠0 then a7 xm tb ts j else xst⟩)] H,9,lv,c⟩ E=some (r,hs)∧(r = .bool true∧∃ x',hs.n=9∧hs.H 5=cel true tb ts rb rs oth dr x'∧hs.H 7=bh 0∧az 7 5 H0 hs.H∧nH tb ts c0 m0 R (i+1) x' hs.lv hs.c):=by
  refine B9 (s0:=[(15,.agg [.int .i64 j,csl 4 (aY (ba xm tb ts j)),.int .i64 (a7 xm tb ts j)]),(1,.ref 6 0)]) rfl rfl (by omega) rfl ?_
  have hS0:az 7 5 H0 (ah [(7,bh 0),(6,[.ref 5 0]),(5,cel true tb ts rb rs oth dr ⟨aK xm tb ts j,xbr,xz,bS o,true,true,(j+1)%ts,if a7 xm tb ts j≠0 then a7 xm tb ts j else xst⟩)] H):=by rw [eH];exact hS
  clear eH h5 h7 h6' hS eT hT h6
  by_cases he:a7 xm tb ts j≠0
  ·rw [if_pos he] at hS0 ⊢
   have hsv:eB tb ts j ⟨xm,o,xr,xa,xst⟩=⟨aK xm tb ts j,o,true,(j+1)%ts,a7 xm tb ts j⟩:=if_pos he
   rw [hsv] at hR
   generalize aK xm tb ts j=M at *
   generalize aY (ba xm tb ts j)=L at *
   generalize a7 xm tb ts j=e at *
   clear hsv
   repeat (first | refine stN ?_ | intro E)
   refine ⟨rfl,av rfl,?_⟩
   dsimp only
   show Wp _ _ kc ⟨af _ _,ah ((7,bh (-1))::_) _,_,_,_,_⟩ _
   repeat (first | refine stN ?_ | intro E)
   dsimp only
   refine wh (tx:=true) (tb:=tb) (ts:=ts) (rb:=rb) (rs:=rs) (oth:=oth) (dr:=dr) (x:=⟨M,xbr,xz,bS o,true,true,(j+1)%ts,e⟩) (Inv:=nH tb ts c0 m0 R (i+1)) ⟨hc0,hm0,htv,hmod,rfl,o,rfl,show o.length≤i+1 by omega,hO,hR⟩ ?_ ?_
   ·exact rfl
   ·exact (by repeat (first | exact hS0 | refine az.cons ?_ rfl))
  ·rw [if_neg he] at hS0 ⊢
   have he:a7 xm tb ts j=0:=by omega
   have hpo:=ux hrv hj he
   have hlen:=hpo.len
   have hsv:eB tb ts j ⟨xm,o,xr,xa,xst⟩=_:=if_neg (by simpa using he)
   have hjs:∀ q∈bN xm tb ts j,q<ts:=fun q hq=>((dp hj he).1.one q hq).1
   have hjl:(bN xm tb ts j).length≤4:=by unfold ba at hlen;rwa [List.length_map] at hlen
   rw [he]
   have c169:ad (ab FN (k+10601)) 169 [csl 4 (aY (ba xm tb ts j)),.bool false,.int .i64 0,.int .i64 512] (.int .i64 (mfE (ba xm tb ts j) false 0 512)):=(abC (k:=0) (lo:=0) (hi:=512) (by omega) hpo.lt).fuel (by omega)
   by_cases hf:mfE (ba xm tb ts j) false 0 512≠0
   ·rw [if_pos hf] at hsv
    rw [hsv] at hR
    have hfc:=(mi (ba xm tb ts j) false 0 512).resolve_left hf
    have c170:=fun H lv c E=>Zp (k:=0) (m:=aK xm tb ts j) (b:=tb) (s:=ts) (i:=j) (v:=0) (tb:=tb) (ts:=ts) (rb:=rb) (rs:=rs) (ta:=(((j+1)%ts:Nat):Int)) (ra:=oth) (st:=xst) (dr:=dr) (br:=xbr) (z:=xz) (xs:=bS o) (r:=true) (ok:=true) (H:=H) (lv:=lv) (c:=c) (E:=E) (e:=mfE (ba xm tb ts j) false 0 512) htv hj (by omega)
    have htv2:=htv.bj (w:=4+(mfE (ba xm tb ts j) false 0 512-160)) hj
    clear hsv hpo
    dsimp only at hR
    generalize mfE (ba xm tb ts j) false 0 512=f at *
    generalize aY (ba xm tb ts j)=L at *
    generalize bj tb (4+(f-160)) (aK xm tb ts j) j=M2 at *
    generalize aK xm tb ts j=M at *
    repeat (first | refine stN ?_ | intro E)
    refine ⟨rfl,av rfl,?_⟩
    dsimp only
    show Wp _ _ kc ⟨af _ _,ah ((7,bh (-1))::_) _,_,_,_,_⟩ _
    repeat (first | refine stN ?_ | intro E)
    apply ee (args:=[.ref 5 0,aL tb ts,.int .i64 j,.int .i64 f]) (id:=5) (n0:=7) (H0:=H0) (os':=[(5,cel true tb ts rb rs oth dr ⟨M2,xbr,xz,bS o,true,true,(j+1)%ts,f⟩)])
    ·exact rfl
    ·exact fun H E=>fJ rfl ((c170 (ah _ H) _ _ E).fuel (by omega))
    ·exact ⟨.inl ⟨rfl,rfl⟩,trivial⟩
    ·exact (by repeat (first | exact hS0 | refine az.cons ?_ rfl))
    ·omega
    intro H2 hS2
    repeat (first | refine stN ?_ | intro E)
    dsimp only
    refine wh (tx:=true) (tb:=tb) (ts:=ts) (rb:=rb) (rs:=rs) (oth:=oth) (dr:=dr) (x:=⟨M2,xbr,xz,bS o,true,true,(j+1)%ts,f⟩) (Inv:=nH tb ts c0 m0 R (i+1)) ⟨hc0,hm0,htv2,hmod,rfl,o,rfl,show o.length≤i+1 by omega,hO,hR⟩ ?_ ?_
    ·exact rfl
    ·exact (by repeat (first | exact hS2 | refine az.cons ?_ rfl))
   ·rw [if_neg hf] at hsv
    rw [hsv] at hR
    have hf:mfE (ba xm tb ts j) false 0 512=0:=by omega
    rw [hf] at c169
    have c126:ad (ab FN (k+10601)) 126 [aq (aK xm tb ts j),aL tb ts,csl 4 (aH xm tb (bN xm tb ts j))] (aq (bm (aK xm tb ts j) tb 3 (bN xm tb ts j))):=(abc (k:=0) htv hjs (by omega)).fuel (by omega)
    rw [show aH xm tb (bN xm tb ts j)=aY (ba xm tb ts j) from gu _ _ _] at c126
    have c123:ad (ab FN (k+10601)) 123 [aq (aK xm tb ts j),csl 4 (aY (ba xm tb ts j))] (.str (ew (aK xm tb ts j) (ba xm tb ts j))):=(abh (k:=0) htv.m hpo.inR (by omega)).fuel (by omega)
    have htv2:=htv.bm (w:=3) hjs
    clear hsv hpo hf
    dsimp only at hR
    generalize ew (aK xm tb ts j) (ba xm tb ts j)=G at *
    generalize bm (aK xm tb ts j) tb 3 (bN xm tb ts j)=M2 at *
    generalize aK xm tb ts j=M at *
    generalize aY (ba xm tb ts j)=L at *
    repeat (first | refine stN ?_ | intro E)
    refine ⟨rfl,av rfl,?_⟩
    dsimp only
    show Wp _ _ kc ⟨af _ _,ah ((7,bh (-1))::_) _,_,_,_,_⟩ _
    repeat (first | refine stN ?_ | intro E)
    apply fB
    ·exact rfl
    ·exact hO.sz
    ·exact rfl
    ·exact fun H=>fU _ _ _ _
    ·exact ⟨by omega,by omega⟩
    ·rw [dN,fV];simp only [List.length_nil,List.length_cons];omega
    ·exact hO.own
    ·exact List.cons_ne_nil _ _
    intro lv' l1 l2
    rw [qi]
    repeat (first | refine stN ?_ | intro E)
    dsimp only
    refine wh (tx:=true) (tb:=tb) (ts:=ts) (rb:=rb) (rs:=rs) (oth:=oth) (dr:=dr) (x:=⟨M2,c,1,bS (o++[G]),true,true,(j+1)%ts,xst⟩) (Inv:=nH tb ts c0 m0 R (i+1)) ⟨show c0≤c+1 by omega,hm0,htv2,hmod,rfl,o++[G],rfl,?_,.inr ⟨show 4≤c by omega,Nat.lt_succ_self _,l1,rfl⟩,hR⟩ ?_ ?_
    ·rw [List.length_append,List.length_singleton];omega
    ·exact rfl
    ·exact (by repeat (first | exact hS0 | refine az.cons ?_ rfl))
 rw [eT,eH] at key
 obtain ⟨r,hs,g1,rfl,x',g2,g3,g4,g5,g6⟩:=key
 obtain ⟨H',n',lv',c'⟩:=hs
 dsimp only at g2 g3 g4 g5 g6
 subst g2
 exact ⟨true,x',H',lv',c',g1,g3,by simpa using g4,g5,by simpa using g6⟩
end Go.Proofs.YtepcejdglbcbkaaGreat
/- What a device sends, by the program: the method. Condition: the memory is valid. -/
namespace Go.Proofs.YtepcejdglbcbkaaGreat
open Go.Abs
variable {k:Nat}
theorem az.lower {n0 n1 id:Nat}{H0 H:Hp}(h:az n1 id H0 H) (hn:n0≤n1):az n0 id H0 H:=by
 intro j hj hne
 have e:=h j (by omega) hne
 rw [← iB hn H j,← iB hn H0 j]
 unfold aV at e ⊢
 rw [e]
theorem az.trans {n0 id:Nat}{H0 H1 H2:Hp}(h:az n0 id H0 H1) (h':az n0 id H1 H2):az n0 id H0 H2:=fun j hj hne=>(h' j hj hne).trans (h j hj hne)
theorem yI {m:List UInt8}{b s:Nat}(h:RV m b s):aX m.length b s=0:=if_pos ⟨h.hs,h.hb,h.le⟩
def oR (tb ts ta st:Nat) (m:List UInt8):TS:=if aX m.length tb ts≠0 then ⟨m,[],false,ta,aX m.length tb ts⟩ else dc tb ts ts ⟨m,[],false,ta,st⟩
def OE (br z:Nat) (o:List (List UInt8)):Prop:=(br=0∧z=0∧o=[])∨(4≤br∧z=1)
def VS (tb ts rb rs ra dr:Nat) (R:TS) (cs:List AV):Prop:=∃ br z,OE br z R.o∧cs=woC R.m 0 (.sl br z (bS R.o)) R.r true tb ts rb rs R.a ra R.st dr
theorem sD {tx:Bool}{tb ts rb rs oth dr n:Nat}{x:XS}{H:Hp}(h:H 5=cel tx tb ts rb rs oth dr x):aV n H 5=cel tx tb ts rb rs oth dr x:=by
 unfold aV
 rw [h,if_pos (jI ..)]
theorem abH {tb ts rb rs ta ra st dr c:Nat}{m:List UInt8}{H:Hp}{E:Nat→Option TypeId}{lv:Nat→Bool}(h4:4≤c) (h:VM m) (hb:tb<4294967296) (hs:ts<4294967296) (ha:dF ts→ta<ts) :
 dx (ab FN (k+10602)) 256 [.ref 5 0] [(5,woC m 0 (.sl 0 0 []) false true tb ts rb rs ta ra st dr)] H 6 lv c E (.tup []) 5 (VS tb ts rb rs ra dr (oR tb ts ta st m)):=by
 unfold oR
 generalize hRR:dc tb ts ts ⟨m,[],false,ta,st⟩=R
 refine jD (by omega) Zf fun T=>?_
 repeat (first | refine stN ?_ | intro E)
 apply ee (args:=[.ref 5 0,aL tb ts,.ref 5 9]) (id:=5) (n0:=6) (H0:=ah [(5,woC m 0 (.sl 0 0 []) false true tb ts rb rs ta ra st dr)] H) (os':=[(5,woC m 0 (.sl 0 0 []) false true tb ts rb rs ta ra st dr),(6,[.ref 5 0])])
 ·exact rfl
 ·exact fun H E=>fJ rfl ((abF (k:=0) rfl).fuel (by omega))
 ·exact ⟨.inl ⟨rfl,rfl⟩,.inr ⟨rfl,rfl,rfl,rfl⟩,trivial⟩
 ·exact (by repeat (first | exact az.refl _ _ _ | refine az.cons ?_ rfl))
 ·omega
 intro H2 hS2
 repeat (first | refine stN ?_ | intro E)
 refine zR (k':=k+10600) (env:=fun _=>none) rfl rfl Yl ?_
 intro y T' hy env' henv
 have hT:∀ t:Nat→AV,af [(1,.ref 6 0)] t 1 = .ref 6 0:=fun t=>rfl
 refine Sq (Zq (tb:=tb) (ts:=ts) (rb:=rb) (rs:=rs) (oth:=ra) (dr:=dr) (b:=tb) (s:=ts) (x0:=⟨m,0,0,[],false,true,ta,st⟩) (H:=ah [(6,[.ref 5 0])] H2) (H0:=ah [(7,bh 0),(5,woC m 0 (.sl 0 0 []) false true tb ts rb rs ta ra st dr),(6,[.ref 5 0])] H2) (y:=y)
  (nH tb ts c m R) (BA tb ts c R ⟨m,0,0,[],false,true,ta,st⟩) h hb hs henv (az.refl _ _ _) ?_ ?_ ?_ ?_ ?_ ?_) ?_
 ·exact fun hc=>⟨Nat.le_refl _,rfl,.inl ⟨hc,rfl⟩⟩
 ·exact fun hr=>⟨Nat.le_refl _,hr,hr,ha hr.hs,rfl,[],rfl,Nat.zero_le _,.inl ⟨rfl,rfl,rfl⟩,hRR⟩
 ·exact fun i x lv c hI=>⟨hI.2.2.1,hI.2.2.2.1⟩
 ·rintro i x lv c hi ⟨hc,hm0,hr,hxa,hok,o,ho,hol,hO,hR⟩ hf
  refine ⟨hc,rfl,.inr ⟨yI hm0,hok,o,ho,hO,?_⟩⟩
  rw [show ts-i=(ts-(i+1))+1 by omega] at hR
  unfold dc at hR
  rwa [if_pos (by exact hf)] at hR
 ·rintro x lv c ⟨hc,hm0,hr,hxa,hok,o,ho,hol,hO,hR⟩
  rw [Nat.sub_self] at hR
  exact ⟨hc,rfl,.inr ⟨yI hm0,hok,o,ho,hO,hR⟩⟩
 ·intro i x lv c1 j hi hj hI hf
  rw [hy]
  exact wj (k:=k) h4 rfl rfl hi hj hI hf
 ·intro e S hR
  refine Ah hR ?_
  rintro _ ⟨H3,n3,lv3,c3⟩ ⟨x,st',hP,g1,g2,g3⟩
  obtain ⟨hc,rfl,hP⟩:=hP
  dsimp only at g1 g2 g3 hc hP
  refine ⟨0,.norm,g2,rfl,?_⟩
  apply rH
  refine aQ (s:=[]) (os:=[]) (.inl rfl) rfl rfl rfl rfl rfl ⟨rfl,_,_,_,rfl,hc,?_,?_,?_⟩
  ·show VS tb ts rb rs ra dr _ (aV 7 H3 5)
   rw [sD g1]
   clear hRR
   rcases hP with ⟨hk,rfl⟩ | ⟨hk,hok,o,ho,hO,rfl⟩
   ·rw [if_pos hk]
    exact ⟨0,0,.inl ⟨rfl,rfl,rfl⟩,rfl⟩
   ·rw [if_neg (by rw [hk];decide)]
    obtain ⟨xm,xbr,xz,xxs,xr,xok,xa,xst⟩:=x
    dsimp only at hok ho hO ⊢
    subst hok
    subst ho
    refine ⟨xbr,xz,?_,rfl⟩
    rcases hO with h | ⟨h1,h2,h3,h5⟩
    ·exact .inl h
    ·exact .inr ⟨h1,h5⟩
  ·show bJ 6 (aV 7 H3 5)=true
   rw [sD g1];exact jI ..
  ·have e1:az 6 5 (ah [(7,bh 0),(5,woC m 0 (.sl 0 0 []) false true tb ts rb rs ta ra st dr),(6,[.ref 5 0])] H2) (aV 7 H3):=(az.lower g3 (by omega)).keep (by omega)
   have e2:az 6 5 (ah [(5,woC m 0 (.sl 0 0 []) false true tb ts rb rs ta ra st dr)] H) (ah [(7,bh 0),(5,woC m 0 (.sl 0 0 []) false true tb ts rb rs ta ra st dr),(6,[.ref 5 0])] H2):=az.cons hS2 rfl
   exact az.trans e2 e1
end Go.Proofs.YtepcejdglbcbkaaGreat
/- What a device does when it is asked, by the program. Condition: the memory is valid, the device is valid. -/
namespace Go.Proofs.YtepcejdglbcbkaaGreat
open Go.Abs
variable {k:Nat}
def wk (tb ts rb rs ta ra st dr:Nat) (m:List UInt8) (i:Bool) (p:Int) (w:Nat):AV:=
 .tup [.agg ((gM tb ts rb rs ta ra st dr m i p w).take 8),.agg ((gM tb ts rb rs ta ra st dr m i p w).drop 8)]
section
variable {tb ts rb rs ta ra st dr c:Nat}{m:List UInt8}{H:Hp}{E:Nat→Option TypeId}{lv:Nat→Bool}
def inC (tb ts rb rs ta ra st dr:Nat) (m:List UInt8) (p:Int):List AV:=
 if p=64 then woC m tb (.sl 0 0 []) false true tb ts rb rs ta ra st dr
 else if p=65 then woC m ts (.sl 0 0 []) false true tb ts rb rs ta ra st dr
 else if p=66 then woC m rb (.sl 0 0 []) false true tb ts rb rs ta ra st dr
 else if p=67 then woC m rs (.sl 0 0 []) false true tb ts rb rs ta ra st dr
 else if p=69 then woC m st (.sl 0 0 []) false true tb ts rb rs ta ra (0:Nat) dr
 else if p=70 then woC m (dr%4294967296) (.sl 0 0 []) false true tb ts rb rs ta ra st dr
 else woC m 0 (.sl 0 0 []) false false tb ts rb rs ta ra st dr
theorem abI {p:Int}(hst:st≤165):aU (ab FN (k+1)) 254 [.ref 5 0,.int .i64 p] [(5,woC m 0 (.sl 0 0 []) false true tb ts rb rs ta ra st dr)] H 6 lv c E (.tup []) 5 (inC tb ts rb rs ta ra st dr m p):=by
 have hw:=SF dr
 refine bY (by omega) (by unfold inC;(repeat' split)<;>rfl) Zd fun T=>?_
 unfold inC
 by_cases h1:p=64
 ·subst h1
  rw [if_pos rfl]
  repeat (first | refine stN ?_ | intro E)
  exact aQ (.inl rfl) rfl rfl rfl rfl rfl ⟨rfl,_,rfl,av rfl,(by repeat (first | exact az.refl _ _ _ | refine az.cons ?_ rfl))⟩
 rw [if_neg h1]
 by_cases h2:p=65
 ·subst h2
  rw [if_pos rfl]
  repeat (first | refine stN ?_ | intro E)
  exact aQ (.inl rfl) rfl rfl rfl rfl rfl ⟨rfl,_,rfl,av rfl,(by repeat (first | exact az.refl _ _ _ | refine az.cons ?_ rfl))⟩
 rw [if_neg h2]
 by_cases h3:p=66
 ·subst h3
  rw [if_pos rfl]
  repeat (first | refine stN ?_ | intro E)
  exact aQ (.inl rfl) rfl rfl rfl rfl rfl ⟨rfl,_,rfl,av rfl,(by repeat (first | exact az.refl _ _ _ | refine az.cons ?_ rfl))⟩
 rw [if_neg h3]
 by_cases h4:p=67
 ·subst h4
  rw [if_pos rfl]
  repeat (first | refine stN ?_ | intro E)
  exact aQ (.inl rfl) rfl rfl rfl rfl rfl ⟨rfl,_,rfl,av rfl,(by repeat (first | exact az.refl _ _ _ | refine az.cons ?_ rfl))⟩
 rw [if_neg h4]
 by_cases h5:p=69
 ·subst h5
  rw [if_pos rfl]
  repeat (first | refine stN ?_ | intro E)
  exact aQ (.inl rfl) rfl rfl rfl rfl rfl ⟨rfl,_,rfl,av rfl,(by repeat (first | exact az.refl _ _ _ | refine az.cons ?_ rfl))⟩
 rw [if_neg h5]
 by_cases h6:p=70
 ·subst h6
  rw [if_pos rfl]
  repeat (first | refine stN ?_ | intro E)
  exact aQ (.inl rfl) rfl rfl rfl rfl rfl ⟨rfl,_,rfl,av rfl,(by repeat (first | exact az.refl _ _ _ | refine az.cons ?_ rfl))⟩
 rw [if_neg h6]
 repeat (first | refine stN ?_ | intro E)
 exact aQ (.inl rfl) rfl rfl rfl rfl rfl ⟨rfl,_,rfl,av rfl,(by repeat (first | exact az.refl _ _ _ | refine az.cons ?_ rfl))⟩
def sE (tb ts rb rs ta ra st dr:Nat) (m:List UInt8) (p:Int) (w:Nat) (cs:List AV):Prop:=
 if p=64 then cs=woC m 0 (.sl 0 0 []) false true w ts rb rs (0:Nat) ra st dr
 else if p=65 then cs=woC m 0 (.sl 0 0 []) false true tb w rb rs (0:Nat) ra st dr
 else if p=66 then cs=woC m 0 (.sl 0 0 []) false true tb ts w rs ta (0:Nat) st dr
 else if p=67 then cs=woC m 0 (.sl 0 0 []) false true tb ts rb w ta (0:Nat) st dr
 else if p=68 then VS tb ts rb rs ra dr (oR tb ts ta st m) cs
 else cs=woC m 0 (.sl 0 0 []) false false tb ts rb rs ta ra st dr
theorem abJ {p:Int}{w:Nat}(h4:4≤c) (h:VM m) (hb:tb<4294967296) (hs:ts<4294967296) (ha:dF ts→ta<ts):dx (ab FN (k+10603)) 255 [.ref 5 0,.int .i64 p,.int .u32 w] [(5,woC m 0 (.sl 0 0 []) false true tb ts rb rs ta ra st dr)] H 6 lv c E (.tup []) 5 (sE tb ts rb rs ta ra st dr m p w):=by
 refine jD (by omega) Ze fun T=>?_
 unfold sE
 by_cases h1:p=64
 ·subst h1
  simp only [if_true]
  repeat (first | refine stN ?_ | intro E)
  exact aQ (.inl rfl) rfl rfl rfl rfl rfl ⟨rfl,_,_,_,rfl,Nat.le_refl _,av rfl,by rw [av (show lkO _ 5=some _ from rfl)];rfl,(by repeat (first | exact az.refl _ _ _ | refine az.cons ?_ rfl))⟩
 simp only [if_neg h1]
 by_cases h2:p=65
 ·subst h2
  simp only [if_true]
  repeat (first | refine stN ?_ | intro E)
  exact aQ (.inl rfl) rfl rfl rfl rfl rfl ⟨rfl,_,_,_,rfl,Nat.le_refl _,av rfl,by rw [av (show lkO _ 5=some _ from rfl)];rfl,(by repeat (first | exact az.refl _ _ _ | refine az.cons ?_ rfl))⟩
 simp only [if_neg h2]
 by_cases h3:p=66
 ·subst h3
  simp only [if_true]
  repeat (first | refine stN ?_ | intro E)
  exact aQ (.inl rfl) rfl rfl rfl rfl rfl ⟨rfl,_,_,_,rfl,Nat.le_refl _,av rfl,by rw [av (show lkO _ 5=some _ from rfl)];rfl,(by repeat (first | exact az.refl _ _ _ | refine az.cons ?_ rfl))⟩
 simp only [if_neg h3]
 by_cases h4':p=67
 ·subst h4'
  simp only [if_true]
  repeat (first | refine stN ?_ | intro E)
  exact aQ (.inl rfl) rfl rfl rfl rfl rfl ⟨rfl,_,_,_,rfl,Nat.le_refl _,av rfl,by rw [av (show lkO _ 5=some _ from rfl)];rfl,(by repeat (first | exact az.refl _ _ _ | refine az.cons ?_ rfl))⟩
 simp only [if_neg h4']
 by_cases h5:p=68
 ·subst h5
  simp only [if_true]
  repeat (first | refine stN ?_ | intro E)
  apply qj (args:=[.ref 5 0]) (id:=5) (n0:=6) (H0:=ah [(5,woC m 0 (.sl 0 0 []) false true tb ts rb rs ta ra st dr)] H) (V:=VS tb ts rb rs ra dr (oR tb ts ta st m)) (os':=fun v=>[(5,v)])
  ·exact rfl
  ·exact fun H E=>ng rfl (abH (k:=k) h4 h hb hs ha)
  ·exact fun v hv=>⟨.inl ⟨rfl,rfl⟩,trivial⟩
  ·exact (by repeat (first | exact az.refl _ _ _ | refine az.cons ?_ rfl))
  ·omega
  intro v H2 lv2 c2 hv hc2 hS2
  repeat (first | refine stN ?_ | intro E)
  refine aQ (.inl rfl) rfl rfl rfl rfl rfl ⟨rfl,_,_,_,rfl,hc2,?_,?_,hS2⟩
  ·rw [av (show lkO _ 5=some _ from rfl)];exact hv
  ·rw [av (show lkO _ 5=some _ from rfl)]
   obtain ⟨br,z,_,rfl⟩:=hv
   rfl
 simp only [if_neg h5]
 repeat (first | refine stN ?_ | intro E)
 exact aQ (.inl rfl) rfl rfl rfl rfl rfl ⟨rfl,_,_,_,rfl,Nat.le_refl _,av rfl,by rw [av (show lkO _ 5=some _ from rfl)];rfl,(by repeat (first | exact az.refl _ _ _ | refine az.cons ?_ rfl))⟩
end
end Go.Proofs.YtepcejdglbcbkaaGreat
/- What a device does when it is asked, by the program: the function. Condition: the memory is valid, the device is valid. -/
namespace Go.Proofs.YtepcejdglbcbkaaGreat
open Go.Abs
variable {k:Nat}
section
variable {tb ts rb rs ta ra st dr c:Nat}{m:List UInt8}
theorem SH (p:Int) (w:Nat):∃ (v st':Nat) (ok:Bool),inC tb ts rb rs ta ra st dr m p=woC m v (.sl 0 0 []) false ok tb ts rb rs ta ra st' dr∧gM tb ts rb rs ta ra st dr m true p w=doC tb ts rb rs ta ra st' dr m v (.sl 1 0 []) false ok:=by
 unfold inC gM
 rw [if_pos rfl]
 (repeat' split)<;>exact ⟨_,_,_,rfl,rfl⟩
theorem ES {p:Int}{w:Nat}{cs:List AV}(h:sE tb ts rb rs ta ra st dr m p w cs):∃ (tb' ts' rb' rs' ta' ra' st' br z:Nat) (m':List UInt8) (o:List (List UInt8)) (r ok:Bool),cs=woC m' 0 (.sl br z (bS o)) r ok tb' ts' rb' rs' ta' ra' st' dr∧OE br z o∧gM tb ts rb rs ta ra st dr m false p w=doC tb' ts' rb' rs' ta' ra' st' dr m' 0 (csl 1 (bS o)) r ok:=by
 unfold sE at h
 unfold gM
 rw [if_neg (by decide)]
 by_cases h1:p=64
 ·rw [if_pos h1] at h ⊢;subst h;exact ⟨_,_,_,_,_,_,_,0,0,_,[],_,_,rfl,.inl ⟨rfl,rfl,rfl⟩,rfl⟩
 rw [if_neg h1] at h ⊢
 by_cases h1:p=65
 ·rw [if_pos h1] at h ⊢;subst h;exact ⟨_,_,_,_,_,_,_,0,0,_,[],_,_,rfl,.inl ⟨rfl,rfl,rfl⟩,rfl⟩
 rw [if_neg h1] at h ⊢
 by_cases h1:p=66
 ·rw [if_pos h1] at h ⊢;subst h;exact ⟨_,_,_,_,_,_,_,0,0,_,[],_,_,rfl,.inl ⟨rfl,rfl,rfl⟩,rfl⟩
 rw [if_neg h1] at h ⊢
 by_cases h1:p=67
 ·rw [if_pos h1] at h ⊢;subst h;exact ⟨_,_,_,_,_,_,_,0,0,_,[],_,_,rfl,.inl ⟨rfl,rfl,rfl⟩,rfl⟩
 rw [if_neg h1] at h ⊢
 by_cases h1:p=68
 ·rw [if_pos h1] at h ⊢
  obtain ⟨br,z,hO,rfl⟩:=h
  unfold oR at hO ⊢
  by_cases hc:aX m.length tb ts≠0
  ·simp only [if_pos hc] at hO ⊢
   exact ⟨_,_,_,_,_,_,_,br,z,_,[],_,_,rfl,hO,rfl⟩
  ·simp only [if_neg hc] at hO ⊢
   exact ⟨_,_,_,_,_,_,_,br,z,_,_,_,_,rfl,hO,rfl⟩
 rw [if_neg h1] at h ⊢
 subst h;exact ⟨_,_,_,_,_,_,_,0,0,_,[],_,_,rfl,.inl ⟨rfl,rfl,rfl⟩,rfl⟩
theorem abK {p:Int}{w:Nat}{i:Bool}(h:VM m) (hb:tb<4294967296) (hs:ts<4294967296) (hst:st≤165) (ha:dF ts→ta<ts) :
 ad (ab FN (k+10700)) 253 [.agg [.int .u32 tb,.int .u32 ts,.int .u32 rb,.int .u32 rs,.int .i64 ta,.int .i64 ra,.int .i64 st,.int .i64 dr],aq m,.agg [.bool i,.int .i64 p,.int .u32 w]] (wk tb ts rb rs ta ra st dr m i p w):=by
 refine ak Zc fun T H E lv=>?_
 unfold wk
 cases i
 ·repeat (first | refine stN ?_ | intro E)
  apply qj (args:=[.ref 5 0,.int .i64 p,.int .u32 w]) (id:=5) (n0:=0) (H0:=fun _=>[]) (V:=sE tb ts rb rs ta ra st dr m p w) (os':=fun v=>[(5,v),(3,[.int .u32 0,.int .u32 0,.int .u32 0,.int .u32 0,.int .i64 0,.int .i64 0,.int .i64 0,.int .i64 0]),(4,[.sl 0 0 [],.int .u32 0,.sl 0 0 [],.bool false,.bool false])])
  ·exact rfl
  ·exact fun H E=>ng rfl ((abJ (k:=0) (Nat.le_refl 4) h hb hs ha).fuel (by omega))
  ·exact fun v hv=>⟨.inl ⟨rfl,rfl⟩,.inr ⟨rfl,rfl,rfl,rfl⟩,.inr ⟨rfl,rfl,rfl,rfl⟩,trivial⟩
  ·exact fun j hj=>by omega
  ·omega
  intro v H2 lv2 c2 hv hc2 _
  obtain ⟨tb',ts',rb',rs',ta',ra',st',br,z,m',o,r,ok,rfl,hO,hp⟩:=ES hv
  rw [hp]
  repeat (first | refine stN ?_ | intro E)
  rcases hO with ⟨rfl,rfl,rfl⟩ | ⟨h4,rfl⟩
  ·exact ae (.inr rfl) rfl rfl rfl rfl rfl rfl
  ·obtain ⟨q,rfl⟩:∃ q,br=q+4:=⟨br-4,by omega⟩
   exact ae (.inr rfl) rfl rfl rfl rfl rfl (by simp [AV.flat,bK,csl,doC])
 ·obtain ⟨v,st',ok,e1,e2⟩:=SH (tb:=tb) (ts:=ts) (rb:=rb) (rs:=rs) (ta:=ta) (ra:=ra) (st:=st) (dr:=dr) (m:=m) p w
  rw [e2]
  have c254:∀ H lv c E,aU (ab FN (k+10699)) 254 [.ref 5 0,.int .i64 p] [(5,woC m 0 (.sl 0 0 []) false true tb ts rb rs ta ra st dr)] H 6 lv c E (.tup []) 5 (woC m v (.sl 0 0 []) false ok tb ts rb rs ta ra st' dr):=fun H lv c E=>by rw [← e1];exact (abI (k:=0) hst).fuel (by omega)
  repeat (first | refine stN ?_ | intro E)
  apply ee (args:=[.ref 5 0,.int .i64 p]) (id:=5) (n0:=0) (H0:=fun _=>[]) (os':=[(5,woC m v (.sl 0 0 []) false ok tb ts rb rs ta ra st' dr),(3,[.int .u32 0,.int .u32 0,.int .u32 0,.int .u32 0,.int .i64 0,.int .i64 0,.int .i64 0,.int .i64 0]),(4,[.sl 0 0 [],.int .u32 0,.sl 0 0 [],.bool false,.bool false])])
  ·exact rfl
  ·exact fun H E=>fJ rfl (c254 (ah _ H) _ _ E)
  ·exact ⟨.inl ⟨rfl,rfl⟩,.inr ⟨rfl,rfl,rfl,rfl⟩,.inr ⟨rfl,rfl,rfl,rfl⟩,trivial⟩
  ·exact fun j hj=>by omega
  ·omega
  intro H2 _
  repeat (first | refine stN ?_ | intro E)
  exact ae (.inr rfl) rfl rfl rfl rfl rfl rfl
end
end Go.Proofs.YtepcejdglbcbkaaGreat
/- The encoding of a device, by the program and by the reference. Condition: its numbers fit their types. -/
namespace Go.Proofs.YtepcejdglbcbkaaGreat
open Go.Abs
variable {k:Nat}
structure NRq (x:NIq):Prop where
 tb:x.tb<4294967296
 ts:x.ts<4294967296
 rb:x.rb<4294967296
 rs:x.rs<4294967296
 ta:I64 x.ta
 ra:I64 x.ra
 st:I64 x.st
 dr:I64 x.dr
end Go.Proofs.YtepcejdglbcbkaaGreat
/- NicReadsBack: what it answers. Condition: the arguments are such as their types hold. -/
namespace Go.Proofs.YtepcejdglbcbkaaGreat
open Go.Abs
variable {k:Nat}
theorem abL (x:NIq):cE [0,0,0,0,0,0,0,0] (niC x) (niC x)=some true:=by
 simp [niC,cE,eqK]
end Go.Proofs.YtepcejdglbcbkaaGreat
/- Whether two doings are the same, by the reference; what a device becomes keeps its memory's size. Conditions: the memory is valid, at most 100 strings went out. -/
namespace Go.Proofs.YtepcejdglbcbkaaGreat
open Go.Abs
variable {k:Nat}
theorem sF {o:List (List UInt8)}{i:Nat}{y:List UInt8}(h:o[i]? = some y):rd (bS o) (i*1) 1 false=some (.str y):=by
 simp only [rd,Bool.false_eq_true,if_false,Nat.mul_one,bS,List.getElem?_map,h,Option.map_some,AV.leaf,if_true]
theorem yJ {m:List UInt8}{b s i:Nat}(h:RV m b s) (hi:i<s):(aK m b s i).length=m.length:=by
 have hle:=h.le
 by_cases he:a7 m b s i=0
 ·obtain ⟨h1,h2,_⟩:=dp hi he
  rw [h2]
  exact i9 h fun j hj=>(h1.one j hj).1
 ·obtain ⟨_,h2,_⟩:=gY he
  rw [h2];split
  ·exact dn (by omega)
  ·rfl
theorem wm {b s i:Nat}{x:TS}(h:RV x.m b s) (hi:i<s):(eB b s i x).m.length=x.m.length:=by
 have hm:=k9 h hi
 have hle:=hm.le
 have hl:=yJ h hi
 unfold eB
 split
 ·exact hl
 ·next he=>
  split
  ·exact (dn (by omega)).trans hl
  ·exact (i9 hm fun j hj=>((dp hi (Decidable.not_not.1 he)).1.one j hj).1).trans hl
theorem uA {b s:Nat}:∀ (n:Nat) (x:TS),TI b s x→TI b s (dc b s n x)∧(dc b s n x).m.length=x.m.length∧(dc b s n x).o.length≤x.o.length+n
 | 0,x,h=>⟨h,rfl,Nat.le_refl _⟩
 | n+1,x,h=>by
  unfold dc
  split
  ·exact ⟨h,rfl,by omega⟩
  ·next hf=>
   have hs:=h.m.hs
   have hlt:=k8 (m:=x.m) (b:=b) (s:=s) (pos:=x.a) (by omega) s 0 (by simpa using hf)
   obtain ⟨h1,h2,h3⟩:=uA n _ (qh h hlt)
   have ho:=Ao (b:=b) (s:=s) (i:=(cT x.m b s x.a s 0).1) (x:=x)
   exact ⟨h1,h2.trans (wm h.m hlt),by omega⟩
theorem wo {x:NIq}(h:c7 x=true):∃ ta ra st dr:Nat,x=⟨x.tb,x.ts,x.rb,x.rs,ta,ra,st,dr⟩∧(st=0∨(160≤st∧st≤165))∧dr≤1099511627776∧cV x.ts ta∧cV x.rs ra:=by
 unfold c7 at h
 simp only [Bool.and_eq_true,decide_eq_true_eq] at h
 obtain ⟨h1,h2,h3,h4⟩:=h
 have p1:cV x.ts x.ta:=@of_decide_eq_true _ (Classical.propDecidable _) h2
 have p2:cV x.rs x.ra:=@of_decide_eq_true _ (Classical.propDecidable _) h3
 have n1:0≤x.ta:=by rcases p1 with ⟨_,h,_⟩ | ⟨_,h⟩<;>omega
 have n2:0≤x.ra:=by rcases p2 with ⟨_,h,_⟩ | ⟨_,h⟩<;>omega
 obtain ⟨tb,ts,rb,rs,ta,ra,st,dr⟩:=x
 dsimp only at *
 refine ⟨ta.toNat,ra.toNat,st.toNat,dr.toNat,?_,by omega,by omega,?_,?_⟩
 ·rw [Int.toNat_of_nonneg n1,Int.toNat_of_nonneg n2,Int.toNat_of_nonneg (by omega),Int.toNat_of_nonneg h4.1]
 ·rw [Int.toNat_of_nonneg n1];exact p1
 ·rw [Int.toNat_of_nonneg n2];exact p2
theorem cV.lt {s a:Nat}(h:cV s a) (hw:dF s):a<s:=by
 rcases h with ⟨_,_,h⟩ | ⟨h,_⟩
 ·omega
 ·exact absurd hw h
end Go.Proofs.YtepcejdglbcbkaaGreat
/- NicCountsPackets: what it answers. Condition: the arguments are such as their types hold. -/
namespace Go.Proofs.YtepcejdglbcbkaaGreat
open Go.Abs
variable {k:Nat}
def StV (st:Nat):Prop:=st=0∨(160≤st∧st≤165)
theorem SI (l:List Pt) (w:Bool) (lo hi:Nat) (h:mfE l w lo hi≠0):160≤mfE l w lo hi∧mfE l w lo hi≤165:=by
 have:=(mi l w lo hi).resolve_left h
 omega
theorem mj {tb ts rb rs ta ra st dr:Nat}(h1:StV st) (h2:dr≤1099511627776) (h3:cV ts ta) (h4:cV rs ra):c7 ⟨tb,ts,rb,rs,ta,ra,st,dr⟩=true:=by
 unfold c7
 dsimp only
 rw [hJ h3,hJ h4,decide_eq_true (by unfold StV at h1;omega),decide_eq_true (by omega)]
 rfl
end Go.Proofs.YtepcejdglbcbkaaGreat
/- A board, its memory, and what it answers. No program. -/
namespace Go.Proofs.YtepcejdglbcbkaaGreat
open Go.Abs
variable {k:Nat}
structure BdI where
 c:LnI
 k:CkI
 s:CsI
 x:BI
 y:NIq
def bdC (b:BdI):List AV:=lnC b.c++(ckC b.k++(csC b.s++(biC b.x++niC b.y)))
def bdV (b:BdI):AV:=.agg (bdC b)
structure eK (b:BdI) (m:List UInt8):Prop where
 c:bI b.c
 k:eI b.k
 s:CsP b.s
 x:∃ a:Nat,b.x.at'=a∧Rt m b.x.b b.x.s a b.x.st b.x.d b.x.f
 y:c7 b.y=true
 r:NRq b.y
def ouC (kd cpu n:Nat) (l:List (List UInt8)):List AV:=l.flatMap fun y=>[.int .i64 0,.int .i64 kd,.int .i64 cpu,.int .i64 n,.str y]
def svC (m:List UInt8) (v:Nat) (o:List AV) (e:Int):List AV:=[csl 128 (m.map ofB),.int .u32 v,csl 5 o,.int .i64 e]
structure SvI where
 b:BdI
 m:List UInt8
 v:Nat
 kd:Nat
 o:List (List UInt8)
 e:Int
def svP (cpu n:Nat) (s:SvI):AV:=.tup [bdV s.b,.agg (svC s.m s.v (ouC s.kd cpu n s.o) s.e)]
def svR (cpu n:Nat) (s:SvI):AV:=.agg (bdC s.b++svC s.m s.v (ouC s.kd cpu n s.o) s.e)
def BdI.err (b:BdI) (m:List UInt8) (e:Int):SvI:=⟨b,m,0,0,[],e⟩
def BdI.up (b:BdI) (l:Nat) (is:Bool):BdI:=if is=true then { b with c:=b.c.raise l 0 } else b
def BdI.p0 (b:BdI) (m:List UInt8) (j:Nat) (i:Bool) (p:Int) (v:Nat):SvI:=match b.c.port j i p v with
 | some (c,r)=>⟨{ b with c:=c },m,r,0,[],0⟩
 | none=>b.err m 5
def BdI.p1 (b:BdI) (m:List UInt8) (j n:Nat) (i:Bool) (p:Int) (v:Nat):SvI:=
 if (b.k.port j n i p v).2.2=0 then ⟨{ b with k:=(b.k.port j n i p v).1 },m,(b.k.port j n i p v).2.1,0,[],0⟩ else b.err m (b.k.port j n i p v).2.2
def BdI.p2 (b:BdI) (m:List UInt8) (i:Bool) (p:Int) (v:Nat):SvI:=match b.s.port i p v with
 | some (s,r,o)=>⟨{ b with s:=s },m,r,1,if o=[] then [] else [o],0⟩
 | none=>b.err m 5
def caC (b:BdI) (m:List UInt8) (j n:Nat) (i:Bool) (p:Int) (v:Nat):List AV:=bdC b++[csl 128 (m.map ofB),.int .i64 j,.int .i64 n,.bool i,.int .i64 p,.int .u32 v]
theorem pt (kd cpu n:Nat) (l:List (List UInt8)):(ouC kd cpu n l).length=l.length*5:=eC (m:=5) (fun _=>rfl) l
end Go.Proofs.YtepcejdglbcbkaaGreat
