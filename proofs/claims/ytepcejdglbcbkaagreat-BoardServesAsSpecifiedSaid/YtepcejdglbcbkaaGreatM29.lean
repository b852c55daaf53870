/- Part of the texts on which proofs about this seat rest: each says what it proves at its own head. No condition. -/
import Derived.Test.YtepcejdglbcbkaaGreatM28
set_option linter.unusedVariables false
set_option linter.unusedSimpArgs false
set_option maxHeartbeats 2000000
set_option maxRecDepth 100000
/- Whether there is little of a device; words of a memory. Condition: the numbers are such as their types hold. -/
namespace Go.Proofs.YtepcejdglbcbkaaGreat
open Go.Abs
variable {k:Nat}
def sw (bs:List UInt8) (x:BI):Prop:=(∀ r∈x.f.take 11,r.l.length≤10)∧(bs.map ofB).length/128≤16∧eh x≤16∧x.f.length≤10
noncomputable def pk (bs:List UInt8) (x:BI):Bool:=@decide (sw bs x) (Classical.propDecidable _)
theorem yz {bs:List UInt8}{x:BI}(h:sw bs x):pk bs x=true:=@decide_eq_true _ (Classical.propDecidable _) h
theorem sA {bs:List UInt8}{x:BI}(h:¬ sw bs x):pk bs x=false:=@decide_eq_false _ (Classical.propDecidable _) h
theorem s37 {bs:List UInt8}{x:BI}:ad (ab FN (k+100)) 37 [biV x,aq bs] (.bool (pk bs x)):=by
 obtain ⟨b,s,at',st,d,f⟩:=x
 have hD:eh ⟨b,s,at',st,d,f⟩=(d.map ofB).length/128:=rfl
 have hdv:=dy f
 change ad _ _ [AV.agg [.int .u32 b,.int .u32 s,.int .i64 at',.int .i64 st,csl 128 (d.map ofB),csl 5 (bp f)],_] _
 refine ak aac fun T H E lv=>?_
 repeat (first | refine stN ?_ | intro E)
 refine aW (α:=Nat) (a8.mk (fun i=>i≤f.length∧i≤11∧(∀ r∈f.take i,r.l.length≤10)) (fun i=>11-i)
  (fun i=>[(5,.int .i64 (i:Int)),(4,.bool false),(3,.ref 1 0),(2,.ref 0 0)])
  (fun i=>[(1,[csl 128 (bs.map ofB)]),(0,[.int .u32 b,.int .u32 s,.int .i64 at',.int .i64 st,csl 128 (d.map ofB),csl 5 (bp f)])]))
  (fun _ _ c=>c=4) 0 ⟨Nat.zero_le _,by omega,by simp⟩ rfl (show 11-0<k+99 by omega) ⟨rfl,rfl,rfl,rfl,trivial⟩ ⟨rfl,rfl,trivial⟩ ?_
 rintro i lv c T H E hP rfl hμ
 have hP:i≤f.length∧i≤11∧(∀ r∈f.take i,r.l.length≤10):=hP
 obtain ⟨hP,hP2,hok⟩:=hP
 clear hμ
 dsimp only
 by_cases hi:i<f.length∧i<11
 ·obtain ⟨hi,hi2⟩:=hi
  obtain ⟨r,hp⟩:∃ p,f[i]? = some p:=⟨_,List.getElem?_eq_getElem hi⟩
  have gi:inB (i:Int) ((bp f).length/5)=some i:=aZ (by rw [dy];omega)
  have hrd:rd (bp f) (i*5+4) 1 false=some (csl 4 (bf r.l)):=il fI (by omega) hp rfl rfl
  have hdp:=cq r.l
  have hmem:r∈f.take 11:=List.mem_of_getElem? (i:=i) (by rw [List.getElem?_take_of_lt hi2];exact hp)
  by_cases hq:r.l.length≤10
  ·repeat (first | refine stN ?_ | intro E)
   refine aB (i+1) ⟨by omega,by omega,?_⟩ rfl (show 11-(i+1)<11-i by omega) ⟨rfl,rfl,rfl,rfl,trivial⟩ ⟨⟨rfl,rfl⟩,⟨rfl,rfl⟩,trivial⟩
   intro p' hp'
   rw [List.take_add_one,hp] at hp'
   rcases List.mem_append.1 hp' with hh | hh
   ·exact hok p' hh
   ·simp only [Option.toList_some,List.mem_singleton] at hh;rw [hh];exact hq
  ·rw [sA fun hF=>hq (hF.1 r hmem)]
   repeat (first | refine stN ?_ | intro E)
   apply bz
   repeat (first | refine stN ?_ | intro E)
   exact ae (.inr rfl) rfl rfl rfl rfl rfl rfl
 ·have hall:∀ r∈f.take 11,r.l.length≤10:=by
   intro r hr
   rcases Nat.lt_or_ge i 11 with h1 | h1
   ·have:i=f.length:=by omega
    subst this
    rw [List.take_length] at hok
    exact hok r (List.mem_of_mem_take hr)
   ·have:i=11:=by omega
    subst this
    exact hok r hr
  by_cases hF:(bs.map ofB).length/128≤16∧(d.map ofB).length/128≤16∧f.length≤10
  ·rw [yz ⟨hall,hF.1,by rw [hD];exact hF.2.1,hF.2.2⟩]
   have hi:i=f.length:=by omega
   subst hi
   repeat (first | refine stN ?_ | intro E)
   apply aN
   apply aM
   repeat (first | refine stN ?_ | intro E)
   exact ae (.inr rfl) rfl rfl rfl rfl rfl rfl
  ·rw [sA fun h=>hF ⟨h.2.1,by rw [← hD];exact h.2.2.1,h.2.2.2⟩]
   obtain hx | hx | hx:16<(bs.map ofB).length/128∨((bs.map ofB).length/128≤16∧16<(d.map ofB).length/128)∨((bs.map ofB).length/128≤16∧(d.map ofB).length/128≤16∧10<f.length):=by omega
   all_goals obtain hi1 | hi1:i=f.length∨(i<f.length∧i=11):=by omega
   all_goals
    repeat (first | refine stN ?_ | intro E)
    apply aN
    apply aM
    repeat (first | refine stN ?_ | intro E)
    exact ae (.inr rfl) rfl rfl rfl rfl rfl rfl
theorem oM {bs:List UInt8}{a:Nat}(h:a+4≤bs.length):(bs.drop a).take 4=[bs.getD a 0,bs.getD (a+1) 0,bs.getD (a+2) 0,bs.getD (a+3) 0]:=by
 apply List.ext_getElem?
 intro t
 match t with
 | 0=>simp [List.getD_eq_getElem?_getD,List.getElem?_eq_getElem (show a<bs.length by omega)]
 | 1=>simp [List.getD_eq_getElem?_getD,List.getElem?_eq_getElem (show a+1<bs.length by omega)]
 | 2=>simp [List.getD_eq_getElem?_getD,List.getElem?_eq_getElem (show a+2<bs.length by omega)]
 | 3=>simp [List.getD_eq_getElem?_getD,List.getElem?_eq_getElem (show a+3<bs.length by omega)]
 | t+4=>rw [List.getElem?_take_eq_none (by omega)];simp
theorem abm {bs:List UInt8}{a n:Nat}(h:VM bs) (hb:a+n≤bs.length):ad (ab FN (k+9000)) 172 [aq bs,.int .i64 a,.int .i64 n] (.tup [.str ((bs.drop a).take n),.bool true]):=Bz Bi Ys h hb
theorem Su {bs:List UInt8}{a:Nat}(h:VM bs) (hb:a+4≤bs.length):ad (ab FN (k+9001)) 251 [aq bs,.int .i64 a] (.int .u32 (word bs a)):=by
 have hl:=h.le
 have c172:ad (ab FN (k+9000)) 172 [aq bs,.int .i64 a,.int .i64 ((4:Nat):Int)] (.tup [.str ((bs.drop a).take 4),.bool true]):=abm h hb
 rw [oM hb] at c172
 have b0:=cY bs a;have b1:=cY bs (a+1);have b2:=cY bs (a+2);have b3:=cY bs (a+3)
 have w0:IntKind.u32.wrap (((bs.getD a 0).toNat:Nat):Int)=(bt bs a:Nat):=w32 (by omega) (show ((bt bs a:Nat):Int)<_ by omega)
 have w1:IntKind.u32.wrap (((bs.getD (a+1) 0).toNat:Nat):Int)=(bt bs (a+1):Nat):=w32 (by omega) (show ((bt bs (a+1):Nat):Int)<_ by omega)
 have w2:IntKind.u32.wrap (((bs.getD (a+2) 0).toNat:Nat):Int)=(bt bs (a+2):Nat):=w32 (by omega) (show ((bt bs (a+2):Nat):Int)<_ by omega)
 have w3:IntKind.u32.wrap (((bs.getD (a+3) 0).toNat:Nat):Int)=(bt bs (a+3):Nat):=w32 (by omega) (show ((bt bs (a+3):Nat):Int)<_ by omega)
 have h1:aj .shl (.int .u32 (bt bs (a+1):Nat)) (.int .u64 8)=some (.int .u32 ((bt bs (a+1)*2 ^ 8:Nat):Int)):=er (s:=8) (by omega) (by omega) rfl
 have h2:aj .shl (.int .u32 (bt bs (a+2):Nat)) (.int .u64 16)=some (.int .u32 ((bt bs (a+2)*2 ^ 16:Nat):Int)):=er (s:=16) (by omega) (by omega) rfl
 have h3:aj .shl (.int .u32 (bt bs (a+3):Nat)) (.int .u64 24)=some (.int .u32 ((bt bs (a+3)*2 ^ 24:Nat):Int)):=er (s:=24) (by omega) (by omega) rfl
 have o1:aj .or (.int .u32 (bt bs a:Nat)) (.int .u32 ((bt bs (a+1)*2 ^ 8:Nat):Int))=some (.int .u32 ((bt bs a+bt bs (a+1)*2 ^ 8:Nat):Int)):=kf (by omega) (by omega) rfl
 have o2:aj .or (.int .u32 ((bt bs a+bt bs (a+1)*2 ^ 8:Nat):Int)) (.int .u32 ((bt bs (a+2)*2 ^ 16:Nat):Int))=some (.int .u32 ((bt bs a+bt bs (a+1)*2 ^ 8+bt bs (a+2)*2 ^ 16:Nat):Int)):=kf (by omega) (by omega) rfl
 have o3:aj .or (.int .u32 ((bt bs a+bt bs (a+1)*2 ^ 8+bt bs (a+2)*2 ^ 16:Nat):Int)) (.int .u32 ((bt bs (a+3)*2 ^ 24:Nat):Int))=some (.int .u32 (word bs a)):=kf (by omega) (by omega) rfl
 refine ak Zb fun T H E lv=>?_
 repeat (first | refine stN ?_ | intro E)
 exact ae (.inr rfl) rfl rfl rfl rfl rfl rfl
theorem Zk {bs:List UInt8}{a n:Nat}(h:VM bs) (hb:a+n≤bs.length):ad (ab FN (k+9000)) 184 [aq bs,.int .i64 a,.int .i64 n] (.agg [.str ((bs.drop a).take n),.bool true]):=Sp h hb
theorem Sv {bs:List UInt8}{a:Nat}(h:VM bs) (hb:a+4≤bs.length):ad (ab FN (k+9001)) 190 [aq bs,.int .i64 a] (.int .i64 (word bs a)):=by
 have hl:=h.le
 have c184:ad (ab FN (k+9000)) 184 [aq bs,.int .i64 a,.int .i64 ((4:Nat):Int)] (.agg [.str ((bs.drop a).take 4),.bool true]):=Zk h hb
 rw [oM hb] at c184
 have b0:=cY bs a;have b1:=cY bs (a+1);have b2:=cY bs (a+2);have b3:=cY bs (a+3)
 have w0:IntKind.i64.wrap (((bs.getD a 0).toNat:Nat):Int)=(bt bs a:Nat):=w64 (by omega) (show ((bt bs a:Nat):Int)<_ by omega)
 have w1:IntKind.i64.wrap (((bs.getD (a+1) 0).toNat:Nat):Int)=(bt bs (a+1):Nat):=w64 (by omega) (show ((bt bs (a+1):Nat):Int)<_ by omega)
 have w2:IntKind.i64.wrap (((bs.getD (a+2) 0).toNat:Nat):Int)=(bt bs (a+2):Nat):=w64 (by omega) (show ((bt bs (a+2):Nat):Int)<_ by omega)
 have w3:IntKind.i64.wrap (((bs.getD (a+3) 0).toNat:Nat):Int)=(bt bs (a+3):Nat):=w64 (by omega) (show ((bt bs (a+3):Nat):Int)<_ by omega)
 have e:256*bt bs (a+1)+bt bs a+65536*bt bs (a+2)+16777216*bt bs (a+3)=word bs a:=by unfold word;omega
 refine ak YC fun T H E lv=>?_
 repeat (first | refine stN ?_ | intro E)
 have e:bt bs a+256*bt bs (a+1)+65536*bt bs (a+2)+16777216*bt bs (a+3)=word bs a:=by unfold word;omega
 rw [e]
 exact ae (.inr rfl) rfl rfl rfl rfl rfl rfl
end Go.Proofs.YtepcejdglbcbkaaGreat
/- A request out of its parts, and a refusal: by the reference. Condition: the memory is valid, the ring is there, the parts lie in memory. -/
namespace Go.Proofs.YtepcejdglbcbkaaGreat
open Go.Abs
variable {k:Nat}
abbrev eV (b s:Nat) (at' st:Int) (d:List UInt8) (f:List RI) (m:List UInt8) (v:Nat) (r ok:Bool):List AV:=
 [.int .u32 b,.int .u32 s,.int .i64 at',.int .i64 st,csl 128 (d.map ofB),csl 5 (bp f),csl 128 (m.map ofB),.int .u32 v,.sl 1 0 [],.bool r,.bool ok]
def dY (M:List UInt8) (D:Nat):List Pt→Nat
 | []=>161
 | p::t=>if p.n≠8∨p.w=true then 161 else if D≤word M p.a∨(word M (p.a+4)≠1∧word M (p.a+4)≠2) then 161 else dO (t.map Pt.toI) (decide (word M (p.a+4)=2))
def iL (b s:Nat) (M:List UInt8) (l:List Pt):RI:=⟨b,s,word M (l.headD ⟨0,0,0,false⟩).a,decide (word M ((l.headD ⟨0,0,0,false⟩).a+4)=2),l.map Pt.toI⟩
theorem oN (l:List PI) (w:Bool):dO l w=0∨dO l w=161∨dO l w=164:=by
 unfold dO;split
 ·exact .inr (.inl rfl)
 ·split
  ·exact .inr (.inr rfl)
  ·exact .inl rfl
theorem oO (M:List UInt8) (D:Nat) (l:List Pt):dY M D l=0∨dY M D l=161∨dY M D l=164:=by
 unfold dY;split
 ·exact .inr (.inl rfl)
 ·split
  ·exact .inr (.inl rfl)
  ·split
   ·exact .inr (.inl rfl)
   ·exact oN _ _
theorem abn {b s i e v:Nat}{at' st:Int}{d m:List UInt8}{f:List RI}{r ok:Bool}(h:RV m b s) (hi:i<s) (he:160≤e∧e≤165) :
 ad (ab FN (k+10400)) 189 [.agg (eV b s at' st d f m v r ok),.int .i64 i,.int .i64 e] (.agg (eV b s at' e d f (bj b (4+(e-160)) m i) v true ok)):=by
 have c133:ad (ab FN (k+10399)) 133 [aq m,aL b s,.int .i64 i,.int .i64 e] (aq (bj b (4+(e-160)) m i)):=(Sl (k:=0) h hi he).fuel (by omega)
 refine ak YB fun T H E lv=>?_
 repeat (first | refine stN ?_ | intro E)
 exact ae (.inr rfl) rfl rfl rfl rfl rfl rfl
structure oP (M:List UInt8) (p:Pt) (t:List Pt):Prop where
 len:t.length≤4
 one:∀ q∈p::t,1≤q.n∧q.n≤512∧q.a+q.n≤M.length
theorem oP.okN {M:List UInt8}{p:Pt}{t:List Pt}(h:oP M p t):okN (t.map Pt.toI):=by
 intro x hx
 obtain ⟨q,hq,rfl⟩:=List.mem_map.1 hx
 have:=h.one q (List.mem_cons_of_mem _ hq)
 simp only [Pt.toI];omega
theorem nF (p:Pt) (t:List Pt):((aY (p::t)).take ((aY (p::t)).length/4*4)).drop (1*4)=bf (t.map Pt.toI):=by
 have e:(aY (p::t)).length/4*4=(aY (p::t)).length:=by rw [i5];omega
 rw [e,List.take_length,so];rfl
theorem i6 (f:List RI):(bp f).length=f.length*5:=eC fI f
theorem Sw {f:List RI}(h:f≠[]):bp f≠[]:=by
 intro e
 have:=i6 f
 rw [e] at this
 have h2:=List.length_pos_iff.2 h
 simp at this;omega
theorem nf (f:List RI) (r:RI):bp f++riV r=bp (f++[r]):=by simp [bp]
theorem abo {b s i v:Nat}{at' st:Int}{d m:List UInt8}{f:List RI}{r ok:Bool}{p:Pt}{t:List Pt}(h:RV m b s) (hi:i<s) (hp:oP m p t) (hd:(d.map ofB).length/128≤64) (hf:f.length≤8) :
 ad (ab FN (k+10500)) 164 [.agg (eV b s at' st d f m v r ok),.int .i64 i,csl 4 (aY (p::t))]
  (if dY m ((d.map ofB).length/128) (p::t)=0 then .agg (eV b s at' st d (f++[iL b s m (p::t)]) m v r ok) else .agg (eV b s at' (dY m ((d.map ofB).length/128) (p::t)) d f (bj b (4+(dY m ((d.map ofB).length/128) (p::t)-160)) m i) v true ok)):=by
 have hl:=h.m.le
 obtain ⟨p1,p2,p3⟩:=hp.one p List.mem_cons_self
 have gi:inB 0 ((aY (p::t)).length/4)=some 0:=aZ (a:=0) (by rw [eQ];simp)
 have hab:asB 1 ((aY (p::t)).length/4)=some 1:=cx (a:=1) (by rw [eQ];simp)
 have hp0:(p::t)[0]? = some p:=rfl
 have hr1:rd (aY (p::t)) (0*4+1) 1 false=some (.int .i64 p.a):=yq hp0
 have hr2:rd (aY (p::t)) (0*4+2) 1 false=some (.int .i64 p.n):=sg hp0
 have hr3:rd (aY (p::t)) (0*4+3) 1 false=some (.bool p.w):=si hp0
 have c189:∀ e,160≤e∧e≤165→ad (ab FN (k+10499)) 189 [.agg (eV b s at' st d f m v r ok),.int .i64 i,.int .i64 (e:Nat)] (.agg (eV b s at' e d f (bj b (4+(e-160)) m i) v true ok)):=fun e he=>(abn (k:=0) h hi he).fuel (by omega)
 have c161:ad (ab FN (k+10499)) 189 [.agg (eV b s at' st d f m v r ok),.int .i64 i,.int .i64 161] (.agg (eV b s at' ((161:Nat):Int) d f (bj b (4+(161-160)) m i) v true ok)):=c189 161 (by omega)
 refine ak Yk fun T H E lv=>?_
 by_cases hh:p.n≠8∨p.w=true
 ·have e:dY m ((d.map ofB).length/128) (p::t)=161:=if_pos hh
  rw [e,if_neg (by omega)]
  by_cases hn:p.n=8
  ·have hw:=hh.resolve_left fun h=>h hn
   rw [hw] at hr3
   repeat (first | refine stN ?_ | intro E)
   exact ae (.inr rfl) rfl rfl rfl rfl rfl rfl
  ·repeat (first | refine stN ?_ | intro E)
   exact ae (.inr rfl) rfl rfl rfl rfl rfl rfl
 ·have e1:dY m ((d.map ofB).length/128) (p::t)=_:=if_neg hh
  have hn:p.n=8:=by omega
  have hw:p.w=false:=by cases hq:p.w<;>simp_all
  rw [hw] at hr3
  have c190a:ad (ab FN (k+10499)) 190 [aq m,.int .i64 p.a] (.int .i64 (word m p.a)):=(Sv (k:=0) h.m (by omega)).fuel (by omega)
  have c190b:ad (ab FN (k+10499)) 190 [aq m,.int .i64 ((p.a+4:Nat):Int)] (.int .i64 (word m (p.a+4))):=(Sv (k:=0) h.m (by omega)).fuel (by omega)
  have w0:=fH m p.a
  have w4:=fH m (p.a+4)
  by_cases hc:(d.map ofB).length/128≤word m p.a∨(word m (p.a+4)≠1∧word m (p.a+4)≠2)
  ·rw [if_pos hc] at e1
   rw [e1,if_neg (by omega)]
   obtain hx | hx:(d.map ofB).length/128≤word m p.a∨(word m p.a<(d.map ofB).length/128∧word m (p.a+4)≠1∧word m (p.a+4)≠2):=by omega
   all_goals
    repeat (first | refine stN ?_ | intro E)
    exact ae (.inr rfl) rfl rfl rfl rfl rfl rfl
  ·rw [if_neg hc] at e1
   have hfl:∀ w,dO (t.map Pt.toI) w=0∨dO (t.map Pt.toI) w=161∨dO (t.map Pt.toI) w=164:=fun w=>oN _ w
   have c160:∀ w,ad (ab FN (k+10499)) 160 [csl 4 (bf (t.map Pt.toI)),.bool w] (.int .i64 (dO (t.map Pt.toI) w)):=fun w=>(Ss (k:=0) (by have:=hp.len;simp;omega) hp.okN).fuel (by omega)
   have hlt:word m p.a<(d.map ofB).length/128:=by omega
   obtain hx | hx:word m (p.a+4)=1∨word m (p.a+4)=2:=by omega
   case' inl=>have ed:decide (word m (p.a+4)=2)=false:=decide_eq_false (by omega)
   case' inr=>have ed:decide (word m (p.a+4)=2)=true:=decide_eq_true (by omega)
   all_goals
    clear hc hh
    have eR:riV (iL b s m (p::t))=[.int .u32 b,.int .u32 s,.int .i64 (word m p.a),.bool (decide (word m (p.a+4)=2)),csl 4 (aY (p::t))]:=by
     rw [← so];rfl
    rw [ed] at eR e1
    have c160:=c160 (decide (word m (p.a+4)=2))
    have hfl:=hfl (decide (word m (p.a+4)=2))
    rw [ed] at c160 hfl
    obtain ⟨ft,hft⟩:∃ ft,ft=dY m ((d.map ofB).length/128) (p::t):=⟨_,rfl⟩
    rw [← hft]
    rw [e1] at hft
    rw [← hft] at c160 hfl
    clear e1 hft
    have eF:bp (f++[iL b s m (p::t)])=bp f++riV (iL b s m (p::t)):=(nf f _).symm
    rw [eR] at eF
    generalize iL b s m (p::t)=rq at eF eR ⊢
    generalize word m p.a=sec at hlt w0 c190a eR eF
    generalize word m (p.a+4)=cmd at w4 c190b hx ed
    by_cases h0:ft=0
    ·subst h0
     clear hfl
     rw [if_pos rfl]
     repeat (first | refine stN ?_ | intro E)
     apply jo
     ·exact rfl
     ·exact dD _ _
     ·exact rfl
     ·exact hab
     rw [nF]
     repeat (first | refine stN ?_ | intro E)
     unfold eV
     rw [eF]
     have hlf:=i6 f
     by_cases hf0:f=[]
     ·subst hf0
      apply p6
      ·exact rfl
      ·exact .inl rfl
      ·exact rfl
      ·exact fun H=>pj _ _ _
      ·exact ⟨by omega,by omega⟩
      ·exact Nat.zero_le _
      ·exact .inr rfl
      repeat (first | refine stN ?_ | intro E)
      apply fB
      ·exact rfl
      ·exact .inl rfl
      ·exact rfl
      ·exact fun H=>fU _ _ _ _
      ·exact ⟨by omega,by omega⟩
      ·have:room=17592186044416:=by decide +kernel
       rw [this];simp only [List.length_cons,List.length_nil];omega
      ·exact .inr (.inl rfl)
      ·exact List.cons_ne_nil _ _
      intro lv' l1 l2
      repeat (first | refine stN ?_ | intro E)
      exact ae (.inr rfl) rfl rfl rfl rfl rfl rfl
     ·apply fB
      ·exact rfl
      ·exact .inl rfl
      ·exact rfl
      ·exact fun H=>pj _ _ _
      ·exact ⟨by omega,by omega⟩
      ·have:room=17592186044416:=by decide +kernel
       rw [this,hlf];simp only [List.length_nil];omega
      ·exact .inr (.inl rfl)
      ·exact Sw hf0
      intro lv' l1 l2
      rw [List.nil_append]
      repeat (first | refine stN ?_ | intro E)
      apply fB
      ·exact rfl
      ·exact .inl rfl
      ·exact rfl
      ·exact fun H=>fU _ _ _ _
      ·exact ⟨by omega,by omega⟩
      ·have:room=17592186044416:=by decide +kernel
       rw [this,hlf];simp only [List.length_cons,List.length_nil];omega
      ·exact .inr (.inr ⟨by omega,by omega,l1⟩)
      ·exact List.cons_ne_nil _ _
      intro lv'' l3 l4
      repeat (first | refine stN ?_ | intro E)
      exact ae (.inr rfl) rfl rfl rfl rfl rfl rfl
    ·rw [if_neg h0]
     have hfe:160≤ft∧ft≤165:=by omega
     have c189:=c189 ft hfe
     clear hfl
     repeat (first | refine stN ?_ | intro E)
     apply jo
     ·exact rfl
     ·exact dD _ _
     ·exact rfl
     ·exact hab
     rw [nF]
     repeat (first | refine stN ?_ | intro E)
     exact ae (.inr rfl) rfl rfl rfl rfl rfl rfl
end Go.Proofs.YtepcejdglbcbkaaGreat
/- A refusal and a request, by the program: methods that write and read the object of the work under way. Condition: the memory is valid, the ring is there, the parts lie in memory. -/
namespace Go.Proofs.YtepcejdglbcbkaaGreat
open Go.Abs
variable {k:Nat}
abbrev ei (b s:Nat) (at' st:Int) (d:List UInt8) (fl:AV) (m:List UInt8) (v:Nat) (r ok:Bool):List AV:=
 [csl 128 (m.map ofB),.int .u32 v,.sl 0 0 [],.bool r,.bool ok,.int .u32 b,.int .u32 s,.int .i64 at',.int .i64 st,csl 128 (d.map ofB),fl]
theorem iH {F:aE}{f:FuncId}{args:List AV}{os:List (Nat×List AV)}{H:Hp}{n:Nat}{lv:Nat→Bool}{c:Nat}{E:Nat→Option TypeId}{R:AV}{id i:Nat}{v cells:List AV}(ho:lkO os i=some cells) (h:aU F f args [(i,cells)] (ah os H) n lv c E R id v):aU F f args os H n lv c E R id v:=by
 have e:ah [(i,cells)] (ah os H)=ah os H:=by
  funext j
  simp only [ah,upd]
  split
  ·next hj=>rw [hj,av ho]
  ·rfl
 obtain ⟨h⟩:=h
 rw [e] at h
 exact ⟨h⟩
theorem abp {b s i e v c:Nat}{at' st:Int}{d m:List UInt8}{fl:AV}{r ok:Bool}{H:Hp}{E:Nat→Option TypeId}{lv:Nat→Bool}(hu:fl.under 9=true) (h:RV m b s) (hi:i<s) (he:160≤e∧e≤165) :
 aU (ab FN (k+10500)) 250 [.ref 5 0,.int .i64 i,.int .i64 e] [(5,ei b s at' st d fl m v r ok)] H 9 lv c E (.tup []) 5 (ei b s at' e d fl (bj b (4+(e-160)) m i) v true ok):=by
 have c195:ad (ab FN (k+10499)) 195 [aq m,aL b s,.int .i64 i,.int .i64 e] (aq (bj b (4+(e-160)) m i)):=(Ae (k:=0) h hi he).fuel (by omega)
 refine bY (by omega) ?_ Za fun T=>?_
 ·simp only [bJ,AV.under,csl,hu,Bool.and_self]
 repeat (first | refine stN ?_ | intro E)
 exact aQ (.inl rfl) rfl rfl rfl rfl rfl ⟨rfl,_,rfl,av rfl,(((az.refl _ _ _).upd (.inl rfl)).upd (.inl rfl)).upd (.inl rfl)⟩
def early (M:List UInt8) (D:Nat) (p:Pt):Prop:=(p.n≠8∨p.w=true)∨D≤word M p.a∨(word M (p.a+4)≠1∧word M (p.a+4)≠2)
instance (M:List UInt8) (D:Nat) (p:Pt):Decidable (early M D p):=by unfold early;exact inferInstance
def mf (M:List UInt8) (D b s:Nat) (p:Pt) (t:List Pt):List AV:=if early M D p then [.int .u32 0,.int .u32 0,.int .i64 0,.bool false,.sl 0 0 []] else riV (iL b s M (p::t))
theorem i7 {M:List UInt8}{D:Nat}{p:Pt}{t:List Pt}(h:early M D p):dY M D (p::t)=161:=by
 by_cases h1:p.n≠8∨p.w=true
 ·exact if_pos h1
 ·exact (if_neg h1).trans (if_pos (h.resolve_left h1))
theorem qd {M:List UInt8}{D:Nat}{p:Pt}{t:List Pt}(h:¬ early M D p):dY M D (p::t)=dO (t.map Pt.toI) (decide (word M (p.a+4)=2)):=by
 exact (if_neg fun h1=>h (.inl h1)).trans (if_neg fun h1=>h (.inr h1))
theorem abq {b s v c:Nat}{at' st:Int}{d m:List UInt8}{fl:AV}{r ok:Bool}{p:Pt}{t:List Pt}{H:Hp}{E:Nat→Option TypeId}{lv:Nat→Bool}(hu:fl.under 8=true) (h:RV m b s) (hp:oP m p t) (hd:(d.map ofB).length/128≤64) :
 aU (ab FN (k+10500)) 249 [.ref 5 0,csl 4 (aY (p::t))] [(5,ei b s at' st d fl m v r ok)] H 8 lv c E (.tup [.agg (mf m ((d.map ofB).length/128) b s p t),.int .i64 (dY m ((d.map ofB).length/128) (p::t))]) 5 (ei b s at' st d fl m v r ok):=by
 have hl:=h.m.le
 obtain ⟨p1,p2,p3⟩:=hp.one p List.mem_cons_self
 have gi:inB 0 ((aY (p::t)).length/4)=some 0:=aZ (a:=0) (by rw [eQ];simp)
 have hab:asB 1 ((aY (p::t)).length/4)=some 1:=cx (a:=1) (by rw [eQ];simp)
 have hp0:(p::t)[0]? = some p:=rfl
 have hr:rd (aY (p::t)) (0*4) 4 true=some (.agg [.int .i64 p.i,.int .i64 p.a,.int .i64 p.n,.bool p.w]):=By hp0
 have hwd:IntKind.u32.wrap (((d.map ofB).length/128:Nat):Int)=((d.map ofB).length/128:Nat):=w32 (by omega) (by omega)
 refine bY (by omega) ?_ Y9 fun T=>?_
 ·simp only [bJ,AV.under,csl,hu,Bool.and_self]
 by_cases hh:p.n≠8∨p.w=true
 ·have hea:early m ((d.map ofB).length/128) p:=.inl hh
  rw [i7 hea,show mf m ((d.map ofB).length/128) b s p t=_ from if_pos hea]
  by_cases hn:p.n=8
  ·have hw:=hh.resolve_left fun h=>h hn
   rw [hw] at hr
   repeat (first | refine stN ?_ | intro E)
   exact aQ (.inr rfl) rfl rfl rfl rfl rfl ⟨rfl,_,rfl,av rfl,((((az.refl _ _ _).upd (.inr (by omega))).upd (.inr (by omega))).upd (.inr (by omega))).upd (.inr (by omega))⟩
  ·repeat (first | refine stN ?_ | intro E)
   exact aQ (.inr rfl) rfl rfl rfl rfl rfl ⟨rfl,_,rfl,av rfl,((((az.refl _ _ _).upd (.inr (by omega))).upd (.inr (by omega))).upd (.inr (by omega))).upd (.inr (by omega))⟩
 ·have hn:p.n=8:=by omega
  have hw:p.w=false:=by cases hq:p.w<;>simp_all
  rw [hw] at hr
  have c251a:ad (ab FN (k+10499)) 251 [aq m,.int .i64 p.a] (.int .u32 (word m p.a)):=(Su (k:=0) h.m (by omega)).fuel (by omega)
  have c251b:ad (ab FN (k+10499)) 251 [aq m,.int .i64 ((p.a+4:Nat):Int)] (.int .u32 (word m (p.a+4))):=(Su (k:=0) h.m (by omega)).fuel (by omega)
  have w0:=fH m p.a
  have w4:=fH m (p.a+4)
  by_cases hc:(d.map ofB).length/128≤word m p.a∨(word m (p.a+4)≠1∧word m (p.a+4)≠2)
  ·have hea:early m ((d.map ofB).length/128) p:=.inr hc
   rw [i7 hea,show mf m ((d.map ofB).length/128) b s p t=_ from if_pos hea]
   have hx:(d.map ofB).length/128≤word m p.a∨(word m p.a<(d.map ofB).length/128∧word m (p.a+4)≠1∧word m (p.a+4)≠2):=by omega
   clear hc hh hea
   generalize word m p.a=sec at w0 c251a hx
   generalize word m (p.a+4)=cmd at w4 c251b hx
   obtain hx | hx:=hx
   all_goals
    repeat (first | refine stN ?_ | intro E)
    exact aQ (.inr rfl) rfl rfl rfl rfl rfl ⟨rfl,_,rfl,av rfl,((((az.refl _ _ _).upd (.inr (by omega))).upd (.inr (by omega))).upd (.inr (by omega))).upd (.inr (by omega))⟩
  ·have hne:¬ early m ((d.map ofB).length/128) p:=fun h=>h.elim hh hc
   rw [qd hne,show mf m ((d.map ofB).length/128) b s p t=_ from if_neg hne]
   have hlt:word m p.a<(d.map ofB).length/128:=by omega
   have c158:∀ w,ad (ab FN (k+10499)) 158 [csl 4 (bf (t.map Pt.toI)),.bool w] (.int .i64 (dO (t.map Pt.toI) w)):=fun w=>(Sr (k:=0) (by have:=hp.len;simp;omega) hp.okN).fuel (by omega)
   have hws:IntKind.i64.wrap (word m p.a:Int)=word m p.a:=w64 (by omega) (by omega)
   have eR:riV (iL b s m (p::t))=[.int .u32 b,.int .u32 s,.int .i64 (word m p.a),.bool (decide (word m (p.a+4)=2)),csl 4 (aY (p::t))]:=by
    rw [← so];rfl
   rw [eR]
   have hx:word m (p.a+4)=1∨word m (p.a+4)=2:=by omega
   clear hc hh hne eR
   generalize word m p.a=sec at w0 c251a hlt hws ⊢
   generalize word m (p.a+4)=cmd at w4 c251b hx ⊢
   have c158a:=c158 false
   have c158b:=c158 true
   clear c158
   obtain rfl | rfl:=hx
   case' inl=>rw [show decide ((1:Nat)=2)=false from rfl]
   case' inr=>rw [show decide ((2:Nat)=2)=true from rfl]
   all_goals
    repeat (first | refine stN ?_ | intro E)
    apply jo
    ·exact rfl
    ·exact dD _ _
    ·exact rfl
    ·exact hab
    rw [nF]
    repeat (first | refine stN ?_ | intro E)
    trace_state
    exact aQ (.inr rfl) rfl rfl rfl rfl rfl ⟨rfl,_,rfl,av rfl,((((((az.refl _ _ _).upd (.inr (by omega))).upd (.inr (by omega))).upd (.inr (by omega))).upd (.inr (by omega))).upd (.inr (by omega))).upd (.inr (by omega))⟩
end Go.Proofs.YtepcejdglbcbkaaGreat
