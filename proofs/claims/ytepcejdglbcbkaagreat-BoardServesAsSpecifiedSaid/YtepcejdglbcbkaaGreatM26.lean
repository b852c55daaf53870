/- Part of the texts on which proofs about this seat rest: each says what it proves at its own head. No condition. -/
import Derived.Test.YtepcejdglbcbkaaGreatM25
set_option linter.unusedVariables false
set_option linter.unusedSimpArgs false
set_option maxHeartbeats 2000000
set_option maxRecDepth 100000
/- Whether a request is right, by the program. Condition: the memory is valid; the numbers are such as their types hold; at most 100 parts. -/
namespace Go.Proofs.YtepcejdglbcbkaaGreat
open Go.Abs
variable {k:Nat}
def jt (js:List Int):List AV:=js.flatMap fun j=>[.int .i64 j,.bool true]
theorem sr (i:Int):∀ (js:List Int),getM 0 (.int .i64 i) (jt js)=some (if i∈js then some (.bool true) else none)
 | []=>rfl
 | j::js=>by
  have ih:=sr i js
  have e:jt (j::js) = .int .i64 j :: .bool true::jt js:=rfl
  rw [e]
  simp only [getM,eqK,if_true]
  by_cases h:i=j
  ·subst h;simp
  ·have:(i==j)=false:=by simpa using h
   rw [this]
   simp only [ih,List.mem_cons,h,false_or]
theorem su {i:Int}:∀ {js:List Int},i∉js→dU 0 (.int .i64 i) (.bool true) (jt js)=some (jt (js++[i]))
 | [],_=>rfl
 | j::js,h=>by
  simp only [List.mem_cons,not_or] at h
  have ih:=su h.2
  have e:jt (j::js) = .int .i64 j :: .bool true::jt js:=rfl
  rw [e]
  have:(i==j)=false:=by simpa using h.1
  simp only [dU,eqK,if_true,this,ih,Option.map_some]
  rfl
theorem oK (n:Nat):∀ (js:List Int),bJ n (jt js)=true
 | []=>rfl
 | j::js=>by
  have e:jt (j::js) = .int .i64 j :: .bool true::jt js:=rfl
  rw [e]
  simp only [bJ,AV.under,oK n js,Bool.and_self]
def okP (L s:Nat) (p:PI):Prop:=0≤p.i∧p.i<s∧1≤p.n∧p.n≤512∧0≤p.a∧p.a≤(L:Int)-p.n
def idx (l:List PI):List Int:=l.map (·.i)
def EM (L s:Nat) (l:List PI):Prop:=(∀ p∈l,okP L s p)∧(idx l).Nodup
def ez (L D:Nat) (r:RI):Prop:=
 (aX L r.b r.s=0∧0≤r.q∧r.q<D∧2≤r.l.length∧r.l.length≤4)∧EM L r.s r.l∧∃ p l,r.l=p::l∧p.w=false∧p.n=8∧dO l r.w=0
noncomputable def cj (L D:Nat) (r:RI):Bool:=@decide (ez L D r) (Classical.propDecidable _)
theorem kX {L D:Nat}{r:RI}(h:ez L D r):cj L D r=true:=@decide_eq_true _ (Classical.propDecidable _) h
theorem eg {L D:Nat}{r:RI}(h:¬ ez L D r):cj L D r=false:=@decide_eq_false _ (Classical.propDecidable _) h
theorem oL {L D:Nat}{r:RI}:cj L D r=true↔ez L D r:=by
 constructor
 ·intro h
  exact @of_decide_eq_true _ (Classical.propDecidable _) h
 ·exact kX
theorem nC {l:List PI}{i:Nat}{p:PI}(h:l[i]? = some p):idx (l.take (i+1))=idx (l.take i)++[p.i]:=by
 unfold idx;rw [List.take_add_one,h];simp
theorem sv {l:List PI}{i:Nat}{p:PI}(h:l[i]? = some p) (hn:(idx l).Nodup):p.i∉idx (l.take i):=by
 have h1:(idx (l.take (i+1))).Nodup:=by
  refine List.Sublist.nodup ?_ hn
  exact (List.take_sublist _ _).map _
 rw [nC h,List.nodup_append] at h1
 intro hm
 exact h1.2.2 _ hm _ (by simp) rfl
theorem abj {bs:List UInt8}{D:Nat}{r:RI}(h:VM bs) (hb:r.b<4294967296) (hs:r.s<4294967296) (hD:D<1000000) (hn:r.l.length≤5000):ad (ab FN (k+400)) 105 [.agg (riV r),aq bs,.int .i64 D] (.bool (cj bs.length D r)):=by
 have hl:=h.le
 obtain ⟨b,s,q,w,l⟩:=r
 dsimp only at hb hs hn
 have c156:ad (ab FN (k+399)) 156 [aq bs,aL b s] (.int .i64 (aX bs.length b s)):=(vX (k:=0) h hb hs).fuel (by omega)
 have c157:ad (ab FN (k+399)) 157 [aq bs] (.int .i64 bs.length):=(vS (k:=0) h).fuel (by omega)
 change ad _ _ [AV.agg [.int .u32 b,.int .u32 s,.int .i64 q,.bool w,csl 4 (bf l)],_,_] _
 refine ak XN fun T H E lv=>?_
 have hdv:=cq l
 by_cases hA:aX bs.length b s=0∧0≤q∧q<D∧2≤l.length∧l.length≤4
 ·obtain ⟨a1,a2,a3,a4,a5⟩:=id hA
  rw [a1] at c156
  repeat (first | refine stN ?_ | intro E)
  rw [cq]
  refine aW (α:=Nat) (a8.mk (fun i=>i≤l.length∧(∀ p∈l.take i,okP bs.length s p)∧(idx (l.take i)).Nodup) (fun i=>l.length-i)
   (fun i=>[(43,.int .i64 (i:Int)),(42,.int .i64 (l.length:Int)),(41,csl 4 (bf l)),(7,.mp 2),(6,.bool false),(4,.ref 1 0),(3,.ref 0 0)])
   (fun i=>[(2,.bool true::jt (idx (l.take i))),(1,[csl 128 (bs.map ofB)]),(0,[.int .u32 b,.int .u32 s,.int .i64 q,.bool w,csl 4 (bf l)])]))
   (fun _ _ c=>c=4) 0 ⟨Nat.zero_le _,by simp,by simp [idx]⟩ rfl (show l.length-0<k+399 by omega) ⟨rfl,rfl,rfl,rfl,rfl,rfl,rfl,trivial⟩ ⟨rfl,rfl,rfl,trivial⟩ ?_
  rintro i lv c T H E hP rfl hμ
  have hP:i≤l.length∧(∀ p∈l.take i,okP bs.length s p)∧(idx (l.take i)).Nodup:=hP
  obtain ⟨hP,hok,hnd⟩:=hP
  clear hμ
  dsimp only
  rcases Nat.lt_or_ge i l.length with hi | hi
  ·obtain ⟨p,hp⟩:∃ p,l[i]? = some p:=⟨_,List.getElem?_eq_getElem hi⟩
   have gi:inB (i:Int) ((bf l).length/4)=some i:=aZ (by rw [cq];omega)
   have hr:rd (bf l) (i*4) 4 true=some (.agg [.int .i64 p.i,.int .i64 p.a,.int .i64 p.n,.bool p.w]):=gK bX hp
   have hws:IntKind.i64.wrap (s:Int)=s:=w64 (by omega) (by omega)
   have hg:=sr p.i (idx (l.take i))
   by_cases hm:p.i∈idx (l.take i)
   ·rw [if_pos hm] at hg
    have hf:cj bs.length D ⟨b,s,q,w,l⟩=false:=eg fun hR=>sv hp hR.2.1.2 hm
    rw [hf]
    obtain hx | hx | hx:p.i<0∨(s:Int)≤p.i∨(0≤p.i∧p.i<s):=by omega
    all_goals
     repeat (first | refine stN ?_ | intro E)
     apply bz
     repeat (first | refine stN ?_ | intro E)
     exact ae (.inr rfl) rfl rfl rfl rfl rfl rfl
   ·rw [if_neg hm] at hg
    by_cases hok':okP bs.length s p
    ·obtain ⟨o1,o2,o3,o4,o5,o6⟩:=id hok'
     have hsub:aj .sub (.int .i64 (bs.length:Int)) (.int .i64 p.n)=some (.int .i64 ((bs.length:Int)-p.n)):=fD rfl (by omega) (by omega)
     have hset:=su hm
     repeat (first | refine stN ?_ | intro E)
     refine aB (i+1) ⟨by omega,?_,?_⟩ rfl (show l.length-(i+1)<l.length-i by omega) ⟨rfl,rfl,rfl,rfl,rfl,rfl,rfl,trivial⟩ ⟨⟨by rw [nC hp];rfl,oK _ _⟩,⟨rfl,rfl⟩,⟨rfl,rfl⟩,trivial⟩
     ·intro p' hp'
      rw [List.take_add_one,hp] at hp'
      rcases List.mem_append.1 hp' with hh | hh
      ·exact hok p' hh
      ·simp only [Option.toList_some,List.mem_singleton] at hh;rw [hh];exact hok'
     ·rw [nC hp,List.nodup_append]
      exact ⟨hnd,by simp,fun x hx y hy=>by simp only [List.mem_singleton] at hy;rw [hy];intro e;exact hm (e▸hx)⟩
    ·have hf:cj bs.length D ⟨b,s,q,w,l⟩=false:=eg fun hR=>hok' (hR.2.1.1 p (List.mem_of_getElem? hp))
     rw [hf]
     unfold okP at hok'
     obtain hx | hx | hx | hx | hx | hx:p.i<0∨(0≤p.i∧(s:Int)≤p.i)∨(0≤p.i∧p.i<s∧p.n<1)∨(0≤p.i∧p.i<s∧512<p.n)∨(0≤p.i∧p.i<s∧1≤p.n∧p.n≤512∧p.a<0)∨(0≤p.i∧p.i<s∧1≤p.n∧p.n≤512∧0≤p.a∧(bs.length:Int)-p.n<p.a):=by omega
     case' inr.inr.inr.inr.inr=>
      have hsub:aj .sub (.int .i64 (bs.length:Int)) (.int .i64 p.n)=some (.int .i64 ((bs.length:Int)-p.n)):=fD rfl (by omega) (by omega)
     all_goals
      repeat (first | refine stN ?_ | intro E)
      apply bz
      repeat (first | refine stN ?_ | intro E)
      exact ae (.inr rfl) rfl rfl rfl rfl rfl rfl
  ·rw [List.take_of_length_le hi] at hok hnd
   obtain ⟨p,l',rfl⟩:∃ p l',l=p::l':=by
    rcases l with _ | ⟨p,l'⟩
    ·simp at a4
    ·exact ⟨p,l',rfl⟩
   have hp:(p::l')[0]? = some p:=rfl
   have gi:inB 0 ((bf (p::l')).length/4)=some 0:=aZ (a:=0) (by rw [cq];simp)
   have hr:rd (bf (p::l')) (0*4) 4 true=some (.agg [.int .i64 p.i,.int .i64 p.a,.int .i64 p.n,.bool p.w]):=gK bX hp
   have hll:l'.length≤100:=by simp only [List.length_cons] at a5;omega
   have hoN:okN l':=fun x hx=>by have:=hok x (List.mem_cons_of_mem _ hx);unfold okP at this;omega
   have c158:ad (ab FN (k+399)) 158 [csl 4 (bf l'),.bool w] (.int .i64 (dO l' w)):=(Sr (k:=0) hll hoN).fuel (by omega)
   have hdr:((bf (p::l')).take ((bf (p::l')).length/4*4)).drop (1*4)=bf l':=by
    have e:(bf (p::l')).length/4*4=(bf (p::l')).length:=by rw [cq];exact (eC bX _).symm
    rw [e,List.take_length];rfl
   have hab:asB 1 ((bf (p::l')).length/4)=some 1:=cx (a:=1) (by rw [cq];simp)
   by_cases hw:p.w=false∧p.n=8
   ·obtain ⟨w1,w2⟩:=hw
    rw [w1,w2] at hr
    repeat (first | refine stN ?_ | intro E)
    apply aN
    apply aM
    repeat (first | refine stN ?_ | intro E)
    apply jo
    ·exact rfl
    ·exact dD _ _
    ·exact rfl
    ·exact hab
    rw [hdr]
    by_cases hfit:dO l' w=0
    ·have hf:cj bs.length D ⟨b,s,q,w,p::l'⟩=true:=kX ⟨hA,⟨hok,hnd⟩,p,l',rfl,w1,w2,hfit⟩
     rw [hf]
     rw [hfit] at c158
     repeat (first | refine stN ?_ | intro E)
     exact ae (.inr rfl) rfl rfl rfl rfl rfl rfl
    ·have hf:cj bs.length D ⟨b,s,q,w,p::l'⟩=false:=eg fun hR=>by
      obtain ⟨_,_,p1,l1,e1,_,_,e4⟩:=hR
      cases e1;exact hfit e4
     rw [hf]
     repeat (first | refine stN ?_ | intro E)
     exact ae (.inr rfl) rfl rfl rfl rfl rfl rfl
   ·have hf:cj bs.length D ⟨b,s,q,w,p::l'⟩=false:=eg fun hR=>by
     obtain ⟨_,_,p1,l1,e1,e2,e3,_⟩:=hR
     cases e1;exact hw ⟨e2,e3⟩
    rw [hf]
    cases hpw:p.w
    ·have hpn:p.n≠8:=fun e=>hw ⟨hpw,e⟩
     rw [hpw] at hr
     repeat (first | refine stN ?_ | intro E)
     apply aN
     apply aM
     repeat (first | refine stN ?_ | intro E)
     exact ae (.inr rfl) rfl rfl rfl rfl rfl rfl
    ·rw [hpw] at hr
     repeat (first | refine stN ?_ | intro E)
     apply aN
     apply aM
     repeat (first | refine stN ?_ | intro E)
     exact ae (.inr rfl) rfl rfl rfl rfl rfl rfl
 ·have hf:cj bs.length D ⟨b,s,q,w,l⟩=false:=eg fun hR=>hA hR.1
  rw [hf]
  obtain hx | hx | hx | hx | hx:aX bs.length b s≠0∨(aX bs.length b s=0∧q<0)∨(aX bs.length b s=0∧0≤q∧(D:Int)≤q)∨(aX bs.length b s=0∧0≤q∧q<D∧l.length<2)∨(aX bs.length b s=0∧0≤q∧q<D∧4<l.length):=by omega
  all_goals
   repeat (first | refine stN ?_ | intro E)
   exact ae (.inr rfl) rfl rfl rfl rfl rfl rfl
end Go.Proofs.YtepcejdglbcbkaaGreat
