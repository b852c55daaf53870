/- Part of the texts on which proofs about this seat rest: each says what it proves at its own head. No condition. -/
import Derived.Test.YtepcejdglbcbkaaGreatM26
set_option linter.unusedVariables false
set_option linter.unusedSimpArgs false
set_option maxHeartbeats 2000000
set_option maxRecDepth 100000
/- Whether a request is right, by the reference. Condition: the memory is valid; the numbers are such as their types hold; at most 100 parts. -/
namespace Go.Proofs.YtepcejdglbcbkaaGreat
open Go.Abs
variable {k:Nat}
theorem yx:∀ {l:List PI},(∀ (i j:Nat) (p q:PI),j<i→l[i]? = some p→l[j]? = some q→q.i≠p.i)→(idx l).Nodup:=by
 intro l h
 unfold idx
 rw [List.nodup_iff_pairwise_ne,List.pairwise_map,List.pairwise_iff_getElem]
 intro i j hi hj hij
 exact h j i l[j] l[i] hij (List.getElem?_eq_getElem hj) (List.getElem?_eq_getElem hi)
theorem Ai {l:List PI}(hn:(idx l).Nodup) {i j:Nat}{p q:PI}(hij:j<i) (hp:l[i]? = some p) (hq:l[j]? = some q):q.i≠p.i:=by
 intro e
 refine sv hp hn ?_
 rw [← e]
 refine List.mem_map.2 ⟨q,?_,rfl⟩
 exact List.mem_of_getElem? (i:=j) (by rw [List.getElem?_take_of_lt hij];exact hq)
theorem abk {bs:List UInt8}{D:Nat}{r:RI}(h:VM bs) (hb:r.b<4294967296) (hs:r.s<4294967296) (hD:D<1000000) (hn:r.l.length≤5000):ad (ab FN (k+400)) 108 [.agg (riV r),aq bs,.int .i64 D] (.bool (cj bs.length D r)):=by
 have hl:=h.le
 obtain ⟨b,s,q,w,l⟩:=r
 dsimp only at hb hs hn
 have c129:ad (ab FN (k+399)) 129 [aq bs,aL b s] (.int .i64 (aX bs.length b s)):=(sf (k:=0) h hb hs).fuel (by omega)
 have c159:ad (ab FN (k+399)) 159 [aq bs] (.int .i64 bs.length):=(r6 (k:=0) h).fuel (by omega)
 change ad _ _ [AV.agg [.int .u32 b,.int .u32 s,.int .i64 q,.bool w,csl 4 (bf l)],_,_] _
 refine ak XQ fun T H E lv=>?_
 have hdv:=cq l
 by_cases hA:aX bs.length b s=0∧0≤q∧q<D∧2≤l.length∧l.length≤4
 ·obtain ⟨a1,a2,a3,a4,a5⟩:=id hA
  rw [a1] at c129
  repeat (first | refine stN ?_ | intro E)
  refine aW (α:=Nat) (a8.mk (fun i=>i≤l.length∧(∀ p∈l.take i,okP bs.length s p)∧(∀ (a b:Nat) (p q:PI),a<i→b<a→l[a]? = some p→l[b]? = some q→q.i≠p.i)) (fun i=>l.length-i)
   (fun i=>[(7,.int .i64 (i:Int)),(6,.bool false),(4,.ref 1 0),(3,.ref 0 0)])
   (fun i=>[(1,[csl 128 (bs.map ofB)]),(0,[.int .u32 b,.int .u32 s,.int .i64 q,.bool w,csl 4 (bf l)])]))
   (fun _ _ c=>c=4) 0 ⟨Nat.zero_le _,by simp,fun _ _ _ _ h=>by omega⟩ rfl (show l.length-0<k+399 by omega) ⟨rfl,rfl,rfl,rfl,trivial⟩ ⟨rfl,rfl,trivial⟩ ?_
  rintro i lv c T H E hP rfl hμ
  have hP:i≤l.length∧(∀ p∈l.take i,okP bs.length s p)∧(∀ (a b:Nat) (p q:PI),a<i→b<a→l[a]? = some p→l[b]? = some q→q.i≠p.i):=hP
  obtain ⟨hP,hok,hnd⟩:=hP
  clear hμ
  dsimp only
  rcases Nat.lt_or_ge i l.length with hi | hi
  ·obtain ⟨p,hp⟩:∃ p,l[i]? = some p:=⟨_,List.getElem?_eq_getElem hi⟩
   have gi:inB (i:Int) ((bf l).length/4)=some i:=aZ (by rw [cq];omega)
   have hr:rd (bf l) (i*4) 4 true=some (.agg [.int .i64 p.i,.int .i64 p.a,.int .i64 p.n,.bool p.w]):=gK bX hp
   have hws:IntKind.i64.wrap (s:Int)=s:=w64 (by omega) (by omega)
   by_cases hok':okP bs.length s p
   ·obtain ⟨o1,o2,o3,o4,o5,o6⟩:=id hok'
    have hsub:aj .sub (.int .i64 (bs.length:Int)) (.int .i64 p.n)=some (.int .i64 ((bs.length:Int)-p.n)):=fD rfl (by omega) (by omega)
    repeat (first | refine stN ?_ | intro E)
    refine aW (α:=Nat) (a8.mk (fun j=>j≤i∧(∀ (b:Nat) (q:PI),b<j→l[b]? = some q→q.i≠p.i)) (fun j=>i-j)
     (fun j=>[(9,.int .i64 (j:Int)),(8,.ref 2 0),(7,.int .i64 (i:Int)),(6,.bool false),(4,.ref 1 0),(3,.ref 0 0)])
     (fun j=>[(2,[.int .i64 p.i,.int .i64 p.a,.int .i64 p.n,.bool p.w]),(1,[csl 128 (bs.map ofB)]),(0,[.int .u32 b,.int .u32 s,.int .i64 q,.bool w,csl 4 (bf l)])]))
     (fun _ _ c=>c=4) 0 ⟨Nat.zero_le _,fun _ _ h=>by omega⟩ rfl (show i-0<k+399 by omega) ⟨rfl,rfl,rfl,rfl,rfl,rfl,trivial⟩ ⟨rfl,rfl,rfl,trivial⟩ ?_
    rintro j lv c T H E hP2 rfl hμ
    have hP2:j≤i∧(∀ (b:Nat) (q:PI),b<j→l[b]? = some q→q.i≠p.i):=hP2
    obtain ⟨hj,hne⟩:=hP2
    clear hμ
    dsimp only
    rcases Nat.lt_or_ge j i with hji | hji
    ·obtain ⟨p2,hp2⟩:∃ p,l[j]? = some p:=⟨_,List.getElem?_eq_getElem (by omega)⟩
     have gj:inB (j:Int) ((bf l).length/4)=some j:=aZ (by rw [cq];omega)
     have hr0:rd (bf l) (j*4+0) 1 false=some (.int .i64 p2.i):=il bX (by omega) hp2 rfl rfl
     by_cases he:p2.i=p.i
     ·have hf:cj bs.length D ⟨b,s,q,w,l⟩=false:=eg fun hR=>Ai hR.2.1.2 hji hp hp2 he
      rw [hf]
      repeat (first | refine stN ?_ | intro E)
      apply bz
      repeat (first | refine stN ?_ | intro E)
      apply bz
      repeat (first | refine stN ?_ | intro E)
      exact ae (.inr rfl) rfl rfl rfl rfl rfl rfl
     ·repeat (first | refine stN ?_ | intro E)
      refine aB (j+1) ⟨by omega,?_⟩ rfl (show i-(j+1)<i-j by omega) ⟨rfl,rfl,rfl,rfl,rfl,rfl,trivial⟩ ⟨⟨rfl,rfl⟩,⟨rfl,rfl⟩,⟨rfl,rfl⟩,trivial⟩
      intro b' q' hb' hq'
      rcases Nat.lt_or_ge b' j with hlt | hge
      ·exact hne b' q' hlt hq'
      ·have:b'=j:=by omega
       subst this
       rw [hp2] at hq';cases hq';exact he
    ·have:j=i:=by omega
     subst this
     repeat (first | refine stN ?_ | intro E)
     apply aN
     apply aM
     repeat (first | refine stN ?_ | intro E)
     refine aB (j+1) ⟨by omega,?_,?_⟩ rfl (show l.length-(j+1)<l.length-j by omega) ⟨rfl,rfl,rfl,rfl,trivial⟩ ⟨⟨rfl,rfl⟩,⟨rfl,rfl⟩,trivial⟩
     ·intro p' hp'
      rw [List.take_add_one,hp] at hp'
      rcases List.mem_append.1 hp' with hh | hh
      ·exact hok p' hh
      ·simp only [Option.toList_some,List.mem_singleton] at hh;rw [hh];exact hok'
     ·intro a b' p' q' ha hba hpa hqb
      rcases Nat.lt_or_ge a j with hlt | hge
      ·exact hnd a b' p' q' hlt hba hpa hqb
      ·have:a=j:=by omega
       subst this
       rw [hp] at hpa;cases hpa
       exact hne b' q' hba hqb
   ·have hf:cj bs.length D ⟨b,s,q,w,l⟩=false:=eg fun hR=>hok' (hR.2.1.1 p (List.mem_of_getElem? hp))
    rw [hf]
    unfold okP at hok'
    obtain hx | hx | hx | hx | hx | hx:p.i<0∨(0≤p.i∧(s:Int)≤p.i)∨(0≤p.i∧p.i<s∧p.n<1)∨(0≤p.i∧p.i<s∧512<p.n)∨(0≤p.i∧p.i<s∧1≤p.n∧p.n≤512∧p.a<0)∨(0≤p.i∧p.i<s∧1≤p.n∧p.n≤512∧0≤p.a∧(bs.length:Int)-p.n<p.a):=by omega
    case' inr.inr.inr.inr.inr=>
     have hsub:aj .sub (.int .i64 (bs.length:Int)) (.int .i64 p.n)=some (.int .i64 ((bs.length:Int)-p.n)):=fD rfl (by omega) (by omega)
    all_goals
     repeat (first | refine stN ?_ | intro E)
     apply bz
     repeat (first | refine stN ?_ | intro E)
     exact ae (.inr rfl) rfl rfl rfl rfl rfl rfl
  ·have hil:i=l.length:=by omega
   subst hil
   rw [List.take_length] at hok
   have hnd:(idx l).Nodup:=yx fun i j p q hij hp hq=>hnd i j p q (List.getElem?_eq_some_iff.1 hp).1 hij hp hq
   obtain ⟨p,l',rfl⟩:∃ p l',l=p::l':=by
    rcases l with _ | ⟨p,l'⟩
    ·simp at a4
    ·exact ⟨p,l',rfl⟩
   have hp:(p::l')[0]? = some p:=rfl
   have gi:inB 0 ((bf (p::l')).length/4)=some 0:=aZ (a:=0) (by rw [cq];simp)
   have hr2:rd (bf (p::l')) (0*4+2) 1 false=some (.int .i64 p.n):=il bX (by omega) hp rfl rfl
   have hr3:rd (bf (p::l')) (0*4+3) 1 false=some (.bool p.w):=il bX (by omega) hp rfl rfl
   have hll:l'.length≤100:=by simp only [List.length_cons] at a5;omega
   have hoN:okN l':=fun x hx=>by have:=hok x (List.mem_cons_of_mem _ hx);unfold okP at this;omega
   have c160:ad (ab FN (k+399)) 160 [csl 4 (bf l'),.bool w] (.int .i64 (dO l' w)):=(Ss (k:=0) hll hoN).fuel (by omega)
   have hdr:((bf (p::l')).take ((bf (p::l')).length/4*4)).drop (1*4)=bf l':=by
    have e:(bf (p::l')).length/4*4=(bf (p::l')).length:=by rw [cq];exact (eC bX _).symm
    rw [e,List.take_length];rfl
   have hab:asB 1 ((bf (p::l')).length/4)=some 1:=cx (a:=1) (by rw [cq];simp)
   by_cases hw:p.w=false∧p.n=8
   ·obtain ⟨w1,w2⟩:=hw
    rw [w1] at hr3
    rw [w2] at hr2
    repeat (first | refine stN ?_ | intro E)
    apply aN
    apply aM
    repeat (first | refine stN ?_ | intro E)
    apply jo
    ·exact rfl
    ·exact dD _ _
    ·exact rfl
    ·exact hab
    rw [hdr]
    by_cases hfit:dO l' w=0
    ·have hf:cj bs.length D ⟨b,s,q,w,p::l'⟩=true:=kX ⟨hA,⟨hok,hnd⟩,p,l',rfl,w1,w2,hfit⟩
     rw [hf]
     rw [hfit] at c160
     repeat (first | refine stN ?_ | intro E)
     exact ae (.inr rfl) rfl rfl rfl rfl rfl rfl
    ·have hf:cj bs.length D ⟨b,s,q,w,p::l'⟩=false:=eg fun hR=>by
      obtain ⟨_,_,p1,l1,e1,_,_,e4⟩:=hR
      cases e1;exact hfit e4
     rw [hf]
     repeat (first | refine stN ?_ | intro E)
     exact ae (.inr rfl) rfl rfl rfl rfl rfl rfl
   ·have hf:cj bs.length D ⟨b,s,q,w,p::l'⟩=false:=eg fun hR=>by
     obtain ⟨_,_,p1,l1,e1,e2,e3,_⟩:=hR
     cases e1;exact hw ⟨e2,e3⟩
    rw [hf]
    cases hpw:p.w
    ·have hpn:p.n≠8:=fun e=>hw ⟨hpw,e⟩
     rw [hpw] at hr3
     repeat (first | refine stN ?_ | intro E)
     apply aN
     apply aM
     repeat (first | refine stN ?_ | intro E)
     exact ae (.inr rfl) rfl rfl rfl rfl rfl rfl
    ·rw [hpw] at hr3
     repeat (first | refine stN ?_ | intro E)
     apply aN
     apply aM
     repeat (first | refine stN ?_ | intro E)
     exact ae (.inr rfl) rfl rfl rfl rfl rfl rfl
 ·have hf:cj bs.length D ⟨b,s,q,w,l⟩=false:=eg fun hR=>hA hR.1
  rw [hf]
  obtain hx | hx | hx | hx | hx:aX bs.length b s≠0∨(aX bs.length b s=0∧q<0)∨(aX bs.length b s=0∧0≤q∧(D:Int)≤q)∨(aX bs.length b s=0∧0≤q∧q<D∧l.length<2)∨(aX bs.length b s=0∧0≤q∧q<D∧4<l.length):=by omega
  all_goals
   repeat (first | refine stN ?_ | intro E)
   exact ae (.inr rfl) rfl rfl rfl rfl rfl rfl
end Go.Proofs.YtepcejdglbcbkaaGreat
