/- Part of the texts on which proofs about this seat rest: each says what it proves at its own head. No condition. -/
import Derived.Test.YtepcejdglbcbkaaGreatM31
set_option linter.unusedVariables false
set_option linter.unusedSimpArgs false
set_option maxHeartbeats 1000000
set_option maxRecDepth 100000
/- The encoding of an integer, and of a list of them, by the reference. Condition: the integers fit 64 bits. -/
namespace Go.Proofs.YtepcejdglbcbkaaGreat
open Go.Abs
variable {k:Nat}
def vlF:Nat→Nat→List UInt8
 | 0,_=>[]
 | j+1,z=>if z<128 then [UInt8.ofNat z] else UInt8.ofNat (z%128+128)::vlF j (z/128)
def zz (n:Int):Nat:=if n<0 then (-1-n).toNat*2+1 else n.toNat*2
def fM (n:Int):List UInt8:=vlF 10 (zz n)
def nG (l:List Int):List UInt8:=fM l.length++l.flatMap fM
theorem um:∀ (j z:Nat),(vlF j z).length≤j
 | 0,_=>Nat.le_refl _
 | j+1,z=>by
  unfold vlF
  split
  ·simp
  ·have:=um j (z/128)
   rw [List.length_cons];omega
theorem kZ (n:Int):(fM n).length≤10:=um _ _
def I64 (n:Int):Prop:=-9223372036854775808≤n∧n<9223372036854775808
theorem Sy {n:Int}(h:I64 n):evP (ab FN (k+100)) 154 [.int .i64 n]=some (.sl 2 1 ((fM n).map ofB)):=by
 obtain ⟨h0,h1⟩:=h
 refine qz Yb rfl fun T H E lv=>?_
 obtain ⟨m,hm,hz⟩:∃ m:Nat,m<9223372036854775808∧((n=m∧zz n=m*2)∨(n<0∧-1-n=m∧zz n=m*2+1)):=by
  by_cases hn:n<0
  ·refine ⟨(-1-n).toNat,by omega,.inr ⟨hn,by omega,?_⟩⟩
   unfold zz;rw [if_pos hn]
  ·refine ⟨n.toNat,by omega,.inl ⟨by omega,?_⟩⟩
   unfold zz;rw [if_neg hn]
 have cw:IntKind.u64.wrap (m:Int)=((m:Nat):Int):=vL (by omega) (by omega)
 have em:aj .mul (.int .u64 (m:Int)) (.int .u64 2)=some (.int .u64 ((m*2:Nat):Int)):=by
  show some (AV.int .u64 (IntKind.u64.wrap ((m:Int)*2)))=_
  rw [vL (by omega) (by omega)];simp
 have ea:aj .add (.int .u64 ((m*2:Nat):Int)) (.int .u64 1)=some (.int .u64 ((m*2+1:Nat):Int)):=by
  show some (AV.int .u64 (IntKind.u64.wrap (((m*2:Nat):Int)+1)))=_
  rw [vL (by omega) (by omega)];simp
 have hE:fM n=vlF 10 (zz n):=rfl
 have hzb:zz n<128 ^ 10:=by
  have:(128:Nat) ^ 10=1180591620717411303424:=by decide +kernel
  omega
 generalize zz n=Z at hz hE hzb
 rw [hE]
 rcases hz with ⟨rfl,rfl⟩ | ⟨hn,e1,rfl⟩
 case' inr=>have es:aj .sub (.int .i64 (-1)) (.int .i64 n)=some (.int .i64 ((m:Nat):Int)):=fD e1 (by omega) (by omega)
 all_goals
  repeat (first | refine stN ?_ | intro E)
  refine aW (α:=Nat×Nat×List UInt8×Nat×Nat) (a8.mk (fun p=>1≤p.1∧p.2.1<128 ^ p.1∧p.2.1<18446744073709551616∧p.1+p.2.2.1.length≤10∧p.2.2.1++vlF p.1 p.2.1=vlF 10 _) (fun p=>p.1)
   (fun p=>[(4,.sl p.2.2.2.1 p.2.2.2.2 (p.2.2.1.map ofB)),(3,.int .u64 (p.2.1:Int))]) (fun p=>[]))
   (fun p lv c=>4≤c∧LA 1 lv c p.2.2.2.1 p.2.2.2.2 (p.2.2.1.map ofB)) (10,_,[],0,0) ⟨by omega,hzb,by dsimp only;omega,by simp,rfl⟩ ⟨Nat.le_refl _,LA.nil⟩ (show 10<k+99 by omega) ⟨rfl,rfl,trivial⟩ trivial ?_
  rintro ⟨j,z,pre,br,s0⟩ lv c T H E ⟨hj,hz1,hz2,hjl,hp⟩ ⟨hc4,hL⟩ hμ
  dsimp only at hj hz1 hz2 hp hL hjl ⊢
  obtain ⟨j,rfl⟩:∃ i,j=i+1:=⟨j-1,by omega⟩
  rcases Nat.lt_or_ge z 128 with hlt | hge
  ·rw [vlF,if_pos hlt] at hp
   have cz:IntKind.u8.wrap (z:Int)=((z:Nat):Int):=by rw [w8];omega
   repeat (first | refine stN ?_ | intro E)
   apply aN
   apply aM
   repeat (first | refine stN ?_ | intro E)
   apply l7
   ·exact rfl
   ·exact rfl
   ·exact rfl
   ·exact hL
   ·exact ⟨by omega,by omega⟩
   ·rw [List.length_map,dN];simp only [List.length_cons,List.length_nil];omega
   intro lv' m1 m2
   rw [← hp,List.map_append,List.map_cons,List.map_nil,iG z (by omega)]
   repeat (first | refine stN ?_ | intro E)
   refine aQ (.inr rfl) rfl rfl rfl rfl rfl ?_
   show aO true lv' (.sl c 1 _)=_
   have:¬ c≤1:=by omega
   simp [aO,m1,this,hc4]
  ·rw [vlF,if_neg (by omega)] at hp
   have ed:aj .rem (.int .u64 (z:Int)) (.int .u64 128)=some (.int .u64 ((z%128:Nat):Int)):=rfl
   have eq:aj .quo (.int .u64 (z:Int)) (.int .u64 128)=some (.int .u64 ((z/128:Nat):Int)):=by
    show some (AV.int .u64 (IntKind.u64.wrap (Int.tdiv (z:Int) 128)))=_
    rw [show Int.tdiv (z:Int) 128=((z/128:Nat):Int) from rfl,vL (by omega) (by omega)]
   have cz:IntKind.u8.wrap ((z%128:Nat):Int)=((z%128:Nat):Int):=by rw [w8];omega
   have e8:aj .add (.int .u8 ((z%128:Nat):Int)) (.int .u8 128)=some (.int .u8 ((z%128+128:Nat):Int)):=by
    show some (AV.int .u8 (IntKind.u8.wrap (((z%128:Nat):Int)+128)))=_
    rw [w8];congr 2;omega
   obtain ⟨c',rfl⟩:∃ c',c=c'+4:=⟨c-4,by omega⟩
   repeat (first | refine stN ?_ | intro E)
   apply l7
   ·exact rfl
   ·exact rfl
   ·exact rfl
   ·exact hL
   ·exact ⟨by omega,by omega⟩
   ·rw [List.length_map,dN];simp only [List.length_cons,List.length_nil];omega
   intro lv' m1 m2
   have ex:pre.map ofB++[AV.int .u8 ((z%128+128:Nat):Int)]=(pre++[UInt8.ofNat (z%128+128)]).map ofB:=by
    rw [List.map_append,List.map_cons,List.map_nil,iG _ (by omega)]
   rw [ex]
   repeat (first | refine stN ?_ | intro E)
   have hj2:1≤j:=by
    rcases Nat.eq_zero_or_pos j with e | e
    ·subst e;simp at hz1;omega
    ·exact e
   exact aB (j,z/128,pre++[UInt8.ofNat (z%128+128)],c'+4,1) ⟨hj2,show z/128<128 ^ j from Nat.div_lt_of_lt_mul (by rw [Nat.pow_succ] at hz1;omega),by dsimp only;omega,by simp;omega,by rw [List.append_assoc];exact hp⟩ ⟨by omega,LA.mine (by omega) m1⟩ (show j<j+1 by omega) ⟨rfl,rfl,trivial⟩ trivial
theorem aby {n:Int}(h:I64 n):ad (ab FN (k+100)) 154 [.int .i64 n] (csl 1 ((fM n).map ofB)):=x8 (Sy h) rfl
def iV (l:List Int):List AV:=l.map fun n=>.int .i64 n
theorem Sz {l:List Int}{i:Nat}{n:Int}(h:l[i]? = some n):rd (iV l) (i*1) 1 false=some (.int .i64 n):=by
 simp only [rd,Bool.false_eq_true,if_false,Nat.mul_one,iV,List.getElem?_map,h,Option.map_some,AV.leaf,if_true]
theorem abz {l:List Int}{i:Nat}{n:Int}(h:l[i]? = some n):(l.take (i+1)).flatMap fM=(l.take i).flatMap fM++fM n:=by
 rw [List.take_add_one,h,List.flatMap_append];simp
theorem qf (l:List Int):(l.flatMap fM).length≤10*l.length:=by
 induction l with
 | nil=>simp
 | cons n l ih=>
  have:=kZ n
  simp only [List.flatMap_cons,List.length_append,List.length_cons];omega
theorem abA {l:List Int}(hl:l.length≤5000) (h:∀ n∈l,I64 n):evP (ab FN (k+5200)) 152 [csl 1 (iV l)]=some (.sl 2 1 ((nG l).map ofB)):=by
 have hlen:(iV l).length/1=l.length:=by unfold iV;simp
 have c0:evP (ab FN (k+5199)) 154 [.int .i64 (l.length:Int)]=some (.sl 2 1 ((fM l.length).map ofB)):=Sy (k:=k+5099) ⟨by omega,by omega⟩
 refine qz Ya rfl fun T H E lv=>?_
 repeat (first | refine stN ?_ | intro E)
 rw [hlen]
 apply tV
 ·exact rfl
 ·exact rfl
 ·exact c0
 ·exact rfl
 ·exact rfl
 ·exact rfl
 intro lv0 m1 m2
 rw [show aA (bB 1 0 4) (AV.sl 2 1 ((fM l.length).map ofB)) = .sl 4 1 ((fM l.length).map ofB) from rfl]
 repeat (first | refine stN ?_ | intro E)
 refine aW (α:=Nat×Nat) (a8.mk (fun p=>p.1≤l.length) (fun p=>l.length-p.1)
  (fun p=>[(4,.int .i64 (p.1:Int)),(3,.sl p.2 1 ((fM l.length++(l.take p.1).flatMap fM).map ofB)),(0,csl 1 (iV l))]) (fun p=>[]))
  (fun p lv c=>4≤c∧kP lv c p.2) (0,4) (Nat.zero_le _) ⟨by omega,by omega,by omega,m1⟩ (show l.length-0<k+5199 by omega) ⟨rfl,by simp;rfl,rfl,trivial⟩ trivial ?_
 rintro ⟨i,br⟩ lv c T H E hP ⟨hc4,hL⟩ hμ
 have hP:i≤l.length:=hP
 clear hμ
 dsimp only at hL ⊢
 rcases Nat.lt_or_ge i l.length with hi | hi
 ·obtain ⟨n,hn⟩:∃ n,l[i]? = some n:=⟨_,List.getElem?_eq_getElem hi⟩
  have hr:=Sz hn
  have c1:ad (ab FN (k+5199)) 154 [.int .i64 n] (csl 1 ((fM n).map ofB)):=aby (k:=k+5099) (h n (List.mem_of_getElem? hn))
  have hb:=qf (l.take i)
  have hb2:=kZ n
  have hb3:=kZ l.length
  rw [List.length_take] at hb
  obtain ⟨c',rfl⟩:∃ c',c=c'+4:=⟨c-4,by omega⟩
  repeat (first | refine stN ?_ | intro E)
  apply x7
  ·exact rfl
  ·exact rfl
  ·exact fun H=>pj _ _ _
  ·exact ⟨by omega,by omega⟩
  ·rw [List.length_map,List.length_map,List.length_append,dN];omega
  ·exact hL
  ·omega
  intro lv1 g2 g3
  rw [← List.map_append,List.append_assoc,← abz hn]
  repeat (first | refine stN ?_ | intro E)
  exact aB (i+1,c'+4) (show i+1≤l.length by omega) ⟨by omega,g2⟩ (show l.length-(i+1)<l.length-i by omega) ⟨rfl,rfl,rfl,trivial⟩ trivial
 ·rw [List.take_of_length_le hi]
  repeat (first | refine stN ?_ | intro E)
  apply aN
  apply aM
  repeat (first | refine stN ?_ | intro E)
  exact aQ (.inr rfl) rfl rfl rfl rfl rfl hL.own
end Go.Proofs.YtepcejdglbcbkaaGreat
/- What bytes say as an integer, as a list of integers: the model, and that it is the other way round of the encoding. No condition. -/
namespace Go.Proofs.YtepcejdglbcbkaaGreat
open Go.Abs
def gkF:Nat→List UInt8→Nat
 | 0,_=>0
 | _+1,[]=>0
 | f+1,c::b=>if 128≤c.toNat then gkF f b+1 else 0
def gk (b:List UInt8):Nat:=gkF 10 b
end Go.Proofs.YtepcejdglbcbkaaGreat
/- A list of integers at the beginning of bytes is read, by the program and by the reference. Condition: there are at most 100000 bytes. -/
namespace Go.Proofs.YtepcejdglbcbkaaGreat
open Go.Abs
variable {k:Nat}
theorem yB (l:List Int):(iV l).length=l.length:=by unfold iV;simp
end Go.Proofs.YtepcejdglbcbkaaGreat
