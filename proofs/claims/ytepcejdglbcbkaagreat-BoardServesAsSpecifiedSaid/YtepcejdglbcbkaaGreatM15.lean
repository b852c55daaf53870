/- Part of the texts on which proofs about this seat rest: each says what it proves at its own head. No condition. -/
import Derived.Test.YtepcejdglbcbkaaGreatM14
set_option linter.unusedVariables false
set_option linter.unusedSimpArgs false
set_option maxHeartbeats 4000000
set_option maxRecDepth 100000
/- The console's ports, by the program. Condition: the console is valid. -/
namespace Go.Proofs.YtepcejdglbcbkaaGreat
open Go.Abs
variable {k:Nat}
def seC (s:List UInt8) (n:Int) (r:Nat) (o:List UInt8):List AV:=[.str s,.int .i64 n,.int .u32 r,.str o]
def poV:List AV:=[.int .i64 32,.bool false,.fn 240 [] [],.int .i64 33,.bool true,.fn 241 [] [],.int .i64 34,.bool true,.fn 243 [] []]
section
variable {s o:List UInt8}{n:Int}{r v cc:Nat}{H:Hp}{E:Nat→Option TypeId}{lv:Nat→Bool}
theorem aaU:aU (ab FN (k+1)) 239 [] [(0,[.str [],.int .i64 0])] H 1 lv cc E (.agg poV) 0 [.str [],.int .i64 0]:=by
 refine bY (by omega) rfl Y3 fun T=>?_
 repeat (first | refine stN ?_ | intro E)
 exact aQ (.inr rfl) rfl rfl rfl rfl rfl ⟨rfl,_,rfl,av rfl,(by repeat (first | exact az.refl _ _ _ | refine az.cons ?_ rfl))⟩
theorem aaV:aU (ab FN (k+1)) 240 [.ref 2 0,.int .u32 v] [(2,seC s n r o)] H 3 lv cc E (.tup []) 2 (seC s n r [UInt8.ofNat (v%256)]):=by
 have hw:=w8m v
 generalize UInt8.ofNat (v%256)=u at *
 refine bY (by omega) rfl Y4 fun T=>?_
 repeat (first | refine stN ?_ | intro E)
 apply my (cs:=[u])
 ·exact rfl
 ·exact .inl rfl
 repeat (first | refine stN ?_ | intro E)
 exact aQ (.inl rfl) rfl rfl rfl rfl rfl ⟨rfl,_,rfl,av rfl,(by repeat (first | exact az.refl _ _ _ | refine az.cons ?_ rfl))⟩
theorem aaW (hs:s.length≤64):aU (ab FN (k+1)) 243 [.ref 2 0,.int .u32 v] [(2,seC s n r o)] H 3 lv cc E (.tup []) 2 (seC s n s.length o):=by
 have hw:IntKind.u32.wrap ((s.length:Nat):Int)=((s.length:Nat):Int):=w32 (by omega) (by omega)
 refine bY (by omega) rfl Y6 fun T=>?_
 repeat (first | refine stN ?_ | intro E)
 exact aQ (.inl rfl) rfl rfl rfl rfl rfl ⟨rfl,_,rfl,av rfl,(by repeat (first | exact az.refl _ _ _ | refine az.cons ?_ rfl))⟩
def nxC (s:List UInt8) (n:Int) (o:List UInt8):List AV:=match s with
 | []=>seC [] n 4294967295 o
 | u::t=>seC t n u.toNat o
theorem ED {s o:List UInt8}{n:Int}{r id:Nat}{hs:Hs}{E:Nat→Option TypeId}(h:hs.H id=seC s n r o):mF [.ref id 0] hs E=some (.tup [],{ hs with H:=upd hs.H id (nxC s n o) }):=by
 unfold mF
 simp only [h,seC]
 cases s<;>rfl
theorem EE {FN:FuncId→Option cr}{f:FuncId}{p:List AV→Hs→(Nat→Option TypeId)→Option (AV×Hs)}{args:List AV}{hs:Hs}{E:Nat→Option TypeId}{r:AV×Hs}(hf:FN f=some (.prim p)) (h:p args hs E=some r):(ab FN (k+1)) f args hs E=some r:=by
 show bG FN (k+1) (ab FN (k+1)).env f args hs E=_
 rw [bG,hf]
 exact h
theorem z7 {F:aE}{l:List aa}{s:List (Nat×AV)}{os:List (Nat×List AV)}{T:Nat→AV}{H:Hp}{E:Nat→Option TypeId}{n c d id:Nat}{lv:Nat→Bool}{Q:St→Prop}{f:FuncId}{xs:List X}{args w:List AV}{v:AV}(ha:xs.mapM (evL s)=some args) (hc:F f args ⟨ah os H,n,lv,c⟩ E=some (v,⟨ah ((id,w)::os) H,n,lv,c⟩)) (k:WpO F l ⟨af ((d,v)::s) T,ah ((id,w)::os) H,E,n,lv,c⟩ Q):WpO F (⟨some d,.calls f xs,none⟩::l) ⟨af s T,ah os H,E,n,lv,c⟩ Q:=j7 (dd:=some d) ha hc k
theorem aaX:aU (ab FN (k+2)) 241 [.ref 2 0,.int .u32 v] [(2,seC s n r o)] H 3 lv cc E (.tup []) 2 (nxC s n o):=by
 refine bY (by omega) (by cases s<;>rfl) Y5 fun T=>?_
 repeat (first | refine stN ?_ | intro E)
 apply z7 (w:=nxC s n o) (id:=2) (v:=.tup [])
 ·exact dK rfl
 ·exact EE XJ (ED (s:=s) (n:=n) (r:=r) (o:=o) (av rfl))
 repeat (first | refine stN ?_ | intro E)
 refine aQ (.inl rfl) rfl rfl rfl rfl rfl ⟨rfl,_,rfl,av rfl,?_⟩
 repeat (first | exact az.refl _ _ _ | refine az.cons ?_ rfl)
end
theorem aaY {c:CsI}{i:Bool}{p:Int}{v:Nat}(h:CsP c):ad (ab FN (k+30)) 238 [csV c,.agg [.bool i,.int .i64 p,.int .u32 v]] (oG c (c.port i p v)):=by
 have h64:=h.1
 refine ak Y2 fun T H E lv=>?_
 unfold CsI.port oG
 obtain ⟨s,n⟩:=c
 dsimp only at *
 dsimp only [csV,csC]
 repeat (first | refine stN ?_ | intro E)
 apply zM (os':=[(0,[.str [],.int .i64 0])])
 ·exact dK rfl
 ·exact fun H E=>aaU (k:=k+28)
 ·exact ⟨.inl ⟨rfl,rfl⟩,trivial⟩
 intro H2
 repeat (first | refine stN ?_ | intro E)
 refine aW (α:=Nat) (a8.mk (fun j=>j≤3∧(1≤j→¬ (p=32∧i=false))∧(2≤j→¬ (p=33∧i=true))∧(3≤j→¬ (p=34∧i=true))) (fun j=>3-j) (fun j=>[(12,.int .i64 (j:Int)),(11,.agg poV),(4,.ref 0 0),(3,.pp [.bool i,.int .i64 p,.int .u32 v] 0),(2,.pp [.str s,.int .i64 n] 0)]) (fun _=>[(0,[.str [],.int .i64 0])])) (fun _ lv' c'=>lv'=lv∧c'=4) 0 ⟨by omega,by omega,by omega,by omega⟩ ⟨rfl,rfl⟩ (show 3-0<k+29 by omega) ⟨rfl,rfl,rfl,rfl,rfl,trivial⟩ ⟨rfl,trivial⟩ ?_
 rintro j _ _ T H E hP ⟨rfl,rfl⟩ hμ
 obtain ⟨hj,g1,g2,g3⟩:j≤3∧(1≤j→¬ (p=32∧i=false))∧(2≤j→¬ (p=33∧i=true))∧(3≤j→¬ (p=34∧i=true)):=hP
 dsimp only
 clear hμ
 obtain rfl | rfl | rfl | rfl:j=0∨j=1∨j=2∨j=3:=by omega
 ·clear g1 g2 g3
  by_cases h1:p=32∧i=false
  ·rw [if_pos h1]
   obtain ⟨rfl,rfl⟩:=h1
   dsimp only
   repeat (first | refine stN ?_ | intro E)
   apply ij
   ·exact rfl
   ·exact rfl
   ·exact rfl
   ·exact rfl
   repeat (first | refine stN ?_ | intro E)
   apply dB (os':=[(2,seC s n 0 [UInt8.ofNat (v%256)]),(1,[.int .i64 32,.bool false,.fn 240 [] []]),(0,[.str [],.int .i64 0])])
   ·exact rfl
   ·exact rfl
   ·exact fun H E=>dH rfl (show aU (ab FN (k+29)) 240 _ _ _ _ _ _ _ _ _ _ from aaV (k:=k+28) (r:=0) (o:=[]))
   ·exact ⟨.inl ⟨rfl,rfl⟩,.inr ⟨rfl,rfl,rfl,rfl⟩,.inr ⟨rfl,rfl,rfl,rfl⟩,trivial⟩
   intro H2
   generalize UInt8.ofNat (v%256)=u at *
   repeat (first | refine stN ?_ | intro E)
   apply bz
   repeat (first | refine stN ?_ | intro E)
   exact ae (.inr rfl) rfl rfl rfl rfl rfl rfl
  ·have hg:∀ a,1≤a→¬ (p=32∧i=false):=fun _ _=>h1
   cases i
   ·have h4:p≠32:=fun e=>h1 ⟨e,rfl⟩
    repeat (first | refine stN ?_ | intro E)
    apply ij
    ·exact rfl
    ·exact rfl
    ·exact rfl
    ·exact rfl
    repeat (first | refine stN ?_ | intro E)
    exact aB 1 ⟨by omega,fun _=>h1,by omega,by omega⟩ ⟨rfl,rfl⟩ (show 3-1<3-0 by omega) ⟨rfl,rfl,rfl,rfl,rfl,trivial⟩ ⟨⟨rfl,rfl⟩,trivial⟩
   ·by_cases h4:p=32
    all_goals
     repeat (first | refine stN ?_ | intro E)
     apply ij
     ·exact rfl
     ·exact rfl
     ·exact rfl
     ·exact rfl
     repeat (first | refine stN ?_ | intro E)
     exact aB 1 ⟨by omega,fun _=>h1,by omega,by omega⟩ ⟨rfl,rfl⟩ (show 3-1<3-0 by omega) ⟨rfl,rfl,rfl,rfl,rfl,trivial⟩ ⟨⟨rfl,rfl⟩,trivial⟩
 ·have h0:=g1 (by omega)
  clear g1 g2 g3
  rw [if_neg h0]
  by_cases h1:p=33∧i=true
  ·rw [if_pos h1]
   obtain ⟨rfl,rfl⟩:=h1
   repeat (first | refine stN ?_ | intro E)
   apply ij
   ·exact rfl
   ·exact rfl
   ·exact rfl
   ·exact rfl
   repeat (first | refine stN ?_ | intro E)
   apply dB (os':=[(2,nxC s n []),(1,[.int .i64 33,.bool true,.fn 241 [] []]),(0,[.str [],.int .i64 0])])
   ·exact rfl
   ·exact rfl
   ·exact fun H E=>dH rfl (show aU (ab FN (k+29)) 241 _ _ _ _ _ _ _ _ _ _ from aaX (k:=k+27) (r:=0) (o:=[]))
   ·exact ⟨.inl ⟨rfl,rfl⟩,.inr ⟨rfl,rfl,rfl,rfl⟩,.inr ⟨rfl,rfl,rfl,rfl⟩,trivial⟩
   intro H2
   rcases s with _ | ⟨b,t⟩
   ·dsimp only [nxC]
    repeat (first | refine stN ?_ | intro E)
    apply bz
    repeat (first | refine stN ?_ | intro E)
    exact ae (.inr rfl) rfl rfl rfl rfl rfl rfl
   ·dsimp only [nxC]
    repeat (first | refine stN ?_ | intro E)
    apply bz
    repeat (first | refine stN ?_ | intro E)
    exact ae (.inr rfl) rfl rfl rfl rfl rfl rfl
  ·cases i
   ·by_cases h4:p=33
    all_goals
     repeat (first | refine stN ?_ | intro E)
     apply ij
     ·exact rfl
     ·exact rfl
     ·exact rfl
     ·exact rfl
     repeat (first | refine stN ?_ | intro E)
     exact aB 2 ⟨by omega,fun _=>h0,fun _=>h1,by omega⟩ ⟨rfl,rfl⟩ (show 3-2<3-1 by omega) ⟨rfl,rfl,rfl,rfl,rfl,trivial⟩ ⟨⟨rfl,rfl⟩,trivial⟩
   ·have h4:p≠33:=fun e=>h1 ⟨e,rfl⟩
    repeat (first | refine stN ?_ | intro E)
    apply ij
    ·exact rfl
    ·exact rfl
    ·exact rfl
    ·exact rfl
    repeat (first | refine stN ?_ | intro E)
    exact aB 2 ⟨by omega,fun _=>h0,fun _=>h1,by omega⟩ ⟨rfl,rfl⟩ (show 3-2<3-1 by omega) ⟨rfl,rfl,rfl,rfl,rfl,trivial⟩ ⟨⟨rfl,rfl⟩,trivial⟩
 ·have h0:=g1 (by omega)
  have h0':=g2 (by omega)
  clear g1 g2 g3
  rw [if_neg h0,if_neg h0']
  by_cases h1:p=34∧i=true
  ·rw [if_pos h1]
   obtain ⟨rfl,rfl⟩:=h1
   dsimp only
   repeat (first | refine stN ?_ | intro E)
   apply ij
   ·exact rfl
   ·exact rfl
   ·exact rfl
   ·exact rfl
   repeat (first | refine stN ?_ | intro E)
   apply dB (os':=[(2,seC s n s.length []),(1,[.int .i64 34,.bool true,.fn 243 [] []]),(0,[.str [],.int .i64 0])])
   ·exact rfl
   ·exact rfl
   ·exact fun H E=>dH rfl (show aU (ab FN (k+29)) 243 _ _ _ _ _ _ _ _ _ _ from aaW (k:=k+28) (r:=0) (o:=[]) h64)
   ·exact ⟨.inl ⟨rfl,rfl⟩,.inr ⟨rfl,rfl,rfl,rfl⟩,.inr ⟨rfl,rfl,rfl,rfl⟩,trivial⟩
   intro H2
   repeat (first | refine stN ?_ | intro E)
   apply bz
   repeat (first | refine stN ?_ | intro E)
   exact ae (.inr rfl) rfl rfl rfl rfl rfl rfl
  ·cases i
   ·by_cases h4:p=34
    all_goals
     repeat (first | refine stN ?_ | intro E)
     apply ij
     ·exact rfl
     ·exact rfl
     ·exact rfl
     ·exact rfl
     repeat (first | refine stN ?_ | intro E)
     exact aB 3 ⟨by omega,fun _=>h0,fun _=>h0',fun _=>h1⟩ ⟨rfl,rfl⟩ (show 3-3<3-2 by omega) ⟨rfl,rfl,rfl,rfl,rfl,trivial⟩ ⟨⟨rfl,rfl⟩,trivial⟩
   ·have h4:p≠34:=fun e=>h1 ⟨e,rfl⟩
    repeat (first | refine stN ?_ | intro E)
    apply ij
    ·exact rfl
    ·exact rfl
    ·exact rfl
    ·exact rfl
    repeat (first | refine stN ?_ | intro E)
    exact aB 3 ⟨by omega,fun _=>h0,fun _=>h0',fun _=>h1⟩ ⟨rfl,rfl⟩ (show 3-3<3-2 by omega) ⟨rfl,rfl,rfl,rfl,rfl,trivial⟩ ⟨⟨rfl,rfl⟩,trivial⟩
 ·rw [if_neg (g1 (by omega)),if_neg (g2 (by omega)),if_neg (g3 (by omega))]
  dsimp only
  repeat (first | refine stN ?_ | intro E)
  apply aN
  apply aM
  repeat (first | refine stN ?_ | intro E)
  exact ae (.inr rfl) rfl rfl rfl rfl rfl rfl
end Go.Proofs.YtepcejdglbcbkaaGreat
