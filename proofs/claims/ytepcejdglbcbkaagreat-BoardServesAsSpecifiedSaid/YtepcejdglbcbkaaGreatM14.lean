/- Part of the texts on which proofs about this seat rest: each says what it proves at its own head. No condition. -/
import Derived.Test.YtepcejdglbcbkaaGreatM13
set_option linter.unusedVariables false
set_option linter.unusedSimpArgs false
set_option maxHeartbeats 4000000
set_option maxRecDepth 100000
/- The console: Valid, Feed, by the program and by the reference. Condition: the console is valid. -/
namespace Go.Proofs.YtepcejdglbcbkaaGreat
open Go.Abs
variable {k:Nat}
structure CsI where
 s:List UInt8
 n:Int
def csC (c:CsI):List AV:=[.str c.s,.int .i64 c.n]
def csV (c:CsI):AV:=.agg (csC c)
def CsP (c:CsI):Prop:=c.s.length≤64∧0≤c.n∧c.n≤1099511627776
def csB (c:CsI):Bool:=decide (c.s.length≤64∧0≤c.n∧c.n≤1099511627776)
def CsI.port (c:CsI) (i:Bool) (p:Int) (v:Nat):Option (CsI×Nat×List UInt8):=
 if p=32∧i=false then some (c,0,[UInt8.ofNat (v%256)])
 else if p=33∧i=true then match c.s with
  | []=>some (c,4294967295,[])
  | b::t=>some (⟨t,c.n⟩,b.toNat,[])
 else if p=34∧i=true then some (c,c.s.length,[])
 else none
theorem s43 {c:CsI}:ad (ab FN (k+1)) 43 [csV c] (.bool (csB c)):=by
 refine ak aaf fun T H E lv=>?_
 unfold csB
 obtain ⟨s,n⟩:=c
 dsimp only
 dsimp only [csV,csC]
 by_cases h1:s.length≤64
 ·by_cases h2:0≤n
  ·by_cases h3:n≤1099511627776
   ·rw [decide_eq_true ⟨h1,h2,h3⟩]
    repeat (first | refine stN ?_ | intro E)
    exact ae (.inr rfl) rfl rfl rfl rfl rfl rfl
   ·rw [decide_eq_false (fun h=>h3 h.2.2)]
    repeat (first | refine stN ?_ | intro E)
    exact ae (.inr rfl) rfl rfl rfl rfl rfl rfl
  ·rw [decide_eq_false (fun h=>h2 h.2.1)]
   repeat (first | refine stN ?_ | intro E)
   exact ae (.inr rfl) rfl rfl rfl rfl rfl rfl
 ·rw [decide_eq_false (fun h=>h1 h.1)]
  repeat (first | refine stN ?_ | intro E)
  exact ae (.inr rfl) rfl rfl rfl rfl rfl rfl
theorem s48 {c:CsI}:ad (ab FN (k+1)) 48 [csV c] (.bool (csB c)):=by
 refine ak aak fun T H E lv=>?_
 unfold csB
 obtain ⟨s,n⟩:=c
 dsimp only
 dsimp only [csV,csC]
 by_cases h1:s.length≤64
 ·by_cases h2:0≤n
  ·by_cases h3:n≤1099511627776
   ·rw [decide_eq_true ⟨h1,h2,h3⟩]
    repeat (first | refine stN ?_ | intro E)
    exact ae (.inr rfl) rfl rfl rfl rfl rfl rfl
   ·rw [decide_eq_false (fun h=>h3 h.2.2)]
    repeat (first | refine stN ?_ | intro E)
    exact ae (.inr rfl) rfl rfl rfl rfl rfl rfl
  ·rw [decide_eq_false (fun h=>h2 h.2.1)]
   repeat (first | refine stN ?_ | intro E)
   exact ae (.inr rfl) rfl rfl rfl rfl rfl rfl
 ·rw [decide_eq_false (fun h=>h1 h.1)]
  repeat (first | refine stN ?_ | intro E)
  exact ae (.inr rfl) rfl rfl rfl rfl rfl rfl
end Go.Proofs.YtepcejdglbcbkaaGreat
/- The console's ports, by the program and by the reference. Condition: the console is valid. -/
namespace Go.Proofs.YtepcejdglbcbkaaGreat
open Go.Abs
variable {k:Nat}
def oF (c:CsI):Option (CsI×Nat×List UInt8)→AV
 | some (c',n,o)=>.agg (csC c'++[.int .u32 n,.str o,.bool true])
 | none=>.agg (csC c++[.int .u32 0,.str [],.bool false])
def oG (c:CsI):Option (CsI×Nat×List UInt8)→AV
 | some (c',n,o)=>.tup [csV c',.int .u32 n,.str o,.bool true]
 | none=>.tup [csV c,.int .u32 0,.str [],.bool false]
theorem w8m (v:Nat):IntKind.u8.wrap (v:Int)=(((UInt8.ofNat (v%256)).toNat:Nat):Int):=by
 have h:(UInt8.ofNat (v%256)).toNat=v%256:=by simp
 rw [h]
 rfl
theorem aaT {c:CsI}{i:Bool}{p:Int}{v:Nat}(h:CsP c) (hv:v<4294967296):ad (ab FN (k+1)) 112 [csV c,.agg [.bool i,.int .i64 p,.int .u32 v]] (oF c (c.port i p v)):=by
 have h64:=h.1
 refine ak XU fun T H E lv=>?_
 unfold CsI.port oF
 obtain ⟨s,n⟩:=c
 dsimp only at *
 dsimp only [csV,csC]
 by_cases h1:p=32∧i=false
 ·obtain ⟨rfl,rfl⟩:=h1
  rw [if_pos ⟨rfl,rfl⟩]
  have hw:=w8m v
  generalize UInt8.ofNat (v%256)=u at *
  dsimp only
  repeat (first | refine stN ?_ | intro E)
  apply my (cs:=[u])
  ·exact rfl
  ·exact .inl rfl
  repeat (first | refine stN ?_ | intro E)
  exact ae (.inr rfl) rfl rfl rfl rfl rfl rfl
 rw [if_neg h1]
 by_cases h2:p=33∧i=true
 ·obtain ⟨rfl,rfl⟩:=h2
  rw [if_pos ⟨rfl,rfl⟩]
  rcases s with _ | ⟨b,t⟩
  ·dsimp only
   repeat (first | refine stN ?_ | intro E)
   exact ae (.inr rfl) rfl rfl rfl rfl rfl rfl
  ·dsimp only
   have hw:IntKind.u32.wrap ((b.toNat:Nat):Int)=((b.toNat:Nat):Int):=w32 (by omega) (by have:=b.toNat_lt;omega)
   simp only [List.length_cons] at h64
   have ha:asB 1 (b::t).length=some 1:=fF (by simp only [List.length_cons];omega)
   have hne:aj .eql (.int .i64 (((b::t).length:Nat):Int)) (.int .i64 0)=some (.bool false):=qx (by simp only [List.length_cons];omega)
   have e:List.drop 1 (List.take (b::t).length (b::t))=t:=by simp
   repeat (first | refine stN ?_ | intro E)
   rw [e]
   exact ae (.inr rfl) rfl rfl rfl rfl rfl rfl
 rw [if_neg h2]
 by_cases h3:p=34∧i=true
 ·obtain ⟨rfl,rfl⟩:=h3
  rw [if_pos ⟨rfl,rfl⟩]
  dsimp only
  have hw:IntKind.u32.wrap ((s.length:Nat):Int)=((s.length:Nat):Int):=w32 (by omega) (by omega)
  repeat (first | refine stN ?_ | intro E)
  exact ae (.inr rfl) rfl rfl rfl rfl rfl rfl
 rw [if_neg h3]
 dsimp only
 cases i
 ·have h4:p≠32:=fun e=>h1 ⟨e,rfl⟩
  by_cases h5:p=33
  ·subst h5
   repeat (first | refine stN ?_ | intro E)
   exact ae (.inr rfl) rfl rfl rfl rfl rfl rfl
  ·by_cases h6:p=34
   all_goals
    repeat (first | refine stN ?_ | intro E)
    exact ae (.inr rfl) rfl rfl rfl rfl rfl rfl
 ·have h4:p≠33:=fun e=>h2 ⟨e,rfl⟩
  have h5:p≠34:=fun e=>h3 ⟨e,rfl⟩
  by_cases h6:p=32
  all_goals
   repeat (first | refine stN ?_ | intro E)
   exact ae (.inr rfl) rfl rfl rfl rfl rfl rfl
end Go.Proofs.YtepcejdglbcbkaaGreat
