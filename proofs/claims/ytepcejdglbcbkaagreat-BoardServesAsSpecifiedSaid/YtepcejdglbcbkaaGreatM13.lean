/- Part of the texts on which proofs about this seat rest: each says what it proves at its own head. No condition. -/
import Derived.Test.YtepcejdglbcbkaaGreatM12
import Derived.KernelRfl
set_option linter.unusedVariables false
set_option linter.unusedSimpArgs false
set_option maxHeartbeats 4000000
set_option maxRecDepth 100000
/- The clock's functions, by the program. Condition: the processor is one of four. -/
namespace Go.Proofs.YtepcejdglbcbkaaGreat
open Go.Abs
variable {k:Nat}
theorem EC:∀ b:Bool,dS (ab FN 20) 119 [csl 2 [.bool false,.int .i64 1,.bool b,.int .i64 4]]=some (.int .i64 (if b then 4 else 0))
 | false=>by kernel_rfl
 | true=>by kernel_rfl
theorem zZ {j:Nat}(hj:j<4):ad (ab FN (k+1)) 120 [.int .i64 j] (.bool true):=by
 refine ak XY fun T H E lv=>?_
 repeat (first | refine stN ?_ | intro E)
 exact ae (.inr rfl) rfl rfl rfl rfl rfl rfl
theorem z6 {j:Nat}(hj:j<4):ad (ab FN (k+1)) 127 [.int .i64 j] (.bool true):=by
 refine ak X1 fun T H E lv=>?_
 repeat (first | refine stN ?_ | intro E)
 exact ae (.inr rfl) rfl rfl rfl rfl rfl rfl
theorem aaL {c:CkI}{j:Nat}(hj:j<4):ad (ab FN (k+2)) 117 [ckV c,.int .i64 j] (.int .i64 (c.A j)):=by
 have r3:=qD c hj
 have gi:inB (j:Int) 4=some j:=aZ hj
 have c120:ad (ab FN (k+1)) 120 [.int .i64 j] (.bool true):=zZ (k:=k) hj
 generalize c.A j=y at *
 dsimp only [ckC] at r3
 refine ak XW fun T H E lv=>?_
 repeat (first | refine stN ?_ | intro E)
 exact ae (.inr rfl) rfl rfl rfl rfl rfl rfl
theorem aaM {c:CkI}{j:Nat}(hj:j<4):ad (ab FN (k+2)) 118 [ckV c,.int .i64 j] (.int .i64 (c.A j)):=by
 have r3:=qD c hj
 have gi:inB (j:Int) 4=some j:=aZ hj
 have c127:ad (ab FN (k+1)) 127 [.int .i64 j] (.bool true):=z6 (k:=k) hj
 generalize c.A j=y at *
 dsimp only [ckC] at r3
 refine ak XX fun T H E lv=>?_
 repeat (first | refine stN ?_ | intro E)
 exact ae (.inr rfl) rfl rfl rfl rfl rfl rfl
theorem s60 {c:CkI}{j n:Nat}(hj:j<4):ad (ab FN (k+3)) 60 [ckV c,.int .i64 j,.int .i64 n] (.tup [ckV (c.fire j n),.bool (c.due j n)]):=by
 have c117:ad (ab FN (k+2)) 117 [ckV c,.int .i64 j] (.int .i64 (c.A j)):=aaL (k:=k) hj
 refine ak aau fun T H E lv=>?_
 unfold CkI.fire
 by_cases hd:c.A j≠0∧c.A j≤(n:Int)
 ·have hdue:c.due j n=true:=decide_eq_true hd
  rw [hdue,if_pos rfl]
  obtain ⟨h1,h2⟩:=hd
  generalize c.A j=y at *
  clear hdue
  obtain ⟨l,o0,o1,o2,o3,r0,r1,r2,r3,a0,a1,a2,a3⟩:=c
  obtain rfl | rfl | rfl | rfl:j=0∨j=1∨j=2∨j=3:=by omega
  all_goals
   simp only [CkI.setA]
   dsimp only [ckV,ckC] at c117 ⊢
   repeat (first | refine stN ?_ | intro E)
   exact ae (.inr rfl) rfl rfl rfl rfl rfl rfl
 ·have hdue:c.due j n=false:=decide_eq_false hd
  rw [hdue,if_neg (by decide)]
  clear hdue
  generalize c.A j=y at *
  by_cases h0:y=0
  ·subst h0
   repeat (first | refine stN ?_ | intro E)
   exact ae (.inr rfl) rfl rfl rfl rfl rfl rfl
  ·have h1:(n:Int)<y:=by omega
   repeat (first | refine stN ?_ | intro E)
   exact ae (.inr rfl) rfl rfl rfl rfl rfl rfl
theorem s62 {c:CkI}{j n:Nat}(hj:j<4):ad (ab FN (k+3)) 62 [ckV c,.int .i64 j,.int .i64 n] (.agg (ckC (c.fire j n)++[.int .u32 0,.bool (c.due j n),.int .i64 0])):=by
 have c118:ad (ab FN (k+2)) 118 [ckV c,.int .i64 j] (.int .i64 (c.A j)):=aaM (k:=k) hj
 refine ak aaw fun T H E lv=>?_
 unfold CkI.fire
 by_cases hd:c.A j≠0∧c.A j≤(n:Int)
 ·have hdue:c.due j n=true:=decide_eq_true hd
  rw [hdue,if_pos rfl]
  obtain ⟨h1,h2⟩:=hd
  generalize c.A j=y at *
  clear hdue
  obtain ⟨l,o0,o1,o2,o3,r0,r1,r2,r3,a0,a1,a2,a3⟩:=c
  obtain rfl | rfl | rfl | rfl:j=0∨j=1∨j=2∨j=3:=by omega
  all_goals
   simp only [CkI.setA]
   dsimp only [ckV,ckC] at c118 ⊢
   repeat (first | refine stN ?_ | intro E)
   exact ae (.inr rfl) rfl rfl rfl rfl rfl rfl
 ·have hdue:c.due j n=false:=decide_eq_false hd
  rw [hdue,if_neg (by decide)]
  clear hdue
  generalize c.A j=y at *
  by_cases h0:y=0
  ·subst h0
   repeat (first | refine stN ?_ | intro E)
   exact ae (.inr rfl) rfl rfl rfl rfl rfl rfl
  ·have h1:(n:Int)<y:=by omega
   repeat (first | refine stN ?_ | intro E)
   exact ae (.inr rfl) rfl rfl rfl rfl rfl rfl
end Go.Proofs.YtepcejdglbcbkaaGreat
/- The clock's functions, by the program and by the reference. Condition: the processor is one of four, the clock is valid. -/
namespace Go.Proofs.YtepcejdglbcbkaaGreat
open Go.Abs
variable {k:Nat}
def iK (c:CkI) (x:Nat) (b:Bool) (e:Int):AV:=.agg (ckC c++[.int .u32 x,.bool b,.int .i64 e])
def CkI.rdE (c:CkI) (j:Nat):Int:=if c.O j=true then 0 else 4
def CkI.rdC (c:CkI) (j:Nat):CkI:=if c.O j=true then c.take j else c
def CkI.rdV (c:CkI) (j:Nat):Nat:=if c.O j=true then (c.R j).toNat else 0
theorem aaN {c:CkI}{j:Nat}(h:eI c) (hj:j<4):ad (ab FN (k+30)) 235 [ckV c,.int .i64 j] (.tup [ckV (c.rdC j),.int .u32 (c.rdV j),.int .i64 (c.rdE j)]):=by
 have c120:ad (ab FN (k+29)) 120 [.int .i64 j] (.bool true):=zZ (k:=k+28) hj
 have cf:∀ a:Bool,∀ e:Int,(if a then 4 else 0)=e→ad (ab FN (k+29)) 119 [csl 2 [.bool false,.int .i64 1,.bool a,.int .i64 4]] (.int .i64 e):=fun a e h=>by
  subst h
  exact (ad.mk (EC a)).fuel (by omega)
 have ha:aj .and (.int .i64 j) (.int .i64 3)=some (.int .i64 j):=by
  obtain rfl | rfl | rfl | rfl:j=0∨j=1∨j=2∨j=3:=by omega
  all_goals rfl
 have hR:∃ n:Nat,c.R j=n∧n<2147483648:=by
  have h1:=h.k j hj
  have h2:=h.l
  exact ⟨(c.R j).toNat,by have:=h1.1;omega,by have:=h1.1;have:=h1.2.1;omega⟩
 obtain ⟨n,hn,hlt⟩:=hR
 have hw:IntKind.u32.wrap (n:Int)=(n:Int):=w32 (by omega) (by omega)
 unfold CkI.rdC CkI.rdV CkI.rdE CkI.take
 have hO:c.O j=true∨c.O j=false:=by cases c.O j<;>simp
 rw [hn,Int.toNat_natCast]
 generalize hq:c.O j=q at *
 refine ak Y0 fun T H E lv=>?_
 obtain ⟨l,o0,o1,o2,o3,r0,r1,r2,r3,a0,a1,a2,a3⟩:=c
 clear h
 rcases hO with rfl | rfl
 ·rw [if_pos rfl,if_pos rfl,if_pos rfl]
  obtain rfl | rfl | rfl | rfl:j=0∨j=1∨j=2∨j=3:=by omega
  all_goals
   dsimp only [CkI.O] at hq
   dsimp only [CkI.R] at hn
   subst hq hn
   simp only [CkI.setO,CkI.setR]
   dsimp only [ckV,ckC]
   repeat (first | refine stN ?_ | intro E)
   apply oe
   ·exact rfl
   ·exact rfl
   ·exact cf _ 0 rfl
   repeat (first | refine stN ?_ | intro E)
   exact ae (.inr rfl) rfl rfl rfl rfl rfl rfl
 ·rw [if_neg (by decide),if_neg (by decide),if_neg (by decide)]
  obtain rfl | rfl | rfl | rfl:j=0∨j=1∨j=2∨j=3:=by omega
  all_goals
   dsimp only [CkI.O] at hq
   subst hq
   dsimp only [ckV,ckC]
   repeat (first | refine stN ?_ | intro E)
   apply oe
   ·exact rfl
   ·exact rfl
   ·exact cf _ 4 rfl
   repeat (first | refine stN ?_ | intro E)
   exact ae (.inr rfl) rfl rfl rfl rfl rfl rfl
theorem aaO {c:CkI}{j:Nat}(h:eI c) (hj:j<4):ad (ab FN (k+2)) 162 [ckV c,.int .i64 j] (iK (c.rdC j) (c.rdV j) false (c.rdE j)):=by
 have c127:ad (ab FN (k+1)) 127 [.int .i64 j] (.bool true):=z6 (k:=k) hj
 have hR:∃ n:Nat,c.R j=n∧n<2147483648:=by
  have h1:=h.k j hj
  have h2:=h.l
  exact ⟨(c.R j).toNat,by have:=h1.1;omega,by have:=h1.1;have:=h1.2.1;omega⟩
 obtain ⟨n,hn,hlt⟩:=hR
 have hw:IntKind.u32.wrap (n:Int)=(n:Int):=w32 (by omega) (by omega)
 unfold CkI.rdC CkI.rdV CkI.rdE CkI.take iK
 have hO:c.O j=true∨c.O j=false:=by cases c.O j<;>simp
 rw [hn,Int.toNat_natCast]
 generalize hq:c.O j=q at *
 refine ak Yi fun T H E lv=>?_
 obtain ⟨l,o0,o1,o2,o3,r0,r1,r2,r3,a0,a1,a2,a3⟩:=c
 clear h
 rcases hO with rfl | rfl
 ·rw [if_pos rfl,if_pos rfl,if_pos rfl]
  obtain rfl | rfl | rfl | rfl:j=0∨j=1∨j=2∨j=3:=by omega
  all_goals
   dsimp only [CkI.O] at hq
   dsimp only [CkI.R] at hn
   subst hq hn
   simp only [CkI.setO,CkI.setR]
   dsimp only [ckV,ckC]
   repeat (first | refine stN ?_ | intro E)
   exact ae (.inr rfl) rfl rfl rfl rfl rfl rfl
 ·rw [if_neg (by decide),if_neg (by decide),if_neg (by decide)]
  obtain rfl | rfl | rfl | rfl:j=0∨j=1∨j=2∨j=3:=by omega
  all_goals
   dsimp only [CkI.O] at hq
   subst hq
   dsimp only [ckV,ckC]
   repeat (first | refine stN ?_ | intro E)
   exact ae (.inr rfl) rfl rfl rfl rfl rfl rfl
theorem aaP {c:CkI}{j n v:Nat}(hj:j<4) (hn:n≤1099511627776) (hv:v<4294967296):ad (ab FN (k+2)) 236 [ckV c,.int .i64 j,.int .i64 n,.int .u32 v] (.tup [ckV (c.setA j (fg n v)),.int .i64 0]):=by
 have c120:ad (ab FN (k+1)) 120 [.int .i64 j] (.bool true):=zZ (k:=k) hj
 have hw:IntKind.i64.wrap (v:Int)=(v:Int):=w64 (by omega) (by omega)
 refine ak Y1 fun T H E lv=>?_
 obtain ⟨l,o0,o1,o2,o3,r0,r1,r2,r3,a0,a1,a2,a3⟩:=c
 by_cases h0:v=0
 ·subst h0
  have e:fg n 0=0:=rfl
  rw [e]
  obtain rfl | rfl | rfl | rfl:j=0∨j=1∨j=2∨j=3:=by omega
  all_goals
   simp only [CkI.setA]
   dsimp only [ckV,ckC]
   repeat (first | refine stN ?_ | intro E)
   exact ae (.inr rfl) rfl rfl rfl rfl rfl rfl
 ·have e:fg n v=min (n+v) 1099511627776:=if_neg h0
  rw [e]
  have hadd:aj .add (.int .i64 n) (.int .i64 v)=some (.int .i64 ((n+v:Nat):Int)):=iC (by omega)
  obtain rfl | rfl | rfl | rfl:j=0∨j=1∨j=2∨j=3:=by omega
  all_goals
   simp only [CkI.setA]
   dsimp only [ckV,ckC]
   repeat (first | refine stN ?_ | intro E)
   exact ae (.inr rfl) rfl rfl rfl rfl rfl rfl
theorem aaQ {c:CkI}{j n v:Nat}(hj:j<4) (hn:n≤1099511627776) (hv:v<4294967296):ad (ab FN (k+2)) 163 [ckV c,.int .i64 j,.int .i64 n,.int .u32 v] (iK (c.setA j (fg n v)) 0 false 0):=by
 have c127:ad (ab FN (k+1)) 127 [.int .i64 j] (.bool true):=z6 (k:=k) hj
 have hw:IntKind.i64.wrap (v:Int)=(v:Int):=w64 (by omega) (by omega)
 have hadd:aj .add (.int .i64 n) (.int .i64 v)=some (.int .i64 ((n+v:Nat):Int)):=iC (by omega)
 unfold iK
 refine ak Yj fun T H E lv=>?_
 obtain ⟨l,o0,o1,o2,o3,r0,r1,r2,r3,a0,a1,a2,a3⟩:=c
 obtain ⟨h0,hs⟩ | ⟨h0,hs,e⟩ | ⟨h0,hs,e⟩:(v=0∧n+v≤1099511627776)∨(v≠0∧1099511627776<n+v∧fg n v=1099511627776)∨(v≠0∧n+v≤1099511627776∧fg n v=n+v):=by
  unfold fg
  by_cases h0:v=0
  ·exact .inl ⟨h0,by omega⟩
  ·rw [if_neg h0];omega
 ·subst h0
  have e:fg n 0=0:=rfl
  rw [e]
  obtain rfl | rfl | rfl | rfl:j=0∨j=1∨j=2∨j=3:=by omega
  all_goals
   simp only [CkI.setA]
   dsimp only [ckV,ckC]
   repeat (first | refine stN ?_ | intro E)
   exact ae (.inr rfl) rfl rfl rfl rfl rfl rfl
 ·rw [e]
  generalize n+v=M at *
  obtain rfl | rfl | rfl | rfl:j=0∨j=1∨j=2∨j=3:=by omega
  all_goals
   simp only [CkI.setA]
   dsimp only [ckV,ckC]
   repeat (first | refine stN ?_ | intro E)
   exact ae (.inr rfl) rfl rfl rfl rfl rfl rfl
 ·rw [e]
  generalize n+v=M at *
  obtain rfl | rfl | rfl | rfl:j=0∨j=1∨j=2∨j=3:=by omega
  all_goals
   simp only [CkI.setA]
   dsimp only [ckV,ckC]
   repeat (first | refine stN ?_ | intro E)
   exact ae (.inr rfl) rfl rfl rfl rfl rfl rfl
end Go.Proofs.YtepcejdglbcbkaaGreat
/- The clock's ports, by the program and by the reference. Condition: the processor is one of four, the clock is valid. -/
namespace Go.Proofs.YtepcejdglbcbkaaGreat
open Go.Abs
variable {k:Nat}
theorem p8 (c:CkI) (j n v:Nat):c.port j n true 16 v=(c.rdC j,c.rdV j,c.rdE j):=by
 unfold CkI.port CkI.rdC CkI.rdV CkI.rdE
 rw [if_pos ⟨rfl,rfl⟩]
 cases c.O j<;>rfl
theorem rZ (c:CkI) (j n v:Nat):c.port j n false 17 v=(c.setA j (fg n v),0,0):=by
 unfold CkI.port
 rw [if_neg (by simp),if_pos ⟨rfl,rfl⟩]
theorem ue {c:CkI}{j n v:Nat}{i:Bool}{p:Int}(h1:¬ (i=true∧p=16)) (h2:¬ (i=false∧p=17)):c.port j n i p v=(c,0,5):=by
 unfold CkI.port
 rw [if_neg h1,if_neg h2]
theorem aaR {c:CkI}{j n v:Nat}{i:Bool}{p:Int}(h:eI c) (hj:j<4) (hn:n≤1099511627776) (hv:v<4294967296):ad (ab FN (k+40)) 234 [ckV c,.int .i64 j,.int .i64 n,.agg [.bool i,.int .i64 p,.int .u32 v]] (.tup [ckV (c.port j n i p v).1,.int .u32 (c.port j n i p v).2.1,.int .i64 (c.port j n i p v).2.2]):=by
 refine ak YZ fun T H E lv=>?_
 by_cases h1:i=true∧p=16
 ·obtain ⟨rfl,rfl⟩:=h1
  rw [p8]
  have c235:ad (ab FN (k+39)) 235 [ckV c,.int .i64 j] (.tup [ckV (c.rdC j),.int .u32 (c.rdV j),.int .i64 (c.rdE j)]):=aaN (k:=k+9) h hj
  generalize c.rdC j=x at *
  generalize c.rdV j=y at *
  generalize c.rdE j=z at *
  repeat (first | refine stN ?_ | intro E)
  exact ae (.inr rfl) rfl rfl rfl rfl rfl rfl
 by_cases h2:i=false∧p=17
 ·obtain ⟨rfl,rfl⟩:=h2
  rw [rZ]
  have c236:ad (ab FN (k+39)) 236 [ckV c,.int .i64 j,.int .i64 n,.int .u32 v] (.tup [ckV (c.setA j (fg n v)),.int .i64 0]):=aaP (k:=k+37) hj hn hv
  generalize c.setA j (fg n v)=x at *
  repeat (first | refine stN ?_ | intro E)
  exact ae (.inr rfl) rfl rfl rfl rfl rfl rfl
 rw [ue h1 h2]
 cases i
 ·have h3:p≠17:=fun e=>h2 ⟨rfl,e⟩
  repeat (first | refine stN ?_ | intro E)
  exact ae (.inr rfl) rfl rfl rfl rfl rfl rfl
 ·have h3:p≠16:=fun e=>h1 ⟨rfl,e⟩
  repeat (first | refine stN ?_ | intro E)
  exact ae (.inr rfl) rfl rfl rfl rfl rfl rfl
theorem aaS {c:CkI}{j n v:Nat}{i:Bool}{p:Int}(h:eI c) (hj:j<4) (hn:n≤1099511627776) (hv:v<4294967296):ad (ab FN (k+40)) 111 [ckV c,.int .i64 j,.int .i64 n,.agg [.bool i,.int .i64 p,.int .u32 v]] (iK (c.port j n i p v).1 (c.port j n i p v).2.1 false (c.port j n i p v).2.2):=by
 refine ak XT fun T H E lv=>?_
 by_cases h1:i=true∧p=16
 ·obtain ⟨rfl,rfl⟩:=h1
  rw [p8]
  have c162:ad (ab FN (k+39)) 162 [ckV c,.int .i64 j] (iK (c.rdC j) (c.rdV j) false (c.rdE j)):=aaO (k:=k+37) h hj
  generalize c.rdC j=x at *
  generalize c.rdV j=y at *
  generalize c.rdE j=z at *
  unfold iK at *
  repeat (first | refine stN ?_ | intro E)
  exact ae (.inr rfl) rfl rfl rfl rfl rfl rfl
 by_cases h2:i=false∧p=17
 ·obtain ⟨rfl,rfl⟩:=h2
  rw [rZ]
  have c163:ad (ab FN (k+39)) 163 [ckV c,.int .i64 j,.int .i64 n,.int .u32 v] (iK (c.setA j (fg n v)) 0 false 0):=aaQ (k:=k+37) hj hn hv
  generalize c.setA j (fg n v)=x at *
  unfold iK at *
  repeat (first | refine stN ?_ | intro E)
  exact ae (.inr rfl) rfl rfl rfl rfl rfl rfl
 rw [ue h1 h2]
 unfold iK
 cases i
 ·have h3:p≠17:=fun e=>h2 ⟨rfl,e⟩
  by_cases h4:p=16
  all_goals
   repeat (first | refine stN ?_ | intro E)
   exact ae (.inr rfl) rfl rfl rfl rfl rfl rfl
 ·have h3:p≠16:=fun e=>h1 ⟨rfl,e⟩
  by_cases h4:p=17
  all_goals
   repeat (first | refine stN ?_ | intro E)
   exact ae (.inr rfl) rfl rfl rfl rfl rfl rfl
end Go.Proofs.YtepcejdglbcbkaaGreat
