/- Part of the texts on which proofs about this seat rest: each says what it proves at its own head. No condition. -/
import Derived.Test.YtepcejdglbcbkaaGreatM9
set_option linter.unusedVariables false
set_option linter.unusedSimpArgs false
set_option maxHeartbeats 4000000
set_option maxRecDepth 100000
/- lines.Port, by the program. Condition: the control is valid. -/
namespace Go.Proofs.YtepcejdglbcbkaaGreat
open Go.Abs
variable {k:Nat}
def ph (c:LnI):Option (LnI×Nat)→AV
 | some (c',r)=>.tup [lnV c',.int .u32 r,.int .i64 0]
 | none=>.tup [lnV c,.int .u32 0,.int .i64 5]
def lnZ:List AV:=[.int .i64 0,.int .u32 0,.int .u32 0,.int .u32 0,.int .u32 0,.int .u32 0,.int .u32 0,.int .u32 0,.int .u32 0,.int .i64 0,.int .i64 0,.int .i64 0,.int .i64 0,.int .i64 0]
theorem Zg {c:LnI}(h:bI c) {j v:Nat}(hj:j<4) {port:Int}:ad (ab FN (k+60)) 226 [lnV c,.int .i64 j,.agg [.bool true,.int .i64 port,.int .u32 v]] (ph c (c.port j true port v)):=by
 refine ak Bl fun T H E lv=>?_
 unfold LnI.port
 rw [if_pos rfl]
 by_cases h1:port=0
 ·subst h1
  rw [if_pos rfl]
  repeat (first | refine stN ?_ | intro E)
  refine xZ 2 [3] rfl rfl ?_
  repeat (first | refine stN ?_ | intro E)
  refine A9 ?_
  apply dB (os':=[(2,vwC c j),(1,lnZ),(0,lnC c)])
  ·exact rfl
  ·exact rfl
  ·exact fun H E=>dH rfl (show aU (ab FN (k+59)) 227 _ _ _ _ _ _ _ _ _ _ from aaC (k:=k+58) (c:=c) hj)
  ·exact ⟨.inl ⟨rfl,rfl⟩,.inr ⟨rfl,rfl,rfl,rfl⟩,.inr ⟨rfl,rfl,rfl,rfl⟩,trivial⟩
  intro H2
  repeat (first | refine stN ?_ | intro E)
  refine x6 ?_
  repeat (first | refine stN ?_ | intro E)
  refine tT (fun q' hq'=>?_) ?_
  ·obtain rfl:=List.mem_singleton.1 hq'
   exact ⟨0,_,cA rfl,(av rfl).trans (av rfl).symm⟩
  refine oB rfl ?_
  repeat (first | refine stN ?_ | intro E)
  exact ae (.inr rfl) rfl rfl rfl rfl rfl rfl
 ·rw [if_neg h1]
  by_cases h2:port=1
  ·subst h2
   rw [if_pos rfl]
   repeat (first | refine stN ?_ | intro E)
   refine xZ 2 [3] rfl rfl ?_
   repeat (first | refine stN ?_ | intro E)
   refine A9 ?_
   apply dB (os':=[(2,vwC c j),(1,lnZ),(0,lnC c)])
   ·exact rfl
   ·exact rfl
   ·exact fun H E=>dH rfl (show aU (ab FN (k+59)) 228 _ _ _ _ _ _ _ _ _ _ from aaD (k:=k+28) h hj)
   ·exact ⟨.inl ⟨rfl,rfl⟩,.inr ⟨rfl,rfl,rfl,rfl⟩,.inr ⟨rfl,rfl,rfl,rfl⟩,trivial⟩
   intro H2
   repeat (first | refine stN ?_ | intro E)
   refine x6 ?_
   repeat (first | refine stN ?_ | intro E)
   refine tT (fun q' hq'=>?_) ?_
   ·obtain rfl:=List.mem_singleton.1 hq'
    exact ⟨0,_,cA rfl,(av rfl).trans (av rfl).symm⟩
   refine oB rfl ?_
   repeat (first | refine stN ?_ | intro E)
   exact ae (.inr rfl) rfl rfl rfl rfl rfl rfl
  ·rw [if_neg h2]
   have hg:∀ (x y:AV),getM 0 (.int .i64 port) [.int .i64 0,x,.int .i64 1,y]=some none:=by
    intro x y
    have e1:(port==0)=false:=by simpa using h1
    have e2:(port==1)=false:=by simpa using h2
    simp only [getM,eqK,if_true,e1,e2]
   repeat (first | refine stN ?_ | intro E)
   apply j9
   ·exact rfl
   ·exact rfl
   ·exact rfl
   ·exact rfl
   ·exact rfl
   ·exact hg _ _
   repeat (first | refine stN ?_ | intro E)
   exact ae (.inr rfl) rfl rfl rfl rfl rfl rfl
theorem Zh {c:LnI}(h:bI c) {j v:Nat}(hj:j<4) (hv:v<4294967296) {port:Int}:ad (ab FN (k+60)) 226 [lnV c,.int .i64 j,.agg [.bool false,.int .i64 port,.int .u32 v]] (ph c (c.port j false port v)):=by
 refine ak Bl fun T H E lv=>?_
 unfold LnI.port
 rw [if_neg (by decide)]
 by_cases h0:port=0
 ·subst h0
  rw [if_pos rfl]
  have hW:∀ H E,aU (ab FN (k+59)) 229 [.ref 2 0,.int .u32 v] [(2,vwC c j)] H 4 lv 4 E (.tup []) 2 (vwC (c.dU j (v%32)) j):=fun H E=>aaE (k:=k+58) hv hj
  generalize c.dU j (v%32)=c' at *
  repeat (first | refine stN ?_ | intro E)
  apply dB (os':=[(2,vwC c' j),(1,lnZ),(0,lnC c)])
  ·exact rfl
  ·exact rfl
  ·exact fun H E=>dH rfl (hW _ _)
  ·exact ⟨.inl ⟨rfl,rfl⟩,.inr ⟨rfl,rfl,rfl,rfl⟩,.inr ⟨rfl,rfl,rfl,rfl⟩,trivial⟩
  intro H2
  repeat (first | refine stN ?_ | intro E)
  exact ae (.inr rfl) rfl rfl rfl rfl rfl rfl
 rw [if_neg h0]
 by_cases h2:port=2
 ·subst h2
  rw [if_pos rfl]
  have hW:∀ H E,aU (ab FN (k+59)) 230 [.ref 2 0,.int .u32 v] [(2,vwC c j)] H 4 lv 4 E (.tup []) 2 (vwC (if v<5 then c.setR j (gI (c.R j) v) else c) j):=fun H E=>aaF (k:=k+58) h hv hj
  generalize (if v<5 then c.setR j (gI (c.R j) v) else c)=c' at *
  repeat (first | refine stN ?_ | intro E)
  apply dB (os':=[(2,vwC c' j),(1,lnZ),(0,lnC c)])
  ·exact rfl
  ·exact rfl
  ·exact fun H E=>dH rfl (hW _ _)
  ·exact ⟨.inl ⟨rfl,rfl⟩,.inr ⟨rfl,rfl,rfl,rfl⟩,.inr ⟨rfl,rfl,rfl,rfl⟩,trivial⟩
  intro H2
  repeat (first | refine stN ?_ | intro E)
  exact ae (.inr rfl) rfl rfl rfl rfl rfl rfl
 rw [if_neg h2]
 by_cases h3:port=3
 ·subst h3
  rw [if_pos rfl]
  have hW:∀ H E,aU (ab FN (k+59)) 231 [.ref 2 0,.int .u32 v] [(2,vwC c j)] H 4 lv 4 E (.tup []) 2 (vwC (if (v:Int)<c.n then c.raise 4 v else c) j):=fun H E=>aaG (k:=k+28) h hv hj
  generalize (if (v:Int)<c.n then c.raise 4 v else c)=c' at *
  repeat (first | refine stN ?_ | intro E)
  apply dB (os':=[(2,vwC c' j),(1,lnZ),(0,lnC c)])
  ·exact rfl
  ·exact rfl
  ·exact fun H E=>dH rfl (hW _ _)
  ·exact ⟨.inl ⟨rfl,rfl⟩,.inr ⟨rfl,rfl,rfl,rfl⟩,.inr ⟨rfl,rfl,rfl,rfl⟩,trivial⟩
  intro H2
  repeat (first | refine stN ?_ | intro E)
  exact ae (.inr rfl) rfl rfl rfl rfl rfl rfl
 rw [if_neg h3]
 by_cases h4:port=4
 ·subst h4
  rw [if_pos rfl]
  have hW:∀ H E,aU (ab FN (k+59)) 232 [.ref 2 0,.int .u32 v] [(2,vwC c j)] H 4 lv 4 E (.tup []) 2 (vwC (if (v/16=1∨v/16=2∨v/16=3)∧((v%16:Nat):Int)<c.n then c.setT (v/16) ((v%16:Nat):Int) else c) j):=fun H E=>aaH (k:=k+57) h hv hj
  generalize (if (v/16=1∨v/16=2∨v/16=3)∧((v%16:Nat):Int)<c.n then c.setT (v/16) ((v%16:Nat):Int) else c)=c' at *
  repeat (first | refine stN ?_ | intro E)
  apply dB (os':=[(2,vwC c' j),(1,lnZ),(0,lnC c)])
  ·exact rfl
  ·exact rfl
  ·exact fun H E=>dH rfl (hW _ _)
  ·exact ⟨.inl ⟨rfl,rfl⟩,.inr ⟨rfl,rfl,rfl,rfl⟩,.inr ⟨rfl,rfl,rfl,rfl⟩,trivial⟩
  intro H2
  repeat (first | refine stN ?_ | intro E)
  exact ae (.inr rfl) rfl rfl rfl rfl rfl rfl
 rw [if_neg h4]
 have hg:∀ (x y z u:AV),getM 0 (.int .i64 port) [.int .i64 0,x,.int .i64 2,y,.int .i64 3,z,.int .i64 4,u]=some none:=by
  intro x y z u
  have e1:(port==0)=false:=by simpa using h0
  have e2:(port==2)=false:=by simpa using h2
  have e3:(port==3)=false:=by simpa using h3
  have e4:(port==4)=false:=by simpa using h4
  simp only [getM,eqK,if_true,e1,e2,e3,e4]
 repeat (first | refine stN ?_ | intro E)
 apply j9
 ·exact rfl
 ·exact rfl
 ·exact rfl
 ·exact rfl
 ·exact rfl
 ·exact hg _ _ _ _
 repeat (first | refine stN ?_ | intro E)
 exact ae (.inr rfl) rfl rfl rfl rfl rfl rfl
theorem aaI {c:LnI}(h:bI c) {j v:Nat}(hj:j<4) (hv:v<4294967296) {i:Bool}{port:Int}:ad (ab FN (k+60)) 226 [lnV c,.int .i64 j,.agg [.bool i,.int .i64 port,.int .u32 v]] (ph c (c.port j i port v)):=by
 cases i
 ·exact Zh h hj hv
 ·exact Zg h hj
end Go.Proofs.YtepcejdglbcbkaaGreat
