/- Part of the texts on which proofs about this seat rest: each says what it proves at its own head. No condition. -/
import Derived.Test.YtepcejdglbcbkaaGreatM34
set_option linter.unusedVariables false
set_option linter.unusedSimpArgs false
set_option maxHeartbeats 4000000
set_option maxRecDepth 100000
/- Whether a device is valid, by the program. Condition: the rings' sizes are words. -/
namespace Go.Proofs.YtepcejdglbcbkaaGreat
open Go.Abs
variable {k:Nat}
structure NIq where
 tb:Nat
 ts:Nat
 rb:Nat
 rs:Nat
 ta:Int
 ra:Int
 st:Int
 dr:Int
def niC (x:NIq):List AV:=[.int .u32 x.tb,.int .u32 x.ts,.int .u32 x.rb,.int .u32 x.rs,.int .i64 x.ta,.int .i64 x.ra,.int .i64 x.st,.int .i64 x.dr]
def niV (x:NIq):AV:=.agg (niC x)
noncomputable def c7 (x:NIq):Bool:=decide (x.st=0∨(160≤x.st∧x.st≤165))&&(cK x.ts x.ta&&(cK x.rs x.ra&&decide (0≤x.dr∧x.dr≤1099511627776)))
theorem s45 {x:NIq}(h1:x.ts<4294967296) (h2:x.rs<4294967296):ad (ab FN (k+600)) 45 [niV x] (.bool (c7 x)):=by
 obtain ⟨tb,ts,rb,rs,ta,ra,st,dr⟩:=x
 dsimp only at h1 h2
 have c1:ad (ab FN (k+599)) 106 [.agg [.int .u32 tb,.int .u32 ts],.int .i64 ta] (.bool (cK ts ta)):=(SD (k:=0) h1).fuel (by omega)
 have c2:ad (ab FN (k+599)) 106 [.agg [.int .u32 rb,.int .u32 rs],.int .i64 ra] (.bool (cK rs ra)):=(SD (k:=0) h2).fuel (by omega)
 have e:c7 ⟨tb,ts,rb,rs,ta,ra,st,dr⟩=(decide (st=0∨(160≤st∧st≤165))&&(cK ts ta&&(cK rs ra&&decide (0≤dr∧dr≤1099511627776)))):=rfl
 rw [e]
 change ad _ _ [AV.agg [.int .u32 tb,.int .u32 ts,.int .u32 rb,.int .u32 rs,.int .i64 ta,.int .i64 ra,.int .i64 st,.int .i64 dr]] _
 refine ak aah fun T H E lv=>?_
 rcases (show (st≠0∧st<160)∨165<st∨(st=0∨(160≤st∧st≤165)) by omega) with ⟨t1,t2⟩ | t1 | t1
 ·rw [decide_eq_false (show ¬ (st=0∨(160≤st∧st≤165)) by omega)]
  clear c1 c2
  repeat (first | refine stN ?_ | intro E)
  exact ae (.inr rfl) rfl rfl rfl rfl rfl rfl
 ·rw [decide_eq_false (show ¬ (st=0∨(160≤st∧st≤165)) by omega)]
  clear c1 c2
  repeat (first | refine stN ?_ | intro E)
  exact ae (.inr rfl) rfl rfl rfl rfl rfl rfl
 rw [decide_eq_true t1]
 rcases t1 with t1 | ⟨t1,t2⟩
 all_goals
  cases hp:cK ts ta
  ·rw [hp] at c1
   repeat (first | refine stN ?_ | intro E)
   exact ae (.inr rfl) rfl rfl rfl rfl rfl rfl
  rw [hp] at c1
  cases hq:cK rs ra
  ·rw [hq] at c2
   repeat (first | refine stN ?_ | intro E)
   exact ae (.inr rfl) rfl rfl rfl rfl rfl rfl
  rw [hq] at c2
  rcases (show dr<0∨(0≤dr∧dr≤1099511627776)∨1099511627776<dr by omega) with u1 | ⟨u1,u2⟩ | u1
  ·rw [decide_eq_false (show ¬ (0≤dr∧dr≤1099511627776) by omega)]
   repeat (first | refine stN ?_ | intro E)
   exact ae (.inr rfl) rfl rfl rfl rfl rfl rfl
  ·rw [decide_eq_true (show 0≤dr∧dr≤1099511627776 from ⟨u1,u2⟩)]
   repeat (first | refine stN ?_ | intro E)
   exact ae (.inr rfl) rfl rfl rfl rfl rfl rfl
  ·rw [decide_eq_false (show ¬ (0≤dr∧dr≤1099511627776) by omega)]
   repeat (first | refine stN ?_ | intro E)
   exact ae (.inr rfl) rfl rfl rfl rfl rfl rfl
end Go.Proofs.YtepcejdglbcbkaaGreat
/- Whether a device is valid, by the reference. Condition: the rings' sizes are words. -/
namespace Go.Proofs.YtepcejdglbcbkaaGreat
open Go.Abs
variable {k:Nat}
theorem s50 {x:NIq}(h1:x.ts<4294967296) (h2:x.rs<4294967296):ad (ab FN (k+600)) 50 [niV x] (.bool (c7 x)):=by
 obtain ⟨tb,ts,rb,rs,ta,ra,st,dr⟩:=x
 dsimp only at h1 h2
 have c1:ad (ab FN (k+599)) 109 [.agg [.int .u32 tb,.int .u32 ts],.int .i64 ta] (.bool (cK ts ta)):=(SE (k:=0) h1).fuel (by omega)
 have c2:ad (ab FN (k+599)) 109 [.agg [.int .u32 rb,.int .u32 rs],.int .i64 ra] (.bool (cK rs ra)):=(SE (k:=0) h2).fuel (by omega)
 have e:c7 ⟨tb,ts,rb,rs,ta,ra,st,dr⟩=(decide (st=0∨(160≤st∧st≤165))&&(cK ts ta&&(cK rs ra&&decide (0≤dr∧dr≤1099511627776)))):=rfl
 rw [e]
 change ad _ _ [AV.agg [.int .u32 tb,.int .u32 ts,.int .u32 rb,.int .u32 rs,.int .i64 ta,.int .i64 ra,.int .i64 st,.int .i64 dr]] _
 refine ak aam fun T H E lv=>?_
 rcases (show (st≠0∧st<160)∨165<st∨(st=0∨(160≤st∧st≤165)) by omega) with ⟨t1,t2⟩ | t1 | t1
 ·rw [decide_eq_false (show ¬ (st=0∨(160≤st∧st≤165)) by omega)]
  rw [Bool.false_and]
  cases hp:cK ts ta
  ·rw [hp] at c1
   repeat (first | refine stN ?_ | intro E)
   exact ae (.inr rfl) rfl rfl rfl rfl rfl rfl
  rw [hp] at c1
  cases hq:cK rs ra
  ·rw [hq] at c2
   repeat (first | refine stN ?_ | intro E)
   exact ae (.inr rfl) rfl rfl rfl rfl rfl rfl
  rw [hq] at c2
  rcases (show dr<0∨(0≤dr∧dr≤1099511627776)∨1099511627776<dr by omega) with u1 | ⟨u1,u2⟩ | u1
  all_goals
   repeat (first | refine stN ?_ | intro E)
   exact ae (.inr rfl) rfl rfl rfl rfl rfl rfl
 ·rw [decide_eq_false (show ¬ (st=0∨(160≤st∧st≤165)) by omega)]
  rw [Bool.false_and]
  cases hp:cK ts ta
  ·rw [hp] at c1
   repeat (first | refine stN ?_ | intro E)
   exact ae (.inr rfl) rfl rfl rfl rfl rfl rfl
  rw [hp] at c1
  cases hq:cK rs ra
  ·rw [hq] at c2
   repeat (first | refine stN ?_ | intro E)
   exact ae (.inr rfl) rfl rfl rfl rfl rfl rfl
  rw [hq] at c2
  rcases (show dr<0∨(0≤dr∧dr≤1099511627776)∨1099511627776<dr by omega) with u1 | ⟨u1,u2⟩ | u1
  all_goals
   repeat (first | refine stN ?_ | intro E)
   exact ae (.inr rfl) rfl rfl rfl rfl rfl rfl
 rw [decide_eq_true t1]
 rcases t1 with t1 | ⟨t1,t2⟩
 all_goals
  cases hp:cK ts ta
  ·rw [hp] at c1
   repeat (first | refine stN ?_ | intro E)
   exact ae (.inr rfl) rfl rfl rfl rfl rfl rfl
  rw [hp] at c1
  cases hq:cK rs ra
  ·rw [hq] at c2
   repeat (first | refine stN ?_ | intro E)
   exact ae (.inr rfl) rfl rfl rfl rfl rfl rfl
  rw [hq] at c2
  rcases (show dr<0∨(0≤dr∧dr≤1099511627776)∨1099511627776<dr by omega) with u1 | ⟨u1,u2⟩ | u1
  ·rw [decide_eq_false (show ¬ (0≤dr∧dr≤1099511627776) by omega)]
   repeat (first | refine stN ?_ | intro E)
   exact ae (.inr rfl) rfl rfl rfl rfl rfl rfl
  ·rw [decide_eq_true (show 0≤dr∧dr≤1099511627776 from ⟨u1,u2⟩)]
   repeat (first | refine stN ?_ | intro E)
   exact ae (.inr rfl) rfl rfl rfl rfl rfl rfl
  ·rw [decide_eq_false (show ¬ (0≤dr∧dr≤1099511627776) by omega)]
   repeat (first | refine stN ?_ | intro E)
   exact ae (.inr rfl) rfl rfl rfl rfl rfl rfl
end Go.Proofs.YtepcejdglbcbkaaGreat
