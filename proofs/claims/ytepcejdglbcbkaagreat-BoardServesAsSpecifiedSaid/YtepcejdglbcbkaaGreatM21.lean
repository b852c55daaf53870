/- Part of the texts on which proofs about this seat rest: each says what it proves at its own head. No condition. -/
import Derived.Test.YtepcejdglbcbkaaGreatM20
set_option linter.unusedVariables false
set_option linter.unusedSimpArgs false
set_option maxRecDepth 100000
/- The flags of a descriptor. No condition but that they are words. -/
namespace Go.Proofs.YtepcejdglbcbkaaGreat
open Go.Abs
variable {k:Nat}
theorem ui (f m i:Nat):f &&& (m <<< i)=((f >>> i) &&& m) <<< i:=by
 apply Nat.eq_of_testBit_eq
 intro j
 rw [Nat.testBit_and,Nat.testBit_shiftLeft,Nat.testBit_shiftLeft,Nat.testBit_and,Nat.testBit_shiftRight]
 by_cases h:i≤j
 ·rw [show i+(j-i)=j by omega]
  simp [h]
 ·simp [h]
theorem EH (f:Nat) (h:f<4294967296):(f &&& 4294902012=0)↔(f/4%64=0∧f/65536=0):=by
 have e:(4294902012:Nat)=(63 <<< 2) ||| (65535 <<< 16):=by decide
 rw [e,Nat.and_or_distrib_left,ui,ui,Nat.or_eq_zero_iff]
 have h1:(f >>> 2) &&& 63=f/4%64:=by rw [Nat.shiftRight_eq_div_pow];exact Nat.and_two_pow_sub_one_eq_mod _ 6
 have h2:(f >>> 16) &&& 65535=f/65536%65536:=by rw [Nat.shiftRight_eq_div_pow];exact Nat.and_two_pow_sub_one_eq_mod _ 16
 rw [h1,h2,Nat.shiftLeft_eq,Nat.shiftLeft_eq]
 omega
theorem tk {f:Nat}(h:f<4294967296):aj .andNot (.int .u32 (f:Int)) (.int .u32 65283)=some (.int .u32 ((f &&& 4294902012:Nat):Int)):=by
 have h1:(BitVec.ofInt IntKind.u32.bits (f:Int) &&& ~~~ BitVec.ofInt IntKind.u32.bits (65283:Int)).toNat=f &&& 4294902012:=by
  show (BitVec.ofInt 32 (f:Int) &&& ~~~ BitVec.ofInt 32 (65283:Int)).toNat=_
  rw [BitVec.toNat_and,dm f h]
  rfl
 have:f &&& 4294902012≤f:=Nat.and_le_left
 simp only [aj,reduceCtorEq,or_self,if_false,if_true,bC,h1]
 rw [w32 (by omega) (by omega)]
theorem Ad {f:Nat}(h:f<4294967296):aj .and (.int .u32 (f:Int)) (.int .u32 2)=some (.int .u32 ((2*(f/2%2):Nat):Int)):=by
 have:=tS (a:=f) (b:=2) h (by omega)
 rw [B3] at this;exact this
theorem vV {f:Nat}(h:f<4294967296):aj .and (.int .u32 (f:Int)) (.int .u32 255)=some (.int .u32 ((f%256:Nat):Int)):=by
 have:=tS (a:=f) (b:=255) h (by omega)
 rw [B4] at this;exact this
def dcV (i a z:Nat) (w:Bool) (f st:Nat):AV:=.agg [.int .i64 i,.int .i64 a,.int .i64 z,.bool w,.int .u32 f,.int .u32 st]
theorem Sg {i a z f st:Nat}{w:Bool}(hf:f<4294967296):ad (ab FN (k+1)) 193 [dcV i a z w f st] (.bool (decide (f/2%2=1))):=by
 have g:=Ad hf
 refine ak YF fun T H E lv=>?_
 rcases Nat.mod_two_eq_zero_or_one (f/2) with h | h
 ·rw [show decide (f/2%2=1)=false from by simp [h]]
  repeat (first | refine stN ?_ | intro E)
  exact ae (.inr rfl) rfl rfl rfl rfl rfl rfl
 ·rw [show decide (f/2%2=1)=true from by simp [h]]
  repeat (first | refine stN ?_ | intro E)
  exact ae (.inr rfl) rfl rfl rfl rfl rfl rfl
theorem Si {i a z f st:Nat}{w:Bool}(hf:f<4294967296):ad (ab FN (k+1)) 194 [dcV i a z w f st] (.int .i64 ((f/256%256:Nat):Int)):=by
 have g0:aj .shr (.int .u32 (f:Int)) (.int .u64 8)=some (.int .u32 ((f/256:Nat):Int)):=kO (m:=8) (by decide)
 have g:=vV (f:=f/256) (by omega)
 refine ak YG fun T H E lv=>?_
 repeat (first | refine stN ?_ | intro E)
 exact ae (.inr rfl) rfl rfl rfl rfl rfl rfl
def mb (f:Nat):Bool:=decide (f/4%64=0∧f/65536=0∧(f/2%2=1∨f/256%256=0))
theorem aba {i a z f st:Nat}{w:Bool}(hf:f<4294967296):ad (ab FN (k+2)) 192 [dcV i a z w f st] (.bool (mb f)):=by
 have c193:ad (ab FN (k+1)) 193 [dcV i a z w f st] (.bool (decide (f/2%2=1))):=Sg hf
 have c194:ad (ab FN (k+1)) 194 [dcV i a z w f st] (.int .i64 ((f/256%256:Nat):Int)):=Si hf
 have g:=tk hf
 have hm:=EH f hf
 refine ak YE fun T H E lv=>?_
 unfold mb
 by_cases h0:f &&& 4294902012=0
 ·have h1:=hm.1 h0
  rcases Nat.mod_two_eq_zero_or_one (f/2) with h | h
  ·rw [show decide (f/2%2=1)=false from by simp [h]] at c193
   by_cases h2:f/256%256=0
   ·rw [show decide _=true from decide_eq_true (by omega)]
    repeat (first | refine stN ?_ | intro E)
    exact ae (.inr rfl) rfl rfl rfl rfl rfl rfl
   ·rw [show decide _=false from decide_eq_false (by omega)]
    repeat (first | refine stN ?_ | intro E)
    exact ae (.inr rfl) rfl rfl rfl rfl rfl rfl
  ·rw [show decide (f/2%2=1)=true from by simp [h]] at c193
   rw [show decide _=true from decide_eq_true (by omega)]
   repeat (first | refine stN ?_ | intro E)
   exact ae (.inr rfl) rfl rfl rfl rfl rfl rfl
 ·have h1:¬ (f/4%64=0∧f/65536=0):=fun h=>h0 (hm.2 h)
  rw [show decide _=false from decide_eq_false (by omega)]
  repeat (first | refine stN ?_ | intro E)
  exact ae (.inr rfl) rfl rfl rfl rfl rfl rfl
theorem vW {bs:List UInt8}{b s i:Nat}(h:RV bs b s) (hi:i<s):ad (ab FN (k+8)) 191 [aq bs,aL b s,.int .i64 i] (dcV i (dw bs b i 0) (dw bs b i 1) (wr bs b i) (dw bs b i 2) (dw bs b i 3)):=by
 have:=aaZ (k:=k) h hi
 have e:((((dw bs b i 2%2:Nat):Int)) != 0)=wr bs b i:=by
  unfold wr
  rcases Nat.mod_two_eq_zero_or_one (dw bs b i 2) with h | h<;>rw [h]<;>rfl
 unfold Bx at this
 rw [e] at this
 exact this
theorem Ae {bs:List UInt8}{b s i e:Nat}(h:RV bs b s) (hi:i<s) (he:160≤e∧e≤165):ad (ab FN (k+10300)) 195 [aq bs,aL b s,.int .i64 i,.int .i64 e] (aq (bj b (4+(e-160)) bs i)):=by
 have c176:ad (ab FN (k+10299)) 176 [aq bs,aL b s,.int .i64 ((4+(e-160):Nat):Int),csl 1 (dI [i])] (aq (bm bs b (4+(e-160)) [i])):=(Aa (k:=0) h (by simp [hi]) (by omega) (by simp)).fuel (by omega)
 refine ak YH fun T H E lv=>?_
 repeat (first | refine stN ?_ | intro E)
 exact ae (.inr rfl) rfl rfl rfl rfl rfl rfl
theorem Sl {bs:List UInt8}{b s i e:Nat}(h:RV bs b s) (hi:i<s) (he:160≤e∧e≤165):ad (ab FN (k+10300)) 133 [aq bs,aL b s,.int .i64 i,.int .i64 e] (aq (bj b (4+(e-160)) bs i)):=by
 have c179:ad (ab FN (k+10299)) 179 [aq bs,aL b s,.int .i64 i,.int .i64 ((4+(e-160):Nat):Int)] (aq (bj b (4+(e-160)) bs i)):=(Ac (k:=0) h hi (by omega)).fuel (by omega)
 refine ak X6 fun T H E lv=>?_
 repeat (first | refine stN ?_ | intro E)
 exact ae (.inr rfl) rfl rfl rfl rfl rfl rfl
end Go.Proofs.YtepcejdglbcbkaaGreat
