/- Part of the texts on which proofs about this seat rest: each says what it proves at its own head. No condition. -/
import Derived.Test.YtepcejdglbcbkaaGreatM36
set_option linter.unusedVariables false
set_option linter.unusedSimpArgs false
set_option maxHeartbeats 4000000
set_option maxRecDepth 100000
/- What a device does when it is asked, by the reference. Condition: the memory is valid, the device is valid. -/
namespace Go.Proofs.YtepcejdglbcbkaaGreat
open Go.Abs
variable {k:Nat}
def gM (tb ts rb rs ta ra st dr:Nat) (m:List UInt8) (i:Bool) (p:Int) (w:Nat):List AV:=
 if i then
  if p=64 then doC tb ts rb rs ta ra st dr m tb (.sl 1 0 []) false true
  else if p=65 then doC tb ts rb rs ta ra st dr m ts (.sl 1 0 []) false true
  else if p=66 then doC tb ts rb rs ta ra st dr m rb (.sl 1 0 []) false true
  else if p=67 then doC tb ts rb rs ta ra st dr m rs (.sl 1 0 []) false true
  else if p=69 then doC tb ts rb rs ta ra 0 dr m st (.sl 1 0 []) false true
  else if p=70 then doC tb ts rb rs ta ra st dr m (dr%4294967296) (.sl 1 0 []) false true
  else doC tb ts rb rs ta ra st dr m 0 (.sl 1 0 []) false false
 else
  if p=64 then doC w ts rb rs 0 ra st dr m 0 (.sl 1 0 []) false true
  else if p=65 then doC tb w rb rs 0 ra st dr m 0 (.sl 1 0 []) false true
  else if p=66 then doC tb ts w rs ta 0 st dr m 0 (.sl 1 0 []) false true
  else if p=67 then doC tb ts rb w ta 0 st dr m 0 (.sl 1 0 []) false true
  else if p=68 then
   if aX m.length tb ts≠0 then doC tb ts rb rs ta ra (aX m.length tb ts) dr m 0 (.sl 1 0 []) false true
   else doC tb ts rb rs (dc tb ts ts ⟨m,[],false,ta,st⟩).a ra (dc tb ts ts ⟨m,[],false,ta,st⟩).st dr (dc tb ts ts ⟨m,[],false,ta,st⟩).m 0 (csl 1 (bS (dc tb ts ts ⟨m,[],false,ta,st⟩).o)) (dc tb ts ts ⟨m,[],false,ta,st⟩).r true
  else doC tb ts rb rs ta ra st dr m 0 (.sl 1 0 []) false false
theorem Zo {tb ts rb rs v:Nat}{ta ra st dr:Int}{m:List UInt8}{r ok:Bool}(h:VM m) (hb:tb<4294967296) (hs:ts<4294967296) (hc:aX m.length tb ts≠0) :
 ad (ab FN (k+10600)) 114 [.agg (doC tb ts rb rs ta ra st dr m v (.sl 1 0 []) r ok)] (.agg (doC tb ts rb rs ta ra (aX m.length tb ts) dr m v (.sl 1 0 []) r ok)):=by
 have hc:=(ld m.length tb ts).resolve_left hc
 have c129:ad (ab FN (k+10599)) 129 [aq m,aL tb ts] (.int .i64 (aX m.length tb ts)):=(sf (k:=0) h hb hs).fuel (by omega)
 rw [hc] at c129 ⊢
 refine ak Bh fun T H E lv=>?_
 repeat (first | refine stN ?_ | intro E)
 exact ae (.inr rfl) rfl rfl rfl rfl rfl rfl
theorem SF (n:Nat):IntKind.u32.wrap (n:Int)=((n%4294967296:Nat):Int):=by
 have e1:(2 ^ IntKind.u32.bits:Int)=4294967296:=by decide +kernel
 have hs:IntKind.u32.signed=false:=rfl
 unfold IntKind.wrap
 simp only [e1,hs,Bool.false_and,Bool.false_eq_true,if_false]
 omega
theorem s56 {tb ts rb rs ta ra st dr w:Nat}{p:Int}{i:Bool}{m:List UInt8}(h:VM m) (hb:tb<4294967296) (hs:ts<4294967296) (hst:st≤165) (ha:dF ts→ta<ts) :
 ad (ab FN (k+10700)) 56 [.agg [.int .u32 tb,.int .u32 ts,.int .u32 rb,.int .u32 rs,.int .i64 ta,.int .i64 ra,.int .i64 st,.int .i64 dr],aq m,.agg [.bool i,.int .i64 p,.int .u32 w]] (.agg (gM tb ts rb rs ta ra st dr m i p w)):=by
 refine ak aaq fun T H E lv=>?_
 unfold gM
 cases i
 ·rw [if_neg (by decide)]
  by_cases h1:p=64
  ·subst h1
   rw [if_pos rfl]
   repeat (first | refine stN ?_ | intro E)
   exact ae (.inr rfl) rfl rfl rfl rfl rfl rfl
  rw [if_neg h1]
  by_cases h2:p=65
  ·subst h2
   rw [if_pos rfl]
   repeat (first | refine stN ?_ | intro E)
   exact ae (.inr rfl) rfl rfl rfl rfl rfl rfl
  rw [if_neg h2]
  by_cases h3:p=66
  ·subst h3
   rw [if_pos rfl]
   repeat (first | refine stN ?_ | intro E)
   exact ae (.inr rfl) rfl rfl rfl rfl rfl rfl
  rw [if_neg h3]
  by_cases h4:p=67
  ·subst h4
   rw [if_pos rfl]
   repeat (first | refine stN ?_ | intro E)
   exact ae (.inr rfl) rfl rfl rfl rfl rfl rfl
  rw [if_neg h4]
  by_cases h5:p=68
  ·subst h5
   rw [if_pos rfl]
   by_cases hc:aX m.length tb ts≠0
   ·rw [if_pos hc]
    have c114:ad (ab FN (k+10699)) 114 [.agg (doC tb ts rb rs ta ra st dr m 0 (.sl 1 0 []) false true)] (.agg (doC tb ts rb rs ta ra (aX m.length tb ts) dr m 0 (.sl 1 0 []) false true)):=Zo (k:=k+99) h hb hs hc
    repeat (first | refine stN ?_ | intro E)
    exact ae (.inr rfl) rfl rfl rfl rfl rfl rfl
   ·rw [if_neg hc]
    have hrv:=sC h (Decidable.not_not.1 hc)
    have c114:ad (ab FN (k+10699)) 114 [.agg (doC tb ts rb rs ta ra st dr m 0 (.sl 1 0 []) false true)] _:=abE (k:=k+99) hrv (ha hrv.hs)
    generalize dc tb ts ts ⟨m,[],false,ta,st⟩=R at *
    repeat (first | refine stN ?_ | intro E)
    refine ae (.inr rfl) rfl rfl rfl rfl rfl ?_
    simp [AV.flat,bK,csl,doC]
  rw [if_neg h5]
  repeat (first | refine stN ?_ | intro E)
  exact ae (.inr rfl) rfl rfl rfl rfl rfl rfl
 ·rw [if_pos rfl]
  by_cases h1:p=64
  ·subst h1
   rw [if_pos rfl]
   repeat (first | refine stN ?_ | intro E)
   exact ae (.inr rfl) rfl rfl rfl rfl rfl rfl
  rw [if_neg h1]
  by_cases h2:p=65
  ·subst h2
   rw [if_pos rfl]
   repeat (first | refine stN ?_ | intro E)
   exact ae (.inr rfl) rfl rfl rfl rfl rfl rfl
  rw [if_neg h2]
  by_cases h3:p=66
  ·subst h3
   rw [if_pos rfl]
   repeat (first | refine stN ?_ | intro E)
   exact ae (.inr rfl) rfl rfl rfl rfl rfl rfl
  rw [if_neg h3]
  by_cases h4:p=67
  ·subst h4
   rw [if_pos rfl]
   repeat (first | refine stN ?_ | intro E)
   exact ae (.inr rfl) rfl rfl rfl rfl rfl rfl
  rw [if_neg h4]
  by_cases h5:p=69
  ·subst h5
   rw [if_pos rfl]
   repeat (first | refine stN ?_ | intro E)
   exact ae (.inr rfl) rfl rfl rfl rfl rfl rfl
  rw [if_neg h5]
  by_cases h6:p=70
  ·subst h6
   rw [if_pos rfl]
   have hw:=SF dr
   repeat (first | refine stN ?_ | intro E)
   exact ae (.inr rfl) rfl rfl rfl rfl rfl rfl
  rw [if_neg h6]
  repeat (first | refine stN ?_ | intro E)
  exact ae (.inr rfl) rfl rfl rfl rfl rfl rfl
end Go.Proofs.YtepcejdglbcbkaaGreat
/- Small methods of the work under way: they write its object. Conditions: the memory is valid, the ring is there. -/
namespace Go.Proofs.YtepcejdglbcbkaaGreat
open Go.Abs
variable {k:Nat}
abbrev woC (m:List UInt8) (v:Nat) (o:AV) (r ok:Bool) (tb ts rb rs:Nat) (ta ra st dr:Int):List AV:=
 [csl 128 (m.map ofB),.int .u32 v,o,.bool r,.bool ok,.int .u32 tb,.int .u32 ts,.int .u32 rb,.int .u32 rs,.int .i64 ta,.int .i64 ra,.int .i64 st,.int .i64 dr]
theorem uy {os:List (Nat×List AV)}{H:Hp}{i:Nat}{cells:List AV}(ho:lkO os i=some cells):ah [(i,cells)] (ah os H)=ah os H:=by
 funext j
 simp only [ah,upd]
 split
 ·next hj=>rw [hj,av ho]
 ·rfl
theorem fJ {F:aE}{f:FuncId}{args:List AV}{os:List (Nat×List AV)}{H:Hp}{n:Nat}{lv:Nat→Bool}{c:Nat}{E:Nat→Option TypeId}{R:AV}{id i:Nat}{v cells:List AV}(ho:lkO os i=some cells) (h:aU F f args [(i,cells)] (ah os H) n lv c E R id v):aU F f args os H n lv c E R id v:=by
 obtain ⟨h⟩:=h
 rw [uy ho] at h
 exact ⟨h⟩
section
variable {m:List UInt8}{v tb ts rb rs:Nat}{ta ra st dr:Int}{br z:Nat}{xs:List AV}{r ok:Bool}{H:Hp}{E:Nat→Option TypeId}{lv:Nat→Bool}{c n:Nat}
theorem SG {e:Int}(hn:6≤n):aU (ab FN (k+1)) 166 [.ref 5 0,.int .i64 e] [(5,woC m v (.sl br z xs) r ok tb ts rb rs ta ra st dr)] H n lv c E (.tup []) 5 (woC m v (.sl br z xs) r ok tb ts rb rs ta ra e dr):=by
 refine bY (by omega) rfl Ym fun T=>?_
 repeat (first | refine stN ?_ | intro E)
 exact aQ (.inl rfl) rfl rfl rfl rfl rfl ⟨rfl,_,rfl,av rfl,(az.refl _ _ _).upd (.inl rfl)⟩
theorem Zp {b s i e:Nat}(h:RV m b s) (hi:i<s) (he:160≤e∧e≤165):aU (ab FN (k+10500)) 170 [.ref 5 0,aL b s,.int .i64 i,.int .i64 e] [(5,woC m v (.sl br z xs) r ok tb ts rb rs ta ra st dr)] H 10 lv c E (.tup []) 5 (woC (bj b (4+(e-160)) m i) v (.sl br z xs) r ok tb ts rb rs ta ra e dr):=by
 have c195:ad (ab FN (k+10499)) 195 [aq m,aL b s,.int .i64 i,.int .i64 e] (aq (bj b (4+(e-160)) m i)):=(Ae (k:=0) h hi he).fuel (by omega)
 generalize bj b (4+(e-160)) m i=M at *
 refine bY (by omega) rfl Yq fun T=>?_
 repeat (first | refine stN ?_ | intro E)
 apply ee (args:=[.ref 5 0,.int .i64 e]) (id:=5) (n0:=10) (H0:=ah [(5,woC m v (.sl br z xs) r ok tb ts rb rs ta ra st dr)] H) (os':=[(5,woC M v (.sl br z xs) r ok tb ts rb rs ta ra e dr)])
 ·exact rfl
 ·exact fun H E=>fJ rfl ((SG (k:=0) (by omega)).fuel (by omega))
 ·exact ⟨.inl ⟨rfl,rfl⟩,trivial⟩
 ·exact (by repeat (first | exact az.refl _ _ _ | refine az.cons ?_ rfl))
 ·omega
 intro H2 hS2
 repeat (first | refine stN ?_ | intro E)
 exact aQ (.inl rfl) rfl rfl rfl rfl rfl ⟨rfl,_,rfl,av rfl,hS2⟩
theorem abF {b s p:Nat}{cells:List AV}(hu:bJ 7 cells=true):aU (ab FN (k+1)) 121 [.ref 5 0,aL b s,.ref 5 p] [(5,cells)] H 7 lv c E (.fn 165 [] [.cp [.ref 5 0] 0,.cp [.int .u32 b,.int .u32 s] 0,.cp [.ref 5 p] 0]) 5 cells:=by
 refine bY (by omega) hu XZ fun T=>?_
 repeat (first | refine stN ?_ | intro E)
 refine aQ (.inr rfl) rfl rfl rfl ?_ rfl ⟨rfl,_,rfl,av rfl,(((az.refl _ _ _).upd (.inr (by omega))).upd (.inr (by omega))).upd (.inr (by omega))⟩
 rfl
end
end Go.Proofs.YtepcejdglbcbkaaGreat
