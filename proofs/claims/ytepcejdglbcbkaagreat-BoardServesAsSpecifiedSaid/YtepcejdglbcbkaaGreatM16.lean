/- Part of the texts on which proofs about this seat rest: each says what it proves at its own head. No condition. -/
import Derived.Test.YtepcejdglbcbkaaGreatM15
set_option linter.unusedVariables false
set_option linter.unusedSimpArgs false
set_option maxRecDepth 100000
/- What the functions of the memory come to. No condition. -/
namespace Go.Proofs.YtepcejdglbcbkaaGreat
open Go.Abs
variable {k:Nat}
theorem vS {bs:List UInt8}(h:VM bs):ad (ab FN (k+1)) 157 [aq bs] (.int .i64 bs.length):=by
 have hl:=h.le
 refine ak Bi fun T H E lv=>?_
 repeat (first | refine stN ?_ | intro E)
 refine ae (.inr rfl) rfl rfl rfl rfl ?_ rfl
 show AV.int _ _=_
 rw [List.length_map,w64 (by omega) (by omega)]
 congr 1;omega
theorem r6 {bs:List UInt8}(h:VM bs):ad (ab FN (k+1)) 159 [aq bs] (.int .i64 bs.length):=by
 have hl:=h.le
 refine ak Yf fun T H E lv=>?_
 repeat (first | refine stN ?_ | intro E)
 refine ae (.inr rfl) rfl rfl rfl rfl ?_ rfl
 show AV.int _ _=_
 rw [List.length_map,w64 (by omega) (by omega)]
 congr 1;omega
theorem R8 {bs:List UInt8}{a:Nat}(h:VM bs) (ha:a%4=0) (hb:a+4≤bs.length):ad (ab FN (k+2)) 208 [aq bs,.int .i64 a,.int .i64 4] (.bool true):=by
 have hl:=h.le
 have c157:=vS (k:=k) h
 have f1:aj .geq (.int .i64 (a:Int)) (.int .i64 0)=some (.bool true):=ot (by omega)
 have f2:aj .rem (.int .i64 (a:Int)) (.int .i64 4)=some (.int .i64 0):=kM (by omega) (by omega) (by omega)
 have f3:aj .sub (.int .i64 (bs.length:Int)) (.int .i64 4)=some (.int .i64 ((bs.length:Int)-4)):=fD rfl (by omega) (by omega)
 have f4:aj .leq (.int .i64 (a:Int)) (.int .i64 ((bs.length:Int)-4))=some (.bool true):=om (by omega)
 refine ak YR fun T H E lv=>?_
 repeat (first | refine stN ?_ | intro E)
 exact ae (.inr rfl) rfl rfl rfl rfl rfl rfl
theorem R9 {bs:List UInt8}{a:Nat}(h:VM bs) (ha:a%4=0) (hb:a+4≤bs.length):ad (ab FN (k+2)) 182 [aq bs,.int .i64 a,.int .i64 4] (.bool true):=by
 have hl:=h.le
 have c159:=r6 (k:=k) h
 have f1:aj .geq (.int .i64 (a:Int)) (.int .i64 0)=some (.bool true):=ot (by omega)
 have f2:aj .rem (.int .i64 (a:Int)) (.int .i64 4)=some (.int .i64 0):=kM (by omega) (by omega) (by omega)
 have f3:aj .sub (.int .i64 (bs.length:Int)) (.int .i64 4)=some (.int .i64 ((bs.length:Int)-4)):=fD rfl (by omega) (by omega)
 have f4:aj .leq (.int .i64 (a:Int)) (.int .i64 ((bs.length:Int)-4))=some (.bool true):=om (by omega)
 refine ak Yy fun T H E lv=>?_
 repeat (first | refine stN ?_ | intro E)
 exact ae (.inr rfl) rfl rfl rfl rfl rfl rfl
theorem r7 {bs:List UInt8}{a:Nat}(h:VM bs) (hb:a<bs.length):ad (ab FN (k+1)) 204 [aq bs,.int .i64 a] (.int .u8 (bt bs a)):=by
 have hl:=h.le
 have f1:aj .quo (.int .i64 (a:Int)) (.int .i64 128)=some (.int .i64 ((a/128:Nat):Int)):=ow (by omega) (by omega) (by omega) (by omega)
 have f2:aj .rem (.int .i64 (a:Int)) (.int .i64 128)=some (.int .i64 ((a%128:Nat):Int)):=kM (by omega) (by omega) (by omega)
 have f3:inB ((a/128:Nat):Int) ((bs.map ofB).length/128)=some (a/128):=fG (by rw [List.length_map];omega)
 have f4:inB ((a%128:Nat):Int) 128=some (a%128):=fG (by omega)
 have f5:rd (bs.map ofB) (a/128*128+a%128*1) 1 false=some (.int .u8 (bt bs a)):=by
  rw [show a/128*128+a%128*1=a by omega]
  simp only [rd,yi hb,Bool.false_eq_true,if_false];rfl
 refine ak YO fun T H E lv=>?_
 repeat (first | refine stN ?_ | intro E)
 exact ae (.inr rfl) rfl rfl rfl rfl rfl rfl
theorem vT {bs:List UInt8}{a:Nat}(h:VM bs) (ha:a%4=0) (hb:a+4≤bs.length):ad (ab FN (k+3)) 205 [aq bs,.int .i64 a,.int .i64 4] (.tup [.int .u32 (word bs a),.bool true]):=by
 have hl:=h.le
 have c208:=R8 (k:=k) h ha hb
 have f1:aj .quo (.int .i64 (a:Int)) (.int .i64 128)=some (.int .i64 ((a/128:Nat):Int)):=ow (by omega) (by omega) (by omega) (by omega)
 have f2:aj .rem (.int .i64 (a:Int)) (.int .i64 128)=some (.int .i64 ((a%128:Nat):Int)):=kM (by omega) (by omega) (by omega)
 have f3:inB ((a/128:Nat):Int) ((bs.map ofB).length/128)=some (a/128):=fG (by rw [List.length_map];omega)
 have f4:asB ((a%128:Nat):Int) 128=some (a%128):=ke (by omega)
 have f5:a%128≠128:=by omega
 have f6:a/128*128+128*1≤(bs.map ofB).length:=by rw [List.length_map];omega
 have hY:(((bs.map ofB).take (a/128*128+128*1)).drop (a/128*128+a%128*1)).length=128-a%128:=by
  rw [List.length_drop,List.length_take,List.length_map];omega
 have g0:inB 0 ((((bs.map ofB).take (a/128*128+128*1)).drop (a/128*128+a%128*1)).length/1)=some 0:=fG (j:=0) (by rw [hY];omega)
 have g1:inB 1 ((((bs.map ofB).take (a/128*128+128*1)).drop (a/128*128+a%128*1)).length/1)=some 1:=fG (j:=1) (by rw [hY];omega)
 have g2:inB 2 ((((bs.map ofB).take (a/128*128+128*1)).drop (a/128*128+a%128*1)).length/1)=some 2:=fG (j:=2) (by rw [hY];omega)
 have g3:inB 3 ((((bs.map ofB).take (a/128*128+128*1)).drop (a/128*128+a%128*1)).length/1)=some 3:=fG (j:=3) (by rw [hY];omega)
 have hr:∀ j,j<4→rd (((bs.map ofB).take (a/128*128+128*1)).drop (a/128*128+a%128*1)) j 1 false=some (.int .u8 (bt bs (a+j))):=by
  intro j hj
  simp only [rd,Bool.false_eq_true,if_false]
  rw [List.getElem?_drop,List.getElem?_take_of_lt (by omega),show a/128*128+a%128*1+j=a+j by omega,yi (by omega)]
  rfl
 have r0:=hr (0*1) (by omega)
 have r1:=hr (1*1) (by omega)
 have r2:=hr (2*1) (by omega)
 have r3:=hr (3*1) (by omega)
 clear hr
 have b0:=cY bs (a+0*1);have b1:=cY bs (a+1*1);have b2:=cY bs (a+2*1);have b3:=cY bs (a+3*1)
 have w0:IntKind.u32.wrap ((bt bs (a+0*1):Nat):Int)=(bt bs (a+0*1):Nat):=w32 (by omega) (by omega)
 have w1:IntKind.u32.wrap ((bt bs (a+1*1):Nat):Int)=(bt bs (a+1*1):Nat):=w32 (by omega) (by omega)
 have w2:IntKind.u32.wrap ((bt bs (a+2*1):Nat):Int)=(bt bs (a+2*1):Nat):=w32 (by omega) (by omega)
 have w3:IntKind.u32.wrap ((bt bs (a+3*1):Nat):Int)=(bt bs (a+3*1):Nat):=w32 (by omega) (by omega)
 have h1:aj .shl (.int .u32 (bt bs (a+1*1):Nat)) (.int .u64 8)=some (.int .u32 ((bt bs (a+1*1)*2 ^ 8:Nat):Int)):=er (s:=8) (by omega) (by omega) rfl
 have h2:aj .shl (.int .u32 (bt bs (a+2*1):Nat)) (.int .u64 16)=some (.int .u32 ((bt bs (a+2*1)*2 ^ 16:Nat):Int)):=er (s:=16) (by omega) (by omega) rfl
 have h3:aj .shl (.int .u32 (bt bs (a+3*1):Nat)) (.int .u64 24)=some (.int .u32 ((bt bs (a+3*1)*2 ^ 24:Nat):Int)):=er (s:=24) (by omega) (by omega) rfl
 have o1:aj .or (.int .u32 (bt bs (a+0*1):Nat)) (.int .u32 ((bt bs (a+1*1)*2 ^ 8:Nat):Int))=some (.int .u32 ((bt bs (a+0*1)+bt bs (a+1*1)*2 ^ 8:Nat):Int)):=kf (by omega) (by omega) rfl
 have o2:aj .or (.int .u32 ((bt bs (a+0*1)+bt bs (a+1*1)*2 ^ 8:Nat):Int)) (.int .u32 ((bt bs (a+2*1)*2 ^ 16:Nat):Int))=some (.int .u32 ((bt bs (a+0*1)+bt bs (a+1*1)*2 ^ 8+bt bs (a+2*1)*2 ^ 16:Nat):Int)):=kf (by omega) (by omega) rfl
 have o3:aj .or (.int .u32 ((bt bs (a+0*1)+bt bs (a+1*1)*2 ^ 8+bt bs (a+2*1)*2 ^ 16:Nat):Int)) (.int .u32 ((bt bs (a+3*1)*2 ^ 24:Nat):Int))=some (.int .u32 (word bs a)):=kf (by omega) (by omega) rfl
 refine ak YP fun T H E lv=>?_
 repeat (first | refine stN ?_ | intro E)
 exact ae (.inr rfl) rfl rfl rfl rfl rfl rfl
end Go.Proofs.YtepcejdglbcbkaaGreat
/- What a descriptor is read as. Condition: the memory is valid, the ring is there. -/
namespace Go.Proofs.YtepcejdglbcbkaaGreat
open Go.Abs
variable {k:Nat}
structure RV (bs:List UInt8) (b s:Nat):Prop where
 m:VM bs
 hs:s=1∨s=2∨s=4∨s=8
 hb:b%16=0
 le:b+16*s≤bs.length
theorem r8 {b s i j:Nat}(hb:b<8192) (hi:i<256) (hj:j<4):ad (ab FN (k+1)) 200 [aL b s,.int .i64 i,.int .i64 j] (.int .i64 ((b+16*i+4*j:Nat):Int)):=by
 have f0:IntKind.i64.wrap (b:Int)=b:=w64 (by omega) (by omega)
 have f1:aj .mul (.int .i64 16) (.int .i64 (i:Int))=some (.int .i64 ((16*i:Nat):Int)):=ov (by omega) (by omega) (by omega)
 have f2:aj .add (.int .i64 (b:Int)) (.int .i64 ((16*i:Nat):Int))=some (.int .i64 ((b+16*i:Nat):Int)):=fC (by omega) (by omega) (by omega)
 have f3:aj .mul (.int .i64 4) (.int .i64 (j:Int))=some (.int .i64 ((4*j:Nat):Int)):=ov (by omega) (by omega) (by omega)
 have f4:aj .add (.int .i64 ((b+16*i:Nat):Int)) (.int .i64 ((4*j:Nat):Int))=some (.int .i64 ((b+16*i+4*j:Nat):Int)):=fC (by omega) (by omega) (by omega)
 refine ak YK fun T H E lv=>?_
 repeat (first | refine stN ?_ | intro E)
 exact ae (.inr rfl) rfl rfl rfl rfl rfl rfl
def dw (bs:List UInt8) (b i j:Nat):Nat:=word bs (b+16*i+4*j)
theorem z8 {f:Nat}(h:f<4294967296):aj .and (.int .u32 f) (.int .u32 1)=some (.int .u32 ((f%2:Nat):Int)):=by
 have h1:(BitVec.ofInt IntKind.u32.bits (f:Int) &&& BitVec.ofInt IntKind.u32.bits 1).toNat=f%2:=by
  show (BitVec.ofInt 32 (f:Int) &&& BitVec.ofInt 32 ((1:Nat):Int)).toNat=_
  rw [BitVec.toNat_and,dm f h,dm 1 (by omega),Nat.and_one_is_mod]
 simp only [aj,reduceCtorEq,or_self,if_false,if_true,bC,h1]
 rw [w32 (by omega) (by omega)]
def Bx (bs:List UInt8) (b i:Nat):AV:=.agg [.int .i64 i,.int .i64 (dw bs b i 0),.int .i64 (dw bs b i 1),.bool (((dw bs b i 2%2:Nat):Int) != 0),.int .u32 (dw bs b i 2),.int .u32 (dw bs b i 3)]
theorem aaZ {bs:List UInt8}{b s i:Nat}(h:RV bs b s) (hi:i<s):ad (ab FN (k+8)) 191 [aq bs,aL b s,.int .i64 i] (Bx bs b i):=by
 have hl:=h.m.le
 have hs:=h.hs
 have hle:=h.le
 have hb16:=h.hb
 have p0:ad (ab FN (k+7)) 200 [aL b s,.int .i64 i,.int .i64 ((0:Nat):Int)] (.int .i64 ((b+16*i+4*0:Nat):Int)):=(r8 (k:=0) (by omega) (by omega) (by omega)).fuel (by omega)
 have p1:ad (ab FN (k+7)) 200 [aL b s,.int .i64 i,.int .i64 ((1:Nat):Int)] (.int .i64 ((b+16*i+4*1:Nat):Int)):=(r8 (k:=0) (by omega) (by omega) (by omega)).fuel (by omega)
 have p2:ad (ab FN (k+7)) 200 [aL b s,.int .i64 i,.int .i64 ((2:Nat):Int)] (.int .i64 ((b+16*i+4*2:Nat):Int)):=(r8 (k:=0) (by omega) (by omega) (by omega)).fuel (by omega)
 have p3:ad (ab FN (k+7)) 200 [aL b s,.int .i64 i,.int .i64 ((3:Nat):Int)] (.int .i64 ((b+16*i+4*3:Nat):Int)):=(r8 (k:=0) (by omega) (by omega) (by omega)).fuel (by omega)
 have l0:ad (ab FN (k+7)) 205 [aq bs,.int .i64 ((b+16*i+4*0:Nat):Int),.int .i64 4] (.tup [.int .u32 (dw bs b i 0),.bool true]):=(vT (k:=0) h.m (by omega) (by omega)).fuel (by omega)
 have l1:ad (ab FN (k+7)) 205 [aq bs,.int .i64 ((b+16*i+4*1:Nat):Int),.int .i64 4] (.tup [.int .u32 (dw bs b i 1),.bool true]):=(vT (k:=0) h.m (by omega) (by omega)).fuel (by omega)
 have l2:ad (ab FN (k+7)) 205 [aq bs,.int .i64 ((b+16*i+4*2:Nat):Int),.int .i64 4] (.tup [.int .u32 (dw bs b i 2),.bool true]):=(vT (k:=0) h.m (by omega) (by omega)).fuel (by omega)
 have l3:ad (ab FN (k+7)) 205 [aq bs,.int .i64 ((b+16*i+4*3:Nat):Int),.int .i64 4] (.tup [.int .u32 (dw bs b i 3),.bool true]):=(vT (k:=0) h.m (by omega) (by omega)).fuel (by omega)
 have q0:=fH bs (b+16*i+4*0);have q1:=fH bs (b+16*i+4*1);have q2:=fH bs (b+16*i+4*2)
 have w0:IntKind.i64.wrap ((dw bs b i 0:Nat):Int)=(dw bs b i 0:Nat):=w64 (by omega) (by unfold dw;omega)
 have w1:IntKind.i64.wrap ((dw bs b i 1:Nat):Int)=(dw bs b i 1:Nat):=w64 (by omega) (by unfold dw;omega)
 have a1:aj .and (.int .u32 (dw bs b i 2:Nat)) (.int .u32 1)=some (.int .u32 ((dw bs b i 2%2:Nat):Int)):=z8 (by unfold dw;omega)
 refine ak YD fun T H E lv=>?_
 repeat (first | refine stN ?_ | intro E)
 refine aW (α:=Nat) (a8.mk (fun j=>j≤4) (fun j=>4-j) (fun j=>[(9,.int .i64 (j:Int)),(3,.ref 0 0),(4,.ref 1 0),(2,.int .i64 i),(6,.ref 2 0),(7,.ref 3 0)])
  (fun j=>[(0,[csl 128 (bs.map ofB)]),(1,[.int .u32 b,.int .u32 s]),(2,[.int .i64 0,.int .i64 0,.int .i64 0,.bool false,.int .u32 0,.int .u32 0]),
   (3,[.int .u32 (if 0<j then (dw bs b i 0:Int) else 0),.int .u32 (if 1<j then (dw bs b i 1:Int) else 0),.int .u32 (if 2<j then (dw bs b i 2:Int) else 0),.int .u32 (if 3<j then (dw bs b i 3:Int) else 0)])]))
  (fun _ _ c=>c=4) 0 (show 0≤4 by omega) rfl (show 4-0<k+7 by omega) ⟨rfl,rfl,rfl,rfl,rfl,rfl,trivial⟩ ⟨rfl,rfl,rfl,rfl,trivial⟩ ?_
 rintro j lv c T H E hP rfl hμ
 have hj:j=0∨j=1∨j=2∨j=3∨j=4:=by have:j≤4:=hP;omega
 clear hP hμ
 rcases hj with rfl | rfl | rfl | rfl | rfl
 ·repeat (first | refine stN ?_ | intro E)
  exact aB 1 (show 1≤4 by omega) rfl (show 4-1<4-0 by omega) ⟨rfl,rfl,rfl,rfl,rfl,rfl,trivial⟩ ⟨⟨rfl,rfl⟩,⟨rfl,rfl⟩,⟨rfl,rfl⟩,⟨rfl,rfl⟩,trivial⟩
 ·repeat (first | refine stN ?_ | intro E)
  exact aB 2 (show 2≤4 by omega) rfl (show 4-2<4-1 by omega) ⟨rfl,rfl,rfl,rfl,rfl,rfl,trivial⟩ ⟨⟨rfl,rfl⟩,⟨rfl,rfl⟩,⟨rfl,rfl⟩,⟨rfl,rfl⟩,trivial⟩
 ·repeat (first | refine stN ?_ | intro E)
  exact aB 3 (show 3≤4 by omega) rfl (show 4-3<4-2 by omega) ⟨rfl,rfl,rfl,rfl,rfl,rfl,trivial⟩ ⟨⟨rfl,rfl⟩,⟨rfl,rfl⟩,⟨rfl,rfl⟩,⟨rfl,rfl⟩,trivial⟩
 ·repeat (first | refine stN ?_ | intro E)
  exact aB 4 (show 4≤4 by omega) rfl (show 4-4<4-3 by omega) ⟨rfl,rfl,rfl,rfl,rfl,rfl,trivial⟩ ⟨⟨rfl,rfl⟩,⟨rfl,rfl⟩,⟨rfl,rfl⟩,⟨rfl,rfl⟩,trivial⟩
 ·repeat (first | refine stN ?_ | intro E)
  apply aN
  apply aM
  simp only [Nat.reduceLT,if_true]
  repeat (first | refine stN ?_ | intro E)
  exact ae (.inr rfl) rfl rfl rfl rfl rfl rfl
end Go.Proofs.YtepcejdglbcbkaaGreat
/- The reference's words. Condition: the memory is valid, the ring is there. -/
namespace Go.Proofs.YtepcejdglbcbkaaGreat
open Go.Abs
variable {k:Nat}
theorem mG {x y s:Nat}{r:Int}(hx:x<2 ^ s) (h:x+y*2 ^ s<4294967296) (hr:r=((y*2 ^ s+x:Nat):Int)):aj .or (.int .u32 ((y*2 ^ s:Nat):Int)) (.int .u32 x)=some (.int .u32 r):=by
 subst hr
 have h1:(BitVec.ofInt IntKind.u32.bits ((y*2 ^ s:Nat):Int) ||| BitVec.ofInt IntKind.u32.bits (x:Int)).toNat=y*2 ^ s+x:=by
  show (BitVec.ofInt 32 ((y*2 ^ s:Nat):Int) ||| BitVec.ofInt 32 (x:Int)).toNat=_
  rw [BitVec.toNat_or,dm x (by omega),dm (y*2 ^ s) (by omega),Nat.mul_comm y,← Nat.two_pow_add_eq_or_of_lt hx]
 simp only [aj,reduceCtorEq,or_self,if_false,if_true,bC,h1]
 rw [w32 (by omega) (by omega)]
def hiw (bs:List UInt8) (a:Nat):Nat→Nat
 | 0=>0
 | j+1=>hiw bs a j*2 ^ 8+bt bs (a+(3-j))
theorem Sa (bs:List UInt8) (a:Nat):hiw bs a 1<2 ^ 8∧hiw bs a 2<2 ^ 16∧hiw bs a 3<2 ^ 24∧hiw bs a 4=word bs a:=by
 have h0:=cY bs (a+(3-0));have h1:=cY bs (a+(3-1));have h2:=cY bs (a+(3-2));have h3:=cY bs (a+(3-3))
 simp only [hiw,word]
 refine ⟨by omega,by omega,by omega,?_⟩
 simp only [Nat.sub_zero,Nat.reduceSub,Nat.add_zero]
 omega
theorem aa0 {bs:List UInt8}{a:Nat}(h:VM bs) (ha:a%4=0) (hb:a+4≤bs.length):ad (ab FN (k+8)) 201 [aq bs,.int .i64 a,.int .i64 4] (.agg [.int .u32 (word bs a),.bool true]):=by
 have hl:=h.le
 have c182:ad (ab FN (k+7)) 182 [aq bs,.int .i64 a,.int .i64 4] (.bool true):=(R9 (k:=0) h ha hb).fuel (by omega)
 have e0:ad (ab FN (k+7)) 204 [aq bs,.int .i64 ((a+3:Nat):Int)] (.int .u8 (bt bs (a+(3-0)))):=(r7 (k:=0) h (by omega)).fuel (by omega)
 have e1:ad (ab FN (k+7)) 204 [aq bs,.int .i64 ((a+2:Nat):Int)] (.int .u8 (bt bs (a+(3-1)))):=(r7 (k:=0) h (by omega)).fuel (by omega)
 have e2:ad (ab FN (k+7)) 204 [aq bs,.int .i64 ((a+1:Nat):Int)] (.int .u8 (bt bs (a+(3-2)))):=(r7 (k:=0) h (by omega)).fuel (by omega)
 have e3:ad (ab FN (k+7)) 204 [aq bs,.int .i64 ((a+0:Nat):Int)] (.int .u8 (bt bs (a+(3-3)))):=(r7 (k:=0) h (by omega)).fuel (by omega)
 have g0:aj .add (.int .i64 (a:Int)) (.int .i64 3)=some (.int .i64 ((a+3:Nat):Int)):=fC (by omega) (by omega) (by omega)
 have g1:aj .add (.int .i64 (a:Int)) (.int .i64 2)=some (.int .i64 ((a+2:Nat):Int)):=fC (by omega) (by omega) (by omega)
 have g2:aj .add (.int .i64 (a:Int)) (.int .i64 1)=some (.int .i64 ((a+1:Nat):Int)):=fC (by omega) (by omega) (by omega)
 have g3:aj .add (.int .i64 (a:Int)) (.int .i64 0)=some (.int .i64 ((a+0:Nat):Int)):=fC (by omega) (by omega) (by omega)
 have m0:aj .sub (.int .i64 4) (.int .i64 1)=some (.int .i64 3):=fD rfl (by omega) (by omega)
 have m1:aj .sub (.int .i64 3) (.int .i64 1)=some (.int .i64 2):=fD rfl (by omega) (by omega)
 have m2:aj .sub (.int .i64 2) (.int .i64 1)=some (.int .i64 1):=fD rfl (by omega) (by omega)
 have m3:aj .sub (.int .i64 1) (.int .i64 1)=some (.int .i64 0):=fD rfl (by omega) (by omega)
 have m4:aj .sub (.int .i64 0) (.int .i64 1)=some (.int .i64 (-1)):=fD rfl (by omega) (by omega)
 have b0:=cY bs (a+(3-0));have b1:=cY bs (a+(3-1));have b2:=cY bs (a+(3-2));have b3:=cY bs (a+(3-3))
 obtain ⟨x1,x2,x3,x4⟩:=Sa bs a
 have w0:IntKind.u32.wrap ((bt bs (a+(3-0)):Nat):Int)=(bt bs (a+(3-0)):Nat):=w32 (by omega) (by omega)
 have w1:IntKind.u32.wrap ((bt bs (a+(3-1)):Nat):Int)=(bt bs (a+(3-1)):Nat):=w32 (by omega) (by omega)
 have w2:IntKind.u32.wrap ((bt bs (a+(3-2)):Nat):Int)=(bt bs (a+(3-2)):Nat):=w32 (by omega) (by omega)
 have w3:IntKind.u32.wrap ((bt bs (a+(3-3)):Nat):Int)=(bt bs (a+(3-3)):Nat):=w32 (by omega) (by omega)
 have l0:aj .shl (.int .u32 ((hiw bs a 0:Nat):Int)) (.int .u64 8)=some (.int .u32 ((hiw bs a 0*2 ^ 8:Nat):Int)):=er (s:=8) (by omega) (by simp [hiw]) rfl
 have l1:aj .shl (.int .u32 ((hiw bs a 1:Nat):Int)) (.int .u64 8)=some (.int .u32 ((hiw bs a 1*2 ^ 8:Nat):Int)):=er (s:=8) (by omega) (by omega) rfl
 have l2:aj .shl (.int .u32 ((hiw bs a 2:Nat):Int)) (.int .u64 8)=some (.int .u32 ((hiw bs a 2*2 ^ 8:Nat):Int)):=er (s:=8) (by omega) (by omega) rfl
 have l3:aj .shl (.int .u32 ((hiw bs a 3:Nat):Int)) (.int .u64 8)=some (.int .u32 ((hiw bs a 3*2 ^ 8:Nat):Int)):=er (s:=8) (by omega) (by omega) rfl
 have o0:aj .or (.int .u32 ((hiw bs a 0*2 ^ 8:Nat):Int)) (.int .u32 (bt bs (a+(3-0)):Nat))=some (.int .u32 ((hiw bs a 1:Nat):Int)):=mG (by omega) (by have:hiw bs a 0=0:=rfl;rw [this];omega) rfl
 have o1:aj .or (.int .u32 ((hiw bs a 1*2 ^ 8:Nat):Int)) (.int .u32 (bt bs (a+(3-1)):Nat))=some (.int .u32 ((hiw bs a 2:Nat):Int)):=mG (by omega) (by omega) rfl
 have o2:aj .or (.int .u32 ((hiw bs a 2*2 ^ 8:Nat):Int)) (.int .u32 (bt bs (a+(3-2)):Nat))=some (.int .u32 ((hiw bs a 3:Nat):Int)):=mG (by omega) (by omega) rfl
 have o3:aj .or (.int .u32 ((hiw bs a 3*2 ^ 8:Nat):Int)) (.int .u32 (bt bs (a+(3-3)):Nat))=some (.int .u32 ((hiw bs a 4:Nat):Int)):=mG (by omega) (by omega) rfl
 refine ak YL fun T H E lv=>?_
 repeat (first | refine stN ?_ | intro E)
 refine aW (α:=Nat×Int) (a8.mk (fun p=>p.1≤4∧p.2=3-p.1) (fun p=>4-p.1) (fun p=>[(9,.int .i64 p.2),(3,.ref 0 0),(1,.int .i64 a),(2,.int .i64 4),(6,.ref 1 0),(8,.int .u32 ((hiw bs a p.1:Nat):Int))])
  (fun _=>[(0,[csl 128 (bs.map ofB)]),(1,[.int .u32 0,.bool false])]))
  (fun _ _ c=>c=4) (0,3) (show 0≤4∧(3:Int)=3-(0:Nat) by omega) rfl (show 4-0<k+7 by omega) ⟨rfl,rfl,rfl,rfl,rfl,rfl,trivial⟩ ⟨rfl,rfl,trivial⟩ ?_
 rintro ⟨j,i⟩ lv c T H E hP rfl hμ
 have hP:j≤4∧i=3-j:=hP
 have hj:(j=0∧i=3)∨(j=1∧i=2)∨(j=2∧i=1)∨(j=3∧i=0)∨(j=4∧i = -1):=by omega
 clear hP hμ
 rcases hj with ⟨rfl,rfl⟩ | ⟨rfl,rfl⟩ | ⟨rfl,rfl⟩ | ⟨rfl,rfl⟩ | ⟨rfl,rfl⟩<;>dsimp only
 ·repeat (first | refine stN ?_ | intro E)
  exact aB (1,2) (show 1≤4∧(2:Int)=3-(1:Nat) by omega) rfl (show 4-1<4-0 by omega) ⟨rfl,rfl,rfl,rfl,rfl,rfl,trivial⟩ ⟨⟨rfl,rfl⟩,⟨rfl,rfl⟩,trivial⟩
 ·repeat (first | refine stN ?_ | intro E)
  exact aB (2,1) (show 2≤4∧(1:Int)=3-(2:Nat) by omega) rfl (show 4-2<4-1 by omega) ⟨rfl,rfl,rfl,rfl,rfl,rfl,trivial⟩ ⟨⟨rfl,rfl⟩,⟨rfl,rfl⟩,trivial⟩
 ·repeat (first | refine stN ?_ | intro E)
  exact aB (3,0) (show 3≤4∧(0:Int)=3-(3:Nat) by omega) rfl (show 4-3<4-2 by omega) ⟨rfl,rfl,rfl,rfl,rfl,rfl,trivial⟩ ⟨⟨rfl,rfl⟩,⟨rfl,rfl⟩,trivial⟩
 ·repeat (first | refine stN ?_ | intro E)
  exact aB (4,-1) (show 4≤4∧(-1:Int)=3-(4:Nat) by omega) rfl (show 4-4<4-3 by omega) ⟨rfl,rfl,rfl,rfl,rfl,rfl,trivial⟩ ⟨⟨rfl,rfl⟩,⟨rfl,rfl⟩,trivial⟩
 ·repeat (first | refine stN ?_ | intro E)
  apply aN
  apply aM
  repeat (first | refine stN ?_ | intro E)
  rw [x4]
  exact ae (.inr rfl) rfl rfl rfl rfl rfl rfl
theorem kR {bs:List UInt8}{b s i j:Nat}(h:RV bs b s) (hi:i<s) (hj:j<4):ad (ab FN (k+9)) 177 [aq bs,aL b s,.int .i64 i,.int .i64 j] (.int .i64 (dw bs b i j)):=by
 have hl:=h.m.le
 have hs:=h.hs
 have hle:=h.le
 have hb16:=h.hb
 have c201:ad (ab FN (k+8)) 201 [aq bs,.int .i64 ((b+16*i+4*j:Nat):Int),.int .i64 4] (.agg [.int .u32 (dw bs b i j),.bool true]):=aa0 h.m (by omega) (by omega)
 have f0:IntKind.i64.wrap (b:Int)=b:=w64 (by omega) (by omega)
 have f1:aj .mul (.int .i64 16) (.int .i64 (i:Int))=some (.int .i64 ((16*i:Nat):Int)):=ov (by omega) (by omega) (by omega)
 have f2:aj .add (.int .i64 (b:Int)) (.int .i64 ((16*i:Nat):Int))=some (.int .i64 ((b+16*i:Nat):Int)):=fC (by omega) (by omega) (by omega)
 have f3:aj .mul (.int .i64 4) (.int .i64 (j:Int))=some (.int .i64 ((4*j:Nat):Int)):=ov (by omega) (by omega) (by omega)
 have f4:aj .add (.int .i64 ((b+16*i:Nat):Int)) (.int .i64 ((4*j:Nat):Int))=some (.int .i64 ((b+16*i+4*j:Nat):Int)):=fC (by omega) (by omega) (by omega)
 have hw:=fH bs (b+16*i+4*j)
 have f5:IntKind.i64.wrap ((dw bs b i j:Nat):Int)=(dw bs b i j:Nat):=w64 (by omega) (by unfold dw;omega)
 refine ak Yu fun T H E lv=>?_
 repeat (first | refine stN ?_ | intro E)
 exact ae (.inr rfl) rfl rfl rfl rfl rfl rfl
end Go.Proofs.YtepcejdglbcbkaaGreat
