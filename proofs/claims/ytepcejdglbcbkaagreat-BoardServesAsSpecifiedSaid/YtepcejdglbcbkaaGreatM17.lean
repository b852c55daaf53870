/- Part of the texts on which proofs about this seat rest: each says what it proves at its own head. No condition. -/
import Derived.Test.YtepcejdglbcbkaaGreatM16
set_option linter.unusedVariables false
set_option linter.unusedSimpArgs false
set_option maxRecDepth 100000
/- Bytes are put into pages that are written in place: the method 'put', at the two places from which it is called. Condition: the bytes fit. -/
namespace Go.Proofs.YtepcejdglbcbkaaGreat
open Go.Abs
variable {k:Nat}
def bD (bs:List UInt8) (a:Nat) (ys:List UInt8):List UInt8:=bs.take a++ys++bs.drop (a+ys.length)
theorem ef {bs ys:List UInt8}{a:Nat}(h:a+ys.length≤bs.length):(bD bs a ys).length=bs.length:=by
 simp only [bD,List.length_append,List.length_take,List.length_drop];omega
theorem nz (bs:List UInt8) (a:Nat):bD bs a []=bs:=by simp [bD]
theorem r9 {bs:List UInt8}{a m:Nat}{ys:List UInt8}(h:a+ys.length≤bs.length) (hm:m≤ys.length):bD (bD bs a (ys.take m)) (a+m) (ys.drop m)=bD bs a ys:=by
 have hl:(ys.take m).length=m:=by rw [List.length_take];omega
 have h1:(bs.take a).length=a:=by rw [List.length_take];omega
 simp only [bD,hl]
 have e1:(bs.take a++ys.take m++bs.drop (a+m)).take (a+m)=bs.take a++ys.take m:=by
  rw [List.take_append_of_le_length (by rw [List.length_append,h1,hl];omega),List.take_of_length_le (by rw [List.length_append,h1,hl];omega)]
 have e2:(bs.take a++ys.take m++bs.drop (a+m)).drop (a+m+(ys.drop m).length)=bs.drop (a+ys.length):=by
  rw [List.drop_append,List.length_append,h1,hl,List.drop_eq_nil_of_le (by rw [List.length_append,h1,hl];omega),List.nil_append,List.drop_drop,List.length_drop]
  congr 1;omega
 rw [e1,e2]
 simp only [List.append_assoc]
 rw [← List.append_assoc (ys.take m),List.take_append_drop]
theorem oH (bs ys:List UInt8) (a:Nat):cd (bs.map ofB) a (ys.map ofB)=(bD bs a ys).map ofB:=by
 simp [cd,bD,List.map_take,List.map_drop]
def GB (br s0:Nat) (ys:List UInt8):Prop:=(br=1∧s0=csz 1 (ys.map ofB))∨(br=3∧s0=1)∨(br=4∧s0=1)
theorem GB.len {br s0:Nat}{ys:List UInt8}(h:GB br s0 ys):s0=1∨ys.map ofB=[]:=by
 rcases h with ⟨_,rfl⟩ | ⟨_,rfl⟩ | ⟨_,rfl⟩
 ·exact dD _ _
 ·exact .inl rfl
 ·exact .inl rfl
theorem ab2 {bs ys:List UInt8}{a br s0 L c:Nat}{os:List (Nat×List AV)}{H:Hp}{E:Nat→Option TypeId}{lv:Nat→Bool}(hle:a+ys.length≤bs.length) (hL:bs.length=128*L) (hmax:bs.length≤8192) (hbr:GB br s0 ys) (ho:lkO os 2=some (bs.map ofB)) :
 aU (ab FN (k+10000)) 199 [.agg [.osl 2 0 L 128],.int .i64 a,.sl br s0 (ys.map ofB)] os H 4 lv c E (.tup []) 2 ((bD bs a ys).map ofB):=by
 refine bY (by omega) (cO _ _) Bj fun T=>?_
 repeat (first | refine stN ?_ | intro E)
 refine tQ (α:=Nat×List UInt8×List UInt8×Nat×Nat)
  (a8.mk (fun p=>p.1+p.2.1.length≤bs.length∧p.2.2.1.length=bs.length∧GB p.2.2.2.1 p.2.2.2.2 p.2.1∧bD p.2.2.1 p.1 p.2.1=bD bs a ys) (fun p=>p.2.1.length)
   (fun p=>[(1,.int .i64 (p.1:Int)),(2,.sl p.2.2.2.1 p.2.2.2.2 (p.2.1.map ofB)),(3,.ref 4 0)]) (fun p=>[(4,[.osl 2 0 L 128]),(2,p.2.2.1.map ofB)]))
  (az 4 2 (ah os H)) (a,ys,bs,br,s0) ⟨hle,rfl,hbr,rfl⟩ ((az.refl _ _ _).upd (.inr (Nat.le_refl _))) (show ys.length<k+9999 by omega) ⟨rfl,rfl,rfl,trivial⟩ ⟨rfl,ho,trivial⟩ ?_
 rintro ⟨a',ys',bs',br',s0'⟩ T H' E' hP hR hμ
 obtain ⟨p1,p2,p3,p4⟩:a'+ys'.length≤bs.length∧bs'.length=bs.length∧GB br' s0' ys'∧bD bs' a' ys'=bD bs a ys:=hP
 have hlen:=p3.len
 dsimp only at hR hμ ⊢
 by_cases hy:ys'=[]
 ·subst hy
  have f1:aj .gtr (.int .i64 ((((List.map ofB []).length/1:Nat):Int))) (.int .i64 0)=some (.bool false):=oq (by simp)
  repeat (first | refine stN ?_ | intro E)
  apply tR
  apply aM
  refine aQ (.inl rfl) rfl rfl rfl rfl rfl ⟨rfl,_,rfl,?_,?_⟩
  ·rw [← p4,nz];exact av rfl
  ·exact hR
 ·have hpos:0<ys'.length:=List.length_pos_iff.2 hy
  have f1:aj .gtr (.int .i64 (((ys'.map ofB).length/1:Nat):Int)) (.int .i64 0)=some (.bool true):=oo (by rw [List.length_map];omega)
  have f2:aj .quo (.int .i64 (a':Int)) (.int .i64 128)=some (.int .i64 ((a'/128:Nat):Int)):=ow (by omega) (by omega) (by omega) (by omega)
  have f3:aj .rem (.int .i64 (a':Int)) (.int .i64 128)=some (.int .i64 ((a'%128:Nat):Int)):=kM (by omega) (by omega) (by omega)
  have f4:inB ((a'/128:Nat):Int) L=some (a'/128):=fG (by omega)
  have f5:asB ((a'%128:Nat):Int) 128=some (a'%128):=ke (by omega)
  have f6:a'%128≠128:=by omega
  obtain ⟨m,hm⟩:∃ m,m=min ((ys'.map ofB).length/1) (128-a'%128):=⟨_,rfl⟩
  have hm1:1≤m∧m≤ys'.length:=by rw [hm,List.length_map];omega
  have f7:aj .add (.int .i64 (a':Int)) (.int .i64 (m:Int))=some (.int .i64 ((a'+m:Nat):Int)):=fC (by omega) (by omega) (by omega)
  have f8:asB (m:Int) ((ys'.map ofB).length/1)=some m:=ke (by rw [List.length_map];omega)
  have hcell:cd (bs'.map ofB) (0+a'/128*128+a'%128*1) ((ys'.map ofB).take (m*1))=(bD bs' a' (ys'.take m)).map ofB:=by
   rw [show 0+a'/128*128+a'%128*1=a' by omega,Nat.mul_one,← List.map_take,oH]
  have hdrop:((ys'.map ofB).take ((ys'.map ofB).length/1*1)).drop (m*1)=(ys'.drop m).map ofB:=by
   rw [Nat.div_one,Nat.mul_one,Nat.mul_one,List.take_length,List.map_drop]
  have q1:a'+m+(ys'.drop m).length≤bs.length:=by rw [List.length_drop];omega
  have q2:(bD bs' a' (ys'.take m)).length=bs.length:=by rw [ef (by rw [List.length_take];omega),p2]
  have q3:bD (bD bs' a' (ys'.take m)) (a'+m) (ys'.drop m)=bD bs a ys:=by rw [r9 (by omega) hm1.2,p4]
  have q4:(ys'.drop m).length<ys'.length:=by rw [List.length_drop];omega
  repeat (first | refine stN ?_ | intro E)
  refine A1 rfl rfl (fun H=>if_pos hlen) rfl (by omega) (by rw [List.length_map];omega) ?_
  rw [← hm,hcell]
  repeat (first | refine stN ?_ | intro E)
  rcases p3 with ⟨rfl,rfl⟩ | ⟨rfl,rfl⟩ | ⟨rfl,rfl⟩
  ·refine iZ rfl ((dD _ _).imp id fun h=>⟨h,by omega⟩) rfl f8 (.inl rfl) ?_
   rw [hdrop]
   repeat (first | refine stN ?_ | intro E)
   exact jd (a'+m,ys'.drop m,bD bs' a' (ys'.take m),1,csz 1 ((ys'.drop m).map ofB)) ⟨q1,q2,.inl ⟨rfl,rfl⟩,q3⟩ (((hR.upd (.inl rfl)).keep (by omega))) q4 ⟨rfl,rfl,rfl,trivial⟩ ⟨⟨rfl,rfl⟩,⟨rfl,cO _ _⟩,trivial⟩
  ·refine jC rfl rfl f8 ?_
   rw [hdrop]
   repeat (first | refine stN ?_ | intro E)
   exact jd (a'+m,ys'.drop m,bD bs' a' (ys'.take m),3,1) ⟨q1,q2,.inr (.inl ⟨rfl,rfl⟩),q3⟩ (((hR.upd (.inl rfl)).keep (by omega))) q4 ⟨rfl,rfl,rfl,trivial⟩ ⟨⟨rfl,rfl⟩,⟨rfl,cO _ _⟩,trivial⟩
  ·refine iZ rfl (.inl rfl) rfl f8 (.inr ⟨by omega,by omega,by omega⟩) ?_
   rw [hdrop]
   repeat (first | refine stN ?_ | intro E)
   exact jd (a'+m,ys'.drop m,bD bs' a' (ys'.take m),1,csz 1 ((ys'.drop m).map ofB)) ⟨q1,q2,.inl ⟨rfl,rfl⟩,q3⟩ (((hR.upd (.inl rfl)).keep (by omega))) q4 ⟨rfl,rfl,rfl,trivial⟩ ⟨⟨rfl,rfl⟩,⟨rfl,cO _ _⟩,trivial⟩
theorem Sb {bs ys:List UInt8}{a br s0 L c:Nat}{os:List (Nat×List AV)}{H:Hp}{E:Nat→Option TypeId}{lv:Nat→Bool}(hle:a+ys.length≤bs.length) (hL:bs.length=128*L) (hmax:bs.length≤8192) (hbr:GB br s0 ys) (ho:lkO os 2=some (bs.map ofB)) :
 aU (ab FN (k+10000)) 199 [.agg [.osl 2 0 L 128],.int .i64 a,.sl br s0 (ys.map ofB)] os H 7 lv c E (.tup []) 2 ((bD bs a ys).map ofB):=by
 refine bY (by omega) (cO _ _) Bj fun T=>?_
 repeat (first | refine stN ?_ | intro E)
 refine tQ (α:=Nat×List UInt8×List UInt8×Nat×Nat)
  (a8.mk (fun p=>p.1+p.2.1.length≤bs.length∧p.2.2.1.length=bs.length∧GB p.2.2.2.1 p.2.2.2.2 p.2.1∧bD p.2.2.1 p.1 p.2.1=bD bs a ys) (fun p=>p.2.1.length)
   (fun p=>[(1,.int .i64 (p.1:Int)),(2,.sl p.2.2.2.1 p.2.2.2.2 (p.2.1.map ofB)),(3,.ref 7 0)]) (fun p=>[(7,[.osl 2 0 L 128]),(2,p.2.2.1.map ofB)]))
  (az 7 2 (ah os H)) (a,ys,bs,br,s0) ⟨hle,rfl,hbr,rfl⟩ ((az.refl _ _ _).upd (.inr (Nat.le_refl _))) (show ys.length<k+9999 by omega) ⟨rfl,rfl,rfl,trivial⟩ ⟨rfl,ho,trivial⟩ ?_
 rintro ⟨a',ys',bs',br',s0'⟩ T H' E' hP hR hμ
 obtain ⟨p1,p2,p3,p4⟩:a'+ys'.length≤bs.length∧bs'.length=bs.length∧GB br' s0' ys'∧bD bs' a' ys'=bD bs a ys:=hP
 have hlen:=p3.len
 dsimp only at hR hμ ⊢
 by_cases hy:ys'=[]
 ·subst hy
  have f1:aj .gtr (.int .i64 ((((List.map ofB []).length/1:Nat):Int))) (.int .i64 0)=some (.bool false):=oq (by simp)
  repeat (first | refine stN ?_ | intro E)
  apply tR
  apply aM
  refine aQ (.inl rfl) rfl rfl rfl rfl rfl ⟨rfl,_,rfl,?_,?_⟩
  ·rw [← p4,nz];exact av rfl
  ·exact hR
 ·have hpos:0<ys'.length:=List.length_pos_iff.2 hy
  have f1:aj .gtr (.int .i64 (((ys'.map ofB).length/1:Nat):Int)) (.int .i64 0)=some (.bool true):=oo (by rw [List.length_map];omega)
  have f2:aj .quo (.int .i64 (a':Int)) (.int .i64 128)=some (.int .i64 ((a'/128:Nat):Int)):=ow (by omega) (by omega) (by omega) (by omega)
  have f3:aj .rem (.int .i64 (a':Int)) (.int .i64 128)=some (.int .i64 ((a'%128:Nat):Int)):=kM (by omega) (by omega) (by omega)
  have f4:inB ((a'/128:Nat):Int) L=some (a'/128):=fG (by omega)
  have f5:asB ((a'%128:Nat):Int) 128=some (a'%128):=ke (by omega)
  have f6:a'%128≠128:=by omega
  obtain ⟨m,hm⟩:∃ m,m=min ((ys'.map ofB).length/1) (128-a'%128):=⟨_,rfl⟩
  have hm1:1≤m∧m≤ys'.length:=by rw [hm,List.length_map];omega
  have f7:aj .add (.int .i64 (a':Int)) (.int .i64 (m:Int))=some (.int .i64 ((a'+m:Nat):Int)):=fC (by omega) (by omega) (by omega)
  have f8:asB (m:Int) ((ys'.map ofB).length/1)=some m:=ke (by rw [List.length_map];omega)
  have hcell:cd (bs'.map ofB) (0+a'/128*128+a'%128*1) ((ys'.map ofB).take (m*1))=(bD bs' a' (ys'.take m)).map ofB:=by
   rw [show 0+a'/128*128+a'%128*1=a' by omega,Nat.mul_one,← List.map_take,oH]
  have hdrop:((ys'.map ofB).take ((ys'.map ofB).length/1*1)).drop (m*1)=(ys'.drop m).map ofB:=by
   rw [Nat.div_one,Nat.mul_one,Nat.mul_one,List.take_length,List.map_drop]
  have q1:a'+m+(ys'.drop m).length≤bs.length:=by rw [List.length_drop];omega
  have q2:(bD bs' a' (ys'.take m)).length=bs.length:=by rw [ef (by rw [List.length_take];omega),p2]
  have q3:bD (bD bs' a' (ys'.take m)) (a'+m) (ys'.drop m)=bD bs a ys:=by rw [r9 (by omega) hm1.2,p4]
  have q4:(ys'.drop m).length<ys'.length:=by rw [List.length_drop];omega
  repeat (first | refine stN ?_ | intro E)
  refine A1 rfl rfl (fun H=>if_pos hlen) rfl (by omega) (by rw [List.length_map];omega) ?_
  rw [← hm,hcell]
  repeat (first | refine stN ?_ | intro E)
  rcases p3 with ⟨rfl,rfl⟩ | ⟨rfl,rfl⟩ | ⟨rfl,rfl⟩
  ·refine iZ rfl ((dD _ _).imp id fun h=>⟨h,by omega⟩) rfl f8 (.inl rfl) ?_
   rw [hdrop]
   repeat (first | refine stN ?_ | intro E)
   exact jd (a'+m,ys'.drop m,bD bs' a' (ys'.take m),1,csz 1 ((ys'.drop m).map ofB)) ⟨q1,q2,.inl ⟨rfl,rfl⟩,q3⟩ (((hR.upd (.inl rfl)).keep (by omega))) q4 ⟨rfl,rfl,rfl,trivial⟩ ⟨⟨rfl,rfl⟩,⟨rfl,cO _ _⟩,trivial⟩
  ·refine jC rfl rfl f8 ?_
   rw [hdrop]
   repeat (first | refine stN ?_ | intro E)
   exact jd (a'+m,ys'.drop m,bD bs' a' (ys'.take m),3,1) ⟨q1,q2,.inr (.inl ⟨rfl,rfl⟩),q3⟩ (((hR.upd (.inl rfl)).keep (by omega))) q4 ⟨rfl,rfl,rfl,trivial⟩ ⟨⟨rfl,rfl⟩,⟨rfl,cO _ _⟩,trivial⟩
  ·refine iZ rfl (.inl rfl) rfl f8 (.inr ⟨by omega,by omega,by omega⟩) ?_
   rw [hdrop]
   repeat (first | refine stN ?_ | intro E)
   exact jd (a'+m,ys'.drop m,bD bs' a' (ys'.take m),1,csz 1 ((ys'.drop m).map ofB)) ⟨q1,q2,.inl ⟨rfl,rfl⟩,q3⟩ (((hR.upd (.inl rfl)).keep (by omega))) q4 ⟨rfl,rfl,rfl,trivial⟩ ⟨⟨rfl,rfl⟩,⟨rfl,cO _ _⟩,trivial⟩
end Go.Proofs.YtepcejdglbcbkaaGreat
/- A word is stored into a memory that is being changed. Condition: the place is there. -/
namespace Go.Proofs.YtepcejdglbcbkaaGreat
open Go.Abs
variable {k:Nat}
def le4 (w:Nat):List UInt8:=[UInt8.ofNat (w%256),UInt8.ofNat (w/2 ^ 8%256),UInt8.ofNat (w/2 ^ 16%256),UInt8.ofNat (w/2 ^ 24%256)]
theorem iG (n:Nat) (h:n<256):ofB (UInt8.ofNat n) = .int .u8 n:=by
 simp only [ofB,AV.int.injEq,true_and]
 rw [UInt8.toNat_ofNat'];congr 1;omega
theorem EF (w:Nat):(le4 w).map ofB=[.int .u8 ((w%256:Nat):Int),.int .u8 ((w/2 ^ 8%256:Nat):Int),.int .u8 ((w/2 ^ 16%256:Nat):Int),.int .u8 ((w/2 ^ 24%256:Nat):Int)]:=by
 simp only [le4,List.map_cons,List.map_nil]
 rw [iG _ (by omega),iG _ (by omega),iG _ (by omega),iG _ (by omega)]
theorem jq (bs:List UInt8):bK (bs.map ofB)=true:=by
 induction bs with
 | nil=>rfl
 | cons b bs ih=>simp only [List.map_cons,bK,ih,Bool.and_true];rfl
theorem p9 (bs:List UInt8):(bs.map ofB).map aF=bs.map ofB:=by
 rw [List.map_map];rfl
theorem vU {os:List (Nat×List AV)}{id L:Nat}{bs:List UInt8}(ho:lkO os id=some (bs.map ofB)) (hL:bs.length=128*L):FC os (.agg [.osl id 0 L 128]) (aq bs):=by
 intro H
 have hn:L*128=(bs.map ofB).length:=by rw [List.length_map];omega
 refine ⟨?_,?_⟩
 ·simp only [leaves,AV.cells,List.all_cons,List.all_nil,Bool.and_true,ep,av ho,List.drop_zero,hn,List.take_length,jq,Nat.zero_add,Nat.le_refl,decide_true]
 ·simp only [aA,List.map_cons,List.map_nil,bU,av ho,List.drop_zero,hn,List.take_length,p9]
  rfl
theorem Sc (w:Nat):eo (if 4=[AV.int IntKind.u8 ((w%256:Nat):Int),AV.int IntKind.u8 ((w/2 ^ 8%256:Nat):Int),AV.int IntKind.u8 ((w/2 ^ 16%256:Nat):Int),AV.int IntKind.u8 ((w/2 ^ 24%256:Nat):Int)].length/1 then 3 else 1) 1 (List.drop (0*1) (List.take (4*1) [AV.int IntKind.u8 ((w%256:Nat):Int),AV.int IntKind.u8 ((w/2 ^ 8%256:Nat):Int),AV.int IntKind.u8 ((w/2 ^ 16%256:Nat):Int),AV.int IntKind.u8 ((w/2 ^ 24%256:Nat):Int)])) = .sl 3 1 ((le4 w).map ofB):=by
 rw [EF];simp [eo]
theorem aa1 {bs:List UInt8}{a w L c:Nat}{os:List (Nat×List AV)}{H:Hp}{E:Nat→Option TypeId}{lv:Nat→Bool}(hv:VM bs) (hL:bs.length=128*L) (ha:a%4=0) (hb:a+4≤bs.length) (hw:w<4294967296) (ho:lkO os 2=some (bs.map ofB)) :
 aU (ab FN (k+10001)) 206 [.agg [.osl 2 0 L 128],.agg [.int .i64 a,.int .i64 4,.int .u32 w]] os H 5 lv c E (.bool true) 2 ((bD bs a (le4 w)).map ofB):=by
 have hl:=hv.le
 have c208:evP (ab FN (k+10000)) 208 [aq bs,.int .i64 a,.int .i64 4]=some (.bool true):=xQ ((R8 (k:=0) hv ha hb).fuel (by omega)) rfl
 have g1:aj .shr (.int .u32 (w:Int)) (.int .u64 8)=some (.int .u32 ((w/2 ^ 8:Nat):Int)):=kO (by decide)
 have g2:aj .shr (.int .u32 (w:Int)) (.int .u64 16)=some (.int .u32 ((w/2 ^ 16:Nat):Int)):=kO (by decide)
 have g3:aj .shr (.int .u32 (w:Int)) (.int .u64 24)=some (.int .u32 ((w/2 ^ 24:Nat):Int)):=kO (by decide)
 refine bY (by omega) (cO _ _) YQ fun T=>?_
 repeat (first | refine stN ?_ | intro E)
 apply B5 (ws:=[aq bs,.int .i64 a,.int .i64 4])
 ·exact rfl
 ·exact ⟨vU ho hL,fun _=>⟨rfl,rfl⟩,fun _=>⟨rfl,rfl⟩,trivial⟩
 ·exact c208
 ·rfl
 repeat (first | refine stN ?_ | intro E)
 rw [Sc]
 apply xR
 ·exact rfl
 ·exact fun H E=>Sb (k:=k) (bs:=bs) (L:=L) (by simp only [le4,List.length_cons,List.length_nil];omega) hL (by omega) (.inr (.inl ⟨rfl,rfl⟩)) ho
 intro H' h1 h2
 repeat (first | refine stN ?_ | intro E)
 refine aQ (.inr rfl) rfl rfl rfl rfl rfl ⟨rfl,_,rfl,h1,?_⟩
 exact az.after (((az.refl _ _ _).upd (.inr (by omega))).upd (.inr (by omega))) (by omega:5≤7) h2
end Go.Proofs.YtepcejdglbcbkaaGreat
/- A word is stored into a copy of a memory, and the rest is as it was. Condition: the memory is valid, the place is there. -/
namespace Go.Proofs.YtepcejdglbcbkaaGreat
open Go.Abs
variable {k:Nat}
theorem sa (bs:List UInt8):(bs.map ofB).all AV.scalar=true:=by
 rw [List.all_map,List.all_eq_true];intro x _;rfl
theorem aa2 {bs:List UInt8}(h:VM bs):evP (ab FN (k+1)) 198 [csl 128 (bs.map ofB)]=some (.sl 2 128 (bs.map ofB)):=by
 have hl:=h.le
 have hfl:=jq bs
 refine qz YJ rfl fun T H E lv=>?_
 repeat (first | refine stN ?_ | intro E)
 apply zJ (r:=false)
 ·exact rfl
 ·exact rfl
 ·cases bs with
  | nil=>simp at hl
  | cons=>rfl
 repeat (first | refine stN ?_ | intro E)
 apply fB
 ·exact rfl
 ·exact .inl rfl
 ·exact rfl
 ·exact fun H=>if_pos (dD _ _)
 ·exact ⟨by omega,by omega⟩
 ·simp only [List.length_nil,List.length_map,room];omega
 ·exact .inr (.inl rfl)
 ·intro e;rw [List.map_eq_nil_iff] at e;subst e;simp at hl
 intro lv' h1 h2
 repeat (first | refine stN ?_ | intro E)
 refine aQ (.inr rfl) rfl rfl rfl rfl rfl ?_
 show aO true lv' (.sl 4 128 (List.map ofB bs))=_
 simp [aO,h1]
theorem uf {os:List (Nat×List AV)}{H:Hp}{id L:Nat}{bs:List UInt8}(ho:lkO os id=some (bs.map ofB)) (hL:bs.length=128*L):fk (ah os H) 0 (.osl id 0 L 128)=true∧bM (ah os H) 0 (.osl id 0 L 128)=csl 128 (bs.map ofB):=by
 have hn:L*128=(bs.map ofB).length:=by rw [List.length_map];omega
 refine ⟨?_,?_⟩
 ·simp only [fk,av ho,List.drop_zero,hn,List.take_length,jq,Nat.zero_add,Nat.le_refl,decide_true,Bool.and_true,Bool.or_true]
 ·simp only [bM,av ho,List.drop_zero,hn,List.take_length,p9,Nat.not_lt_zero,if_false]
theorem aa3 {bs:List UInt8}{a w:Nat}(h:VM bs) (ha:a%4=0) (hb:a+4≤bs.length) (hw:w<4294967296):ad (ab FN (k+10010)) 196 [aq bs,csl 3 [.int .i64 a,.int .i64 4,.int .u32 w]] (.tup [aq (bD bs a (le4 w)),.bool true]):=by
 have hl:=h.le
 have c198:evP (ab FN (k+10009)) 198 [csl 128 (bs.map ofB)]=some (.sl 2 128 (bs.map ofB)):=aa2 h
 refine ak YI fun T H E lv=>?_
 repeat (first | refine stN ?_ | intro E)
 apply tP
 ·exact rfl
 ·exact rfl
 ·exact c198
 ·exact rfl
 ·exact rfl
 ·exact rfl
 ·exact sa _
 ·omega
 intro E
 rw [show aA (bB 2 (0+1+1) 4) (AV.sl 2 128 (bs.map ofB)) = .osl 2 0 ((bs.map ofB).length/128) 128 from rfl]
 repeat (first | refine stN ?_ | intro E)
 rw [show ([AV.int IntKind.i64 a,AV.int IntKind.i64 4,AV.int IntKind.u32 w].length/3)=1 from by simp]
 have hLn:bs.length=128*((bs.map ofB).length/128):=by rw [List.length_map];omega
 obtain ⟨L,hL⟩:∃ L,L=(bs.map ofB).length/128:=⟨_,rfl⟩
 rw [← hL] at hLn ⊢
 refine aW (α:=Nat×List UInt8) (a8.mk (fun p=>(p.1=0∧p.2=bs)∨(p.1=1∧p.2=bD bs a (le4 w))) (fun p=>1-p.1)
  (fun p=>[(18,.int .i64 (p.1:Int)),(17,.int .i64 ((1:Nat):Int)),(16,csl 3 [.int .i64 a,.int .i64 4,.int .u32 w]),(7,.fn 206 [.agg [.osl 2 0 L 128]] []),(6,.ref 3 0),(4,.ref 1 0),(2,.ref 0 0)])
  (fun p=>[(3,[.osl 2 0 L 128]),(2,p.2.map ofB),(1,[.sl 0 0 []]),(0,[csl 128 (bs.map ofB)])]))
  (fun _ _ c=>c=4) (0,bs) (.inl ⟨rfl,rfl⟩) rfl (show 1-0<k+10009 by omega) ⟨rfl,rfl,rfl,rfl,rfl,rfl,rfl,trivial⟩ ⟨rfl,rfl,rfl,rfl,trivial⟩ ?_
 rintro ⟨j,cs⟩ lv c T H E hP rfl hμ
 have hP:(j=0∧cs=bs)∨(j=1∧cs=bD bs a (le4 w)):=hP
 clear hμ
 rcases hP with ⟨rfl,rfl⟩ | ⟨rfl,rfl⟩<;>dsimp only
 ·repeat (first | refine stN ?_ | intro E)
  apply dB (os':=[(2,(bD cs a (le4 w)).map ofB),(4,[.int .i64 a,.int .i64 4,.int .u32 w]),(3,[.osl 2 0 L 128]),(1,[.sl 0 0 []]),(0,[csl 128 (cs.map ofB)])])
  ·exact rfl
  ·exact rfl
  ·exact fun H E=>aa1 (k:=k+8) h hLn ha hb hw rfl
  ·exact ⟨.inl ⟨rfl,rfl⟩,.inr ⟨rfl,rfl,rfl,rfl⟩,.inr ⟨rfl,rfl,rfl,rfl⟩,.inr ⟨rfl,rfl,rfl,rfl⟩,.inr ⟨rfl,rfl,rfl,rfl⟩,trivial⟩
  intro H
  repeat (first | refine stN ?_ | intro E)
  exact aB (1,bD cs a (le4 w)) (.inr ⟨rfl,rfl⟩) rfl (show 1-1<1-0 by omega) ⟨rfl,rfl,rfl,rfl,rfl,rfl,rfl,trivial⟩ ⟨⟨rfl,rfl⟩,⟨rfl,cO _ _⟩,⟨rfl,rfl⟩,⟨rfl,rfl⟩,trivial⟩
 ·repeat (first | refine stN ?_ | intro E)
  apply aN
  apply aM
  repeat (first | refine stN ?_ | intro E)
  have hn:(bD bs a (le4 w)).length=128*L:=by rw [ef (by simp only [le4,List.length_cons,List.length_nil];omega),hLn]
  have hf:=fun H=>uf (os:=[(1,[.osl 2 0 L 128]),(3,[.osl 2 0 L 128]),(2,(bD bs a (le4 w)).map ofB),(1,[.sl 0 0 []]),(0,[csl 128 (bs.map ofB)])]) (H:=H) (id:=2) rfl hn
  refine ae (.inr rfl) rfl rfl ?_ ?_ ?_ rfl
  ·show (fk _ 0 (.osl 2 0 L 128)&&(fk _ 0 (.bool true)&&true))=true
   rw [(hf _).1];rfl
  ·show AV.under 0 (.tup [.agg [bM _ 0 (.osl 2 0 L 128)],.bool true])=true
   rw [(hf _).2];rfl
  ·show aA aF (.tup [.agg [bM _ 0 (.osl 2 0 L 128)],.bool true])=_
   rw [(hf _).2];rfl
theorem aa4 {bs:List UInt8}{a w:Nat}(h:VM bs) (ha:a%4=0) (hb:a+4≤bs.length) (hw:w<4294967296):ad (ab FN (k+10011)) 171 [aq bs,.agg [.int .i64 a,.int .i64 4,.int .u32 w]] (.tup [aq (bD bs a (le4 w)),.bool true]):=by
 have c196:ad (ab FN (k+10010)) 196 [aq bs,csl 3 [.int .i64 a,.int .i64 4,.int .u32 w]] (.tup [aq (bD bs a (le4 w)),.bool true]):=aa3 h ha hb hw
 refine ak Yr fun T H E lv=>?_
 repeat (first | refine stN ?_ | intro E)
 exact ae (.inr rfl) rfl rfl rfl rfl rfl rfl
end Go.Proofs.YtepcejdglbcbkaaGreat
