/- Part of the texts on which proofs about this seat rest: each says what it proves at its own head. No condition. -/
import Derived.Test.YtepcejdglbcbkaaGreatM35
set_option linter.unusedVariables false
set_option linter.unusedSimpArgs false
set_option maxHeartbeats 4000000
set_option maxRecDepth 100000
/- What error parts have that must be written, or read, with so many bytes: by the program, by the reference. Condition: there are at most 100 parts, their lengths are words. -/
namespace Go.Proofs.YtepcejdglbcbkaaGreat
open Go.Abs
variable {k:Nat}
def eA (l:List Pt):Nat:=l.foldl (fun n p=>n+p.n) 0
def mfE (l:List Pt) (w:Bool) (lo hi:Nat):Nat:=if l.any (fun p=>p.w != w)=true then 164 else if eA l<lo∨hi<eA l then 161 else 0
theorem qg {l:List Pt}{i:Nat}{p:Pt}(h:l[i]? = some p):eA (l.take (i+1))=eA (l.take i)+p.n:=kV (f:=fun n (p:Pt)=>n+p.n) h
theorem uw:∀ {l:List Pt}(n:Nat),(∀ p∈l,p.n<4294967296)→l.foldl (fun n p=>n+p.n) n≤n+l.length*4294967296
 | [],n,_=>by simp
 | p::l,n,h=>by
  have h1:=h p List.mem_cons_self
  have h2:=uw (l:=l) (n+p.n) fun q hq=>h q (List.mem_cons_of_mem _ hq)
  rw [List.foldl_cons,List.length_cons];omega
theorem mL {l:List Pt}(hn:l.length≤100) (h:∀ p∈l,p.n<4294967296):eA l≤429496729600:=by
 have:=uw (l:=l) 0 h
 unfold eA;omega
theorem abC {l:List Pt}{w:Bool}{lo hi:Nat}(hn:l.length≤100) (hs:∀ p∈l,p.n<4294967296):ad (ab FN (k+200)) 169 [csl 4 (aY l),.bool w,.int .i64 lo,.int .i64 hi] (.int .i64 (mfE l w lo hi)):=by
 refine ak Yp fun T H E lv=>?_
 repeat (first | refine stN ?_ | intro E)
 rw [eQ]
 refine aW (α:=Nat) (a8.mk (fun i=>i≤l.length∧(l.take i).any (fun p=>p.w != w)=false) (fun i=>l.length-i)
  (fun i=>[(14,.int .i64 (i:Int)),(13,.int .i64 (l.length:Int)),(12,csl 4 (aY l)),(9,.int .i64 (eA (l.take i):Nat)),(8,.int .i64 0),(1,.bool w),(2,.int .i64 lo),(3,.int .i64 hi),(0,csl 4 (aY l))]) (fun i=>[]))
  (fun _ _ c=>c=4) 0 ⟨Nat.zero_le _,rfl⟩ rfl (show l.length-0<k+199 by omega) ⟨rfl,rfl,rfl,rfl,rfl,rfl,rfl,rfl,rfl,trivial⟩ trivial ?_
 rintro i lv c T H E ⟨hP,hno⟩ rfl hμ
 have hP:i≤l.length:=hP
 have hno:(l.take i).any (fun p=>p.w != w)=false:=hno
 clear hμ
 dsimp only
 rcases Nat.lt_or_ge i l.length with hil | hil
 ·obtain ⟨p,hp⟩:∃ p,l[i]? = some p:=⟨_,List.getElem?_eq_getElem hil⟩
  have hps:=hs p (List.mem_of_getElem? hp)
  have gi:inB (i:Int) ((aY l).length/4)=some i:=aZ (by rw [eQ];omega)
  have hft:=qg hp
  have hle:=mL (l:=l.take i) (by rw [List.length_take];omega) fun q hq=>hs q (List.mem_of_mem_take hq)
  have hr:rd (aY l) (i*4) 4 true=some (.agg [.int .i64 p.i,.int .i64 p.a,.int .i64 p.n,.bool p.w]):=By hp
  have hat:=kU (f:=fun p=>p.w != w) hp
  rw [hno,Bool.false_or] at hat
  have ha:aj .add (.int .i64 (eA (l.take i):Nat)) (.int .i64 p.n)=some (.int .i64 (eA (l.take (i+1)):Nat)):=by
   rw [hft];exact iC (by omega)
  cases hpw:(p.w != w)
  ·rw [hpw] at hat
   have:p.w=w:=by cases hq:p.w<;>cases w<;>simp_all
   rw [this] at hr
   cases w
   all_goals
    repeat (first | refine stN ?_ | intro E)
    exact aB (i+1) ⟨by omega,hat⟩ rfl (show l.length-(i+1)<l.length-i by omega) ⟨rfl,rfl,rfl,rfl,rfl,rfl,rfl,rfl,rfl,trivial⟩ trivial
  ·have e:mfE l w lo hi=164:=if_pos (List.any_eq_true.2 ⟨p,List.mem_of_getElem? hp,hpw⟩)
   have:p.w = !w:=by cases hq:p.w<;>cases w<;>simp_all
   rw [e]
   rw [this] at hr
   cases w
   all_goals
    repeat (first | refine stN ?_ | intro E)
    apply bz
    repeat (first | refine stN ?_ | intro E)
    exact ae (.inr rfl) rfl rfl rfl rfl rfl rfl
 ·rw [List.take_of_length_le hil] at hno ⊢
  have hle:=mL hn hs
  repeat (first | refine stN ?_ | intro E)
  apply aN
  apply aM
  have e:mfE l w lo hi=if eA l<lo∨hi<eA l then 161 else 0:=if_neg (by rw [hno];decide)
  by_cases h1:eA l<lo
  ·rw [e,if_pos (.inl h1)]
   repeat (first | refine stN ?_ | intro E)
   exact ae (.inr rfl) rfl rfl rfl rfl rfl rfl
  ·by_cases h2:hi<eA l
   ·rw [e,if_pos (.inr h2)]
    repeat (first | refine stN ?_ | intro E)
    exact ae (.inr rfl) rfl rfl rfl rfl rfl rfl
   ·rw [e,if_neg (by omega)]
    repeat (first | refine stN ?_ | intro E)
    exact ae (.inr rfl) rfl rfl rfl rfl rfl rfl
theorem abD {l:List Pt}{w:Bool}{lo hi:Nat}(hn:l.length≤100) (hs:∀ p∈l,p.n<4294967296):ad (ab FN (k+200)) 132 [csl 4 (aY l),.bool w,.int .i64 lo,.int .i64 hi] (.int .i64 (mfE l w lo hi)):=by
 have hdv:=eQ l
 refine ak X5 fun T H E lv=>?_
 repeat (first | refine stN ?_ | intro E)
 refine aW (α:=Nat) (a8.mk (fun i=>i≤l.length∧(l.take i).any (fun p=>p.w != w)=false) (fun i=>l.length-i)
  (fun i=>[(10,.int .i64 (i:Int)),(9,.int .i64 (eA (l.take i):Nat)),(8,.int .i64 0),(1,.bool w),(2,.int .i64 lo),(3,.int .i64 hi),(0,csl 4 (aY l))]) (fun i=>[]))
  (fun _ _ c=>c=4) 0 ⟨Nat.zero_le _,rfl⟩ rfl (show l.length-0<k+199 by omega) ⟨rfl,rfl,rfl,rfl,rfl,rfl,rfl,trivial⟩ trivial ?_
 rintro i lv c T H E ⟨hP,hno⟩ rfl hμ
 have hP:i≤l.length:=hP
 have hno:(l.take i).any (fun p=>p.w != w)=false:=hno
 clear hμ
 dsimp only
 rcases Nat.lt_or_ge i l.length with hil | hil
 ·obtain ⟨p,hp⟩:∃ p,l[i]? = some p:=⟨_,List.getElem?_eq_getElem hil⟩
  have hps:=hs p (List.mem_of_getElem? hp)
  have gi:inB (i:Int) ((aY l).length/4)=some i:=aZ (by rw [eQ];omega)
  have hft:=qg hp
  have hle:=mL (l:=l.take i) (by rw [List.length_take];omega) fun q hq=>hs q (List.mem_of_mem_take hq)
  have hr3:rd (aY l) (i*4+3) 1 false=some (.bool p.w):=si hp
  have hr2:rd (aY l) (i*4+2) 1 false=some (.int .i64 p.n):=sg hp
  have hat:=kU (f:=fun p=>p.w != w) hp
  rw [hno,Bool.false_or] at hat
  have ha:aj .add (.int .i64 (eA (l.take i):Nat)) (.int .i64 p.n)=some (.int .i64 (eA (l.take (i+1)):Nat)):=by
   rw [hft];exact iC (by omega)
  cases hpw:(p.w != w)
  ·rw [hpw] at hat
   have:p.w=w:=by cases hq:p.w<;>cases w<;>simp_all
   rw [this] at hr3
   cases w
   all_goals
    repeat (first | refine stN ?_ | intro E)
    exact aB (i+1) ⟨by omega,hat⟩ rfl (show l.length-(i+1)<l.length-i by omega) ⟨rfl,rfl,rfl,rfl,rfl,rfl,rfl,trivial⟩ trivial
  ·have e:mfE l w lo hi=164:=if_pos (List.any_eq_true.2 ⟨p,List.mem_of_getElem? hp,hpw⟩)
   have:p.w = !w:=by cases hq:p.w<;>cases w<;>simp_all
   rw [e]
   rw [this] at hr3
   cases w
   all_goals
    repeat (first | refine stN ?_ | intro E)
    apply bz
    repeat (first | refine stN ?_ | intro E)
    exact ae (.inr rfl) rfl rfl rfl rfl rfl rfl
 ·rw [List.take_of_length_le hil] at hno ⊢
  have hle:=mL hn hs
  repeat (first | refine stN ?_ | intro E)
  apply aN
  apply aM
  have e:mfE l w lo hi=if eA l<lo∨hi<eA l then 161 else 0:=if_neg (by rw [hno];decide)
  by_cases h1:eA l<lo
  ·rw [e,if_pos (.inl h1)]
   repeat (first | refine stN ?_ | intro E)
   exact ae (.inr rfl) rfl rfl rfl rfl rfl rfl
  ·by_cases h2:hi<eA l
   ·rw [e,if_pos (.inr h2)]
    repeat (first | refine stN ?_ | intro E)
    exact ae (.inr rfl) rfl rfl rfl rfl rfl rfl
   ·rw [e,if_neg (by omega)]
    repeat (first | refine stN ?_ | intro E)
    exact ae (.inr rfl) rfl rfl rfl rfl rfl rfl
end Go.Proofs.YtepcejdglbcbkaaGreat
/- What a device sends: the model; the reference's send. Condition: the memory is valid, the ring is there, the position is in it. -/
namespace Go.Proofs.YtepcejdglbcbkaaGreat
open Go.Abs
variable {k:Nat}
def ba (m:List UInt8) (b s i:Nat):List Pt:=(bN m b s i).map (nB m b)
theorem k8 {m:List UInt8}{b s pos:Nat}(hs:0<s):∀ (f j:Nat),(cT m b s pos f j).2=true→(cT m b s pos f j).1<s
 | 0,j,h=>by cases h
 | f+1,j,h=>by
  unfold cT at h ⊢
  split
  ·exact Nat.mod_lt _ hs
  ·next hn=>rw [if_neg hn] at h;exact k8 hs f (j+1) h
theorem k9 {m:List UInt8}{b s i:Nat}(h:RV m b s) (hi:i<s):RV (aK m b s i) b s:=by
 by_cases he:a7 m b s i=0
 ·obtain ⟨h1,h2,_⟩:=dp hi he
  rw [h2];exact h.bm fun j hj=>(h1.one j hj).1
 ·obtain ⟨_,h2,_⟩:=gY he
  rw [h2];split
  ·exact h.bj hi
  ·exact h
theorem i9 {b s w:Nat}:∀ {js:List Nat}{m:List UInt8},RV m b s→(∀ j∈js,j<s)→(bm m b w js).length=m.length
 | [],_,_,_=>rfl
 | j::js,m,h,hj=>by
  have hjs:=hj j List.mem_cons_self
  have hle:=h.le
  have:=i9 (w:=w) (h.bj (w:=w) hjs) fun x hx=>hj x (List.mem_cons_of_mem _ hx)
  rw [show bm m b w (j::js)=bm (bj b w m j) b w js from rfl,this]
  exact dn (by omega)
structure POq (M:List UInt8) (l:List Pt):Prop where
 ne:1≤l.length
 len:l.length≤4
 one:∀ q∈l,1≤q.n∧q.n≤512∧q.a+q.n≤M.length
theorem ux {m:List UInt8}{b s i:Nat}(h:RV m b s) (hi:i<s) (he:a7 m b s i=0):POq (aK m b s i) (ba m b s i):=by
 obtain ⟨h1,h2,h3⟩:=dp hi he
 have:=h1.len
 refine ⟨?_,by unfold ba;rw [List.length_map];omega,fun q hq=>?_⟩
 ·cases hq:bN m b s i with
  | nil=>rw [hq] at h3;cases h3
  | cons j js=>unfold ba;rw [hq];simp
 ·obtain ⟨x,hx,rfl⟩:=List.mem_map.1 hq
  obtain ⟨_,_,o3,o4,o5⟩:=h1.one x hx
  have hl:(aK m b s i).length=m.length:=by rw [h2];exact i9 h fun j hj=>(h1.one j hj).1
  rw [hl]
  exact ⟨o3,o4,o5⟩
theorem POq.lt {M:List UInt8}{l:List Pt}(h:POq M l):∀ q∈l,q.n<4294967296:=fun q hq=>by have:=h.one q hq;omega
theorem POq.inR {M:List UInt8}{l:List Pt}(h:POq M l):InR M.length l:=fun q hq _=>(h.one q hq).2.2
structure TS where
 m:List UInt8
 o:List (List UInt8)
 r:Bool
 a:Nat
 st:Nat
def eB (b s i:Nat) (x:TS):TS:=
 if a7 x.m b s i≠0 then ⟨aK x.m b s i,x.o,true,(i+1)%s,a7 x.m b s i⟩
 else if mfE (ba x.m b s i) false 0 512≠0 then ⟨bj b (4+(mfE (ba x.m b s i) false 0 512-160)) (aK x.m b s i) i,x.o,true,(i+1)%s,mfE (ba x.m b s i) false 0 512⟩
 else ⟨bm (aK x.m b s i) b 3 (bN x.m b s i),x.o++[ew (aK x.m b s i) (ba x.m b s i)],true,(i+1)%s,x.st⟩
def dc (b s:Nat):Nat→TS→TS
 | 0,x=>x
 | n+1,x=>if (cT x.m b s x.a s 0).2=false then x else dc b s n (eB b s (cT x.m b s x.a s 0).1 x)
structure TI (b s:Nat) (x:TS):Prop where
 m:RV x.m b s
 a:x.a<s
theorem mi (l:List Pt) (w:Bool) (lo hi:Nat):mfE l w lo hi=0∨(161≤mfE l w lo hi∧mfE l w lo hi≤164):=by
 unfold mfE
 (repeat' split)<;>omega
theorem qh {b s i:Nat}{x:TS}(h:TI b s x) (hi:i<s):TI b s (eB b s i x):=by
 have hm:=k9 h.m hi
 have hs:=h.a
 have hlt:(i+1)%s<s:=Nat.mod_lt _ (by omega)
 unfold eB
 split
 ·exact ⟨hm,hlt⟩
 ·next he=>
  split
  ·exact ⟨hm.bj hi,hlt⟩
  ·exact ⟨hm.bm fun j hj=>((dp hi (Decidable.not_not.1 he)).1.one j hj).1,hlt⟩
theorem Ao {b s i:Nat}{x:TS}:(eB b s i x).o.length≤x.o.length+1:=by
 unfold eB
 split
 ·exact Nat.le_succ _
 ·split
  ·exact Nat.le_succ _
  ·simp
def bS (o:List (List UInt8)):List AV:=o.map .str
theorem fV (o:List (List UInt8)):(bS o).length=o.length:=List.length_map ..
theorem qi (o:List (List UInt8)) (y:List UInt8):bS o++[.str y]=bS (o++[y]):=by simp [bS]
abbrev doC (tb ts rb rs:Nat) (ta ra st dr:Int) (m:List UInt8) (v:Nat) (o:AV) (r ok:Bool):List AV:=
 [.int .u32 tb,.int .u32 ts,.int .u32 rb,.int .u32 rs,.int .i64 ta,.int .i64 ra,.int .i64 st,.int .i64 dr,csl 128 (m.map ofB),.int .u32 v,o,.bool r,.bool ok]
def OB (br z:Nat) (o:List (List UInt8)):Prop:=(br=1∧z=0∧o=[])∨((br=3∨4≤br)∧z=1)
theorem OB.src {br z:Nat}{o:List (List UInt8)}(h:OB br z o) (H:Hp):src H 1 (.sl br z (bS o))=some (bS o):=by
 rcases h with ⟨rfl,rfl,rfl⟩ | ⟨_,rfl⟩
 ·show (if (0:Nat)=1∨bS []=[] then some (bS []) else none)=_
  exact if_pos (show (0:Nat)=1∨bS []=[] from Or.inr rfl)
 ·exact fU _ _ _ _
theorem OB.canon {br z:Nat}{o:List (List UInt8)}(h:OB br z o):aF (.sl br z (bS o))=csl 1 (bS o):=by
 rcases h with ⟨rfl,rfl,rfl⟩ | ⟨h,rfl⟩
 ·rfl
 ·exact if_neg (by omega)
theorem yH {s:List (Nat×AV)}{os:List (Nat×List AV)}{T:Nat→AV}{H:Hp}{E:Nat→Option TypeId}{n c:Nat}{lv:Nat→Bool}{fn:IFn}{e:Ex}{tb ts rb rs v br z:Nat}{ta ra st dr:Int}{m:List UInt8}{o:List (List UInt8)}{r ok:Bool}(he:e = .norm∨e = .ret)
 (h1:jP s os fn.res=some [.agg (doC tb ts rb rs ta ra st dr m v (.sl br z (bS o)) r ok)]) (hz:(fn.res.all fun | .cell _ sz ag=>!(ag&&Nat.beq sz 0) | _=>true)=true) (ho:OB br z o) :
 Ret fn (.agg (doC tb ts rb rs ta ra st dr m v (csl 1 (bS o)) r ok)) e ⟨af s T,ah os H,E,n,lv,c⟩:=by
 refine ae he h1 hz rfl rfl ?_ ?_
 ·rw [← ho.canon];rfl
 ·simp [AV.flat,bK,csl,doC]
theorem abE {tb ts rb rs v ta0 st:Nat}{ra dr:Int}{m:List UInt8}{r ok:Bool}(h:RV m tb ts) (ha:ta0<ts) :
 ad (ab FN (k+10600)) 114 [.agg (doC tb ts rb rs ta0 ra st dr m v (.sl 1 0 []) r ok)]
  (.agg (doC tb ts rb rs (dc tb ts ts ⟨m,[],r,ta0,st⟩).a ra (dc tb ts ts ⟨m,[],r,ta0,st⟩).st dr (dc tb ts ts ⟨m,[],r,ta0,st⟩).m v (csl 1 (bS (dc tb ts ts ⟨m,[],r,ta0,st⟩).o)) (dc tb ts ts ⟨m,[],r,ta0,st⟩).r ok)):=by
 have hb:tb<4294967296:=by have:=h.le;have:=h.m.le;omega
 have hs:=h.hs
 have hs':ts<4294967296:=by omega
 have hws:IntKind.i64.wrap (ts:Int)=ts:=w64 (by omega) (by omega)
 have hck:aX m.length tb ts=0:=by
  unfold aX
  rw [if_pos ⟨h.hs,h.hb,h.le⟩]
 have c129:ad (ab FN (k+10599)) 129 [aq m,aL tb ts] (.int .i64 (aX m.length tb ts)):=(sf (k:=0) h.m hb hs').fuel (by omega)
 rw [hck] at c129
 generalize hR:dc tb ts ts ⟨m,[],r,ta0,st⟩=R
 refine ak Bh fun T H E lv=>?_
 repeat (first | refine stN ?_ | intro E)
 refine aW (α:=Nat×TS×Nat×Nat) (a8.mk (fun p=>p.1≤ts∧TI tb ts p.2.1∧p.2.1.o.length≤p.1∧OB p.2.2.1 p.2.2.2 p.2.1.o∧dc tb ts (ts-p.1) p.2.1=R) (fun p=>ts-p.1)
  (fun p=>[(4,.int .i64 (p.1:Int)),(2,.ref 1 0),(1,.ref 0 0)])
  (fun p=>[(1,[.int .u32 0,.int .u32 0,.int .u32 0,.int .u32 0,.int .i64 0,.int .i64 0,.int .i64 0,.int .i64 0,.sl 0 0 [],.int .u32 0,.sl 0 0 [],.bool false,.bool false]),(0,doC tb ts rb rs p.2.1.a ra p.2.1.st dr p.2.1.m v (.sl p.2.2.1 p.2.2.2 (bS p.2.1.o)) p.2.1.r ok)]))
  (fun _ _ c=>4≤c) (0,⟨m,[],r,ta0,st⟩,1,0) ⟨Nat.zero_le _,⟨h,ha⟩,Nat.zero_le _,.inl ⟨rfl,rfl,rfl⟩,hR⟩ (Nat.le_refl _) (show ts-0<k+10599 by omega) ⟨rfl,rfl,rfl,trivial⟩ ⟨rfl,rfl,trivial⟩ ?_
 rintro ⟨i,x,br,z⟩ lv c T H E hP hc4 hμ
 obtain ⟨hP,hN,hol,hO,hRx⟩:i≤ts∧TI tb ts x∧x.o.length≤i∧OB br z x.o∧dc tb ts (ts-i) x=R:=hP
 have hc4:4≤c:=hc4
 clear hμ hR
 dsimp only
 obtain ⟨xm,xo,xr,xa,xst⟩:=x
 obtain ⟨n1,n2⟩:=hN
 dsimp only at n1 n2 hRx hol hO ⊢
 rcases Nat.lt_or_ge i ts with hi | hi
 ·have hsi:ts-i=(ts-(i+1))+1:=by omega
  rw [hsi] at hRx
  unfold dc at hRx
  dsimp only at hRx
  obtain ⟨⟨y,w⟩,hyz⟩:∃ q,cT xm tb ts xa ts 0=q:=⟨_,rfl⟩
  have hylt:=k8 (m:=xm) (b:=tb) (s:=ts) (pos:=xa) (by omega) ts 0
  rw [hyz] at hRx hylt
  dsimp only at hRx hylt
  have c130:ad (ab FN (k+10599)) 130 [aq xm,aL tb ts,.int .i64 xa] (.agg [.int .i64 y,.bool w]):=(So (k:=0) n1 (by omega) hyz).fuel (by omega)
  cases w
  ·rw [if_pos rfl] at hRx
   subst hRx
   repeat (first | refine stN ?_ | intro E)
   apply bz
   repeat (first | refine stN ?_ | intro E)
   exact yH (.inr rfl) rfl rfl hO
  ·rw [if_neg (by decide)] at hRx
   have hy:=hylt rfl
   have c131:ad (ab FN (k+10599)) 131 [aq xm,aL tb ts,.int .i64 y] (.agg [csl 128 ((aK xm tb ts y).map ofB),csl 4 (aH xm tb (bN xm tb ts y)),.int .i64 (a7 xm tb ts y)]):=(Sf (k:=0) n1 hy).fuel (by omega)
   have hni:=qh (x:=⟨xm,xo,xr,xa,xst⟩) ⟨n1,n2⟩ hy
   have hrv:=k9 n1 hy
   have hmod:aj .rem (.int .i64 ((y+1:Nat):Int)) (.int .i64 (ts:Int))=some (.int .i64 (((y+1)%ts:Nat):Int)):=gF (by omega)
   by_cases he:a7 xm tb ts y≠0
   ·have hsv:eB tb ts y ⟨xm,xo,xr,xa,xst⟩=⟨aK xm tb ts y,xo,true,(y+1)%ts,a7 xm tb ts y⟩:=if_pos he
    rw [hsv] at hni hRx
    generalize aK xm tb ts y=M at c131 hni hRx hrv
    generalize aH xm tb (bN xm tb ts y)=L at c131
    generalize a7 xm tb ts y=e at c131 hni hRx he
    clear hsv
    repeat (first | refine stN ?_ | intro E)
    exact aB (i+1,⟨M,xo,true,(y+1)%ts,e⟩,br,z) ⟨by omega,hni,show xo.length≤i+1 by omega,hO,hRx⟩ hc4 (show ts-(i+1)<ts-i by omega) ⟨rfl,rfl,rfl,trivial⟩ ⟨⟨rfl,rfl⟩,⟨rfl,rfl⟩,trivial⟩
   ·have he:a7 xm tb ts y=0:=by omega
    have hok:=ux n1 hy he
    have hsv:eB tb ts y ⟨xm,xo,xr,xa,xst⟩=_:=if_neg (by simpa using he)
    have hlen:=hok.len
    have c132:ad (ab FN (k+10599)) 132 [csl 4 (aY (ba xm tb ts y)),.bool false,.int .i64 0,.int .i64 512] (.int .i64 (mfE (ba xm tb ts y) false 0 512)):=(abD (k:=0) (lo:=0) (hi:=512) (by omega) hok.lt).fuel (by omega)
    rw [he,show aH xm tb (bN xm tb ts y)=aY (ba xm tb ts y) from gu _ _ _] at c131
    have hjs:∀ j∈bN xm tb ts y,j<ts:=fun j hj=>((dp hy he).1.one j hj).1
    have hjl:(bN xm tb ts y).length≤4:=by have:=hok.len;unfold ba at this;rwa [List.length_map] at this
    have c135:ad (ab FN (k+10599)) 135 [aq (aK xm tb ts y),aL tb ts,csl 4 (aH xm tb (bN xm tb ts y))] (aq (bm (aK xm tb ts y) tb 3 (bN xm tb ts y))):=(abb (k:=0) hrv hjs (by omega)).fuel (by omega)
    rw [show aH xm tb (bN xm tb ts y)=aY (ba xm tb ts y) from gu _ _ _] at c135
    have c137:ad (ab FN (k+10599)) 137 [aq (aK xm tb ts y),csl 4 (aY (ba xm tb ts y))] (.str (ew (aK xm tb ts y) (ba xm tb ts y))):=(abi (k:=0) hrv.m hok.inR (by omega)).fuel (by omega)
    by_cases hf:mfE (ba xm tb ts y) false 0 512≠0
    ·rw [if_pos hf] at hsv
     rw [hsv] at hni hRx
     have hfc:=(mi (ba xm tb ts y) false 0 512).resolve_left hf
     have c133:ad (ab FN (k+10599)) 133 [aq (aK xm tb ts y),aL tb ts,.int .i64 y,.int .i64 (mfE (ba xm tb ts y) false 0 512)] (aq (bj tb (4+(mfE (ba xm tb ts y) false 0 512-160)) (aK xm tb ts y) y)):=(Sl (k:=0) hrv hy (by omega)).fuel (by omega)
     clear c135 c137 hsv hok
     dsimp only at hni hRx
     generalize mfE (ba xm tb ts y) false 0 512=f at *
     generalize aY (ba xm tb ts y)=L at *
     generalize bj tb (4+(f-160)) (aK xm tb ts y) y=M2 at *
     generalize aK xm tb ts y=M at *
     repeat (first | refine stN ?_ | intro E)
     exact aB (i+1,⟨M2,xo,true,(y+1)%ts,f⟩,br,z) ⟨by omega,hni,show xo.length≤i+1 by omega,hO,hRx⟩ hc4 (show ts-(i+1)<ts-i by omega) ⟨rfl,rfl,rfl,trivial⟩ ⟨⟨rfl,rfl⟩,⟨rfl,rfl⟩,trivial⟩
    ·rw [if_neg hf] at hsv
     rw [hsv] at hni hRx
     have hf:mfE (ba xm tb ts y) false 0 512=0:=by omega
     rw [hf] at c132
     clear hsv hok hf
     dsimp only at hni hRx
     generalize ew (aK xm tb ts y) (ba xm tb ts y)=G at *
     generalize bm (aK xm tb ts y) tb 3 (bN xm tb ts y)=M2 at *
     generalize aK xm tb ts y=M at *
     generalize aY (ba xm tb ts y)=L at *
     repeat (first | refine stN ?_ | intro E)
     apply oD
     ·exact rfl
     ·exact rfl
     ·exact fun H=>hO.src H
     ·exact ⟨by omega,by omega⟩
     ·rw [dN,fV];simp only [List.length_nil];omega
     ·exact .three
     ·exact hc4
     intro br1 lv1 c1 g1 g2 g3
     rw [List.nil_append]
     repeat (first | refine stN ?_ | intro E)
     apply oD
     ·exact rfl
     ·exact rfl
     ·exact fun H=>fU _ _ _ _
     ·exact ⟨by omega,by omega⟩
     ·rw [dN,fV];simp only [List.length_nil,List.length_cons];omega
     ·exact g2
     ·omega
     intro br2 lv2 c2 g4 g5 g6
     rw [qi]
     repeat (first | refine stN ?_ | intro E)
     refine aB (i+1,⟨M2,xo++[G],true,(y+1)%ts,xst⟩,br2,1) ⟨by omega,hni,?_,.inr ⟨?_,rfl⟩,hRx⟩ (show 4≤c2 by omega) (show ts-(i+1)<ts-i by omega) ⟨rfl,rfl,rfl,trivial⟩ ⟨⟨rfl,rfl⟩,⟨rfl,?_⟩,trivial⟩
     ·show (xo++[G]).length≤i+1
      rw [List.length_append,List.length_singleton];omega
     ·rcases g5 with g | g
      ·exact .inl g
      ·exact .inr g.1
     ·rfl
 ·have:ts-i=0:=by omega
  rw [this] at hRx
  subst hRx
  repeat (first | refine stN ?_ | intro E)
  apply aN
  apply aM
  repeat (first | refine stN ?_ | intro E)
  exact yH (.inr rfl) rfl rfl hO
end Go.Proofs.YtepcejdglbcbkaaGreat
/- What a device receives, and what it does when it is asked, by the reference. Condition: the memory is valid, the device is valid. -/
namespace Go.Proofs.YtepcejdglbcbkaaGreat
open Go.Abs
variable {k:Nat}
theorem sC {m:List UInt8}{b s:Nat}(h:VM m) (hc:aX m.length b s=0):RV m b s:=by
 unfold aX at hc
 split at hc
 ·next hh=>exact ⟨h,hh.1,hh.2.1,hh.2.2⟩
 ·cases hc
theorem ld (n b s:Nat):aX n b s=0∨aX n b s=160:=by unfold aX;split<;>simp
end Go.Proofs.YtepcejdglbcbkaaGreat
