/- Part of the texts on which proofs about this seat rest: each says what it proves at its own head. No condition. -/
import Derived.Test.YtepcejdglbcbkaaGreatM1
import Derived.MapKept
import Derived.RangeFuncLeaves
import Derived.RangeFuncSeq
import Derived.OrdersIn
import Derived.Scope
import Derived.LoopNIn
import Derived.RangeFuncRecord
set_option linter.unusedVariables false
set_option linter.unusedSimpArgs false
/- Maps whose keys are numbers, bools or strings: made, looked up, changed, counted. Condition: the state says what is in memory ('WRel', 'Rep'). -/
namespace Go.Abs
section
variable {P:Program}{G:Gh}{w:World}{T:Nat→AV}{H:Hp}{E:Nat→Option TypeId}{lv:Nat→Bool}{nid cb:Nat}{ρ:Operand→Value}{hint:Hint}{o:Oper}{io:IOp}{e:Eff}
theorem pE (w:World) (b:Nat) {es:Array MapEntry}{ck:Nat}(h:w.heap[b]? = some (.map es ck)):w.shape? b=none:=by
 simp [World.shape?,h]
theorem wM (hW:aG G H E lv w) {nid:Nat}(hn:G.β nid=none) :
 Ext G lv w { G with β:=bH G.β nid (w.heap.size,none) } lv (w.alloc (.map #[] 0))∧aG { G with β:=bH G.β nid (w.heap.size,none) } (upd H nid [.bool true]) (upd E nid none) lv (w.alloc (.map #[] 0)):=by
 have hext:Ext G lv w { G with β:=bH G.β nid (w.heap.size,none) } lv (w.alloc (.map #[] 0)):=by
  refine ⟨?_,fun _ _ h=>h,fun _ _ h=>h,fun _ _ h _ _=>h,?_,?_,?_,?_,by simp,rfl,rfl,rfl,fun _ _ h=>h,fun _ _ h=>h⟩
  ·intro id p hp
   have:id≠nid:=fun e=>by rw [e,hn] at hp;cases hp
   exact (cG _ this).trans hp
  ·rintro b hb (⟨id,o,h1⟩ | h1)
   ·simp only [bH] at h1
    split at h1
    ·simp only [Option.some.injEq,Prod.mk.injEq] at h1;omega
    ·exact .inl ⟨id,o,h1⟩
   ·exact .inr h1
  ·intro b hb _;exact aJ w _ b hb
  ·intro b i hb;exact cC (aJ w _ b (hW.σlt _ _ hb)) i
  ·intro b hb;exact cI (aJ w _ b hb)
 refine ⟨hext,?_⟩
 constructor
 ·intro id b o hb
  simp only [bH] at hb
  split at hb
  ·simp at hb
  ·rename_i he
   obtain ⟨cs,T,fz,h1,h2,h3,h4,h5⟩:=hW.obj id b o hb
   have hlt:=hW.βlt hb
   have hk:=aJ w (.map #[] 0) b hlt
   refine ⟨cs,T,fz,hk.trans h1,by simpa [upd,he] using h2,?_,?_,by simpa [upd,he] using h5⟩
   ·intro i x hx
    simp only [upd,he,if_false] at hx
    obtain ⟨k1,k2,v,k3,k4⟩:=h3 i x hx
    exact ⟨k1,k2,v,k3,k4.mono hext.mono⟩
   ·intro i hi
    simp only [upd,he,if_false] at hi
    exact (aP hk _).trans (h4 i hi)
 ·intro id b hb
  simp only [bH] at hb
  split at hb
  ·rename_i he;subst he
   simp only [Option.some.injEq,Prod.mk.injEq,and_true] at hb
   subst hb
   have hρ:G.ρ w.heap.size=none:=by
    cases hq:G.ρ w.heap.size with
    | none=>rfl
    | some r=>have:=hW.ρlt _ _ hq;omega
   refine .of_map hρ (cN w _) ?_
   intro l hl
   simp only [upd,if_true,List.cons.injEq,true_and] at hl
   subst hl
   trivial
  ·rename_i he
   exact hW.mobj_of hext.mono hb (aJ w _ b (hW.βlt hb)) (by simp [upd,he])
 ·intro id b o hb i hσ
  simp only [bH] at hb
  split at hb
  ·simp only [Option.some.injEq,Prod.mk.injEq] at hb
   have:=hW.σlt _ _ hσ;omega
  ·exact hW.nσ id b o hb i hσ
 ·intro id id' b o o' h1 h2
  simp only [bH] at h1 h2
  split at h1<;>split at h2
  ·omega
  ·simp only [Option.some.injEq,Prod.mk.injEq] at h1
   have:=hW.βlt h2;omega
  ·simp only [Option.some.injEq,Prod.mk.injEq] at h2
   have:=hW.βlt h1;omega
  ·exact hW.inj _ _ _ _ _ h1 h2
 ·intro br hbr
  obtain ⟨k1,b,e,cs,T,fz,k2,k3,k4,k5,k6⟩:=hW.tip br hbr
  have hlt:=hW.τlt _ _ _ k2
  have hk:=aJ w (.map #[] 0) b hlt
  refine ⟨k1,b,e,cs,T,fz,k2,hk.trans k3,fun i c=>(aP hk _).trans (k4 i c),k5,?_⟩
  intro id o hb
  simp only [bH] at hb
  split at hb
  ·simp only [Option.some.injEq,Prod.mk.injEq] at hb;omega
  ·exact k6 id o hb
 ·exact hW.tinj
 ·intro b i h;have:=hW.σlt b i h;simp;omega
 ·intro br b e h;have:=hW.τlt br b e h;simp;omega
 ·exact fun b r h=>Nat.lt_of_lt_of_le (hW.ρlt b r h) hext.size
theorem eY.mono {G':Gh}{w':World}(m:dV G w G' w') {l:List AV}{es:List MapEntry}(h:eY G w l es):eY G' w' l es:=h.imp fun _ _ _ hx=>hx.mono m
theorem wN (hW:aG G H E lv w) {id b:Nat}(hβ:G.β id=some (b,none)) (hρ:G.ρ b=none) {es es':Array MapEntry}{ck ck':Nat}(hb:w.heap[b]? = some (.map es ck)) {l:List AV}(hm:eY G w l es'.toList) :
 Ext G lv w G lv (cH w b (.map es' ck'))∧aG G (upd H id (.bool true::l)) E lv (cH w b (.map es' ck')):=by
 have hlt:b<w.heap.size:=hW.βlt hβ
 have hshp:∀ b',(cH w b (.map es' ck')).shape? b'=w.shape? b':=by
  intro b'
  by_cases h:b=b'
  ·subst h;rw [pE _ _ (dk hlt _),pE _ _ hb]
  ·exact cI (bT h _)
 have hext:Ext G lv w G lv (cH w b (.map es' ck')):=by
  refine ⟨fun _ _ h=>h,fun _ _ h=>h,fun _ _ h=>h,fun _ _ h _ _=>h,fun _ _ h=>h,?_,?_,fun b' _=>hshp b',by rw [cy];exact Nat.le_refl _,rfl,rfl,rfl,fun _ _ h=>h,fun _ _ h=>h⟩
  ·intro b' hb' ho
   exact bT (fun (e:b=b')=>ho (by subst e;exact .inl ⟨id,none,hβ⟩)) _
  ·intro b' i hσ
   have hne:b≠b':=fun e=>hW.nσ id b none hβ i (e▸hσ)
   exact cC (bT hne _) i
 refine ⟨hext,?_⟩
 constructor
 ·intro id' b' o' hb'
  have hid:id'≠id:=fun e=>by rw [e,hβ] at hb';simp at hb'
  have hne:b≠b':=fun e=>hid (hW.inj _ _ _ _ _ (e▸hb') hβ)
  obtain ⟨cs0,T0,fz0,h1,h2,h3,h4,h5⟩:=hW.obj _ _ _ hb'
  refine ⟨cs0,T0,fz0,(bT hne _).trans h1,by simpa [upd,hid] using h2,?_,?_,h5⟩
  ·intro i x hx
   simp only [upd,hid,if_false] at hx
   obtain ⟨k1,k2,v,k3,k4⟩:=h3 i x hx
   exact ⟨k1,k2,v,k3,k4.mono hext.mono⟩
  ·intro i hi
   simp only [upd,hid,if_false] at hi
   exact (aP (bT hne _) _).trans (h4 i hi)
 ·intro id' b' hb'
  by_cases hid:id'=id
  ·subst hid
   rw [hβ] at hb'
   simp only [Option.some.injEq,Prod.mk.injEq,and_true] at hb'
   subst hb'
   refine .of_map hρ (dk hlt _) ?_
   intro l' hl'
   simp only [upd,if_true,List.cons.injEq,true_and] at hl'
   subst hl'
   exact hm.mono hext.mono
  ·have hne:b≠b':=fun e=>hid (hW.inj _ _ _ _ _ (e▸hb') hβ)
   exact hW.mobj_of hext.mono hb' (bT hne _) (by simp [upd,hid])
 ·exact hW.nσ
 ·exact hW.inj
 ·intro br hbr
  obtain ⟨k1,bl,e,cs0,T0,fz0,k2,k3,k4,k5,k6⟩:=hW.tip br hbr
  have hne:b≠bl:=fun e=>k6 id none (e▸hβ)
  exact ⟨k1,bl,e,cs0,T0,fz0,k2,(bT hne _).trans k3,fun i c=>(aP (bT hne _) _).trans (k4 i c),k5,k6⟩
 ·exact hW.tinj
 ·intro b' i h;rw [cy];exact hW.σlt b' i h
 ·intro br b' e h;rw [cy];exact hW.τlt br b' e h
 ·intro b' r h;rw [cy];exact hW.ρlt b' r h
def ej:TypeDesc→Option Nat
 | .int _=>some 0
 | .bool=>some 1
 | .string=>some 2
 | _=>none
theorem wO {s t:ByteArray}:(s==t)=(s.data.toList==t.data.toList):=by
 rw [Bool.eq_iff_iff,MapKept.bytes_beq,beq_iff_eq]
 constructor
 ·intro h;rw [h]
 ·intro h;exact ByteArray.ext (Array.toList_inj.1 h)
theorem y9 {kd:Nat}{x y:AV}{r:Bool}(h:eqK kd x y=some r) (hk:kd<3) :
 (kd=0∧∃ k a b,x = .int k a∧y = .int k b∧r=(a==b))∨(kd=1∧∃ a b,x = .bool a∧y = .bool b∧r=(a==b))∨(kd=2∧∃ a b,x = .str a∧y = .str b∧r=(a==b)):=by
 unfold eqK at h
 split at h
 ·split at h
  ·rename_i hk;simp only [Option.some.injEq] at h;subst hk;exact .inl ⟨rfl,_,_,_,rfl,rfl,h.symm⟩
  ·cases h
 ·simp only [Option.some.injEq] at h;exact .inr (.inl ⟨rfl,_,_,rfl,rfl,h.symm⟩)
 ·simp only [Option.some.injEq] at h;exact .inr (.inr ⟨rfl,_,_,rfl,rfl,h.symm⟩)
 all_goals first | omega | cases h
theorem za {td:TypeDesc}{kd:Nat}(h:ej td=some kd):kd<3:=by
 unfold ej at h;split at h<;>simp only [Option.some.injEq,reduceCtorEq] at h<;>omega
theorem BN {td:TypeDesc}(h:ej td=some 0):∃ k,td = .int k:=by
 unfold ej at h;split at h<;>simp at h;exact ⟨_,rfl⟩
theorem BO {td:TypeDesc}(h:ej td=some 1):td = .bool:=by
 unfold ej at h;split at h<;>simp at h;rfl
theorem BP {td:TypeDesc}(h:ej td=some 2):td = .string:=by
 unfold ej at h;split at h<;>simp at h;rfl
theorem ky {kd:Nat}{td:TypeDesc}(hd:ej td=some kd) {x y:AV}{u v:Value}(hx:Rep G w x u) (hy:Rep G w y v) {r:Bool}(h:eqK kd x y=some r):Instr.sameNow td u v=some r∧(r=true→u=v):=by
 rcases y9 h (za hd) with ⟨rfl,k,a,b,rfl,rfl,rfl⟩ | ⟨rfl,a,b,rfl,rfl,rfl⟩ | ⟨rfl,a,b,rfl,rfl,rfl⟩
 ·obtain ⟨κ,rfl⟩:=BN hd
  rw [hx.inv_int,hy.inv_int]
  refine ⟨by simp [Instr.sameNow],fun hr=>?_⟩
  simp only [beq_iff_eq] at hr;rw [hr]
 ·have:=BO hd;subst this
  rw [hx.inv_bool,hy.inv_bool]
  refine ⟨by simp [Instr.sameNow],fun hr=>?_⟩
  simp only [beq_iff_eq] at hr;rw [hr]
 ·have:=BP hd;subst this
  obtain ⟨s,rfl,hs⟩:=hx.inv_str
  obtain ⟨t,rfl,ht⟩:=hy.inv_str
  refine ⟨by simp only [Instr.sameNow,wO,hs,ht],fun hr=>?_⟩
  simp only [beq_iff_eq] at hr
  rw [← hs,← ht] at hr
  rw [ByteArray.ext (Array.toList_inj.1 hr)]
theorem qR {kd:Nat}{td:TypeDesc}(hd:ej td=some kd) {k:AV}{u:Value}(hk:Rep G w k u):∀ {l:List AV}{es:List MapEntry}(i:Nat),eY G w l es→∀ {r:Option AV},getM kd k l=some r→
 (r=none∧Instr.findNow td u es i=some none)∨∃ (v:AV) (j:Nat) (e:MapEntry),r=some v∧Instr.findNow td u es i=some (some (i+j,e.val))∧Rep G w v e.val∧(stored v).isSome=true
 | [],[],i,_,r,h=>by simp only [getM,Option.some.injEq] at h;subst h;exact .inl ⟨rfl,rfl⟩
 | [],_::_,_,h,_,_=>h.elim
 | [_],[],_,h,_,_=>h.elim
 | [_],_::_,_,h,_,_=>h.elim
 | _::_::_,[],_,h,_,_=>h.elim
 | a::v::l,e::es,i,h,r,hr=>by
  obtain ⟨h1,h2,h3,h4,h5⟩:=h
  simp only [getM] at hr
  split at hr
  ·rename_i he
   simp only [Option.some.injEq] at hr;subst hr
   obtain ⟨q1,_⟩:=ky hd hk h2 he
   exact .inr ⟨v,0,e,rfl,by simp [Instr.findNow,q1],h4,h3⟩
  ·rename_i he
   obtain ⟨q1,_⟩:=ky hd hk h2 he
   rcases qR hd hk (i+1) h5 hr with ⟨m1,m2⟩ | ⟨v',j,e',m1,m2,m3,m4⟩
   ·exact .inl ⟨m1,by simp [Instr.findNow,q1,m2]⟩
   ·exact .inr ⟨v',j+1,e',m1,by simp only [Instr.findNow,q1,m2];rw [show i+1+j=i+(j+1) by omega],m3,m4⟩
  ·cases hr
theorem qS {kd:Nat}{td:TypeDesc}(hd:ej td=some kd) {k v:AV}{u x:Value}(hk:Rep G w k u) (hks:k.scalar=true) (hv:Rep G w v x) (hvs:(stored v).isSome=true):∀ {l:List AV}{es:List MapEntry}(i:Nat),eY G w l es→∀ {l':List AV},dU kd k v l=some l'→
 (Instr.findNow td u es i=some none∧∀ b,eY G w l' (es++[⟨u,x,b⟩]))∨∃ (j:Nat) (e:MapEntry),Instr.findNow td u es i=some (some (i+j,e.val))∧es[j]? = some e∧e.key=u∧eY G w l' (es.set j { e with key:=u,val:=x })
 | [],[],i,_,l',h=>by
  simp only [dU,Option.some.injEq] at h;subst h
  exact .inl ⟨rfl,fun b=>⟨hks,hk,hvs,hv,trivial⟩⟩
 | [],_::_,_,h,_,_=>h.elim
 | [_],[],_,h,_,_=>h.elim
 | [_],_::_,_,h,_,_=>h.elim
 | _::_::_,[],_,h,_,_=>h.elim
 | a::b::l,e::es,i,h,l',hr=>by
  obtain ⟨h1,h2,h3,h4,h5⟩:=h
  simp only [dU] at hr
  split at hr
  ·rename_i he
   simp only [Option.some.injEq] at hr;subst hr
   obtain ⟨q1,q2⟩:=ky hd hk h2 he
   exact .inr ⟨0,e,by simp [Instr.findNow,q1],rfl,(q2 rfl).symm,hks,hk,hvs,hv,h5⟩
  ·rename_i he
   obtain ⟨q1,_⟩:=ky hd hk h2 he
   obtain ⟨l2,hl2,rfl⟩:=Option.map_eq_some_iff.1 hr
   rcases qS hd hk hks hv hvs (i+1) h5 hl2 with ⟨m1,m2⟩ | ⟨j,e',m1,m2,m3,m4⟩
   ·exact .inl ⟨by simp [Instr.findNow,q1,m1],fun b=>⟨h1,h2,h3,h4,m2 b⟩⟩
   ·exact .inr ⟨j+1,e',by simp only [Instr.findNow,q1,m1];rw [show i+1+j=i+(j+1) by omega],m2,m3,h1,h2,h3,h4,m4⟩
  ·cases hr
theorem mS:∀ {l:List AV}{es:List MapEntry},eY G w l es→l.length=2*es.length
 | [],[],_=>rfl
 | [],_::_,h=>h.elim
 | [_],[],h=>h.elim
 | [_],_::_,h=>h.elim
 | _::_::_,[],h=>h.elim
 | _::_::l,_::es,h=>by
  have:=mS h.2.2.2.2
  simp only [List.length_cons];omega
theorem Rep.inv_mp {id:Nat}{v:Value}(h:Rep G w (.mp id) v):∃ b,v = .map (some b)∧G.β id=some (b,none):=by cases h;exact ⟨_,rfl,‹_›⟩
theorem Rep.inv_yl {id:Nat}{v:Value}(h:Rep G w (.yl id) v):∃ b,v = .func (.yield b) #[] #[]∧G.β id=some (b,none):=by cases h;exact ⟨_,rfl,‹_›⟩
theorem jz {kt:TypeId}{td:TypeDesc}{kd:Nat}(hu:P.underlying kt=some td) (hd:ej td=some kd) (em:Bool) (n:Nat) (v:Value):(Instr.checkKey em (n+1) kt v).run P w = .ok () w:=by
 unfold Instr.checkKey
 simp only [Sem.run_bind,run_underlying hu,Result.andThen]
 cases td<;>simp only [ej,reduceCtorEq] at hd<;>rfl
theorem uQ {x:AV}{u:Value}(h:Rep G w x u) (hs:x.scalar=true):(Instr.keyThatStays u u).run P w = .ok u w:=by
 have:Instr.sameBits 10000 u u=true:=by
  cases x<;>simp [AV.scalar] at hs
  ·rw [h.inv_int];simp [Instr.sameBits]
  ·rw [h.inv_bool];simp [Instr.sameBits]
  ·obtain ⟨s,rfl,_⟩:=h.inv_str
   simp only [Instr.sameBits]
   exact (MapKept.bytes_beq s s).2 rfl
 simp [Instr.keyThatStays,this]
theorem kz {t:TypeId}{kd:Nat}(h:qu P t=some kd):∃ kt et td,P.underlying t=some (.map kt et)∧P.underlying kt=some td∧ej td=some kd:=by
 unfold qu at h
 split at h
 ·rename_i kt et hu
  refine ⟨kt,et,?_⟩
  split at h<;>simp only [Option.some.injEq,reduceCtorEq] at h<;>subst h<;>exact ⟨_,hu,‹_›,rfl⟩
 ·cases h
theorem wP {t:TypeId}{z:AV}(h:nL P t=some z) (w:World):∃ zv,(zeroValue t).run P w = .ok zv w∧Rep G w z zv:=by
 unfold nL at h
 split at h
 ·rename_i i hi
  split at h
  ·rename_i cs hz
   obtain ⟨l,hl,rfl⟩:=Option.map_eq_some_iff.1 h
   obtain ⟨h1,_⟩:=qI (G:=G) (w:=w) hl
   exact ⟨_,by simp [zeroValue,typeInfo,hi,hz],h1.agg⟩
  ·rename_i zv _ hz
   exact ⟨zv,by simp [zeroValue,typeInfo,hi,hz],(oX h).1⟩
  ·cases h
 ·cases h
theorem AH {t:TypeId}{r:Option Operand}(ho:o.op = .makeMap t r) (hr:r=none∨∃ k n kt et,r=some (.const (.int k n))∧P.underlying t=some (.map kt et)) (hX:bP G w T ρ) (hW:aG G H E lv w) (hn:G.β nid=none)
 (he:au T H lv nid cb .mkm=some e):Does P G lv w H E nid cb ρ o e:=by
 simp only [au,Option.some.injEq] at he;subst he
 obtain ⟨h1,h2⟩:=wM hW hn
 have hrun:(execOp ρ o).run P w = .ok (.value (.map (some w.heap.size))) (w.alloc (.map #[] 0)):=by
  rcases hr with rfl | ⟨k,n,kt,et,rfl,hu⟩
  ·simp [execOp,ho,Instr.makeMap,Result.andThen]
  ·have hρ:ρ (.const (.int k n)) = .int k n:=(hX (.const (.int k n)) (.c (.int k n)) rfl).inv_int
   simp [execOp,ho,Instr.makeMap,Result.andThen,hρ,run_underlying hu];rfl
 refine ⟨.map (some w.heap.size),w.alloc (.map #[] 0),{ G with β:=bH G.β nid (w.heap.size,none) },.inl hrun,?_⟩
 have hl:Eff.live { v:=.mp nid,new:=some [.bool true] } lv cb=lv:=bV rfl rfl
 exact ⟨by rw [hl];exact h1,by rw [hl];exact h2,.mp _ _ (by simp [bH]),fun id hid=>by
  rcases hid with hid | hid
  ·exact cG _ hid
  ·simp at hid,fun _ _=>rfl⟩
theorem Fk {c:Call}{t kt et:TypeId}{x:Operand}{a:X}(ho:o.op = .call c) (hc:c.callee = .builtin .len) (hargs:c.args = #[x]) (ht:c.argTypes[0]? = some t)
 (hu:P.underlying t=some (.map kt et)) (hx:aI x=some a) (hX:bP G w T ρ) (hW:aG G H E lv w)
 (he:au T H lv nid cb (.mlen a)=some e):bQ P G w ρ o e:=by
 simp only [au] at he
 have h1:=hX _ _ hx
 split at he
 ·rename_i id heq
  split at he
  ·rename_i l hl
   simp only [Option.some.injEq] at he;subst he
   rw [heq] at h1
   obtain ⟨b,e1,hβ⟩:=h1.inv_mp
   obtain ⟨es,ck,hb,hm⟩:=(hl▸hW.mobj _ _ hβ:dj G w b (.bool true::l)).map
   have hlen:=mS hm
   refine aD ⟨.int .i64 es.size,gR ho hc hargs (by simp [Builtin.len_,ht,run_underlying hu,e1,goInt,MapKept.run_getObj_map hb]),?_⟩
   rw [show l.length/2=es.size by rw [hlen,Array.length_toList];omega]
   exact .int _ _
  ·cases he
 ·cases he
theorem Fl {t kt et:TypeId}{x y:Operand}{kd:Nat}{td:TypeDesc}{ok:Bool}{z:AV}{a b:X}(ho:o.op = .lookup t x y ok) (hu:P.underlying t=some (.map kt et)) (hk:P.underlying kt=some td) (hd:ej td=some kd) (hz:nL P et=some z)
 (hx:aI x=some a) (hy:aI y=some b) (hX:bP G w T ρ) (hW:aG G H E lv w) (he:au T H lv nid cb (.mget kd ok z a b)=some e):bQ P G w ρ o e:=by
 simp only [au] at he
 have h1:=hX _ _ hx
 have h2:=hX _ _ hy
 split at he
 ·rename_i id heq
  split at he
  ·rename_i l hl
   split at he
   ·rename_i hc
    rw [heq] at h1
    obtain ⟨bl,e1,hβ⟩:=h1.inv_mp
    obtain ⟨es,ck,hb,hm⟩:=(hl▸hW.mobj _ _ hβ:dj G w bl (.bool true::l)).map
    have key:∀ (r:Option AV),getM kd (ev T b) l=some r→∃ u,(Instr.lookup t (ρ x) (ρ y) ok).run P w = .ok u w∧Rep G w (if ok then .tup [r.getD z,.bool r.isSome] else r.getD z) u:=by
     intro r hr
     rcases qR hd h2 0 hm hr with ⟨rfl,h3⟩ | ⟨v,j,en,rfl,h3,h4,_⟩
     ·obtain ⟨zv,z1,z2⟩:=wP (G:=G) hz w
      refine ⟨if ok then .tuple #[zv,.bool false] else zv,?_,?_⟩
      ·simp [Instr.lookup,e1,run_underlying hu,MapKept.run_getObj_map hb,jz hk hd,MapKept.run_findKey hk h3,z1,Result.andThen]
      ·cases ok
       ·exact z2
       ·simp only [if_true,Option.getD_none,Option.isSome_none]
        exact .tup _ _ rfl (by
         intro i x v hx hv
         match i with
         | 0=>simp at hx hv;subst hx;subst hv;exact z2
         | 1=>simp at hx hv;subst hx;subst hv;exact .bool _
         | i+2=>simp at hx)
     ·refine ⟨if ok then .tuple #[en.val,.bool true] else en.val,?_,?_⟩
      ·simp [Instr.lookup,e1,run_underlying hu,MapKept.run_getObj_map hb,jz hk hd,MapKept.run_findKey hk h3,Result.andThen]
      ·cases ok
       ·exact h4
       ·simp only [if_true,Option.getD_some,Option.isSome_some]
        exact .tup _ _ rfl (by
         intro i x v hx hv
         match i with
         | 0=>simp at hx hv;subst hx;subst hv;exact h4
         | 1=>simp at hx hv;subst hx;subst hv;exact .bool _
         | i+2=>simp at hx)
    have fin:∀ (u:Value) (v:AV),(Instr.lookup t (ρ x) (ρ y) ok).run P w = .ok u w→Rep G w v u→bQ P G w ρ o { v }:=by
     intro u v q1 q2
     exact aD ⟨u,by simp [execOp,ho,q1],q2⟩
    split at he
    ·rename_i v hg
     simp only [Option.some.injEq] at he;subst he
     obtain ⟨u,q1,q2⟩:=key _ hg
     exact fin u _ q1 q2
    ·rename_i hg
     simp only [Option.some.injEq] at he;subst he
     obtain ⟨u,q1,q2⟩:=key _ hg
     exact fin u _ q1 q2
    ·cases he
   ·cases he
  ·cases he
 ·cases he
theorem wQ {t kt et:TypeId}{x y z:Operand}{kd:Nat}{td:TypeDesc}{a b c:X}(ho:o.op = .insert t x y z∨o.op = .mapUpdate t x y z) (hu:P.underlying t=some (.map kt et)) (hk:P.underlying kt=some td) (hd:ej td=some kd)
 (hx:aI x=some a) (hy:aI y=some b) (hz:aI z=some c) (hX:bP G w T ρ) (hW:aG G H E lv w) (he:au T H lv nid cb (.mupd kd a b c)=some e):Does P G lv w H E nid cb ρ o e:=by
 simp only [au] at he
 have h1:=hX _ _ hx
 have h2:=hX _ _ hy
 have h3:=hX _ _ hz
 split at he
 ·rename_i id heq
  split at he
  ·rename_i l hl
   split at he
   ·rename_i hc
    obtain ⟨_,hsc,hst⟩:=hc
    split at he
    ·rename_i l' hset
     simp only [Option.some.injEq] at he;subst he
     rw [heq] at h1
     obtain ⟨bl,e1,hβ⟩:=h1.inv_mp
     have hρ:=(hl▸hW.mobj _ _ hβ:dj G w bl (.bool true::l)).isMap
     obtain ⟨es,ck,hb,hm⟩:=(hl▸hW.mobj _ _ hβ:dj G w bl (.bool true::l)).map
     have key:∃ es' ck',(Instr.mapUpdate t (ρ x) (ρ y) (ρ z)).run P w = .ok () (cH w bl (.map es' ck'))∧eY G w l' es'.toList:=by
      rcases qS hd h2 hsc h3 hst 0 hm hset with ⟨q1,q2⟩ | ⟨j,en,q1,q2,q3,q4⟩
      ·refine ⟨es.push { key:=ρ y,val:=ρ z,born:=ck },ck+1,?_,by rw [Array.toList_push];exact q2 ck⟩
       simp [Instr.mapUpdate,e1,run_underlying hu,MapKept.run_getObj_map hb,jz hk hd,MapKept.run_findKey hk q1,MapKept.run_setObj_map _ hb,Result.andThen,cH]
      ·have hg:es[j]? = some en:=by rw [← Array.getElem?_toList];exact q2
       refine ⟨es.modify j fun e=>{ e with key:=ρ y,val:=ρ z },ck,?_,?_⟩
       ·simp [Instr.mapUpdate,e1,run_underlying hu,MapKept.run_getObj_map hb,jz hk hd,MapKept.run_findKey hk q1,MapKept.run_setObj_map _ hb,Result.andThen,cH,hg,q3,uQ h2 hsc]
       ·have:(es.modify j fun e=>{ e with key:=ρ y,val:=ρ z }).toList=es.toList.set j { en with key:=ρ y,val:=ρ z }:=by
         apply List.ext_getElem?
         intro i
         rw [Array.getElem?_toList,Array.getElem?_modify,List.getElem?_set]
         by_cases hij:j=i
         ·subst hij
          have hlt:j<es.toList.length:=(List.getElem?_eq_some_iff.1 q2).1
          simp only [if_true,hg,hlt,Option.map_some]
         ·simp only [if_neg hij,Array.getElem?_toList]
        rw [this];exact q4
     obtain ⟨es',ck',hrun,hm'⟩:=key
     obtain ⟨g1,g2⟩:=wN (E:=E) hW hβ hρ hb hm'
     refine ⟨undef,cH w bl (.map es' ck'),G,.inr ⟨?_,rfl⟩,?_⟩
     ·rcases ho with ho | ho<;>simp [execOp,ho,hrun]
     ·have hl:Eff.live { v:=.tup [],wr:=some (id,.bool true::l') } lv cb=lv:=bV rfl rfl
      exact ⟨by rw [hl];exact g1,by rw [hl];exact g2,.tup _ _ rfl (by simp),fun _ _=>rfl,fun _ _=>rfl⟩
    ·cases he
   ·cases he
  ·cases he
 ·cases he
end
end Go.Abs
/- An append that makes an object. Condition: the state says what is in memory ('WRel', 'Rep'). -/
namespace Go.Abs
section
variable {P:Program}{G:Gh}{w:World}{T:Nat→AV}{H:Hp}{E:Nat→Option TypeId}{lv:Nat→Bool}{nid cb:Nat}{ρ:Operand→Value}{hint:Hint}{o:Oper}{io:IOp}{e:Eff}
theorem Fm {c:Call}{el:TypeId}{i:TypeInfo}{x y:Operand}{a b:X}(ho:o.op = .call c) (hc:c.callee = .builtin .append) (hargs:c.args = #[x,y]) (ht:qP P c.argTypes el i) (hx:aI x=some a) (hy:aI y=some b) (hX:bP G w T ρ) (hW:aG G H E lv w)
 (hn:G.β nid=none) (he:au T H lv nid cb (.appo i.size i.bytes a b)=some e):Does P G lv w H E nid cb ρ o e:=by
 simp only [au] at he
 have h1:=hX _ _ hx
 have h2:=hX _ _ hy
 split at he
 ·rename_i br s xs ys heq hsrc
  split at he
  ·rename_i hcond
   obtain ⟨hbr,hss,hs0,hb0,hy0,hroom⟩:=hcond
   rw [heq] at h1
   obtain ⟨m,l1,l2,l3,l4⟩:=lB (P:=P) hsrc hs0 h2 hW
   obtain ⟨arr,f1,f2⟩:=l4 m (Nat.le_refl _) w (fun _ _=>rfl)
   obtain ⟨arr',f1',f2'⟩:=l4 m (Nat.le_refl _) w.drew (fun _ _=>rfl)
   rw [List.take_of_length_le (by omega)] at f2 f2'
   -- the slice that is appended to
   obtain ⟨base,sl,sc,e1,hlen,hrow,hcase⟩:∃ base sl sc,ρ x = .slice base sl sc∧xs.length=sl*i.size∧
    (∃ old:Array Value,(Builtin.firstCells i.size sl (.slice base sl sc)).run P w.drew = .ok old w.drew∧Row G w xs old∧∀ x∈xs,x.flat=true)∧
    ((Emp br base sc∧xs=[]∧sl=0)∨∃ bl off,base=some ⟨bl,off,none⟩∧br≠0∧sl≤sc∧Cells G w bl off xs∧(br=3→sc=sl)∧(4≤br→G.τ br=some (bl,off+xs.length)∧∃ E c,w.shape? bl=some (E,c)∧off+sc*i.size≤c)):=by
    rcases h1.inv_sl with ⟨p,cap,e1,hbr1,rfl⟩ | ⟨bl,off,len,cap,e1,hnb,hsz,hlen,hcl,hcs,h0,h3⟩
    ·exact ⟨p,0,cap,e1,by simp,⟨#[],by cases p<;>simp [Builtin.firstCells,loadCells,loadCellsFrom],⟨rfl,by simp⟩,by simp⟩,.inl ⟨hbr1,rfl,rfl⟩⟩
    ·have hl:xs.length=len*i.size:=by
      rcases hss with rfl | ⟨rfl,_⟩
      ·exact hlen
      ·simp only [List.length_nil] at hlen ⊢
       have:len=0:=by
        rcases Nat.eq_zero_or_pos len with h | h
        ·exact h
        ·have:=Nat.mul_pos h hsz;omega
       simp [this]
     refine ⟨some ⟨bl,off,none⟩,len,cap,e1,hl,?_,.inr ⟨bl,off,rfl,hnb,hcl,hcs,h0,fun h4=>?_⟩⟩
     ·have hm':Cells G w.drew bl off xs:=hcs.mono ⟨fun _ _ h=>h,fun _ _ h=>h,fun _ _ h=>h,fun _ _ _=>rfl,fun _ _=>rfl,fun _ _ h=>h,fun _ _ h=>h⟩
      obtain ⟨old,o1,o2⟩:=kn (P:=P) hm'
      refine ⟨old,?_,⟨o2.1,fun j x v hx hv=>?_⟩,fun x hx=>?_⟩
      ·rw [hl] at o1
       exact o1
      ·obtain ⟨q1,q2⟩:=o2.2 j x v hx hv
       exact ⟨q1,q2.mono ⟨fun _ _ h=>h,fun _ _ h=>h,fun _ _ h=>h,fun _ _ _=>rfl,fun _ _=>rfl,fun _ _ h=>h,fun _ _ h=>h⟩⟩
      ·obtain ⟨j,hj⟩:=List.getElem?_of_mem hx
       obtain ⟨_,_,_,q,_⟩:=hcs j x hj
       exact q
     ·rcases hss with rfl | ⟨_,h⟩
      ·exact h3 h4
      ·omega
   obtain ⟨old,o1,o2,o3⟩:=hrow
   have hdiv:(xs.length+ys.length)/i.size=sl+m:=by rw [hlen,l2,← Nat.add_mul];exact Nat.mul_div_cancel _ hs0
   rw [hdiv] at hroom
   have hm1:0<m:=by
    rcases Nat.eq_zero_or_pos m with h | h
    ·subst h
     exact absurd (List.length_eq_zero_iff.1 (by omega:ys.length=0)) hy0
    ·exact h
   have hgt:sc<sl+m:=by
    rcases hcase with ⟨hbr1,_,h1⟩ | ⟨bl,off,_,hnb,hle,_,h0,_⟩
    ·unfold Emp at hbr1;omega
    ·have h5:=h0 (hbr.resolve_left hnb)
     rw [h5];exact Nat.lt_add_of_pos_right hm1
   obtain ⟨cap,rest,g1,g2,g3⟩:=qQ (P:=P) (w:=w) (ty:=o.type) ht l1 f1' o1 hgt hb0 hroom
   have hol:old.size=sl*i.size:=by rw [← o2.1,hlen]
   have hal:arr'.size=m*i.size:=by rw [← f2'.1,l2]
   have hcm:cap*i.size=(sl+m)*i.size+(cap-(sl+m))*i.size:=by rw [← Nat.add_mul];congr 1;omega
   have hsum:(sl+m)*i.size=sl*i.size+m*i.size:=Nat.add_mul _ _ _
   have hrun:=hZ (P:=P) (w:=w) (ρ:=ρ) ho hc hargs (by rw [e1];exact g3)
   have hget:∀ (j:Nat) (z:AV),(xs++ys)[j]? = some z→∃ v,(old++arr'++rest)[j]? = some v∧z.leaf=true∧Rep G w z v:=by
    intro j z hz
    by_cases hj:j<xs.length
    ·rw [List.getElem?_append_left hj] at hz
     obtain ⟨v,p1,p2,p3⟩:=o2.get hz
     have hjo:j<old.size:=by omega
     exact ⟨v,by rw [Array.append_assoc,Array.getElem?_append_left hjo];exact p1,p2,p3⟩
    ·rw [List.getElem?_append_right (by omega)] at hz
     obtain ⟨v,p1,p2,p3⟩:=f2'.get hz
     have hjl:j-xs.length<arr'.size:=by rw [← f2'.1];exact (List.getElem?_eq_some_iff.1 hz).1
     refine ⟨v,?_,p2,p3⟩
     rw [Array.append_assoc,Array.getElem?_append_right (by omega),Array.getElem?_append_left (by omega)]
     rw [show j-old.size=j-xs.length by omega]
     exact p1
   simp only [Option.some.injEq] at he;subst he
   obtain ⟨a1,a2⟩:=ko (hW.drew) (xs:=xs++ys) (arr:=old++arr'++rest) (by simp;omega)
    (fun j x hj=>by obtain ⟨v,p1,p2,p3⟩:=hget j x hj;exact ⟨v,p1,p2,p3.drew⟩) hn (fun x hx=>by
     obtain ⟨j,hj⟩:=List.getElem?_of_mem hx
     obtain ⟨v,_,_,p3⟩:=hget j x hj
     refine ku ?_ p3 nid
     rcases List.mem_append.1 hx with hx | hx
     ·exact o3 x hx
     ·exact l3 x hx) el none (fun _ h=>by simp at h)
   refine ⟨_,_,{ G with β:=bH G.β nid (w.drew.heap.size,some 0) },.inl hrun,?_⟩
   have hl':Eff.live { v:=AV.osl nid 0 ((xs.length+ys.length)/i.size) i.size,new:=some (xs++ys) } lv cb=lv:=bV rfl rfl
   refine ⟨by rw [hl'];exact (Ext.drew _ _ _).trans a1,by rw [hl'];exact a2,by rw [hdiv];exact .osl nid 0 (sl+m) i.size cap w.drew.heap.size 0 (cU _ _ _) hs0 (by omega),fun id hid=>?_,fun _ _=>rfl⟩
   rcases hid with hid | hid
   ·exact cG _ hid
   ·simp at hid
  ·simp at he
 ·simp at he
end
end Go.Abs
/- Every resolved operation that calls nothing does what its effect says. Condition: the state says what is in memory ('WRel', 'Rep'). -/
namespace Go.Abs
section
variable {P:Program}{G:Gh}{w:World}{T:Nat→AV}{H:Hp}{E:Nat→Option TypeId}{lv:Nat→Bool}{nid cb:Nat}{ρ:Operand→Value}{hint:Hint}{o:Oper}{io:IOp}{e:Eff}
theorem qT {x:AV}{cs:List AV}{n:Nat}(h:stored x=some cs) (hu:x.under n=true):∀ y∈cs,y.under n=true:=by
 cases x<;>simp only [stored,Option.some.injEq,reduceCtorEq] at h<;>subst h
 case agg=>simpa only [AV.under,bO] using hu
 all_goals (intro y hy;simp only [List.mem_singleton] at hy;subst hy;exact hu)
theorem aC {α β:Type}{f:α→β}{x:Option α}{y:β}(h:x.map f=some y):∃ a,x=some a∧y=f a:=by
 cases x with
 | none=>simp at h
 | some a=>simp only [Option.map_some,Option.some.injEq] at h;exact ⟨a,rfl,h.symm⟩
structure Pre (G:Gh) (w:World) (T:Nat→AV) (H:Hp) (E:Nat→Option TypeId) (lv:Nat→Bool) (nid cb:Nat) (ρ:Operand→Value) (io:IOp):Prop where
 X:bP G w T ρ
 W:aG G H E lv w
 n:G.β nid=none
 b:4≤cb
 τ:G.τ cb=none
 U:∀ (y:Operand) (x:Go.Abs.X),aI y=some x→x∈io.xs→(ev T x).under nid=true
theorem lC {α:Type}{c:Bool}{x:Option α}{y:α}(h:(if c=true then none else x)=some y):c=false∧x=some y:=by
 cases c
 ·exact ⟨rfl,by simpa using h⟩
 ·simp at h
theorem wR {c:Call}(hop:o.op = .call c) (hr:gh P hint o c=some io) (hc:bg io=false) (h:Pre G w T H E lv nid cb ρ io) (he:au T H lv nid cb io=some e):Does P G lv w H E nid cb ρ o e:=by
 unfold gh at hr
 split at hr
 ·-- append
  rename_i x y hcal hargs
  have hargs':c.args = #[x,y]:=by apply Array.toList_inj.1;simpa using hargs
  split at hr
  ·rename_i el d xa ya h0 h1 hx hy
   split at hr
   ·rename_i i hi
    obtain ⟨hcond,hr⟩:=lC hr
    simp only [Option.some.injEq] at hr;subst hr
    simp only [Bool.or_eq_false_iff,decide_eq_false_iff_not,Decidable.not_not] at hcond
    obtain ⟨hd,hz⟩:=hcond
    obtain ⟨t,t1,t2⟩:=Option.bind_eq_some_iff.1 h0
    obtain ⟨u,u1,u2⟩:=Option.bind_eq_some_iff.1 h1
    obtain ⟨z,z1,z2⟩:=aC hz
    have hat:qP P c.argTypes el i:=by
     exact ⟨⟨t,t1,t2⟩,⟨u,d,u1,u2,fun k hk=>by subst hk;simp at hd⟩,hi,⟨z,z1,z2.symm⟩⟩
    split at he<;>split at he<;>first
     | exact Fm hop hcal hargs' hat hx hy h.X h.W h.n he
     | exact Ty hop hcal hargs' hat hx hy h.X h.W h.b h.τ he
   ·simp at hr
  ·simp at hr
 ·-- copy
  rename_i x y hcal hargs
  have hargs':c.args = #[x,y]:=by apply Array.toList_inj.1;simpa using hargs
  split at hr
  ·rename_i el xa ya h0 hx hy
   obtain ⟨s,hs,rfl⟩:=aC hr
   obtain ⟨t,t1,t2⟩:=Option.bind_eq_some_iff.1 h0
   exact Tv hop hcal hargs' t1 t2 hs hx hy h.X h.W he
  ·simp at hr
 ·-- len
  rename_i x hcal hargs
  have hargs':c.args = #[x]:=by apply Array.toList_inj.1;simpa using hargs
  split at hr
  ·rename_i el xa h0 hx
   split at hr
   ·rename_i s hs
    split at hr
    ·rename_i hs0
     simp only [Option.some.injEq] at hr;subst hr
     obtain ⟨t,t1,t2⟩:=Option.bind_eq_some_iff.1 h0
     exact (Tm hop hcal hargs' t1 t2 hx h.X he).does h.W
    ·simp at hr
   ·simp at hr
  ·rename_i xa h0 hx
   simp only [Option.some.injEq] at hr;subst hr
   obtain ⟨t,t1,t2⟩:=Option.bind_eq_some_iff.1 h0
   exact (Fg hop hcal hargs' t1 t2 hx h.X he).does h.W
  ·rename_i kt et xa h0 hx
   simp only [Option.some.injEq] at hr;subst hr
   obtain ⟨t,t1,t2⟩:=Option.bind_eq_some_iff.1 h0
   exact (Fk hop hcal hargs' t1 t2 hx h.X h.W he).does h.W
  ·rename_i m el xa h0 hx
   simp only [Option.some.injEq] at hr;subst hr
   obtain ⟨t,t1,t2⟩:=Option.bind_eq_some_iff.1 h0
   simp only [au,ev,Option.some.injEq] at he;subst he
   exact (Fh hop hcal hargs' t1 t2).does h.W
  ·simp at hr
 ·rename_i x xs hcal hargs
  obtain ⟨l,hl,rfl⟩:=aC hr
  exact (Fi (mx:=false) hop hcal hargs hl h.X he).does h.W
 ·rename_i x xs hcal hargs
  obtain ⟨l,hl,rfl⟩:=aC hr
  exact (Fi (mx:=true) hop hcal hargs hl h.X he).does h.W
 ·-- a function
  split at hr
  ·split at hr
   ·obtain ⟨l,hl,rfl⟩:=aC hr
    split at hc
    ·simp [bg] at hc
    ·split at hc
     ·split at hc<;>simp [bg] at hc
     ·simp [bg] at hc
   ·simp at hr
  ·simp at hr
 ·obtain ⟨l,hl,rfl⟩:=aC hr
  simp [bg] at hc
 ·split at hr
  ·simp only [Option.some.injEq] at hr;subst hr
   simp [bg] at hc
  ·simp at hr
 ·simp at hr
theorem BQ (hr:gw P hint o=some io) (hc:bg io=false) (h:Pre G w T H E lv nid cb ρ io) (he:au T H lv nid cb io=some e):Does P G lv w H E nid cb ρ o e:=by
 unfold gw at hr
 split at hr
 ·rename_i x hop
  obtain ⟨a,ha,rfl⟩:=aC hr
  simp only [au,Option.some.injEq] at he;subst he
  exact (wB (.inl hop) ha h.X).does h.W
 ·rename_i x hop
  obtain ⟨a,ha,rfl⟩:=aC hr
  simp only [au,Option.some.injEq] at he;subst he
  exact (wB (.inr hop) ha h.X).does h.W
 ·rename_i x y z hop
  split at hr
  ·rename_i a b d ha hb hd
   simp only [Option.some.injEq] at hr;subst hr
   exact (E5 hop ha hb hd h.X he).does h.W
  ·simp at hr
 ·rename_i t hop
  obtain ⟨z,hz,rfl⟩:=aC hr
  simp only [au,Option.some.injEq] at he;subst he
  exact Ts hop hz h.W h.n
 ·rename_i t x hop
  split at hr
  ·obtain ⟨a,ha,rfl⟩:=aC hr
   simp only [au] at he
   split at he
   ·rename_i cs hcs
    split at he
    ·rename_i hfl
     simp only [Option.some.injEq] at he;subst he
     exact Fj hop ha hcs hfl h.X h.W
    ·simp at he
   ·simp at he
  obtain ⟨a,ha,rfl⟩:=aC hr
  simp only [au] at he
  split at he
  ·rename_i cs hcs
   simp only [Option.some.injEq] at he;subst he
   exact Tt hop ha hcs h.X h.W h.n (qT hcs (h.U _ a ha (by simp [IOp.xs])))
  ·simp at he
 ·rename_i t parts hop
  split at hr
  ·rename_i z fs hz hu
   split at hr
   ·rename_i l hl
    obtain ⟨ps,hps,rfl⟩:=aC hr
    exact (tp hop hz (.inl ⟨fs,l,hu,hl,hps⟩) h.X he).does h.W
   ·simp at hr
  ·rename_i z m el hz hu
   split at hr
   ·rename_i s hs
    obtain ⟨ps,hps,rfl⟩:=aC hr
    exact (tp hop hz (.inr ⟨m,el,s,hu,hs,hps⟩) h.X he).does h.W
   ·simp at hr
  ·simp at hr
 ·rename_i t len parts hop
  split at hr
  ·rename_i el hu
   split at hr
   ·rename_i s z hs hz
    split at hr
    ·rename_i hcond
     obtain ⟨ps,hps,rfl⟩:=aC hr
     exact Tu hop hu hs hz hcond hps h.X h.W h.n he
    ·simp at hr
   ·simp at hr
  ·simp at hr
 ·rename_i t x hop
  split at hr
  ·rename_i s g a hs hg ha
   simp only [Option.some.injEq] at hr;subst hr
   exact (E6 hop hs hg ha h.X h.W he).does h.W
  ·simp at hr
 ·rename_i t x y hop
  split at hr
  ·rename_i s a b hs ha hb
   simp only [Option.some.injEq] at hr;subst hr
   exact BM hop hs ha hb h.X h.W he
  ·simp at hr
 ·rename_i x hop
  obtain ⟨a,ha,rfl⟩:=aC hr
  exact (E7 hop ha h.X he).does h.W
 ·rename_i op t x y yt hop
  split at hr
  ·rename_i a b ha hb
   split at hr
   ·rename_i hopq
    split at hr
    ·simp only [Option.some.injEq] at hr;subst hr
     exact (uM hop ha hb h.X he).does h.W
    ·simp only [Option.some.injEq] at hr;subst hr
     exact (uM hop ha hb h.X he).does h.W
    ·rename_i el hu
     split at hr
     ·rename_i s hs
      split at hr
      ·rename_i hs0
       simp only [Option.some.injEq] at hr;subst hr
       exact (uL hop hopq ha hb (.inr (.inl ⟨rfl,el,s,hu,hs,hs0⟩)) h.X he).does h.W
      ·simp at hr
     ·simp at hr
    ·rename_i ps rs v hu
     split at hr
     ·simp only [Option.some.injEq] at hr;subst hr
      exact (uL hop hopq ha hb (.inr (.inr (.inl ⟨rfl,_,_,_,hu⟩))) h.X he).does h.W
     ·simp at hr
    ·rename_i el hu
     split at hr
     ·simp only [Option.some.injEq] at hr;subst hr
      exact (uL hop hopq ha hb (.inr (.inr (.inr ⟨rfl,_,hu⟩))) h.X he).does h.W
     ·simp at hr
    ·rename_i hu
     simp only [Option.some.injEq] at hr;subst hr
     exact (uL hop hopq ha hb (.inl ⟨rfl,hu⟩) h.X he).does h.W
    ·rename_i fs hu
     split at hr
     ·rename_i ks hks
      split at hr
      ·simp at hr
      ·rename_i hg
       simp only [Option.some.injEq] at hr;subst hr
       exact (AG hop hopq ha hb (.inl ⟨_,hu⟩) hks (by simpa using hg) h.X he).does h.W
     ·simp at hr
    ·rename_i m el hu
     split at hr
     ·rename_i ks hks
      split at hr
      ·simp at hr
      ·rename_i hg
       simp only [Option.some.injEq] at hr;subst hr
       exact (AG hop hopq ha hb (.inr ⟨_,_,hu⟩) hks (by simpa using hg) h.X he).does h.W
     ·simp at hr
    ·simp at hr
   ·simp only [Option.some.injEq] at hr;subst hr
    exact (uM hop ha hb h.X he).does h.W
  ·simp at hr
 ·rename_i op t x hop
  obtain ⟨a,ha,rfl⟩:=aC hr
  exact (ZJ hop ha h.X he).does h.W
 ·rename_i s d x hop
  split at hr
  ·rename_i k0 k a hs hd ha
   simp only [Option.some.injEq] at hr;subst hr
   exact (Fb hop hs hd ha h.X he).does h.W
  ·rename_i a hs hd ha
   simp only [Option.some.injEq] at hr;subst hr
   exact (Tc hop hs hd ha h.X he).does h.W
  ·rename_i el a hs hd ha
   split at hr
   ·rename_i hel
    simp only [Option.some.injEq] at hr;subst hr
    exact Tx hop hs hd hel ha h.X h.W h.b h.τ he
   ·simp at hr
  ·rename_i el a hs hd ha
   split at hr
   ·rename_i hel
    simp only [Option.some.injEq] at hr;subst hr
    exact (Td hop hs hd hel ha h.X he).does h.W
   ·simp at hr
  ·simp at hr
 ·rename_i t x hop
  split at hr
  ·rename_i m el a hu ha
   obtain ⟨s,hs,rfl⟩:=aC hr
   exact (Te hop hu ha h.X he).does h.W
  ·simp at hr
 ·rename_i t x i hop
  split at hr
  ·rename_i fs a hu ha
   split at hr
   ·rename_i f hf
    split at hr
    ·rename_i s hs
     split at hr
     ·simp at hr
     ·rename_i hs0
      simp only [Option.some.injEq] at hr;subst hr
      exact (Fc hop hu hf hs hs0 ha h.X he).does h.W
    ·simp at hr
   ·simp at hr
  ·simp at hr
 ·rename_i t x i hop
  split at hr
  ·rename_i fs a hu ha
   split at hr
   ·rename_i f hf
    split at hr
    ·rename_i s g hs hg
     simp only [Option.some.injEq] at hr;subst hr
     exact (Tf hop hu hf hs hg ha h.X he).does h.W
    ·simp at hr
   ·simp at hr
  ·simp at hr
 ·rename_i t x y hop
  split at hr
  ·rename_i m el a b hu ha hb
   obtain ⟨s,hs,rfl⟩:=aC hr
   exact (Tg hop hu hs ha hb h.X he).does h.W
  ·rename_i el a b hu ha hb
   obtain ⟨s,hs,rfl⟩:=aC hr
   exact (Th hop hu hs ha hb h.X he).does h.W
  ·simp at hr
 ·rename_i t x y hop
  split at hr
  ·rename_i m el a b hu ha hb
   split at hr
   ·rename_i s g hs hg
    simp only [Option.some.injEq] at hr;subst hr
    exact (Ti hop hu hs hg ha hb h.X he).does h.W
   ·simp at hr
  ·rename_i a b hu ha hb
   simp only [Option.some.injEq] at hr;subst hr
   exact (Tj hop hu ha hb h.X he).does h.W
  ·simp at hr
 ·rename_i x i hop
  obtain ⟨a,ha,rfl⟩:=aC hr
  exact (Tk hop ha h.X he).does h.W
 ·rename_i f fs cs hop
  split at hr
  ·rename_i la lb ha hb
   simp only [Option.some.injEq] at hr;subst hr
   simp only [au,Option.some.injEq] at he;subst he
   exact (Tl hop ha hb h.X).does h.W
  ·simp at hr
 ·rename_i t l c hop
  split at hr
  ·rename_i el a b hu ha hb
   split at hr
   ·rename_i i z hi hz
    simp only [Option.some.injEq] at hr;subst hr
    exact Tw hop hu hi hz rfl ha hb h.X h.W h.n h.b h.τ he
   ·simp at hr
  ·simp at hr
 ·rename_i t x lo hi mx hop
  split at hr
  ·rename_i m el a la lb lc hu ha hlo hhi hmx
   split at hr
   ·rename_i s hs
    split at hr
    ·simp at hr
    ·rename_i hcond
     simp only [Option.some.injEq] at hr;subst hr
     simp only [not_or,Bool.and_eq_true,not_and,Bool.not_eq_true] at hcond
     refine (Tq hop hu hs (by omega) ha hlo hhi hmx (fun hm=>?_) h.X he).does h.W
     have:=hcond.2 hm
     cases lb<;>simp at this ⊢
   ·simp at hr
  ·rename_i el a la lb lc hu ha hlo hhi hmx
   split at hr
   ·rename_i s hs
    split at hr
    ·simp at hr
    ·rename_i hcond
     simp only [Option.some.injEq] at hr;subst hr
     simp only [Bool.and_eq_true,not_and,Bool.not_eq_true] at hcond
     refine (Tp hop hu hs ha hlo hhi hmx (fun hm=>?_) h.X he).does h.W
     have:=hcond hm
     cases lb<;>simp at this ⊢
   ·simp at hr
  ·rename_i a la lb hu ha hlo hhi hmx
   simp only [Option.some.injEq] at hr;subst hr
   have:=eZ hmx;subst this
   exact (To hop hu ha hlo hhi h.X he).does h.W
  ·simp at hr
 ·rename_i c hop
  exact wR hop hr hc h he
 ·rename_i t r hop
  split at hr
  ·rename_i hu
   simp only [Option.some.injEq] at hr;subst hr
   exact AH hop (.inl rfl) h.X h.W h.n he
  ·rename_i hu
   simp only [Option.some.injEq] at hr;subst hr
   exact AH hop (.inr ⟨_,_,_,_,rfl,hu⟩) h.X h.W h.n he
  ·simp at hr
 ·rename_i t m k v hop
  split at hr
  ·rename_i kd a b c hk ha hb hc'
   simp only [Option.some.injEq] at hr;subst hr
   obtain ⟨kt,et,td,q1,q2,q3⟩:=kz hk
   exact wQ (.inl hop) q1 q2 q3 ha hb hc' h.X h.W he
  ·simp at hr
 ·rename_i t m k v hop
  split at hr
  ·rename_i kd a b c hk ha hb hc'
   simp only [Option.some.injEq] at hr;subst hr
   obtain ⟨kt,et,td,q1,q2,q3⟩:=kz hk
   exact wQ (.inr hop) q1 q2 q3 ha hb hc' h.X h.W he
  ·simp at hr
 ·rename_i t m k ok hop
  split at hr
  ·rename_i kd z a b hk hz ha hb
   simp only [Option.some.injEq] at hr;subst hr
   obtain ⟨kt,et,td,q1,q2,q3⟩:=kz hk
   have hz':nL P et=some z:=by unfold AD at hz;rw [q1] at hz;exact hz
   exact (Fl hop q1 q2 q3 hz' ha hb h.X h.W he).does h.W
  ·simp at hr
 ·rename_i t x hop
  split at hr
  ·simp at hr
  ·rename_i d a hd hu ha
   simp only [Option.some.injEq] at hr;subst hr
   exact (Ff hop hu (fun ms h'=>hd ms h') ha h.X he).does h.W
  ·simp at hr
 ·simp at hr
end
end Go.Abs
/- Calls: what a call gives to the caller, out of what is known of the callee. Condition: the callee does what the evaluator says ('Sound'). -/
namespace Go.Abs
def Enters (P:Program) (f:FuncId):Prop:=∃ fn,P.funcs[f]? = some fn∧fn.body.isSome=true∧(fn.name == "runtime.NumGoroutine")=false
abbrev Fr (q:Option Nat):Fence:={ Fence.wide with round:=q }
def wS (P:Program) (y:fW) (b:Nat) (G:Gh) (w:World):Prop:=∀ (vs:List AV) (hs:Hs) (E:Nat→Option TypeId) (r:AV) (hs':Hs),y vs hs E=some (r,hs')→
 hs'.n=hs.n∧hs.c≤hs'.c∧
 ∀ (args:Array Value),vs.length=args.size→(∀ (i:Nat) (x:AV) (v:Value),vs[i]? = some x→args[i]? = some v→Rep G w x v)→aG G hs.H E hs.lv w→
  (∀ id,hs.n≤id→G.β id=none)→(∀ b,hs.c≤b→G.τ b=none)→4≤hs.c→
  YieldAt Fence.wide 0 P b args w fun e w'=>∃ v G',e = .returned v∧Ext G hs.lv w G' hs'.lv w'∧aG G' hs'.H E hs'.lv w'∧Rep G' w' r v∧(∀ id,G'.β id=G.β id)∧(∀ b,hs'.c≤b→G'.τ b=none)
def cl (P:Program) (env:Env) (G:Gh) (w:World):Prop:=∀ id y,env id=some y→∃ b r,G.β id=some (b,none)∧G.ρ b=some r∧∀ G' w',w.heap.size≤w'.heap.size→dV G w G' w'→wS P y b G' w'
theorem dV.refl (G:Gh) (w:World):dV G w G w:=⟨fun _ _ h=>h,fun _ _ h=>h,fun _ _ h=>h,fun _ _ _=>rfl,fun _ _=>rfl,fun _ _ h=>h,fun _ _ h=>h⟩
theorem dV.trans {G G1 G2:Gh}{w w1 w2:World}(hs:w.heap.size≤w1.heap.size) (h:dV G w G1 w1) (k:dV G1 w1 G2 w2):dV G w G2 w2:=
 ⟨fun a b x=>k.β a b (h.β a b x),fun a b x=>k.σ a b (h.σ a b x),fun a b x=>k.τ a b (h.τ a b x),fun b i x=>(k.kσ b i (h.σ b i x)).trans (h.kσ b i x),fun b hb=>(k.shp b (Nat.lt_of_lt_of_le hb hs)).trans (h.shp b hb),fun b r x=>k.ρ b r (h.ρ b r x),fun b hb x=>k.ρn b (Nat.lt_of_lt_of_le hb hs) (h.ρn b hb x)⟩
theorem cl.mono {P:Program}{env:Env}{G G':Gh}{w w':World}(h:cl P env G w) (hs:w.heap.size≤w'.heap.size) (m:dV G w G' w'):cl P env G' w':=fun id y hy=>by
 obtain ⟨b,r,e1,e2,e3⟩:=h id y hy
 exact ⟨b,r,m.β _ _ e1,m.ρ _ _ e2,fun G2 w2 hs2 m2=>e3 G2 w2 (Nat.le_trans hs hs2) (dV.trans hs m m2)⟩
theorem cl.ext {P:Program}{env:Env}{G G':Gh}{w w':World}{lv lv':Nat→Bool}(h:cl P env G w) (x:Ext G lv w G' lv' w'):cl P env G' w':=h.mono x.size x.mono
theorem cl.low {P:Program}{env:Env}{G:Gh}{w:World}(h:cl P env G w) (n:Nat):cl P (di n env) G w:=fun id y hy=>by
 unfold di at hy
 split at hy
 ·exact h id y hy
 ·cases hy
theorem cl.zero (P:Program) (env:Env) (G:Gh) (w:World):cl P (di 0 env) G w:=fun id y hy=>by
 unfold di at hy
 rw [if_neg (by omega)] at hy;cases hy
def dX (env:Env):Prop:=∀ id y,env id=some y→∀ (vs:List AV) (hs:Hs) (E:Nat→Option TypeId) (r:AV) (hs':Hs),y vs hs E=some (r,hs')→hs'.n=hs.n∧hs.c≤hs'.c
theorem dX.none:dX (fun _=>none):=fun _ _ h=>by cases h
theorem dX.low {env:Env}(h:dX env) (n:Nat):dX (di n env):=fun id y hy=>by
 unfold di at hy
 split at hy
 ·exact h id y hy
 ·cases hy
def nQ (P:Program) (env:Env) (f:FuncId) (p:List AV→Hs→(Nat→Option TypeId)→Option (AV×Hs)):Prop:=∀ (vs:List AV) (hs:Hs) (E:Nat→Option TypeId) (r:AV) (hs':Hs),p vs hs E=some (r,hs')→
 Enters P f∧hs'.n=hs.n∧hs.c≤hs'.c∧
 ∀ (G:Gh) (w:World) (args:Array Value),vs.length=args.size→(∀ (i:Nat) (x:AV) (v:Value),vs[i]? = some x→args[i]? = some v→Rep G w x v)→aG G hs.H E hs.lv w→
  (∀ id,hs.n≤id→G.β id=none)→(∀ b,hs.c≤b→G.τ b=none)→4≤hs.c→cl P (di hs.n env) G w→
  Calls P f args w fun e w'=>∃ v G',e = .returned v∧Ext G hs.lv w G' hs'.lv w'∧aG G' hs'.H E hs'.lv w'∧Rep G' w' r v∧(∀ id,G'.β id=G.β id)∧(∀ b,hs'.c≤b→G'.τ b=none)
structure Sound (P:Program) (F:aE):Prop where
 env:dX F.env
 call:∀ f,nQ P F.env f (F f)
section
variable {P:Program}{F:aE}{G:Gh}{w:World}{T:Nat→AV}{H:Hp}{E:Nat→Option TypeId}{lv:Nat→Bool}{nid cb:Nat}{hint:Hint}{o:Oper}{io:IOp}{a:Act}
theorem gU {f:FuncId}{args:Array Value}(h:Enters P f) (w:World):(callFunc f args).run P w = .ok (.enter f args) w:=by
 obtain ⟨fn,h1,h2,h3⟩:=h
 have h4:fn.body.isNone=false:=by cases hb:fn.body<;>simp [hb] at h2 ⊢
 simp only [callFunc,Sem.run_bind,run_program,Result.andThen_ok,h1,h3,h4,Bool.false_eq_true,if_false,Sem.run_pure]
theorem nR {c:Call}{f:FuncId}{gs ds:Array Value}{ρ:Operand→Value}{x:Operand}(hop:o.op = .call c) (hc:c.callee = .value x) (hx:ρ x = .func (.func f) gs ds) (h:Enters P f) (w:World) :
 (execOp ρ o).run P w = .ok (.enter f (gs++c.args.map ρ++ds)) w:=by
 simp only [execOp,hop,resolve,hc,hx,Deferred.ofValue,Sem.run_bind,Sem.run_pure,Result.andThen_ok,invoke,gU h]
theorem fR {q:Option Nat}{m:Nat}{f:FuncId}{args:Array Value}(hnd:∀ c,o.op≠.defer c) (he:(execOp a.eval o).run P w = .ok (.enter f args) w) {R:Ending→World→Prop}(hc:Calls P f args w R) {K:Act→World→Prop}{Q:Exit→Act→World→Prop}
 (hk:∀ e w',R e w'→∃ v,e = .returned v∧K (a.put o.dst v) w'):o.wpIn (Fr q) m P a w K Q:=by
 refine ⟨fun _ _=>trivial,?_⟩
 rw [Oper.semAt_eq _ _ _ hnd,he]
 rw [Oper.uponIn_enter]
 refine ⟨fun h=>absurd h (by simp [Fence.wide]),?_⟩
 have hc':CallsIn Fence.wide (m-1) P f args w R:=callsIn_wide.2 hc
 refine CallsIn.mono (F:=Fr q) hc' fun e w' hr=>?_
 obtain ⟨v,rfl,h⟩:=hk e w' hr
 exact h
theorem sL {q:Option Nat}{m:Nat}{b:Nat}{args:Array Value}{R:Ending→World→Prop}(hnd:∀ c,o.op≠.defer c) (hc:YieldAt Fence.wide 0 P b args w R) (he:∀ l f t a1 a2,(Instr.yield b args).run P w = .ok (.round l f t a1 a2) w→(execOp a.eval o).run P w = .ok (.round l f t a1 a2) w) {K:Act→World→Prop}{Q:Exit→Act→World→Prop}
 (hk:∀ e w',R e w'→∃ v,e = .returned v∧K (a.put o.dst v) w'):o.wpIn (Fr q) m P a w K Q:=by
 obtain ⟨fn,tmps,assign,body,h1,h2⟩:=hc
 refine ⟨fun _ _=>trivial,?_⟩
 rw [Oper.semAt_eq _ _ _ hnd,he _ _ _ _ _ h1]
 rw [Oper.uponIn_round]
 refine ⟨fun h=>absurd h (by simp [Fence.wide]),?_⟩
 refine RoundIn.mono (F:=Fr q) (n:=m-1) ⟨trivial,fun c cs _=>h2.2 c cs (room_wide _)⟩ fun e w' hr=>?_
 obtain ⟨v,rfl,h⟩:=hk e w' hr
 exact h
theorem uR {q:Option Nat}{m:Nat}{e:Eff}(hnd:∀ c,o.op≠.defer c) (h:Does P G lv w H E nid cb a.eval o e) {K:Act→World→Prop}{Q:Exit→Act→World→Prop}(hk:∀ v w' G',fK G lv w H E nid cb e v G' w'→K (a.put o.dst v) w'):o.wpIn (Fr q) m P a w K Q:=by
 obtain ⟨v,w',G',h1,h2⟩:=h
 refine ⟨fun _ _=>trivial,?_⟩
 rw [Oper.semAt_eq _ _ _ hnd]
 rcases h1 with h1 | ⟨h1,rfl⟩
 ·rw [h1];exact hk v w' G' h2
 ·rw [h1];exact hk undef w' G' h2
def lone (G:Gh):Gh:={ β:=fun _=>none,σ:=G.σ,τ:=fun _=>none }
theorem gy (b:Nat):¬ fp (lone G) (fun _=>false) b:=by
 rintro (⟨id,o,h⟩ | ⟨br,e,h,_⟩)
 ·cases h
 ·cases h
theorem zb (hW:aG G H E lv w):aG (lone G) h0.H (fun _=>none) h0.lv w:=by
 constructor
 ·intro id b o h;cases h
 ·intro id b h;cases h
 ·intro id b o h;cases h
 ·intro id id' b o o' h;cases h
 ·intro br h;cases h
 ·intro br br' b e e' h;cases h
 ·exact hW.σlt
 ·intro br b e h;cases h
 ·intro b r h;cases h
theorem wT (hW:aG G H E lv w) {G':Gh}{lv':Nat→Bool}{w':World}(hx:Ext (lone G) (fun _=>false) w G' lv' w') {H0:Hp}{E0:Nat→Option TypeId}(hr:aG G' H0 E0 lv' w') :
 Ext G lv w { G with σ:=G'.σ } lv w'∧aG { G with σ:=G'.σ } H E lv w':=by
 have keep:∀ b,b<w.heap.size→w'.heap[b]? = w.heap[b]?:=fun b hb=>hx.keep b hb (gy b)
 have hσ:∀ b i,G'.σ b i→b<w.heap.size→G.σ b i:=fun b i h hb=>hx.σn b i h hb (gy b)
 have hext:Ext G lv w { G with σ:=G'.σ } lv w':=
  ⟨fun _ _ h=>h,hx.σ,fun _ _ h=>h,fun b i h hb _=>hσ b i h hb,fun b hb h=>h,fun b hb _=>keep b hb,hx.kσ,hx.shp,hx.size,hx.os,hx.tape,hx.output,fun _ _ h=>h,fun _ _ h=>h⟩
 refine ⟨hext,?_⟩
 constructor
 ·intro id b o hb
  obtain ⟨cs,T,fz,h1,h2,h3,h4,h5⟩:=hW.obj id b o hb
  have hk:=keep b (hW.βlt hb)
  exact ⟨cs,T,fz,hk.trans h1,h2,fun i x hx'=>by
   obtain ⟨k1,k2,v,k3,k4⟩:=h3 i x hx'
   exact ⟨k1,k2,v,k3,k4.mono hext.mono⟩,fun i hi=>(aP hk _).trans (h4 i hi),h5⟩
 ·intro id b hb
  exact hW.mobj_of hext.mono hb (keep b (hW.βlt hb)) rfl
 ·intro id b o hb i h
  exact hW.nσ id b o hb i (hσ b i h (hW.βlt hb))
 ·exact hW.inj
 ·intro br hbr
  obtain ⟨k1,b,e,cs,T,fz,k2,k3,k4,k5,k6⟩:=hW.tip br hbr
  have hk:=keep b (hW.τlt _ _ _ k2)
  exact ⟨k1,b,e,cs,T,fz,k2,hk.trans k3,fun i c=>(aP hk _).trans (k4 i c),fun i hi h=>k5 i hi (hσ b i h (hW.τlt _ _ _ k2)),k6⟩
 ·exact hW.tinj
 ·exact hr.σlt
 ·intro br b e h;exact Nat.lt_of_lt_of_le (hW.τlt _ _ _ h) hx.size
 ·intro b r h;exact Nat.lt_of_lt_of_le (hW.ρlt _ _ h) hx.size
theorem Rep.leafmap {f:AV→AV}{x:AV}{v:Value}(h:Rep G w x v) (hf:∀ y u,Rep G w y u→Rep G w (f y) u) (hl:∀ y,y.leaf=true→(f y).leaf=true) (hat:∀ y,(∀ br sz xs,y≠.sl br sz xs)→(∀ a b c d,y≠.osl a b c d)→f y=y):Rep G w (aA f x) v:=by
 have aggm:∀ {cs:List AV}{u:Value},Rep G w (.agg cs) u→Rep G w (.agg (cs.map f)) u:=by
  intro cs u h
  obtain ⟨arr,rfl,hl',hr⟩:=Row.of_agg h
  refine Row.agg ⟨by simpa using hl',fun i y z hy hz=>?_⟩
  simp only [List.getElem?_map,Option.map_eq_some_iff] at hy
  obtain ⟨y',hy',rfl⟩:=hy
  obtain ⟨q1,q2⟩:=hr i y' z hy' hz
  exact ⟨hl _ q1,hf _ _ q2⟩
 cases x with
 | agg cs=>exact aggm h
 | tup vs=>
  obtain ⟨arr,rfl,hlen,hr⟩:=h.inv_tup
  refine .tup _ _ (by simpa using hlen) (fun i y z hy hz=>?_)
  simp only [List.getElem?_map,Option.map_eq_some_iff] at hy
  obtain ⟨y',hy',rfl⟩:=hy
  have q:=hr i y' z hy' hz
  cases y'<;>first | exact hf _ _ q | exact aggm q
 | _=>exact hf _ _ h
theorem BR {one:Bool}{lv':Nat→Bool}{y:AV}{u:Value}(h:Rep G w y u):Rep G w (aO one lv' y) u:=by
 cases h with
 | emp br sz p cap hb=>
  simp only [aO]
  split
  ·exact .emp br sz p cap hb
  ·rw [if_neg (by unfold Emp at hb;omega)]
   exact .emp 1 0 p cap (.inl rfl)
 | sl br sz xs b off len cap hnb hsz hl hc vs hk hx h0 h3=>
  simp only [aO]
  have h:=Rep.sl (G:=G) (w:=w) br sz xs b off len cap hnb hsz hl hc vs hk hx h0 h3
  split
  ·exact h
  ·split
   ·exact .sl 2 sz xs b off len cap (by omega) hsz hl hc vs hk hx (by omega) (by omega)
   ·exact h.canon.1
 | junk=>exact .junk _
 | int k n=>exact .int k n
 | bool b=>exact .bool b
 | str l s h=>exact .str l s h
 | pp xs off b o vs hk hx=>exact .pp xs off b o vs hk hx
 | cp xs off b o vs hk hx=>exact .cp xs off b o vs hk hx
 | ref id off b o h=>exact .ref id off b o h
 | mp id b h=>exact .mp id b h
 | yl id b r h hr=>exact .yl id b r h hr
 | nilp=>exact .nilp
 | osl id off len sz cap b o h hsz hc=>exact .osl id off len sz cap b o h hsz hc
 | fn f fs cs gs ds h1 h2 hf hc=>exact .fn f fs cs gs ds h1 h2 hf hc
 | nilfn=>exact .nilfn
 | iface t x v hj h=>exact .iface t x v hj h
 | nilif=>exact .nilif
 | agg cs arr hl hlf h=>exact .agg cs arr hl hlf h
 | tup vs arr hl h=>exact .tup vs arr hl h
theorem qU {one:Bool}{lv':Nat→Bool}{y:AV}(h:y.leaf=true):(aO one lv' y).leaf=true:=by
 cases y
 case sl br sz xs=>simp only [aO];(repeat' split)<;>rfl
 all_goals exact h
theorem lD {lv':Nat→Bool}{r:AV}{v:Value}(h:Rep G w r v):Rep G w (own lv' r) v:=
 h.leafmap (fun _ _ q=>BR q) (fun _ q=>qU q) (fun y h1 _=>by cases y<;>first | exact absurd rfl (h1 _ _ _) | rfl)
theorem wU {vs:List AV}{args:Array Value}(hl:vs.length=args.size) (hr:∀ (i:Nat) (x:AV) (v:Value),vs[i]? = some x→args[i]? = some v→Rep G w x v) (hf:∀ x∈vs,x.flat=true) :
 ∀ (i:Nat) (x:AV) (v:Value),vs[i]? = some x→args[i]? = some v→Rep (lone G) w x v:=fun i x v hx hv=>
 (hr i x v hx hv).fmono ⟨fun _ _ h=>h,fun _ _ _=>rfl⟩ (hf x (List.mem_of_getElem? hx))
theorem nS (hS:Sound P F) {f:FuncId}{vs:List AV}{r:AV}(he:evP F f vs=some r) (hf:∀ x∈vs,x.flat=true) {args:Array Value}(hl:vs.length=args.size) (hr:∀ (i:Nat) (x:AV) (v:Value),vs[i]? = some x→args[i]? = some v→Rep G w x v) (hW:aG G H E lv w) :
 Enters P f∧Calls P f args w fun e w'=>∃ v r0 hs' G',e = .returned v∧F f vs h0 (fun _=>none)=some (r0,hs')∧r=own hs'.lv r0∧r.flat=true∧Ext (lone G) (fun _=>false) w G' hs'.lv w'∧aG G' hs'.H (fun _=>none) hs'.lv w'∧Rep G' w' r0 v∧(∀ id,G'.β id=none):=by
 unfold evP at he
 split at he
 ·rename_i r0 hs' h1
  split at he
  ·rename_i hfl
   simp only [Option.some.injEq] at he
   obtain ⟨k1,k2,k3,k4⟩:=hS.call f vs h0 (fun _=>none) r0 hs' h1
   refine ⟨k1,(k4 (lone G) w args hl (wU hl hr hf) (zb hW) (fun _ _=>rfl) (fun _ _=>rfl) (Nat.le_refl _) (.zero _ _ _ _)).mono fun e w' h=>?_⟩
   obtain ⟨v,G',q1,q2,q3,q4,q5,_⟩:=h
   exact ⟨v,r0,hs',G',q1,h1,he.symm,he▸hfl,q2,q3,q4,fun id=>(q5 id).trans rfl⟩
  ·simp at he
 ·simp at he
end
end Go.Abs
/- What a caller makes of an owned result. Condition: the callee does what the evaluator says. -/
namespace Go.Abs
section
variable {P:Program}{F:aE}{G:Gh}{w:World}{T:Nat→AV}{H:Hp}{E:Nat→Option TypeId}{lv:Nat→Bool}{nid cb:Nat}{hint:Hint}{o:Oper}{io:IOp}{a:Act}
theorem Rep.leafmap2 {f:AV→AV}{x:AV}{v:Value}(h:Rep G w x v) {G2:Gh}{w2:World}(hf:∀ y∈leaves x,∀ u,Rep G w y u→Rep G2 w2 (f y) u∧(y.leaf=true→(f y).leaf=true)):Rep G2 w2 (aA f x) v:=by
 have aggm:∀ {cs:List AV}{u:Value},(∀ y∈cs,∀ u,Rep G w y u→Rep G2 w2 (f y) u∧(y.leaf=true→(f y).leaf=true))→Rep G w (.agg cs) u→Rep G2 w2 (.agg (cs.map f)) u:=by
  intro cs u hf h
  obtain ⟨arr,rfl,hl',hr⟩:=Row.of_agg h
  refine Row.agg ⟨by simpa using hl',fun i y z hy hz=>?_⟩
  simp only [List.getElem?_map,Option.map_eq_some_iff] at hy
  obtain ⟨y',hy',rfl⟩:=hy
  obtain ⟨q1,q2⟩:=hr i y' z hy' hz
  obtain ⟨q3,q4⟩:=hf y' (List.mem_of_getElem? hy') z q2
  exact ⟨q4 q1,q3⟩
 cases x with
 | agg cs=>exact aggm hf h
 | tup vs=>
  obtain ⟨arr,rfl,hlen,hr⟩:=h.inv_tup
  refine .tup _ _ (by simpa using hlen) (fun i y z hy hz=>?_)
  simp only [List.getElem?_map,Option.map_eq_some_iff] at hy
  obtain ⟨y',hy',rfl⟩:=hy
  have q:=hr i y' z hy' hz
  have hmem:∀ c∈y'.cells,c∈leaves (.tup vs):=fun c hc=>List.mem_flatMap.2 ⟨y',List.mem_of_getElem? hy',hc⟩
  cases y'
  case agg cs=>exact aggm (fun y hy=>hf y (hmem y hy)) q
  all_goals exact (hf _ (hmem _ (by simp [AV.cells])) z q).1
 | _=>exact (hf _ (by simp [leaves,AV.cells]) v h).1
theorem nT {f:AV→AV}(h1:∀ v,(∀ cs,v≠.agg cs)→(f v).cells=[f v]) (h2:∀ v,(∀ cs,v≠.tup cs)→∀ cs,f v≠.tup cs) (x:AV):leaves (aA f x)=(leaves x).map f:=by
 have one:∀ v,(∀ cs,v≠.agg cs)→(∀ cs,v≠.tup cs)→leaves (f v)=[f v]:=by
  intro v ha ht
  have:=h1 v ha
  have ht':=h2 v ht
  cases hfv:f v<;>first | (exact absurd hfv (ht' _)) | (rw [hfv] at this;simpa [leaves] using this)
 cases x with
 | agg cs=>rfl
 | tup vs=>
  simp only [aA,leaves,List.flatMap_map,List.map_flatMap]
  congr 1
  funext v
  cases v
  case agg cs=>rfl
  all_goals (simp only [AV.cells,List.map_cons,List.map_nil];exact h1 _ (by simp))
 | _=>
  rw [show aA f _=f _ from rfl,one _ (by simp) (by simp)]
  rfl
theorem qk {one:Bool}{lv':Nat→Bool}(v:AV) (h:∀ cs,v≠.agg cs):(aO one lv' v).cells=[aO one lv' v]:=by
 cases v
 case agg=>exact absurd rfl (h _)
 case sl br sz xs=>simp only [aO];(repeat' split)<;>rfl
 all_goals rfl
theorem sM {one:Bool}{lv':Nat→Bool}(v:AV) (h:∀ cs,v≠.tup cs) (cs:List AV):aO one lv' v≠.tup cs:=by
 cases v
 case sl br sz xs=>simp only [aO];(repeat' split)<;>simp [csl]
 all_goals simp [aO] at h ⊢
theorem kA (lv':Nat→Bool) (r:AV):leaves (own lv' r)=(leaves r).map (aO (decide (((leaves r).filter db).length=1)) lv'):=
 nT (fun v h=>qk v h) (fun v h=>sM v h) r
theorem sN {ls:List AV}{sz:Nat}{xs:List AV}(h:eM ls=some (sz,xs)) : .sl 2 sz xs∈ls:=by
 induction ls with
 | nil=>simp [eM] at h
 | cons y ls ih=>
  cases y
  case sl br sz' xs'=>
   simp only [eM] at h
   split at h
   ·rename_i hb
    simp only [Option.some.injEq,Prod.mk.injEq] at h
    obtain ⟨rfl,rfl⟩:=h
    rw [hb];exact List.mem_cons_self
   ·exact List.mem_cons_of_mem _ (ih h)
  all_goals (simp only [eM] at h;exact List.mem_cons_of_mem _ (ih h))
theorem e7 {one:Bool}{lv':Nat→Bool}(v:AV):db (aO one lv' v)=db v:=by
 cases v
 case sl br sz xs=>simp only [aO];(repeat' split)<;>rfl
 all_goals rfl
theorem iR {y:AV}{u:Value}(h:Rep G w y u) (hs:y.scalar=true) {G2:Gh}{w2:World}:Rep G2 w2 y u:=by
 cases h<;>first | (simp [AV.scalar] at hs;done) | skip
 ·exact .int _ _
 ·exact .bool _
 ·exact .str _ _ ‹_›
theorem Rep.leaf_exists {x:AV}{v:Value}(h:Rep G w x v):∀ y∈leaves x,∃ u,Rep G w y u:=by
 have aggm:∀ {cs:List AV}{u:Value},Rep G w (.agg cs) u→∀ y∈cs,∃ u,Rep G w y u:=by
  intro cs u h y hy
  obtain ⟨arr,rfl,hl',hr⟩:=Row.of_agg h
  obtain ⟨i,hi⟩:=List.getElem?_of_mem hy
  have hlt:i<arr.size:=by rw [← hl'];exact (List.getElem?_eq_some_iff.1 hi).1
  exact ⟨_,(hr i y arr[i] hi (Array.getElem?_eq_getElem hlt)).2⟩
 cases x with
 | agg cs=>exact aggm h
 | tup vs=>
  obtain ⟨arr,rfl,hlen,hr⟩:=h.inv_tup
  intro y hy
  obtain ⟨z,hz,hy'⟩:=List.mem_flatMap.1 hy
  obtain ⟨i,hi⟩:=List.getElem?_of_mem hz
  have hlt:i<arr.size:=by rw [← hlen];exact (List.getElem?_eq_some_iff.1 hi).1
  have q:=hr i z arr[i] hi (Array.getElem?_eq_getElem hlt)
  cases z
  case agg cs=>exact aggm q y hy'
  all_goals (simp only [AV.cells,List.mem_singleton] at hy';subst hy';exact ⟨_,q⟩)
 | _=>
  intro y hy
  simp only [leaves,AV.cells,List.mem_singleton] at hy
  subst hy;exact ⟨v,h⟩
theorem sO {lv':Nat→Bool}{r0:AV}{sz:Nat}{xs:List AV}(h:eM (leaves (own lv' r0))=some (sz,xs)) (hone:((leaves (own lv' r0)).filter db).length=1)
 (hall:∀ y∈leaves (own lv' r0),y.scalar=true∨db y=true) :
 ∃ br,lv' br=true∧(∀ y∈leaves r0,y.scalar=true∨y = .sl br sz xs)∧.sl br sz xs∈leaves r0∧2≤br:=by
 have hmem:=sN h
 rw [kA] at hmem hone hall
 have hfl:((leaves r0).map (aO (decide (((leaves r0).filter db).length=1)) lv')).filter db=((leaves r0).filter db).map (aO (decide (((leaves r0).filter db).length=1)) lv'):=by
  rw [List.filter_map]
  congr 1
  apply List.filter_congr
  intro y _
  exact e7 y
 rw [hfl,List.length_map] at hone
 obtain ⟨y0,hy0⟩:=List.length_eq_one_iff.1 hone
 obtain ⟨y,hy,he⟩:=List.mem_map.1 hmem
 have hysl:db y=true:=by rw [← e7 (one:=decide (((leaves r0).filter db).length=1)) (lv':=lv') y,he];rfl
 have hyy:y=y0:=by
  have:y∈(leaves r0).filter db:=List.mem_filter.2 ⟨hy,hysl⟩
  rw [hy0] at this;simpa using this
 cases y<;>(try (simp only [aO,reduceCtorEq] at he;done))
 rename_i br sz' xs'
 have hall3:lv' br=true∧2≤br∧sz'=sz∧xs'=xs:=by
  simp only [aO] at he
  split at he
  ·rename_i hb
   simp only [AV.sl.injEq] at he
   omega
  ·split at he
   ·rename_i h1 h2
    simp only [AV.sl.injEq,true_and] at he
    simp only [Bool.and_eq_true] at h2
    exact ⟨h2.2.2,by omega,he.1,he.2⟩
   ·simp [csl] at he
 obtain ⟨hb1,hb2,rfl,rfl⟩:=hall3
 have hbr:lv' br=true∧2≤br:=⟨hb1,hb2⟩
 refine ⟨br,hbr.1,fun z hz=>?_,hy,hbr.2⟩
 rcases hall _ (List.mem_map_of_mem hz) with h1 | h1
 ·left
  cases z
  case sl br sz xs=>
   simp only [aO] at h1
   (repeat' split at h1)<;>simp [AV.scalar,csl] at h1
  all_goals first | exact h1 | (simp [aO,AV.scalar] at h1)
 ·right
  rw [e7] at h1
  have:z∈(leaves r0).filter db:=List.mem_filter.2 ⟨hz,h1⟩
  rw [hy0] at this
  rw [hyy];simpa using this
theorem nU (one:Bool) (lv':Nat→Bool) (br sz:Nat) (xs:List AV):∃ a b c,aO one lv' (.sl br sz xs) = .sl a b c:=by
 simp only [aO]
 (repeat' split)<;>exact ⟨_,_,_,rfl⟩
theorem nm (f:AV→AV) (one:Bool) (lv':Nat→Bool) (x:AV):aA f (aA (aO one lv') x)=aA (fun y=>f (aO one lv' y)) x:=by
 cases x with
 | agg cs=>simp [aA]
 | tup vs=>
  simp only [aA,List.map_map]
  congr 1
  apply List.map_congr_left
  intro y hmem
  clear hmem
  cases y with
  | sl br sz xs=>
   obtain ⟨a,b,c,h⟩:=nU one lv' br sz xs
   simp only [Function.comp,h]
  | _=>simp [Function.comp,aO]
 | sl br sz xs=>
  obtain ⟨a,b,c,h⟩:=nU one lv' br sz xs
  simp only [aA,h]
 | _=>simp [aA,aO]
theorem nV (hW:aG G H E lv w) (hn:G.β nid=none) (hcb:4≤cb) (hτ:G.τ cb=none) {G':Gh}{lv':Nat→Bool}{w':World}{H0:Hp}{r0:AV}{v:Value}(hx:Ext (lone G) (fun _=>false) w G' lv' w')
 (hr:aG G' H0 (fun _=>none) lv' w') (hrep:Rep G' w' r0 v) (hfl:(own lv' r0).flat=true) {m:Nat}{e:Eff}(he:gv m nid cb (own lv' r0)=some e):∃ G2,fK G lv w H E nid cb e v G2 w':=by
 obtain ⟨b1,b2⟩:=wT hW hx hr
 unfold gv at he
 split at he
 ·simp only [Option.some.injEq] at he;subst he
  have hl:Eff.live { v:=aA aF (own lv' r0) } lv cb=lv:=bV rfl rfl
  exact ⟨{ G with σ:=G'.σ },by rw [hl];exact b1,by rw [hl];exact b2,(show Rep { G with σ:=G'.σ } w' (own lv' r0) v from (lD hrep).fmono ⟨fun _ _ h=>h,fun _ _ _=>rfl⟩ hfl).leafmap (fun _ _ q=>q.aF) (fun _ q=>fw q) (fun y h1 _=>by cases y<;>first | rfl | exact absurd rfl (h1 _ _ _)),fun _ _=>rfl,fun _ _=>rfl⟩
 ·split at he
  ·split at he
   ·simp only [Option.some.injEq] at he;subst he
    have hl:Eff.live { v:=own lv' r0 } lv cb=lv:=bV rfl rfl
    exact ⟨{ G with σ:=G'.σ },by rw [hl];exact b1,by rw [hl];exact b2,(lD hrep).fmono ⟨fun _ _ h=>h,fun _ _ _=>rfl⟩ hfl,fun _ _=>rfl,fun _ _=>rfl⟩
   ·simp at he
  ·rename_i sz xs hown
   split at he
   ·rename_i hcond
    obtain ⟨hall,hone⟩:=hcond
    rw [List.all_eq_true] at hall
    obtain ⟨br,hlive,hleaf,hmem,hbr2⟩:=sO hown hone (fun y hy=>by simpa using hall y hy)
    obtain ⟨t4,b,e0,cs,T0,fz,t1,t2,t3,t5,t6⟩:=hr.tip br hlive
    have hbn:w.heap.size≤b:=by
     rcases Nat.lt_or_ge b w.heap.size with h | h
     ·exact absurd (hx.own b h (.inr ⟨br,e0,hlive,t1⟩)) (gy b)
     ·exact h
    have hblt:b<w'.heap.size:=hr.τlt _ _ _ t1
    split at he
    ·-- a brand
     simp only [Option.some.injEq] at he;subst he
     have hlv1:Eff.live { v:=aA (bB 1 nid cb) (own lv' r0),nb:=1 } lv cb=gT lv (some cb):=kv _ _ _
     let G2:Gh:={ G with σ:=G'.σ,τ:=bH G.τ cb (b,e0) }
     have τold:∀ x p,G.τ x=some p→G2.τ x=some p:=by
      intro x p hp
      have:x≠cb:=fun e=>by rw [e,hτ] at hp;cases hp
      exact (cG _ this).trans hp
     have hext2:Ext G lv w G2 (gT lv (some cb)) w':=by
      refine ⟨b1.β,b1.σ,τold,b1.σn,?_,b1.keep,b1.kσ,b1.shp,b1.size,b1.os,b1.tape,b1.output,fun _ _ h=>h,fun _ _ h=>h⟩
      rintro b' hb' (⟨id,o',h1⟩ | ⟨x,e',h1,h2⟩)
      ·exact .inl ⟨id,o',h1⟩
      ·simp only [G2,bH] at h2
       split at h2
       ·simp only [Option.some.injEq,Prod.mk.injEq] at h2;omega
       ·rename_i hx'
        simp only [gT,hx',if_false] at h1
        exact .inr ⟨x,e',h1,h2⟩
     refine ⟨G2,by rw [hlv1];exact hext2,?_,?_,fun _ _=>rfl,fun z hz=>cG _ (by simp at hz;omega)⟩
     ·rw [hlv1]
      constructor
      ·intro id b' o' hb'
       obtain ⟨cs',T',fz',h1,h2,h3,h4,h5⟩:=b2.obj id b' o' hb'
       exact ⟨cs',T',fz',h1,h2,fun i x hx'=>by
        obtain ⟨k1,k2,u,k3,k4⟩:=h3 i x hx'
        exact ⟨k1,k2,u,k3,k4.mono ⟨fun _ _ h=>h,fun _ _ h=>h,τold,fun _ _ _=>rfl,fun _ _=>rfl,fun _ _ h=>h,fun _ _ h=>h⟩⟩,h4,h5⟩
      ·intro id b' hb'
       exact b2.mobj_of (G':=G2) ⟨fun _ _ h=>h,fun _ _ h=>h,τold,fun _ _ _=>rfl,fun _ _=>rfl,fun _ _ h=>h,fun _ _ h=>h⟩ hb' rfl rfl
      ·exact b2.nσ
      ·exact b2.inj
      ·intro x hxl
       by_cases hxc:x=cb
       ·subst hxc
        refine ⟨hcb,b,e0,cs,T0,fz,cU _ _ _,t2,t3,t5,?_⟩
        intro id o' hb'
        have:=hW.βlt hb';omega
       ·simp only [gT,hxc,if_false] at hxl
        obtain ⟨k1,b',e',cs',T',fz',k2,k3,k4,k5,k6⟩:=b2.tip x hxl
        exact ⟨k1,b',e',cs',T',fz',τold _ _ k2,k3,k4,k5,k6⟩
      ·intro x y b' e1 e2 hxl hyl h1 h2
       simp only [G2,bH] at h1 h2
       by_cases hxc:x=cb<;>by_cases hyc:y=cb
       ·rw [hxc,hyc]
       ·rw [if_pos hxc] at h1;rw [if_neg hyc] at h2
        simp only [Option.some.injEq,Prod.mk.injEq] at h1
        have:=hW.τlt _ _ _ h2;omega
       ·rw [if_neg hxc] at h1;rw [if_pos hyc] at h2
        simp only [Option.some.injEq,Prod.mk.injEq] at h2
        have:=hW.τlt _ _ _ h1;omega
       ·rw [if_neg hxc] at h1;rw [if_neg hyc] at h2
        simp only [gT,hxc,hyc,if_false] at hxl hyl
        exact hW.tinj _ _ _ _ _ hxl hyl h1 h2
      ·exact b2.σlt
      ·intro x b' e' h
       simp only [G2,bH] at h
       split at h
       ·simp only [Option.some.injEq,Prod.mk.injEq] at h;omega
       ·exact b2.τlt x b' e' h
      ·exact b2.ρlt
     ·-- the value
      have hcomp:aA (bB 1 nid cb) (own lv' r0)=aA (fun y=>bB 1 nid cb (aO (decide (((leaves r0).filter db).length=1)) lv' y)) r0:=by unfold own;exact nm _ _ _ _
      rw [hcomp]
      refine hrep.leafmap2 (fun y hy u hu=>?_)
      have hone':decide (((leaves r0).filter db).length=1)=true:=by
       have h:=hone
       rw [kA,List.filter_map,List.length_map] at h
       rw [decide_eq_true_eq,← h]
       congr 1
       apply List.filter_congr
       intro y _
       exact (e7 y).symm
      rcases hleaf y hy with hs | rfl
      ·have h1:bB 1 nid cb (aO (decide (((leaves r0).filter db).length=1)) lv' y)=y:=by cases y<;>first | rfl | (simp [AV.scalar] at hs)
       rw [h1]
       exact ⟨iR hu hs,id⟩
      ·have h1:bB 1 nid cb (aO (decide (((leaves r0).filter db).length=1)) lv' (.sl br sz xs)) = .sl cb sz xs:=by
        rw [hone']
        simp only [aO,Bool.true_and,hlive]
        rw [if_neg (by omega),if_pos ⟨t4,trivial⟩]
        simp [bB]
       rw [h1]
       refine ⟨?_,fun _=>rfl⟩
       rcases hu.inv_sl with ⟨_,_,_,hb0,_⟩ | ⟨b',off,len,cap,rfl,hnb,hsz,hlen,hcl,hcs,h0,h3⟩
       ·unfold Emp at hb0;omega
       ·obtain ⟨q1,E1,c1,q2,q3⟩:=h3 t4
        rw [t1] at q1
        simp only [Option.some.injEq,Prod.mk.injEq] at q1
        obtain ⟨rfl,rfl⟩:=q1
        refine Rep.mk_sl (by omega) hsz hlen hcl ?_ (by omega) (fun _=>⟨cU _ _ _,E1,c1,q2,q3⟩)
        intro i z hz
        obtain ⟨u',p1,p2,p3,p4,p5⟩:=hcs i z hz
        exact ⟨u',p1,p2,p3,p4,p5.fmono ⟨fun _ _ h=>h,fun _ _ _=>rfl⟩ p3⟩
    ·split at he
     ·-- an object
      rename_i hcond2
      obtain ⟨hsc,hs0⟩:=hcond2
      rw [List.all_eq_true] at hsc
      simp only [Option.some.injEq] at he;subst he
      -- where the slice lies
      have hinv:∀ u,Rep G' w' (.sl br sz xs) u→∃ len cap,u = .slice (some ⟨b,e0-xs.length,none⟩) len cap∧xs.length=len*sz∧len≤cap∧e0-xs.length+xs.length≤cs.size∧Cells G' w' b (e0-xs.length) xs:=by
       intro u hu
       rcases hu.inv_sl with ⟨_,_,_,hb0,_⟩ | ⟨b',off,len,cap,rfl,hnb,hsz,hlen,hcl,hcs,h0,h3⟩
       ·unfold Emp at hb0;omega
       ·obtain ⟨q1,E1,c1,q2,q3⟩:=h3 t4
        rw [t1] at q1
        simp only [Option.some.injEq,Prod.mk.injEq] at q1
        obtain ⟨rfl,rfl⟩:=q1
        have hof:off+xs.length-xs.length=off:=by omega
        have hc1:c1=cs.size:=by
         have:=(gb w' b t2).symm.trans q2
         simp only [Option.some.injEq,Prod.mk.injEq] at this
         exact this.2.symm
        have hle:len*sz≤cap*sz:=Nat.mul_le_mul_right _ hcl
        exact ⟨len,cap,by rw [hof],hlen,hcl,by omega,by rw [hof];exact hcs⟩
      obtain ⟨u0,hu0⟩:=hrep.leaf_exists _ hmem
      obtain ⟨_,_,_,_,_,hfit,hcells⟩:=hinv u0 hu0
      let G2:Gh:={ β:=bH G.β nid (b,some (e0-xs.length)),σ:=fun b' i=>G'.σ b' i∧b'≠b,τ:=G.τ,ρ:=G.ρ }
      have hlv2:Eff.live { v:=aA (bB 2 nid cb) (own lv' r0),new:=some xs } lv cb=lv:=bV rfl rfl
      have βold:∀ id p,G.β id=some p→G2.β id=some p:=by
       intro id p hp
       have:id≠nid:=fun e=>by rw [e,hn] at hp;cases hp
       exact (cG _ this).trans hp
      have hext2:Ext G lv w G2 lv w':=by
       refine ⟨βold,fun b' i h=>⟨b1.σ _ _ h,?_⟩,fun _ _ h=>h,fun b' i h hb ho=>b1.σn _ _ h.1 hb ho,?_,b1.keep,b1.kσ,b1.shp,b1.size,b1.os,b1.tape,b1.output,fun _ _ h=>h,fun _ _ h=>h⟩
       ·have:=hW.σlt _ _ h;omega
       ·rintro b' hb' (⟨id,o',h1⟩ | h1)
        ·simp only [G2,bH] at h1
         split at h1
         ·simp only [Option.some.injEq,Prod.mk.injEq] at h1;omega
         ·exact .inl ⟨id,o',h1⟩
        ·exact .inr h1
      have hcond3:∀ x∈xs,x.scalar=true:=hsc
      refine ⟨G2,by rw [hlv2];exact hext2,?_,?_,fun id hid=>?_,fun _ _=>rfl⟩
      ·rw [hlv2]
       have hHn:Eff.heap { v:=aA (bB 2 nid cb) (own lv' r0),new:=some xs } H nid=upd H nid xs:=rfl
       have hEn:Eff.types { v:=aA (bB 2 nid cb) (own lv' r0),new:=some xs } E nid=upd E nid none:=rfl
       rw [hHn,hEn]
       constructor
       ·intro id b' o' hb'
        by_cases hid:id=nid
        ·subst hid
         have hb2:(b,some (e0-xs.length))=(b',some o'):=by
          have:=(cU G.β id (b,some (e0-xs.length))).symm.trans hb'
          exact Option.some.inj this
         simp only [Prod.mk.injEq,Option.some.injEq] at hb2
         obtain ⟨rfl,rfl⟩:=hb2
         refine ⟨cs,T0,fz,t2,by simpa [upd] using hfit,?_,?_,by simp [upd]⟩
         ·intro i x hx'
          simp only [upd,if_true] at hx'
          obtain ⟨u',p1,p2,p3,p4,p5⟩:=hcells i x hx'
          have hs1:=hcond3 x (List.mem_of_getElem? hx')
          refine ⟨trivial,p4,u',?_,iR p5 hs1⟩
          exact (cell_of w' b _ t2).symm.trans p1
         ·intro i hi
          have hi':i<xs.length:=by simpa [upd] using hi
          have hlt:e0-xs.length+i<cs.size:=by omega
          exact t3 _ hlt
        ·have hb0:G.β id=some (b',some o'):=by rw [← hb'];exact (cG _ hid).symm
         obtain ⟨cs',T',fz',h1,h2,h3,h4,h5⟩:=hW.obj id b' o' hb0
         have hk:=hx.keep b' (hW.βlt hb0) (gy _)
         simp only [upd,if_neg hid]
         exact ⟨cs',T',fz',hk.trans h1,h2,fun i x hx'=>by
          obtain ⟨k1,k2,v',k3,k4⟩:=h3 i x hx'
          exact ⟨k1,k2,v',k3,k4.mono hext2.mono⟩,fun i hi=>(aP hk _).trans (h4 i hi),h5⟩
       ·intro id b' hb'
        by_cases hid:id=nid
        ·subst hid
         have:=(cU G.β id (b,some (e0-xs.length))).symm.trans hb'
         simp at this
        ·have hb0:G.β id=some (b',none):=by rw [← hb'];exact (cG _ hid).symm
         exact hW.mobj_of hext2.mono hb0 (hx.keep b' (hW.βlt hb0) (gy _)) (by simp [upd,hid])
       ·intro id b' o' hb' i hi
        by_cases hid:id=nid
        ·subst hid
         have hb2:(b,some (e0-xs.length))=(b',o'):=by
          have:=(cU G.β id (b,some (e0-xs.length))).symm.trans hb'
          exact Option.some.inj this
         simp only [Prod.mk.injEq] at hb2
         exact hi.2 hb2.1.symm
        ·have hb0:G.β id=some (b',o'):=by rw [← hb'];exact (cG _ hid).symm
         exact b2.nσ id b' o' hb0 i hi.1
       ·intro id id' b' o1 o2 h1 h2
        simp only [G2,bH] at h1 h2
        by_cases hid:id=nid<;>by_cases hid':id'=nid
        ·rw [hid,hid']
        ·rw [if_pos hid] at h1;rw [if_neg hid'] at h2
         simp only [Option.some.injEq,Prod.mk.injEq] at h1
         have:=hW.βlt h2;omega
        ·rw [if_neg hid] at h1;rw [if_pos hid'] at h2
         simp only [Option.some.injEq,Prod.mk.injEq] at h2
         have:=hW.βlt h1;omega
        ·rw [if_neg hid] at h1;rw [if_neg hid'] at h2
         exact hW.inj _ _ _ _ _ h1 h2
       ·intro x hxl
        obtain ⟨k1,b',e',cs',T',fz',k2,k3,k4,k5,k6⟩:=b2.tip x hxl
        refine ⟨k1,b',e',cs',T',fz',k2,k3,k4,fun i hi h=>k5 i hi h.1,fun id o' h=>?_⟩
        simp only [G2,bH] at h
        split at h
        ·simp only [Option.some.injEq,Prod.mk.injEq] at h
         have:=hW.τlt _ _ _ k2;omega
        ·exact k6 id o' h
       ·exact hW.tinj
       ·exact fun b' i h=>b2.σlt _ _ h.1
       ·intro x b' e' h
        exact b2.τlt x b' e' h
       ·exact b2.ρlt
      ·-- the value
       have hcomp:aA (bB 2 nid cb) (own lv' r0)=aA (fun y=>bB 2 nid cb (aO (decide (((leaves r0).filter db).length=1)) lv' y)) r0:=by unfold own;exact nm _ _ _ _
       rw [hcomp]
       refine hrep.leafmap2 (fun y hy u hu=>?_)
       have hone':decide (((leaves r0).filter db).length=1)=true:=by
        have h:=hone
        rw [kA,List.filter_map,List.length_map] at h
        rw [decide_eq_true_eq,← h]
        congr 1
        apply List.filter_congr
        intro y _
        exact (e7 y).symm
       rcases hleaf y hy with hs | rfl
       ·have h1:bB 2 nid cb (aO (decide (((leaves r0).filter db).length=1)) lv' y)=y:=by cases y<;>first | rfl | (simp [AV.scalar] at hs)
        rw [h1]
        exact ⟨iR hu hs,id⟩
       ·have h1:bB 2 nid cb (aO (decide (((leaves r0).filter db).length=1)) lv' (.sl br sz xs)) = .osl nid 0 (xs.length/sz) sz:=by
         rw [hone']
         simp only [aO,Bool.true_and,hlive]
         rw [if_neg (by omega),if_pos ⟨t4,trivial⟩]
         simp [bB]
        rw [h1]
        refine ⟨?_,fun _=>rfl⟩
        obtain ⟨len,cap,rfl,hlen,hcl,_,_⟩:=hinv u hu
        have hdiv:xs.length/sz=len:=by rw [hlen];exact Nat.mul_div_cancel _ hs0
        rw [hdiv]
        exact .osl nid 0 len sz cap b (e0-xs.length) (cU _ _ _) hs0 hcl
      ·rcases hid with hid | hid
       ·exact cG _ hid
       ·simp at hid
     ·simp at he
   ·simp at he
end
end Go.Abs
/- Every resolved operation, calls too, ends as the evaluator says. Condition: the callees do what the evaluator says ('Sound'). -/
namespace Go.Abs
def cJ (F:aE) (T:Nat→AV) (H:Hp) (E:Nat→Option TypeId) (lv:Nat→Bool) (n c:Nat) (op:IOp):Option de:=
 if bg op then aR F T H E lv n c op else (au T H lv n c op).map .eff
section
variable {P:Program}{F:aE}{G:Gh}{w:World}{T:Nat→AV}{H:Hp}{E:Nat→Option TypeId}{lv:Nat→Bool}{nid cb:Nat}{hint:Hint}{o:Oper}{io:IOp}{a:Act}
def uS (G:Gh) (lv:Nat→Bool) (w:World) (H:Hp) (E:Nat→Option TypeId) (nid cb:Nat) (s:de) (v:Value) (G':Gh) (w':World):Prop:=
 match s with
 | .eff e=>fK G lv w H E nid cb e v G' w'
 | .shared x hs=>hs.n=nid∧cb≤hs.c∧Ext G lv w G' hs.lv w'∧aG G' hs.H E hs.lv w'∧Rep G' w' x v∧(∀ id,G'.β id=G.β id)∧∀ b,hs.c≤b→G'.τ b=none
theorem uT {x:AV}(h:x.flat=true):x.share.flat=true:=by
 cases x
 case agg cs=>
  simp only [AV.flat,cm,AV.share,List.mem_map] at h ⊢
  rintro _ ⟨y,hy,rfl⟩
  exact fx (h y hy)
 all_goals exact fx h
def kB (G:Gh) (H:Hp):Gh:={ β:=fun _=>none,σ:=fun b i=>G.σ b i∨∃ id o,G.β id=some (b,some o)∧o≤i∧i<o+(H id).length,τ:=fun _=>none }
theorem uU (b:Nat):¬ fp (kB G H) (fun _=>false) b:=by
 rintro (⟨id,o,h⟩ | ⟨br,e,h,_⟩)
 ·cases h
 ·cases h
theorem zd (hW:aG G H E lv w):aG (kB G H) h0.H (fun _=>none) h0.lv w:=by
 constructor
 ·intro id b o h;cases h
 ·intro id b h;cases h
 ·intro id b o h;cases h
 ·intro id id' b o o' h;cases h
 ·intro br h;cases h
 ·intro br br' b e e' h;cases h
 ·rintro b i (h | ⟨id,o,h,_⟩)
  ·exact hW.σlt _ _ h
  ·exact hW.βlt h
 ·intro br b e h;cases h
 ·intro b r h;cases h
theorem nW:AB G w (kB G H) w:=⟨fun _ _ h=>.inl h,fun _ _ _=>rfl⟩
theorem pF (hW:aG G H E lv w) {y:AV}{u:Value}(h:Rep G w y u) (hok:ep H y=true):Rep (kB G H) w (bU H y) u∧(bU H y).flat=true:=by
 have other:y.flat=true→bU H y=y→Rep (kB G H) w (bU H y) u∧(bU H y).flat=true:=by
  intro hf he
  rw [he]
  exact ⟨h.fmono nW hf,hf⟩
 cases y with
 | osl id off len sz=>
  simp only [ep,Bool.and_eq_true,decide_eq_true_eq,cm] at hok
  obtain ⟨hle,hfl⟩:=hok
  obtain ⟨b,o,cap,rfl,hβ,hsz,hc⟩:=h.inv_osl
  refine ⟨?_,qL _ _⟩
  obtain ⟨cs,T0,fz,h1,h2,h3,_⟩:=hW.obj id b o hβ
  refine (Rep.canon (br:=1) (sz:=sz) (Rep.mk_sl (by omega) hsz ?_ hc ?_ (by omega) (by omega))).1
  ·rw [List.length_map,List.length_take,List.length_drop];omega
  ·intro i x hx
   simp only [List.getElem?_map,Option.map_eq_some_iff] at hx
   obtain ⟨x,hx,rfl⟩:=hx
   have hi:i<len*sz:=by
    have:=(List.getElem?_eq_some_iff.1 hx).1
    rw [List.length_take] at this;omega
   have hfx:=hfl x (List.mem_of_getElem? hx)
   rw [List.getElem?_take_of_lt hi,List.getElem?_drop] at hx
   obtain ⟨_,k2,v,k3,k4⟩:=h3 _ x hx
   refine ⟨v,?_,.inr ⟨id,o,hβ,by omega,by omega⟩,fx hfx,fw k2,(k4.fmono nW hfx).aF⟩
   rw [Nat.add_assoc,cell_of w b _ h1];exact k3
 | _=>exact other hok rfl
theorem qV {f:AV→AV}{x:AV}(h:∀ y∈leaves x,(f y).flat=true):(aA f x).flat=true:=by
 cases x with
 | agg cs=>
  simp only [aA,AV.flat,cm,List.mem_map]
  rintro _ ⟨y,hy,rfl⟩
  exact h y hy
 | tup vs=>
  simp only [aA,AV.flat,cm,List.mem_map]
  rintro _ ⟨y,hy,rfl⟩
  have hm:∀ c∈y.cells,(f c).flat=true:=fun c hc=>h c (List.mem_flatMap.2 ⟨y,hy,hc⟩)
  cases y
  case agg cs=>
   simp only [AV.flat,cm,List.mem_map]
   rintro _ ⟨z,hz,rfl⟩
   exact hm z hz
  all_goals exact hm _ (by simp [AV.cells])
 | _=>exact h _ (by simp [leaves,AV.cells])
theorem qW (sz:Nat) (xs:List AV):(csl sz xs).leaf=true:=by cases xs<;>rfl
theorem ql {y:AV}(h:y.leaf=true):(bU H y).leaf=true:=by
 cases y<;>first | exact h | exact qW _ _
theorem ze (hW:aG G H E lv w) {x:AV}{v:Value}(h:Rep G w x v) (hok:(leaves x).all (ep H)=true):Rep (kB G H) w (aA (bU H) x).share v∧(aA (bU H) x).share.flat=true:=by
 rw [List.all_eq_true] at hok
 have hf:(aA (bU H) x).flat=true:=qV fun y hy=>by
  have:∃ u,Rep G w y u:=h.leaf_exists y hy
  exact (pF hW this.choose_spec (hok y hy)).2
 exact ⟨(h.leafmap2 (fun y hy u hu=>⟨(pF hW hu (hok y hy)).1,ql⟩)).share,uT hf⟩
theorem uV {x:AV}{v:Value}(h:Rep G w x v) (hs:(leaves x).all AV.scalar=true) {G2:Gh}{w2:World}:Rep G2 w2 x v:=by
 rw [List.all_eq_true] at hs
 have:=h.leafmap2 (f:=id) (G2:=G2) (w2:=w2) (fun y hy u hu=>⟨iR hu (hs y hy),id⟩)
 have hid:aA id x=x:=by
  cases x with
  | agg cs=>simp [aA]
  | tup vs=>
   simp only [aA,AV.tup.injEq]
   refine Eq.trans (List.map_congr_left (g:=id) fun y _=>?_) (List.map_id vs)
   cases y<;>simp
  | _=>rfl
 rwa [hid] at this
theorem uW (hS:Sound P F) {f:FuncId}{vs:List AV}{r:AV}(he:evP F f (vs.map fun x=>(aA (bU H) x).share)=some r) (hok:vs.all (fun v=>(leaves v).all (ep H))=true) {args:Array Value}(hl:vs.length=args.size)
 (hr:∀ (i:Nat) (x:AV) (v:Value),vs[i]? = some x→args[i]? = some v→Rep G w x v) (hW:aG G H E lv w) (hsc:(leaves r).all AV.scalar=true) :
 Enters P f∧Calls P f args w fun e w'=>∃ v,e = .returned v∧fK G lv w H E nid cb { v:=r } v G w':=by
 rw [List.all_eq_true] at hok
 unfold evP at he
 split at he
 ·rename_i r0 hs' h1
  split at he
  ·simp only [Option.some.injEq] at he
   obtain ⟨k1,k2,k3,k4⟩:=hS.call f _ h0 (fun _=>none) r0 hs' h1
   refine ⟨k1,(k4 (kB G H) w args (by simpa using hl) ?_ (zd hW) (fun _ _=>rfl) (fun _ _=>rfl) (Nat.le_refl _) (.zero _ _ _ _)).mono fun e w' h=>?_⟩
   ·intro i x v hx hv
    simp only [List.getElem?_map,Option.map_eq_some_iff] at hx
    obtain ⟨y,hy,rfl⟩:=hx
    exact (ze hW (hr i y v hy hv) (hok y (List.mem_of_getElem? hy))).1
   ·obtain ⟨v,G',q1,q2,q3,q4,q5,_⟩:=h
    refine ⟨v,q1,?_⟩
    have hl0:Eff.live { v:=r } lv cb=lv:=bV rfl rfl
    have keep:∀ b,b<w.heap.size→w'.heap[b]? = w.heap[b]?:=fun b hb=>q2.keep b hb (uU b)
    have hext:Ext G lv w G lv w':=⟨fun _ _ h=>h,fun _ _ h=>h,fun _ _ h=>h,fun _ _ h _ _=>h,fun _ _ h=>h,fun b hb _=>keep b hb,fun b i h=>q2.kσ b i (.inl h),q2.shp,q2.size,q2.os,q2.tape,q2.output,fun _ _ h=>h,fun _ _ h=>h⟩
    have hrel:aG G H E lv w':=by
     constructor
     ·intro id b o hb
      obtain ⟨cs,T,fz,h1,h2,h3,h4,h5⟩:=hW.obj id b o hb
      have hk:=keep b (hW.βlt hb)
      exact ⟨cs,T,fz,hk.trans h1,h2,fun i x hx'=>by
       obtain ⟨k1,k2,v,k3,k4⟩:=h3 i x hx'
       exact ⟨k1,k2,v,k3,k4.mono hext.mono⟩,fun i hi=>(aP hk _).trans (h4 i hi),h5⟩
     ·intro id b hb
      exact hW.mobj_of hext.mono hb (keep b (hW.βlt hb)) rfl
     ·exact hW.nσ
     ·exact hW.inj
     ·intro br hbr
      obtain ⟨k1,b,e,cs,T,fz,k2,k3,k4,k5,k6⟩:=hW.tip br hbr
      have hk:=keep b (hW.τlt _ _ _ k2)
      exact ⟨k1,b,e,cs,T,fz,k2,hk.trans k3,fun i c=>(aP hk _).trans (k4 i c),k5,k6⟩
     ·exact hW.tinj
     ·exact fun b i h=>Nat.lt_of_lt_of_le (hW.σlt b i h) hext.size
     ·exact fun br b e h=>Nat.lt_of_lt_of_le (hW.τlt _ _ _ h) hext.size
     ·exact fun b r h=>Nat.lt_of_lt_of_le (hW.ρlt _ _ h) hext.size
    have hrep:Rep G w' r v:=uV (he▸lD q4) hsc
    exact ⟨by rw [hl0];exact hext,by rw [hl0];exact hrel,hrep,fun _ _=>rfl,fun _ _=>rfl⟩
  ·simp at he
 ·simp at he
theorem eval_func (a:Act) (f:FuncId):a.eval (.func f) = .func (.func f) #[] #[]:=rfl
theorem zf (hr:gw P hint o=some io) (c:Call):o.op≠.defer c:=by
 intro h
 simp [gw,h] at hr
theorem zg {t:TypeId}{v:Value}{name:String}{f:FuncId}(h:mo P name t=some f):∀ k,(method (k+1) t v name).run P w = .ok (f,v) w∧Enters P f:=by
 intro k
 unfold mo at h
 split at h
 ·rename_i i fs hi hu
  split at h
  ·rename_i m hm
   split at h
   ·rename_i f0 hp hf
    split at h
    ·rename_i fn hfn
     split at h
     ·rename_i hc
      simp only [Option.some.injEq] at h;subst h
      simp only [Bool.and_eq_true,Bool.not_eq_true'] at hc
      refine ⟨?_,fn,hfn,hc.1,hc.2⟩
      simp [method,typeInfo,hi,hm,hp,hf,follow,receiverAt,run_underlying hu,Place.get]
     ·cases h
    ·cases h
   ·cases h
  ·cases h
 ·cases h
theorem qX {name:String}{t:TypeId}{f:FuncId}(h:(qF P name).lookup t=some f):mo P name t=some f:=by
 unfold qF at h
 generalize List.range P.types.size=l at h
 induction l with
 | nil=>cases h
 | cons a l ih=>
  rw [List.filterMap_cons] at h
  cases hm:mo P name a with
  | none=>rw [hm] at h;exact ih h
  | some g=>
   rw [hm] at h
   simp only [Option.map_some,List.lookup] at h
   split at h
   ·rename_i he
    simp only [Option.some.injEq] at h;subst h
    rw [show t=a by simpa using he];exact hm
   ·exact ih h
theorem zh {c:Call}{f:FuncId}{t:TypeId}{v:Value}{name:String}{ρ:Operand→Value}{x:Operand}(hop:o.op = .call c) (hc:c.callee = .invoke x name) (hx:ρ x = .iface t v) (hm:mo P name t=some f) (w:World) :
 (execOp ρ o).run P w = .ok (.enter f (#[v]++c.args.map ρ)) w:=by
 obtain ⟨h1,h2⟩:=zg (w:=w) (v:=v) hm (P.types.size+99)
 have e:P.types.size+Made.depth=P.types.size+99+1:=rfl
 have e2:(#[Value.iface t v]++c.args.map ρ).extract 1 (#[Value.iface t v]++c.args.map ρ).size=c.args.map ρ:=by
  apply Array.ext'
  simp [List.take_of_length_le]
 have e3:(#[Value.iface t v]++c.args.map ρ)[0]? = some (.iface t v):=by rw [Array.getElem?_append_left (by simp)];rfl
 have e4:(callMethod (.iface t v) name (c.args.map ρ)).run P w = .ok (.enter f (#[v]++c.args.map ρ)) w:=by
  simp only [callMethod,Sem.run_bind,run_program,Result.andThen_ok,e,h1,gU h2]
 simp only [execOp,hop,resolve,hc,hx,Sem.run_bind,Sem.run_pure,Result.andThen_ok,invoke,e3,e2,e4]
theorem zi {q:Option Nat}{m:Nat}(hS:Sound P F) (hE:cl P F.env G w) {c:Call}(hop:o.op = .call c) (hr:gh P hint o c=some io) (hc:bg io=true) (h:Pre G w T H E lv nid cb a.eval io) (hβ:io.allH=true→∀ id,nid≤id→G.β id=none) (hτ:io.allH=true→∀ b,cb≤b→G.τ b=none)
 {s:de}(he:aR F T H E lv nid cb io=some s) {K:Act→World→Prop}{Q:Exit→Act→World→Prop}(hk:∀ v w' G',uS G lv w H E nid cb s v G' w'→K (a.put o.dst v) w'):o.wpIn (Fr q) m P a w K Q:=by
 have hnd:∀ c,o.op≠.defer c:=fun c h=>by rw [hop] at h;cases h
 have argsz:∀ {l:List Operand}{xs:List X},c.args.toList=l→cW l=some xs→(xs.map (ev T)).length=(c.args.map a.eval).size∧
  ∀ (i:Nat) (x:AV) (v:Value),(xs.map (ev T))[i]? = some x→(c.args.map a.eval)[i]? = some v→Rep G w x v:=by
  intro l xs hl hx
  subst hl
  obtain ⟨q1,q2⟩:=h.X.list hx
  refine ⟨by simpa using q1,fun i x v hi hv=>q2 i x v hi ?_⟩
  simpa using hv
 unfold gh at hr
 split at hr
 ·split at hr
  ·split at hr
   ·obtain ⟨_,hr⟩:=lC hr
    simp only [Option.some.injEq] at hr;subst hr
    split at hc<;>split at hc<;>simp [bg] at hc
   ·simp at hr
  ·simp at hr
 ·split at hr
  ·obtain ⟨s,hs,rfl⟩:=aC hr;simp [bg] at hc
  ·simp at hr
 ·split at hr
  ·split at hr
   ·split at hr
    ·simp only [Option.some.injEq] at hr;subst hr;simp [bg] at hc
    ·simp at hr
   ·simp at hr
  ·simp only [Option.some.injEq] at hr;subst hr;simp [bg] at hc
  ·simp only [Option.some.injEq] at hr;subst hr;simp [bg] at hc
  ·simp only [Option.some.injEq] at hr;subst hr;simp [bg] at hc
  ·simp at hr
 ·obtain ⟨s,hs,rfl⟩:=aC hr;simp [bg] at hc
 ·obtain ⟨s,hs,rfl⟩:=aC hr;simp [bg] at hc
 ·-- a function that is named
  rename_i args f hcal
  split at hr
  ·rename_i fn hfn
   split at hr
   ·rename_i hent
    obtain ⟨xs,hxs,hio⟩:=aC hr
    obtain ⟨q1,q2⟩:=argsz rfl hxs
    have enter:Enters P f→(execOp a.eval o).run P w = .ok (.enter f (c.args.map a.eval)) w:=fun hen=>by
     have:=nR (ρ:=a.eval) hop hcal (eval_func a f) hen w
     simpa using this
    have hform:io = .calls f xs∨(∃ m,io = .callp m f xs)∨io = .calln f xs:=by
     rw [hio]
     split
     ·exact .inl rfl
     ·split
      ·split
       ·exact .inr (.inr rfl)
       ·exact .inr (.inl ⟨_,rfl⟩)
      ·exact .inr (.inl ⟨_,rfl⟩)
    clear hio hr
    rcases hform with rfl | ⟨m,rfl⟩ | rfl
    ·-- shared
     simp only [aR] at he
     split at he
     ·rename_i v0 hs hF
      simp only [Option.some.injEq] at he;subst he
      obtain ⟨k1,k2,k3,k4⟩:=hS.call f _ _ _ _ _ hF
      refine fR hnd (enter k1) (k4 G w _ q1 q2 h.W (hβ rfl) (hτ rfl) h.b (hE.low _)) fun e' w' hR=>?_
      obtain ⟨v,G',rfl,r1,r2,r3,r4,r5⟩:=hR
      exact ⟨v,rfl,hk v w' G' ⟨k2,k3,r1,r2,r3,r4,r5⟩⟩
     ·simp at he
    ·-- owned
     simp only [aR] at he
     split at he
     ·rename_i hfl
      rw [cm] at hfl
      split at he
      ·rename_i r hevp
       split at he
       ·rename_i e hadopt
        simp only [Option.some.injEq] at he;subst he
        have hr':∀ (i:Nat) (x:AV) (v:Value),(xs.map fun x=>(ev T x).share)[i]? = some x→(c.args.map a.eval)[i]? = some v→Rep G w x v:=by
         intro i x v hx hv
         simp only [List.getElem?_map,Option.map_eq_some_iff] at hx
         obtain ⟨y,hy,rfl⟩:=hx
         exact (q2 i (ev T y) v (by simp [hy]) hv).share
        obtain ⟨hen,hcalls⟩:=nS hS hevp hfl (by simpa using q1) hr' h.W
        refine fR hnd (enter hen) hcalls fun e' w' hR=>?_
        obtain ⟨v,r0,hs',G',rfl,k1,rfl,k3,k4,k5,k6,k7⟩:=hR
        obtain ⟨G2,hp⟩:=nV h.W h.n h.b h.τ k4 k5 k6 k3 hadopt
        exact ⟨v,rfl,hk v w' G2 hp⟩
       ·simp at he
      ·simp at he
     ·simp at he
    ·-- what objects hold
     simp only [aR] at he
     split at he
     ·rename_i hok
      split at he
      ·rename_i r hevp
       split at he
       ·rename_i hsc
        simp only [Option.some.injEq] at he;subst he
        have hevp':evP F f ((xs.map (ev T)).map fun x=>(aA (bU H) x).share)=some r:=by
         rw [List.map_map];exact hevp
        obtain ⟨hen,hcalls⟩:=uW (nid:=nid) (cb:=cb) hS hevp' hok q1 q2 h.W hsc
        refine fR hnd (enter hen) hcalls fun e' w' hR=>?_
        obtain ⟨v,rfl,hp⟩:=hR
        exact ⟨v,rfl,hk v w' G hp⟩
       ·simp at he
      ·simp at he
     ·simp at he
   ·simp at hr
  ·simp at hr
 ·-- a function value
  rename_i args t hcal
  obtain ⟨xs,hxs,rfl⟩:=aC hr
  obtain ⟨q1,q2⟩:=argsz rfl hxs
  simp only [aR] at he
  split at he
  ·rename_i f fs cs hev
   split at he
   ·rename_i v0 hs hF
    simp only [Option.some.injEq] at he;subst he
    obtain ⟨k1,k2,k3,k4⟩:=hS.call f _ _ _ _ _ hF
    have hx:=h.X (.tmp t) (.t t) rfl
    rw [hev] at hx
    obtain ⟨gs,ds,hval,l1,l2,r1,r2⟩:=hx.inv_fn
    refine fR hnd (nR (ρ:=a.eval) hop hcal hval k1 w) (k4 G w _ ?_ ?_ h.W (hβ rfl) (hτ rfl) h.b (hE.low _)) fun e' w' hR=>?_
    ·simp only [List.length_append,Array.size_append]
     omega
    ·intro i x v hx hv
     simp only [List.append_assoc,Array.append_assoc] at hx hv
     by_cases h1:i<fs.length
     ·rw [List.getElem?_append_left h1] at hx
      rw [Array.getElem?_append_left (by omega)] at hv
      exact r1 i x v hx hv
     ·rw [List.getElem?_append_right (by omega)] at hx
      rw [Array.getElem?_append_right (by omega),← l1] at hv
      by_cases h2:i-fs.length<(xs.map (ev T)).length
      ·rw [List.getElem?_append_left h2] at hx
       rw [Array.getElem?_append_left (by omega)] at hv
       exact q2 _ x v hx hv
      ·rw [List.getElem?_append_right (by omega)] at hx
       rw [Array.getElem?_append_right (by omega),← q1] at hv
       exact r2 _ x v hx hv
    ·obtain ⟨v,G',rfl,r1,r2,r3,r4,r5⟩:=hR
     exact ⟨v,rfl,hk v w' G' ⟨k2,k3,r1,r2,r3,r4,r5⟩⟩
   ·simp at he
  ·-- a range over a function goes on
   rename_i id hev
   split at he
   ·rename_i y hy
    split at he
    ·rename_i v0 hs hF
     simp only [Option.some.injEq] at he;subst he
     obtain ⟨b,r,e1,e2,e3⟩:=hE id y hy
     obtain ⟨k2,k3,k4⟩:=e3 G w (Nat.le_refl _) (dV.refl _ _) _ _ _ _ _ hF
     have hx:=h.X (.tmp t) (.t t) rfl
     rw [hev] at hx
     obtain ⟨b',hval,hβ'⟩:=hx.inv_yl
     rw [e1] at hβ'
     simp only [Option.some.injEq,Prod.mk.injEq,and_true] at hβ'
     subst hβ'
     refine sL hnd (k4 _ q1 q2 h.W (hβ rfl) (hτ rfl) h.b) (fun l f t' a1 a2 hrun=>?_) fun e' w' hR=>?_
     ·have:(#[]:Array Value)++c.args.map a.eval=c.args.map a.eval:=by simp
      simp only [execOp,hop,resolve,hcal,hval,Deferred.ofValue,Sem.run_bind,Sem.run_pure,Result.andThen_ok,invoke,this,hrun]
     ·obtain ⟨v,G',rfl,r1,r2,r3,r4,r5⟩:=hR
      exact ⟨v,rfl,hk v w' G' ⟨k2,k3,r1,r2,r3,r4,r5⟩⟩
    ·simp at he
   ·simp at he
  ·simp at he
 ·-- a method,through an interface
  rename_i args x name hcal
  split at hr
  ·rename_i x' xs hx' hxs
   simp only [Option.some.injEq] at hr;subst hr
   obtain ⟨q1,q2⟩:=argsz rfl hxs
   simp only [aR] at he
   split at he
   ·rename_i t v0 hev
    split at he
    ·rename_i f hlk
     split at he
     ·rename_i hfl
      rw [cm] at hfl
      split at he
      ·rename_i r hevp
       simp only [Option.some.injEq] at he;subst he
       have hx:=h.X x x' hx'
       rw [hev] at hx
       obtain ⟨v,hval,hv⟩:=hx.inv_iface
       have hm:=qX hlk
       have hr':∀ (i:Nat) (y:AV) (u:Value),(v0.share::xs.map fun x=>(ev T x).share)[i]? = some y→(#[v]++c.args.map a.eval)[i]? = some u→Rep G w y u:=by
        intro i y u hy hu
        cases i with
        | zero=>
         simp only [List.getElem?_cons_zero,Option.some.injEq] at hy
         rw [Array.getElem?_append_left (by simp)] at hu
         simp at hu
         subst hy;subst hu
         exact hv.share
        | succ i=>
         simp only [List.getElem?_cons_succ,List.getElem?_map,Option.map_eq_some_iff] at hy
         obtain ⟨z,hz,rfl⟩:=hy
         rw [Array.getElem?_append_right (by simp)] at hu
         exact (q2 i (ev T z) u (by simp [hz]) (by simpa using hu)).share
       obtain ⟨hen,hcalls⟩:=nS hS hevp hfl (by simp only [List.length_cons,List.length_map,Array.size_append];simp at q1 ⊢;omega) hr' h.W
       refine fR hnd (zh (ρ:=a.eval) hop hcal hval hm w) hcalls fun e' w' hR=>?_
       obtain ⟨v,r0,hs',G',rfl,k1,rfl,k3,k4,k5,k6,k7⟩:=hR
       obtain ⟨G2,hp⟩:=nV (m:=0) h.W h.n h.b h.τ k4 k5 k6 k3 rfl
       exact ⟨v,rfl,hk v w' G2 hp⟩
      ·simp at he
     ·simp at he
    ·simp at he
   ·simp at he
  ·simp at hr
 ·simp at hr
theorem wV {s:de}(hc:bg io=false) (h:cJ F T H E lv nid cb io=some s):∃ e,au T H lv nid cb io=some e∧s = .eff e:=by
 simp only [cJ,hc,Bool.false_eq_true,if_false] at h
 exact aC h
theorem uX (hr:gw P hint o=some io) (hc:bg io=true):∃ c,o.op = .call c∧gh P hint o c=some io:=by
 unfold gw at hr
 split at hr
 all_goals first
  | (rename_i c hop;exact ⟨c,hop,hr⟩)
  | (exfalso
     (repeat' split at hr)<;>first
      | (simp at hr;done)
      | (obtain ⟨_,_,rfl⟩:=aC hr;simp [bg] at hc;done)
      | (simp only [Option.some.injEq] at hr;subst hr;simp [bg] at hc;done))
theorem nX {q:Option Nat}{m:Nat}(hS:Sound P F) (hE:cl P F.env G w) (hr:gw P hint o=some io) (h:Pre G w T H E lv nid cb a.eval io) (hβ:io.allH=true→∀ id,nid≤id→G.β id=none) (hτ:io.allH=true→∀ b,cb≤b→G.τ b=none)
 {s:de}(he:cJ F T H E lv nid cb io=some s) {K:Act→World→Prop}{Q:Exit→Act→World→Prop}(hk:∀ v w' G',uS G lv w H E nid cb s v G' w'→K (a.put o.dst v) w'):o.wpIn (Fr q) m P a w K Q:=by
 cases hc:bg io with
 | false=>
  obtain ⟨e,he',rfl⟩:=wV hc he
  exact uR (zf hr) (BQ hr hc h he') fun v w' G' hp=>hk v w' G' hp
 | true=>
  obtain ⟨c,hop,hr'⟩:=uX hr hc
  simp only [cJ,hc,if_true] at he
  exact zi hS hE hop hr' hc h hβ hτ he hk
end
end Go.Abs
/- A region in the order of the text. Condition: the callees do what the evaluator says ('Sound'). -/
namespace Go.Abs
def jK (m:Nat) (w:World):List Deferred→Prop
 | []=>True
 | d::ds=>(∃ r,d.target = .collected r∧m≤r∧w.heap[r]? = some (.deferred (some []))∧∀ d'∈ds,d'.target≠.collected r)∧jK m w ds
def DOK (m:Nat) (w:World) (ds:List Deferred):Prop:=m≤w.heap.size∧jK m w ds
theorem jK.keep {m:Nat}{w w':World}:∀ {ds:List Deferred},jK m w ds→(∀ r:Nat,w.heap[r]? = some (.deferred (some []))→w'.heap[r]? = some (.deferred (some [])))→jK m w' ds
 | [],_,_=>trivial
 | _::_,⟨⟨r,h1,h0,h2,h3⟩,h⟩,k=>⟨⟨r,h1,h0,k r h2,h3⟩,h.keep k⟩
theorem pG {G:Gh}{H:Hp}{E:Nat→Option TypeId}{lv:Nat→Bool}{w:World}(h:aG G H E lv w) {r:Nat}(hr:w.heap[r]? = some (.deferred (some []))):¬ fp G lv r:=by
 rintro (⟨id,o,h1⟩ | ⟨br,e,h1,h2⟩)
 ·cases o with
  | some o=>
   obtain ⟨cs,T,fz,k1,_⟩:=h.obj id r o h1
   rw [hr] at k1;cases k1
  | none=>
   have hm:=h.mobj id r h1
   unfold dj at hm
   split at hm
   ·obtain ⟨es,ck,k1,_⟩:=hm
    rw [hr] at k1;cases k1
   ·obtain ⟨l,k1,_⟩:=hm
    rw [hr] at k1;cases k1
 ·obtain ⟨_,b,e',cs,T,fz,k1,k2,_⟩:=h.tip br h1
  rw [h2] at k1
  simp only [Option.some.injEq,Prod.mk.injEq] at k1
  rw [← k1.1,hr] at k2;cases k2
theorem DOK.ext {mk:Nat}{G G':Gh}{H:Hp}{E:Nat→Option TypeId}{lv lv':Nat→Bool}{w w':World}{ds:List Deferred}(h:DOK mk w ds) (hW:aG G H E lv w) (x:Ext G lv w G' lv' w'):DOK mk w' ds:=
 ⟨Nat.le_trans h.1 x.size,h.2.keep fun r hr=>(x.keep r (Array.getElem?_eq_some_iff.1 hr).1 (pG hW hr)).trans hr⟩
structure cu (G:Gh) (S:St) (nt mk:Nat) (a:Act) (w:World):Prop where
 T:∀ t,Rep G w (S.T t) (a.tmps.getD t undef)
 W:aG G S.H S.E S.lv w
 β:∀ id,S.n≤id→G.β id=none
 τ:∀ b,S.c≤b→G.τ b=none
 c:4≤S.c
 nt:nt≤a.tmps.size
 d:DOK mk w a.defers
def dL (G:Gh) (n:Nat) (G':Gh):Prop:=∀ id,id<n→G'.β id=G.β id
theorem dL.refl (G:Gh) (n:Nat):dL G n G:=fun _ _=>rfl
theorem dL.trans {G G1 G2:Gh}{n m:Nat}(h:dL G n G1) (k:dL G1 m G2) (hle:n≤m):dL G n G2:=fun id hid=>(k id (by omega)).trans (h id hid)
def bo (s:de) (S:St) (d:Option Nat):St:=
 match s with
 | .eff e=>e.st S d
 | .shared v hs=>{ T:=cF S.T d v,H:=hs.H,E:=S.E,n:=hs.n,lv:=hs.lv,c:=hs.c }
section
variable {P:Program}{F:aE}{G:Gh}{w:World}{hint:Hint}{o:Oper}{io:aa}{a:Act}{nt mk:Nat}{ops:Array Oper}{S S':St}
theorem lE (io:aa) (S:St):bA F io S=match bW S.T io.guard with
 | none=>none
 | some false=>some { S with T:=cF S.T io.dst (.tup []) }
 | some true=>(cJ F S.T S.H S.E S.lv S.n S.c io.op).map fun s=>bo s S io.dst:=by
 unfold bA
 split<;>rename_i h<;>rw [h]
 simp only [cJ]
 split
 ·cases aR F S.T S.H S.E S.lv S.n S.c io.op with
  | none=>rfl
  | some s=>cases s<;>rfl
 ·cases au S.T S.H S.lv S.n S.c io.op<;>rfl
theorem lF:Rep G w (.tup []) undef:=.tup [] #[] rfl (by simp)
theorem h8 {T:Nat→AV}(h:∀ t,Rep G w (T t) (a.tmps.getD t undef)):bP G w T a.eval:=by
 intro y x hx
 cases y with
 | tmp t=>simp only [aI,Option.some.injEq] at hx;subst hx;exact h t
 | const v=>
  simp only [aI,Option.map_eq_some_iff] at hx
  obtain ⟨c,hc,rfl⟩:=hx
  exact (oX hc).1
 | func f=>
  simp only [aI,Option.some.injEq] at hx;subst hx
  exact .fn f [] [] #[] #[] rfl rfl (by simp) (by simp)
 | global g=>simp [aI] at hx
theorem jj (a:Act) (d:Option Nat) (v:Value):(a.put d v).tmps.size=a.tmps.size:=by cases d<;>simp [Act.put]
theorem fS (a:Act) (d:Option Nat) (v:Value):(a.put d v).defers=a.defers:=by cases d<;>rfl
theorem j0 {T:Nat→AV}(h:∀ t,Rep G w (T t) (a.tmps.getD t undef)) {x:AV}{v:Value}(hx:Rep G w x v) {d:Option Nat}(hd:∀ t,d=some t→t<a.tmps.size) (t:Nat) :
 Rep G w (cF T d x t) ((a.put d v).tmps.getD t undef):=by
 cases d with
 | none=>exact h t
 | some d=>
  have hlt:=hd d rfl
  simp only [cF,upd,Act.put]
  by_cases ht:t=d
  ·subst ht;simpa [hlt] using hx
  ·simp only [ht,if_false]
   have:((a.tmps.setIfInBounds d v).getD t undef)=a.tmps.getD t undef:=by
    simp only [Array.getD_eq_getD_getElem?,Array.getElem?_setIfInBounds_ne (Ne.symm ht)]
   rw [this];exact h t
theorem zj {x:AV}{b:Bool}(h:Rep G w x (.bool b)):x = .bool b∨x = .junk:=by
 cases h with
 | junk=>exact .inr rfl
 | bool=>exact .inl rfl
theorem gz {T:Nat→AV}(h:∀ t,Rep G w (T t) (a.tmps.getD t undef)) {g:Option (Nat×Bool)}(hg:je ops o.guard=some g) {b:Bool}(hw:bW T g=some b):Region.wanted o (yielded ops a.tmps)=b:=by
 unfold Region.wanted
 cases ho:o.guard with
 | none=>
  rw [ho] at hg
  simp only [je,Option.some.injEq] at hg;subst hg
  simp only [bW,Option.some.injEq] at hw
  exact hw
 | some jw=>
  obtain ⟨j,want⟩:=jw
  rw [ho] at hg
  simp only [je] at hg
  split at hg
  ·rename_i t ht
   simp only [Option.some.injEq] at hg;subst hg
   simp only [yielded,ht,Option.bind_some]
   simp only [bW] at hw
   have hr:=h t
   split at hw
   ·rename_i b' hb'
    simp only [Option.some.injEq] at hw
    rw [hb'] at hr
    have hv:=hr.inv_bool
    have hs:a.tmps[t]? = some (.bool b'):=by
     rw [Array.getD_eq_getD_getElem?] at hv
     cases hq:a.tmps[t]? with
     | none=>rw [hq] at hv;simp [undef] at hv
     | some u=>rw [hq] at hv;simpa using hv
    simp only [hs]
    rw [← hw]
    cases b'<;>cases want<;>rfl
   ·simp at hw
   ·rename_i h1 h2
    simp only [Option.some.injEq] at hw;subst hw
    cases hq:a.tmps[t]? with
    | none=>simp
    | some u=>
     have hu:a.tmps.getD t undef=u:=by rw [Array.getD_eq_getD_getElem?,hq];rfl
     rw [hu] at hr
     cases u with
     | bool b'=>rcases zj hr with h' | h'
                ·exact absurd h' (h1 b')
                ·exact absurd h' h2
     | _=>simp
  ·simp at hg
theorem fT (h:fq P hint nt ops o=some io):gw P hint o=some io.op∧je ops o.guard=some io.guard∧io.dst=o.dst∧∀ t,o.dst=some t→t<nt:=by
 unfold fq at h
 split at h
 ·rename_i op g h1 h2
  simp only [Option.ite_none_right_eq_some,Option.some.injEq] at h
  obtain ⟨hd,rfl⟩:=h
  refine ⟨h1,h2,rfl,fun t ht=>?_⟩
  rw [ht] at hd
  simpa using hd
 ·simp at h
def wpO (q:Option Nat) (m:Nat) (P:Program) (ops:Array Oper) (o:Oper) (K:Act→World→Prop) (Q:Exit→Act→World→Prop) (a:Act) (w:World):Prop:=
 if Region.wanted o (yielded ops a.tmps) then o.wpIn (Fr q) m P a w K Q else (∀ f,o.about P w a.eval=some f→(Fr q).fn f)∧K (a.put o.dst undef) w
theorem ab3 {e:Eff}(S:St) (d:Option Nat):(e.st S d).n=match e.new with | some _=>S.n+1 | none=>S.n:=rfl
theorem lG {s:de}{v:Value}{G':Gh}{w':World}(h:cu G S nt mk a w) (hp:uS G S.lv w S.H S.E S.n S.c s v G' w') {d:Option Nat}(hd:∀ t,d=some t→t<nt) :
 cu G' (bo s S d) nt mk (a.put d v) w'∧Ext G S.lv w G' (bo s S d).lv w'∧dL G S.n G'∧S.n≤(bo s S d).n∧S.c≤(bo s S d).c:=by
 have hd':∀ t,d=some t→t<a.tmps.size:=fun t ht=>Nat.lt_of_lt_of_le (hd t ht) h.nt
 cases s with
 | eff e=>
  have hp:fK G S.lv w S.H S.E S.n S.c e v G' w':=hp
  refine ⟨⟨fun t=>j0 (fun t=>(h.T t).mono hp.ext.mono) hp.rep hd' t,hp.rel,fun id hid=>?_,fun b hb=>?_,?_,by rw [jj];exact h.nt,by rw [fS];exact h.d.ext h.W hp.ext⟩,hp.ext,fun id hid=>hp.β id (.inl (by omega)),?_,?_⟩
  ·have hid:(match e.new with | some _=>S.n+1 | none=>S.n)≤id:=hid
   have:id≠S.n∨e.new=none:=by
    cases hn:e.new with
    | none=>exact .inr rfl
    | some cs=>rw [hn] at hid;exact .inl (by simp at hid;omega)
   rw [hp.β id this]
   refine h.β id ?_
   cases hn:e.new with
   | none=>rw [hn] at hid;exact hid
   | some cs=>rw [hn] at hid;simp at hid;omega
  ·have hb:S.c+e.nb≤b:=hb
   rw [hp.τ b (.inr hb)]
   exact h.τ b (by omega)
  ·show 4≤S.c+e.nb
   have:=h.c;omega
  ·show S.n≤match e.new with | some _=>S.n+1 | none=>S.n
   cases e.new<;>simp
  ·show S.c≤S.c+e.nb
   omega
 | shared x hs=>
  obtain ⟨h1,h2,h3,h4,h5,h6,h7⟩:hs.n=S.n∧S.c≤hs.c∧Ext G S.lv w G' hs.lv w'∧aG G' hs.H S.E hs.lv w'∧Rep G' w' x v∧(∀ id,G'.β id=G.β id)∧∀ b,hs.c≤b→G'.τ b=none:=hp
  refine ⟨⟨fun t=>j0 (fun t=>(h.T t).mono h3.mono) h5 hd' t,h4,fun id hid=>?_,h7,?_,by rw [jj];exact h.nt,by rw [fS];exact h.d.ext h.W h3⟩,h3,fun id _=>h6 id,?_,h2⟩
  ·rw [h6];exact h.β id (by rw [← h1];exact hid)
  ·show 4≤hs.c
   have:=h.c;omega
  ·show S.n≤hs.n
   omega
theorem uY {q:Option Nat}{m:Nat}(hS:Sound P F) (hE:cl P F.env G w) (h:cu G S nt mk a w) (hr:fq P hint nt ops o=some io) (he:bA F io S=some S') {K:Act→World→Prop}{Q:Exit→Act→World→Prop}
 (hk:∀ a' w' G',cu G' S' nt mk a' w'→Ext G S.lv w G' S'.lv w'→dL G S.n G'→S.n≤S'.n→S.c≤S'.c→K a' w'):wpO q m P ops o K Q a w:=by
 obtain ⟨h1,h2,h3,h4⟩:=fT hr
 have hd:∀ t,o.dst=some t→t<a.tmps.size:=fun t ht=>Nat.lt_of_lt_of_le (h4 t ht) h.nt
 rw [lE] at he
 unfold wpO
 split at he
 ·simp at he
 ·rename_i hw
  rw [gz h.T h2 hw,if_neg (by simp)]
  simp only [Option.some.injEq] at he;subst he
  rw [h3] at hk
  exact ⟨fun _ _=>trivial,hk _ _ G ⟨fun t=>j0 h.T lF hd t,h.W,h.β,h.τ,h.c,by rw [jj];exact h.nt,by rw [fS];exact h.d⟩ (Ext.refl _ _ _) (.refl _ _) (Nat.le_refl _) (Nat.le_refl _)⟩
 ·rename_i hw
  rw [gz h.T h2 hw,if_pos rfl]
  obtain ⟨s,hs,rfl⟩:=aC he
  rw [h3] at hk
  have hpre:Pre G w S.T S.H S.E S.lv S.n S.c a.eval io.op:=⟨h8 h.T,h.W,h.β _ (Nat.le_refl _),h.c,h.τ _ (Nat.le_refl _),fun y x hx _=>(h8 h.T y x hx).under fun id p hp=>by
   rcases Nat.lt_or_ge id S.n with h' | h'
   ·exact h'
   ·rw [h.β id h'] at hp;cases hp⟩
  exact nX hS hE h1 hpre (fun _=>h.β) (fun _=>h.τ) hs fun v w' G' hp=>by
   obtain ⟨k1,k2,k3,k4,k5⟩:=lG (d:=o.dst) h hp h4
   exact hk _ _ G' k1 k2 k3 k4 k5
end
end Go.Abs
/- A region in the order of the text, whole; and what is known of the states on the way. Condition: the callees do what the evaluator says ('Sound'). -/
namespace Go.Abs
section
variable {P:Program}{F:aE}{G:Gh}{w:World}{hint:Hint}{o:Oper}{io:aa}{a:Act}{nt mk:Nat}{ops:Array Oper}{S S':St}
theorem e9 {os:List Oper}{l:List aa}(h:dz P hint nt ops os=some l):l.length=os.length∧∀ (i:Nat) (o:Oper),os[i]? = some o→∃ io,l[i]? = some io∧fq P hint nt ops o=some io:=by
 induction os generalizing l with
 | nil=>simp only [dz,Option.some.injEq] at h;subst h;simp
 | cons y os ih=>
  simp only [dz] at h
  split at h
  ·rename_i a l' ha hl'
   simp only [Option.some.injEq] at h;subst h
   obtain ⟨i1,i2⟩:=ih hl'
   refine ⟨by simp [i1],fun i z hz=>?_⟩
   cases i with
   | zero=>simp at hz;subst hz;exact ⟨a,rfl,ha⟩
   | succ i=>simp at hz;simpa using i2 i z hz
  ·simp at h
theorem BS {q:Option Nat}{m:Nat}{Q:Exit→Act→World→Prop}{i:Nat}{rest:List Nat}(h:ops[i]? = some o):wpOpsIn (Fr q) m P ops Q (i::rest) a w=wpO q m P ops o (wpOpsIn (Fr q) m P ops Q rest) Q a w:=by
 simp only [wpOpsIn,h,wpO]
theorem dG (io:aa) (l:List aa) (S:St):aS F (io::l) S=(bA F io S).bind (aS F l):=by
 simp only [aS]
 cases bA F io S<;>rfl
theorem pH {q:Option Nat}{d:Nat}(hS:Sound P F) {l:List aa}(hl:dz P hint nt ops ops.toList=some l) {Q:Exit→Act→World→Prop}:∀ (m i:Nat) (S:St) (G:Gh) (a:Act) (w:World),i+m≤ops.size→cl P F.env G w→cu G S nt mk a w→aS F ((l.drop i).take m) S=some S'→
 (∀ a' w' G',cu G' S' nt mk a' w'→Ext G S.lv w G' S'.lv w'→dL G S.n G'→S.n≤S'.n→S.c≤S'.c→Q .normal a' w')→wpOpsIn (Fr q) d P ops Q (List.range' i m) a w:=by
 intro m
 induction m with
 | zero=>
  intro i S G a w _ hE h he hk
  simp only [List.take_zero,aS,Option.some.injEq] at he;subst he
  exact hk a w G h (Ext.refl _ _ _) (.refl _ _) (Nat.le_refl _) (Nat.le_refl _)
 | succ m ih=>
  intro i S G a w him hE h he hk
  obtain ⟨h1,h2⟩:=e9 hl
  have hlt:i<ops.size:=by omega
  obtain ⟨io,hio,hr⟩:=h2 i ops[i] (by simp [hlt])
  have hil:i<l.length:=(List.getElem?_eq_some_iff.1 hio).1
  have hdrop:l.drop i=io::l.drop (i+1):=by
   have:=(List.getElem?_eq_some_iff.1 hio).2
   rw [← this];exact List.drop_eq_getElem_cons hil
  rw [hdrop,List.take_succ_cons,dG] at he
  obtain ⟨S1,e1,e2⟩:=Option.bind_eq_some_iff.1 he
  rw [List.range'_succ,BS (o:=ops[i]) (by simp [hlt])]
  refine uY hS hE h hr e1 fun a1 w1 G1 k1 k2 k3 k4 k5=>?_
  refine ih (i+1) S1 G1 a1 w1 (by omega) (hE.ext k2) k1 e2 fun a2 w2 G2 m1 m2 m3 m4 m5=>?_
  exact hk a2 w2 G2 m1 (k2.trans m2) (k3.trans m3 k4) (by omega) (by omega)
theorem oY (q:Option Nat) (n:Nat):(Fr q).room n:=fun d hd=>by cases hd
theorem uZ {q:Option Nat}{Fact:Prop}:∀ (l:List Nat) (m:Nat) (a:Act) (w:World),wpOpsIn (Fr q) m P ops (fun e _ _=>e = .normal∧Fact) l a w→Fact:=by
 intro l
 induction l with
 | nil=>intro m a w h;exact h.2
 | cons i l ih=>
  intro m a w h
  simp only [wpOpsIn] at h
  split at h
  ·exact ih _ _ _ h
  ·rename_i o _
   split at h
   ·obtain ⟨_,h⟩:=h
    generalize (o.semAt (Fr q).round a.eval).run P w=r at h
    cases r with
    | ok n w'=>
     cases n<;>simp only [Oper.uponIn] at h
     case value v=>exact ih _ _ _ h
     case skip=>exact ih _ _ _ h
     case defer d=>exact ih _ _ _ h
     case enter f args=>
      obtain ⟨e,w'',_,hr,_⟩:=h.2.2 [] (oY _ _)
      cases e with
      | returned v=>exact ih _ _ _ hr
      | panicked c=>simp at hr
      | outgrown=>
       obtain ⟨_,_,h',_⟩:=hr
       cases h'
     case row f args=>
      obtain ⟨e,w'',hr,_⟩:=h.2 (Frame.ofRow P "" #[] .normal) [] (oY _ _)
      exact ih _ _ _ hr
     case round l f t a1 a2=>
      obtain ⟨e,w'',hr,_⟩:=h.2.2 (Frame.ofRow P "" #[] .normal) [] (oY _ _)
      cases e with
      | returned v=>exact ih _ _ _ hr
      | panicked c=>simp at hr
      | outgrown=>
       obtain ⟨_,_,h',_⟩:=hr
       cases h'
    | halt x w'=>
     cases x<;>simp only [Oper.uponIn] at h
     simp at h
   ·exact ih _ _ _ h.2
theorem sP (hS:Sound P F) (hE:cl P F.env G w) {l:List aa}(hl:dz P hint nt ops ops.toList=some l) (h:cu G S nt mk a w) {m:Nat}(hm:m≤ops.size) (he:aS F (l.take m) S=some S') :
 ∃ G' a' w',cu G' S' nt mk a' w'∧S.n≤S'.n∧S.c≤S'.c:=by
 apply uZ (q:=none) (P:=P) (ops:=ops) (List.range' 0 m) 0 a w
 exact pH hS hl m 0 S G a w (by omega) hE h (by simpa using he) fun a' w' G' k1 k2 k3 k4 k5=>⟨rfl,G',a',w',k1,k4,k5⟩
theorem fb (l1 l2:List aa) (S:St):aS F (l1++l2) S=(aS F l1 S).bind (aS F l2):=by
 induction l1 generalizing S with
 | nil=>rfl
 | cons io l1 ih=>
  rw [List.cons_append,dG,dG]
  cases bA F io S with
  | none=>rfl
  | some S1=>exact ih S1
theorem nY {l:List aa}(he:aS F l S=some S') (j:Nat):∃ Sj,aS F (l.take j) S=some Sj∧aS F (l.drop j) Sj=some S':=by
 rw [← List.take_append_drop j l,fb] at he
 exact Option.bind_eq_some_iff.1 he
theorem u5 {l:List aa}{j:Nat}(hj:l[j]? = some io) {Sj Sk:St}(h1:aS F (l.take j) S=some Sj) (h2:aS F (l.take (j+1)) S=some Sk):bA F io Sj=some Sk:=by
 have:l.take (j+1)=l.take j++[io]:=by rw [List.take_add_one,hj];rfl
 rw [this,fb,h1] at h2
 simp only [Option.bind_some,dG] at h2
 obtain ⟨S1,e1,e2⟩:=Option.bind_eq_some_iff.1 h2
 simp only [aS,Option.some.injEq] at e2
 rw [e1,e2]
theorem u6 {q:Option Nat}{d:Nat}(hS:Sound P F) (hE:cl P F.env G w) {l:List aa}(hl:dz P hint nt ops ops.toList=some l) (h:cu G S nt mk a w) (he:aS F l S=some S') {id:Nat}{Q:Exit→Act→World→Prop}
 (hk:∀ a' w' G',cu G' S' nt mk a' w'→Ext G S.lv w G' S'.lv w'→dL G S.n G'→S.n≤S'.n→S.c≤S'.c→Q .normal a' w'):(Code.region id ops false).wpIn (Fr q) d P Q a w:=by
 refine wpIn_region ?_
 rw [List.range_eq_range']
 refine pH hS hl ops.size 0 S G a w (by omega) hE h ?_ hk
 have:l.length=ops.size:=by simpa using (e9 hl).1
 simpa [← this] using he
end
end Go.Abs
/- What kinds of operations leave alone, and what their effects hang on. No condition. -/
namespace Go.Abs
section
variable {P:Program}{F:aE}{T T':Nat→AV}{H H':Hp}{E E':Nat→Option TypeId}{lv lv':Nat→Bool}{n n' c c':Nat}{op:IOp}{s:de}
theorem bR (h:bg op=true):cJ F T H E lv n c op=aR F T H E lv n c op:=by simp [cJ,h]
theorem aT (h:bg op=false):cJ F T H E lv n c op=(au T H lv n c op).map .eff:=by simp [cJ,h]
theorem Fo {f:FuncId}{args:List X}(h:cJ F T H E lv n c (.callp 0 f args)=some s):∃ r,s = .eff { v:=r }:=by
 rw [bR rfl] at h
 simp only [aR] at h
 split at h
 ·split at h
  ·rename_i r _
   split at h
   ·rename_i e he
    simp only [gv,if_true,Option.some.injEq] at he
    subst he
    simp only [Option.some.injEq] at h
    exact ⟨_,h.symm⟩
   ·simp at h
  ·simp at h
 ·simp at h
theorem gn (h1:op.loud=false) (h2:op.makes=false) (h:cJ F T H E lv n c op=some s):∃ e,s = .eff e∧e.plain:=by
 cases op
 case callp m f args=>
  simp only [IOp.loud,bne_eq_false_iff_eq] at h1
  subst h1
  obtain ⟨r,rfl⟩:=Fo h
  exact ⟨_,rfl,rfl,rfl,rfl,rfl⟩
 case calln f args=>
  rw [bR rfl] at h
  simp only [aR] at h
  (repeat' split at h)<;>first | (simp at h;done) | skip
  simp only [Option.some.injEq] at h
  exact ⟨_,h.symm,rfl,rfl,rfl,rfl⟩
 case calli tb x args=>
  rw [bR rfl] at h
  simp only [aR] at h
  (repeat' split at h)<;>first | (simp at h;done) | skip
  simp only [Option.some.injEq] at h
  exact ⟨_,h.symm,rfl,rfl,rfl,rfl⟩
 case calls=>simp [IOp.loud] at h1
 case callv=>simp [IOp.loud] at h1
 case mn mx xs=>
  rw [aT rfl] at h
  obtain ⟨e,he,rfl⟩:=aC h
  refine ⟨e,rfl,?_⟩
  cases xs with
  | nil=>simp [au] at he
  | cons x xs=>
   simp only [au] at he
   split at he
   ·simp only [Option.some.injEq] at he;subst he;exact ⟨rfl,rfl,rfl,rfl⟩
   ·simp at he
 case bsl m sz z ps=>
  simp only [IOp.loud] at h1
  subst h1
  rw [aT rfl] at h
  obtain ⟨e,he,rfl⟩:=aC h
  refine ⟨e,rfl,?_⟩
  simp only [au,Bool.false_eq_true,if_false] at he
  (repeat' split at he)<;>first | (simp at he;done) | (simp only [Option.some.injEq] at he;subst he;exact ⟨rfl,rfl,rfl,rfl⟩)
 all_goals first
  | (simp [IOp.loud] at h1;done)
  | (simp [IOp.makes] at h2;done)
  | (rw [aT rfl] at h
     obtain ⟨e,he,rfl⟩:=aC h
     refine ⟨e,rfl,?_⟩
     simp only [au] at he
     first
      | (simp only [Option.some.injEq] at he;subst he;exact ⟨rfl,rfl,rfl,rfl⟩)
      | ((repeat' split at he)<;>first | (simp at he;done) | (simp only [Option.some.injEq] at he;subst he;exact ⟨rfl,rfl,rfl,rfl⟩)))
theorem wW (h2:op.makes=true) (h:cJ F T H E lv n c op=some s):∃ e cs,s = .eff e∧e.new=some cs∧e.wr=none∧e.use=none∧e.nb=0:=by
 cases op
 case new t cs=>
  rw [aT rfl] at h
  obtain ⟨e,he,rfl⟩:=aC h
  simp only [au,Option.some.injEq] at he;subst he
  exact ⟨_,_,rfl,rfl,rfl,rfl,rfl⟩
 case mkm=>
  rw [aT rfl] at h
  obtain ⟨e,he,rfl⟩:=aC h
  simp only [au,Option.some.injEq] at he;subst he
  exact ⟨_,_,rfl,rfl,rfl,rfl,rfl⟩
 case box t x=>
  rw [aT rfl] at h
  obtain ⟨e,he,rfl⟩:=aC h
  simp only [au] at he
  split at he
  ·simp only [Option.some.injEq] at he;subst he
   exact ⟨_,_,rfl,rfl,rfl,rfl,rfl⟩
  ·simp at he
 all_goals (simp [IOp.makes] at h2)
theorem zk {m:Nat}{r:AV}{e:Eff}(h:gv m n c r=some e):e.wr=none∧e.use=none:=by
 unfold gv at h
 (repeat' split at h)<;>first | (simp at h;done) | (simp only [Option.some.injEq] at h;subst h;exact ⟨rfl,rfl⟩)
theorem kC (h2:op.wrH=false) (h:cJ F T H E lv n c op=some s):∃ e,s = .eff e∧e.wr=none:=by
 cases op
 case callp m f args=>
  rw [bR rfl] at h
  simp only [aR] at h
  split at h
  ·split at h
   ·rename_i r _
    split at h
    ·rename_i e he
     simp only [Option.some.injEq] at h
     exact ⟨_,h.symm,(zk he).1⟩
    ·simp at h
   ·simp at h
  ·simp at h
 case calln f args=>
  obtain ⟨e,h3,h4⟩:=gn rfl rfl h
  exact ⟨e,h3,h4.2.1⟩
 case calli tb x args=>
  obtain ⟨e,h3,h4⟩:=gn rfl rfl h
  exact ⟨e,h3,h4.2.1⟩
 case mn mx xs=>
  obtain ⟨e,h3,h4⟩:=gn rfl rfl h
  exact ⟨e,h3,h4.2.1⟩
 all_goals first
  | (simp [IOp.wrH] at h2;done)
  | (obtain ⟨e,h3,h4⟩:=gn rfl rfl h;exact ⟨e,h3,h4.2.1⟩)
  | (rw [aT rfl] at h
     obtain ⟨e,he,rfl⟩:=aC h
     refine ⟨e,rfl,?_⟩
     simp only [au] at he
     first
      | (simp only [Option.some.injEq] at he;subst he;rfl)
      | ((repeat' split at he)<;>first | (simp at he;done) | (simp only [Option.some.injEq] at he;subst he;rfl)))
theorem mT (hS:Sound P F) {v:AV}{hs:Hs}(h:cJ F T H E lv n c op=some (.shared v hs)):hs.n=n∧c≤hs.c:=by
 have hc:bg op=true:=by
  cases hi:bg op with
  | true=>rfl
  | false=>rw [aT hi] at h;obtain ⟨e,he,h'⟩:=aC h;cases h'
 rw [bR hc] at h
 cases op
 case calls f args=>
  simp only [aR] at h
  split at h
  ·rename_i v0 hs0 hF
   simp only [Option.some.injEq,de.shared.injEq] at h
   obtain ⟨rfl,rfl⟩:=h
   obtain ⟨_,k2,k3,_⟩:=hS.call _ _ _ _ _ _ hF
   exact ⟨k2,k3⟩
  ·simp at h
 case callv x args=>
  simp only [aR] at h
  split at h
  ·split at h
   ·rename_i v0 hs0 hF
    simp only [Option.some.injEq,de.shared.injEq] at h
    obtain ⟨rfl,rfl⟩:=h
    obtain ⟨_,k2,k3,_⟩:=hS.call _ _ _ _ _ _ hF
    exact ⟨k2,k3⟩
   ·simp at h
  ·split at h
   ·rename_i y hy
    split at h
    ·rename_i v0 hs0 hF
     simp only [Option.some.injEq,de.shared.injEq] at h
     obtain ⟨rfl,rfl⟩:=h
     exact hS.env _ y hy _ _ _ _ _ hF
    ·simp at h
   ·simp at h
  ·simp at h
 case callp m f args=>
  obtain ⟨e,h3,_⟩:=kC (op:=.callp m f args) rfl (by rw [bR rfl];exact h);cases h3
 case calln f args=>
  obtain ⟨e,h3,_⟩:=kC (op:=.calln f args) rfl (by rw [bR rfl];exact h);cases h3
 case calli tb x args=>
  obtain ⟨e,h3,_⟩:=kC (op:=.calli tb x args) rfl (by rw [bR rfl];exact h);cases h3
 all_goals (simp [bg] at hc)
end
end Go.Abs
/- What an operation comes to hangs on what it looks at alone. No condition. -/
namespace Go.Abs
def AV.objId:AV→Option Nat
 | .ref id _=>some id
 | .osl id _ _ _=>some id
 | .mp id=>some id
 | _=>none
section
variable {P:Program}{F:aE}{T T':Nat→AV}{H H':Hp}{E E':Nat→Option TypeId}{lv lv':Nat→Bool}{n n' c c':Nat}{op:IOp}{s:de}
theorem nZ {sh:Bool}:∀ (ps:List (Nat×Nat×X)) (z:List AV),(∀ p∈ps,ev T p.2.2=ev T' p.2.2)→fill T sh z ps=fill T' sh z ps:=by
 intro ps
 induction ps with
 | nil=>intro z _;rfl
 | cons p ps ih=>
  intro z h
  obtain ⟨off,sz,x⟩:=p
  have hx:ev T x=ev T' x:=h (off,sz,x) List.mem_cons_self
  simp only [fill,hx]
  split
  ·rfl
  ·split
   ·exact ih _ fun p hp=>h p (List.mem_cons_of_mem _ hp)
   ·rfl
theorem lH {x:Option X}(h:∀ y∈x.toList,ev T y=ev T' y) (d y:Nat):bnd T x d y=bnd T' x d y:=by
 cases x with
 | none=>rfl
 | some x=>simp only [bnd,h x (by simp)]
theorem iS {len:Nat}{lo hi mx:Option X}(h1:∀ y∈lo.toList,ev T y=ev T' y) (h2:∀ y∈hi.toList,ev T y=ev T' y) (h3:∀ y∈mx.toList,ev T y=ev T' y):eX T len lo hi mx=eX T' len lo hi mx:=by
 rw [jZ,jZ,lH h3]
 cases bnd T' mx len len with
 | none=>rfl
 | some m=>
  simp only [lH h2]
  cases bnd T' hi len m with
  | none=>rfl
  | some k=>simp only [lH h1]
theorem sQ {mx:Bool}:∀ (xs:List X) (a:AV),(∀ x∈xs,ev T x=ev T' x)→hU mx T a xs=hU mx T' a xs:=by
 intro xs
 induction xs with
 | nil=>intro a _;cases a<;>rfl
 | cons x xs ih=>
  intro a h
  have hx:=h x List.mem_cons_self
  cases a<;>try rfl
  simp only [hU,hx]
  split
  ·exact ih _ fun y hy=>h y (List.mem_cons_of_mem _ hy)
  ·rfl
theorem qY {v:AV}(h:∀ y∈leaves v,∀ id,y.objId=some id→H id=H' id):(leaves v).all (ep H)=(leaves v).all (ep H'):=by
 rw [Bool.eq_iff_iff,List.all_eq_true,List.all_eq_true]
 refine forall_congr' fun y=>forall_congr' fun hy=>?_
 cases y<;>try rfl
 rename_i id off len sz
 simp only [ep,h _ hy id rfl]
theorem oZ {v:AV}(h:∀ y∈leaves v,∀ id,y.objId=some id→H id=H' id):aA (bU H) v=aA (bU H') v:=by
 have one:∀ y,(∀ id,y.objId=some id→H id=H' id)→bU H y=bU H' y:=by
  intro y hy
  cases y<;>try rfl
  rename_i id off len sz
  simp only [bU,hy id rfl]
 cases v with
 | agg cs=>
  simp only [aA,AV.agg.injEq]
  exact List.map_congr_left fun y hy=>one y (h y hy)
 | tup vs=>
  simp only [aA,AV.tup.injEq]
  refine List.map_congr_left fun y hy=>?_
  have hm:∀ c∈y.cells,c∈leaves (.tup vs):=fun c hc=>List.mem_flatMap.2 ⟨y,hy,hc⟩
  cases y
  case agg cs=>
   simp only [AV.agg.injEq]
   exact List.map_congr_left fun z hz=>one z (h z (hm z hz))
  all_goals exact one _ (h _ (hm _ (by simp [AV.cells])))
 | _=>exact one _ (h _ (List.mem_singleton.2 rfl))
theorem jL (hx:∀ x∈op.xs,ev T x=ev T' x) (hl:op.loud=true→H=H'∧E=E'∧lv=lv'∧n=n'∧c=c') (hm:op.makes=true→n=n')
 (hr:op.rdH=true→∀ x∈op.xs,∀ y∈leaves (ev T x),∀ id,y.objId=some id→H id=H' id):cJ F T H E lv n c op=cJ F T' H' E' lv' n' c' op:=by
 cases op
 case callp m f args=>
  rw [bR rfl,bR rfl]
  have hargs:(args.map fun x=>(ev T x).share)=args.map fun x=>(ev T' x).share:=List.map_congr_left fun x hx'=>by rw [hx x hx']
  simp only [aR,hargs]
  by_cases h0:m=0
  ·subst h0;rfl
  ·have:=hl (by simp [IOp.loud,h0])
   rw [this.2.2.2.1,this.2.2.2.2]
 case calln f args=>
  rw [bR rfl,bR rfl]
  have h1:((args.map (ev T)).all fun v=>(leaves v).all (ep H))=((args.map (ev T')).all fun v=>(leaves v).all (ep H')):=by
   rw [List.all_map,List.all_map,Bool.eq_iff_iff,List.all_eq_true,List.all_eq_true]
   refine forall_congr' fun y=>forall_congr' fun hy=>?_
   simp only [Function.comp]
   rw [qY (hr rfl y hy),hx y hy]
  have h2:(args.map fun x=>(aA (bU H) (ev T x)).share)=args.map fun x=>(aA (bU H') (ev T' x)).share:=
   List.map_congr_left fun x hx'=>by rw [oZ (hr rfl x hx'),hx x hx']
  simp only [aR,h1,h2]
 case calli tb x args=>
  rw [bR rfl,bR rfl]
  have h2:(args.map fun x=>(ev T x).share)=args.map fun x=>(ev T' x).share:=List.map_congr_left fun y hy=>by rw [hx y (List.mem_cons_of_mem _ hy)]
  simp only [aR,h2,hx x List.mem_cons_self]
 case calls f args=>
  obtain ⟨rfl,rfl,rfl,rfl,rfl⟩:=hl rfl
  rw [bR rfl,bR rfl]
  have h2:args.map (ev T)=args.map (ev T'):=List.map_congr_left fun x hx'=>hx x hx'
  simp only [aR,h2]
 case callv x args=>
  obtain ⟨rfl,rfl,rfl,rfl,rfl⟩:=hl rfl
  rw [bR rfl,bR rfl]
  have h2:args.map (ev T)=args.map (ev T'):=List.map_congr_left fun x hx'=>hx x (List.mem_cons_of_mem _ hx')
  simp only [aR,h2,hx x List.mem_cons_self]
 case load sz ag x=>
  rw [aT rfl,aT rfl]
  have h1:=hx x List.mem_cons_self
  have h2:=hr rfl x List.mem_cons_self
  simp only [au,← h1]
  cases hv:ev T x<;>try rfl
  rename_i id off
  rw [hv] at h2
  have e:=h2 (.ref id off) (by simp [leaves,AV.cells]) id rfl
  simp only [e]
 case mkm=>
  rw [aT rfl,aT rfl,hm rfl];rfl
 case mget kd ok z x k=>
  rw [aT rfl,aT rfl]
  have h1:=hx x List.mem_cons_self
  have h3:=hx k (List.mem_cons_of_mem _ List.mem_cons_self)
  have h2:=hr rfl x List.mem_cons_self
  simp only [au,← h1,← h3]
  cases hv:ev T x<;>try rfl
  rename_i id
  rw [hv] at h2
  have e:=h2 (.mp id) (by simp [leaves,AV.cells]) id rfl
  simp only [e]
 case mlen x=>
  rw [aT rfl,aT rfl]
  have h1:=hx x List.mem_cons_self
  have h2:=hr rfl x List.mem_cons_self
  simp only [au,← h1]
  cases hv:ev T x<;>try rfl
  rename_i id
  rw [hv] at h2
  have e:=h2 (.mp id) (by simp [leaves,AV.cells]) id rfl
  simp only [e]
 case build z ps=>
  rw [aT rfl,aT rfl]
  simp only [au]
  rw [nZ ps z fun p hp=>hx p.2.2 (List.mem_map.2 ⟨p,hp,rfl⟩)]
 case bsl m sz z ps=>
  rw [aT rfl,aT rfl]
  simp only [au]
  rw [nZ ps z fun p hp=>hx p.2.2 (List.mem_map.2 ⟨p,hp,rfl⟩)]
  cases m with
  | false=>simp
  | true=>rw [(hl rfl).2.2.2.1]
 case mkf f fs cs=>
  rw [aT rfl,aT rfl]
  have h1:fs.map (ev T)=fs.map (ev T'):=List.map_congr_left fun x hx'=>hx x (List.mem_append_left _ hx')
  have h2:cs.map (ev T)=cs.map (ev T'):=List.map_congr_left fun x hx'=>hx x (List.mem_append_right _ hx')
  simp only [au,h1,h2]
 case slS x lo hi=>
  rw [aT rfl,aT rfl]
  simp only [IOp.xs,List.mem_append,List.mem_cons,List.cons_append] at hx
  have h1:=hx x (.inl rfl)
  simp only [au,h1]
  have b2:∀ len,eX T len lo hi none=eX T' len lo hi none:=fun len=>iS (fun y hy=>hx y (.inr (.inl hy))) (fun y hy=>hx y (.inr (.inr hy))) (by simp)
  simp only [b2]
 case slL sz x lo hi mx=>
  rw [aT rfl,aT rfl]
  simp only [IOp.xs,List.mem_append,List.mem_cons,List.cons_append] at hx
  have h1:=hx x (.inl rfl)
  simp only [au,h1]
  have b:∀ len,eX T len lo hi mx=eX T' len lo hi mx:=fun len=>iS (fun y hy=>hx y (.inr (.inl (.inl hy)))) (fun y hy=>hx y (.inr (.inl (.inr hy)))) (fun y hy=>hx y (.inr (.inr hy)))
  have b2:∀ len,eX T len lo hi none=eX T' len lo hi none:=fun len=>iS (fun y hy=>hx y (.inr (.inl (.inl hy)))) (fun y hy=>hx y (.inr (.inl (.inr hy)))) (by simp)
  simp only [b,b2]
 case slA k sz x lo hi mx=>
  rw [aT rfl,aT rfl]
  simp only [IOp.xs,List.mem_append,List.mem_cons,List.cons_append] at hx
  have h1:=hx x (.inl rfl)
  simp only [au,h1]
  have b:∀ len,eX T len lo hi mx=eX T' len lo hi mx:=fun len=>iS (fun y hy=>hx y (.inr (.inl (.inl hy)))) (fun y hy=>hx y (.inr (.inl (.inr hy)))) (fun y hy=>hx y (.inr (.inr hy)))
  simp only [b]
 case mn mx xs=>
  rw [aT rfl,aT rfl]
  cases xs with
  | nil=>rfl
  | cons x xs=>
   have h1:=hx x List.mem_cons_self
   simp only [au,h1,sQ xs _ fun y hy=>hx y (List.mem_cons_of_mem _ hy)]
 case new t cs=>
  rw [aT rfl,aT rfl,hm rfl];rfl
 case box t x=>
  rw [aT rfl,aT rfl,hm rfl]
  simp only [au,hx x List.mem_cons_self]
 all_goals
  (rw [aT rfl,aT rfl]
   simp only [IOp.xs,List.mem_cons,List.not_mem_nil,or_false,forall_eq_or_imp,forall_eq] at hx
   first
    | (obtain ⟨rfl,rfl,rfl,rfl,rfl⟩:=hl rfl
       first
        | (obtain ⟨h1,h2⟩:=hx;simp only [au,h1,h2])
        | simp only [au,hx])
    | (obtain ⟨h1,h2,h3⟩:=hx;simp only [au,h1,h2,h3];done)
    | (obtain ⟨h1,h2⟩:=hx;simp only [au,h1,h2];done)
    | (simp only [au,hx];done))
end
end Go.Abs
/- The states of a region in the order of the text, and what any order's states have of them. Condition: the callees do what the evaluator says ('Sound'). -/
namespace Go.Abs
def TD (F:aE) (l:List aa) (S:St) (D:Nat→Bool):Nat→Nat→AV
 | 0=>S.T
 | k+1=>fun t=>if D k=true∧(l[k]?).bind (·.dst)=some t then (Sx F l S (k+1)).T t else TD F l S D k t
section
variable {P:Program}{F:aE}{hint:Hint}{nt mk:Nat}{ops:Array Oper}{l:List aa}{S S':St}{io:aa}
theorem mr (he:aS F l S=some S') (j:Nat):aS F (l.take j) S=some (Sx F l S j):=by
 obtain ⟨Sj,h,_⟩:=nY he j
 rw [Sx,h];rfl
theorem wX (he:aS F l S=some S'):Sx F l S l.length=S':=by
 have:=mr he l.length
 rw [List.take_length,he] at this
 exact (Option.some.inj this).symm
theorem dt (he:aS F l S=some S') {i:Nat}(hi:l[i]? = some io):bA F io (Sx F l S i)=some (Sx F l S (i+1)):=
 u5 hi (mr he i) (mr he (i+1))
theorem dA (h:bA F io S=some S'):(bW S.T io.guard=some false∧S'={ S with T:=cF S.T io.dst (.tup []) })∨
 ∃ s,bW S.T io.guard=some true∧cJ F S.T S.H S.E S.lv S.n S.c io.op=some s∧S'=bo s S io.dst:=by
 rw [lE] at h
 split at h
 ·simp at h
 ·rename_i hw
  simp only [Option.some.injEq] at h
  exact .inl ⟨hw,h.symm⟩
 ·rename_i hw
  obtain ⟨s,hs,rfl⟩:=aC h
  exact .inr ⟨s,hw,hs,rfl⟩
theorem o7 {T:Nat→AV}{d:Option Nat}{v:AV}{t:Nat}(h:d≠some t):cF T d v t=T t:=by
 cases d with
 | none=>rfl
 | some d=>simp only [cF,upd];rw [if_neg (fun e=>h (by rw [e]))]
theorem jc {T:Nat→AV}{d:Nat}{v:AV}:cF T (some d) v d=v:=by simp [cF,upd]
theorem qZ (s:de) (S:St) (d:Option Nat):(bo s S d).T=cF S.T d (match s with | .eff e=>e.v | .shared v _=>v):=by cases s<;>rfl
theorem wY (h:bA F io S=some S') {t:Nat}(ht:io.dst≠some t):S'.T t=S.T t:=by
 rcases dA h with ⟨_,rfl⟩ | ⟨s,_,_,rfl⟩
 ·exact o7 ht
 ·rw [qZ];exact o7 ht
theorem u7 (h:bA F io S=some S') (h1:io.op.loud=false) (h2:io.op.makes=false):S'.H=S.H∧S'.E=S.E∧S'.lv=S.lv∧S'.n=S.n∧S'.c=S.c:=by
 rcases dA h with ⟨_,rfl⟩ | ⟨s,_,hs,rfl⟩
 ·exact ⟨rfl,rfl,rfl,rfl,rfl⟩
 ·obtain ⟨e,rfl,k1,k2,k3,k4⟩:=gn h1 h2 hs
  refine ⟨?_,?_,?_,?_,?_⟩
  ·simp only [bo,Eff.st,k1,k2]
  ·simp only [bo,Eff.st,k1]
  ·exact bV k3 k4
  ·simp only [bo,Eff.st,k1]
  ·simp only [bo,Eff.st,k4,Nat.add_zero]
theorem iT (h:bA F io S=some S') (h2:io.op.makes=true) :
 (bW S.T io.guard=some false∧S'.H=S.H∧S'.E=S.E∧S'.lv=S.lv∧S'.n=S.n∧S'.c=S.c)∨
 ∃ e cs,bW S.T io.guard=some true∧cJ F S.T S.H S.E S.lv S.n S.c io.op=some (.eff e)∧e.new=some cs∧e.wr=none∧e.use=none∧e.nb=0∧
  S'.H=upd S.H S.n cs∧S'.E=upd S.E S.n e.ty∧S'.lv=S.lv∧S'.n=S.n+1∧S'.c=S.c:=by
 rcases dA h with ⟨hw,rfl⟩ | ⟨s,hw,hs,rfl⟩
 ·exact .inl ⟨hw,rfl,rfl,rfl,rfl,rfl⟩
 ·obtain ⟨e,cs,rfl,k1,k2,k3,k4⟩:=wW h2 hs
  refine .inr ⟨e,cs,hw,hs,k1,k2,k3,k4,?_,?_,?_,?_,?_⟩
  ·simp only [bo,Eff.st,k1,k2]
  ·simp only [bo,Eff.st,k1]
  ·exact bV k3 k4
  ·simp only [bo,Eff.st,k1]
  ·simp only [bo,Eff.st,k4,Nat.add_zero]
theorem wZ (hS:Sound P F) (h:bA F io S=some S'):S.n≤S'.n:=by
 rcases dA h with ⟨_,rfl⟩ | ⟨s,_,hs,rfl⟩
 ·exact Nat.le_refl _
 ·cases s with
  | eff e=>simp only [bo,Eff.st];cases e.new<;>simp
  | shared v hs'=>exact Nat.le_of_eq (mT hS hs).1.symm
theorem pI (h:bA F io S=some S') (h2:io.op.wrH=false) {id:Nat}(hid:id<S.n):S'.H id=S.H id:=by
 rcases dA h with ⟨_,rfl⟩ | ⟨s,_,hs,rfl⟩
 ·rfl
 ·obtain ⟨e,rfl,k⟩:=kC h2 hs
  simp only [bo,Eff.st,k]
  cases e.new with
  | none=>rfl
  | some cs=>exact if_neg (by omega)
theorem u9 (h:bA F io S=some S') {sz:Nat}{x y:X}(ho:io.op = .store sz x y) {id:Nat}(hne:∀ id',(ev S.T x).objId=some id'→id'≠id):S'.H id=S.H id:=by
 rcases dA h with ⟨_,rfl⟩ | ⟨s,_,hs,rfl⟩
 ·rfl
 ·rw [ho,aT rfl] at hs
  obtain ⟨e,he,rfl⟩:=aC hs
  simp only [au] at he
  split at he
  ·rename_i id' off heq
   have hn:=hne id' (by rw [heq];rfl)
   split at he
   ·split at he
    ·simp only [Option.some.injEq] at he;subst he
     simp only [bo,Eff.st,Eff.heap]
     exact if_neg (fun e=>hn e.symm)
    ·cases he
   ·cases he
  ·cases he
section
variable (hS:Sound P F) (he:aS F l S=some S')
include hS he
theorem jM {i j:Nat}(hij:i≤j) (hj:j≤l.length):(Sx F l S i).n≤(Sx F l S j).n:=by
 induction j with
 | zero=>simp at hij;subst hij;exact Nat.le_refl _
 | succ j ih=>
  rcases Nat.lt_or_ge j i with h | h
  ·have:i=j+1:=by omega
   subst this;exact Nat.le_refl _
  ·exact Nat.le_trans (ih h (by omega)) (wZ hS (dt he (List.getElem?_eq_getElem (by omega))))
theorem ab1 {i j:Nat}(hij:i≤j) (hj:j≤l.length) (hw:∀ k io,i≤k→k<j→l[k]? = some io→io.op.wrH=false) {id:Nat}(hid:id<(Sx F l S i).n):(Sx F l S j).H id=(Sx F l S i).H id:=by
 induction j with
 | zero=>simp at hij;subst hij;rfl
 | succ j ih=>
  rcases Nat.lt_or_ge j i with h | h
  ·have:i=j+1:=by omega
   subst this;rfl
  ·have hg:=List.getElem?_eq_getElem (l:=l) (i:=j) (by omega)
   rw [pI (dt he hg) (hw j _ h (by omega) hg) (Nat.lt_of_lt_of_le hid (jM hS he h (by omega)))]
   exact ih h (by omega) fun k io h1 h2=>hw k io h1 (by omega)
theorem q7 {i j:Nat}(hij:i≤j) (hj:j≤l.length) {id:Nat}
 (hw:∀ k io,i≤k→k<j→l[k]? = some io→io.op.wrH=false∨(Sx F l S (k+1)).H id=(Sx F l S k).H id) (hid:id<(Sx F l S i).n):(Sx F l S j).H id=(Sx F l S i).H id:=by
 induction j with
 | zero=>simp at hij;subst hij;rfl
 | succ j ih=>
  rcases Nat.lt_or_ge j i with h | h
  ·have:i=j+1:=by omega
   subst this;rfl
  ·have hg:=List.getElem?_eq_getElem (l:=l) (i:=j) (by omega)
   have h1:=ih h (by omega) fun k io h1 h2=>hw k io h1 (by omega)
   rcases hw j _ h (by omega) hg with h2 | h2
   ·rw [pI (dt he hg) h2 (Nat.lt_of_lt_of_le hid (jM hS he h (by omega)))]
    exact h1
   ·exact h2.trans h1
theorem q8 {i j:Nat}(hij:i≤j) (hj:j≤l.length) (hw:∀ k io,i≤k→k<j→l[k]? = some io→io.op.loud=false) :
 (Sx F l S j).lv=(Sx F l S i).lv∧(Sx F l S j).c=(Sx F l S i).c∧∀ id,id<(Sx F l S i).n→(Sx F l S j).H id=(Sx F l S i).H id∧(Sx F l S j).E id=(Sx F l S i).E id:=by
 induction j with
 | zero=>simp at hij;subst hij;exact ⟨rfl,rfl,fun _ _=>⟨rfl,rfl⟩⟩
 | succ j ih=>
  rcases Nat.lt_or_ge j i with h | h
  ·have:i=j+1:=by omega
   subst this;exact ⟨rfl,rfl,fun _ _=>⟨rfl,rfl⟩⟩
  ·have hg:=List.getElem?_eq_getElem (l:=l) (i:=j) (by omega)
   obtain ⟨i1,i2,i3⟩:=ih h (by omega) fun k io h1 h2=>hw k io h1 (by omega)
   have hl:=hw j _ h (by omega) hg
   have hn:=jM hS he h (show j≤l.length by omega)
   cases hm:l[j].op.makes with
   | false=>
    obtain ⟨k1,k2,k3,k4,k5⟩:=u7 (dt he hg) hl hm
    exact ⟨k3.trans i1,k5.trans i2,fun id hid=>⟨(congrFun k1 id).trans (i3 id hid).1,(congrFun k2 id).trans (i3 id hid).2⟩⟩
   | true=>
    rcases iT (dt he hg) hm with ⟨_,k1,k2,k3,k4,k5⟩ | ⟨e,cs,_,_,_,_,_,_,k1,k2,k3,k4,k5⟩
    ·exact ⟨k3.trans i1,k5.trans i2,fun id hid=>⟨(congrFun k1 id).trans (i3 id hid).1,(congrFun k2 id).trans (i3 id hid).2⟩⟩
    ·refine ⟨k3.trans i1,k5.trans i2,fun id hid=>⟨?_,?_⟩⟩
     ·rw [k1,upd,if_neg (by omega)];exact (i3 id hid).1
     ·rw [k2,upd,if_neg (by omega)];exact (i3 id hid).2
end
theorem ZK (he:aS F l S=some S') {i t:Nat}(ht:(l.drop i).all (fun o=>decide (o.dst≠some t))=true):∀ j,i≤j→j≤l.length→(Sx F l S j).T t=(Sx F l S i).T t:=by
 intro j
 induction j with
 | zero=>intro hij _;simp at hij;subst hij;rfl
 | succ j ih=>
  intro hij hj
  rcases Nat.lt_or_ge j i with h | h
  ·have:i=j+1:=by omega
   subst this;rfl
  ·have hg:=List.getElem?_eq_getElem (l:=l) (i:=j) (by omega)
   have hd:l[j].dst≠some t:=by
    have:=List.all_eq_true.1 ht l[j] (List.mem_of_getElem? (i:=j-i) (by rw [List.getElem?_drop,show i+(j-i)=j by omega];exact hg))
    simpa using this
   rw [wY (dt he hg) hd]
   exact ih h (by omega)
theorem pJ (he:aS F l S=some S') {D:Nat→Bool}{t:Nat}:∀ k,k≤l.length→(∀ j io,j<k→l[j]? = some io→io.dst=some t→D j=true)→TD F l S D k t=(Sx F l S k).T t:=by
 intro k
 induction k with
 | zero=>intro _ _;rfl
 | succ k ih=>
  intro hk hD
  have hg:=List.getElem?_eq_getElem (l:=l) (i:=k) (by omega)
  have i1:=ih (by omega) fun j io h1=>hD j io (by omega)
  simp only [TD,hg,Option.bind_some]
  by_cases hd:l[k].dst=some t
  ·rw [if_pos ⟨hD k _ (by omega) hg hd,hd⟩]
  ·rw [if_neg (fun h=>hd h.2),i1]
   exact (wY (dt he hg) hd).symm
theorem nn {D:Nat→Bool}{t i:Nat}:∀ k,i≤k→(∀ j io,i≤j→j<k→l[j]? = some io→io.dst=some t→D j=false)→TD F l S D k t=TD F l S D i t:=by
 intro k
 induction k with
 | zero=>intro h _;simp at h;subst h;rfl
 | succ k ih=>
  intro h hD
  rcases Nat.lt_or_ge k i with h' | h'
  ·have:i=k+1:=by omega
   subst this;rfl
  ·simp only [TD]
   rw [if_neg,ih h' fun j io h1 h2=>hD j io h1 (by omega)]
   rintro ⟨h1,h2⟩
   cases hg:l[k]? with
   | none=>rw [hg] at h2;simp at h2
   | some io=>
    rw [hg] at h2
    have:=hD k io h' (by omega) hg h2
    rw [this] at h1;cases h1
theorem BT (he:aS F l S=some S') {D:Nat→Bool}{t i:Nat}(hi:i≤l.length) (h1:∀ j io,j<i→l[j]? = some io→io.dst=some t→D j=true)
 (h2:∀ j io,i≤j→l[j]? = some io→io.dst=some t→D j=false):TD F l S D l.length t=(Sx F l S i).T t:=by
 rw [nn l.length hi fun j io a _=>h2 j io a]
 exact pJ he i hi h1
theorem Fp (D D':Nat→Bool) {i t:Nat}(hi:l[i]? = some io) (hD:∀ j,j≠i→D' j=D j) (hi':D' i=true) (hj:∀ j io',i<j→l[j]? = some io'→io'.dst=some t→D j=false) :
 (io.dst=some t→TD F l S D' l.length t=(Sx F l S (i+1)).T t)∧((io.dst≠some t∨D i=true)→TD F l S D' l.length t=TD F l S D l.length t):=by
 have hlt:i<l.length:=(List.getElem?_eq_some_iff.1 hi).1
 constructor
 ·intro hd
  rw [nn (i:=i+1) l.length (by omega) fun j io' a _ hg hd'=>by rw [hD j (by omega)];exact hj j io' (by omega) hg hd']
  simp only [TD,hi,Option.bind_some]
  rw [if_pos ⟨hi',hd⟩]
 ·intro hd
  have:∀ k,TD F l S D' k t=TD F l S D k t:=by
   intro k
   induction k with
   | zero=>rfl
   | succ k ih=>
    simp only [TD,ih]
    by_cases hk:k=i
    ·subst hk
     rcases hd with hd | hd
     ·rw [if_neg,if_neg]
      ·rintro ⟨_,h⟩;rw [hi] at h;exact hd h
      ·rintro ⟨_,h⟩;rw [hi] at h;exact hd h
     ·simp only [hi',hd]
    ·rw [hD k hk]
  exact this _
end
end Go.Abs
/- A region in any order that its edges allow. Condition: the callees do what the evaluator says ('Sound'). -/
namespace Go.Abs
theorem w6 {α:Type}(n:Nat) (k:Nat→α):qH n k=k n:=by cases n<;>rfl
section
variable {ops:Array Oper}{l:List aa}
def mu (ops:Array Oper) (D:Nat→Bool) (j:Nat):Prop:=∀ o,ops[j]? = some o→∀ e∈o.after,Region.binds .any e=true→D e.on=true
def lI (ops:Array Oper) (D:Nat→Bool):Prop:=∀ j,D j=true→mu ops D j
theorem va (es:List Edge) (acc:List Nat) (s i:Nat):(es.foldl (fun s e=>if Region.binds .any e then s ||| 2 ^ e.on ||| acc.getD e.on 0 else s) s).testBit i=true→
 s.testBit i=true∨∃ e∈es,Region.binds .any e=true∧(i=e.on∨(acc.getD e.on 0).testBit i=true):=by
 induction es generalizing s with
 | nil=>intro h;exact .inl h
 | cons e es ih=>
  intro h
  rcases ih _ h with h' | ⟨e',h1,h2,h3⟩
  ·dsimp only at h'
   split at h'
   ·rename_i hb
    simp only [Nat.testBit_or,Bool.or_eq_true,Nat.testBit_two_pow,decide_eq_true_eq] at h'
    rcases h' with (h' | h') | h'
    ·exact .inl h'
    ·exact .inr ⟨e,List.mem_cons_self,hb,.inl h'.symm⟩
    ·exact .inr ⟨e,List.mem_cons_self,hb,.inr h'⟩
   ·exact .inl h'
  ·exact .inr ⟨e',List.mem_cons_of_mem _ h1,h2,h3⟩
theorem sR {ex:Nat→Nat→Bool}{j v:Nat}{a:aa}:∀ {bs:List aa}{i:Nat},ly ex j v a i bs=true→∀ (k:Nat) (b:aa),bs[k]? = some b→cZ ex (i+k) j b a=true→v.testBit (i+k)=true:=by
 intro bs
 induction bs with
 | nil=>intro i _ k b hb;simp at hb
 | cons y bs ih=>
  intro i h k b hb hc
  simp only [ly,Bool.and_eq_true,Bool.or_eq_true,Bool.not_eq_true'] at h
  obtain ⟨h1,h2⟩:=h
  cases k with
  | zero=>
   simp only [List.getElem?_cons_zero,Option.some.injEq] at hb;subst hb
   rcases h1 with h1 | h1
   ·rw [Nat.add_zero] at hc;rw [hc] at h1;cases h1
   ·exact h1
  | succ k=>
   simp only [List.getElem?_cons_succ] at hb
   have e:i+(k+1)=i+1+k:=by omega
   rw [e] at hc ⊢
   exact ih h2 k b hb hc
structure lJ (ex:Nat→Nat→Bool) (os:List Oper) (ios:List aa) (acc:List Nat):Prop where
 len:acc.length=os.length
 lena:ios.length=os.length
 low:∀ (j:Nat) (o:Oper),os[j]? = some o→∀ e∈o.after,Region.binds .any e=true→e.on<j
 ahead:∀ (j i:Nat) (o:Oper),os[j]? = some o→(acc.getD j 0).testBit i=true→∃ e∈o.after,Region.binds .any e=true∧(i=e.on∨(acc.getD e.on 0).testBit i=true)
 clash:∀ (i j:Nat) (a b:aa),i<j→ios[i]? = some a→ios[j]? = some b→cZ ex i j a b=true→(acc.getD j 0).testBit i=true
theorem lJ.snoc {ex:Nat→Nat→Bool}{os:List Oper}{ios:List aa}{acc:List Nat}(h:lJ ex os ios acc) {o:Oper}{a:aa}(h1:∀ e∈o.after,Region.binds .any e=true→e.on<acc.length) (h2:ly ex acc.length (jy acc o) a 0 ios=true) :
 lJ ex (os++[o]) (ios++[a]) (acc++[jy acc o]):=by
 have hget:∀ k,k<acc.length→(acc++[jy acc o]).getD k 0=acc.getD k 0:=by
  intro k hk
  simp only [List.getD_eq_getElem?_getD]
  rw [List.getElem?_append_left hk]
 have hlast:(acc++[jy acc o]).getD acc.length 0=jy acc o:=by simp [List.getD_eq_getElem?_getD]
 have hcase:∀ {α:Type}{xs:List α}{x y:α}{j:Nat},(xs++[x])[j]? = some y→(j<xs.length∧xs[j]? = some y)∨(j=xs.length∧y=x):=by
  intro α xs x y j hj
  rcases Nat.lt_trichotomy j xs.length with h | h | h
  ·rw [List.getElem?_append_left h] at hj;exact .inl ⟨h,hj⟩
  ·subst h;simp at hj;exact .inr ⟨rfl,hj.symm⟩
  ·rw [List.getElem?_eq_none (by simp;omega)] at hj;cases hj
 constructor
 ·simp [h.len]
 ·simp [h.lena]
 ·intro j o' hj
  rcases hcase hj with ⟨_,hj⟩ | ⟨hj,rfl⟩
  ·exact h.low j o' hj
  ·intro e he hb;have:=h1 e he hb;rw [h.len] at this;omega
 ·intro j i o' hj hb
  rcases hcase hj with ⟨hlt,hj⟩ | ⟨hj',rfl⟩
  ·rw [hget j (by rw [h.len];exact hlt)] at hb
   obtain ⟨e,h3,h4,h5⟩:=h.ahead j i o' hj hb
   refine ⟨e,h3,h4,h5.imp id fun h6=>?_⟩
   rw [hget _ (by have:=h.low j o' hj e h3 h4;rw [h.len];omega)];exact h6
  ·rw [← h.len] at hj'
   rw [hj',hlast,jy] at hb
   rcases va _ _ _ _ hb with h3 | ⟨e,h3,h4,h5⟩
   ·simp at h3
   ·refine ⟨e,by simpa using h3,h4,h5.imp id fun h6=>?_⟩
    rw [hget _ (h1 e (by simpa using h3) h4)];exact h6
 ·intro i j x y hij hx hy hc
  rcases hcase hy with ⟨hlt,hy⟩ | ⟨hj,rfl⟩
  ·rcases hcase hx with ⟨_,hx⟩ | ⟨hi,_⟩
   ·rw [hget j (by rw [h.len,← h.lena];exact hlt)]
    exact h.clash i j x y hij hx hy hc
   ·omega
  ·rcases hcase hx with ⟨_,hx⟩ | ⟨hi,_⟩
   ·have hj':j=acc.length:=by rw [hj,h.len,h.lena]
    rw [hj',hlast]
    have:=sR h2 i x hx (by rw [Nat.zero_add,← hj'];exact hc)
    rwa [Nat.zero_add] at this
   ·omega
theorem sS {ex:Nat→Nat→Bool}:∀ (os:List Oper) (ios:List aa) (od:List Oper) (done:List aa) (acc:List Nat),jY ex os ios done acc=true→lJ ex od done acc→∃ acc',lJ ex (od++os) (done++ios) acc':=by
 intro os
 induction os with
 | nil=>
  intro ios od done acc h hb
  cases ios with
  | nil=>exact ⟨acc,by simpa using hb⟩
  | cons a ios=>simp [jY] at h
 | cons o os ih=>
  intro ios od done acc h hb
  cases ios with
  | nil=>simp [jY] at h
  | cons a ios=>
   simp only [jY,w6,Bool.and_eq_true] at h
   obtain ⟨⟨h1,h2⟩,h3⟩:=h
   have hb':=hb.snoc (o:=o) (a:=a) (fun e he hbd=>by
    have:=List.all_eq_true.1 h1 e (by simpa using he)
    simp only [hbd,Bool.not_true,Bool.false_or,decide_eq_true_eq] at this
    exact this) h2
   obtain ⟨acc',hq⟩:=ih ios (od++[o]) (done++[a]) _ h3 hb'
   exact ⟨acc',by simpa using hq⟩
theorem pK {ex:Nat→Nat→Bool}(h:fY ex ops l=true):∃ acc,lJ ex ops.toList l acc:=by
 obtain ⟨acc,h'⟩:=sS ops.toList l [] [] [] h ⟨rfl,rfl,by simp,by simp,by simp⟩
 exact ⟨acc,by simpa using h'⟩
theorem lJ.closed {ex:Nat→Nat→Bool}{acc:List Nat}(h:lJ ex ops.toList l acc) {D:Nat→Bool}(hD:lI ops D):∀ (j i:Nat),(D j=true∨(j<ops.size∧mu ops D j))→(acc.getD j 0).testBit i=true→D i=true:=by
 intro j
 induction j using Nat.strongRecOn with
 | ind j ih=>
  intro i hj hb
  have hr:mu ops D j:=hj.elim (hD j) (·.2)
  cases ho:ops[j]? with
  | none=>
   have hge:ops.size≤j:=by simpa using ho
   have:acc.getD j 0=0:=by
    rw [List.getD_eq_getElem?_getD,List.getElem?_eq_none (by rw [h.len];simpa using hge)];rfl
   rw [this] at hb;simp at hb
  | some o=>
   obtain ⟨e,h1,h2,h3⟩:=h.ahead j i o (by simpa using ho) hb
   have hd:=hr o ho e h1 h2
   rcases h3 with rfl | h3
   ·exact hd
   ·exact ih e.on (h.low j o (by simpa using ho) e h1 h2) i (.inl hd) h3
theorem n5 {ex:Nat→Nat→Bool}(h:fY ex ops l=true) {D:Nat→Bool}(hD:lI ops D) {i j:Nat}{a b:aa}(hij:i<j) (ha:l[i]? = some a) (hb:l[j]? = some b) (hc:cZ ex i j a b=true) (hj:D j=true∨mu ops D j):D i=true:=by
 obtain ⟨acc,hA⟩:=pK h
 refine hA.closed hD j i (hj.imp id fun hr=>⟨?_,hr⟩) (hA.clash i j a b hij ha hb hc)
 have:=(List.getElem?_eq_some_iff.1 hb).1
 have h2:=hA.lena
 simp at h2
 omega
theorem zl {ex:Nat→Nat→Bool}(h:fY ex ops l=true) {j:Nat}{o:Oper}(ho:ops[j]? = some o) {e:Edge}(he:e∈o.after) (hb:Region.binds .any e=true):e.on<j:=by
 obtain ⟨acc,hA⟩:=pK h
 exact hA.low j o (by simpa using ho) e he hb
end
section
variable {a b:aa}{d:Nat}{ex:Nat→Nat→Bool}{i j:Nat}
theorem iu (h:jf a b=true):cZ ex i j a b=true:=by simp [cZ,h]
theorem sT (hd:a.dst=some d) (h:d∈b.reads):cZ ex i j a b=true:=iu (by simp [jf,hd,h])
theorem w7 (hd:a.dst=some d) (h:b.dst=some d):cZ ex i j a b=true:=iu (by simp [jf,hd,h])
theorem vb (hd:b.dst=some d) (h:d∈a.reads):cZ ex i j a b=true:=iu (by simp [jf,hd,h])
theorem zn (h1:a.op.loud=true) (h2:b.op.loud=true):cZ ex i j a b=true:=iu (by simp [jf,h1,h2])
theorem zo (h1:a.op.loud=true) (h2:b.op.makes=true):cZ ex i j a b=true:=iu (by simp [jf,h1,h2])
theorem q9 (h1:a.op.makes=true) (h2:b.op.loud=true) (h:ex i j=false):cZ ex i j a b=true:=by simp [cZ,oW,h1,h2,h]
theorem zp (h1:a.op.wrH=true) (h2:b.op.rdH=true) (h:ex i j=false):cZ ex i j a b=true:=by simp [cZ,mq,h1,h2,h]
theorem zq (h1:a.op.rdH=true) (h2:b.op.wrH=true) (h:ex i j=false):cZ ex i j a b=true:=by simp [cZ,mq,h1,h2,h]
theorem re {op:IOp}(h:op.wrH=true):op.loud=true:=by cases op<;>first | rfl | (simp [IOp.wrH] at h)
theorem h9 {op:IOp}(h:op.makes=true):op.loud=false∧op.rdH=false∧op.wrH=false∧op.allH=false:=by cases op<;>first | exact ⟨rfl,rfl,rfl,rfl⟩ | (simp [IOp.makes] at h)
theorem BU {io:aa}{x:X}(hx:x∈io.op.xs) {t:Nat}(ht:t∈x.tmps):t∈io.reads:=List.mem_append_left _ (List.mem_flatMap.2 ⟨x,hx,ht⟩)
theorem BV {io:aa}{t:Nat}{w:Bool}(hg:io.guard=some (t,w)):t∈io.reads:=List.mem_append_right _ (by simp [hg])
end
theorem w9 {n:Nat}{x y:AV}{id:Nat}(hu:x.under n=true) (hy:y∈leaves x) (hi:y.objId=some id):id<n:=by
 have one:y.under n=true→id<n:=by
  intro h
  cases y<;>simp only [AV.objId,Option.some.injEq,reduceCtorEq] at hi
  all_goals (subst hi;simpa [AV.under] using h)
 have aggm:∀ {cs:List AV},(AV.agg cs).under n=true→y∈cs→id<n:=by
  intro cs h hm
  simp only [AV.under,bO] at h
  exact one (h y hm)
 cases x with
 | agg cs=>exact aggm hu hy
 | tup vs=>
  simp only [AV.under,bO] at hu
  obtain ⟨z,hz,hy'⟩:=List.mem_flatMap.1 hy
  have hzu:=hu z hz
  cases z
  case agg cs=>exact aggm hzu hy'
  all_goals (simp only [AV.cells,List.mem_singleton] at hy';subst hy';exact one hzu)
 | _=>
  simp only [leaves,AV.cells,List.mem_singleton] at hy
  subst hy;exact one hu
end Go.Abs
/- A region in any order that its edges allow comes to what the order of the text comes to. Condition: the callees do what the evaluator says ('Sound'). -/
namespace Go.Abs
structure Mid (P:Program) (F:aE) (l:List aa) (S:St) (nt mk:Nat) (G0:Gh) (w0:World) (D:Nat→Bool) (p:Nat) (G:Gh) (a:Act) (w:World):Prop where
 le:p≤l.length
 lo:∀ j io,j<p→l[j]? = some io→io.op.loud=true→D j=true
 hi:∀ j io,p≤j→l[j]? = some io→io.op.loud=true→D j=false
 T:∀ t,Rep G w (TD F l S D l.length t) (a.tmps.getD t undef)
 W:aG G (Sx F l S p).H (Sx F l S p).E (Sx F l S p).lv w
 β:∀ id,(Sx F l S p).n≤id→G.β id=none
 βm:∀ j io,j<p→l[j]? = some io→io.op.makes=true→D j=false→bW (Sx F l S j).T io.guard=some true→G.β (Sx F l S j).n=none
 τ:∀ b,(Sx F l S p).c≤b→G.τ b=none
 nt:nt≤a.tmps.size
 d:DOK mk w a.defers
 ext:Ext G0 S.lv w0 G (Sx F l S p).lv w
 stay:dL G0 S.n G
theorem aG.other {G:Gh}{H H':Hp}{E E':Nat→Option TypeId}{lv:Nat→Bool}{w:World}(h:aG G H E lv w) (hH:∀ id p,G.β id=some p→H' id=H id∧E' id=E id):aG G H' E' lv w:=by
 constructor
 ·intro id b o hb
  obtain ⟨k1,k2⟩:=hH id _ hb
  rw [k1,k2];exact h.obj id b o hb
 ·intro id b hb
  rw [(hH id _ hb).1];exact h.mobj id b hb
 ·exact h.nσ
 ·exact h.inj
 ·exact h.tip
 ·exact h.tinj
 ·exact h.σlt
 ·exact h.τlt
 ·exact h.ρlt
section
variable {P:Program}{F:aE}{hint:Hint}{nt mk:Nat}{ops:Array Oper}{l:List aa}{S S':St}{io:aa}{G0 G:Gh}{w0 w:World}{a a0:Act}{D:Nat→Bool}{p i:Nat}{o:Oper}{ex:Nat→Nat→Bool}
theorem Mid.on (hS:Sound P F) (he:aS F l S=some S') (h:Mid P F l S nt mk G0 w0 D p G a w) {q:Nat}(hpq:p≤q) (hq:q≤l.length) (hn:∀ j io,p≤j→j<q→l[j]? = some io→io.op.loud=false):Mid P F l S nt mk G0 w0 D q G a w:=by
 obtain ⟨s1,s2,s3⟩:=q8 hS he hpq hq hn
 have hmn:=jM hS he hpq hq
 have hlt:∀ id x,G.β id=some x→id<(Sx F l S p).n:=fun id x hx=>by
  rcases Nat.lt_or_ge id (Sx F l S p).n with h' | h'
  ·exact h'
  ·rw [h.β id h'] at hx;cases hx
 constructor
 ·exact hq
 ·intro j io hj hg hl
  rcases Nat.lt_or_ge j p with h' | h'
  ·exact h.lo j io h' hg hl
  ·rw [hn j io h' hj hg] at hl;cases hl
 ·intro j io hj hg hl
  exact h.hi j io (by omega) hg hl
 ·exact h.T
 ·rw [s1];exact h.W.other fun id x hx=>s3 id (hlt id x hx)
 ·intro id hid;exact h.β id (by omega)
 ·intro j io hj hg hm hD hw
  rcases Nat.lt_or_ge j p with h' | h'
  ·exact h.βm j io h' hg hm hD hw
  ·exact h.β _ (jM hS he h' (by omega))
 ·rw [s2];exact h.τ
 ·exact h.nt
 ·exact h.d
 ·rw [s1];exact h.ext
 ·exact h.stay
theorem Mid.lt (h:Mid P F l S nt mk G0 w0 D p G a w) {id:Nat}{x:Nat×Option Nat}(hx:G.β id=some x):id<(Sx F l S p).n:=by
 rcases Nat.lt_or_ge id (Sx F l S p).n with h' | h'
 ·exact h'
 ·rw [h.β id h'] at hx;cases hx
structure eE (ex:Nat→Nat→Bool) (ops:Array Oper) (l:List aa) (D:Nat→Bool) (i:Nat) (io:aa):Prop where
 get:l[i]? = some io
 not:D i=false
 before:∀ j io',j<i→l[j]? = some io'→cZ ex j i io' io=true→D j=true
 after:∀ j io',i<j→l[j]? = some io'→cZ ex i j io io'=true→D j=false
theorem BW (hs:fY ex ops l=true) (hc:lI ops D) (hg:l[i]? = some io) (hn:D i=false) (hr:mu ops D i):eE ex ops l D i io where
 get:=hg
 not:=hn
 before:=fun j io' hj h1 h2=>n5 hs hc hj h1 hg h2 (.inr hr)
 after:=fun j io' hj h1 h2=>by
  cases hd:D j with
  | false=>rfl
  | true=>
   have:=n5 hs hc hj hg h1 h2 (.inl hd)
   rw [hn] at this;cases this
theorem eE.read (he:aS F l S=some S') (h:eE ex ops l D i io) {t:Nat}(ht:t∈io.reads):TD F l S D l.length t=(Sx F l S i).T t:=by
 have hi:i<l.length:=(List.getElem?_eq_some_iff.1 h.get).1
 refine BT he (by omega) (fun j io' hj hg hd=>h.before j io' hj hg (sT hd ht)) (fun j io' hj hg hd=>?_)
 rcases Nat.lt_or_ge i j with h' | h'
 ·exact h.after j io' h' hg (vb hd ht)
 ·have:j=i:=by omega
  subst this;exact h.not
theorem eE.ev (he:aS F l S=some S') (h:eE ex ops l D i io) {x:X}(hx:x∈io.op.xs):ev (TD F l S D l.length) x=ev (Sx F l S i).T x:=by
 cases x with
 | t n=>exact h.read he (BU hx (by simp [X.tmps]))
 | c v=>rfl
theorem eE.bW (he:aS F l S=some S') (h:eE ex ops l D i io):bW (TD F l S D l.length) io.guard=bW (Sx F l S i).T io.guard:=by
 cases hg:io.guard with
 | none=>rfl
 | some tw=>
  obtain ⟨t,b⟩:=tw
  simp only [Go.Abs.bW,h.read he (BV hg)]
theorem eE.put (he:aS F l S=some S') (h:eE ex ops l D i io) {D':Nat→Bool}(hD:∀ j,j≠i→D' j=D j) (hi':D' i=true) {v:AV}(hv:∀ d,io.dst=some d→(Sx F l S (i+1)).T d=v) :
 ∀ t,TD F l S D' l.length t=cF (TD F l S D l.length) io.dst v t:=by
 intro t
 by_cases hd:io.dst=some t
 ·obtain ⟨k1,_⟩:=Fp (F:=F) (S:=S) (t:=t) D D' h.get hD hi' fun j io' hj hg hd'=>h.after j io' hj hg (w7 hd hd')
  rw [k1 hd,hd,jc];exact hv t hd
 ·have:TD F l S D' l.length t=TD F l S D l.length t:=by
   have:∀ k,TD F l S D' k t=TD F l S D k t:=by
    intro k
    induction k with
    | zero=>rfl
    | succ k ih=>
     simp only [TD,ih]
     by_cases hk:k=i
     ·subst hk
      rw [if_neg,if_neg]
      ·rintro ⟨_,h'⟩;rw [h.get] at h';exact hd h'
      ·rintro ⟨_,h'⟩;rw [h.get] at h';exact hd h'
     ·rw [hD k hk]
   exact this _
  rw [this,o7 hd]
theorem o8 (hS:Sound P F) (he:aS F l S=some S') (h:Mid P F l S nt mk G0 w0 D p G a w) (ht:eE ex ops l D i io) (hc:4≤(Sx F l S p).c) {nid:Nat}(hn:G.β nid=none) (hu:∀ (y:Operand) (x:X),aI y=some x→x∈io.op.xs→(ev (TD F l S D l.length) x).under nid=true) :
 Pre G w (TD F l S D l.length) (Sx F l S p).H (Sx F l S p).E (Sx F l S p).lv nid (Sx F l S p).c a.eval io.op:=
 ⟨h8 h.T,h.W,hn,hc,h.τ _ (Nat.le_refl _),hu⟩
end
end Go.Abs
/- One operation of a region in any order, and the region. Condition: the callees do what the evaluator says ('Sound'). -/
namespace Go.Abs
section
variable {P:Program}{F:aE}{hint:Hint}{nt mk:Nat}{ops:Array Oper}{l:List aa}{S S':St}{io:aa}{G0 G:Gh}{w0 w:World}{a a0:Act}{D D':Nat→Bool}{p i:Nat}{o:Oper}{ex:Nat→Nat→Bool}
def vd (F:aE) (l:List aa) (S:St) (k m:Nat) (r:aa):Prop:=
 ∀ z∈r.op.xs,∀ u∈leaves (ev (Sx F l S m).T z),∀ id,u.objId=some id→(Sx F l S (k+1)).H id=(Sx F l S k).H id
def ie (ex:Nat→Nat→Bool) (F:aE) (l:List aa) (S:St):Prop:=∀ (i j:Nat) (a b:aa),l[i]? = some a→l[j]? = some b→ex i j=true→
 (a.op.wrH=true→b.op.rdH=true→vd F l S i j b)∧(a.op.rdH=true→b.op.wrH=true→vd F l S j i a)∧
 (a.op.makes=true→b.op.loud=true→bW (Sx F l S i).T a.guard=some true→b.op.allH=true∧(Sx F l S (j+1)).H (Sx F l S i).n=(Sx F l S j).H (Sx F l S i).n)
def Text (P:Program) (F:aE) (l:List aa) (S:St) (nt mk:Nat):Prop:=∀ j,j≤l.length→S.n≤(Sx F l S j).n∧S.c≤(Sx F l S j).c∧∃ G a w,cu G (Sx F l S j) nt mk a w
theorem Mid.srel (ht:Text P F l S nt mk) (h:Mid P F l S nt mk G0 w0 D p G a w):cu G { Sx F l S p with T:=TD F l S D l.length } nt mk a w:=
 ⟨h.T,h.W,h.β,h.τ,by obtain ⟨_,_,_,_,_,k⟩:=ht p h.le;exact k.c,h.nt,h.d⟩
theorem sU (s:de) (S:St) (T:Nat→AV) (d:Option Nat):(bo s { S with T:=T } d).H=(bo s S d).H∧(bo s { S with T:=T } d).E=(bo s S d).E∧(bo s { S with T:=T } d).n=(bo s S d).n∧
 (bo s { S with T:=T } d).lv=(bo s S d).lv∧(bo s { S with T:=T } d).c=(bo s S d).c∧(bo s { S with T:=T } d).T=cF T d (match s with | .eff e=>e.v | .shared v _=>v):=by
 cases s<;>exact ⟨rfl,rfl,rfl,rfl,rfl,rfl⟩
theorem Mid.after_loud (hS:Sound P F) (he:aS F l S=some S') (h:Mid P F l S nt mk G0 w0 D i G a w) (ht:eE ex ops l D i io) (hl:io.op.loud=true) (hD:∀ j,j≠i→D' j=D j) (hi':D' i=true) (hx:Text P F l S nt mk)
 {S1:St}{v:AV}(hv:∀ d,io.dst=some d→(Sx F l S (i+1)).T d=v) {G':Gh}{a':Act}{w':World}(hr:cu G' S1 nt mk a' w') (hT:S1.T=cF (TD F l S D l.length) io.dst v)
 (h1:S1.H=(Sx F l S (i+1)).H∧S1.E=(Sx F l S (i+1)).E∧S1.n=(Sx F l S (i+1)).n∧S1.lv=(Sx F l S (i+1)).lv∧S1.c=(Sx F l S (i+1)).c) (hext:Ext G (Sx F l S i).lv w G' S1.lv w') (hst:dL G (Sx F l S i).n G') :
 Mid P F l S nt mk G0 w0 D' (i+1) G' a' w':=by
 obtain ⟨e1,e2,e3,e4,e5⟩:=h1
 have hi:i<l.length:=(List.getElem?_eq_some_iff.1 ht.get).1
 constructor
 ·omega
 ·intro j io' hj hg hl'
  by_cases hji:j=i
  ·subst hji;exact hi'
  ·rw [hD j hji];exact h.lo j io' (by omega) hg hl'
 ·intro j io' hj hg hl'
  rw [hD j (by omega)];exact h.hi j io' (by omega) hg hl'
 ·intro t
  rw [ht.put he hD hi' hv t,← hT];exact hr.T t
 ·rw [← e1,← e2,← e4];exact hr.W
 ·rw [← e3];exact hr.β
 ·intro j io' hj hg hm hDj hw
  by_cases hji:j=i
  ·subst hji;rw [hi'] at hDj;cases hDj
  ·have hlt:j<i:=by omega
   cases hex:ex j i with
   | false=>
    have:=ht.before j io' hlt hg (q9 hm hl hex)
    rw [hD j hji,this] at hDj;cases hDj
   | true=>
    rw [hD j hji] at hDj
    rcases iT (dt he hg) hm with ⟨hw',_⟩ | ⟨_,_,_,_,_,_,_,_,_,_,_,en,_⟩
    ·rw [hw] at hw';cases hw'
    ·have:=jM hS he (show j+1≤i by omega) (by omega)
     rw [hst _ (by omega)]
     exact h.βm j io' hlt hg hm hDj hw
 ·rw [← e5];exact hr.τ
 ·exact hr.nt
 ·exact hr.d
 ·rw [← e4];exact h.ext.trans hext
 ·exact h.stay.trans hst (hx i (by omega)).1
theorem Mid.after_quiet (he:aS F l S=some S') (h:Mid P F l S nt mk G0 w0 D p G a w) (ht:eE ex ops l D i io) (hl:io.op.loud=false) (hD:∀ j,j≠i→D' j=D j) (hi':D' i=true) (hx:Text P F l S nt mk)
 {S1:St}{v:AV}(hv:∀ d,io.dst=some d→(Sx F l S (i+1)).T d=v) {G':Gh}{a':Act}{w':World}(hr:cu G' S1 nt mk a' w') (hT:S1.T=cF (TD F l S D l.length) io.dst v)
 (h1:S1.H=(Sx F l S p).H∧S1.E=(Sx F l S p).E∧S1.n=(Sx F l S p).n∧S1.lv=(Sx F l S p).lv∧S1.c=(Sx F l S p).c) (hext:Ext G (Sx F l S p).lv w G' S1.lv w') (hst:dL G (Sx F l S p).n G') :
 Mid P F l S nt mk G0 w0 D' p G' a' w':=by
 obtain ⟨e1,e2,e3,e4,e5⟩:=h1
 have nl:∀ j io',l[j]? = some io'→io'.op.loud=true→j≠i:=fun j io' hg hl' hji=>by
  subst hji
  rw [ht.get] at hg
  simp only [Option.some.injEq] at hg;subst hg
  rw [hl] at hl';cases hl'
 constructor
 ·exact h.le
 ·intro j io' hj hg hl'
  rw [hD j (nl j io' hg hl')];exact h.lo j io' hj hg hl'
 ·intro j io' hj hg hl'
  rw [hD j (nl j io' hg hl')];exact h.hi j io' hj hg hl'
 ·intro t
  rw [ht.put he hD hi' hv t,← hT];exact hr.T t
 ·rw [← e1,← e2,← e4];exact hr.W
 ·rw [← e3];exact hr.β
 ·intro j io' hj hg hm hDj hw
  by_cases hji:j=i
  ·subst hji;rw [hi'] at hDj;cases hDj
  ·rw [hD j hji] at hDj
   have hb:=h.βm j io' hj hg hm hDj hw
   rcases Nat.lt_or_ge (Sx F l S j).n (Sx F l S p).n with h' | h'
   ·exact (hst _ h').trans hb
   ·exact hr.β _ (by rw [e3];exact h')
 ·rw [← e5];exact hr.τ
 ·exact hr.nt
 ·exact hr.d
 ·rw [← e4];exact h.ext.trans hext
 ·exact h.stay.trans hst (hx p h.le).1
theorem Mid.at_loud (hS:Sound P F) (he:aS F l S=some S') (h:Mid P F l S nt mk G0 w0 D p G a w) (ht:eE ex ops l D i io) (hl:io.op.loud=true):Mid P F l S nt mk G0 w0 D i G a w:=by
 have hi:i<l.length:=(List.getElem?_eq_some_iff.1 ht.get).1
 have hpi:p≤i:=by
  rcases Nat.lt_or_ge i p with h' | h'
  ·have:=h.lo i io h' ht.get hl
   rw [ht.not] at this;cases this
  ·exact h'
 refine h.on hS he hpi (by omega) fun j io' h1 h2 hg=>?_
 cases hl':io'.op.loud with
 | false=>rfl
 | true=>
  have k1:=h.hi j io' h1 hg hl'
  have k2:=ht.before j io' h2 hg (zn hl' hl)
  rw [k1] at k2;cases k2
theorem Mid.at_makes (hS:Sound P F) (he:aS F l S=some S') (h:Mid P F l S nt mk G0 w0 D p G a w) (ht:eE ex ops l D i io) (hm:io.op.makes=true) :
 ∃ q,i<q∧Mid P F l S nt mk G0 w0 D q G a w∧∀ j io',i≤j→j<q→l[j]? = some io'→io'.op.loud=false∨(io'.op.loud=true∧ex i j=true):=by
 have hi:i<l.length:=(List.getElem?_eq_some_iff.1 ht.get).1
 have hil:io.op.loud=false:=(h9 hm).1
 rcases Nat.lt_or_ge i p with h' | h'
 ·refine ⟨p,h',h,fun j io' h1 h2 hg=>?_⟩
  cases hl':io'.op.loud with
  | false=>exact .inl rfl
  | true=>
   have k1:=h.lo j io' h2 hg hl'
   rcases Nat.lt_or_ge i j with h3 | h3
   ·cases hex:ex i j with
    | false=>
     have k2:=ht.after j io' h3 hg (q9 hm hl' hex)
     rw [k1] at k2;cases k2
    | true=>exact .inr ⟨rfl,rfl⟩
   ·have:j=i:=by omega
    subst this
    rw [ht.not] at k1;cases k1
 ·have nl:∀ j io',p≤j→j<i+1→l[j]? = some io'→io'.op.loud=false:=fun j io' h1 h2 hg=>by
   cases hl':io'.op.loud with
   | false=>rfl
   | true=>
    have k1:=h.hi j io' h1 hg hl'
    rcases Nat.lt_or_ge j i with h3 | h3
    ·have k2:=ht.before j io' h3 hg (zo hl' hm)
     rw [k1] at k2;cases k2
    ·have:j=i:=by omega
     subst this
     rw [ht.get] at hg
     simp only [Option.some.injEq] at hg;subst hg
     rw [hil] at hl';cases hl'
  refine ⟨i+1,by omega,h.on hS he (by omega) (by omega) nl,fun j io' h1 h2 hg=>.inl (nl j io' (by omega) h2 hg)⟩
theorem xc (h:bA F io S=some S') (h2:io.op.allH=true):S'.E=S.E:=by
 rcases dA h with ⟨_,rfl⟩ | ⟨s,_,hs,rfl⟩
 ·rfl
 ·cases s with
  | shared v hs'=>rfl
  | eff e=>
   cases hop:io.op<;>rw [hop] at h2 hs<;>(try (simp [IOp.allH] at h2;done))<;>rw [bR rfl] at hs<;>simp only [aR] at hs<;>(repeat' split at hs)<;>simp at hs
theorem BX (hS:Sound P F) (he:aS F l S=some S') {i j id:Nat}(hij:i≤j) (hj:j≤l.length) (hid:id<(Sx F l S i).n)
 (hw:∀ k io,i≤k→k<j→l[k]? = some io→io.op.loud=false∨(io.op.allH=true∧(Sx F l S (k+1)).H id=(Sx F l S k).H id)):(Sx F l S j).H id=(Sx F l S i).H id∧(Sx F l S j).E id=(Sx F l S i).E id:=by
 induction j with
 | zero=>simp at hij;subst hij;exact ⟨rfl,rfl⟩
 | succ j ih=>
  rcases Nat.lt_or_ge j i with h | h
  ·have:i=j+1:=by omega
   subst this;exact ⟨rfl,rfl⟩
  ·have hg:=List.getElem?_eq_getElem (l:=l) (i:=j) (by omega)
   obtain ⟨i1,i2⟩:=ih h (by omega) fun k io h1 h2=>hw k io h1 (by omega)
   rcases hw j _ h (by omega) hg with hl | ⟨ha,hH⟩
   ·obtain ⟨_,_,k3⟩:=q8 hS he (show j≤j+1 by omega) hj fun k io h1 h2 hk=>by
     have:k=j:=by omega
     subst this
     rw [hg] at hk
     simp only [Option.some.injEq] at hk;subst hk;exact hl
    have:=k3 id (Nat.lt_of_lt_of_le hid (jM hS he h (by omega)))
    exact ⟨this.1.trans i1,this.2.trans i2⟩
   ·exact ⟨hH.trans i1,(congrFun (xc (dt he hg) ha) id).trans i2⟩
end
end Go.Abs
/- One operation of a region in any order. Condition: the callees do what the evaluator says ('Sound'). -/
namespace Go.Abs
section
variable {P:Program}{F:aE}{hint:Hint}{nt mk:Nat}{ops:Array Oper}{l:List aa}{S S':St}{io:aa}{G0 G:Gh}{w0 w:World}{a a0:Act}{D D':Nat→Bool}{p i:Nat}{o:Oper}{ex:Nat→Nat→Bool}
theorem Mid.put_undef (hx:Text P F l S nt mk) (h:Mid P F l S nt mk G0 w0 D p G a w) {d:Option Nat}(hd:∀ t,d=some t→t<nt) :
 cu G { Sx F l S p with T:=cF (TD F l S D l.length) d (.tup []) } nt mk (a.put d undef) w:=
 ⟨fun t=>j0 h.T lF (fun t ht=>Nat.lt_of_lt_of_le (hd t ht) h.nt) t,h.W,h.β,h.τ,(h.srel hx).c,by rw [jj];exact h.nt,by rw [fS];exact h.d⟩
def de.val:de→AV
 | .eff e=>e.v
 | .shared v _=>v
theorem kD {s:de}{S1:St}{T:Nat→AV}{d:Option Nat}:(bo s { S1 with T:=T } d).T=cF T d s.val:=by cases s<;>rfl
theorem zt {q0:Option Nat}{d0:Nat}(hS:Sound P F) (hE:cl P F.env G0 w0) (he:aS F l S=some S') (hx:Text P F l S nt mk) (h:Mid P F l S nt mk G0 w0 D p G a w) (ht:eE ex ops l D i io) (hr:fq P hint nt ops o=some io) (hl:io.op.loud=true)
 (hD:∀ j,j≠i→D' j=D j) (hi':D' i=true) {s:de}(hs:cJ F (Sx F l S i).T (Sx F l S i).H (Sx F l S i).E (Sx F l S i).lv (Sx F l S i).n (Sx F l S i).c io.op=some s) (hS1:Sx F l S (i+1)=bo s (Sx F l S i) io.dst)
 {K:Act→World→Prop}{Q:Exit→Act→World→Prop}(hk:∀ p' G' a' w',Mid P F l S nt mk G0 w0 D' p' G' a' w'→K a' w'):o.wpIn (Fr q0) d0 P a w K Q:=by
 obtain ⟨h1,h2,h3,h4⟩:=fT hr
 have hi:i<l.length:=(List.getElem?_eq_some_iff.1 ht.get).1
 have h':=h.at_loud hS he ht hl
 obtain ⟨_,_,Gi,ai,wi,hsr⟩:=hx i (by omega)
 have hev:cJ F (TD F l S D l.length) (Sx F l S i).H (Sx F l S i).E (Sx F l S i).lv (Sx F l S i).n (Sx F l S i).c io.op=some s:=
  (jL (fun x hxm=>ht.ev he hxm) (fun _=>⟨rfl,rfl,rfl,rfl,rfl⟩) (fun _=>rfl) (fun _ x hxm y hy id _=>rfl)).trans hs
 have hpre:=o8 (nid:=(Sx F l S i).n) hS he h' ht hsr.c (h'.β _ (Nat.le_refl _)) fun y x hyx hxm=>(h8 h'.T y x hyx).under fun id q hq=>h'.lt hq
 refine nX hS (hE.ext h'.ext) h1 hpre (fun _=>h'.β) (fun _=>h'.τ) hev fun v w' G' hp=>?_
 obtain ⟨k1,k2,k3,k4,k5⟩:=lG (d:=o.dst) (h'.srel hx) hp h4
 have hrest:=sU s (Sx F l S i) (TD F l S D l.length) o.dst
 rw [← h3] at k1 k2 hrest ⊢
 refine hk (i+1) G' _ _ (h'.after_loud hS he ht hl hD hi' hx (v:=s.val) (fun d hd=>?_) k1 kD ?_ k2 k3)
 ·rw [hS1,hd,show bo s (Sx F l S i) (some d)=bo s { Sx F l S i with T:=(Sx F l S i).T } (some d) from rfl,kD,jc]
 ·rw [hS1];exact ⟨hrest.1,hrest.2.1,hrest.2.2.1,hrest.2.2.2.1,hrest.2.2.2.2.1⟩
theorem xd (hS:Sound P F) (he:aS F l S=some S') (hx:Text P F l S nt mk) (hap:ie ex F l S) (h:Mid P F l S nt mk G0 w0 D p G a w) (ht:eE ex ops l D i io) (hrd:io.op.rdH=true) (hcst:∀ x∈io.op.xs,∃ u,Rep G w (ev (TD F l S D l.length) x) u)
 (hun:∀ x∈io.op.xs,(ev (Sx F l S i).T x).under (Sx F l S i).n=true) :
 ∀ x∈io.op.xs,∀ y∈leaves (ev (TD F l S D l.length) x),∀ id,y.objId=some id→(Sx F l S p).H id=(Sx F l S i).H id:=by
 intro x hxm y hy id hid
 have hi:i<l.length:=(List.getElem?_eq_some_iff.1 ht.get).1
 rcases Nat.lt_or_ge p i |>.symm with h' | h'
 ·refine q7 hS he h' h.le (fun j io' h1 h2 hg=>?_) (w9 (hun x hxm) (by rw [← ht.ev he hxm];exact hy) hid)
  cases hw:io'.op.wrH with
  | false=>exact .inl rfl
  | true=>
   have k1:=h.lo j io' h2 hg (re hw)
   rcases Nat.lt_or_ge i j with h3 | h3
   ·cases hex:ex i j with
    | false=>
     have k2:=ht.after j io' h3 hg (zq hrd hw hex)
     rw [k1] at k2;cases k2
    | true=>
     exact .inr ((hap i j io io' ht.get hg hex).2.1 hrd hw x hxm y (by rw [← ht.ev he hxm];exact hy) id hid)
   ·have:j=i:=by omega
    subst this
    rw [ht.not] at k1;cases k1
 ·refine (q7 hS he (Nat.le_of_lt h') (by omega) (fun j io' h1 h2 hg=>?_) ?_).symm
  ·cases hw:io'.op.wrH with
   | false=>exact .inl rfl
   | true=>
    have k1:=h.hi j io' h1 hg (re hw)
    cases hex:ex j i with
    | false=>
     have k2:=ht.before j io' h2 hg (zp hw hrd hex)
     rw [k1] at k2;cases k2
    | true=>
     exact .inr ((hap j i io' io hg ht.get hex).1 hw hrd x hxm y (by rw [← ht.ev he hxm];exact hy) id hid)
  ·obtain ⟨u,hu⟩:=hcst x hxm
   obtain ⟨u',hu'⟩:=hu.leaf_exists y hy
   cases y<;>simp only [AV.objId,Option.some.injEq,reduceCtorEq] at hid
   ·subst hid
    obtain ⟨b,o',_,hb⟩:=hu'.ptr_ref
    exact h.lt hb
   ·subst hid
    obtain ⟨b,o',_,_,hb,_⟩:=hu'.inv_osl
    exact h.lt hb
   ·subst hid
    obtain ⟨b,_,hb⟩:=hu'.inv_mp
    exact h.lt hb
theorem xe {q0:Option Nat}{d0:Nat}(hS:Sound P F) (hE:cl P F.env G0 w0) (he:aS F l S=some S') (hx:Text P F l S nt mk) (hap:ie ex F l S) (h:Mid P F l S nt mk G0 w0 D p G a w) (ht:eE ex ops l D i io) (hr:fq P hint nt ops o=some io) (hl:io.op.loud=false) (hm:io.op.makes=false)
 (hc:∀ x∈io.op.xs,∃ y,aI y=some x)
 (hD:∀ j,j≠i→D' j=D j) (hi':D' i=true) {s:de}(hs:cJ F (Sx F l S i).T (Sx F l S i).H (Sx F l S i).E (Sx F l S i).lv (Sx F l S i).n (Sx F l S i).c io.op=some s) (hS1:Sx F l S (i+1)=bo s (Sx F l S i) io.dst)
 {K:Act→World→Prop}{Q:Exit→Act→World→Prop}(hk:∀ p' G' a' w',Mid P F l S nt mk G0 w0 D' p' G' a' w'→K a' w'):o.wpIn (Fr q0) d0 P a w K Q:=by
 obtain ⟨h1,h2,h3,h4⟩:=fT hr
 have hi:i<l.length:=(List.getElem?_eq_some_iff.1 ht.get).1
 obtain ⟨_,_,Gi,ai,wi,hsr⟩:=hx i (by omega)
 have hcp:=(h.srel hx).c
 have hev:cJ F (TD F l S D l.length) (Sx F l S p).H (Sx F l S p).E (Sx F l S p).lv (Sx F l S p).n (Sx F l S p).c io.op=some s:=by
  refine (jL (fun x hxm=>ht.ev he hxm) (fun h'=>by rw [hl] at h';cases h') (fun h'=>by rw [hm] at h';cases h') (fun hrd=>?_)).trans hs
  refine xd hS he hx hap h ht hrd (fun x hxm=>?_) (fun x hxm=>?_)
  ·obtain ⟨y,hy⟩:=hc x hxm
   exact ⟨_,h8 h.T y x hy⟩
  ·obtain ⟨y,hy⟩:=hc x hxm
   refine (h8 hsr.T y x hy).under fun id q hq=>?_
   rcases Nat.lt_or_ge id (Sx F l S i).n with h' | h'
   ·exact h'
   ·rw [hsr.β id h'] at hq;cases hq
 have hpre:=o8 (nid:=(Sx F l S p).n) hS he h ht hcp (h.β _ (Nat.le_refl _)) fun y x hyx hxm=>(h8 h.T y x hyx).under fun id q hq=>h.lt hq
 refine nX hS (hE.ext h.ext) h1 hpre (fun _=>h.β) (fun _=>h.τ) hev fun v w' G' hp=>?_
 obtain ⟨k1,k2,k3,k4,k5⟩:=lG (d:=o.dst) (h.srel hx) hp h4
 obtain ⟨e,rfl,q1,q2,q3,q4⟩:=gn hl hm hs
 rw [← h3] at k1 k2 ⊢
 refine hk p G' _ _ (h.after_quiet he ht hl hD hi' hx (v:=e.v) (fun d hd=>?_) k1 kD ⟨?_,?_,?_,?_,?_⟩ k2 k3)
 ·rw [hS1,hd];exact jc
 ·simp only [bo,Eff.st,q1,q2]
 ·simp only [bo,Eff.st,q1]
 ·simp only [bo,Eff.st,q1]
 ·exact bV q3 q4
 ·simp only [bo,Eff.st,q4,Nat.add_zero]
end
end Go.Abs
/- Every operand of a resolved operation is one of the text's. No condition. -/
namespace Go.Abs
section
variable {P:Program}{hint:Hint}{o:Oper}{op:IOp}
def Is (x:X):Prop:=∃ y,aI y=some x
theorem c6 {y:Operand}{x:X}(h:aI y=some x):Is x:=⟨y,h⟩
theorem eO {l:List Operand}{xs:List X}(h:cW l=some xs):∀ x∈xs,Is x:=by
 induction l generalizing xs with
 | nil=>simp only [cW,Option.some.injEq] at h;subst h;simp
 | cons y l ih=>
  simp only [cW] at h
  split at h
  ·rename_i a l' ha hl
   simp only [Option.some.injEq] at h;subst h
   intro x hx
   rcases List.mem_cons.1 hx with rfl | hx
   ·exact c6 ha
   ·exact ih hl x hx
  ·simp at h
theorem lK {y:Option Operand}{x:Option X}(h:dW y=some x):∀ z∈x.toList,Is z:=by
 cases y with
 | none=>simp only [dW,Option.some.injEq] at h;subst h;simp
 | some y=>
  simp only [dW] at h
  obtain ⟨a,ha,rfl⟩:=aC h
  intro z hz
  simp at hz;subst hz
  exact c6 ha
theorem zu {place:Nat→Option (Nat×Nat)}{ps:List (Nat×Operand)}{qs:List (Nat×Nat×X)}(h:dh place ps=some qs):∀ x∈qs.map (·.2.2),Is x:=by
 induction ps generalizing qs with
 | nil=>simp only [dh,Option.some.injEq] at h;subst h;simp
 | cons p ps ih=>
  obtain ⟨i,y⟩:=p
  simp only [dh] at h
  split at h
  ·rename_i h1 h2 h3
   simp only [Option.some.injEq] at h;subst h
   intro x hx
   simp only [List.map_cons,List.mem_cons] at hx
   rcases hx with rfl | hx
   ·exact c6 h2
   ·exact ih h3 x hx
  ·simp at h
theorem ve {c:Call}(h:gh P hint o c=some op):∀ x∈op.xs,Is x:=by
 unfold gh at h
 split at h
 ·split at h
  ·split at h
   ·obtain ⟨_,h⟩:=lC h
    simp only [Option.some.injEq] at h;subst h
    split<;>split<;>
     (simp only [IOp.xs,List.mem_cons,List.not_mem_nil,or_false,forall_eq_or_imp,forall_eq]
      exact ⟨c6 ‹_›,c6 ‹_›⟩)
   ·simp at h
  ·simp at h
 ·split at h
  ·obtain ⟨s,_,rfl⟩:=aC h
   simp only [IOp.xs,List.mem_cons,List.not_mem_nil,or_false,forall_eq_or_imp,forall_eq]
   exact ⟨c6 ‹_›,c6 ‹_›⟩
  ·simp at h
 ·split at h
  ·split at h
   ·split at h
    ·simp only [Option.some.injEq] at h;subst h
     simp only [IOp.xs,List.mem_cons,List.not_mem_nil,or_false,forall_eq]
     exact c6 ‹_›
    ·simp at h
   ·simp at h
  ·simp only [Option.some.injEq] at h;subst h
   simp only [IOp.xs,List.mem_cons,List.not_mem_nil,or_false,forall_eq]
   exact c6 ‹_›
  ·simp only [Option.some.injEq] at h;subst h
   simp only [IOp.xs,List.mem_cons,List.not_mem_nil,or_false,forall_eq]
   exact c6 ‹_›
  ·simp only [Option.some.injEq] at h;subst h
   simp only [IOp.xs,List.mem_cons,List.not_mem_nil,or_false,forall_eq]
   exact ⟨.const (.int .i64 _),rfl⟩
  ·simp at h
 ·obtain ⟨s,hs,rfl⟩:=aC h;exact eO hs
 ·obtain ⟨s,hs,rfl⟩:=aC h;exact eO hs
 ·split at h
  ·split at h
   ·obtain ⟨s,hs,rfl⟩:=aC h
    split
    ·exact eO hs
    ·split
     ·split
      ·exact eO hs
      ·exact eO hs
     ·exact eO hs
   ·simp at h
  ·simp at h
 ·obtain ⟨s,hs,rfl⟩:=aC h
  intro x hx
  rcases List.mem_cons.1 hx with rfl | hx
  ·exact ⟨.tmp _,rfl⟩
  ·exact eO hs x hx
 ·split at h
  ·simp only [Option.some.injEq] at h;subst h
   intro x hx
   rcases List.mem_cons.1 hx with rfl | hx
   ·exact c6 ‹_›
   ·exact eO ‹_› x hx
  ·simp at h
 ·simp at h
theorem zw (h:gw P hint o=some op):∀ x∈op.xs,Is x:=by
 unfold gw at h
 split at h
 all_goals ((try exact ve h)<;>(repeat' split at h)<;>first
  | (simp at h;done)
  | (obtain ⟨_,hs,rfl⟩:=aC h
     first
      | (intro x hx;exact zu hs x hx)
      | (simp only [IOp.xs,List.mem_cons,List.not_mem_nil,or_false,forall_eq_or_imp,forall_eq,List.mem_append,List.cons_append]
         first
          | exact c6 hs
          | exact c6 ‹_›
          | exact ⟨c6 ‹_›,c6 ‹_›⟩
          | exact ⟨c6 ‹_›,c6 ‹_›,c6 ‹_›⟩)
      | (intro x hx;cases hx))
  | skip)
 all_goals
  simp only [Option.some.injEq] at h
  subst h
  first
   | (intro x hx;simp [IOp.xs] at hx;done)
   | (intro x hx
      simp only [IOp.xs,List.mem_cons,List.not_mem_nil,or_false] at hx
      rcases hx with rfl | rfl | rfl<;>exact c6 ‹_›)
   | (intro x hx
      simp only [IOp.xs,List.mem_cons,List.not_mem_nil,or_false] at hx
      rcases hx with rfl | rfl<;>exact c6 ‹_›)
   | (intro x hx
      simp only [IOp.xs,List.mem_cons,List.not_mem_nil,or_false] at hx
      rcases hx with rfl;exact c6 ‹_›)
   | (intro x hx
      exact (List.mem_append.1 hx).elim (eO ‹_› x) (eO ‹_› x))
   | (intro x hx
      rcases List.mem_cons.1 hx with rfl | hx
      ·exact c6 ‹_›
      ·rcases List.mem_append.1 hx with hx | hx
       ·rcases List.mem_append.1 hx with hx | hx
        ·exact lK ‹_› x hx
        ·exact lK ‹_› x hx
       ·exact lK ‹_› x hx)
   | (intro x hx
      rcases List.mem_cons.1 hx with rfl | hx
      ·exact c6 ‹_›
      ·rcases List.mem_append.1 hx with hx | hx
       ·exact lK ‹_› x hx
       ·exact lK ‹_› x hx)
end
end Go.Abs
/- A region in any order, whole. Condition: the callees do what the evaluator says ('Sound'). -/
namespace Go.Abs
section
variable {P:Program}{F:aE}{hint:Hint}{nt mk:Nat}{ops:Array Oper}{l:List aa}{S S':St}{io:aa}{G0 G:Gh}{w0 w:World}{a a0:Act}{D D':Nat→Bool}{p i:Nat}{o:Oper}{ex:Nat→Nat→Bool}
theorem cu.under (h:cu G S nt mk a w) {x:X}(hx:Is x):(ev S.T x).under S.n=true:=by
 obtain ⟨y,hy⟩:=hx
 refine (h8 h.T y x hy).under fun id q hq=>?_
 rcases Nat.lt_or_ge id S.n with h' | h'
 ·exact h'
 ·rw [h.β id h'] at hq;cases hq
theorem xg {q0:Option Nat}{d0:Nat}(hS:Sound P F) (hE:cl P F.env G0 w0) (he:aS F l S=some S') (hx:Text P F l S nt mk) (hap:ie ex F l S) (h:Mid P F l S nt mk G0 w0 D p G a w) (ht:eE ex ops l D i io) (hr:fq P hint nt ops o=some io) (hm:io.op.makes=true)
 (hD:∀ j,j≠i→D' j=D j) (hi':D' i=true) (hw:bW (Sx F l S i).T io.guard=some true)
 {K:Act→World→Prop}{Q:Exit→Act→World→Prop}(hk:∀ p' G' a' w',Mid P F l S nt mk G0 w0 D' p' G' a' w'→K a' w'):o.wpIn (Fr q0) d0 P a w K Q:=by
 obtain ⟨h1,h2,h3,h4⟩:=fT hr
 have hi:i<l.length:=(List.getElem?_eq_some_iff.1 ht.get).1
 obtain ⟨hl,hrd,hwr,hall⟩:=h9 hm
 obtain ⟨q,hiq,hq,hnl⟩:=h.at_makes hS he ht hm
 obtain ⟨_,_,Gi,ai,wi,hsr⟩:=hx i (by omega)
 have hst:=dt he ht.get
 rcases iT hst hm with ⟨hw',_⟩ | ⟨e,cs,_,hs,m1,m2,m3,m4,e1,e2,e3,e4,e5⟩
 ·rw [hw] at hw';cases hw'
 have hev:cJ F (TD F l S D l.length) (Sx F l S q).H (Sx F l S q).E (Sx F l S q).lv (Sx F l S i).n (Sx F l S q).c io.op=some (.eff e):=
  (jL (fun x hxm=>ht.ev he hxm) (fun h'=>by rw [hl] at h';cases h') (fun _=>rfl) (fun h'=>by rw [hrd] at h';cases h')).trans hs
 have hpre:=o8 (nid:=(Sx F l S i).n) hS he hq ht (hq.srel hx).c (hq.βm i io hiq ht.get hm ht.not hw) fun y x hyx hxm=>by
  rw [ht.ev he hxm];exact hsr.under ⟨y,hyx⟩
 refine nX hS (hE.ext hq.ext) h1 hpre (fun h'=>by rw [hall] at h';cases h') (fun h'=>by rw [hall] at h';cases h') hev fun v w' G' hp=>?_
 have hp:fK G (Sx F l S q).lv w (Sx F l S q).H (Sx F l S q).E (Sx F l S i).n (Sx F l S q).c e v G' w':=hp
 have hn1:(Sx F l S i).n<(Sx F l S (i+1)).n:=by omega
 have hstill:=BX hS he (show i+1≤q by omega) hq.le hn1 fun j io' a b c=>(hnl j io' (by omega) b c).imp id fun hh=>(hap i j io io' ht.get c hh.2).2.2 hm hh.1 hw
 have hnq:(Sx F l S (i+1)).n≤(Sx F l S q).n:=jM hS he (show i+1≤q by omega) hq.le
 have hlive:e.live (Sx F l S q).lv (Sx F l S q).c=(Sx F l S q).lv:=bV m3 m4
 have hheap:e.heap (Sx F l S q).H (Sx F l S i).n=(Sx F l S q).H:=by
  have hh:e.heap (Sx F l S q).H (Sx F l S i).n=upd (Sx F l S q).H (Sx F l S i).n cs:=by simp only [Eff.heap,m1,m2]
  rw [hh]
  funext id
  simp only [upd]
  split
  ·rename_i hid
   subst hid
   rw [hstill.1,e1];simp [upd]
  ·rfl
 have htypes:e.types (Sx F l S q).E (Sx F l S i).n=(Sx F l S q).E:=by
  have hh:e.types (Sx F l S q).E (Sx F l S i).n=upd (Sx F l S q).E (Sx F l S i).n e.ty:=by simp only [Eff.types,m1]
  rw [hh]
  funext id
  simp only [upd]
  split
  ·rename_i hid
   subst hid
   rw [hstill.2,e2];simp [upd]
  ·rfl
 have hext:=hp.ext
 have hrel:=hp.rel
 rw [hlive] at hext hrel
 rw [hheap,htypes] at hrel
 have hd':∀ t,o.dst=some t→t<a.tmps.size:=fun t hto=>Nat.lt_of_lt_of_le (h4 t hto) h.nt
 have nl:∀ j io',l[j]? = some io'→io'.op.loud=true→j≠i:=fun j io' hg hl' hji=>by
  subst hji
  rw [ht.get] at hg
  simp only [Option.some.injEq] at hg;subst hg
  rw [hl] at hl';cases hl'
 refine hk q G' _ _ ?_
 constructor
 ·exact hq.le
 ·intro j io' hj hg hl'
  rw [hD j (nl j io' hg hl')];exact hq.lo j io' hj hg hl'
 ·intro j io' hj hg hl'
  rw [hD j (nl j io' hg hl')];exact hq.hi j io' hj hg hl'
 ·intro t
  have hS1:(Sx F l S (i+1)).T=cF (Sx F l S i).T io.dst e.v:=by
   rcases dA hst with ⟨hw',_⟩ | ⟨s',_,hs',hS1⟩
   ·rw [hw] at hw';cases hw'
   ·rw [hs] at hs'
    simp only [Option.some.injEq] at hs';subst hs'
    rw [hS1];rfl
  rw [ht.put he hD hi' (v:=e.v) (fun d hd=>by rw [hS1,hd,jc]) t,h3]
  exact j0 (fun t=>(hq.T t).mono hp.ext.mono) hp.rep hd' t
 ·exact hrel
 ·intro id hid
  rw [hp.β id (.inl (by omega))];exact hq.β id hid
 ·intro j io' hj hg hm' hDj hwj
  by_cases hji:j=i
  ·subst hji;rw [hi'] at hDj;cases hDj
  ·rw [hD j hji] at hDj
   rw [hp.β _ (.inl ?_)]
   ·exact hq.βm j io' hj hg hm' hDj hwj
   ·-- active makers have numbers of their own
    rcases Nat.lt_or_ge j i with hji' | hji'
    ·rcases iT (dt he hg) hm' with ⟨hw',_⟩ | ⟨_,_,_,_,_,_,_,_,_,_,_,en,_⟩
     ·rw [hwj] at hw';cases hw'
     ·have:=jM hS he (show j+1≤i by omega) (by omega)
      omega
    ·have hjl:=(List.getElem?_eq_some_iff.1 hg).1
     have:=jM hS he (show i+1≤j by omega) (by omega)
     omega
 ·intro b hb
  rw [hp.τ b (.inr (by omega))];exact hq.τ b hb
 ·rw [jj];exact h.nt
 ·rw [fS];exact hq.d.ext hq.W hp.ext
 ·exact hq.ext.trans hext
 ·intro id hid
  have:=(hx i (by omega)).1
  rw [hp.β id (.inl (by omega))];exact hq.stay id hid
theorem zx {q0:Option Nat}{d0:Nat}(hS:Sound P F) (hE:cl P F.env G0 w0) (he:aS F l S=some S') (hx:Text P F l S nt mk) (hap:ie ex F l S) (h:Mid P F l S nt mk G0 w0 D p G a w) (ht:eE ex ops l D i io) (ho:ops[i]? = some o) (hr:fq P hint nt ops o=some io)
 (hD:∀ j,j≠i→D' j=D j) (hi':D' i=true) {K:Act→World→Prop}{Q:Exit→Act→World→Prop}(hk:∀ p' G' a' w',Mid P F l S nt mk G0 w0 D' p' G' a' w'→K a' w'):wpOpIn (Fr q0) d0 P ops Q i K a w:=by
 obtain ⟨h1,h2,h3,h4⟩:=fT hr
 have hst:=dt he ht.get
 unfold wpOpIn
 simp only [ho]
 rcases dA hst with ⟨hw,hS1⟩ | ⟨s,hw,hs,hS1⟩
 ·rw [gz h.T h2 ((ht.bW he).trans hw),if_neg (by simp)]
  have hv:∀ d,io.dst=some d→(Sx F l S (i+1)).T d = .tup []:=fun d hd=>by rw [hS1,hd];exact jc
  cases hl:io.op.loud with
  | false=>
   have:=h.put_undef hx h4
   rw [← h3] at this ⊢
   exact ⟨fun _ _=>trivial,hk p G _ _ (h.after_quiet he ht hl hD hi' hx hv this rfl ⟨rfl,rfl,rfl,rfl,rfl⟩ (Ext.refl _ _ _) (dL.refl _ _))⟩
  | true=>
   have h':=h.at_loud hS he ht hl
   have:=h'.put_undef hx h4
   rw [← h3] at this ⊢
   exact ⟨fun _ _=>trivial,hk (i+1) G _ _ (h'.after_loud hS he ht hl hD hi' hx hv this rfl (by rw [hS1];exact ⟨rfl,rfl,rfl,rfl,rfl⟩) (Ext.refl _ _ _) (dL.refl _ _))⟩
 ·rw [gz h.T h2 ((ht.bW he).trans hw),if_pos rfl]
  cases hl:io.op.loud with
  | true=>exact zt hS hE he hx h ht hr hl hD hi' hs hS1 hk
  | false=>
   cases hm:io.op.makes with
   | true=>exact xg hS hE he hx hap h ht hr hm hD hi' hw hk
   | false=>exact xe hS hE he hx hap h ht hr hl hm (zw h1) hD hi' hs hS1 hk
end
end Go.Abs
/- A region that draws its order. Condition: the callees do what the evaluator says ('Sound'). -/
namespace Go.Abs
section
variable {P:Program}{F:aE}{hint:Hint}{nt mk:Nat}{ops:Array Oper}{l:List aa}{S S':St}{G0 G:Gh}{w0 w:World}{a:Act}{p:Nat}{ex:Nat→Nat→Bool}
def Dn (listed:Array Bool):Nat→Bool:=fun j=>listed.getD j false
def n6 (n:Nat) (listed:Array Bool):Nat:=((List.range n).filter fun j=>!Dn listed j).length
theorem rf {n i:Nat}{listed:Array Bool}(hi:i<n) (hs:listed.size=n) (hn:Dn listed i=false):n6 n (listed.setIfInBounds i true)<n6 n listed:=by
 have hfil:(List.range n).filter (fun j=>!Dn (listed.setIfInBounds i true) j)=((List.range n).filter fun j=>!Dn listed j).filter fun j=>decide (j≠i):=by
  rw [List.filter_filter]
  apply List.filter_congr
  intro j _
  by_cases hj:j=i
  ·subst hj
   simp [Dn,hs,hi]
  ·simp only [Dn]
   rw [getD_set_ne false (Ne.symm hj)]
   simp [hj]
 unfold n6
 rw [hfil]
 refine List.length_filter_lt_length_iff_exists.2 ⟨i,?_,by simp⟩
 simp [hi,hn]
theorem np {j:Nat}{listed:Array Bool}(hs:listed.size=ops.size):j∈Region.ready .any ops listed↔j<ops.size∧Dn listed j=false∧mu ops (Dn listed) j:=by
 rw [mem_ready]
 constructor
 ·rintro ⟨h1,o,h2,h3⟩
  have hlt:=(Array.getElem?_eq_some_iff.1 h2).1
  refine ⟨hlt,?_,fun o' ho' e he hb=>?_⟩
  ·simpa [Dn,hs,hlt] using h1
  ·rw [h2] at ho'
   simp only [Option.some.injEq] at ho';subst ho'
   exact h3 e he hb
 ·rintro ⟨h1,h2,h3⟩
  refine ⟨?_,ops[j],by simp [h1],fun e he hb=>h3 _ (by simp [h1]) e he hb⟩
  simpa [Dn,hs,h1] using h2
theorem Mid.last (hS:Sound P F) (he:aS F l S=some S') (hx:Text P F l S nt mk) {D:Nat→Bool}(h:Mid P F l S nt mk G0 w0 D p G a w) (hD:∀ j,j<l.length→D j=true):cu G S' nt mk a w∧Ext G0 S.lv w0 G S'.lv w∧dL G0 S.n G∧S.n≤S'.n∧S.c≤S'.c:=by
 have h':Mid P F l S nt mk G0 w0 D l.length G a w:=by
  refine h.on hS he h.le (Nat.le_refl _) fun j io h1 h2 hg=>?_
  cases hl:io.op.loud with
  | false=>rfl
  | true=>
   have:=h.hi j io h1 hg hl
   rw [hD j h2] at this;cases this
 obtain ⟨k1,k2,_⟩:=hx l.length (Nat.le_refl _)
 have hc:=(h'.srel hx).c
 have e:=wX he
 have hT:∀ t,TD F l S D l.length t=(Sx F l S l.length).T t:=fun t=>pJ he l.length (Nat.le_refl _) fun j io hj _ _=>hD j hj
 rw [← e]
 exact ⟨⟨fun t=>by rw [← hT t];exact h'.T t,h'.W,h'.β,h'.τ,hc,h'.nt,h'.d⟩,h'.ext,h'.stay,k1,k2⟩
theorem xh {q:Option Nat}{d:Nat}(hS:Sound P F) (hE:cl P F.env G0 w0) (hl:dz P hint nt ops ops.toList=some l) (hsafe:fY ex ops l=true) (hap:ie ex F l S) (he:aS F l S=some S') (hx:Text P F l S nt mk) {Q:Exit→Act→World→Prop}
 (hk:∀ a' w' G',cu G' S' nt mk a' w'→Ext G0 S.lv w0 G' S'.lv w'→dL G0 S.n G'→S.n≤S'.n→S.c≤S'.c→Q .normal a' w') :
 ∀ (fuel:Nat) (listed:Array Bool) (p:Nat) (G:Gh) (a:Act) (w:World),listed.size=ops.size→n6 ops.size listed≤fuel→lI ops (Dn listed)→Mid P F l S nt mk G0 w0 (Dn listed) p G a w→wpAnyIn (Fr q) d P .any ops Q fuel listed a w:=by
 have hlen:l.length=ops.size:=by simpa using (e9 hl).1
 have done:∀ (listed:Array Bool) (p:Nat) (G:Gh) (a:Act) (w:World),listed.size=ops.size→lI ops (Dn listed)→Mid P F l S nt mk G0 w0 (Dn listed) p G a w→Region.ready .any ops listed=[]→Q .normal a w:=by
  intro listed p G a w hs hc h hr
  have hall:∀ j,j<ops.size→Dn listed j=true:=by
   intro j
   induction j using Nat.strongRecOn with
   | ind j ih=>
    intro hj
    cases hd:Dn listed j with
    | true=>rfl
    | false=>
     have:j∈Region.ready .any ops listed:=(np hs).2 ⟨hj,hd,fun o ho e hem hb=>by
      have:=zl hsafe ho hem hb
      exact ih e.on this (by omega)⟩
     rw [hr] at this;cases this
  obtain ⟨k1,k2,k3,k4,k5⟩:=h.last hS he hx fun j hj=>hall j (by omega)
  exact hk a w G k1 k2 k3 k4 k5
 intro fuel
 induction fuel with
 | zero=>
  intro listed p G a w hs ho hc h
  have hr:Region.ready .any ops listed=[]:=by
   refine List.eq_nil_iff_forall_not_mem.2 fun j hj=>?_
   obtain ⟨h1,h2,_⟩:=(np hs).1 hj
   have:=rf (listed:=listed) h1 hs h2
   omega
  exact ⟨hr,done listed p G a w hs hc h hr⟩
 | succ fuel ih=>
  intro listed p G a w hs ho hc h
  refine ⟨done listed p G a w hs hc h,fun i hi=>?_⟩
  obtain ⟨h1,h2,h3⟩:=(np hs).1 hi
  obtain ⟨io,hio,hr⟩:=(e9 hl).2 i ops[i] (by simp [h1])
  have ht:=BW hsafe hc hio h2 h3
  have hset:Dn (listed.setIfInBounds i true) i=true:=by simp [Dn,hs,h1]
  have hoth:∀ j,j≠i→Dn (listed.setIfInBounds i true) j=Dn listed j:=fun j hj=>getD_set_ne false (Ne.symm hj)
  have hmono:∀ j,Dn listed j=true→Dn (listed.setIfInBounds i true) j=true:=fun j hj=>by
   by_cases hji:j=i
   ·subst hji;exact hset
   ·rw [hoth j hji];exact hj
  refine zx hS hE he hx hap h ht (by simp [h1]) hr hoth hset fun p' G' a' w' h'=>?_
  refine ih _ p' G' a' w' (by simpa using hs) ?_ ?_ h'
  ·have:=rf (listed:=listed) h1 hs h2
   omega
  ·intro j hj o' ho' e hem hb
   by_cases hji:j=i
   ·subst hji;exact hmono _ (h3 o' ho' e hem hb)
   ·rw [hoth j hji] at hj
    exact hmono _ (hc j hj o' ho' e hem hb)
theorem gA {q:Option Nat}{d:Nat}(hS:Sound P F) (hE:cl P F.env G w) (hl:dz P hint nt ops ops.toList=some l) (hsafe:fY ex ops l=true) (hap:ie ex F l S) (h:cu G S nt mk a w) (he:aS F l S=some S') {Q:Exit→Act→World→Prop}
 (hk:∀ a' w' G',cu G' S' nt mk a' w'→Ext G S.lv w G' S'.lv w'→dL G S.n G'→S.n≤S'.n→S.c≤S'.c→Q .normal a' w'):wpAnyIn (Fr q) d P .any ops Q ops.size (Array.replicate ops.size false) a { w with drawn:=w.drawn+1 }:=by
 have hlen:l.length=ops.size:=by simpa using (e9 hl).1
 have hx:Text P F l S nt mk:=fun j hj=>by
  obtain ⟨G',a',w',k1,k2,k3⟩:=sP hS hE hl h (m:=j) (by omega) (mr he j)
  exact ⟨k2,k3,G',a',w',k1⟩
 have hext0:Ext G S.lv w G S.lv { w with drawn:=w.drawn+1 }:=⟨fun _ _ h=>h,fun _ _ h=>h,fun _ _ h=>h,fun _ _ h _ _=>h,fun _ _ h=>h,fun _ _ _=>rfl,fun _ _ _=>rfl,fun _ _=>rfl,Nat.le_refl _,rfl,rfl,rfl,fun _ _ h=>h,fun _ _ h=>h⟩
 have hm0:Mid P F l S nt mk G w (Dn (Array.replicate ops.size false)) 0 G a { w with drawn:=w.drawn+1 }:=by
  have hf:∀ j,Dn (Array.replicate ops.size false) j=false:=fun j=>by
   simp only [Dn,Array.getD_eq_getD_getElem?,Array.getElem?_replicate]
   split<;>rfl
  have hmono:dV G w G { w with drawn:=w.drawn+1 }:=hext0.mono
  constructor
  ·exact Nat.zero_le _
  ·intro j io hj;omega
  ·intro j io _ _ _;exact hf j
  ·intro t
   have:TD F l S (Dn (Array.replicate ops.size false)) l.length t=S.T t:=by
    rw [nn (i:=0) l.length (Nat.zero_le _) fun j io _ _ _ _=>hf j];rfl
   rw [this];exact (h.T t).mono hmono
  ·show aG G S.H S.E S.lv _
   constructor
   ·intro id b o hb
    obtain ⟨cs,T,fz,h1,h2,h3,h4,h5⟩:=h.W.obj id b o hb
    exact ⟨cs,T,fz,h1,h2,fun i x hx'=>by
     obtain ⟨k1,k2,v,k3,k4⟩:=h3 i x hx'
     exact ⟨k1,k2,v,k3,k4.mono hmono⟩,h4,h5⟩
   ·exact fun id b hb=>h.W.mobj_of hmono hb rfl rfl
   ·exact h.W.nσ
   ·exact h.W.inj
   ·exact h.W.tip
   ·exact h.W.tinj
   ·exact h.W.σlt
   ·exact h.W.τlt
   ·exact h.W.ρlt
  ·exact h.β
  ·intro j io hj;omega
  ·exact h.τ
  ·exact h.nt
  ·exact ⟨h.d.1,h.d.2.keep fun _ h=>h⟩
  ·exact hext0
  ·exact dL.refl _ _
 refine xh hS hE hl hsafe hap he hx hk ops.size _ 0 G a _ (by simp) ?_ ?_ hm0
 ·unfold n6
  exact Nat.le_trans (List.length_filter_le _ _) (by simp)
 ·intro j hj
  have:Dn (Array.replicate ops.size false) j=false:=by
   simp only [Dn,Array.getD_eq_getD_getElem?,Array.getElem?_replicate]
   split<;>rfl
  rw [this] at hj;cases hj
theorem jN {q:Option Nat}{d:Nat}(hS:Sound P F) (hE:cl P F.env G w) (hl:dz P hint nt ops ops.toList=some l) (hm:P.follows .mixedOrders=true) (hsafe:fY ex ops l=true) (hap:ie ex F l S) (h:cu G S nt mk a w) (he:aS F l S=some S') {id:Nat}{Q:Exit→Act→World→Prop}
 (hk:∀ a' w' G',cu G' S' nt mk a' w'→Ext G S.lv w G' S'.lv w'→dL G S.n G'→S.n≤S'.n→S.c≤S'.c→Q .normal a' w'):(Code.region id ops true).wpIn (Fr q) d P Q a w:=
 wpIn_region_any hm (gA hS hE hl hsafe hap h he hk)
theorem zy {j x y:Nat}(h:eU j x=eU j y):x=y:=by
 unfold eU at h
 (repeat' split at h)<;>omega
theorem tq {j:Nat}(i:Nat):(rot j ops)[eU j i]? = (ops[i]?).map (lz j)∨ops.size≤j:=by
 rcases Nat.lt_or_ge j ops.size with hj | hj
 ·left
  have ho:ops.toList[j]? = some ops[j]:=by simp [hj]
  have e:rot j ops=((ops[j]::ops.toList.eraseIdx j).map (lz j)).toArray:=by unfold rot y4;rw [ho]
  rw [e,List.getElem?_toArray,List.getElem?_map,← Array.getElem?_toList]
  congr 1
  unfold eU
  split
  ·rename_i h;subst h;rw [List.getElem?_cons_zero,ho]
  ·split
   ·rename_i h1 h2
    rw [List.getElem?_cons_succ,List.getElem?_eraseIdx_of_lt h2]
   ·rename_i h1 h2
    obtain ⟨i',rfl⟩:∃ i',i=i'+1:=⟨i-1,by omega⟩
    rw [List.getElem?_cons_succ,List.getElem?_eraseIdx_of_ge (by omega)]
 ·exact .inr hj
theorem zA {j:Nat}(hj:j<ops.size):(rot j ops).size=ops.size:=by
 have ho:ops.toList[j]? = some ops[j]:=by simp [hj]
 have e:rot j ops=((ops[j]::ops.toList.eraseIdx j).map (lz j)).toArray:=by unfold rot y4;rw [ho]
 rw [e,List.size_toArray,List.length_map,List.length_cons,List.length_eraseIdx,Array.length_toList,if_pos hj];omega
theorem tr {j i:Nat}(hj:j<ops.size):eU j i<ops.size↔i<ops.size:=by
 unfold eU
 (repeat' split)<;>omega
theorem zB {j:Nat}(k:Nat):∃ i,eU j i=k:=by
 unfold eU
 by_cases h0:k=0
 ·exact ⟨j,by rw [if_pos rfl,h0]⟩
 ·by_cases h1:k≤j
  ·exact ⟨k-1,by rw [if_neg (by omega),if_pos (by omega)];omega⟩
  ·exact ⟨k,by rw [if_neg (by omega),if_neg (by omega)]⟩
theorem lL {j:Nat}(hj:j<ops.size) {listed listed':Array Bool}(hL:∀ i,listed'[eU j i]? = listed[i]?) (i:Nat):eU j i∈Region.ready .any (rot j ops) listed'↔i∈Region.ready .any ops listed:=by
 rw [mem_ready,mem_ready]
 have hg:=(tq (ops:=ops) (j:=j) i).resolve_right (by omega)
 rw [Array.getD_eq_getD_getElem?,Array.getD_eq_getD_getElem?,hL,hg]
 refine and_congr Iff.rfl ?_
 constructor
 ·rintro ⟨o',ho',h⟩
  obtain ⟨o,ho,rfl⟩:=Option.map_eq_some_iff.1 ho'
  refine ⟨o,ho,fun e he hb=>?_⟩
  have:=h { e with on:=eU j e.on } (Array.mem_map.2 ⟨e,he,rfl⟩) hb
  rw [Array.getD_eq_getD_getElem?] at this ⊢
  rw [← hL];exact this
 ·rintro ⟨o,ho,h⟩
  refine ⟨lz j o,by rw [ho];rfl,fun e' he' hb=>?_⟩
  obtain ⟨e,he,rfl⟩:=Array.mem_map.1 he'
  have:=h e he hb
  rw [Array.getD_eq_getD_getElem?] at this ⊢
  rw [hL];exact this
theorem Fq {Fe:Fence}{d:Nat}{j i:Nat}(hj:j<ops.size) {K:Act→World→Prop}{Q:Exit→Act→World→Prop}(h:wpOpIn Fe d P (rot j ops) Q (eU j i) K a w):wpOpIn Fe d P ops Q i K a w:=by
 have hg:=fun k=>(tq (ops:=ops) (j:=j) k).resolve_right (by omega)
 unfold wpOpIn at h ⊢
 rw [hg i] at h
 cases ho:ops[i]? with
 | none=>rw [ho] at h;exact h
 | some o=>
  rw [ho] at h
  dsimp only [Option.map_some] at h ⊢
  have hw:Region.wanted (lz j o) (yielded (rot j ops) a.tmps)=Region.wanted o (yielded ops a.tmps):=by
   unfold Region.wanted lz
   cases o.guard with
   | none=>rfl
   | some p=>
    obtain ⟨g,b⟩:=p
    dsimp only [Option.map_some]
    have:yielded (rot j ops) a.tmps (eU j g)=yielded ops a.tmps g:=by
     unfold yielded
     rw [hg g]
     cases ops[g]?<;>rfl
    rw [this]
  rw [hw] at h
  split at h
  ·rename_i hw1;rw [if_pos hw1];exact h
  ·rename_i hw1;rw [if_neg hw1];exact h
theorem xi {Fe:Fence}{d j:Nat}(hj:j<ops.size) {Q:Exit→Act→World→Prop}:∀ (fuel:Nat) (listed listed':Array Bool) (a:Act) (w:World),listed.size=ops.size→listed'.size=ops.size→(∀ i,listed'[eU j i]? = listed[i]?)→wpAnyIn Fe d P .any (rot j ops) Q fuel listed' a w→wpAnyIn Fe d P .any ops Q fuel listed a w:=by
 have nil:∀ {listed listed':Array Bool},(∀ i,listed'[eU j i]? = listed[i]?)→(Region.ready .any (rot j ops) listed'=[]↔Region.ready .any ops listed=[]):=by
  intro listed listed' hL
  rw [List.eq_nil_iff_forall_not_mem,List.eq_nil_iff_forall_not_mem]
  constructor
  ·exact fun h i hi=>h _ ((lL hj hL i).2 hi)
  ·intro h k hk
   obtain ⟨i,rfl⟩:=zB (j:=j) k
   exact h i ((lL hj hL i).1 hk)
 intro fuel
 induction fuel with
 | zero=>exact fun listed listed' a w h1 h2 hL h=>⟨(nil hL).1 h.1,h.2⟩
 | succ fuel ih=>
  intro listed listed' a w h1 h2 hL h
  refine ⟨fun hr=>h.1 ((nil hL).2 hr),fun i hi=>Fq hj ?_⟩
  refine wpOpIn_mono (fun a w hk=>?_) (h.2 _ ((lL hj hL i).2 hi))
  refine ih _ _ a w (by simpa using h1) (by simpa using h2) (fun i2=>?_) hk
  by_cases e:i2=i
  ·subst e
   have:=tr (i:=i2) hj
   rw [Array.getElem?_setIfInBounds_self,Array.getElem?_setIfInBounds_self,h1,h2]
   by_cases hi2:i2<ops.size
   ·rw [if_pos (this.2 hi2),if_pos hi2]
   ·rw [if_neg (fun hh=>hi2 (this.1 hh)),if_neg hi2]
  ·rw [Array.getElem?_setIfInBounds_ne (fun h=>e (zy h).symm),Array.getElem?_setIfInBounds_ne (Ne.symm e)]
   exact hL i2
theorem kE {q:Option Nat}{d j id:Nat}(hm:P.follows .mixedOrders=true) (hj:j<ops.size) {Q:Exit→Act→World→Prop}(h:wpAnyIn (Fr q) d P .any (rot j ops) Q (rot j ops).size (Array.replicate (rot j ops).size false) a { w with drawn:=w.drawn+1 }):(Code.region id ops true).wpIn (Fr q) d P Q a w:=by
 rw [zA hj] at h
 refine wpIn_region_any hm (xi hj _ _ _ a _ (by simp) (by simp) (fun i=>?_) h)
 have:=tr (i:=i) hj
 rw [Array.getElem?_replicate,Array.getElem?_replicate]
 by_cases hi:i<ops.size
 ·rw [if_pos (this.2 hi),if_pos hi]
 ·rw [if_neg (fun hh=>hi (this.1 hh)),if_neg hi]
theorem n7:ie E4 F l S:=fun _ _ _ _ _ _ h=>by cases h
theorem tt (he:aS F l S=some S'):∀ {k:Nat}{x:X}{r:Nat},k≤l.length→eL l k x=some r→ev (Sx F l S k).T x=S'.T r:=by
 intro k x r hk h
 cases x with
 | t t=>
  simp only [eL] at h
  split at h
  ·rename_i ht
   cases h
   rw [← wX he]
   exact (ZK he ht _ hk (Nat.le_refl _)).symm
  ·cases h
 | c v=>cases h
mutual
theorem tu:∀ {a b:AV},ki a b=true→a=b:=by
 intro a b h
 cases a<;>cases b<;>simp only [ki,Bool.and_eq_true,decide_eq_true_eq,beq_iff_eq,Bool.false_eq_true,and_assoc] at h<;>first
  | rfl
  | (subst h;rfl)
  | (obtain ⟨rfl,rfl⟩:=h;rfl)
  | (obtain ⟨rfl,rfl,rfl,rfl⟩:=h;rfl)
  | (obtain ⟨rfl,rfl,h⟩:=h;rw [gp h])
  | (obtain ⟨rfl,h1,h2⟩:=h;rw [gp h1,gp h2])
  | (obtain ⟨rfl,h⟩:=h;first | rw [gp h] | rw [tu h])
  | rw [gp h]
theorem gp:∀ {a b:List AV},gN a b=true→a=b:=by
 intro a b h
 cases a<;>cases b<;>simp only [gN,Bool.and_eq_true,Bool.false_eq_true] at h
 ·rfl
 ·rw [tu h.1,gp h.2]
end
mutual
theorem pL:∀ a:AV,ki a a=true
 | .int _ _ | .bool _ | .str _ | .ref _ _ | .nilp | .osl _ _ _ _ | .mp _ | .yl _ | .nilfn | .nilif | .junk=>by simp [ki]
 | .sl _ _ xs | .pp xs _ | .cp xs _ | .agg xs | .tup xs=>by simp [ki,iw xs]
 | .fn _ a c=>by simp [ki,iw a,iw c]
 | .iface _ v=>by simp [ki,pL v]
theorem iw:∀ l:List AV,gN l l=true
 | []=>rfl
 | x::xs=>by simp [gN,pL x,iw xs]
end
theorem jO {ps:List (Nat×Nat)}(he:aS F l S=some S') (hp:ps.all (fN S'.T)=true):ie (qG l ps) F l S:=by
 have root:=@tt F l S S' he
 have ne:∀ {r q:Nat},ps.contains (r,q)=true→(∀ id,(S'.T r).objId=some id→∀ u∈leaves (S'.T q),u.objId≠some id)∧(∀ id,(S'.T q).objId=some id→∀ u∈leaves (S'.T r),u.objId≠some id):=by
  intro r q h
  have h1:=List.all_eq_true.1 hp (r,q) (by simpa using h)
  simp only [fN] at h1
  split at h1
  ·rename_i a o b o' e1 e2
   have hne:a≠b:=by simpa using h1
   rw [e1,e2]
   refine ⟨fun id hid u hu hu'=>?_,fun id hid u hu hu'=>?_⟩<;>(simp only [leaves,AV.cells,List.mem_singleton] at hu;subst hu;simp only [AV.objId,Option.some.injEq] at hid hu';omega)
  ·rename_i e1 e2
   rw [e1,e2]
   refine ⟨fun id hid u hu hu'=>?_,fun id hid u hu hu'=>?_⟩
   ·simp only [leaves,AV.cells,List.mem_singleton] at hu;subst hu;cases hu'
   ·cases hid
  ·rename_i e1 e2
   rw [e1,e2]
   refine ⟨fun id hid u hu hu'=>?_,fun id hid u hu hu'=>?_⟩
   ·cases hid
   ·simp only [leaves,AV.cells,List.mem_singleton] at hu;subst hu;cases hu'
  ·cases h1
 have away:∀ {i j:Nat}{a b:aa}{sz sz' r q:Nat}{ag:Bool}{x y z:X},l[i]? = some a→i≤l.length→j≤l.length→a.op = .store sz x y→b.op = .load sz' ag z→eL l i x=some r→eL l j z=some q→
  (∀ id,(S'.T r).objId=some id→∀ u∈leaves (S'.T q),u.objId≠some id)→vd F l S i j b:=by
  intro i j a b sz sz' r q ag x y z hg hi hj ha hb hr hq hne z' hz' u hu id hid
  rw [hb] at hz'
  simp only [IOp.xs,List.mem_singleton] at hz'
  subst hz'
  rw [root hj hq] at hu
  refine u9 (dt he hg) ha fun id' hid' hc=>?_
  subst hc
  rw [root hi hr] at hid'
  exact hne id' hid' u hu hid
 intro i j a b ha hb hex
 have hi:i≤l.length:=Nat.le_of_lt (List.getElem?_eq_some_iff.1 ha).1
 have hj:j≤l.length:=Nat.le_of_lt (List.getElem?_eq_some_iff.1 hb).1
 unfold qG at hex
 split at hex
 ·rename_i pr hpr
  unfold fP at hpr
  rw [ha,hb] at hpr
  simp only [Option.map_some] at hpr
  split at hpr
  ·rename_i sz x y sz' ag z e1 e2
   simp only [Option.some.injEq] at e1 e2
   split at hpr
   ·rename_i r q hr hq
    simp only [Option.some.injEq] at hpr;subst hpr
    refine ⟨fun _ _=>away ha hi hj e1 e2 hr hq (ne hex).1,fun h _=>?_,fun h=>?_⟩<;>(rw [e1] at h;cases h)
   ·cases hpr
  ·rename_i sz' ag z sz x y e1 e2
   simp only [Option.some.injEq] at e1 e2
   split at hpr
   ·rename_i r q hr hq
    simp only [Option.some.injEq] at hpr;subst hpr
    refine ⟨fun h _=>?_,fun _ _=>away hb hj hi e2 e1 hq hr (ne hex).2,fun h=>by rw [e1] at h;cases h⟩
    rw [e1] at h;cases h
   ·cases hpr
  ·cases hpr
 ·cases hex
theorem mU {ps cs:List (Nat×Nat)}(he:aS F l S=some S') (hp:ps.all (fN S'.T)=true) (hc:cs.all (iN F l S S'.T)=true):ie (exC l ps cs) F l S:=by
 have root:=@tt F l S S' he
 have away:∀ {i j:Nat}{b:aa}{sz q:Nat}{ag:Bool}{y:X},j≤l.length→b.op = .load sz ag y→eL l j y=some q→cs.contains (i,q)=true→vd F l S i j b:=by
  intro i j b sz q ag y hj hb hq hcs z hz u hu id hid
  rw [hb] at hz
  simp only [IOp.xs,List.mem_singleton] at hz
  subst hz
  rw [root hj hq] at hu
  have h1:=List.all_eq_true.1 hc (i,q) (by simpa using hcs)
  simp only [iN] at h1
  split at h1
  ·rename_i id' o e1
   rw [e1] at hu
   simp only [leaves,AV.cells,List.mem_singleton] at hu
   subst hu
   simp only [AV.objId,Option.some.injEq] at hid
   subst hid
   exact gp h1
  ·rename_i e1
   rw [e1] at hu
   simp only [leaves,AV.cells,List.mem_singleton] at hu
   subst hu;cases hid
  ·rename_i e1
   rw [e1] at hu
   simp only [leaves,AV.cells,List.mem_singleton] at hu
   subst hu;cases hid
  ·rename_i e1
   rw [e1] at hu
   simp [leaves] at hu
  ·cases h1
 intro i j a b ha hb hex
 have hi:i≤l.length:=Nat.le_of_lt (List.getElem?_eq_some_iff.1 ha).1
 have hj:j≤l.length:=Nat.le_of_lt (List.getElem?_eq_some_iff.1 hb).1
 unfold exC at hex
 rcases Bool.or_eq_true ..▸hex with hex | hex
 ·exact jO he hp i j a b ha hb hex
 ·split at hex
  ·rename_i pr hpr
   unfold jX at hpr
   rw [ha,hb] at hpr
   simp only [Option.map_some] at hpr
   split at hpr
   ·rename_i a' sz ag y e1 e2
    simp only [Option.some.injEq] at e1 e2
    split at hpr
    ·rename_i hal
     obtain ⟨q,hq,rfl⟩:=aC hpr
     refine ⟨fun _ _=>away hj e2 hq hex,fun _ h=>?_,fun h1 _=>?_⟩
     ·rw [e2] at h;cases h
     ·rw [e1] at h1
      have:=(h9 h1).2.2.2
      rw [hal] at this;cases this
    ·cases hpr
   ·rename_i sz ag y b' hnl e1 e2
    simp only [Option.some.injEq] at e1 e2
    split at hpr
    ·rename_i hal
     obtain ⟨q,hq,rfl⟩:=aC hpr
     refine ⟨fun h _=>?_,fun _ _=>away hi e1 hq hex,fun h=>?_⟩
     ·rw [e1] at h;cases h
     ·rw [e1] at h;cases h
    ·cases hpr
   ·rename_i a' b' hn1 hn2 e1 e2
    simp only [Option.some.injEq] at e1 e2
    split at hpr
    ·rename_i hal
     simp only [Bool.and_eq_true] at hal
     split at hpr
     ·rename_i d hd
      obtain ⟨q,hq,rfl⟩:=aC hpr
      have hmk:a.op.makes=true:=by rw [e1];exact hal.1
      obtain ⟨m1,m2,m3,m4⟩:=h9 hmk
      refine ⟨fun h _=>?_,fun h _=>?_,fun _ _ hw=>⟨by rw [e2];exact hal.2,?_⟩⟩
      ·rw [m3] at h;cases h
      ·rw [m2] at h;cases h
      ·have hd':a.dst=some d:=by simpa using hd
       have hlt:=(List.getElem?_eq_some_iff.1 ha).1
       have hr:=root (by omega) hq
       have h1:=List.all_eq_true.1 hc (j,q) (by simpa using hex)
       simp only [iN] at h1
       rw [← hr] at h1
       have hv:ev (Sx F l S (i+1)).T (.t d) = .ref (Sx F l S i).n 0∨ev (Sx F l S (i+1)).T (.t d) = .mp (Sx F l S i).n:=by
        rcases dA (dt he ha) with ⟨hw',_⟩ | ⟨s,_,hs,hS1⟩
        ·rw [hw] at hw';cases hw'
        ·rw [hS1]
         show (bo s (Sx F l S i) a.dst).T d=_∨(bo s (Sx F l S i) a.dst).T d=_
         rw [qZ,hd',jc]
         cases hop:a.op<;>rw [hop] at hmk hs<;>(try (simp [IOp.makes] at hmk;done))<;>rw [aT rfl] at hs<;>obtain ⟨e,he',rfl⟩:=aC hs<;>simp only [au] at he'<;>(repeat' split at he')<;>simp only [Option.some.injEq,reduceCtorEq] at he'<;>subst he'<;>first | exact .inl rfl | exact .inr rfl
       rcases hv with hv | hv
       ·rw [hv] at h1
        exact gp h1
       ·rw [hv] at h1;cases h1
     ·cases hpr
    ·cases hpr
   ·cases hpr
  ·cases hex
end
end Go.Abs
/- The records of ranges over functions: how they are laid and turned; objects that go. No condition but what is said. -/
namespace Go.Abs
def cut (G:Gh) (n:Nat):Gh:={ G with β:=fun id=>if id<n then G.β id else none }
def fin (G:Gh) (H:Hp) (n:Nat):Gh:=
 { β:=fun id=>if id<n then G.β id else none,σ:=fun b i=>G.σ b i∨∃ id o,n≤id∧G.β id=some (b,some o)∧o≤i∧i<o+(H id).length,τ:=G.τ,ρ:=G.ρ }
section
variable {P:Program}{F:aE}{hint:Hint}{nt:Nat}{G G0:Gh}{w w0:World}{a:Act}{S S':St}{n:Nat}{H:Hp}{E:Nat→Option TypeId}{lv:Nat→Bool}
theorem pM {H:Hp}{id i:Nat}{x:AV}(hx:(aV n H id)[i]? = some x):(H id)[i]? = some x∧x.under n=true:=by
 unfold aV at hx
 split at hx
 ·rename_i hu
  rw [bO] at hu
  exact ⟨hx,hu x (List.mem_of_getElem? hx)⟩
 ·simp at hx
theorem pN (H:Hp) (n id:Nat):(aV n H id).length≤(H id).length:=by
 unfold aV
 split
 ·exact Nat.le_refl _
 ·simp
theorem rh (n:Nat) (H:Hp) (id:Nat):aV n H id=H id∨aV n H id=[]:=by
 unfold aV
 split
 ·exact .inl rfl
 ·exact .inr rfl
theorem pO {H:Hp}{id:Nat}{x:AV}(hx:x∈aV n H id):x.under n=true:=by
 unfold aV at hx
 split at hx
 ·rename_i hu
  rw [bO] at hu
  exact hu x hx
 ·cases hx
theorem tv (h:aG G S.H S.E S.lv w):aG (cut G n) (aV n S.H) S.E S.lv w:=by
 have hb':∀ {id:Nat}{x:Nat×Option Nat},(cut G n).β id=some x→id<n∧G.β id=some x:=by
  intro id x hx
  simp only [cut] at hx
  split at hx
  ·exact ⟨‹_›,hx⟩
  ·cases hx
 constructor
 ·intro id b o hb
  obtain ⟨hid,hb⟩:=hb' hb
  obtain ⟨cs,T,fz,h1,h2,h3,h4,h5⟩:=h.obj id b o hb
  have hle:=pN S.H n id
  refine ⟨cs,T,fz,h1,by omega,fun i x hx=>?_,fun i hi=>h4 i (by omega),h5⟩
  obtain ⟨hx,hu⟩:=pM hx
  obtain ⟨k1,k2,v,k3,k4⟩:=h3 i x hx
  exact ⟨trivial,k2,v,k3,k4.cut (n:=n) (β':=(cut G n).β) (fun j hj=>if_pos hj) hu⟩
 ·intro id b hb
  obtain ⟨hid,hb⟩:=hb' hb
  exact (h.mobj id b hb).keep rfl rfl (rh _ _ _) fun x v hx hr=>hr.cut (n:=n) (β':=(cut G n).β) (fun j hj=>if_pos hj) (pO hx)
 ·exact fun id b o hb=>h.nσ id b o (hb' hb).2
 ·exact fun id id' b o o' h1 h2=>h.inj id id' b o o' (hb' h1).2 (hb' h2).2
 ·intro br hbr
  obtain ⟨k1,b,e,cs,T,fz,k2,k3,k4,k5,k6⟩:=h.tip br hbr
  exact ⟨k1,b,e,cs,T,fz,k2,k3,k4,k5,fun id o hb=>k6 id o (hb' hb).2⟩
 ·exact h.tinj
 ·exact h.σlt
 ·exact h.τlt
 ·exact h.ρlt
theorem tz {lv lv':Nat→Bool}(h:Ext G0 lv w0 G lv' w) (hn:∀ id p,G0.β id=some p→id<n):Ext G0 lv w0 (cut G n) lv' w:=by
 have own':∀ b,fp (cut G n) lv' b→fp G lv' b:=by
  rintro b (⟨id,o,hb⟩ | hb)
  ·simp only [cut] at hb
   split at hb
   ·exact .inl ⟨id,o,hb⟩
   ·cases hb
  ·exact .inr hb
 exact ⟨fun id p hp=>by simp only [cut];rw [if_pos (hn id p hp)];exact h.β id p hp,h.σ,h.τ,h.σn,fun b hb ho=>h.own b hb (own' b ho),h.keep,h.kσ,h.shp,h.size,h.os,h.tape,h.output,h.ρ,h.ρn⟩
theorem zC:dV (cut G n) w (fin G H n) w:=⟨fun _ _ h=>h,fun _ _ h=>.inl h,fun _ _ h=>h,fun _ _ _=>rfl,fun _ _=>rfl,fun _ _ h=>h,fun _ _ h=>h⟩
theorem gV {x:AV}{v:Value}(h:Rep G w x v) (hu:x.under n=true):Rep (fin G H n) w x v:=
 (h.cut (n:=n) (β':=(cut G n).β) (fun j hj=>if_pos hj) hu).mono (G:={ G with β:=(cut G n).β }) zC
theorem tA (h:aG G H E lv w) (n:Nat) {E0:Nat→Option TypeId}(hE:∀ id,id<n→E id=E0 id):aG (fin G H n) (trim n H) E0 lv w:=by
 have hb':∀ {id:Nat}{x:Nat×Option Nat},(fin G H n).β id=some x→id<n∧G.β id=some x:=by
  intro id x hx
  simp only [fin] at hx
  split at hx
  ·exact ⟨‹_›,hx⟩
  ·cases hx
 constructor
 ·intro id b o hb
  obtain ⟨hid,hb⟩:=hb' hb
  obtain ⟨cs,T,fz,h1,h2,h3,h4,h5⟩:=h.obj id b o hb
  simp only [trim,if_pos hid]
  have hle:=pN H n id
  refine ⟨cs,T,fz,h1,by omega,fun i x hx=>?_,fun i hi=>h4 i (by omega),fun t ht=>h5 t (by rw [hE id hid];exact ht)⟩
  obtain ⟨hx,hu⟩:=pM hx
  obtain ⟨k1,k2,v,k3,k4⟩:=h3 i x hx
  exact ⟨trivial,k2,v,k3,gV k4 hu⟩
 ·intro id b hb
  obtain ⟨hid,hb⟩:=hb' hb
  simp only [trim,if_pos hid]
  exact (h.mobj id b hb).keep rfl rfl (rh _ _ _) fun x v hx hr=>gV hr (pO hx)
 ·intro id b o hb i hi
  obtain ⟨hid,hb⟩:=hb' hb
  rcases hi with hi | ⟨id',o',h1,h2,_⟩
  ·exact h.nσ id b o hb i hi
  ·have:=h.inj _ _ _ _ _ hb h2
   omega
 ·exact fun id id' b o o' h1 h2=>h.inj id id' b o o' (hb' h1).2 (hb' h2).2
 ·intro br hbr
  obtain ⟨k1,b,e,cs,T,fz,k2,k3,k4,k5,k6⟩:=h.tip br hbr
  refine ⟨k1,b,e,cs,T,fz,k2,k3,k4,fun i hi hs=>?_,fun id o hb=>k6 id o (hb' hb).2⟩
  rcases hs with hs | ⟨id',o',_,h2,_⟩
  ·exact k5 i hi hs
  ·exact k6 id' (some o') h2
 ·exact h.tinj
 ·rintro b i (hs | ⟨id',o',_,h2,_⟩)
  ·exact h.σlt b i hs
  ·exact h.βlt h2
 ·exact h.τlt
 ·exact h.ρlt
theorem tB {lv0:Nat→Bool}(h:Ext G0 lv0 w0 G lv w) (hn:∀ id p,G0.β id=some p→id<n):Ext G0 lv0 w0 (fin G H n) lv w:=by
 have own':∀ b,fp (fin G H n) lv b→fp G lv b:=by
  rintro b (⟨id,o,hb⟩ | hb)
  ·simp only [fin] at hb
   split at hb
   ·exact .inl ⟨id,o,hb⟩
   ·cases hb
  ·exact .inr hb
 refine ⟨fun id p hp=>?_,fun b i hs=>.inl (h.σ b i hs),h.τ,?_,fun b hb ho=>h.own b hb (own' b ho),h.keep,h.kσ,h.shp,h.size,h.os,h.tape,h.output,h.ρ,h.ρn⟩
 ·simp only [fin];rw [if_pos (hn id p hp)];exact h.β id p hp
 ·rintro b i (hs | ⟨id,o,_,h2,_⟩) hb ho
  ·exact h.σn b i hs hb ho
  ·exact absurd (h.own b hb (.inl ⟨id,o,h2⟩)) ho
theorem xj (o:Obj) (hW:aG G H E lv w):Ext G lv w G lv (w.alloc o)∧aG G H E lv (w.alloc o):=by
 have hext:Ext G lv w G lv (w.alloc o):=
  ⟨fun _ _ h=>h,fun _ _ h=>h,fun _ _ h=>h,fun _ _ h _ _=>h,fun _ _ h=>h,fun b hb _=>aJ w _ b hb,fun b i hb=>cC (aJ w _ b (hW.σlt _ _ hb)) i,fun b hb=>cI (aJ w _ b hb),by simp,rfl,rfl,rfl,fun _ _ h=>h,fun _ _ h=>h⟩
 refine ⟨hext,?_⟩
 constructor
 ·intro id b o' hb
  obtain ⟨cs,T,fz,h1,h2,h3,h4,h5⟩:=hW.obj id b o' hb
  have hk:=aJ w o b (hW.βlt hb)
  exact ⟨cs,T,fz,hk.trans h1,h2,fun i x hx'=>by
   obtain ⟨k1,k2,v,k3,k4⟩:=h3 i x hx'
   exact ⟨k1,k2,v,k3,k4.mono hext.mono⟩,fun i hi=>(aP hk _).trans (h4 i hi),h5⟩
 ·intro id b hb
  exact hW.mobj_of hext.mono hb (aJ w _ b (hW.βlt hb)) rfl
 ·exact hW.nσ
 ·exact hW.inj
 ·intro br hbr
  obtain ⟨k1,b,e,cs,T,fz,k2,k3,k4,k5,k6⟩:=hW.tip br hbr
  have hk:=aJ w o b (hW.τlt _ _ _ k2)
  exact ⟨k1,b,e,cs,T,fz,k2,hk.trans k3,fun i c=>(aP hk _).trans (k4 i c),k5,k6⟩
 ·exact hW.tinj
 ·exact fun b i h=>Nat.lt_of_lt_of_le (hW.σlt b i h) hext.size
 ·exact fun br b e h=>Nat.lt_of_lt_of_le (hW.τlt _ _ _ h) hext.size
 ·exact fun b r h=>Nat.lt_of_lt_of_le (hW.ρlt _ _ h) hext.size
def du (G:Gh) (nid b:Nat) (r:Loop):Gh:={ G with β:=bH G.β nid (b,none),ρ:=fun x=>if x=b then some r else G.ρ x }
theorem vf (hW:aG G H E lv w) {nid:Nat}(hn:G.β nid=none) {r:Loop}(hr:r.state = .ready∧r.pending=none) :
 Ext G lv w (du G nid w.heap.size r) lv (w.alloc (.loop r))∧aG (du G nid w.heap.size r) (upd H nid (bh 0)) (upd E nid none) lv (w.alloc (.loop r)):=by
 have hρ:G.ρ w.heap.size=none:=by
  cases hq:G.ρ w.heap.size with
  | none=>rfl
  | some r=>have:=hW.ρlt _ _ hq;omega
 have hext:Ext G lv w (du G nid w.heap.size r) lv (w.alloc (.loop r)):=by
  refine ⟨?_,fun _ _ h=>h,fun _ _ h=>h,fun _ _ h _ _=>h,?_,?_,?_,?_,by simp,rfl,rfl,rfl,?_,?_⟩
  ·intro id p hp
   have:id≠nid:=fun e=>by rw [e,hn] at hp;cases hp
   exact (cG _ this).trans hp
  ·rintro b hb (⟨id,o,h1⟩ | h1)
   ·simp only [du,bH] at h1
    split at h1
    ·simp only [Option.some.injEq,Prod.mk.injEq] at h1;omega
    ·exact .inl ⟨id,o,h1⟩
   ·exact .inr h1
  ·intro b hb _;exact aJ w _ b hb
  ·intro b i hb;exact cC (aJ w _ b (hW.σlt _ _ hb)) i
  ·intro b hb;exact cI (aJ w _ b hb)
  ·intro b r' h
   have:=hW.ρlt _ _ h
   simp only [du];rw [if_neg (by omega)];exact h
  ·intro b hb h
   simp only [du];rw [if_neg (by omega)];exact h
 refine ⟨hext,?_⟩
 constructor
 ·intro id b o hb
  simp only [du,bH] at hb
  split at hb
  ·simp at hb
  ·rename_i he
   obtain ⟨cs,T,fz,h1,h2,h3,h4,h5⟩:=hW.obj id b o hb
   have hlt:=hW.βlt hb
   have hk:=aJ w (.loop r) b hlt
   refine ⟨cs,T,fz,hk.trans h1,by simpa [upd,he] using h2,?_,?_,by simpa [upd,he] using h5⟩
   ·intro i x hx
    simp only [upd,he,if_false] at hx
    obtain ⟨k1,k2,v,k3,k4⟩:=h3 i x hx
    exact ⟨k1,k2,v,k3,k4.mono hext.mono⟩
   ·intro i hi
    simp only [upd,he,if_false] at hi
    exact (aP hk _).trans (h4 i hi)
 ·intro id b hb
  simp only [du,bH] at hb
  split at hb
  ·rename_i he;subst he
   simp only [Option.some.injEq,Prod.mk.injEq,and_true] at hb
   subst hb
   unfold dj
   simp only [du,if_true]
   refine ⟨r,cN w _,⟨rfl,rfl,rfl,rfl,rfl,rfl⟩,.inr ⟨0,by simp [upd],fun _=>hr,fun h=>by omega⟩⟩
  ·rename_i he
   exact hW.mobj_of hext.mono hb (aJ w _ b (hW.βlt hb)) (by simp [upd,he])
 ·intro id b o hb i hσ
  simp only [du,bH] at hb
  split at hb
  ·simp only [Option.some.injEq,Prod.mk.injEq] at hb
   have:=hW.σlt _ _ hσ;omega
  ·exact hW.nσ id b o hb i hσ
 ·intro id id' b o o' h1 h2
  simp only [du,bH] at h1 h2
  split at h1<;>split at h2
  ·omega
  ·simp only [Option.some.injEq,Prod.mk.injEq] at h1
   have:=hW.βlt h2;omega
  ·simp only [Option.some.injEq,Prod.mk.injEq] at h2
   have:=hW.βlt h1;omega
  ·exact hW.inj _ _ _ _ _ h1 h2
 ·intro br hbr
  obtain ⟨k1,b,e,cs,T,fz,k2,k3,k4,k5,k6⟩:=hW.tip br hbr
  have hlt:=hW.τlt _ _ _ k2
  have hk:=aJ w (.loop r) b hlt
  refine ⟨k1,b,e,cs,T,fz,k2,hk.trans k3,fun i c=>(aP hk _).trans (k4 i c),k5,fun id o hb=>?_⟩
  simp only [du,bH] at hb
  split at hb
  ·simp only [Option.some.injEq,Prod.mk.injEq] at hb;omega
  ·exact k6 id o hb
 ·exact hW.tinj
 ·exact fun b i h=>Nat.lt_of_lt_of_le (hW.σlt b i h) hext.size
 ·exact fun br b e h=>Nat.lt_of_lt_of_le (hW.τlt _ _ _ h) hext.size
 ·intro b r' h
  simp only [du] at h
  split at h
  ·rename_i e;subst e;simp
  ·exact Nat.lt_of_lt_of_le (hW.ρlt _ _ h) hext.size
theorem n8 (w:World) (b:Nat) {r:Loop}(h:w.heap[b]? = some (.loop r)):w.shape? b=none:=by
 simp [World.shape?,h]
theorem jk (hW:aG G H E lv w) {id b:Nat}{r0:Loop}(hβ:G.β id=some (b,none)) (hρ:G.ρ b=some r0):∃ r,w.heap[b]? = some (.loop r)∧qt r0 r∧LSt r (H id):=by
 have:=hW.mobj id b hβ
 unfold dj at this
 rwa [hρ] at this
theorem nq (hW:aG G H E lv w) {id b:Nat}{r0 r r':Loop}(hβ:G.β id=some (b,none)) (hρ:G.ρ b=some r0) (hb:w.heap[b]? = some (.loop r)) (hs:qt r0 r') {hs':List AV}(hl:LSt r' hs') :
 Ext G lv w G lv (cH w b (.loop r'))∧aG G (upd H id hs') E lv (cH w b (.loop r')):=by
 have hlt:b<w.heap.size:=hW.βlt hβ
 have hshp:∀ b',(cH w b (.loop r')).shape? b'=w.shape? b':=by
  intro b'
  by_cases h:b=b'
  ·subst h;rw [n8 _ _ (dk hlt _),n8 _ _ hb]
  ·exact cI (bT h _)
 have hext:Ext G lv w G lv (cH w b (.loop r')):=by
  refine ⟨fun _ _ h=>h,fun _ _ h=>h,fun _ _ h=>h,fun _ _ h _ _=>h,fun _ _ h=>h,?_,?_,fun b' _=>hshp b',by rw [cy];exact Nat.le_refl _,rfl,rfl,rfl,fun _ _ h=>h,fun _ _ h=>h⟩
  ·intro b' hb' ho
   exact bT (fun (e:b=b')=>ho (by subst e;exact .inl ⟨id,none,hβ⟩)) _
  ·intro b' i hσ
   have hne:b≠b':=fun e=>hW.nσ id b none hβ i (e▸hσ)
   exact cC (bT hne _) i
 refine ⟨hext,?_⟩
 constructor
 ·intro id' b' o' hb'
  have hid:id'≠id:=fun e=>by rw [e,hβ] at hb';simp at hb'
  have hne:b≠b':=fun e=>hid (hW.inj _ _ _ _ _ (e▸hb') hβ)
  obtain ⟨cs0,T0,fz0,h1,h2,h3,h4,h5⟩:=hW.obj _ _ _ hb'
  refine ⟨cs0,T0,fz0,(bT hne _).trans h1,by simpa [upd,hid] using h2,?_,?_,h5⟩
  ·intro i x hx
   simp only [upd,hid,if_false] at hx
   obtain ⟨k1,k2,v,k3,k4⟩:=h3 i x hx
   exact ⟨k1,k2,v,k3,k4.mono hext.mono⟩
  ·intro i hi
   simp only [upd,hid,if_false] at hi
   exact (aP (bT hne _) _).trans (h4 i hi)
 ·intro id' b' hb'
  by_cases hid:id'=id
  ·subst hid
   rw [hβ] at hb'
   simp only [Option.some.injEq,Prod.mk.injEq,and_true] at hb'
   subst hb'
   unfold dj
   rw [hρ]
   exact ⟨r',dk hlt _,hs,by simpa [upd] using hl⟩
  ·have hne:b≠b':=fun e=>hid (hW.inj _ _ _ _ _ (e▸hb') hβ)
   exact hW.mobj_of hext.mono hb' (bT hne _) (by simp [upd,hid])
 ·exact hW.nσ
 ·exact hW.inj
 ·intro br hbr
  obtain ⟨k1,bl,e,cs0,T0,fz0,k2,k3,k4,k5,k6⟩:=hW.tip br hbr
  have hne:b≠bl:=fun e=>k6 id none (e▸hβ)
  exact ⟨k1,bl,e,cs0,T0,fz0,k2,(bT hne _).trans k3,fun i c=>(aP (bT hne _) _).trans (k4 i c),k5,k6⟩
 ·exact hW.tinj
 ·intro b' i h;rw [cy];exact hW.σlt b' i h
 ·intro br b' e h;rw [cy];exact hW.τlt br b' e h
 ·intro b' r h;rw [cy];exact hW.ρlt b' r h
end
end Go.Abs
/- What is known behind code; rounds, seen from the evaluator. No condition but what is said. -/
namespace Go.Abs
def Ex.to:Ex→Exit
 | .norm=>.normal
 | .exit id=>.exit id
 | .ret=>.ret
section
variable {P:Program}{F:aE}{hint:Hint}{nt mk:Nat}{G G0:Gh}{w w0:World}{a:Act}{S S':St}{n:Nat}
theorem pP {x:AV}{v:Value}(h:Rep G w x v):Rep (cut G n) w (jx n x) v:=by
 unfold jx
 split
 ·rename_i hu
  exact h.cut (β':=(cut G n).β) (fun j hj=>if_pos hj) hu
 ·exact .junk v
theorem zD (h:cu G S nt mk a w):cu (cut G n) (pop n S) nt mk a w:=
 ⟨fun t=>pP (h.T t),tv h.W,fun id hid=>by
  have hid:n≤id:=hid
  simp only [cut];rw [if_neg (by omega)],h.τ,h.c,h.nt,h.d⟩
theorem cu.lt (h:cu G S nt mk a w) {id:Nat}{p:Nat×Option Nat}(hp:G.β id=some p):id<S.n:=by
 rcases Nat.lt_or_ge id S.n with h' | h'
 ·exact h'
 ·rw [h.β id h'] at hp;cases hp
structure dM (G:Gh) (S:St) (w:World) (nt mk:Nat) (S':St) (G':Gh) (a':Act) (w':World):Prop where
 rel:cu G' S' nt mk a' w'
 ext:Ext G S.lv w G' S'.lv w'
 stay:dL G S.n G'
 n:S.n≤S'.n
 c:S.c≤S'.c
theorem dM.refl (h:cu G S nt mk a w):dM G S w nt mk S G a w:=⟨h,Ext.refl _ _ _,dL.refl _ _,Nat.le_refl _,Nat.le_refl _⟩
theorem dM.trans {S1 S2:St}{G1 G2:Gh}{a1 a2:Act}{w1 w2:World}(h:dM G S w nt mk S1 G1 a1 w1) (k:dM G1 S1 w1 nt mk S2 G2 a2 w2):dM G S w nt mk S2 G2 a2 w2:=
 ⟨k.rel,h.ext.trans k.ext,h.stay.trans k.stay h.n,Nat.le_trans h.n k.n,Nat.le_trans h.c k.c⟩
theorem dM.pop {S1:St}{G1:Gh}{a1:Act}{w1:World}(hs:cu G S nt mk a w) (h:dM G S w nt mk S1 G1 a1 w1):dM G S w nt mk (pop S.n S1) (cut G1 S.n) a1 w1:=
 ⟨zD h.rel,tz h.ext fun id p hp=>hs.lt hp,fun id hid=>by simp only [cut];rw [if_pos hid];exact h.stay id hid,Nat.le_refl _,h.c⟩
theorem ri {s:Int}{e:Ex}(h:qE s=some e):(s=0∧e = .norm)∨(s=1∧e = .ret)∨(2≤s∧e = .exit (s-2).toNat):=by
 unfold qE at h
 split at h
 ·cases h;exact .inl ⟨‹_›,rfl⟩
 ·split at h
  ·cases h;exact .inr (.inl ⟨‹_›,rfl⟩)
  ·split at h
   ·cases h;exact .inr (.inr ⟨‹_›,rfl⟩)
   ·cases h
theorem iU {k:Nat}{x:X}{ps:List Nat}{ca cb:IC}{e:Ex}(h:ar F k (.rangeF x ps ca cb) S=some (e,S')):∃ g fs cs v0 hs1 s,ev S.T x = .fn g fs cs∧
 (F.ext S.n (cP (ar F k ca) (ar F k cb) S.T ps S.n)).call g (fs++(.yl S.n::cs)) ⟨upd S.H S.n (bh 0),S.n+1,S.lv,S.c⟩ (upd S.E S.n none)=some (v0,hs1)∧
 hs1.H S.n=bh s∧qE s=some e∧S'=pop S.n { S with H:=hs1.H,lv:=hs1.lv,c:=hs1.c }:=by
 simp only [ar] at h
 split at h
 ·rename_i g fs cs hx
  split at h
  ·rename_i v0 hs1 hc
   split at h
   ·rename_i s hs
    split at h
    ·rename_i e' he
     simp only [Option.some.injEq,Prod.mk.injEq] at h
     obtain ⟨rfl,rfl⟩:=h
     exact ⟨g,fs,cs,v0,hs1,s,hx,hc,hs,he,rfl⟩
    ·cases h
   ·cases h
  ·cases h
 ·cases h
theorem kF {ea eb:St→Option (Ex×St)}{T:Nat→AV}{ps:List Nat}{i:Nat}{vs:List AV}{hs hs':Hs}{E:Nat→Option TypeId}{r:AV}(h:cP ea eb T ps i vs hs E=some (r,hs')) :
 hs.H i=bh 0∧vs.length=ps.length∧i<hs.n∧∃ S1 e S2,ea ⟨nK T ps vs,hs.H,E,hs.n,hs.lv,hs.c⟩=some (.norm,S1)∧S1.H i=bh 0∧
  eb { S1 with H:=upd S1.H i (bh (-1)) }=some (e,S2)∧r = .bool (going e)∧hs'=⟨upd (trim hs.n S2.H) i (bh (eS e)),hs.n,S2.lv,S2.c⟩:=by
 unfold cP at h
 split at h
 ·rename_i h0
  split at h
  ·rename_i hp
   split at h
   ·rename_i S1 h1
    split at h
    ·rename_i h2
     split at h
     ·rename_i e S2 h3
      simp only [Option.some.injEq,Prod.mk.injEq] at h
      exact ⟨h0,hp.1,hp.2,S1,e,S2,h1,h2,h3,h.1.symm,h.2.symm⟩
     ·cases h
    ·cases h
   ·cases h
  ·cases h
 ·cases h
theorem nu {ea eb:St→Option (Ex×St)}{T:Nat→AV}{ps:List Nat}{i:Nat}{vs:List AV}{hs hs':Hs}{E:Nat→Option TypeId}{r:AV}(ha:∀ S e S',ea S=some (e,S')→S.c≤S'.c) (hb:∀ S e S',eb S=some (e,S')→S.c≤S'.c)
 (h:cP ea eb T ps i vs hs E=some (r,hs')):hs'.n=hs.n∧hs.c≤hs'.c:=by
 obtain ⟨_,_,_,S1,e,S2,h1,_,h3,_,rfl⟩:=kF h
 have k1:=ha _ _ _ h1
 have k2:=hb _ _ _ h3
 exact ⟨rfl,Nat.le_trans k1 k2⟩
theorem AI (hM:dX F.env) {i:Nat}{y:fW}(hy:∀ {vs:List AV}{hs:Hs}{E:Nat→Option TypeId}{r:AV}{hs':Hs},y vs hs E=some (r,hs')→hs'.n=hs.n∧hs.c≤hs'.c):dX (F.ext i y).env:=by
 intro id y' h vs hs E r hs' k
 simp only [aE.ext,upd] at h
 split at h
 ·cases h;exact hy k
 ·exact hM id y' h vs hs E r hs' k
theorem Fs {io:aa}(h:bA F io S=some S') {id:Nat}(hid:id<S.n):S'.E id=S.E id:=by
 rcases dA h with ⟨_,rfl⟩ | ⟨s,_,hs,rfl⟩
 ·rfl
 ·cases s with
  | eff e=>
   simp only [bo,Eff.st]
   cases e.new with
   | none=>rfl
   | some cs=>exact if_neg (by omega)
  | shared v hs'=>rfl
theorem vg (hS:Sound P F):∀ (l:List aa) (S S':St),aS F l S=some S'→S.n≤S'.n∧∀ id,id<S.n→S'.E id=S.E id:=by
 intro l
 induction l with
 | nil=>intro S S' h;simp only [aS,Option.some.injEq] at h;subst h;exact ⟨Nat.le_refl _,fun _ _=>rfl⟩
 | cons io l ih=>
  intro S S' h
  rw [dG] at h
  obtain ⟨S1,h1,h2⟩:=Option.bind_eq_some_iff.1 h
  obtain ⟨k1,k2⟩:=ih S1 S' h2
  have hn:=wZ hS h1
  exact ⟨Nat.le_trans hn k1,fun id hid=>(k2 id (by omega)).trans (Fs h1 hid)⟩
theorem rj (hS:Sound P F) {k:Nat}(ic:IC):∀ (S S':St) (e:Ex),ar F k ic S=some (e,S')→S.n≤S'.n∧∀ id,id<S.n→S'.E id=S.E id:=by
 have one:∀ {S S':St}{e e':Ex},some (e',S)=some (e,S')→S.n≤S'.n∧∀ id,id<S.n→S'.E id=S.E id:=by
  intro S S' e e' h
  simp only [Option.some.injEq,Prod.mk.injEq] at h
  rw [h.2];exact ⟨Nat.le_refl _,fun _ _=>rfl⟩
 induction ic with
 | skip=>intro S S' e h;simp only [ar] at h;exact one h
 | ops d l=>
  intro S S' e h
  simp only [ar] at h
  split at h
  ·rename_i S1 h1
   simp only [Option.some.injEq,Prod.mk.injEq] at h
   rw [← h.2];exact vg hS l _ _ h1
  ·simp at h
 | opsX l ps=>
  intro S S' e h
  simp only [ar] at h
  split at h
  ·rename_i S1 h1
   split at h
   ·simp only [Option.some.injEq,Prod.mk.injEq] at h
    rw [← h.2];exact vg hS l _ _ h1
   ·simp at h
  ·simp at h
 | opsC l ps cs=>
  intro S S' e h
  simp only [ar] at h
  split at h
  ·rename_i S1 h1
   split at h
   ·simp only [Option.some.injEq,Prod.mk.injEq] at h
    rw [← h.2];exact vg hS l _ _ h1
   ·simp at h
  ·simp at h
 | seq x y ihx ihy=>
  intro S S' e h
  simp only [ar] at h
  split at h
  ·rename_i S1 h1
   obtain ⟨k1,k2⟩:=ihx _ _ _ h1
   obtain ⟨k3,k4⟩:=ihy _ _ _ h
   exact ⟨Nat.le_trans k1 k3,fun id hid=>(k4 id (by omega)).trans (k2 id hid)⟩
  ·exact ihx _ _ _ h
 | cond x c1 c2 ih1 ih2=>
  intro S S' e h
  simp only [ar] at h
  split at h
  ·exact ih1 _ _ _ h
  ·exact ih2 _ _ _ h
  ·simp at h
 | block id c ih=>
  intro S S' e h
  simp only [ar] at h
  split at h
  ·rename_i j S1 hj
   have:=ih _ _ _ hj
   split at h<;>(simp only [Option.some.injEq,Prod.mk.injEq] at h;rw [← h.2];exact this)
  ·exact ih _ _ _ h
 | loop c ih=>
  intro S S' e h
  simp only [ar] at h
  have key:∀ (m:Nat) (S:St),cg (ar F k c) S.n m S=some (e,S')→S.n≤S'.n∧∀ id,id<S.n→S'.E id=S.E id:=by
   intro m
   induction m with
   | zero=>intro S h;simp [cg] at h
   | succ m ihm=>
    intro S h
    simp only [cg] at h
    split at h
    ·rename_i S1 h1
     obtain ⟨k1,k2⟩:=ih _ _ _ h1
     obtain ⟨k3,k4⟩:=ihm (pop S.n S1) h
     exact ⟨k3,fun id hid=>(k4 id hid).trans (k2 id hid)⟩
    ·exact ih _ _ _ h
  exact key k S h
 | exit id=>intro S S' e h;simp only [ar] at h;exact one h
 | ret=>intro S S' e h;simp only [ar] at h;exact one h
 | bad=>intro S S' e h;simp [ar] at h
 | rangeF x ps ca cb iha ihb=>
  intro S S' e h
  obtain ⟨g,fs,cs,v0,hs1,s,_,_,_,_,h5⟩:=iU h
  subst h5
  exact ⟨Nat.le_refl _,fun _ _=>rfl⟩
theorem vh (hS:Sound P F):∀ (l:List aa) (S S':St),aS F l S=some S'→S.c≤S'.c:=by
 intro l
 induction l with
 | nil=>intro S S' h;simp only [aS,Option.some.injEq] at h;subst h;exact Nat.le_refl _
 | cons io l ih=>
  intro S S' h
  rw [dG] at h
  obtain ⟨S1,h1,h2⟩:=Option.bind_eq_some_iff.1 h
  refine Nat.le_trans ?_ (ih S1 S' h2)
  rcases dA h1 with ⟨_,rfl⟩ | ⟨s,_,hs,rfl⟩
  ·exact Nat.le_refl _
  ·cases s with
   | eff e=>exact Nat.le_add_right _ _
   | shared v hs'=>exact (mT hS hs).2
theorem lM (hSE:∀ env,dX env→Sound P ⟨F.ff,env⟩) (hM:dX F.env) {k:Nat}(ic:IC):∀ (S S':St) (e:Ex),ar F k ic S=some (e,S')→S.c≤S'.c:=by
 have one:∀ {S S':St}{e e':Ex},some (e',S)=some (e,S')→S.c≤S'.c:=by
  intro S S' e e' h
  simp only [Option.some.injEq,Prod.mk.injEq] at h
  rw [h.2];exact Nat.le_refl _
 induction ic with
 | skip=>intro S S' e h;simp only [ar] at h;exact one h
 | ops d l=>
  intro S S' e h
  simp only [ar] at h
  split at h
  ·rename_i S1 h1
   simp only [Option.some.injEq,Prod.mk.injEq] at h
   rw [← h.2];exact vh (hSE _ hM) l _ _ h1
  ·simp at h
 | opsX l ps=>
  intro S S' e h
  simp only [ar] at h
  split at h
  ·rename_i S1 h1
   split at h
   ·simp only [Option.some.injEq,Prod.mk.injEq] at h
    rw [← h.2];exact vh (hSE _ hM) l _ _ h1
   ·simp at h
  ·simp at h
 | opsC l ps cs=>
  intro S S' e h
  simp only [ar] at h
  split at h
  ·rename_i S1 h1
   split at h
   ·simp only [Option.some.injEq,Prod.mk.injEq] at h
    rw [← h.2];exact vh (hSE _ hM) l _ _ h1
   ·simp at h
  ·simp at h
 | seq x y ihx ihy=>
  intro S S' e h
  simp only [ar] at h
  split at h
  ·rename_i S1 h1
   exact Nat.le_trans (ihx _ _ _ h1) (ihy _ _ _ h)
  ·exact ihx _ _ _ h
 | cond x c1 c2 ih1 ih2=>
  intro S S' e h
  simp only [ar] at h
  split at h
  ·exact ih1 _ _ _ h
  ·exact ih2 _ _ _ h
  ·simp at h
 | block id c ih=>
  intro S S' e h
  simp only [ar] at h
  split at h
  ·rename_i j S1 hj
   have:=ih _ _ _ hj
   split at h<;>(simp only [Option.some.injEq,Prod.mk.injEq] at h;rw [← h.2];exact this)
  ·exact ih _ _ _ h
 | loop c ih=>
  intro S S' e h
  simp only [ar] at h
  have key:∀ (m:Nat) (n:Nat) (S:St),cg (ar F k c) n m S=some (e,S')→S.c≤S'.c:=by
   intro m
   induction m with
   | zero=>intro n S h;simp [cg] at h
   | succ m ihm=>
    intro n S h
    simp only [cg] at h
    split at h
    ·rename_i S1 h1
     exact Nat.le_trans (ih _ _ _ h1) (ihm n (pop n S1) h)
    ·exact ih _ _ _ h
  exact key k S.n S h
 | exit id=>intro S S' e h;simp only [ar] at h;exact one h
 | ret=>intro S S' e h;simp only [ar] at h;exact one h
 | bad=>intro S S' e h;simp [ar] at h
 | rangeF x ps ca cb iha ihb=>
  intro S S' e h
  obtain ⟨g,fs,cs,v0,hs1,s,_,hc,_,_,h5⟩:=iU h
  subst h5
  exact (((hSE _ (AI hM (fun h=>(nu (fun S e S'=>iha S S' e) (fun S e S'=>ihb S S' e) h)))).call g) _ _ _ _ _ hc).2.2.1
theorem ll {Fe:Fence}{Q:Exit→Act→World→Prop}{c:Code}(h:c.wpIn Fe n P (Exit.noGoto Q) a w):(Code.scope c).wpIn Fe n P Q a w:=by
 intro b k cs hro hb hr
 have s1:step P (Go.lone (b.atR a (.code (.scope c)::k)) cs w) = .next (Go.lone (b.atR a (.code c :: .inScope c::k)) cs w):=step_lone_go (by simp [stepG,stepG.exec,Frame.atR])
 have h0:(Go.lone (b.atR a (.code (.scope c)::k)) cs w).fenced P Fe:=fenced_calm hb hr rfl
 obtain ⟨e,a₁,w₁,hq,harr⟩:=h b (.inScope c::k) cs hro hb hr
 cases e with
 | normal=>
  have s2:step P (Go.lone (b.atR a₁ (.inScope c::k)) cs w₁) = .next (Go.lone (b.atR a₁ k) cs w₁):=step_lone_go (by simp [stepG,stepG.exec,Frame.atR])
  exact ⟨.normal,a₁,w₁,hq,.head h0 s1 (StepsIn.trans harr (.one (fenced_calm hb hr rfl) s2))⟩
 | exit id'=>
  have hx:exitTo id' (.inScope c::k)=exitTo id' k:=by simp [exitTo]
  exact ⟨.exit id',a₁,w₁,hq,fun k' hk=>.head h0 s1 (harr.1 k' (by rw [hx];exact hk)),
   fun hr' hk=>let ⟨k₁,h1,h2⟩:=harr.2 hr' (by rw [hx];exact hk);⟨k₁,h1,.head h0 s1 h2⟩⟩
 | goto l=>exact hq.elim
 | ret=>exact ⟨_,a₁,w₁,hq,.of_steps (.one h0 s1) harr⟩
 | panic ch=>exact ⟨_,a₁,w₁,hq,.of_steps (.one h0 s1) harr⟩
 | outgrown=>exact ⟨_,a₁,w₁,hq,.of_steps (.one h0 s1) harr⟩
theorem xk:∀ (ps:List Nat) (vs:List AV) (args:List Value) (T:Nat→AV) (tmps:Array Value),vs.length=args.length→(∀ t∈ps,t<tmps.size)→
 (∀ (i:Nat) (x:AV) (v:Value),vs[i]? = some x→args[i]? = some v→Rep G w x v)→(∀ t,Rep G w (T t) (tmps.getD t undef))→
 (∀ t,Rep G w (nK T ps vs t) (((ps.zip args).foldl (fun tmps (p:Nat×Value)=>tmps.setIfInBounds p.1 p.2) tmps).getD t undef))∧((ps.zip args).foldl (fun tmps (p:Nat×Value)=>tmps.setIfInBounds p.1 p.2) tmps).size=tmps.size:=by
 intro ps
 induction ps with
 | nil=>intro vs args T tmps _ _ _ hT;exact ⟨hT,rfl⟩
 | cons p ps ih=>
  intro vs args T tmps hl hp hr hT
  cases vs with
  | nil=>
   cases args with
   | nil=>exact ⟨hT,rfl⟩
   | cons _ _=>simp at hl
  | cons x vs=>
   cases args with
   | nil=>simp at hl
   | cons v args=>
    have hT':∀ t,Rep G w (upd T p x t) ((tmps.setIfInBounds p v).getD t undef):=by
     intro t
     have hpl:=hp p List.mem_cons_self
     by_cases htp:t=p
     ·subst htp
      have hx:=hr 0 x v rfl rfl
      simpa [upd,Array.getD_eq_getD_getElem?,hpl] using hx
     ·have:=hT t
      simpa [upd,htp,Array.getD_eq_getD_getElem?,Array.getElem?_setIfInBounds_ne (Ne.symm htp)] using this
    have:=ih vs args (upd T p x) (tmps.setIfInBounds p v) (by simpa using hl) (fun t ht=>by simpa using hp t (List.mem_cons_of_mem _ ht)) (fun i y u hy hu=>hr (i+1) y u (by simpa using hy) (by simpa using hu)) hT'
    refine ⟨this.1,this.2.trans (by simp)⟩
end
end Go.Abs
/- One round of a range over a function; how the statement is entered. No condition but what is said. -/
namespace Go.Abs
section
variable {P:Program}{F:aE}{hint:Hint}{nt mk:Nat}{G G0:Gh}{w w0:World}{a:Act}{S S':St}{n:Nat}
def jl (P:Program) (F:aE) (nt k:Nat) (c:Code) (ic:IC):Prop:=∀ (mk:Nat) (q:Option Nat) (d:Nat) (S S':St) (e:Ex) (G:Gh) (a:Act) (w:World) (Q:Exit→Act→World→Prop),
 cl P F.env G w→(∀ l,q=some l→∃ id r0,G.β id=some (l,none)∧G.ρ l=some r0)→cu G S nt mk a w→ar F k ic S=some (e,S')→
  (∀ a' w' G',dM G S w nt mk S' G' a' w'→Q e.to a' w')→c.wpIn (Fr q) d P Q a w
theorem dM.put {id b:Nat}{r0 r r':Loop}(h:cu G S nt mk a w) (hβ:G.β id=some (b,none)) (hρ:G.ρ b=some r0) (hb:w.heap[b]? = some (.loop r)) (hs:qt r0 r') {l:List AV}(hl:LSt r' l) :
 dM G S w nt mk { S with H:=upd S.H id l } G a (cH w b (.loop r')):=by
 obtain ⟨x,k⟩:=nq h.W hβ hρ hb hs hl
 exact ⟨⟨fun t=>(h.T t).mono x.mono,k,h.β,h.τ,h.c,h.nt,h.d.ext h.W x⟩,x,dL.refl _ _,Nat.le_refl _,Nat.le_refl _⟩
theorem sV (hSE:∀ env,dX env→Sound P ⟨F.ff,env⟩) (hM:dX F.env) {k:Nat}{assign body:Code}{ia ib:IC}(iha:jl P F nt k assign ia) (ihb:jl P F nt k body ib) {T:Nat→AV}{ps:Array Tmp}{id b:Nat}{r0:Loop}{G1:Gh}{w1:World}
 (hT:∀ t,Rep G1 w1 (T t) (r0.tmps.getD t undef)) (hnt:nt≤r0.tmps.size) (hps:∀ t∈ps.toList,t<nt) (hβ:G1.β id=some (b,none)) (hρ:G1.ρ b=some r0) (h2:r0.params=ps) (h3:r0.assign=assign) (h4:r0.body=body) (hE:cl P F.env G1 w1)
 (G:Gh) (w:World) (hsz:w1.heap.size≤w.heap.size) (hm:dV G1 w1 G w):wS P (cP (ar F k ia) (ar F k ib) T ps.toList id) b G w:=by
 intro vs hs E r hs' h
 have hcs:hs'.n=hs.n∧hs.c≤hs'.c:=nu (fun S e S'=>lM hSE hM ia S S' e) (fun S e S'=>lM hSE hM ib S S' e) h
 refine ⟨hcs.1,hcs.2,fun args hl hr hW hβn hτ hc4=>?_⟩
 obtain ⟨hH0,hlen,hidn,S1,e,S2,e1,hH1,e2,rfl,rfl⟩:=kF h
 have hβG:G.β id=some (b,none):=hm.β _ _ hβ
 have hρG:G.ρ b=some r0:=hm.ρ _ _ hρ
 obtain ⟨rr,hb,hsl,hst⟩:=jk hW hβG hρG
 have hpar:rr.params=ps:=hsl.params.trans h2
 have hsz1:args.size=rr.params.size:=by rw [hpar,← hl,hlen];simp
 have hy:=run_yield (P:=P) (w:=w) hb hsz1
 rw [hpar,hsl.tmps,hsl.assign,hsl.body,h3,h4] at hy
 refine ⟨rr.fn,_,assign,body,hy,?_⟩
 have hfold:∀ (tm:Array Value),(ps.zip args).foldl (fun tmps (x:Tmp×Value)=>match x with | (t,a)=>tmps.setIfInBounds t a) tm=(ps.toList.zip args.toList).foldl (fun tmps (p:Nat×Value)=>tmps.setIfInBounds p.1 p.2) tm:=by
  intro tm
  rw [← Array.foldl_toList,Array.toList_zip]
 have hset:=xk (G:=G) (w:=w) ps.toList vs args.toList T r0.tmps (by simpa using hl) (fun t ht=>Nat.lt_of_lt_of_le (hps t ht) hnt) (fun i x v hx hv=>hr i x v hx (by simpa using hv)) (fun t=>(hT t).mono hm)
 refine roundIn_of_wpIn (F:=Fence.wide) trivial ?_
 rw [hfold]
 have hEG:cl P F.env G w:=hE.mono hsz hm
 have hs0:cu G ⟨nK T ps.toList vs,hs.H,E,hs.n,hs.lv,hs.c⟩ nt w.heap.size { tmps:=(ps.toList.zip args.toList).foldl (fun tmps (p:Nat×Value)=>tmps.setIfInBounds p.1 p.2) r0.tmps,defers:=[] } w:=
  ⟨hset.1,hW,hβn,hτ,hc4,by show nt≤Array.size _;rw [hset.2];exact hnt,Nat.le_refl _,trivial⟩
 have hq:∀ (G':Gh) (w':World) (lv':Nat→Bool),Ext G hs.lv w G' lv' w'→∀ l,some b=some l→∃ id r0,G'.β id=some (l,none)∧G'.ρ l=some r0:=by
  intro G' w' lv' x l hl
  cases hl
  exact ⟨id,r0,x.β _ _ hβG,x.ρ _ _ hρG⟩
 refine iha w.heap.size (some b) 0 _ S1 .norm G _ w _ hEG (hq G w hs.lv (.refl _ _ _)) hs0 e1 fun a' w' G' hb1=>?_
 obtain ⟨rr1,hbb1,hsl1,hst1⟩:=jk hb1.rel.W (hb1.ext.β _ _ hβG) (hb1.ext.ρ _ _ hρG)
 have hready:rr1.state = .ready:=by
  rw [hH1] at hst1
  rcases hst1 with hx | ⟨s,hx,hx0,_⟩
  ·cases hx
  ·simp only [bh,List.cons.injEq,AV.int.injEq,true_and,and_true] at hx
   exact (hx0 hx.symm).1
 refine ⟨_,run_beginRound hbb1 hready,?_⟩
 have hput:=dM.put (l:=bh (-1)) (r':={ rr1 with state:=.busy }) hb1.rel (hb1.ext.β _ _ hβG) (hb1.ext.ρ _ _ hρG) hbb1 ⟨hsl1.fn,hsl1.tmps,hsl1.params,hsl1.assign,hsl1.body,hsl1.defers⟩ (.inr ⟨-1,rfl,fun h=>by omega,fun h=>by omega⟩)
 have hb2:=hb1.trans hput
 refine ihb w.heap.size (some b) 0 _ S2 e G' a' _ _ (hEG.ext hb2.ext) (hq _ _ _ hb2.ext) hput.rel e2 fun a2 w3 G2 hb3=>?_
 have hb4:=hb2.trans hb3
 obtain ⟨rr2,hbb2,hsl2,_⟩:=jk hb4.rel.W (hb4.ext.β _ _ hβG) (hb4.ext.ρ _ _ hρG)
 have hfr:aG (fin G2 S2.H hs.n) (trim hs.n S2.H) E S2.lv w3:=tA hb4.rel.W hs.n fun id hid=>by
  have k1:=rj (hSE _ hM) ia _ _ _ e1
  have k2:=rj (hSE _ hM) ib _ _ _ e2
  have hn1:hs.n≤S1.n:=k1.1
  exact (k2.2 id (show id<S1.n by omega)).trans (k1.2 id hid)
 have hfx:Ext G hs.lv w (fin G2 S2.H hs.n) S2.lv w3:=tB hb4.ext fun id p hp=>by
  rcases Nat.lt_or_ge id hs.n with h' | h'
  ·exact h'
  ·rw [hβn id h'] at hp;cases hp
 have hlast:∀ (j:Option Code) (st:LoopState),(Instr.endRound b j).run P w3 = .ok (.bool j.isNone) (w3.putObj b (.loop { rr2 with state:=st,pending:=j }))→(eS e=0→st = .ready∧j=none)→(0<eS e→st = .done∧j=iq (eS e))→j.isNone=going e→
  ∃ v w',(Instr.endRound b j).run P w3 = .ok v w'∧(∃ v' G',Ending.returned v = .returned v'∧Ext G hs.lv w G' S2.lv w'∧aG G' (upd (trim hs.n S2.H) id (bh (eS e))) E S2.lv w'∧Rep G' w' (.bool (going e)) v'∧(∀ id,G'.β id=G.β id)∧(∀ b,S2.c≤b→G'.τ b=none)):=by
  intro j st hrun k1 k2 k3
  obtain ⟨x,y⟩:=nq (hs':=bh (eS e)) (r':={ rr2 with state:=st,pending:=j }) hfr (hfx.β _ _ hβG) (hfx.ρ _ _ hρG) hbb2 ⟨hsl2.fn,hsl2.tmps,hsl2.params,hsl2.assign,hsl2.body,hsl2.defers⟩ (.inr ⟨eS e,rfl,k1,k2⟩)
  refine ⟨_,_,hrun,_,_,rfl,hfx.trans x,y,by rw [k3];exact .bool _,fun id=>?_,fun b hb=>hb4.rel.τ b hb⟩
  simp only [fin]
  split
  ·rename_i hid;exact hb4.stay id hid
  ·rename_i hid;exact (hβn id (by omega)).symm
 cases e with
 | norm=>exact hlast none .ready (run_endRound none hbb2) (fun _=>⟨rfl,rfl⟩) (fun h=>by simp [eS] at h) rfl
 | ret=>exact hlast (some .ret) .done (run_endRound (some .ret) hbb2) (fun h=>by simp [eS] at h) (fun _=>⟨rfl,by simp [eS,iq]⟩) rfl
 | exit i=>exact hlast (some (.exit i)) .done (run_endRound (some (.exit i)) hbb2) (fun h=>by simp only [eS] at h;omega) (fun _=>⟨rfl,by
  have k1:¬ (2+(i:Int)=1):=by omega
  have k2:(2:Int)≤2+(i:Int):=by omega
  have k3:(2+(i:Int)-2).toNat=i:=by omega
  simp only [eS,iq,k1,k2,k3,if_true,if_false]⟩) rfl
theorem nh (h:cu G S nt mk a w) {q:Option Nat}(hq:∀ l,q=some l→∃ id r0,G.β id=some (l,none)∧G.ρ l=some r0) (fn:FuncId) (ps:Array Tmp) (assign body:Code) :
 ∃ mark wd df,(Instr.enterLoop fn a.tmps ps assign body q).run P w = .ok (wd.heap.size,mark) (wd.alloc (.loop { state:=.ready,pending:=none,fn,tmps:=a.tmps,params:=ps,assign,body,defers:=df }))∧
  Ext G S.lv w G S.lv wd∧aG G S.H S.E S.lv wd∧DOK mk wd (mark++a.defers):=by
 cases q with
 | none=>
  obtain ⟨x,y⟩:=xj (.deferred (some [])) h.W
  refine ⟨[{ target:=.collected w.heap.size,args:=#[] }],w.alloc (.deferred (some [])),w.heap.size,?_,x,y,?_⟩
  ·rw [run_enterLoop_outer];simp
  ·have hx:=h.d.ext h.W x
   refine ⟨hx.1,⟨w.heap.size,rfl,h.d.1,World.alloc_heap_new w _,?_⟩,hx.2⟩
   have key:∀ ds:List Deferred,jK mk w ds→∀ d'∈ds,d'.target≠.collected w.heap.size:=by
    intro ds
    induction ds with
    | nil=>intro _ d' hd;cases hd
    | cons d ds ih=>
     rintro ⟨⟨r,h1,_,h2,_⟩,h3⟩ d' hd
     rcases List.mem_cons.1 hd with rfl | hd
     ·intro h4
      rw [h1] at h4
      simp only [Target.collected.injEq] at h4
      rw [h4] at h2
      simp at h2
     ·exact ih h3 d' hd
   exact key _ h.d.2
 | some l=>
  obtain ⟨id,r0,hβ,hρ⟩:=hq l rfl
  obtain ⟨r,hb,_,_⟩:=jk h.W hβ hρ
  refine ⟨[],w,r.defers,?_,.refl _ _ _,h.W,h.d⟩
  unfold Instr.enterLoop
  simp only [Sem.run_bind,run_getLoop hb,run_newObj_alloc,Result.andThen,Sem.run_pure]
end
end Go.Abs
