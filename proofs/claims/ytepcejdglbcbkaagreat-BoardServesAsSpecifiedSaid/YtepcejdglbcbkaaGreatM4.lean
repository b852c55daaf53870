/- Part of the texts on which proofs about this seat rest: each says what it proves at its own head. No condition. -/
import Derived.Test.YtepcejdglbcbkaaGreatM3
import Derived.Test.YtepcejdglbcbkaaGreatProg
import Derived.Lib.Builder
import Derived.Lib.UnsafeStr
import Derived.WalkKit
import Derived.Laws.Externs
import Derived.KernelRfl
import Derived.Shelf.Strings.Builder1
import Derived.Deep.LoopGhost
import Derived.Lib.OthersKept
import Derived.Laws.RangeString
import Derived.RegionTactic
import Derived.ChangeAlike
import Derived.BigRegion
set_option linter.unusedVariables false
set_option linter.unusedSimpArgs false
set_option maxHeartbeats 4000000
set_option maxRecDepth 100000
/- How the calls of this seat are met, and the table of its functions without those that are proved otherwise. No condition. -/
namespace Go.Proofs.YtepcejdglbcbkaaGreat
open Go.Abs
def hint:FuncId→Hint:=fun f=>{ shared:=fun g=>g==78||g==80||g==82||g==84||g==86||g==121||g==122||g==142||g==143||g==144||g==165||g==166||g==170||g==185||g==188||g==199||g==206||g==239||g==242||g==246||g==247||g==248||g==249||g==250||g==254||g==255||g==256,mode:=fun d=>match f,d with | 3,5=>4 | 3,6=>4 | 3,9=>4 | 4,5=>4 | 4,6=>4 | 4,7=>4 | 5,3=>4 | 5,4=>4 | 7,5=>4 | 7,6=>4 | 7,9=>4 | 8,3=>4 | 8,4=>4 | 8,5=>4 | 9,2=>4 | 9,3=>4 | 11,2=>4 | 11,3=>4 | 12,2=>4 | 12,3=>4 | 13,5=>4 | 13,6=>4 | 13,9=>4 | 14,6=>4 | 14,9=>4 | 15,1=>4 | 16,1=>4 | 17,2=>4 | 17,3=>4 | 18,2=>4 | 18,3=>4 | 19,2=>4 | 20,2=>4 | 25,2=>4 | 25,3=>4 | 26,3=>4 | 26,4=>4 | 26,5=>4 | 27,3=>4 | 27,4=>4 | 27,5=>4 | 31,1=>4 | 32,1=>4 | 33,4=>4 | 33,5=>4 | 33,6=>4 | 41,1=>4 | 42,1=>4 | 43,1=>4 | 46,1=>4 | 47,1=>4 | 48,1=>4 | 51,2=>4 | 52,3=>4 | 52,4=>4 | 53,5=>4 | 53,6=>4 | 53,9=>4 | 58,2=>4 | 59,2=>4 | 62,3=>4 | 66,1=>4 | 71,34=>2 | 72,1=>4 | 73,3=>4 | 74,2=>4 | 76,44=>2 | 93,1=>4 | 94,1=>4 | 95,1=>4 | 95,5=>1 | 96,78=>1 | 98,1=>4 | 99,1=>4 | 100,1=>4 | 100,5=>1 | 101,96=>1 | 110,3=>4 | 110,5=>4 | 111,4=>4 | 111,7=>4 | 112,2=>4 | 112,3=>4 | 117,2=>4 | 118,2=>4 | 136,19=>2 | 148,4=>1 | 149,5=>1 | 152,7=>1 | 153,5=>1 | 162,2=>4 | 163,4=>4 | 175,29=>2 | 181,29=>2 | 188,10=>1 | 196,12=>2 | 206,13=>3 | 224,3=>4 | 226,5=>4 | 234,4=>4 | 234,7=>4 | 238,2=>4 | 238,3=>4 | _,_=>0 }
noncomputable def FN0:FuncId→Option cr:=vx Tryz.prog hint fun _=>none
theorem TA:Table Tryz.prog FN0:=rI (fun f p h=>by cases h)
end Go.Proofs.YtepcejdglbcbkaaGreat
/- strings.Builder: what copyCheck and String do in memory. Conditions: the builder lies at its block's head; its bytes lie in a row. -/
namespace Go.Proofs.YtepcejdglbcbkaaGreat
open Go.RowKit
theorem l9 {cells:Nat}(hc:2≤cells):liesAt Tryz.prog Tryz.prog.depth 284 (cells/Tryz.prog.cellsOf 284) 0 284 1=true:=by
 have hd:Tryz.prog.depth=(2*(Tryz.prog.types.size+Made.depth)+1)+1:=rfl
 have hs:Tryz.prog.cellsOf 284=2:=by kernel_rfl
 rw [hd]
 simp only [liesAt,Bool.or_eq_true]
 left
 rw [hd]
 have:1≤cells/2:=by omega
 simp [rowAt,hs,sameLayout,this]
theorem yb (b:Nat) (w:World) (h0:w.cell? ⟨b,0,none⟩=some (.pointer (some ⟨b,0,none⟩))) :
 Calls Tryz.prog 197 #[.pointer (some ⟨b,0,none⟩)] w fun e w'=>e = .returned (.tuple #[])∧w'=w:=by
 obtain ⟨j,hj,_⟩:=Option.map_eq_some_iff.1 (show (Tryz.prog.info? 284).map (·.size)=some 2 by kernel_rfl)
 go_enter Tryz.func197,Tryz.ntmps197
 go_wp2
 rw [Lib.run_neq_ptr_same w _ Tryz.underlying282 hj]
 go_wp2
 go_end0
 exact ⟨rfl,rfl⟩
theorem vM (b cells:Nat) (w:World) (h0:w.cell? ⟨b,0,none⟩=some (.pointer none)) (hsh:w.shape? b=some (284,cells)) (hc:2≤cells) (hfz:w.frozen? ⟨b,0,none⟩=false) :
 Calls Tryz.prog 197 #[.pointer (some ⟨b,0,none⟩)] w fun e w'=>e = .returned (.tuple #[])∧w'=w.setCell ⟨b,0,none⟩ (.pointer (some ⟨b,0,none⟩)):=by
 obtain ⟨j,hj,hjs⟩:=Option.map_eq_some_iff.1 (show (Tryz.prog.info? 284).map (·.size)=some 2 by kernel_rfl)
 go_enter Tryz.func197,Tryz.ntmps197
 go_wp2
 rw [Lib.run_to_unsafe w ⟨b,0,none⟩ Tryz.underlying282 Tryz.underlying332 hj (by rw [hjs];decide) hsh (show 0<cells by omega)]
 simp only [Result.andThen]
 rw [Oper.upon_value]
 go_wp2
 rw [run_callFunc_extern Tryz.func207 (by kernel_rfl) (by kernel_rfl) (by kernel_rfl) (e:=Extern.AbiNoEscape.same) (by kernel_rfl)]
 rw [Lib.run_noEscape]
 simp only [Result.andThen]
 rw [Oper.upon_value]
 go_wp2
 rw [Lib.run_from_unsafe w ⟨b,0,none⟩ Tryz.underlying332 Tryz.underlying282 hj hsh (l9 hc)]
 simp only [Result.andThen]
 rw [Oper.upon_value]
 go_wp2
 go_end0
 exact ⟨rfl,rfl⟩
end Go.Proofs.YtepcejdglbcbkaaGreat
/- strings.Builder: what WriteString and String come to at a builder that the caller has made. Conditions: the builder lies in a block of its own; the lengths are such as Go's own limit lets by. -/
namespace Go.Proofs.YtepcejdglbcbkaaGreat
open Go.RowKit Go.Shelf
def zS:Go.Shelf.Ren where
 f:=fun x=>match x with
  | 169=>174
  | n=>n
 t:=fun x=>match x with
  | 70=>282
  | 9=>9
  | 0=>0
  | 72=>284
  | 37=>172
  | 127=>317
  | 3=>3
  | 5=>5
  | n=>n
 g:=fun x=>x
theorem TB:Lays.n169 Tryz.prog zS:=
 { mixed:=Eq.refl true,f169:=Eq.trans Tryz.func174 (congrArg some (Eq.refl (Body.n169 zS))),
   t0:=Tryz.underlying0,a0:=Tryz.isAgg0,z0:=Tryz.sizeOf0,v0:=Tryz.zeroValue0,t3:=Tryz.underlying3,
   a3:=Tryz.isAgg3,z3:=Tryz.sizeOf3,v3:=Tryz.zeroValue3,t9:=Tryz.underlying9,a9:=Tryz.isAgg9,z9:=Tryz.sizeOf9,
   v9:=Tryz.zeroValue9,t37:=Tryz.underlying172,a37:=Tryz.isAgg172,z37:=Tryz.sizeOf172,v37:=Tryz.zeroValue172,
   t70:=Tryz.underlying282,a70:=Tryz.isAgg282,z70:=Tryz.sizeOf282,v70:=Tryz.zeroValue282,t72:=Tryz.underlying284,
   a72:=Tryz.isAgg284,z72:=Tryz.sizeOf284,v72:=Tryz.zeroValue284,t127:=Tryz.underlying317,a127:=Tryz.isAgg317,
   z127:=Tryz.sizeOf317,v127:=Tryz.zeroValue317 }
theorem bInfo:(Tryz.prog.info? 5).map (fun i=>(i.zero,i.size,i.bytes))=some (some (.int .u8 0),1,1):=by kernel_rfl
theorem FF:Builder.Extra Tryz.prog zS:=
 { sizeBuilder:=by kernel_rfl,liesBuilder:=l9 (Nat.le_refl 2),t5:=Tryz.underlying5,a5:=Tryz.isAgg5,z5:=Tryz.sizeOf5,v5:=Tryz.zeroValue5,
   infoByte:=bInfo,cellsByte:=by kernel_rfl,sizeByte:=by kernel_rfl,neB5:=by decide }
theorem pf (B b:Nat) (l:List UInt8) (w:World) (h:Lib.IsBuilder 284 5 B b (Lib.byteCells l) w) (hBw:B≤w.heap.size) :
 Calls Tryz.prog 174 #[.pointer (some ⟨b,0,none⟩)] w fun e w'=>e = .returned (.string ⟨l.toArray⟩)∧Below B w w':=
 Any.Builder_String_any TB FF B b l w h hBw
theorem rR (B b:Nat) (bs:List Value) (w:World) (h:Lib.IsBuilder 284 5 B b bs w) :
 Calls Tryz.prog 197 #[.pointer (some ⟨b,0,none⟩)] w fun e w'=>e = .returned (.tuple #[])∧(Lib.BuilderAt 284 5 B b (.pointer (some ⟨b,0,none⟩)) bs w'∧Below B w w'):=by
 rcases h with h | h
 ·refine (vM b 2 w h.cell0 h.shape (Nat.le_refl 2) h.frozen0).mono ?_
  rintro e w' ⟨rfl,rfl⟩
  exact ⟨rfl,h.used _,(Below.refl B w).setCell (p:=⟨b,0,none⟩) h.1 _⟩
 ·refine (yb b w h.cell0).mono ?_
  rintro e w' ⟨rfl,rfl⟩
  exact ⟨rfl,h,Below.refl B _⟩
theorem qq (B b:Nat) (bs:List Value) (s:ByteArray) (w:World) (h:Lib.IsBuilder 284 5 B b bs w) (hlen:bs.length+s.size≤140737488355328) (hBw:B≤w.heap.size) :
 Calls Tryz.prog 173 #[.pointer (some ⟨b,0,none⟩),.string s] w fun e w'=>e = .returned (.tuple #[.int .i64 s.size,.nilIface])∧(Lib.BuilderAt 284 5 B b (.pointer (some ⟨b,0,none⟩)) (bs++Lib.strCells s) w'∧Below B w w'):=by
 obtain ⟨i0,hi,hz0,hz1,hz2⟩:=info_parts bInfo
 go_enter Tryz.func173,Tryz.ntmps173
 go_wp2_with (go_at_call 197;refine (rR B b bs _ h).mono ?_)
 rintro e w1 ⟨rfl,h1,hb1⟩
 obtain ⟨hB,v,hbk,hown,hne⟩:=h1
 have c0:w1.cell? ⟨b,0,none⟩=some (.pointer (some ⟨b,0,none⟩)):=by rw [Lib.cell_of_heap hbk];rfl
 have c1:w1.cell? ⟨b,1,none⟩=some v:=by rw [Lib.cell_of_heap hbk];rfl
 go_wp2_with (at_builtin;refine Lib.wpList_append_own_string _ rfl _ _ 172 9 rfl B 5 i0 Tryz.underlying172 Tryz.underlying9 hi hz0 hz1 hz2 _ _ _ rfl hown s rfl ?c3 ?c4 ?c5 ?_)
 case c3=>unfold maxLen;omega
 case c4=>omega
 case c5=>have:=hb1.size;omega
 intro v' w2 hown' hgrow _
 have hlt:b<w1.heap.size:=by
  rcases Nat.lt_or_ge b w1.heap.size with h' | h'
  ·exact h'
  ·simp [Array.getElem?_eq_none h'] at hbk
 have hb2:w2.heap[b]? = some (.cells #[.pointer (some ⟨b,0,none⟩),v] 284 (0,0)):=by
  rw [hgrow.block b hlt (fun e=>hne e.symm)]
  exact hbk
 have d0:w2.cell? ⟨b,0,none⟩=some (.pointer (some ⟨b,0,none⟩)):=by rw [Lib.cell_of_heap hb2];rfl
 have d1:w2.cell? ⟨b,1,none⟩=some v:=by rw [Lib.cell_of_heap hb2];rfl
 have f1:w2.frozen? ⟨b,1,none⟩=false:=Lib.frozen_of_heap hb2 1
 obtain ⟨ao,n',cap,rfl⟩:∃ ao n' cap,v' = .slice ao n' cap:=by
  rcases hown'.2 with ⟨hv,_⟩ | ⟨g,cap,cur,hv,_⟩
  ·exact ⟨_,_,_,hv⟩
  ·exact ⟨_,_,_,hv⟩
 go_wp2
 go_ret2
 refine ⟨rfl,?_,?_⟩
 ·exact Lib.BuilderAt.put (T:=284) (e:=5) hB hb2 (bs':=bs++Lib.strCells s) (by simpa [Lib.strCells_length] using hown') (by decide)
 ·exact (hb1.grown hgrow (by have:=hb1.size;omega) (fun k hk=>(hown.lt k hk).1)).setCell (p:=⟨b,1,none⟩) hB _
end Go.Proofs.YtepcejdglbcbkaaGreat
/- ring.Gather in memory. Conditions: the parts lie in memory, there are at most 1000; what memory.Read comes to is given; it is at most a million bytes. -/
namespace Go.Proofs.YtepcejdglbcbkaaGreat
open Go.RowKit Go.Shelf
structure GP where
 i:Nat
 a:Nat
 n:Nat
 w:Bool
def tW (w:World) (lb lo:Nat) (l:List GP):Prop:=∀ j p,l[j]? = some p→w.cell? ⟨lb,lo+j*4,none⟩=some (.int .i64 p.i)∧w.cell? ⟨lb,lo+j*4+1,none⟩=some (.int .i64 p.a)∧w.cell? ⟨lb,lo+j*4+2,none⟩=some (.int .i64 p.n)∧w.cell? ⟨lb,lo+j*4+3,none⟩=some (.bool p.w)
def gH (rdB:GP→List UInt8) (l:List GP):List UInt8:=l.flatMap fun p=>if p.w then [] else rdB p
theorem lj {B b:Nat}{bs:List Value}{W W':World}(h:Lib.IsBuilder 284 5 B b bs W) (hb:Below W.heap.size W W'):Lib.IsBuilder 284 5 B b bs W':=by
 have one:∀ {p:Value},Lib.BuilderAt 284 5 B b p bs W→Lib.BuilderAt 284 5 B b p bs W':=by
  intro p h
  have hlt:=h.lt
  obtain ⟨hB,v,hbk,hown,hne⟩:=h
  refine ⟨hB,v,(hb.block b hlt).trans hbk,?_,hne⟩
  refine hown.kept (row:=none) ⟨hb.os,hb.tape,hb.output,hb.size,fun k hk _=>hb.block k hk⟩ ?_
  rcases h:v.ownBlock with _ | g
  ·exact .inl rfl
  ·exact .inr (by simp)
 exact h.imp one one
theorem gd {p:Prop}(h:p):Hid p:=h
theorem yc {rdB:GP→List UInt8}{l:List GP}{i:Nat}{p:GP}(h:l[i]? = some p):gH rdB (l.take (i+1))=gH rdB (l.take i)++(if p.w then [] else rdB p):=by
 unfold gH
 rw [List.take_add_one,h]
 simp
theorem tj (w:World) (ms:Value) (lb lo cap:Nat) (l:List GP) (rdB:GP→List UInt8) (hl:tW w lb lo l) (hcap:l.length≤cap) (hlen:l.length≤1000) (ao:Option Addr) (hao:0<l.length→ao=some ⟨lb,lo,none⟩) (hb:∀ p∈l,p.w=false→(rdB p).length≤1000000)
 (hR:∀ p∈l,p.w=false→∀ wx,Below w.heap.size w wx→Calls Tryz.prog 172 #[.agg #[ms],.int .i64 p.a,.int .i64 p.n] wx fun e w'=>(∃ s ok,e = .returned (.tuple #[.string s,.bool ok])∧s.data.toList=rdB p)∧Below wx.heap.size wx w') :
 Calls Tryz.prog 123 #[.agg #[ms],.slice ao l.length cap] w fun e w'=>e = .returned (.string ⟨(gH rdB l).toArray⟩)∧Below w.heap.size w w':=by
 have hs1:(w.alloc (.cells #[ms] 44)).heap.size=w.heap.size+1:=Array.size_push _
 have hF:=Lib.fresh_isBuilder 284 5 (w.alloc (.cells #[ms] 44))
 rw [hs1] at hF
 have hm0:(w.alloc (.cells #[ms] 44)).cell? ⟨w.heap.size,0,none⟩=some ms:=by rw [Lib.cell_of_heap (heap_alloc_new w _)];rfl
 go_enter Tryz.func123,Tryz.ntmps123
 go_wp2_with fail
 go_loopg [12] l.length (fun g s12 wx=>∃ (i:Nat) (acc:List UInt8),s12 = .int .i64 i∧i+g=l.length∧Hid (acc=gH rdB (l.take i))∧Hid (acc.length≤i*1000000)∧
  Hid (Lib.IsBuilder 284 5 (w.heap.size+1) (w.heap.size+1) (Lib.byteCells acc) wx)∧Hid (Below (w.heap.size+1) (w.alloc (.cells #[ms] 44)) wx))
 case atStart=>
  exact ⟨0,[],rfl,by omega,gd rfl,gd (by simp),gd hF,gd ((Below.refl _ _).alloc (by rw [hs1];exact Nat.le_refl _) _)⟩
 case round=>
  obtain ⟨i,acc,rfl,hig,HA,HL,HB,HW⟩:=hrel
  have hBw:w.heap.size+1≤wr.heap.size:=by have:=HW.out.size;rw [hs1] at this;exact this
  have hW0:Below w.heap.size w wr:=((Below.refl w.heap.size w).alloc (Nat.le_refl _) _).trans (HW.out.mono (Nat.le_succ _))
  have hm:wr.cell? ⟨w.heap.size,0,none⟩=some ms:=by rw [HW.out.cell (p:=⟨w.heap.size,0,none⟩) (Nat.lt_succ_self _)];exact hm0
  cases gk with
  | zero=>
   have hi:¬ ((i:Int)<(l.length:Int)):=by omega
   go_wp2_with fail
   refine (pf (w.heap.size+1) (w.heap.size+1) acc wr HB.out hBw).mono ?_
   rintro e w5 ⟨rfl,hb5⟩
   go_wp2
   go_ret
   refine ⟨?_,hW0.trans (hb5.mono (Nat.le_succ _))⟩
   rw [HA.out,List.take_of_length_le (by omega)]
   rfl
  | succ g=>
   obtain rfl:=hao (by omega)
   have hi:(i:Int)<(l.length:Int):=by omega
   obtain ⟨p,hp⟩:∃ p,l[i]? = some p:=⟨_,List.getElem?_eq_getElem (by omega)⟩
   obtain ⟨d0,d1,d2,d3⟩:=hl i p hp
   have hlb:lb<w.heap.size:=World.block_lt_of_cell? _ _ d0
   have e0:=(hW0.cell (p:=⟨lb,lo+i*4,none⟩) hlb).trans d0
   have e1:=(hW0.cell (p:=⟨lb,lo+i*4+1,none⟩) hlb).trans d1
   have e2:=(hW0.cell (p:=⟨lb,lo+i*4+2,none⟩) hlb).trans d2
   have e3:=(hW0.cell (p:=⟨lb,lo+i*4+3,none⟩) hlb).trans d3
   have hpm:=List.mem_of_getElem? hp
   have hgs:=yc (rdB:=rdB) hp
   cases hw:p.w with
   | true=>
    rw [hw] at hgs
    have hA2:acc=gH rdB (l.take (i+1)):=by rw [hgs,HA.out];simp
    have HA2:=gd hA2
    clear hgs hA2
    go_wp2_with fail
    go_roundg g
    case measure=>omega
    case rel=>
     have hbx:=fun o=>(Below.refl wr.heap.size wr).alloc (Nat.le_refl _) o
     exact ⟨i+1,acc,rfl,by omega,HA2,gd (Nat.le_trans HL.out (Nat.mul_le_mul_right _ (Nat.le_succ i))),gd (lj HB.out (hbx _)),gd (HW.out.alloc hBw _)⟩
   | false=>
    rw [hw] at hgs
    have hA2:acc++rdB p=gH rdB (l.take (i+1)):=by rw [hgs,HA.out];simp
    have HA2:=gd hA2
    clear hgs hA2
    have hm2:(wr.alloc (.cells #[.int .i64 p.i,.int .i64 p.a,.int .i64 p.n,.bool false] 259)).cell? ⟨w.heap.size,0,none⟩=some ms:=by
     rw [← hm];exact ((Below.refl wr.heap.size wr).alloc (Nat.le_refl _) _).cell (p:=⟨w.heap.size,0,none⟩) (show w.heap.size<wr.heap.size by omega)
    go_wp2_with fail
    refine (hR p hpm hw _ (hW0.alloc (by omega) _)).mono ?_
    rintro e w3 ⟨⟨s,ok,rfl,hs⟩,hb3⟩
    have hbx:=fun o=>(Below.refl wr.heap.size wr).alloc (Nat.le_refl _) o
    have hb3':Below wr.heap.size wr w3:=(hbx _).trans (hb3.mono (by have:=(hbx (.cells #[.int .i64 p.i,.int .i64 p.a,.int .i64 p.n,.bool false] 259)).size;exact this))
    have H3:=gd (lj HB.out hb3')
    have HW3:=gd (HW.out.trans (hb3'.mono hBw))
    have hsl:s.size=(rdB p).length:=by rw [← hs,Array.length_toList];rfl
    have hbp:=hb p hpm hw
    have hal:=HL.out
    have hBw3:w.heap.size+1≤w3.heap.size:=by have:=hb3'.size;omega
    have HS:=gd hs
    clear hs hb3 hb3' hbx
    go_wp2_with fail
    refine (qq (w.heap.size+1) (w.heap.size+1) _ s w3 H3.out (by rw [Lib.byteCells_length];omega) hBw3).mono ?_
    rintro e w4 ⟨rfl,h4,hb4⟩
    rw [Lib.strCells_eq,← Lib.byteCells_append,HS.out] at h4
    have H4:=gd (Or.inr h4:Lib.IsBuilder 284 5 (w.heap.size+1) (w.heap.size+1) _ w4)
    have HW4:=gd (HW3.out.trans hb4)
    clear h4 hb4
    go_wp2
    go_roundg g
    case measure=>omega
    case rel=>
     exact ⟨i+1,acc++rdB p,rfl,by omega,HA2,gd (by rw [List.length_append];omega),H4,HW4⟩
end Go.Proofs.YtepcejdglbcbkaaGreat
/- ring.Gather is met by what it comes to. No condition. -/
namespace Go.Proofs.YtepcejdglbcbkaaGreat
open Go.Abs Go.RowKit
def iE:List AV→Option (List GP)
 | []=>some []
 | .int .i64 i :: .int .i64 a :: .int .i64 n :: .bool w::xs=>if 0≤i∧0≤a∧0≤n then (iE xs).map (⟨i.toNat,a.toNat,n.toNat,w⟩ :: ·) else none
 | _=>none
def mD (F:aE) (m:AV) (p:GP):Option (List UInt8):=match F 172 [.agg [m],.int .i64 p.a,.int .i64 p.n] h0 (fun _=>none) with
 | some (.tup [.str s,.bool _],_)=>some s
 | _=>none
def jE (F:aE) (m:AV) (p:GP):List UInt8:=(mD F m p).getD []
def okG (F:aE) (m:AV) (l:List GP):Bool:=l.all fun p=>p.w||match mD F m p with
 | some s=>decide (s.length≤1000000)
 | none=>false
def mE (F:aE):Prim:=fun vs hs _=>match vs with
 | [.agg [m],.sl _ s0 xs]=>match iE xs with
  | some l=>if m.flat=true∧l.length≤1000∧okG F m l=true∧s0=csz 4 xs then some (.str (gH (jE F m) l),hs) else none
  | none=>none
 | _=>none
def gpV (p:GP):List AV:=[.int .i64 p.i,.int .i64 p.a,.int .i64 p.n,.bool p.w]
theorem p7:∀ {xs:List AV}{l:List GP},iE xs=some l→xs=l.flatMap gpV
 | [],l,h=>by simp only [iE,Option.some.injEq] at h;subst h;rfl
 | .int .i64 i :: .int .i64 a :: .int .i64 n :: .bool w::xs,l,h=>by
  simp only [iE] at h
  split at h
  ·rename_i hc
   obtain ⟨l',h1,rfl⟩:=Option.map_eq_some_iff.1 h
   have ih:=p7 h1
   rw [ih]
   simp [gpV,Int.toNat_of_nonneg hc.1,Int.toNat_of_nonneg hc.2.1,Int.toNat_of_nonneg hc.2.2]
  ·cases h
theorem ma:∀ (l:List GP),(l.flatMap gpV).length=l.length*4
 | []=>rfl
 | p::l=>by
  have:=ma l
  rw [List.flatMap_cons,List.length_append,this,List.length_cons]
  show 4+_=_
  omega
theorem yd {t:Nat}{p:GP}(ht:t<4):∀ {l:List GP}{j:Nat},l[j]? = some p→(l.flatMap gpV)[j*4+t]? = (gpV p)[t]?
 | [],j,h=>by simp at h
 | x::l,0,h=>by
  simp only [List.getElem?_cons_zero,Option.some.injEq] at h
  subst h
  rw [List.flatMap_cons,List.getElem?_append_left (show 0*4+t<4 by omega)]
  congr 1;omega
 | x::l,j+1,h=>by
  have ih:=yd (p:=p) ht (l:=l) (j:=j) (by simpa using h)
  rw [List.flatMap_cons,List.getElem?_append_right (show 4≤(j+1)*4+t by omega),← ih]
  congr 1
  show (j+1)*4+t-4=_
  omega
theorem Ca {G:Gh}{w:World}{s:List UInt8}{b:Bool}{v:Value}(h:Rep G w (.tup [.str s,.bool b]) v):∃ t:ByteArray,v = .tuple #[.string t,.bool b]∧t.data.toList=s:=by
 cases h with
 | tup _ arr hl h=>
  obtain ⟨a0,a1,rfl⟩:∃ a0 a1,arr = #[a0,a1]:=by
   rcases arr with ⟨l⟩
   rcases l with _ | ⟨a0,_ | ⟨a1,_ | ⟨a2,t⟩⟩⟩<;>simp at hl
   exact ⟨a0,a1,rfl⟩
  have h0:=h 0 _ _ rfl rfl
  have h1:=h 1 _ _ rfl rfl
  cases h0 with
  | str _ t ht=>
   cases h1
   exact ⟨t,rfl,ht⟩
theorem zT (w:World):aG (fL w) h0.H (fun _=>none) h0.lv w:=by
 constructor
 ·intro id b o h;cases h
 ·intro id b h;cases h
 ·intro id b o h;cases h
 ·intro id id' b o o' h;cases h
 ·intro br h;cases h
 ·intro br br' b e e' h;cases h
 ·exact fun b i h=>h
 ·intro br b e h;cases h
 ·intro b r h;cases h
theorem ye {w w':World}{G':Gh}{lv':Nat→Bool}(h:Ext (fL w) h0.lv w G' lv' w'):Below w.heap.size w w':=by
 refine ⟨h.os,h.tape,h.output,h.size,fun k hk=>h.keep k hk ?_⟩
 rintro (⟨id,o,h⟩ | ⟨br,e,h,_⟩)
 ·cases h
 ·cases h
theorem iF {G:Gh}{lv:Nat→Bool}{w w':World}(hb:Below w.heap.size w w') (hσ:∀ b i,G.σ b i→b<w.heap.size):Ext G lv w G lv w':=by
 refine ⟨fun _ _ h=>h,fun _ _ h=>h,fun _ _ h=>h,fun _ _ h _ _=>h,fun _ _ h=>h,fun b h _=>hb.block b h,fun b i h=>?_,fun b h=>?_,hb.size,hb.os,hb.tape,hb.output,fun _ _ h=>h,fun _ _ h=>h⟩
 ·exact cC (hb.block b (hσ b i h)) i
 ·exact cI (hb.block b h)
theorem jF {G:Gh}{H:Hp}{E:Nat→Option TypeId}{lv:Nat→Bool}{w w':World}(hW:aG G H E lv w) (hb:Below w.heap.size w w'):aG G H E lv w':=by
 have hext:=iF (lv:=lv) hb hW.σlt
 constructor
 ·intro id b o h
  obtain ⟨cs,T,fz,h1,h2,h3,h4,h5⟩:=hW.obj id b o h
  have hk:=hb.block b (hW.βlt h)
  refine ⟨cs,T,fz,hk.trans h1,h2,fun i x hx=>?_,fun i hi=>?_,h5⟩
  ·obtain ⟨q1,q2,v,q3,q4⟩:=h3 i x hx
   exact ⟨q1,q2,v,q3,q4.mono hext.mono⟩
  ·rw [aP hk];exact h4 i hi
 ·exact fun id b h=>hW.mobj_of hext.mono h (hb.block b (hW.βlt h)) rfl
 ·exact hW.nσ
 ·exact hW.inj
 ·intro br h
  obtain ⟨q1,b,e,cs,T,fz,q2,q3,q4,q5,q6⟩:=hW.tip br h
  have hk:=hb.block b (hW.τlt _ _ _ q2)
  exact ⟨q1,b,e,cs,T,fz,q2,hk.trans q3,fun i hi=>by rw [aP hk];exact q4 i hi,q5,q6⟩
 ·exact hW.tinj
 ·exact fun b i h=>Nat.lt_of_lt_of_le (hW.σlt b i h) hb.size
 ·exact fun br b e h=>Nat.lt_of_lt_of_le (hW.τlt br b e h) hb.size
 ·exact fun b r h=>Nat.lt_of_lt_of_le (hW.ρlt b r h) hb.size
theorem rS {F:aE}(hF:Sound Tryz.prog F):gW Tryz.prog 123 (mE F):=by
 intro vs hs E r hs' h
 unfold mE at h
 split at h
 ·rename_i m br s0 xs
  split at h
  ·rename_i l hl
   split at h
   ·rename_i hc
    obtain ⟨c1,c2,c3,c4⟩:=hc
    simp only [Option.some.injEq,Prod.mk.injEq] at h
    obtain ⟨rfl,rfl⟩:=h
    have hxs:=p7 hl
    refine ⟨kJ (by kernel_rfl),rfl,Nat.le_refl _,?_⟩
    intro G w args hsz hrep hW hβ hτ h4
    obtain ⟨v0,v1,rfl⟩:∃ v0 v1,args = #[v0,v1]:=by
     rcases args with ⟨a⟩
     rcases a with _ | ⟨a0,_ | ⟨a1,_ | ⟨a2,t⟩⟩⟩<;>simp at hsz
     exact ⟨a0,a1,rfl⟩
    have r0:=hrep 0 _ _ rfl rfl
    have r1:=hrep 1 _ _ rfl rfl
    obtain ⟨ms,rfl⟩:∃ ms,v0 = .agg #[ms]:=by
     cases r0 with
     | agg _ arr hl _ _=>
      rcases arr with ⟨a⟩
      rcases a with _ | ⟨a0,_ | ⟨a1,t⟩⟩<;>simp at hl
      exact ⟨a0,rfl⟩
    obtain ⟨ao,lb,lo,cap,rfl,hao,hcap,hparts⟩:∃ ao lb lo cap,v1 = .slice ao l.length cap∧(0<l.length→ao=some ⟨lb,lo,none⟩)∧l.length≤cap∧tW w lb lo l:=by
     cases r1 with
     | emp _ _ p cap hb=>
      have:l=[]:=by
       have e:=ma l
       rw [← hxs] at e
       exact List.eq_nil_of_length_eq_zero (by simp at e;omega)
      subst this
      exact ⟨p,0,0,cap,rfl,fun h=>absurd h (Nat.lt_irrefl 0),Nat.zero_le _,fun j p h=>by simp at h⟩
     | sl _ _ _ b off len cap hb hsz' hl' hc' vs' hk hx h0' h3=>
      have e:=ma l
      rw [← hxs] at e
      have hlen:len=l.length:=by
       cases xs with
       | nil=>
        rw [c4] at hsz'
        exact absurd hsz' (by simp [csz])
       | cons y ys=>
        have:s0=4:=c4
        subst this
        omega
      subst hlen
      refine ⟨_,b,off,cap,rfl,fun _=>rfl,hc',fun j p hp=>?_⟩
      have get:∀ t x,t<4→(gpV p)[t]? = some x→w.cell? ⟨b,off+(j*4+t),none⟩=some (vs' (j*4+t))∧Rep G w x (vs' (j*4+t)):=by
       intro t x ht hx'
       have hg:xs[j*4+t]? = some x:=by rw [hxs,yd ht hp,hx']
       exact ⟨(hk _ x hg).1,hx _ x hg⟩
      obtain ⟨a0,b0⟩:=get 0 _ (by omega) rfl
      obtain ⟨a1,b1⟩:=get 1 _ (by omega) rfl
      obtain ⟨a2,b2⟩:=get 2 _ (by omega) rfl
      obtain ⟨a3,b3⟩:=get 3 _ (by omega) rfl
      have i0:vs' (j*4+0) = .int .i64 p.i:=by generalize vs' (j*4+0)=q at b0;cases b0;rfl
      have i1:vs' (j*4+1) = .int .i64 p.a:=by generalize vs' (j*4+1)=q at b1;cases b1;rfl
      have i2:vs' (j*4+2) = .int .i64 p.n:=by generalize vs' (j*4+2)=q at b2;cases b2;rfl
      have i3:vs' (j*4+3) = .bool p.w:=by generalize vs' (j*4+3)=q at b3;cases b3;rfl
      rw [i0] at a0;rw [i1] at a1;rw [i2] at a2;rw [i3] at a3
      exact ⟨a0,by rw [Nat.add_assoc];exact a1,by rw [Nat.add_assoc];exact a2,by rw [Nat.add_assoc];exact a3⟩
    have hok:∀ p∈l,p.w=false→∃ s,mD F m p=some s∧s.length≤1000000:=by
     intro p hp hw
     unfold okG at c3
     rw [List.all_eq_true] at c3
     have:=c3 p hp
     rw [hw,Bool.false_or] at this
     split at this
     ·rename_i s hs'
      exact ⟨s,hs',by simpa using this⟩
     ·cases this
    refine (tj w ms lb lo cap l (jE F m) hparts hcap c2 ao hao ?_ ?_).mono ?_
    ·intro p hp hw
     obtain ⟨s,e1,e2⟩:=hok p hp hw
     unfold jE;rw [e1];exact e2
    ·intro p hp hw wx hbx
     obtain ⟨s,e1,_⟩:=hok p hp hw
     have e1':=e1
     unfold mD at e1'
     split at e1'
     ·rename_i s' ok hs1 hF1
      simp only [Option.some.injEq] at e1'
      subst e1'
      obtain ⟨_,_,_,hcalls⟩:=hF.call 172 _ _ _ _ _ hF1
      have hm:Rep (fL wx) wx (.agg [m]) (.agg #[ms]):=by
       refine r0.fmono ⟨fun b i hs=>Nat.lt_of_lt_of_le (hW.σlt b i hs) hbx.size,fun b i hs=>?_⟩ ?_
       ·exact cC (hbx.block b (hW.σlt b i hs)) i
       ·simp only [AV.flat,bK,c1,Bool.and_self]
      refine (hcalls (fL wx) wx #[.agg #[ms],.int .i64 p.a,.int .i64 p.n] rfl ?_ (zT wx) (fun _ _=>rfl) (fun _ _=>rfl) (Nat.le_refl _) (cl.zero _ _ _ _)).mono ?_
      ·intro i x v hx hv
       match i,hx,hv with
       | 0,hx,hv=>simp at hx hv;subst hx;subst hv;exact hm
       | 1,hx,hv=>simp at hx hv;subst hx;subst hv;exact .int _ _
       | 2,hx,hv=>simp at hx hv;subst hx;subst hv;exact .int _ _
       | i+3,hx,hv=>simp at hx
      ·rintro e w' ⟨v,G',rfl,hext,_,hrv,_⟩
       obtain ⟨t,rfl,ht⟩:=Ca hrv
       refine ⟨⟨t,ok,rfl,?_⟩,ye hext⟩
       unfold jE;rw [e1];exact ht
     ·cases e1'
    ·rintro e w' ⟨rfl,hb⟩
     exact ⟨_,G,rfl,iF hb hW.σlt,jF hW hb,.str _ _ (by simp),fun _=>rfl,hτ⟩
   ·cases h
  ·cases h
 ·cases h
end Go.Proofs.YtepcejdglbcbkaaGreat
/- console's next in memory: the first byte that waits is taken. Conditions: the session's cells may be written. -/
namespace Go.Proofs.YtepcejdglbcbkaaGreat
open Go.RowKit
def qB (b o:Nat) (s:ByteArray) (w:World):World:=
 if h:0<s.size then (((((w.setCell ⟨b,o+2,none⟩ (.int .u32 4294967295)).iter s 0).iterAt w.heap.size s (Utf8.decode s 0).2).setCell ⟨b,o+2,none⟩ (.int .u32 ((s[0]'h).toNat%4294967296:Int))).setCell ⟨b,o,none⟩ (.string (s.extract 1 s.size))).drew
 else (w.setCell ⟨b,o+2,none⟩ (.int .u32 4294967295)).iter s 0
theorem yf {w:World}{b:Nat}{s:ByteArray}{k:Nat}(hb:b<w.heap.size) (o:Nat):((w.iter s 0).iterAt w.heap.size s k).cell? ⟨b,o,none⟩=w.cell? ⟨b,o,none⟩∧((w.iter s 0).iterAt w.heap.size s k).frozen? ⟨b,o,none⟩=w.frozen? ⟨b,o,none⟩:=by
 have h:((w.iter s 0).iterAt w.heap.size s k).heap[b]? = w.heap[b]?:=by
  show ((w.heap.push _).setIfInBounds w.heap.size _)[b]? = _
  rw [Array.getElem?_setIfInBounds_ne (by omega),Array.getElem?_push,if_neg (by omega)]
 exact ⟨Go.Abs.cC h o,Go.Abs.aP h _⟩
theorem yg (b o:Nat) (s:ByteArray) (v2:Value) (w:World) (h0:w.cell? ⟨b,o,none⟩=some (.string s)) (h2:w.cell? ⟨b,o+2,none⟩=some v2) (hf:w.frozen? ⟨b,o+2,none⟩=false) (hf0:w.frozen? ⟨b,o,none⟩=false) :
 Calls Tryz.prog 242 #[.pointer (some ⟨b,o,none⟩)] w fun e w'=>e = .returned (.tuple #[])∧w'=qB b o s w:=by
 have hbl:b<w.heap.size:=World.block_lt_of_cell? _ _ h0
 go_enter Tryz.func242,Tryz.ntmps242
 go_wp2
 go_loopw [] (fun wr=>wr=(w.setCell ⟨b,o+2,none⟩ (.int .u32 4294967295)).iter s 0) (fun _=>0)
 case atStart=>rfl
 case round=>
  subst hrel
  have hit:((w.setCell ⟨b,o+2,none⟩ (.int .u32 4294967295)).iter s 0).heap[w.heap.size]? = some (.stringIter s 0):=by
   have:=World.iter_heap (w.setCell ⟨b,o+2,none⟩ (.int .u32 4294967295)) s 0
   simpa using this
  by_cases hp:0<s.size
  ·have hnx:∀ ty,(Instr.next (.pointer (some ⟨w.heap.size,0,none⟩)) true ty).run Tryz.prog _=_:=fun ty=>Lib.run_next_any_at _ w.heap.size s 0 ty hit hp
   go_wp2
   generalize hW:(((w.setCell ⟨b,o+2,none⟩ (.int .u32 4294967295)).iter s 0).iterAt w.heap.size s (Utf8.decode s 0).2)=W
   have hk:=fun i=>yf (w:=w.setCell ⟨b,o+2,none⟩ (.int .u32 4294967295)) (s:=s) (k:=(Utf8.decode s 0).2) (b:=b) (by simpa using hbl) i
   have hs0:(w.setCell ⟨b,o+2,none⟩ (.int .u32 4294967295)).heap.size=w.heap.size:=World.size_setCell ..
   rw [hs0,hW] at hk
   have c0:W.cell? ⟨b,o,none⟩=some (.string s):=by
    rw [(hk o).1,World.cell?_setCell_other _ _ _ _ (by simp)];exact h0
   have c2:W.cell? ⟨b,o+2,none⟩=some (.int .u32 4294967295):=by
    rw [(hk (o+2)).1];exact World.cell?_setCell_same _ _ _ h2
   have f0:W.frozen? ⟨b,o,none⟩=false:=by rw [(hk o).2,World.frozen?_setCell];exact hf0
   have f2:W.frozen? ⟨b,o+2,none⟩=false:=by rw [(hk (o+2)).2,World.frozen?_setCell];exact hf
   have hp1:1≤s.size:=hp
   go_region
   go_wp2
   (try simp only [Exit.inBlock,Exit.then])
   refine bodyPost_ret (results_none rfl _ _ _) rfl ?_
   refine ⟨rfl,?_⟩
   unfold qB
   rw [dif_pos hp,hW]
  ·have hnx:∀ ty,(Instr.next (.pointer (some ⟨w.heap.size,0,none⟩)) true ty).run Tryz.prog _=_:=fun ty=>Lib.run_next_end_at _ w.heap.size s 0 ty hit hp
   go_wp2
   go_end0
   refine ⟨rfl,?_⟩
   unfold qB
   rw [dif_neg hp]
section
open Go.Abs
variable {G:Gh}{w:World}{H:Hp}{E:Nat→Option TypeId}{lv:Nat→Bool}
theorem jS (hW:aG G H E lv w) {id b o i:Nat}(hβ:G.β id=some (b,some o)) (hi:i<(H id).length) {x:AV}{v:Value}(hr:Rep G w x v) (hl:x.leaf=true) :
 Ext G lv w G lv (w.setCell ⟨b,o+i,none⟩ v)∧aG G (upd H id ((H id).set i x)) E lv (w.setCell ⟨b,o+i,none⟩ v):=by
 obtain ⟨cur,T,fz,k1,k2,k3,k4,k5⟩:=hW.obj id b o hβ
 have e:w.setCell ⟨b,o+i,none⟩ v=cH w b (.cells (cur.setIfInBounds (o+i) v) T fz):=by
  unfold World.setCell cH
  congr 1
  apply Array.ext_getElem?
  intro j
  rw [Array.getElem?_modify]
  by_cases hj:b=j
  ·subst hj
   rw [if_pos rfl,k1,Array.getElem?_setIfInBounds_self_of_lt (hW.βlt hβ)]
   simp
  ·rw [if_neg hj,Array.getElem?_setIfInBounds_ne hj]
 have hs:cd (H id) i [x]=(H id).set i x:=by
  unfold cd
  rw [List.set_eq_take_append_cons_drop,if_pos hi]
  simp
 rw [e,← hs]
 refine lA hW hβ k1 (cs:=[x]) (vs:=[v]) (by show i+1≤_;omega) ⟨rfl,fun j y u hy hu=>?_⟩ trivial (by simp) (fun j=>?_)
 ·cases j with
  | zero=>simp at hy hu;subst hy;subst hu;exact ⟨hl,hr⟩
  | succ j=>simp at hy
 ·rw [Array.getElem?_setIfInBounds]
  by_cases hj:o+i=j
  ·subst hj
   rw [if_pos rfl,if_pos (by omega),if_pos ⟨by omega,by simp⟩];simp
  ·rw [if_neg hj,if_neg (by simp;omega)]
def mF:Prim:=fun vs hs _=>match vs with
 | [.ref id 0]=>match hs.H id with
  | [.str l,x1,x2,x3]=>some (.tup [],{ hs with H:=upd hs.H id (match l with
   | []=>[.str [],x1,.int .u32 4294967295,x3]
   | u::t=>[.str t,x1,.int .u32 u.toNat,x3]) })
  | _=>none
 | _=>none
theorem oE {W:World}{s:ByteArray}{k:Nat}:Below W.heap.size W ((W.iter s 0).iterAt W.heap.size s k):=by
 refine ⟨rfl,rfl,rfl,?_,fun j hj=>?_⟩
 ·show W.heap.size≤((W.heap.push _).setIfInBounds _ _).size
  simp
 ·show ((W.heap.push _).setIfInBounds W.heap.size _)[j]? = _
  rw [Array.getElem?_setIfInBounds_ne (by omega),Array.getElem?_push,if_neg (by omega)]
theorem zU (hW:aG G H E lv w) {s:ByteArray}{k:Nat}:Ext G lv w G lv ((w.iter s 0).iterAt w.heap.size s k)∧aG G H E lv ((w.iter s 0).iterAt w.heap.size s k):=⟨iF oE hW.σlt,jF hW oE⟩
theorem yh (hW:aG G H E lv w) {s:ByteArray}:Ext G lv w G lv (w.iter s 0)∧aG G H E lv (w.iter s 0):=by
 have hb:Below w.heap.size w (w.iter s 0):=(Below.refl _ w).alloc (Nat.le_refl _) _
 exact ⟨iF hb hW.σlt,jF hW hb⟩
theorem zV (hW:aG G H E lv w):Ext G lv w G lv w.drew∧aG G H E lv w.drew:=by
 have hb:Below w.heap.size w w.drew:=⟨rfl,rfl,rfl,Nat.le_refl _,fun _ _=>rfl⟩
 exact ⟨iF hb hW.σlt,jF hW hb⟩
theorem vN:gW Tryz.prog 242 mF:=by
 intro vs hs E r hs' h
 unfold mF at h
 split at h
 ·rename_i id
  split at h
  ·rename_i l x1 x2 x3 hH
   simp only [Option.some.injEq,Prod.mk.injEq] at h
   obtain ⟨rfl,rfl⟩:=h
   refine ⟨kJ (by kernel_rfl),rfl,Nat.le_refl _,?_⟩
   intro G w args hsz hrep hW hβ hτ h4
   obtain ⟨v0,rfl⟩:∃ v0,args = #[v0]:=by
    rcases args with ⟨a⟩
    rcases a with _ | ⟨a0,_ | ⟨a1,t⟩⟩<;>simp at hsz
    exact ⟨a0,rfl⟩
   have r0:=hrep 0 _ _ rfl rfl
   obtain ⟨b,o,rfl,hβ0⟩:∃ b o,v0 = .pointer (some ⟨b,o,none⟩)∧G.β id=some (b,some o):=by
    cases r0 with
    | ref _ _ b o h=>exact ⟨b,o,rfl,h⟩
   obtain ⟨cur,T,fz,k1,k2,k3,k4,k5⟩:=hW.obj id b o hβ0
   have hlen:(hs.H id).length=4:=by rw [hH];rfl
   obtain ⟨_,_,u0,m0,n0⟩:=k3 0 (.str l) (by rw [hH];rfl)
   obtain ⟨_,l1,u1,m1,n1⟩:=k3 1 x1 (by rw [hH];rfl)
   obtain ⟨_,_,u2,m2,n2⟩:=k3 2 x2 (by rw [hH];rfl)
   obtain ⟨s,rfl,hsl⟩:∃ s,u0 = .string s∧s.data.toList=l:=by
    cases n0 with
    | str _ s hs=>exact ⟨s,rfl,hs⟩
   have c0:w.cell? ⟨b,o,none⟩=some (.string s):=by rw [cell_of _ _ _ k1];exact m0
   have c2:w.cell? ⟨b,o+2,none⟩=some u2:=by rw [cell_of _ _ _ k1];exact m2
   refine (yg b o s u2 w c0 c2 (k4 2 (by omega)) (k4 0 (by omega))).mono ?_
   rintro e w' ⟨rfl,rfl⟩
   obtain ⟨e1,W1⟩:=jS (i:=2) hW hβ0 (by omega) (x:=.int .u32 4294967295) (v:=.int .u32 4294967295) (.int _ _) rfl
   have hH1:upd hs.H id ((hs.H id).set 2 (.int .u32 4294967295)) id=[.str l,x1,.int .u32 4294967295,x3]:=by simp [upd,hH]
   have hz:s.size=l.length:=by rw [← hsl];rfl
   unfold qB
   by_cases hp:0<s.size
   ·rw [dif_pos hp]
    obtain ⟨u,t,rfl⟩:∃ u t,l=u::t:=by
     cases l with
     | nil=>rw [hz] at hp;exact absurd hp (Nat.lt_irrefl 0)
     | cons u t=>exact ⟨u,t,rfl⟩
    have hu:s[0]'hp=u:=by
     have h0:s.data[0]? = some u:=by rw [← Array.getElem?_toList,hsl];rfl
     exact (Array.getElem?_eq_some_iff.1 h0).2
    have ht:(s.extract 1 s.size).data.toList=t:=by
     have:s.data.toList.drop 1=t:=by rw [hsl];rfl
     rw [← this,ByteArray.data_extract,Array.toList_extract,List.extract_eq_take_drop]
     exact List.take_of_length_le (by rw [List.length_drop,hsl,hz];exact Nat.le_refl _)
    obtain ⟨e2,W2⟩:=zU W1 (s:=s) (k:=(Utf8.decode s 0).2)
    have hsz1:(w.setCell ⟨b,o+2,none⟩ (.int .u32 4294967295)).heap.size=w.heap.size:=World.size_setCell ..
    rw [hsz1] at e2 W2
    obtain ⟨e3,W3⟩:=jS (i:=2) W2 hβ0 (by rw [hH1];simp) (x:=.int .u32 u.toNat) (v:=.int .u32 ((s[0]'hp).toNat%4294967296:Int)) (by
     rw [hu,show ((u.toNat:Int)%4294967296)=(u.toNat:Int) by have:=u.toNat_lt;omega]
     exact .int _ _) rfl
    obtain ⟨e4,W4⟩:=jS (i:=0) W3 hβ0 (by simp [upd,hH]) (x:=.str t) (v:=.string (s.extract 1 s.size)) (.str _ _ ht) rfl
    obtain ⟨e5,W5⟩:=zV W4
    refine ⟨_,G,rfl,(((e1.trans e2).trans e3).trans e4).trans e5,W5.other fun id' p hp'=>⟨?_,rfl⟩,.tup _ _ rfl (by simp),fun _=>rfl,hτ⟩
    by_cases hid:id'=id
    ·subst hid;simp [upd,hH]
    ·simp [upd,hid]
   ·rw [dif_neg hp]
    obtain rfl:l=[]:=by
     exact List.eq_nil_of_length_eq_zero (by omega)
    obtain ⟨e2,W2⟩:=yh W1 (s:=s)
    refine ⟨_,G,rfl,e1.trans e2,W2.other fun id' p hp'=>⟨?_,rfl⟩,.tup _ _ rfl (by simp),fun _=>rfl,hτ⟩
    by_cases hid:id'=id
    ·subst hid;simp [upd,hH]
    ·simp [upd,hid]
  ·cases h
 ·cases h
end
end Go.Proofs.YtepcejdglbcbkaaGreat
