/- Part of the texts on which proofs about this seat rest: each says what it proves at its own head. No condition. -/
import Derived.Test.YtepcejdglbcbkaaGreatM43
import Derived.Test.YtepcejdglbcbkaaGreatMR3
set_option linter.unusedVariables false
set_option linter.unusedSimpArgs false
set_option maxRecDepth 100000
/- BoardServesAsSpecified is evaluated, and lifted to the machine. No condition. -/
namespace Go.Proofs.YtepcejdglbcbkaaGreat
open Go.Abs Go.ChangeShapes Go.WideShapes Go.ChangeAt Go.RowKit
def AA:List Sh:=[S5,BE,.int .u8,.int .i64,SY]
theorem yY (xss:List (List AV)) (h:rB AA xss):∃ k hs',ab FN k 3 (gD AA xss) h0 (fun _=>none)=some (.bool true,hs'):=by
 obtain ⟨x0,x1,x2,x3,x4,rfl,q0,q1,q2,q3,q4⟩:=Zz h
 obtain ⟨b,rfl,hb⟩:=Zy q0
 obtain ⟨m,p,e1,_,rfl⟩:=SS q1
 obtain ⟨cpu,rfl,w⟩:=q2
 obtain ⟨ct,rfl,_⟩:=q3
 obtain ⟨i,port,v,hv,hp,rfl⟩:=Zv q4
 obtain ⟨cpu,rfl,hc⟩:=iI (m:=256) w rfl (by decide)
 obtain ⟨hs',hh⟩:=EZ (s3 (k:=0) (ct:=ct) (i:=i) e1 hb hc hv hp)
 exact ⟨_,hs',hh⟩
theorem tl (os:Os) (started:os.Started) (H:Type) (enc:TypeId×Value→H) :
 ReturnsInHanded {} Tryz.checked os 3 .any (Rows.boardServesAsSpecifiedSpec.pre6 enc Tryz.prog lf3 [] false) (Rows.boardServesAsSpecifiedSpec.post enc Tryz.prog lf3 false true false false):=
 sZ (C:=Tryz.checked) (tb:=4) (shs:=AA) (d:=8) abZ started (by kernel_rfl) uI
  (ChangeSpec.witness6 (enc:=enc) (C:=Tryz.checked) false ⟨#[],#[.agg #[.int .i64 0,.int .u32 0,.int .u32 0,.int .u32 0,.int .u32 0,.int .u32 0,.int .u32 0,.int .u32 0,.int .u32 0,.int .i64 0,.int .i64 0,.int .i64 0,.int .i64 0,.int .i64 0,.int .i64 0,.bool false,.bool false,.bool false,.bool false,.int .i64 0,.int .i64 0,.int .i64 0,.int .i64 0,.int .i64 0,.int .i64 0,.int .i64 0,.int .i64 0,.string ⟨#[]⟩,.int .i64 0,.int .u32 0,.int .u32 0,.int .i64 0,.int .i64 0,.slice none 0 0,.slice none 0 0,.int .u32 0,.int .u32 0,.int .u32 0,.int .u32 0,.int .i64 0,.int .i64 0,.int .i64 0,.int .i64 0],.agg #[.slice none 0 0],.int .u8 0,.int .i64 0,.agg #[.bool false,.int .i64 0,.int .u32 0]],[]⟩ 8 (by kernel_rfl) (by kernel_rfl) (by kernel_rfl) (by kernel_rfl))
  (by kernel_rfl) (by kernel_rfl) (by kernel_rfl) (by kernel_rfl) rfl
  (fun ds hd=>by obtain ⟨d1,d2,d3,d4,d5,rfl⟩:=S6 (n:=lf3.params.toList.length) hd (by kernel_rfl);exact ⟨rfl,rfl⟩) (fun ds hd=>by obtain ⟨d1,d2,d3,d4,d5,rfl⟩:=S6 (n:=lf3.params.toList.length) hd (by kernel_rfl);rfl)
  (by kernel_rfl) (by kernel_rfl) (by kernel_rfl) SU yY
end Go.Proofs.YtepcejdglbcbkaaGreat
