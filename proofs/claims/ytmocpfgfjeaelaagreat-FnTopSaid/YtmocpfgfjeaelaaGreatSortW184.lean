/- slices.SortFunc at rows of events, laid. No condition. -/
import Derived.Test.YtmocpfgfjeaelaaGreatPureCmp
import Derived.Test.YtmocpfgfjeaelaaGreatSortF
import Derived.Test.YtmocpfgfjeaelaaGreatDraw4
import Derived.Shelf.SlSortCmp.NoneTotal
import Derived.Shelf.Lay
import Derived.Ground.SlsfProg
import Derived.WalkKit
import Derived.ProofKit
set_option linter.unusedVariables false
namespace Go.Proofs
open Go.Shelf Go.RowKit Go.Lib Go.Sort Go.Flat
shelf_lay_g SlLaysF0.n6 Slsf 6 at Tryz 184 as Tryz.kD
theorem Tryz.Xl:Go.Flat.Good Go.UO.C:=⟨by kernel_rfl,by kernel_rfl,by kernel_rfl⟩
theorem Tryz.Xm (x y:NM.den) (w:World):Calls Tryz.prog 164 #[.agg (cv NM x).toArray,.agg (cv NM y).toArray] w fun e w'=>e=.returned (.int .i64 (uG x y))/\∃ q os,w'=grow (w.drewN q) os:=by
 obtain ⟨k,hk⟩:=Go.UO.cmp_holds x y
 exact Wp (C:=Go.UO.C) (T:=NM) rfl rfl rfl rfl (JH Tryz.Xl (fun f p h=>by cases h) k) Tryz.func164 (by kernel_rfl) (by kernel_rfl) hk w
theorem Tryz.Ol (a:Option Addr) (c:Nat) (fv:Value) (w:World):Calls Tryz.prog 184 #[.slice a 0 c,fv] w fun e w'=>e=.returned (.tuple #[])/\w'=w:=
 AnyF.slices_SortFunc_none Tryz.kD a c fv w
theorem Tryz.Sz (bk o c:Nat) (xs:List NM.den) (w:World) (hH:HoldsK (cv NM) NM.sz w bk o xs.toArray) (hb:bk<w.heap.size) (hl:xs.length<4611686018427387904):Calls Tryz.prog 184 #[.slice (some ⟨bk,o,none⟩) xs.length c,.func (.func 164) #[] #[]] w fun e w'=>
  e=.returned (.tuple #[])/\∃ n os,w'=sortWorldK (cv NM) NM.sz w bk o n (Go.Flat.kD NM uG xs).toArray os:=by
 have h:=AnyQ.slices_SortFunc_eq Tryz.kD NM.sz Tryz.isAgg40 Tryz.sizeOf40 (cv NM) (fun x=>CP rfl) (fun x=>ZM rfl) uG Bg 164 #[] bk o c xs.toArray w (enters_of Tryz.func164 (by kernel_rfl) rfl) (fun m os dk _ x y=>Tryz.Xm x y _) hH hb hl
 exact h
theorem Tryz.QH (l:List NM.den):(Go.Flat.kD NM uG l).length=l.length:=Go.Flat.EZ Bg l
end Go.Proofs
