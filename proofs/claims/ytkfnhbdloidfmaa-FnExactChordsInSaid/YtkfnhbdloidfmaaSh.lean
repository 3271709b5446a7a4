/- Library contracts of the shelf, laid by its own tools at this dump. No condition. -/
import Derived.Shelf.Small.Bits
import Derived.Shelf.Strconv.Itoa0
import Derived.Shelf.Sort.Plain
import Derived.Ground.Names2Prog
import Derived.Shelf.Slices.CompactI
import Derived.Shelf.Slices.SearchI
import Derived.Shelf.Slices.Cells
import Derived.Shelf.Slices.In.SortNone
import Derived.Test.YtkfnhbdloidfmaaProg
namespace Go.Proofs
open Go.Shelf
def Try.lays189_ren : Go.Shelf.Ren := ⟨fun | 189 => 133 | 125 => 172 | 257 => 171 | 128 => 214 | 129 => 215 | 294 => 205 | 295 => 206 | 296 => 207 | 297 => 208 | 298 => 209 | 299 => 210 | 216 => 211 | 300 => 212 | 301 => 213 | 328 => 238 | 329 => 239 | 330 => 240 | 331 => 241 | 332 => 242 | 215 => 234 | 343 => 248 | n => n, fun | 28 => 30 | 3 => 3 | 46 => 204 | 0 => 0 | 51 => 230 | 53 => 232 | 4 => 4 | 183 => 223 | 182 => 222 | 131 => 227 | 5 => 5 | 9 => 9 | 218 => 245 | 222 => 249 | 228 => 254 | 229 => 255 | n => n, fun | n => n⟩
theorem Try.lays189 : Go.Proofs.Lays.n189 Try.prog Try.lays189_ren := {
  mixed := by kernel_rfl
  f125 := Try.func172.trans (congrArg some (by kernel_rfl))
  f128 := Try.func214.trans (congrArg some (by kernel_rfl))
  f129 := Try.func215.trans (congrArg some (by kernel_rfl))
  f189 := Try.func133.trans (congrArg some (by kernel_rfl))
  f215 := Try.func234.trans (congrArg some (by kernel_rfl))
  f216 := Try.func211.trans (congrArg some (by kernel_rfl))
  f257 := Try.func171.trans (congrArg some (by kernel_rfl))
  f294 := Try.func205.trans (congrArg some (by kernel_rfl))
  f295 := Try.func206.trans (congrArg some (by kernel_rfl))
  f296 := Try.func207.trans (congrArg some (by kernel_rfl))
  f297 := Try.func208.trans (congrArg some (by kernel_rfl))
  f298 := Try.func209.trans (congrArg some (by kernel_rfl))
  f299 := Try.func210.trans (congrArg some (by kernel_rfl))
  f300 := Try.func212.trans (congrArg some (by kernel_rfl))
  f301 := Try.func213.trans (congrArg some (by kernel_rfl))
  f328 := Try.func238.trans (congrArg some (by kernel_rfl))
  f329 := Try.func239.trans (congrArg some (by kernel_rfl))
  f330 := Try.func240.trans (congrArg some (by kernel_rfl))
  f331 := Try.func241.trans (congrArg some (by kernel_rfl))
  f332 := Try.func242.trans (congrArg some (by kernel_rfl))
  f343 := Try.func248.trans (congrArg some (by kernel_rfl))
  t0 := Try.underlying0
  a0 := Try.isAgg0
  z0 := Try.sizeOf0
  v0 := Try.zeroValue0
  t3 := Try.underlying3
  a3 := Try.isAgg3
  z3 := Try.sizeOf3
  v3 := Try.zeroValue3
  t4 := Try.underlying4
  a4 := Try.isAgg4
  z4 := Try.sizeOf4
  v4 := Try.zeroValue4
  t5 := Try.underlying5
  a5 := Try.isAgg5
  z5 := Try.sizeOf5
  v5 := Try.zeroValue5
  t9 := Try.underlying9
  a9 := Try.isAgg9
  z9 := Try.sizeOf9
  v9 := Try.zeroValue9
  t28 := Try.underlying30
  a28 := Try.isAgg30
  z28 := Try.sizeOf30
  v28 := Try.zeroValue30
  t46 := Try.underlying204
  a46 := Try.isAgg204
  z46 := Try.sizeOf204
  v46 := Try.zeroValue204
  t51 := Try.underlying230
  a51 := Try.isAgg230
  z51 := Try.sizeOf230
  v51 := Try.zeroValue230
  t53 := Try.underlying232
  a53 := Try.isAgg232
  z53 := Try.sizeOf232
  v53 := Try.zeroValue232
  t131 := Try.underlying227
  a131 := Try.isAgg227
  z131 := Try.sizeOf227
  v131 := Try.zeroValue227
  t182 := Try.underlying222
  a182 := Try.isAgg222
  z182 := Try.sizeOf222
  v182 := Try.zeroValue222
  t183 := Try.underlying223
  a183 := Try.isAgg223
  z183 := Try.sizeOf223
  v183 := Try.zeroValue223
  t218 := Try.underlying245
  a218 := Try.isAgg245
  z218 := Try.sizeOf245
  v218 := Try.zeroValue245
  t222 := Try.underlying249
  a222 := Try.isAgg249
  z222 := Try.sizeOf249
  v222 := Try.zeroValue249
  t228 := Try.underlying254
  a228 := Try.isAgg254
  z228 := Try.sizeOf254
  v228 := Try.zeroValue254
  t229 := Try.underlying255
  a229 := Try.isAgg255
  z229 := Try.sizeOf255
  v229 := Try.zeroValue255 }
open Go.Sort Go.RowKit in
theorem Try.slices_Sort_int (blk off cap : Nat) (zs : List Int) (w : World) (hH : Holds (Value.int .i64) w blk off zs.toArray) (hblk : blk < w.heap.size) (hsz : zs.length < 4611686018427387904) :
    Calls Try.prog 133 #[.slice (some ⟨blk, off, none⟩) zs.length cap] w fun e w' =>
      e = .returned (.tuple #[]) ∧ ∃ n os, w' = grow (putRow (Value.int .i64) (Sort.ahead w n) blk off (zs.mergeSort fun x y => decide (x ≤ y)).toArray) os := Any.slices_Sort_int Try.lays189 blk off cap zs w hH hblk hsz
open Go.RowKit Go.Sort in
/-- .. and plain. (LAID: no walk: one application.) -/
theorem Try.slices_Sort_int_none (p : Option Addr) (cap : Nat) (w : World) :
    Calls Try.prog 133 #[.slice p 0 cap] w fun e w' => e = .returned (.tuple #[]) ∧ w' = w := Any.slices_Sort_int_none Try.lays189 p cap w
end Go.Proofs
