/-
  The library's contracts that this layer calls, at this dump (printed by the kit's own tools; of the blocks the ones that are used). No condition besides what each asks.
-/
import Derived.Shelf.Sort.Plain
import Derived.Shelf.Slices.In.SortNone
import Derived.Test.YtopamnfelngkcaaDoorProg
namespace Go.Proofs
open Go.Shelf Go.Sort Go.RowKit
def Tryd.lays190_ren : Go.Shelf.Ren := ⟨fun | 190 => 101 | 125 => 116 | 258 => 115 | 128 => 138 | 129 => 139 | 302 => 129 | 303 => 130 | 304 => 131 | 305 => 132 | 306 => 133 | 307 => 134 | 308 => 135 | 309 => 136 | 310 => 137 | 333 => 145 | 329 => 146 | 330 => 147 | 334 => 148 | 335 => 149 | 336 => 150 | 344 => 151 | n => n, fun | 31 => 22 | 9 => 9 | 3 => 3 | 46 => 80 | 0 => 0 | 51 => 75 | 53 => 116 | 4 => 4 | 183 => 138 | 182 => 137 | 131 => 101 | 5 => 5 | 218 => 148 | 222 => 152 | 228 => 158 | 229 => 159 | n => n, fun | n => n⟩
theorem Tryd.lays190 : Go.Proofs.Lays.n190 Tryd.prog Tryd.lays190_ren := {
  mixed := by kernel_rfl
  f125 := Tryd.func116.trans (congrArg some (by kernel_rfl))
  f128 := Tryd.func138.trans (congrArg some (by kernel_rfl))
  f129 := Tryd.func139.trans (congrArg some (by kernel_rfl))
  f190 := Tryd.func101.trans (congrArg some (by kernel_rfl))
  f258 := Tryd.func115.trans (congrArg some (by kernel_rfl))
  f302 := Tryd.func129.trans (congrArg some (by kernel_rfl))
  f303 := Tryd.func130.trans (congrArg some (by kernel_rfl))
  f304 := Tryd.func131.trans (congrArg some (by kernel_rfl))
  f305 := Tryd.func132.trans (congrArg some (by kernel_rfl))
  f306 := Tryd.func133.trans (congrArg some (by kernel_rfl))
  f307 := Tryd.func134.trans (congrArg some (by kernel_rfl))
  f308 := Tryd.func135.trans (congrArg some (by kernel_rfl))
  f309 := Tryd.func136.trans (congrArg some (by kernel_rfl))
  f310 := Tryd.func137.trans (congrArg some (by kernel_rfl))
  f329 := Tryd.func146.trans (congrArg some (by kernel_rfl))
  f330 := Tryd.func147.trans (congrArg some (by kernel_rfl))
  f333 := Tryd.func145.trans (congrArg some (by kernel_rfl))
  f334 := Tryd.func148.trans (congrArg some (by kernel_rfl))
  f335 := Tryd.func149.trans (congrArg some (by kernel_rfl))
  f336 := Tryd.func150.trans (congrArg some (by kernel_rfl))
  f344 := Tryd.func151.trans (congrArg some (by kernel_rfl))
  t0 := Tryd.underlying0
  a0 := Tryd.isAgg0
  z0 := Tryd.sizeOf0
  v0 := Tryd.zeroValue0
  t3 := Tryd.underlying3
  a3 := Tryd.isAgg3
  z3 := Tryd.sizeOf3
  v3 := Tryd.zeroValue3
  t4 := Tryd.underlying4
  a4 := Tryd.isAgg4
  z4 := Tryd.sizeOf4
  v4 := Tryd.zeroValue4
  t5 := Tryd.underlying5
  a5 := Tryd.isAgg5
  z5 := Tryd.sizeOf5
  v5 := Tryd.zeroValue5
  t9 := Tryd.underlying9
  a9 := Tryd.isAgg9
  z9 := Tryd.sizeOf9
  v9 := Tryd.zeroValue9
  t31 := Tryd.underlying22
  a31 := Tryd.isAgg22
  z31 := Tryd.sizeOf22
  v31 := Tryd.zeroValue22
  t46 := Tryd.underlying80
  a46 := Tryd.isAgg80
  z46 := Tryd.sizeOf80
  v46 := Tryd.zeroValue80
  t51 := Tryd.underlying75
  a51 := Tryd.isAgg75
  z51 := Tryd.sizeOf75
  v51 := Tryd.zeroValue75
  t53 := Tryd.underlying116
  a53 := Tryd.isAgg116
  z53 := Tryd.sizeOf116
  v53 := Tryd.zeroValue116
  t131 := Tryd.underlying101
  a131 := Tryd.isAgg101
  z131 := Tryd.sizeOf101
  v131 := Tryd.zeroValue101
  t182 := Tryd.underlying137
  a182 := Tryd.isAgg137
  z182 := Tryd.sizeOf137
  v182 := Tryd.zeroValue137
  t183 := Tryd.underlying138
  a183 := Tryd.isAgg138
  z183 := Tryd.sizeOf138
  v183 := Tryd.zeroValue138
  t218 := Tryd.underlying148
  a218 := Tryd.isAgg148
  z218 := Tryd.sizeOf148
  v218 := Tryd.zeroValue148
  t222 := Tryd.underlying152
  a222 := Tryd.isAgg152
  z222 := Tryd.sizeOf152
  v222 := Tryd.zeroValue152
  t228 := Tryd.underlying158
  a228 := Tryd.isAgg158
  z228 := Tryd.sizeOf158
  v228 := Tryd.zeroValue158
  t229 := Tryd.underlying159
  a229 := Tryd.isAgg159
  z229 := Tryd.sizeOf159
  v229 := Tryd.zeroValue159 }
theorem Tryd.slices_Sort_string (blk off cap : Nat) (ss : List (List UInt8)) (w : World) (hH : Holds encStr w blk off ss.toArray) (hblk : blk < w.heap.size) (hsz : ss.length < 4611686018427387904) :
    Calls Tryd.prog 101 #[.slice (some ⟨blk, off, none⟩) ss.length cap] w fun e w' =>
      e = .returned (.tuple #[]) ∧ ∃ n os, w' = grow (putRow encStr (Sort.ahead w n) blk off (ss.mergeSort fun x y => decide (x ≤ y)).toArray) os := Any.slices_Sort_string Tryd.lays190 blk off cap ss w hH hblk hsz
open Go.RowKit Go.Sort in
/-- .. and plain. (LAID: no walk: one application.) -/
theorem Tryd.slices_Sort_string_none (p : Option Addr) (cap : Nat) (w : World) :
    Calls Tryd.prog 101 #[.slice p 0 cap] w fun e w' => e = .returned (.tuple #[]) ∧ w' = w := Any.slices_Sort_string_none Tryd.lays190 p cap w
end Go.Proofs
