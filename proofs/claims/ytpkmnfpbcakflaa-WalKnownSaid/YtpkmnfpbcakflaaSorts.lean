/- The contract of slices.Sort at []string, laid over this program. No condition. -/
import Derived.Shelf.Sort.Plain
import Derived.Test.YtpkmnfpbcakflaaProg
namespace Go.Proofs.Ytpkmnfpbcakflaa
open Go.Shelf
def lays190_ren : Go.Shelf.Ren := ⟨fun | 190 => 53 | 125 => 79 | 258 => 78 | 128 => 108 | 129 => 109 | 302 => 99 | 303 => 100 | 304 => 101 | 305 => 102 | 306 => 103 | 307 => 104 | 308 => 105 | 309 => 106 | 310 => 107 | 333 => 123 | 329 => 124 | 330 => 125 | 334 => 126 | 335 => 127 | 336 => 128 | 344 => 135 | n => n, fun | 31 => 43 | 9 => 9 | 3 => 3 | 46 => 96 | 0 => 0 | 51 => 114 | 53 => 66 | 4 => 4 | 183 => 137 | 182 => 136 | 131 => 142 | 5 => 5 | 218 => 160 | 222 => 163 | 228 => 171 | 229 => 172 | n => n, fun | n => n⟩
theorem lays190 : Go.Proofs.Lays.n190 Try.prog lays190_ren := {
  mixed := by kernel_rfl
  f125 := Try.func79.trans (congrArg some (by kernel_rfl))
  f128 := Try.func108.trans (congrArg some (by kernel_rfl))
  f129 := Try.func109.trans (congrArg some (by kernel_rfl))
  f190 := Try.func53.trans (congrArg some (by kernel_rfl))
  f258 := Try.func78.trans (congrArg some (by kernel_rfl))
  f302 := Try.func99.trans (congrArg some (by kernel_rfl))
  f303 := Try.func100.trans (congrArg some (by kernel_rfl))
  f304 := Try.func101.trans (congrArg some (by kernel_rfl))
  f305 := Try.func102.trans (congrArg some (by kernel_rfl))
  f306 := Try.func103.trans (congrArg some (by kernel_rfl))
  f307 := Try.func104.trans (congrArg some (by kernel_rfl))
  f308 := Try.func105.trans (congrArg some (by kernel_rfl))
  f309 := Try.func106.trans (congrArg some (by kernel_rfl))
  f310 := Try.func107.trans (congrArg some (by kernel_rfl))
  f329 := Try.func124.trans (congrArg some (by kernel_rfl))
  f330 := Try.func125.trans (congrArg some (by kernel_rfl))
  f333 := Try.func123.trans (congrArg some (by kernel_rfl))
  f334 := Try.func126.trans (congrArg some (by kernel_rfl))
  f335 := Try.func127.trans (congrArg some (by kernel_rfl))
  f336 := Try.func128.trans (congrArg some (by kernel_rfl))
  f344 := Try.func135.trans (congrArg some (by kernel_rfl))
  t0 := Try.underlying0
  a0 := Try.isAgg0
  z0 := Try.sizeOf0
  v0 := Try.zeroValue0
  t3 := Try.underlying3
  a3 := Try.isAgg3
  z3 := Try.sizeOf3
  v3 := Try.zeroValue3
  t4 := Try.underlying4
  a4 := Try.isAgg4
  z4 := Try.sizeOf4
  v4 := Try.zeroValue4
  t5 := Try.underlying5
  a5 := Try.isAgg5
  z5 := Try.sizeOf5
  v5 := Try.zeroValue5
  t9 := Try.underlying9
  a9 := Try.isAgg9
  z9 := Try.sizeOf9
  v9 := Try.zeroValue9
  t31 := Try.underlying43
  a31 := Try.isAgg43
  z31 := Try.sizeOf43
  v31 := Try.zeroValue43
  t46 := Try.underlying96
  a46 := Try.isAgg96
  z46 := Try.sizeOf96
  v46 := Try.zeroValue96
  t51 := Try.underlying114
  a51 := Try.isAgg114
  z51 := Try.sizeOf114
  v51 := Try.zeroValue114
  t53 := Try.underlying66
  a53 := Try.isAgg66
  z53 := Try.sizeOf66
  v53 := Try.zeroValue66
  t131 := Try.underlying142
  a131 := Try.isAgg142
  z131 := Try.sizeOf142
  v131 := Try.zeroValue142
  t182 := Try.underlying136
  a182 := Try.isAgg136
  z182 := Try.sizeOf136
  v182 := Try.zeroValue136
  t183 := Try.underlying137
  a183 := Try.isAgg137
  z183 := Try.sizeOf137
  v183 := Try.zeroValue137
  t218 := Try.underlying160
  a218 := Try.isAgg160
  z218 := Try.sizeOf160
  v218 := Try.zeroValue160
  t222 := Try.underlying163
  a222 := Try.isAgg163
  z222 := Try.sizeOf163
  v222 := Try.zeroValue163
  t228 := Try.underlying171
  a228 := Try.isAgg171
  z228 := Try.sizeOf171
  v228 := Try.zeroValue171
  t229 := Try.underlying172
  a229 := Try.isAgg172
  z229 := Try.sizeOf172
  v229 := Try.zeroValue172 }
open Go.Sort Go.RowKit in
theorem slices_Sort_string (blk off cap : Nat) (ss : List (List UInt8)) (w : World) (hH : Holds encStr w blk off ss.toArray) (hblk : blk < w.heap.size) (hsz : ss.length < 4611686018427387904) :
    Calls Try.prog 53 #[.slice (some ⟨blk, off, none⟩) ss.length cap] w fun e w' =>
      e = .returned (.tuple #[]) ∧ ∃ n os, w' = grow (putRow encStr (Sort.ahead w n) blk off (ss.mergeSort fun x y => decide (x ≤ y)).toArray) os := Any.slices_Sort_string lays190 blk off cap ss w hH hblk hsz
end Go.Proofs.Ytpkmnfpbcakflaa
