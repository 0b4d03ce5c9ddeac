/-
  The product of two words by the library's contract, laid at this program (printed by lay-plain.mjs).
  No conditions.
-/
import Derived.Shelf.Bits.Mul64
import Derived.Test.YtpklcjbdmikbdaaProg
namespace Go.Proofs.Ytpklcjbdmikbdaa
open Go.Shelf
def layM264_ren : Go.Shelf.Ren := ⟨fun | 264 => 107 | n => n, fun | 53 => 106 | 46 => 129 | n => n, fun | n => n⟩
theorem layM264 : Go.Proofs.Lays.n264 Try.prog layM264_ren := {
  mixed := by kernel_rfl
  f264 := Try.func107.trans (congrArg some (by kernel_rfl))
  t46 := Try.underlying129
  a46 := Try.isAgg129
  z46 := Try.sizeOf129
  v46 := Try.zeroValue129
  t53 := Try.underlying106
  a53 := Try.isAgg106
  z53 := Try.sizeOf106
  v53 := Try.zeroValue106 }
open Go.RowKit Go.Lib in
theorem bits_Mul64 (x y : Nat) (hx : x < 18446744073709551616) (hy : y < 18446744073709551616) (w : World) :
    Calls Try.prog 107 #[.int .u64 x, .int .u64 y] w fun e w' => e = .returned (.tuple #[.int .u64 ((x * y / 18446744073709551616 : Nat) : Int), .int .u64 ((x * y % 18446744073709551616 : Nat) : Int)]) ∧ w' = w := Any.bits_Mul64 layM264 x y hx hy w
def layM212_ren : Go.Shelf.Ren := ⟨fun | 212 => 99 | 263 => 106 | 264 => 107 | n => n, fun | 46 => 129 | 51 => 128 | 146 => 142 | 53 => 106 | 148 => 145 | n => n, fun | n => n⟩
theorem layM212 : Go.Proofs.Lays.n212 Try.prog layM212_ren := {
  mixed := by kernel_rfl
  f212 := Try.func99.trans (congrArg some (by kernel_rfl))
  f263 := Try.func106.trans (congrArg some (by kernel_rfl))
  f264 := Try.func107.trans (congrArg some (by kernel_rfl))
  t46 := Try.underlying129
  a46 := Try.isAgg129
  z46 := Try.sizeOf129
  v46 := Try.zeroValue129
  t51 := Try.underlying128
  a51 := Try.isAgg128
  z51 := Try.sizeOf128
  v51 := Try.zeroValue128
  t53 := Try.underlying106
  a53 := Try.isAgg106
  z53 := Try.sizeOf106
  v53 := Try.zeroValue106
  t146 := Try.underlying142
  a146 := Try.isAgg142
  z146 := Try.sizeOf142
  v146 := Try.zeroValue142
  t148 := Try.underlying145
  a148 := Try.isAgg145
  z148 := Try.sizeOf145
  v148 := Try.zeroValue145 }
open Go.RowKit Go.Lib in
theorem bits_Mul (x y : Nat) (hx : x < 18446744073709551616) (hy : y < 18446744073709551616) (w : World) :
    Calls Try.prog 99 #[.int .u64 x, .int .u64 y] w fun e w' => e = .returned (.tuple #[.int .u64 ((x * y / 18446744073709551616 : Nat) : Int), .int .u64 ((x * y % 18446744073709551616 : Nat) : Int)]) ∧ w' = w := Any.bits_Mul layM212 x y hx hy w
end Go.Proofs.Ytpklcjbdmikbdaa
