/-
  Plain: zig and zag. No program in sight.
-/
import Derived.Test.YtklimbadankdkaaPlain
namespace Go.Shr
open Go.RowKit
theorem xor_zero (k : IntKind) (x : Int) (n : Nat) (hx : x = (n : Int)) (hn : n < 2 ^ k.bits) (hk : k.wrap x = x) : bits .xor k x 0 = x := by
  subst hx
  simp only [bits, BitVec.ofInt_natCast, BitVec.toNat_xor, BitVec.toNat_ofNat, Nat.mod_eq_of_lt hn]
  simpa using hk
theorem xor_ones_i64 (x : Nat) (hx : x < 9223372036854775808) : bits .xor .i64 (x : Int) (-1) = -(x : Int) - 1 := by
  have e : BitVec.ofInt 64 (-1) = BitVec.allOnes 64 := by decide
  show IntKind.i64.wrap ((BitVec.ofInt 64 (x : Int) ^^^ BitVec.ofInt 64 (-1)).toNat : Int) = _
  rw [e, BitVec.xor_allOnes, BitVec.toNat_not, BitVec.ofInt_natCast, BitVec.toNat_ofNat, Nat.mod_eq_of_lt (by omega), IntKind.wrap_i64]
  omega
theorem xor_ones_u64 (x : Nat) (hx : x < 18446744073709551616) : bits .xor .u64 (x : Int) 18446744073709551615 = 18446744073709551615 - (x : Int) := by
  have e : BitVec.ofInt 64 18446744073709551615 = BitVec.allOnes 64 := by decide
  show IntKind.u64.wrap ((BitVec.ofInt 64 (x : Int) ^^^ BitVec.ofInt 64 18446744073709551615).toNat : Int) = _
  rw [e, BitVec.xor_allOnes, BitVec.toNat_not, BitVec.ofInt_natCast, BitVec.toNat_ofNat, Nat.mod_eq_of_lt (by omega), IntKind.wrap_u64]
  omega
theorem and_one (u : Nat) (hu : u < 18446744073709551616) : bits .and .u64 (u : Int) 1 = ((u % 2 : Nat) : Int) := by
  rw [show (1 : Int) = ((1 : Nat) : Int) from rfl, bits_and_u64_nat u 1 hu (by decide), Nat.and_one_is_mod]
theorem zag_eq (u : Nat) (hu : u < 18446744073709551616) : bits .xor .i64 (wrap64 ((u : Int) / 2)) (wrap64 (-wrap64 (bits .and .u64 (u : Int) 1))) = zag u := by
  have e1 : wrap64 ((u : Int) / 2) = ((u / 2 : Nat) : Int) := by simp only [wrap64]; omega
  rw [and_one u hu, e1, zag]
  rcases Nat.mod_two_eq_zero_or_one u with h | h
  · rw [h, if_pos rfl, show wrap64 (-wrap64 ((0 : Nat) : Int)) = 0 by decide +kernel]
    exact xor_zero .i64 _ _ rfl (by show _ < 2 ^ 64; omega) (by rw [IntKind.wrap_i64]; omega)
  · rw [h, if_neg (by decide), show wrap64 (-wrap64 ((1 : Nat) : Int)) = -1 by decide +kernel]
    exact xor_ones_i64 _ (by omega)
theorem zig_eq (a : Int) (ha : -9223372036854775808 ≤ a ∧ a ≤ 9223372036854775807) :
    bits .xor .u64 (IntKind.u64.wrap (IntKind.u64.wrap a * 2)) (IntKind.u64.wrap (a / 9223372036854775808)) = (zig a : Int) := by
  have e1 : IntKind.u64.wrap (IntKind.u64.wrap a * 2) = (((2 * a) % 18446744073709551616).toNat : Int) := by simp only [IntKind.wrap_u64]; omega
  rw [e1, zig]
  by_cases h : 0 ≤ a
  · rw [if_pos h, show IntKind.u64.wrap (a / 9223372036854775808) = 0 by rw [IntKind.wrap_u64]; omega]
    rw [xor_zero .u64 _ _ rfl (by show _ < 2 ^ 64; omega) (by rw [IntKind.wrap_u64]; omega)]
    omega
  · rw [if_neg h, show IntKind.u64.wrap (a / 9223372036854775808) = 18446744073709551615 by rw [IntKind.wrap_u64]; omega, xor_ones_u64 _ (by omega)]
    omega
theorem zig_lt (a : Int) (ha : -9223372036854775808 ≤ a ∧ a ≤ 9223372036854775807) : zig a < 18446744073709551616 := by unfold zig; split <;> omega
theorem zag_in (u : Nat) (hu : u < 18446744073709551616) : -9223372036854775808 ≤ zag u ∧ zag u ≤ 9223372036854775807 := by unfold zag; split <;> omega
theorem zag_zig (a : Int) : zag (zig a) = a := by unfold zag zig; split <;> split <;> omega
theorem zig_zag (u : Nat) : zig (zag u) = u := by unfold zag zig; split <;> split <;> omega
end Go.Shr
