/-
  Zig, Zag, within.
-/
import Derived.Test.YtklimbadankdkaaProg
import Derived.Test.YtklimbadankdkaaZigP
namespace Go.Proofs.Ytklimbadankdkaa
open Go.RowKit Go.Shr
theorem ret_i64 {a b : Int} (h : a = b) : Ending.returned (.int .i64 a) = .returned (.int .i64 b) := by rw [h]
theorem ret_u64 {a b : Int} (h : a = b) : Ending.returned (.int .u64 a) = .returned (.int .u64 b) := by rw [h]
theorem zag_u (u : Nat) (w : World) (hu : Hid (u < 18446744073709551616)) :
    Calls Try.prog 15 #[.int .u64 u] w fun e w' => e = .returned (.int .i64 (zag u)) ∧ w = w' := by
  go_enter Try.func15, Try.ntmps15
  go_wp2
  go_ret
  exact ⟨ret_i64 (zag_eq u hu.out), rfl⟩
theorem rzag_u (u : Nat) (w : World) (hu : Hid (u < 18446744073709551616)) :
    Calls Try.prog 16 #[.int .u64 u] w fun e w' => e = .returned (.int .i64 (zag u)) ∧ w = w' := by
  go_enter Try.func16, Try.ntmps16
  go_wp2
  go_ret
  exact ⟨ret_i64 (zag_eq u hu.out), rfl⟩
theorem zig_i (a : Int) (w : World) (ha : Hid (-9223372036854775808 ≤ a ∧ a ≤ 9223372036854775807)) :
    Calls Try.prog 13 #[.int .i64 a] w fun e w' => e = .returned (.int .u64 (zig a)) ∧ w = w' := by
  go_enter Try.func13, Try.ntmps13
  go_wp2
  go_ret
  exact ⟨ret_u64 (zig_eq a ha.out), rfl⟩
theorem rzig_i (a : Int) (w : World) (ha : Hid (-9223372036854775808 ≤ a ∧ a ≤ 9223372036854775807)) :
    Calls Try.prog 14 #[.int .i64 a] w fun e w' => e = .returned (.int .u64 (zig a)) ∧ w = w' := by
  go_enter Try.func14, Try.ntmps14
  go_wp2
  go_ret
  exact ⟨ret_u64 (zig_eq a ha.out), rfl⟩
theorem within_i (a n : Int) (w : World) (hn : 0 < n) (hn2 : n ≤ 1000000) :
    Calls Try.prog 11 #[.int .i64 a, .int .i64 n] w fun e w' => e = .returned (.int .i64 (a % n)) ∧ w = w' := by
  have h1 := Int.tmod_lt_of_pos a hn
  have h3 : -n < a.tmod n := by
    have := Int.lt_tmod_of_pos a hn
    omega
  have H := Lib.hid (tmod_fix a n hn)
  go_enter Try.func11, Try.ntmps11
  go_wp2
  · go_ret
    exact ⟨ret_i64 (H.out.1 (by assumption)), rfl⟩
  · go_ret
    exact ⟨ret_i64 (H.out.2 (by assumption)), rfl⟩
end Go.Proofs.Ytklimbadankdkaa
