/-
 The walk of within (law 14).
-/
import Derived.Test.YtibhcibcfommeaaPlain
import Derived.Test.YtibhcibcfommeaaSch3
set_option linter.unusedSimpArgs false
namespace Go.Proofs.Ytibhcibcfommeaa
open Go.RowKit Go.Shr
theorem within_14 (a n : Int) (w : World) (hn : 0 < n) (hn2 : n ≤ 1000000) : Calls Try.prog 20 #[.int .i64 a, .int .i64 n] w fun e w' => e = .returned (.int .i64 (a % n)) ∧ w = w' := by
 have h1 := Int.tmod_lt_of_pos a hn
 have h3 : -n < a.tmod n := by
  have := Int.lt_tmod_of_pos a hn
  omega
 have H := Lib.hid (tmod_fix a n hn)
 go_enter Try.func20, Try.ntmps20
 go_wp2
 ·go_ret
  exact ⟨ret_i (H.out.1 (by assumption)), rfl⟩
 ·go_ret
  exact ⟨ret_i (H.out.2 (by assumption)), rfl⟩
end Go.Proofs.Ytibhcibcfommeaa
