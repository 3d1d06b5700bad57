import Derived.Test.YtjbkjfefjhbolaakSchP
set_option linter.all false
namespace Go.Proofs.Ytjbkjfefjhbolaa
open Go.RowKit Go.Shr
theorem qE (a n : Int) (w : World) (hn : 0 < n) (hn2 : n ≤ 1000000) : Calls Try.prog 17 #[.int .i64 a, .int .i64 n] w fun e w' => e = .returned (.int .i64 (a % n)) ∧ w = w' := by
 have h1 := Int.tmod_lt_of_pos a hn
 have h3 : -n < a.tmod n := by
  have := Int.lt_tmod_of_pos a hn
  omega
 have H := zH (zDH a n hn)
 go_enter Try.func17, Try.ntmps17
 go_wp2
 ·go_ret
  exact ⟨zX (H.out.1 (by assumption)), rfl⟩
 ·go_ret
  exact ⟨zX (H.out.2 (by assumption)), rfl⟩
end Go.Proofs.Ytjbkjfefjhbolaa
