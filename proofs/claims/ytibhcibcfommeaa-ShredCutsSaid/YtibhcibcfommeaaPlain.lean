/-
 Plain: bytes as cells, varints. No program in sight.
-/
import Derived.Test.YtibhcibcfommeaaBase
namespace Go.Shr
open Go.RowKit

theorem tmod_fix (a n : Int) (hn : 0 < n) : (a.tmod n < 0 → a.tmod n + n = a % n) ∧ (0 ≤ a.tmod n → a.tmod n = a % n) := by
 rw [Int.tmod_eq_emod]
 have h1 := Int.emod_nonneg a (Int.ne_of_gt hn)
 have h2 := Int.emod_lt_of_pos a hn
 have h3 : (n.natAbs : Int) = n := by omega
 constructor
 ·intro h; split at h <;> split <;> omega
 ·intro h; split at h <;> split <;> omega
end Go.Shr
