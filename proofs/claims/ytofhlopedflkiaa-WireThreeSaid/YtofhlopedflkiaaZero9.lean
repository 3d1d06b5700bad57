/-
  append of so many zeros, one cell each, at a full row: a new row. No program in sight.
-/
import Derived.Test.YtofhlopedflkiaaBase2
set_option linter.unusedSimpArgs false
namespace Go.Shr
open Go.RowKit
theorem zeroCells_one (z : Value) (n : Nat) : Builtin.zeroCells #[z] n = (List.replicate n z).toArray := by
  apply Array.ext
  · simp [Builtin.zeroCells]
  · intro i h1 h2
    simp [Builtin.zeroCells, Nat.mod_one]
theorem run_append_zeros {P : Program} {w : World} (t tx ty e : TypeId) (i : TypeInfo) (z : Value) (ht : P.underlying t = some (.slice e)) (htx : P.underlying tx = some (.int .i64)) (hi : P.info? e = some i) (hz : i.zero = some z) (hzc : z.cells = #[z]) (hsize : i.size = 1) (hby : i.bytes = 1) (base : Option Addr) (sLen sCap : Nat) (olds : List Value)
    (hold : (Builtin.firstCells i.size sLen (.slice base sLen sCap)).run P w.drew = .ok olds.toArray w.drew) (n : Nat) (hn0 : 0 < n) (hn1 : n ≤ 1000) (hs : sLen ≤ 1000)
    (hg : sCap < sLen + n) :
    (Builtin.append_ #[t, tx] ty #[.slice base sLen sCap, .int .i64 (n : Int)]).run P w =
      .ok (.slice (some ⟨w.heap.size, 0, none⟩) (sLen + n) (grownCap w (sLen + n) sCap e))
        (w.drew.alloc (.cells ((olds ++ List.replicate n z).toArray ++ Builtin.zeroCells z.cells (grownCap w (sLen + n) sCap e - (sLen + n))) e)) := by
  have hn : ¬ (sLen + n ≤ sCap) := by omega
  have h63' : ¬ (9223372036854775807 < ((sLen : Int) + (n : Int))) := by omega
  have hfit : Builtin.nextslicecap (sLen + n) sCap * i.bytes ≤ 281474976710656 := growslice_fits hg (by rw [hby]; omega)
  have h48' : ¬ (281474976710656 < Builtin.nextslicecap (sLen + n) sCap * i.bytes) := by omega
  have has : ∀ w, (asInt (.int .i64 (n : Int))).run P w = .ok (n : Int) w := fun _ => rfl
  have hwr : IntKind.i64.wrap (n : Int) = (n : Int) := by rw [IntKind.wrap_i64]; omega
  have hneg : ¬ ((n : Int) < 0) := by omega
  have hmk : ¬ (281474976710656 < (n : Int) * (i.bytes : Int)) := by rw [hby]; omega
  have hnz : ¬ (n * i.size = 0) := by rw [hsize]; omega
  have hzz : Builtin.zeroCells z.cells n = (List.replicate n z).toArray := by rw [hzc, zeroCells_one]
  rw [hsize] at hnz hold
  rw [hby, Nat.mul_one] at h48'
  have hm1 : ¬ ((281474976710656 : Int) < (n : Int)) := by omega
  have hn00 : ¬ (n = 0) := by omega
  simp [Builtin.append_, run_underlying ht, run_underlying htx, sizeOf, typeInfo, zeroValue, hi, hz, hn, h63', h48', Question.forced, hold, newRow, grownCap, has, hwr, hneg, hm1, hn00, hsize, hby, hzz]
  all_goals (first | done | (congr 2; apply Array.ext'; simp [List.append_assoc]))
end Go.Shr
