/-
  The walk of StatNone.
-/
import Derived.Test.YtnmlngpkhlafgaaStat9
set_option linter.unusedSimpArgs false
namespace Go.Proofs.Ytnmlngpkhlafgaa
open Go.RowKit Go.Shr
set_option maxHeartbeats 1000000 in
theorem law_none (n op : Int) (v : Vl) (w : World) (_ : (Lit.int .i64 n).wf = true) (_ : (Lit.int .i64 op).wf = true) (_ : v.s.size ≤ maxLen) :
    Calls Try.prog 7 #[.int .i64 n, .int .i64 op, .agg #[.int .i64 v.n, .string v.s]] w fun e w' => e = .returned (.bool true) ∧ Below w.heap.size w w' := by

  obtain ⟨vn, vs⟩ := v
  simp only
  go_enter Try.func7, Try.ntmps7
  go_wp2_with fail
  refine (known_v _).mono ?_
  rintro e w1 ⟨rfl, hb1⟩
  have HB1 : Hid (Below w.heap.size w w1) := Lib.hid (bt (ba (Below.refl _ _) _) hb1)
  have hR : Rw w1 w.heap.size #[.int .i64 vn, .string vs] 35 := Rw.below (Rw.new w _ _) hb1
  have c1 : w1.cell? ⟨w.heap.size, 1, none⟩ = some (.string vs) := hR.cell 1
  have hlt := hR.lt
  have HR := Lib.hid hR
  clear hb1 hR
  by_cases hs : vs.size ≤ 100
  · go_wp2_with fail
    refine (within_17 n 5 w1 (by decide) (by decide)).mono ?_
    rintro e w2 ⟨rfl, rfl⟩
    have r1 := Int.emod_nonneg n (show (5 : Int) ≠ 0 by decide)
    have r2 := Int.emod_lt_of_pos n (show (0 : Int) < 5 by decide)
    generalize n % 5 = r at *
    go_wp2_with fail
    refine (within_17 op 7 _ (by decide) (by decide)).mono ?_
    rintro e w2 ⟨rfl, rfl⟩
    have p1 := Int.emod_nonneg op (show (7 : Int) ≠ 0 by decide)
    have p2 := Int.emod_lt_of_pos op (show (0 : Int) < 7 by decide)
    generalize op % 7 = p at *
    go_wp2_with fail
    refine (may_v 4 (noS r) p ⟨0, vs⟩ _).mono ?_
    rintro e w3 ⟨rfl, hb3⟩
    have hR3 := ((HR.out.alloc (.cells #[.int .i64 r, .bool false, .int .i64 0, .string ByteArray.empty, .int .i64 0, .string ByteArray.empty] 37))).below hb3
    have hS3 := (Rw.new w1 #[.int .i64 r, .bool false, .int .i64 0, .string ByteArray.empty, .int .i64 0, .string ByteArray.empty] 37).below hb3
    have HB3 : Hid (Below w.heap.size w w3) := Lib.hid (bt (ba HB1.out _) hb3)
    have d0 : w3.cell? ⟨w1.heap.size, 0, none⟩ = some (.int .i64 r) := hS3.cell 0
    clear hR3 hS3 hb3
    have hmay : mayV 4 (noS r) p ⟨0, vs⟩ = if p = 5 then decide (0 < r) else false := by
      unfold mayV; rfl
    rw [hmay]; clear hmay
    have hfin : ∀ q : Int, 0 ≤ q → mayV 3 ⟨0, true, Vl.zero, Vl.zero⟩ (6 + q) Vl.zero = false := fun q hq => by
      unfold mayV
      rw [if_neg (by omega), if_neg (by decide), if_neg (by omega), if_neg (by omega), if_neg (by omega), if_neg (by omega), if_neg (by omega)]
    have HF := Lib.hid hfin; clear hfin
    by_cases hp : p = 5
    · rw [if_pos hp]
      have hpb : (p == 5) = true := beq_iff_eq.2 hp
      clear hp
      by_cases hr : 0 < r
      all_goals
        go_wp2_with fail
        refine (within_17 n 9 w3 (by decide) (by decide)).mono ?_
        rintro e w4 ⟨rfl, rfl⟩
        have u1 := Int.emod_nonneg n (show (9 : Int) ≠ 0 by decide)
        have u2 := Int.emod_lt_of_pos n (show (0 : Int) < 9 by decide)
        generalize n % 9 = u at *
        go_wp2_with fail
        refine (may_v 3 ⟨0, true, Vl.zero, Vl.zero⟩ (6 + u) Vl.zero _).mono ?_
        rintro e w5 ⟨rfl, hb5⟩
        rw [HF.out u u1]
        go_wp2_with fail
        go_ret
        exact ⟨rfl, bt HB3.out hb5⟩
    · rw [if_neg hp]
      have hpb : (p == 5) = false := beq_eq_false_iff_ne.2 hp
      clear hp
      go_wp2_with fail
      refine (within_17 n 9 w3 (by decide) (by decide)).mono ?_
      rintro e w4 ⟨rfl, rfl⟩
      have u1 := Int.emod_nonneg n (show (9 : Int) ≠ 0 by decide)
      have u2 := Int.emod_lt_of_pos n (show (0 : Int) < 9 by decide)
      generalize n % 9 = u at *
      go_wp2_with fail
      refine (may_v 3 ⟨0, true, Vl.zero, Vl.zero⟩ (6 + u) Vl.zero _).mono ?_
      rintro e w5 ⟨rfl, hb5⟩
      rw [HF.out u u1]
      go_wp2_with fail
      go_ret
      exact ⟨rfl, bt HB3.out hb5⟩
  · go_wp2_with fail
    go_ret
    exact ⟨rfl, HB1.out⟩
end Go.Proofs.Ytnmlngpkhlafgaa
