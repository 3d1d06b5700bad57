/-
  The walks of Same, known, within (law 17).
-/
import Derived.Test.YtnmlngpkhlafgaaStat6
set_option linter.unusedSimpArgs false
namespace Go.Proofs.Ytnmlngpkhlafgaa
open Go.RowKit Go.Shr
def sameS (x y : St) : Bool := x.nulls == y.nulls && x.has == y.has && x.mn.n == y.mn.n && x.mn.s.toList == y.mn.s.toList && x.mx.n == y.mx.n && x.mx.s.toList == y.mx.s.toList
theorem sameS_refl (x : St) : sameS x x = true := by simp [sameS]
theorem ret_b {a b : Bool} (h : a = b) : Ending.returned (.bool a) = .returned (.bool b) := by rw [h]
theorem same_v (x y : St) (w : World) : Calls Try.prog 16 #[x.v, y.v] w fun e w' => e = .returned (.bool (sameS x y)) ∧ Below w.heap.size w w' := by
  obtain ⟨n1, h1, ⟨a1, s1⟩, ⟨b1, t1⟩⟩ := x
  obtain ⟨n2, h2, ⟨a2, s2⟩, ⟨b2, t2⟩⟩ := y
  simp only [St.v]
  go_enter Try.func16, Try.ntmps16
  go_wp2_with fail
  all_goals go_ret
  all_goals exact ⟨ret_b (by simp_all [sameS]), by repeat (first | with_reducible exact Below.refl _ _ | refine ba ?_ _)⟩
theorem rsame_v (x y : St) (w : World) : Calls Try.prog 14 #[x.v, y.v] w fun e w' => e = .returned (.bool (sameS x y)) ∧ Below w.heap.size w w' := by
  obtain ⟨n1, h1, ⟨a1, s1⟩, ⟨b1, t1⟩⟩ := x
  obtain ⟨n2, h2, ⟨a2, s2⟩, ⟨b2, t2⟩⟩ := y
  simp only [St.v]
  go_enter Try.func14, Try.ntmps14
  go_wp2_with fail
  all_goals go_ret
  all_goals exact ⟨ret_b (by simp_all [sameS]), by repeat (first | with_reducible exact Below.refl _ _ | refine ba ?_ _)⟩
theorem known_v (w : World) : Calls Try.prog 8 #[] w fun e w' => e = .returned (.bool true) ∧ Below w.heap.size w w' := by
  go_enter Try.func8, Try.ntmps8
  go_wp2_with fail
  refine (of_v 3 0 0 0 none none none 0 0 0 0 0 0 [] _ (Sl.nil _ _ _ _) (by decide) (by decide)).mono ?_
  rintro e w1 ⟨rfl, hb1⟩
  go_wp2_with fail
  refine (same_v (ofS 3 0 []) St.zero _).mono ?_
  rintro e w2 ⟨rfl, hb2⟩
  go_wp2_with fail
  go_ret
  exact ⟨ret_b (sameS_refl St.zero), bt hb1 hb2⟩
theorem within_17 (a n : Int) (w : World) (hn : 0 < n) (hn2 : n ≤ 1000000) : Calls Try.prog 9 #[.int .i64 a, .int .i64 n] w fun e w' => e = .returned (.int .i64 (a % n)) ∧ w = w' := by
  have h1 := Int.tmod_lt_of_pos a hn
  have h3 : -n < a.tmod n := by
    have := Int.lt_tmod_of_pos a hn
    omega
  have H := Lib.hid (tmod_fix a n hn)
  go_enter Try.func9, Try.ntmps9
  go_wp2
  · go_ret
    exact ⟨ret_i64 (H.out.1 (by assumption)), rfl⟩
  · go_ret
    exact ⟨ret_i64 (H.out.2 (by assumption)), rfl⟩
def mayV (k : Int) (s : St) (op : Int) (v : Vl) : Bool :=
  if op = 5 then decide (0 < s.nulls) else if s.has = false then false else
  if op = 0 then decide (cmpV k s.mn v < 0) else if op = 2 then decide (0 ≤ cmpV k s.mx v) && decide (cmpV k s.mn v ≤ 0) else
  if op = 1 then decide (cmpV k s.mn v ≤ 0) else if op = 3 then decide (0 ≤ cmpV k s.mx v) else if op = 4 then decide (0 < cmpV k s.mx v) else false
end Go.Proofs.Ytnmlngpkhlafgaa
