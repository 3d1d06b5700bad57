/-
  The walks of cmp.Compare, tree.Compare.
-/
import Derived.Test.YtdgcgkmejejccaaProg
import Derived.Test.YtdgcgkmejejccaaStatP
namespace Go.Proofs.Ytdgcgkmejejccaa
open Go.RowKit Go.Shr
theorem ret_i64 {a b : Int} (h : a = b) : Ending.returned (.int .i64 a) = .returned (.int .i64 b) := by rw [h]
theorem cmp_i (a b : Int) (w : World) : Calls Try.prog 34 #[.int .i64 a, .int .i64 b] w fun e w' => e = .returned (.int .i64 (cmpI a b)) ∧ w = w' := by
  have H := Lib.hid (show cmpI a b = if a < b then -1 else if b < a then 1 else 0 from rfl)
  go_enter Try.func34, Try.ntmps34
  go_wp2
  all_goals go_ret
  · refine ⟨ret_i64 ?_, rfl⟩; rw [H.out, if_pos (by assumption)]
  · refine ⟨ret_i64 ?_, rfl⟩; rw [H.out, if_neg (by omega), if_pos (by omega)]
  · refine ⟨ret_i64 ?_, rfl⟩; rw [H.out, if_neg (by omega), if_neg (by omega)]
theorem cmp_s (a b : ByteArray) (w : World) : Calls Try.prog 33 #[.string a, .string b] w fun e w' => e = .returned (.int .i64 (cmpL a.toList b.toList)) ∧ w = w' := by
  have H := Lib.hid (show cmpL a.toList b.toList = if Op.bytesLess a.toList b.toList then -1 else if a.toList == b.toList then 0 else 1 from rfl)
  go_enter Try.func33, Try.ntmps33
  go_wp2
  all_goals go_ret
  · have h : Op.bytesLess a.toList b.toList = true := by assumption
    refine ⟨ret_i64 ?_, rfl⟩; rw [H.out, if_pos h]
  · have h : Op.bytesLess a.toList b.toList = false := by assumption
    have h2 : (!a.toList == b.toList) = true := by assumption
    refine ⟨ret_i64 ?_, rfl⟩; rw [H.out, if_neg (by rw [h]; decide), if_neg (by simpa using h2)]
  · have h : Op.bytesLess a.toList b.toList = false := by assumption
    have h2 : (!a.toList == b.toList) = false := by assumption
    refine ⟨ret_i64 ?_, rfl⟩; rw [H.out, if_neg (by rw [h]; decide), if_pos (by simpa using h2)]
theorem compare_v (k : Int) (x y : Vl) (w : World) : Calls Try.prog 22 #[.int .i64 k, .agg #[.int .i64 x.n, .string x.s], .agg #[.int .i64 y.n, .string y.s]] w fun e w' => e = .returned (.int .i64 (cmpV k x y)) ∧ Below w.heap.size w w' := by
  have H := Lib.hid (show cmpV k x y = if k = 4 then cmpL x.s.toList y.s.toList else cmpI x.n y.n from rfl)
  have hb : Below w.heap.size w ((w.alloc (.cells #[.int .i64 x.n, .string x.s] 50)).alloc (.cells #[.int .i64 y.n, .string y.s] 50)) := ((Below.refl _ _).alloc (Nat.le_refl _) _).alloc (by simp) _
  have HB := Lib.hid hb; clear hb
  by_cases hk : k = 4
  · have hkb : (k == 4) = true := beq_iff_eq.2 hk
    have HK := Lib.hid hk; clear hk
    go_enter Try.func22, Try.ntmps22
    go_wp2_with fail
    refine (cmp_s _ _ _).mono ?_
    rintro e w' ⟨rfl, rfl⟩
    go_wp2
    go_ret
    exact ⟨ret_i64 (by rw [H.out, if_pos HK.out]), HB.out⟩
  · have hkb : (k == 4) = false := beq_eq_false_iff_ne.2 hk
    have HK := Lib.hid hk; clear hk
    go_enter Try.func22, Try.ntmps22
    go_wp2_with fail
    refine (cmp_i _ _ _).mono ?_
    rintro e w' ⟨rfl, rfl⟩
    go_wp2
    go_ret
    exact ⟨ret_i64 (by rw [H.out, if_neg HK.out]), HB.out⟩
end Go.Proofs.Ytdgcgkmejejccaa
