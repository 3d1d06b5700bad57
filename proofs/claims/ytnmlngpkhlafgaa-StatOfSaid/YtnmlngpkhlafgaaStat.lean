/-
  The walks of stat's functions.
-/
import Derived.Test.YtnmlngpkhlafgaaProg
import Derived.Test.YtnmlngpkhlafgaaStatP
namespace Go.Proofs.Ytnmlngpkhlafgaa
open Go.RowKit Go.Shr
theorem ret_i64 {a b : Int} (h : a = b) : Ending.returned (.int .i64 a) = .returned (.int .i64 b) := by rw [h]
theorem cmp_i (a b : Int) (w : World) : Calls Try.prog 25 #[.int .i64 a, .int .i64 b] w fun e w' => e = .returned (.int .i64 (cmpI a b)) ∧ w = w' := by
  have H := Lib.hid (show cmpI a b = if a < b then -1 else if b < a then 1 else 0 from rfl)
  go_enter Try.func25, Try.ntmps25
  go_wp2
  all_goals go_ret
  · refine ⟨ret_i64 ?_, rfl⟩; rw [H.out, if_pos (by assumption)]
  · refine ⟨ret_i64 ?_, rfl⟩; rw [H.out, if_neg (by omega), if_pos (by omega)]
  · refine ⟨ret_i64 ?_, rfl⟩; rw [H.out, if_neg (by omega), if_neg (by omega)]
theorem cmp_s (a b : ByteArray) (w : World) : Calls Try.prog 24 #[.string a, .string b] w fun e w' => e = .returned (.int .i64 (cmpL a.toList b.toList)) ∧ w = w' := by
  have H := Lib.hid (show cmpL a.toList b.toList = if Op.bytesLess a.toList b.toList then -1 else if a.toList == b.toList then 0 else 1 from rfl)
  go_enter Try.func24, Try.ntmps24
  go_wp2
  all_goals go_ret
  · have h : Op.bytesLess a.toList b.toList = true := by assumption
    refine ⟨ret_i64 ?_, rfl⟩; rw [H.out, if_pos h]
  · have h : Op.bytesLess a.toList b.toList = false := by assumption
    have h2 : (!a.toList == b.toList) = true := by assumption
    refine ⟨ret_i64 ?_, rfl⟩; rw [H.out, if_neg (by rw [h]; decide), if_neg (by simpa using h2)]
  · have h : Op.bytesLess a.toList b.toList = false := by assumption
    have h2 : (!a.toList == b.toList) = false := by assumption
    refine ⟨ret_i64 ?_, rfl⟩; rw [H.out, if_neg (by rw [h]; decide), if_pos (by simpa using h2)]
theorem compare_v (k : Int) (x y : Vl) (w : World) : Calls Try.prog 20 #[.int .i64 k, .agg #[.int .i64 x.n, .string x.s], .agg #[.int .i64 y.n, .string y.s]] w fun e w' => e = .returned (.int .i64 (cmpV k x y)) ∧ Below w.heap.size w w' := by
  have H := Lib.hid (show cmpV k x y = if k = 4 then cmpL x.s.toList y.s.toList else cmpI x.n y.n from rfl)
  have hb : Below w.heap.size w ((w.alloc (.cells #[.int .i64 x.n, .string x.s] 35)).alloc (.cells #[.int .i64 y.n, .string y.s] 35)) := ((Below.refl _ _).alloc (Nat.le_refl _) _).alloc (by simp) _
  have HB := Lib.hid hb; clear hb
  by_cases hk : k = 4
  · have hkb : (k == 4) = true := beq_iff_eq.2 hk
    have HK := Lib.hid hk; clear hk
    go_enter Try.func20, Try.ntmps20
    go_wp2_with fail
    refine (cmp_s _ _ _).mono ?_
    rintro e w' ⟨rfl, rfl⟩
    go_wp2
    go_ret
    exact ⟨ret_i64 (by rw [H.out, if_pos HK.out]), HB.out⟩
  · have hkb : (k == 4) = false := beq_eq_false_iff_ne.2 hk
    have HK := Lib.hid hk; clear hk
    go_enter Try.func20, Try.ntmps20
    go_wp2_with fail
    refine (cmp_i _ _ _).mono ?_
    rintro e w' ⟨rfl, rfl⟩
    go_wp2
    go_ret
    exact ⟨ret_i64 (by rw [H.out, if_neg HK.out]), HB.out⟩
set_option maxHeartbeats 400000 in
theorem join_s (k : Int) (x y : St) (w : World) (hx : 0 ≤ x.nulls ∧ x.nulls ≤ 100000) (hy : 0 ≤ y.nulls ∧ y.nulls ≤ 100000) :
    Calls Try.prog 13 #[.int .i64 k, x.v, y.v] w fun e w' => e = .returned (joinS k x y).v ∧ Below w.heap.size w w' := by
  obtain ⟨n1, h1, ⟨a1, s1⟩, ⟨b1, t1⟩⟩ := x
  obtain ⟨n2, h2, ⟨a2, s2⟩, ⟨b2, t2⟩⟩ := y
  simp only [St.v] at *
  generalize hj : joinS k ⟨n1, h1, ⟨a1, s1⟩, ⟨b1, t1⟩⟩ ⟨n2, h2, ⟨a2, s2⟩, ⟨b2, t2⟩⟩ = J at *
  have HJ := Lib.hid hj; clear hj
  cases h1 <;> cases h2
  · go_enter Try.func13, Try.ntmps13
    go_wp2_with fail
    exact bodyPost_ret (v := .agg #[.int .i64 (n1 + n2), .bool false, .int .i64 a2, .string s2, .int .i64 b2, .string t2]) (by simp [results, Try.results13, go_sem]) rfl ⟨by rw [← HJ.out]; simp [joinS], by repeat (first | exact Below.refl _ _ | refine ba ?_ _)⟩
  · go_enter Try.func13, Try.ntmps13
    go_wp2_with fail
    exact bodyPost_ret (v := .agg #[.int .i64 (n1 + n2), .bool true, .int .i64 a2, .string s2, .int .i64 b2, .string t2]) (by simp [results, Try.results13, go_sem]) rfl ⟨by rw [← HJ.out]; simp [joinS], by repeat (first | exact Below.refl _ _ | refine ba ?_ _)⟩
  · go_enter Try.func13, Try.ntmps13
    go_wp2_with fail
    exact bodyPost_ret (v := .agg #[.int .i64 (n1 + n2), .bool true, .int .i64 a1, .string s1, .int .i64 b1, .string t1]) (by simp [results, Try.results13, go_sem]) rfl ⟨by rw [← HJ.out]; simp [joinS], by repeat (first | exact Below.refl _ _ | refine ba ?_ _)⟩
  · obtain ⟨c1, hc1⟩ : ∃ c1, cmpV k ⟨a2, s2⟩ ⟨a1, s1⟩ = c1 := ⟨_, rfl⟩
    obtain ⟨c2, hc2⟩ : ∃ c2, cmpV k ⟨b2, t2⟩ ⟨b1, t1⟩ = c2 := ⟨_, rfl⟩
    have HC1 := Lib.hid hc1; have HC2 := Lib.hid hc2; clear hc1 hc2
    by_cases hl : c1 < 0 <;> by_cases hh : 0 < c2
    all_goals
      go_enter Try.func13, Try.ntmps13
      go_wp2_with fail
      refine (compare_v k ⟨a2, s2⟩ ⟨a1, s1⟩ _).mono ?_
      rintro e w1 ⟨rfl, hb1⟩
      rw [HC1.out]
      obtain ⟨hcc, hff⟩ := bcell hb1
      have hsz := hb1.size
      simp only [World.size_alloc] at hsz hcc hff
      have HB1 := Lib.hid hb1; clear hb1
      have hl0 : w.heap.size < w1.heap.size := by omega
      have hl1 : w.heap.size + 1 < w1.heap.size := by omega
      have hl2 : w.heap.size + 1 + 1 < w1.heap.size := by omega
      have hl3 : w.heap.size + 1 + 1 + 1 < w1.heap.size := by omega
      go_wp2_with fail
      refine (compare_v k ⟨b2, t2⟩ ⟨b1, t1⟩ _).mono ?_
      rintro e w2 ⟨rfl, hb2⟩
      rw [HC2.out]
      obtain ⟨hcc2, hff2⟩ := bcell hb2
      have hsz2 := hb2.size
      try simp only [World.size_setCell] at hsz2 hcc2 hff2
      have HB2 := Lib.hid hb2; clear hb2
      go_wp2_with fail
      refine bodyPost_ret (v := .agg #[.int .i64 (n1 + n2), .bool true, .int .i64 (if c1 < 0 then a2 else a1), .string (if c1 < 0 then s2 else s1), .int .i64 (if 0 < c2 then b2 else b1), .string (if 0 < c2 then t2 else t1)]) ?_ rfl ⟨?_, ?_⟩
      · by_cases q1 : c1 < 0 <;> by_cases q2 : 0 < c2 <;> first | (exfalso; omega) | simp [results, Try.results13, go_sem, hcc, hcc2, hl0, hl1, hl2, hl3, q1, q2]
      · rw [← HJ.out]
        simp only [joinS, lowV, highV, HC1.out, HC2.out]
        by_cases q1 : c1 < 0 <;> by_cases q2 : 0 < c2 <;> first | (exfalso; omega) | simp [q1, q2]
      · have hB1 : Below w.heap.size w w1 := by
          refine bt ?_ HB1.out
          repeat (first | with_reducible exact Below.refl _ _ | refine ba ?_ _)
        have hs : w.heap.size ≤ w1.heap.size := hB1.size
        have hB2 : Below w.heap.size w w2 := by
          refine bt ?_ HB2.out
          repeat (first | with_reducible exact hB1 | refine Below.setCell ?_ (by simp; omega) _)
        repeat (first | with_reducible exact hB2 | refine Below.setCell ?_ (by simp; omega) _)
end Go.Proofs.Ytnmlngpkhlafgaa
