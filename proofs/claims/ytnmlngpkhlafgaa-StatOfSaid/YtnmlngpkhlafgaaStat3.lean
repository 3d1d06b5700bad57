/-
  The walks of the reference's Join; of Good and All.
-/
import Derived.Test.YtnmlngpkhlafgaaStat2
import Derived.Test.YtnmlngpkhlafgaaRegion
set_option linter.unusedSimpArgs false
namespace Go.Proofs.Ytnmlngpkhlafgaa
open Go.RowKit Go.Shr
/-- Values as cells. -/
def vls (l : List Vl) : List Value := l.flatMap fun x => [.int .i64 x.n, .string x.s]
theorem vls_snoc (l : List Vl) (x : Vl) : vls (l ++ [x]) = vls l ++ [.int .i64 x.n, .string x.s] := by simp [vls]
theorem vls_append (l m : List Vl) : vls (l ++ m) = vls l ++ vls m := by simp [vls]
theorem vls_length (l : List Vl) : (vls l).length = l.length * 2 := by
  induction l with
  | nil => rfl
  | cons x l ih => simp only [vls, List.flatMap_cons, List.length_append, List.length_cons, List.length_nil] at *; omega
theorem vls_get (l : List Vl) (k : Nat) (h : k < l.length) : (vls l)[k * 2]? = some (.int .i64 l[k].n) ∧ (vls l)[k * 2 + 1]? = some (.string l[k].s) := by
  induction l generalizing k with
  | nil => simp at h
  | cons x l ih =>
    cases k with
    | zero => exact ⟨rfl, rfl⟩
    | succ k =>
      have := ih k (by simpa using h)
      have e : vls (x :: l) = .int .i64 x.n :: .string x.s :: vls l := rfl
      rw [e, show (k + 1) * 2 = k * 2 + 1 + 1 by omega, show k * 2 + 1 + 1 + 1 = (k * 2 + 1) + 1 + 1 by omega]
      simpa using this
theorem info_v : (Try.prog.info? 35).map (fun i => (i.zero, i.size, i.bytes)) = some (some (.agg #[.int .i64 0, .string ByteArray.empty]), 2, 24) := by kernel_rfl
theorem info_i : (Try.prog.info? 3).map (fun i => (i.zero, i.size, i.bytes)) = some (some (.int .i64 0), 1, 8) := by kernel_rfl
set_option maxHeartbeats 400000 in
theorem rjoin_s (k : Int) (x y : St) (w : World) (hx : 0 ≤ x.nulls ∧ x.nulls ≤ 100000) (hy : 0 ≤ y.nulls ∧ y.nulls ≤ 100000) (hs : x.mn.s.size ≤ 1000 ∧ x.mx.s.size ≤ 1000 ∧ y.mn.s.size ≤ 1000 ∧ y.mx.s.size ≤ 1000) :
    Calls Try.prog 21 #[.int .i64 k, x.v, y.v] w fun e w' => e = .returned (joinS k x y).v ∧ Below w.heap.size w w' := by
  obtain ⟨n1, h1, ⟨a1, s1⟩, ⟨b1, t1⟩⟩ := x
  obtain ⟨n2, h2, ⟨a2, s2⟩, ⟨b2, t2⟩⟩ := y
  simp only [St.v] at *
  generalize hj : joinS k ⟨n1, h1, ⟨a1, s1⟩, ⟨b1, t1⟩⟩ ⟨n2, h2, ⟨a2, s2⟩, ⟨b2, t2⟩⟩ = J at *
  have HJ := Lib.hid hj; clear hj
  cases h1 <;> cases h2
  · go_enter Try.func21, Try.ntmps21
    go_wp2_with fail
    exact bodyPost_ret (v := .agg #[.int .i64 (n1 + n2), .bool false, .int .i64 a2, .string s2, .int .i64 b2, .string t2]) (by simp [results, Try.results21, go_sem]) rfl ⟨by rw [← HJ.out]; simp [joinS], by repeat (first | exact Below.refl _ _ | refine ba ?_ _)⟩
  · go_enter Try.func21, Try.ntmps21
    go_wp2_with fail
    exact bodyPost_ret (v := .agg #[.int .i64 (n1 + n2), .bool true, .int .i64 a2, .string s2, .int .i64 b2, .string t2]) (by simp [results, Try.results21, go_sem]) rfl ⟨by rw [← HJ.out]; simp [joinS], by repeat (first | exact Below.refl _ _ | refine ba ?_ _)⟩
  · go_enter Try.func21, Try.ntmps21
    go_wp2_with fail
    exact bodyPost_ret (v := .agg #[.int .i64 (n1 + n2), .bool true, .int .i64 a1, .string s1, .int .i64 b1, .string t1]) (by simp [results, Try.results21, go_sem]) rfl ⟨by rw [← HJ.out]; simp [joinS], by repeat (first | exact Below.refl _ _ | refine ba ?_ _)⟩
  · obtain ⟨c1, hc1⟩ : ∃ c1, cmpV k ⟨a2, s2⟩ ⟨a1, s1⟩ = c1 := ⟨_, rfl⟩
    obtain ⟨c2, hc2⟩ : ∃ c2, cmpV k ⟨b2, t2⟩ ⟨b1, t1⟩ = c2 := ⟨_, rfl⟩
    have HC1 := Lib.hid hc1; have HC2 := Lib.hid hc2; clear hc1 hc2
    by_cases hl : c1 < 0 <;> by_cases hh : 0 < c2
    all_goals
      go_enter Try.func21, Try.ntmps21
      go_wp2_with fail
      refine (rcompare_v k ⟨a2, s2⟩ ⟨a1, s1⟩ _ hs.2.2.1 hs.1).mono ?_
      rintro e w1 ⟨rfl, hb1⟩
      rw [HC1.out]
      obtain ⟨hcc, hff⟩ := bcell hb1
      have hsz := hb1.size
      simp only [World.size_alloc] at hsz hcc hff
      have HB1 := Lib.hid hb1; clear hb1
      have hl0 : w.heap.size < w1.heap.size := by omega
      have hl1 : w.heap.size + 1 < w1.heap.size := by omega
      have hl2 : w.heap.size + 1 + 1 < w1.heap.size := by omega
      go_wp2_with fail
      refine (rcompare_v k ⟨b2, t2⟩ ⟨b1, t1⟩ _ hs.2.2.2 hs.2.1).mono ?_
      rintro e w2 ⟨rfl, hb2⟩
      rw [HC2.out]
      obtain ⟨hcc2, hff2⟩ := bcell hb2
      have hsz2 := hb2.size
      try simp only [World.size_setCell] at hsz2 hcc2 hff2
      have HB2 := Lib.hid hb2; clear hb2
      have hm0 : w.heap.size < w2.heap.size := by omega
      have hm1 : w.heap.size + 1 < w2.heap.size := by omega
      have hm2 : w.heap.size + 1 + 1 < w2.heap.size := by omega
      have e0 : w1.cell? ⟨w.heap.size, 0, none⟩ = some (.int .i64 n1) := (hcc _ _ (by omega)).trans (by simp [go_sem])
      have e1 : w1.cell? ⟨w.heap.size, 1, none⟩ = some (.bool true) := (hcc _ _ (by omega)).trans (by simp [go_sem])
      have e2 : w1.cell? ⟨w.heap.size, 2, none⟩ = some (.int .i64 a1) := (hcc _ _ (by omega)).trans (by simp [go_sem])
      have e3 : w1.cell? ⟨w.heap.size, 3, none⟩ = some (.string s1) := (hcc _ _ (by omega)).trans (by simp [go_sem])
      have e4 : w1.cell? ⟨w.heap.size, 4, none⟩ = some (.int .i64 b1) := (hcc _ _ (by omega)).trans (by simp [go_sem])
      have e5 : w1.cell? ⟨w.heap.size, 5, none⟩ = some (.string t1) := (hcc _ _ (by omega)).trans (by simp [go_sem])
      have d0 : w2.cell? ⟨w.heap.size, 0, none⟩ = some (.int .i64 n1) := (hcc2 _ _ hl0).trans (by simp [go_sem, e0, e1, e2, e3, e4, e5, hl0])
      have d1 : w2.cell? ⟨w.heap.size, 1, none⟩ = some (.bool true) := (hcc2 _ _ hl0).trans (by simp [go_sem, e0, e1, e2, e3, e4, e5, hl0])
      have d2 : w2.cell? ⟨w.heap.size, 2, none⟩ = some (.int .i64 (if c1 < 0 then a2 else a1)) := (hcc2 _ _ hl0).trans (by first | (simp [go_sem, e0, e1, e2, e3, e4, e5, hl0, hl]; done) | (simp [go_sem, e0, e1, e2, e3, e4, e5, hl0]; intro h; omega))
      have d3 : w2.cell? ⟨w.heap.size, 3, none⟩ = some (.string (if c1 < 0 then s2 else s1)) := (hcc2 _ _ hl0).trans (by first | (simp [go_sem, e0, e1, e2, e3, e4, e5, hl0, hl]; done) | (simp [go_sem, e0, e1, e2, e3, e4, e5, hl0]; intro h; omega))
      have d4 : w2.cell? ⟨w.heap.size, 4, none⟩ = some (.int .i64 b1) := (hcc2 _ _ hl0).trans (by simp [go_sem, e0, e1, e2, e3, e4, e5, hl0])
      have d5 : w2.cell? ⟨w.heap.size, 5, none⟩ = some (.string t1) := (hcc2 _ _ hl0).trans (by simp [go_sem, e0, e1, e2, e3, e4, e5, hl0])
      go_wp2_with fail
      refine bodyPost_ret (v := .agg #[.int .i64 (n1 + n2), .bool true, .int .i64 (if c1 < 0 then a2 else a1), .string (if c1 < 0 then s2 else s1), .int .i64 (if 0 < c2 then b2 else b1), .string (if 0 < c2 then t2 else t1)]) ?_ rfl ⟨?_, ?_⟩
      · by_cases q1 : c1 < 0 <;> by_cases q2 : 0 < c2 <;> first | (exfalso; omega) | simp [results, Try.results21, go_sem, hcc, hcc2, hl0, hl1, hl2, hm0, hm1, hm2, q1, q2]
      · rw [← HJ.out]
        simp only [joinS, lowV, highV, HC1.out, HC2.out]
        by_cases q1 : c1 < 0 <;> by_cases q2 : 0 < c2 <;> first | (exfalso; omega) | simp [q1, q2]
      · have hB1 : Below w.heap.size w w1 := by
          refine bt ?_ HB1.out
          repeat (first | with_reducible exact Below.refl _ _ | refine ba ?_ _)
        have hs : w.heap.size ≤ w1.heap.size := hB1.size
        have hB2 : Below w.heap.size w w2 := by
          refine bt ?_ HB2.out
          repeat (first | with_reducible exact hB1 | refine Below.setCell ?_ (by first | exact Nat.le_refl _ | omega | (simp; done) | (simp; omega)) _)
        repeat (first | with_reducible exact hB2 | refine Below.setCell ?_ (by first | exact Nat.le_refl _ | omega | (simp; done) | (simp; omega)) _)
end Go.Proofs.Ytnmlngpkhlafgaa
