/-
  The walk of TreeValues.
-/
import Derived.Test.YtdgcgkmejejccaaLit8
set_option linter.unusedSimpArgs false
namespace Go.Proofs.Ytdgcgkmejejccaa
open Go.RowKit Go.Shr
theorem wf_i64' {z : Int} (h : (Lit.int .i64 z).wf = true) : -9223372036854775808 ≤ z ∧ z ≤ 9223372036854775807 := by
  simp [Lit.wf, IntKind.min, IntKind.max, IntKind.bits, IntKind.signed] at h; omega
set_option maxHeartbeats 4000000 in
theorem law_values (kind n : Int) (s : ByteArray) (w : World) (_ : (Lit.int .i64 kind).wf = true) (hn : (Lit.int .i64 n).wf = true) (hs : s.size ≤ maxLen) :
    Calls Try.prog 5 #[.int .i64 kind, .int .i64 n, .string s] w fun e w' => e = .returned (.bool true) ∧ Below w.heap.size w w' := by
  have hs2 := hs
  unfold maxLen at hs2
  by_cases h150 : 150 < s.size
  · go_enter Try.func5, Try.ntmps5
    go_wp2_with fail
    refine (known8 _).mono ?_
    rintro e w1 ⟨rfl, hb1⟩
    go_wp2_with fail
    go_ret
    exact ⟨rfl, hb1⟩
  go_enter Try.func5, Try.ntmps5
  go_wp2_with fail
  refine (known8 _).mono ?_
  rintro e w1 ⟨rfl, hb1⟩
  have HB1 := Lib.hid hb1; clear hb1
  go_wp2_with fail
  refine (within_8 kind 4 w1 (by decide) (by decide)).mono ?_
  rintro e w2 ⟨rfl, rfl⟩
  have r1 := Int.emod_nonneg kind (show (4 : Int) ≠ 0 by decide)
  have r2 := Int.emod_lt_of_pos kind (show (0 : Int) < 4 by decide)
  generalize kind % 4 = r at *
  go_wp2_with fail
  have HS1 := Lib.hid (Rw.sl (Rw.new w1 #[.string ⟨#[109]⟩, .int .i64 0, .int .i64 0, .int .i64 1, .string ⟨#[97]⟩, .int .i64 0, .int .i64 (1 + r), .int .i64 0] 39) 2 4 rfl (by decide))
  refine (fit1 (1 + r) (by omega) (by omega) (.mk n ⟨#[]⟩ []) _ w1.heap.size _ (slb HS1.out (ba (ba (b0 _) _) _)) (TrAt.grp 1 (by decide) (b := w1.heap.size + 1 + 1) (cur := #[.slice (some ⟨w1.heap.size + 1, 0, none⟩) 1 1]) (t := 40) (Rw.new' (by simp)) rfl (by decide) (KidAt.row 1 rfl (cur := #[.int .i64 n, .string ⟨#[]⟩, .slice none 0 0]) (t := 25) ((Rw.new' (by simp)).alloc _) rfl (by decide) (RowAt.one (TrAt.leaf' (by decide)) RowAt.end') KidAt.end'))).mono ?_
  rintro e w2 ⟨rfl, hb2⟩
  have HB2 := Lib.hid (bt (ba (ba (ba HB1.out _) _) _) hb2)
  have HS2 := Lib.hid (slb (slb HS1.out (ba (ba (b0 _) _) _)) hb2)
  clear hb2
  go_wp2_with fail
  refine (fit1 (1 + r) (by omega) (by omega) (.mk 0 s []) _ w1.heap.size _ (slb HS2.out (ba (ba (b0 _) _) _)) (TrAt.grp 1 (by decide) (b := w2.heap.size + 1) (cur := #[.slice (some ⟨w2.heap.size, 0, none⟩) 1 1]) (t := 40) (Rw.new' (by simp)) rfl (by decide) (KidAt.row 1 rfl (cur := #[.int .i64 0, .string s, .slice none 0 0]) (t := 25) ((Rw.new' rfl).alloc _) rfl (by decide) (RowAt.one (TrAt.leaf' hs) RowAt.end') KidAt.end'))).mono ?_
  rintro e w3 ⟨rfl, hb3⟩
  have HB3 := Lib.hid (bt (ba (ba HB2.out _) _) hb3)
  have HS3 := Lib.hid (slb (slb HS2.out (ba (ba (b0 _) _) _)) hb3)
  clear hb3
  go_wp2_with fail
  refine (fit1 (1 + r) (by omega) (by omega) (.mk 0 ⟨#[]⟩ [[]]) _ w1.heap.size _ (slb HS3.out (ba (ba (ba (b0 _) _) _) _)) (TrAt.grp 1 (by decide) (b := w3.heap.size + 1 + 1) (cur := #[.slice (some ⟨w3.heap.size + 1, 0, none⟩) 1 1]) (t := 40) (Rw.new' (by simp)) rfl (by decide) (KidAt.row 1 rfl (cur := #[.int .i64 0, .string ⟨#[]⟩, .slice (some ⟨w3.heap.size, 0, none⟩) 1 1]) (t := 25) ((Rw.new' (by simp)).alloc _) rfl (by decide) (RowAt.one (TrAt.grp 1 (by decide) (b := w3.heap.size) (cur := #[.slice none 0 0]) (t := 40) (((Rw.new' rfl).alloc _).alloc _) rfl (by decide) (KidAt.no KidAt.end')) RowAt.end') KidAt.end'))).mono ?_
  rintro e w4 ⟨rfl, hb4⟩
  have HB4 := Lib.hid (bt (ba (ba (ba HB3.out _) _) _) hb4)
  have e3 : leafT (1 + r) (.mk 0 ⟨#[]⟩ [[]]) = 13 := by rw [leafT_eq, if_pos (.inl (by decide))]
  rw [e3]
  clear hb4 e3 HS1 HS2 HS3
  have he := emptyS
  have hr : r = 0 ∨ r = 1 ∨ r = 2 ∨ r = 3 := by omega
  have hsl := str_len s
  have hss : s.toList = [] ∨ s.toList ≠ [] := by by_cases h : s.toList = []; exact .inl h; exact .inr h
  have hnn := wf_i64' hn
  have hT : ∀ k : Int, k ≠ 4 → (s.size ≤ 100 ∧ (!s.toList.isEmpty) = false ∧ leafT k (.mk 0 s []) = 0) ∨ (s.toList ≠ [] ∧ (!s.toList.isEmpty) = true ∧ leafT k (.mk 0 s []) = 13) := fun k hk => by
    rcases hss with h | h
    · have h0 : s.size = 0 := by rw [← hsl, h]; rfl
      refine .inl ⟨by omega, by rw [h]; rfl, ?_⟩
      rw [leafT_eq, if_neg (by simp [h])]
      simp [h0]
    · refine .inr ⟨h, by cases hc : s.toList with | nil => exact absurd hc h | cons => rfl, ?_⟩
      rw [leafT_eq, if_pos (.inr (.inr ⟨hk, h⟩))]
  have hT4 : (100 < s.size ∧ leafT (1 + 3) (.mk 0 s []) = 5) ∨ (s.size ≤ 100 ∧ leafT (1 + 3) (.mk 0 s []) = 0) := by
    by_cases h : 100 < s.size
    · exact .inl ⟨h, by rw [leafT_eq]; simp [h]⟩
    · exact .inr ⟨by omega, by rw [leafT_eq]; simp [h]⟩
  rcases hr with rfl | rfl | rfl | rfl
  · have hN : (n < 0 ∧ leafT (1 + 0) (.mk n ⟨#[]⟩ []) = 14) ∨ (1 < n ∧ leafT (1 + 0) (.mk n ⟨#[]⟩ []) = 14) ∨ (0 ≤ n ∧ n ≤ 1 ∧ leafT (1 + 0) (.mk n ⟨#[]⟩ []) = 0) := by
      rw [leafT_eq]
      simp [he]; omega
    replace hT := hT (1 + 0) (by decide)
    clear hT4 hss hsl he
    rcases hN with ⟨h1, h2⟩ | ⟨h1, h2⟩ | ⟨h0, h1, h2⟩ <;> rcases hT with ⟨_, h5, h6⟩ | ⟨_, h5, h6⟩
    all_goals
      rw [h2, h6]
      clear h2 h6
      go_wp2_with fail
      go_ret
      exact ⟨rfl, HB4.out⟩
  · have hN : (n < -2147483648 ∧ leafT (1 + 1) (.mk n ⟨#[]⟩ []) = 14) ∨ (2147483647 < n ∧ leafT (1 + 1) (.mk n ⟨#[]⟩ []) = 14) ∨ (-2147483648 ≤ n ∧ n ≤ 2147483647 ∧ leafT (1 + 1) (.mk n ⟨#[]⟩ []) = 0) := by
      rw [leafT_eq]
      simp [he]; omega
    replace hT := hT (1 + 1) (by decide)
    clear hT4 hss hsl he
    rcases hN with ⟨h1, h2⟩ | ⟨h1, h2⟩ | ⟨h0, h1, h2⟩ <;> rcases hT with ⟨_, h5, h6⟩ | ⟨_, h5, h6⟩
    all_goals
      first
        | (have hw1 : (n != wrap64 (wrap32 n)) = true := by (rw [bne_iff_ne]; unfold wrap64 wrap32; omega))
        | (have hw2 : (n != wrap64 (wrap32 n)) = false := by (rw [bne_eq_false_iff_eq]; unfold wrap64 wrap32; omega))
      rw [h2, h6]
      clear h2 h6
      go_wp2_with fail
      go_ret
      exact ⟨rfl, HB4.out⟩
  · have hN : leafT (1 + 2) (.mk n ⟨#[]⟩ []) = 0 := by
      rw [leafT_eq]
      simp [he]
    replace hT := hT (1 + 2) (by decide)
    clear hT4 hss hsl he
    rcases hT with ⟨_, h5, h6⟩ | ⟨_, h5, h6⟩
    all_goals
      rw [hN, h6]
      clear hN h6
      go_wp2_with fail
      go_ret
      exact ⟨rfl, HB4.out⟩
  · have hN : (n ≠ 0 ∧ leafT (1 + 3) (.mk n ⟨#[]⟩ []) = 13) ∨ (n = 0 ∧ leafT (1 + 3) (.mk n ⟨#[]⟩ []) = 0) := by
      rw [leafT_eq]
      have h0 : (⟨#[]⟩ : ByteArray).size ≤ 100 := by decide
      by_cases h : n = 0
      · simp [he, h, h0]
      · simp [he, h]
    clear hT hss hsl he
    rcases hN with ⟨h1, h2⟩ | ⟨rfl, h2⟩ <;> rcases hT4 with ⟨h5, h6⟩ | ⟨h5, h6⟩
    iterate 2
      · rw [h2, h6]
        clear h2 h6
        have hb1 : (n != 0) = true := by simp [h1]
        have hb2 : (n == 0) = false := beq_eq_false_iff_ne.2 h1
        clear h1
        go_wp2_with fail
        go_ret
        exact ⟨rfl, HB4.out⟩
    all_goals
      rw [h2, h6]
      clear h2 h6
      go_wp2_with fail
      go_ret
      exact ⟨rfl, HB4.out⟩
end Go.Proofs.Ytdgcgkmejejccaa
