/-
  The walks of the document's leaf, fits, Fits.
-/
import Derived.Test.YtdgcgkmejejccaaFitP
import Derived.Test.YtdgcgkmejejccaaMake8
set_option linter.unusedSimpArgs false
namespace Go.Proofs.Ytdgcgkmejejccaa
open Go.RowKit Go.Shr
set_option maxHeartbeats 4000000 in
theorem rleaf_v (kind : Int) (t : Tr) (a : Option Addr) (m cap : Nat) (hm : m = t.kids.length) (w : World) (h1 : 1 ≤ kind) (h4 : kind ≤ 4) (hsx : t.s.size ≤ maxLen) :
    Calls Try.prog 40 #[.int .i64 kind, .agg #[.int .i64 t.n, .string t.s, .slice a m cap]] w fun e w' => e = .returned (.int .i64 (leafT kind t)) ∧ Below w.heap.size w w' := by
  obtain ⟨n, s, ks⟩ := t
  simp only [Tr.n, Tr.s, Tr.kids] at *
  unfold maxLen at hsx
  have HE : Hid (leafT kind (.mk n s ks) = if 0 < m ∨ (kind = 4 ∧ n ≠ 0) ∨ (kind ≠ 4 ∧ s.toList ≠ []) then 13
    else if kind = 1 then (if n < 0 ∨ 1 < n then 14 else 0) else if kind = 2 then (if n < -2147483648 ∨ 2147483647 < n then 14 else 0) else if kind = 3 then 0 else if 100 < s.size then 5 else 0) := Lib.hid (by rw [hm]; rfl)
  clear hm
  generalize leafT kind (.mk n s ks) = R at *
  have hk : kind = 1 ∨ kind = 2 ∨ kind = 3 ∨ kind = 4 := by omega
  by_cases hm : 0 < m
  · have HR : Hid (R = 13) := Lib.hid (by rw [HE.out, if_pos (.inl hm)])
    clear HE
    go_enter Try.func40, Try.ntmps40
    go_wp2_with fail
    go_ret
    exact ⟨ret_i HR.out.symm, by repeat (first | with_reducible exact Below.refl _ _ | refine ba ?_ _)⟩
  obtain rfl : m = 0 := by omega
  clear hm
  have hsl := str_len s
  have hs0 : (s.size ≤ 100 ∧ s.toList = [] ∧ (!s.toList.isEmpty) = false) ∨ (s.toList ≠ [] ∧ (!s.toList.isEmpty) = true) := by
    by_cases h : s.toList = []
    · exact .inl ⟨by rw [h] at hsl; simp at hsl; omega, h, by rw [h]; rfl⟩
    · exact .inr ⟨h, by cases hc : s.toList with | nil => exact absurd hc h | cons => rfl⟩
  rcases hk with rfl | rfl | rfl | rfl
  · rcases hs0 with ⟨hz, hs, hse⟩ | ⟨hs, hse⟩
    · have HR : Hid (R = if n < 0 ∨ 1 < n then 14 else 0) := Lib.hid (by rw [HE.out]; simp [hs])
      clear HE hsl hs
      have hn : n < 0 ∨ 1 < n ∨ (0 ≤ n ∧ n ≤ 1) := by omega
      rcases hn with hn | hn | ⟨hn, hn'⟩
      · replace HR : Hid (R = 14) := Lib.hid (by rw [HR.out, if_pos (.inl hn)])
        go_enter Try.func40, Try.ntmps40
        go_wp2_with fail
        go_ret
        exact ⟨ret_i HR.out.symm, by repeat (first | with_reducible exact Below.refl _ _ | refine ba ?_ _)⟩
      · replace HR : Hid (R = 14) := Lib.hid (by rw [HR.out, if_pos (.inr hn)])
        go_enter Try.func40, Try.ntmps40
        go_wp2_with fail
        go_ret
        exact ⟨ret_i HR.out.symm, by repeat (first | with_reducible exact Below.refl _ _ | refine ba ?_ _)⟩
      · replace HR : Hid (R = 0) := Lib.hid (by rw [HR.out, if_neg (by omega)])
        go_enter Try.func40, Try.ntmps40
        go_wp2_with fail
        go_ret
        exact ⟨ret_i HR.out.symm, by repeat (first | with_reducible exact Below.refl _ _ | refine ba ?_ _)⟩
    · have HR : Hid (R = 13) := Lib.hid (by rw [HE.out, if_pos (.inr (.inr ⟨by decide, hs⟩))])
      clear HE hsl hs
      go_enter Try.func40, Try.ntmps40
      go_wp2_with fail
      go_ret
      exact ⟨ret_i HR.out.symm, by repeat (first | with_reducible exact Below.refl _ _ | refine ba ?_ _)⟩
  · rcases hs0 with ⟨hz, hs, hse⟩ | ⟨hs, hse⟩
    · have HR : Hid (R = if n < -2147483648 ∨ 2147483647 < n then 14 else 0) := Lib.hid (by rw [HE.out]; simp [hs])
      clear HE hsl hs
      have hn : n < -2147483648 ∨ 2147483647 < n ∨ (-2147483648 ≤ n ∧ n ≤ 2147483647) := by omega
      rcases hn with hn | hn | ⟨hn, hn'⟩
      · replace HR : Hid (R = 14) := Lib.hid (by rw [HR.out, if_pos (.inl hn)])
        go_enter Try.func40, Try.ntmps40
        go_wp2_with fail
        go_ret
        exact ⟨ret_i HR.out.symm, by repeat (first | with_reducible exact Below.refl _ _ | refine ba ?_ _)⟩
      · replace HR : Hid (R = 14) := Lib.hid (by rw [HR.out, if_pos (.inr hn)])
        go_enter Try.func40, Try.ntmps40
        go_wp2_with fail
        go_ret
        exact ⟨ret_i HR.out.symm, by repeat (first | with_reducible exact Below.refl _ _ | refine ba ?_ _)⟩
      · replace HR : Hid (R = 0) := Lib.hid (by rw [HR.out, if_neg (by omega)])
        go_enter Try.func40, Try.ntmps40
        go_wp2_with fail
        go_ret
        exact ⟨ret_i HR.out.symm, by repeat (first | with_reducible exact Below.refl _ _ | refine ba ?_ _)⟩
    · have HR : Hid (R = 13) := Lib.hid (by rw [HE.out, if_pos (.inr (.inr ⟨by decide, hs⟩))])
      clear HE hsl hs
      go_enter Try.func40, Try.ntmps40
      go_wp2_with fail
      go_ret
      exact ⟨ret_i HR.out.symm, by repeat (first | with_reducible exact Below.refl _ _ | refine ba ?_ _)⟩
  · rcases hs0 with ⟨hz, hs, hse⟩ | ⟨hs, hse⟩
    · have HR : Hid (R = 0) := Lib.hid (by rw [HE.out]; simp [hs])
      clear HE hsl hs
      go_enter Try.func40, Try.ntmps40
      go_wp2_with fail
      go_ret
      exact ⟨ret_i HR.out.symm, by repeat (first | with_reducible exact Below.refl _ _ | refine ba ?_ _)⟩
    · have HR : Hid (R = 13) := Lib.hid (by rw [HE.out, if_pos (.inr (.inr ⟨by decide, hs⟩))])
      clear HE hsl hs
      go_enter Try.func40, Try.ntmps40
      go_wp2_with fail
      go_ret
      exact ⟨ret_i HR.out.symm, by repeat (first | with_reducible exact Below.refl _ _ | refine ba ?_ _)⟩
  · by_cases hn : n = 0
    · subst hn
      by_cases hz : 100 < s.size
      · have HR : Hid (R = 5) := Lib.hid (by rw [HE.out]; simp [hz])
        clear HE hsl hs0
        go_enter Try.func40, Try.ntmps40
        go_wp2_with fail
        go_ret
        exact ⟨ret_i HR.out.symm, by repeat (first | with_reducible exact Below.refl _ _ | refine ba ?_ _)⟩
      · have HR : Hid (R = 0) := Lib.hid (by rw [HE.out]; simp [hz])
        clear HE hsl hs0
        go_enter Try.func40, Try.ntmps40
        go_wp2_with fail
        go_ret
        exact ⟨ret_i HR.out.symm, by repeat (first | with_reducible exact Below.refl _ _ | refine ba ?_ _)⟩
    · have HR : Hid (R = 13) := Lib.hid (by rw [HE.out, if_pos (.inr (.inl ⟨rfl, hn⟩))])
      have hnb : (n == 0) = false := beq_eq_false_iff_ne.2 hn
      have hnb2 : (n != 0) = true := by simp [hn]
      clear HE hn hsl hs0
      go_enter Try.func40, Try.ntmps40
      go_wp2_with fail
      go_ret
      exact ⟨ret_i HR.out.symm, by repeat (first | with_reducible exact Below.refl _ _ | refine ba ?_ _)⟩
end Go.Proofs.Ytdgcgkmejejccaa
