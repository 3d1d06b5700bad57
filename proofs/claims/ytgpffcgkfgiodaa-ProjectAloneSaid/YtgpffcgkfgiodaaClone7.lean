/-
  The walks of Clone, at fields and trees.
-/
import Derived.Test.YtgpffcgkfgiodaaMkr2
import Derived.Deep.CutRange
set_option linter.unusedSimpArgs false
namespace Go.Proofs.Ytgpffcgkfgiodaa
open Go.RowKit Go.Shr
set_option maxHeartbeats 400000 in
theorem clone_f (ok : Nat → Prop) (a : Option Addr) (n cap : Nat) (xs : List Value) (w : World) (h : Sl ok w 4 a n cap xs) (hx : ∀ u ∈ xs, u.oneCell' = true) (hn : n ≤ 1000000) :
    Calls Try.prog 47 #[.slice a n cap] w fun e w' => ∃ a' cap', e = .returned (.slice a' n cap') ∧ Own w.heap.size w' 40 4 a' n cap' xs ∧ Below w.heap.size w w' := by
  have hnil := fun (w : World) => Lib.run_eql_slice_nil (P := Try.prog) w 25 40 a n cap 0 0 Try.underlying25
  obtain ⟨i0, hi, hz0, hz1, hz2⟩ := info_parts info_f
  rcases a with _ | a
  · have h0 : n = 0 := by rcases h.row with h0 | ⟨_, _, h1, _⟩; exact h0; cases h1
    subst h0
    have hx0 : xs = [] := List.eq_nil_of_length_eq_zero (by simpa using h.len)
    subst hx0
    have H := Lib.hid h; clear h hx
    go_enter Try.func47, Try.ntmps47
    go_wp2
    go_ret
    exact ⟨none, 0, rfl, Own.nil _ _ _ _, Below.refl _ _⟩
  · have hs := (h.alloc (.cells #[] 40)).src (P := Try.prog) (tx := 25) Try.underlying25 hx
    have HS := Lib.hid hs; clear hs h hx
    go_enter Try.func47, Try.ntmps47
    go_wp2_with (at_builtin; refine wpList_append (B := w.heap.size) rfl _ _ _ _ rfl i0 (.agg #[.string ByteArray.empty, .int .i64 0, .int .i64 0, .int .i64 0]) 40 Try.underlying25 hi hz0 hz1 hz2 rfl rfl (Own.bare _ _ _ _ _) _ rfl _ _ HS.out (by simp only [maxLen]; omega) (by omega) (by simp) ?_; intro a' cap' w' hown hchg hnew)
    go_ret
    exact ⟨a', cap', by simp, by simpa using hown, ((Below.refl _ _).alloc (Nat.le_refl _) _).trans (hchg.below (by simp) (fun i hi ⟨_, h2⟩ => by omega))⟩
set_option maxHeartbeats 400000 in
theorem clone_t (ok : Nat → Prop) (a : Option Addr) (n cap : Nat) (xs : List Value) (w : World) (h : Sl ok w 3 a n cap xs) (hx : ∀ u ∈ xs, u.oneCell' = true) (hn : n ≤ 1000000) :
    Calls Try.prog 50 #[.slice a n cap] w fun e w' => ∃ a' cap', e = .returned (.slice a' n cap') ∧ Own w.heap.size w' 48 3 a' n cap' xs ∧ Below w.heap.size w w' := by
  have hnil := fun (w : World) => Lib.run_eql_slice_nil (P := Try.prog) w 60 48 a n cap 0 0 Try.underlying60
  obtain ⟨i0, hi, hz0, hz1, hz2⟩ := info_parts info_tr
  rcases a with _ | a
  · have h0 : n = 0 := by rcases h.row with h0 | ⟨_, _, h1, _⟩; exact h0; cases h1
    subst h0
    have hx0 : xs = [] := List.eq_nil_of_length_eq_zero (by simpa using h.len)
    subst hx0
    have H := Lib.hid h; clear h hx
    go_enter Try.func50, Try.ntmps50
    go_wp2
    go_ret
    exact ⟨none, 0, rfl, Own.nil _ _ _ _, Below.refl _ _⟩
  · have hs := (h.alloc (.cells #[] 48)).src (P := Try.prog) (tx := 60) Try.underlying60 hx
    have HS := Lib.hid hs; clear hs h hx
    go_enter Try.func50, Try.ntmps50
    go_wp2_with (at_builtin; refine wpList_append (B := w.heap.size) rfl _ _ _ _ rfl i0 (.agg #[.int .i64 0, .string ByteArray.empty, .slice none 0 0]) 48 Try.underlying60 hi hz0 hz1 hz2 rfl rfl (Own.bare _ _ _ _ _) _ rfl _ _ HS.out (by simp only [maxLen]; omega) (by omega) (by simp) ?_; intro a' cap' w' hown hchg hnew)
    go_ret
    exact ⟨a', cap', by simp, by simpa using hown, ((Below.refl _ _).alloc (Nat.le_refl _) _).trans (hchg.below (by simp) (fun i hi ⟨_, h2⟩ => by omega))⟩
set_option maxHeartbeats 400000 in
theorem clone_ts (ok : Nat → Prop) (a : Option Addr) (n cap : Nat) (xs : List Value) (w : World) (h : Sl ok w 1 a n cap xs) (hx : ∀ u ∈ xs, u.oneCell' = true) (hn : n ≤ 1000000) :
    Calls Try.prog 51 #[.slice a n cap] w fun e w' => ∃ a' cap', e = .returned (.slice a' n cap') ∧ Own w.heap.size w' 60 1 a' n cap' xs ∧ Below w.heap.size w w' := by
  have hnil := fun (w : World) => Lib.run_eql_slice_nil (P := Try.prog) w 46 60 a n cap 0 0 Try.underlying46
  obtain ⟨i0, hi, hz0, hz1, hz2⟩ := info_parts info_ts
  rcases a with _ | a
  · have h0 : n = 0 := by rcases h.row with h0 | ⟨_, _, h1, _⟩; exact h0; cases h1
    subst h0
    have hx0 : xs = [] := List.eq_nil_of_length_eq_zero (by simpa using h.len)
    subst hx0
    have H := Lib.hid h; clear h hx
    go_enter Try.func51, Try.ntmps51
    go_wp2
    go_ret
    exact ⟨none, 0, rfl, Own.nil _ _ _ _, Below.refl _ _⟩
  · have hs := (h.alloc (.cells #[] 60)).src (P := Try.prog) (tx := 46) Try.underlying46 hx
    have HS := Lib.hid hs; clear hs h hx
    go_enter Try.func51, Try.ntmps51
    go_wp2_with (at_builtin; refine wpList_append (B := w.heap.size) rfl _ _ _ _ rfl i0 (.slice none 0 0) 24 Try.underlying46 hi hz0 hz1 hz2 rfl rfl (Own.bare _ _ _ _ _) _ rfl _ _ HS.out (by simp only [maxLen]; omega) (by omega) (by simp) ?_; intro a' cap' w' hown hchg hnew)
    go_ret
    exact ⟨a', cap', by simp, by simpa using hown, ((Below.refl _ _).alloc (Nat.le_refl _) _).trans (hchg.below (by simp) (fun i hi ⟨_, h2⟩ => by omega))⟩
end Go.Proofs.Ytgpffcgkfgiodaa
