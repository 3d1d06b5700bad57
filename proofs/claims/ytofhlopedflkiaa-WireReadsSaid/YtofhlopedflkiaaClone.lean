/-
  slices.Clone at []byte.
-/
import Derived.Test.YtofhlopedflkiaaProg
import Derived.Test.YtofhlopedflkiaaBase
namespace Go.Proofs.Ytofhlopedflkiaa
open Go.RowKit Go.Shr
theorem info_u8 : (Try.prog.info? 5).map (fun i => (i.zero, i.size, i.bytes)) = some (some (.int .u8 0), 1, 1) := by kernel_rfl
set_option maxHeartbeats 400000 in
theorem clone_u8 (ok : Nat → Prop) (a : Option Addr) (n cap : Nat) (xs : List Value) (w : World) (h : Sl ok w 1 a n cap xs) (hx : ∀ u ∈ xs, u.oneCell' = true) (hn : n ≤ 10000000000100) :
    Calls Try.prog 27 #[.slice a n cap] w fun e w' => ∃ a' cap', e = .returned (.slice a' n cap') ∧ Own w.heap.size w' 5 1 a' n cap' xs ∧ Below w.heap.size w w' := by
  have hnil := fun (w : World) => Lib.run_eql_slice_nil (P := Try.prog) w 30 5 a n cap 0 0 Try.underlying30
  obtain ⟨i0, hi, hz0, hz1, hz2⟩ := info_parts info_u8
  rcases a with _ | a
  · have h0 : n = 0 := by rcases h.row with h0 | ⟨_, _, h1, _⟩; exact h0; cases h1
    subst h0
    have hx0 : xs = [] := List.eq_nil_of_length_eq_zero (by simpa using h.len)
    subst hx0
    have H := Lib.hid h; clear h hx
    go_enter Try.func27, Try.ntmps27
    go_wp2
    go_ret
    exact ⟨none, 0, rfl, Own.nil _ _ _ _, Below.refl _ _⟩
  · have hs := (h.alloc (.cells #[] 5)).src (P := Try.prog) (tx := 30) Try.underlying30 hx
    have HS := Lib.hid hs; clear hs h hx
    go_enter Try.func27, Try.ntmps27
    go_wp2_with (at_builtin; refine wpList_append (B := w.heap.size) rfl _ _ _ _ rfl i0 (.int .u8 0) 1 Try.underlying30 hi hz0 hz1 hz2 rfl rfl (Own.bare _ _ _ _ _) _ rfl _ _ HS.out (by simp only [maxLen]; omega) (by omega) (by simp) ?_; intro a' cap' w' hown hchg hnew)
    go_ret
    exact ⟨a', cap', by simp, by simpa using hown, ((Below.refl _ _).alloc (Nat.le_refl _) _).trans (hchg.below (by simp) (fun i hi ⟨_, h2⟩ => by omega))⟩
end Go.Proofs.Ytofhlopedflkiaa
