/-
  The walks of Clone at []int, of the closure of schema.Parents.
-/
import Derived.Test.YtibhcibcfommeaaProg
import Derived.Test.YtibhcibcfommeaaSchP
import Derived.Deep.CutRange
set_option linter.unusedSimpArgs false
namespace Go.Proofs.Ytibhcibcfommeaa
open Go.RowKit Go.Shr
/-- Numbers as cells. -/
def ints (l : List Int) : List Value := l.map fun d => .int .i64 d
theorem ints_one (l : List Int) : ∀ u ∈ ints l, u.oneCell' = true := by
  intro u hu
  simp only [ints, List.mem_map] at hu
  obtain ⟨d, _, rfl⟩ := hu
  rfl
theorem ints_length (l : List Int) : (ints l).length = l.length := by simp [ints]
theorem ints_snoc (l : List Int) (x : Int) : ints (l ++ [x]) = ints l ++ [.int .i64 x] := by simp [ints]
theorem ints_get (l : List Int) (k : Nat) (h : k < l.length) : (ints l)[k]? = some (.int .i64 l[k]) := by simp [ints, h]
theorem ret_i {a b : Int} (h : a = b) : Ending.returned (.int .i64 a) = .returned (.int .i64 b) := by rw [h]
theorem ret_bo {a b : Bool} (h : a = b) : Ending.returned (.bool a) = .returned (.bool b) := by rw [h]
theorem info_i : (Try.prog.info? 3).map (fun i => (i.zero, i.size, i.bytes)) = some (some (.int .i64 0), 1, 8) := by kernel_rfl
theorem info_g : (Try.prog.info? 113).map (fun i => (i.zero, i.size, i.bytes)) = some (some (.agg #[.int .i64 0, .int .i64 0]), 2, 16) := by kernel_rfl
set_option maxHeartbeats 400000 in
theorem clone_i (ok : Nat → Prop) (a : Option Addr) (n cap : Nat) (xs : List Value) (w : World) (h : Sl ok w 1 a n cap xs) (hx : ∀ u ∈ xs, u.oneCell' = true) (hn : n ≤ 1000000) :
    Calls Try.prog 43 #[.slice a n cap] w fun e w' => ∃ a' cap', e = .returned (.slice a' n cap') ∧ Own w.heap.size w' 3 1 a' n cap' xs ∧ Below w.heap.size w w' := by
  have hnil := fun (w : World) => Lib.run_eql_slice_nil (P := Try.prog) w 22 3 a n cap 0 0 Try.underlying22
  obtain ⟨i0, hi, hz0, hz1, hz2⟩ := info_parts info_i
  rcases a with _ | a
  · have h0 : n = 0 := by rcases h.row with h0 | ⟨_, _, h1, _⟩; exact h0; cases h1
    subst h0
    have hx0 : xs = [] := List.eq_nil_of_length_eq_zero (by simpa using h.len)
    subst hx0
    have H := Lib.hid h; clear h hx
    go_enter Try.func43, Try.ntmps43
    go_wp2
    go_ret
    exact ⟨none, 0, rfl, Own.nil _ _ _ _, Below.refl _ _⟩
  · have hs := (h.alloc (.cells #[] 3)).src (P := Try.prog) (tx := 22) Try.underlying22 hx
    have HS := Lib.hid hs; clear hs h hx
    go_enter Try.func43, Try.ntmps43
    go_wp2_with (at_builtin; refine wpList_append (B := w.heap.size) rfl _ _ _ _ rfl i0 (.int .i64 0) 8 Try.underlying22 hi hz0 hz1 hz2 rfl rfl (Own.bare _ _ _ _ _) _ rfl _ _ HS.out (by simp only [maxLen]; omega) (by omega) (by simp) ?_; intro a' cap' w' hown hchg hnew)
    go_ret
    exact ⟨a', cap', by simp, by simpa using hown, ((Below.refl _ _).alloc (Nat.le_refl _) _).trans (hchg.below (by simp) (fun i hi ⟨_, h2⟩ => by omega))⟩
/-- What is appended to a captured row of numbers. -/
def PutsInt (B c : Nat) (a : Option Addr) (n : Nat) (xs : List Int) (x : Int) (w : World) (e : Ending) (w' : World) : Prop :=
  e = .returned (.bool true) ∧ ∃ a' cap', Rw w' c #[.slice a' (n + 1) cap'] 22 ∧ Own B w' 3 1 a' (n + 1) cap' (ints (xs ++ [x])) ∧ Chg (fun k => k = c ∨ (blk a k ∧ B ≤ k)) w w' ∧ (∀ k, blk a' k → blk a k ∨ w.heap.size ≤ k)
set_option maxHeartbeats 400000 in
theorem put_int (i p d : Int) (B c : Nat) (a : Option Addr) (n cap : Nat) (xs : List Int) (w : World) (hr : Rw w c #[.slice a n cap] 22) (ho : Own B w 3 1 a n cap (ints xs)) (hn : n ≤ 1000000) (hcB : c < B) (hBw : B ≤ w.heap.size) :
    Calls Try.prog 62 #[.int .i64 i, .int .i64 p, .int .i64 d, .pointer (some ⟨c, 0, none⟩)] w (PutsInt B c a n xs p w) := by
  obtain ⟨ii, hii, hz0i, hz1i, hz2i⟩ := info_parts info_i
  have q0 : w.cell? ⟨c, 0, none⟩ = some (.slice a n cap) := hr.cell 0
  have hlt := hr.lt
  have HO := Lib.hid ho; have HR := Lib.hid hr; clear ho hr
  have tok1 : True := trivial
  go_enter Try.func62, Try.ntmps62
  go_wp2_with (first | (at_builtin; have _t := tok1; clear tok1; clear _t; refine wpList_append (B := B) rfl _ _ _ _ rfl ii (.int .i64 0) 8 Try.underlying22 hii hz0i hz1i hz2i rfl rfl (HO.out.alloc _) _ rfl _ _ (src_built (e' := 3) Try.underlying22 w #[.int .i64 p] 3 1 1 rfl (by simp [Value.oneCell'])) (by simp only [maxLen]; omega) (by omega) (by first | omega | (simp; omega) | simp) ?_; intro a5 cap5 w5 ho5 hc5 hn5); (have r5 : Rw w5 c #[.slice a n cap] 22 := (HR.out.alloc _).chg hc5 (by rintro ⟨_, h, _⟩; omega)); (have q1 := r5.cell 0); (have q2 := r5.frozen); (have q3 := r5.lt); (have HO5 := Lib.hid ho5); (have HC5 := Lib.hid hc5); (have HR5 := Lib.hid r5); clear ho5 hc5 r5 q0)
  go_ret
  refine ⟨rfl, a5, cap5, HR5.out.set 0 _, ?_, ?_, ?_⟩
  · rw [ints_snoc]; exact HO5.out.setBelow hcB _
  · exact (((Chg.refl (fun k => k = c ∨ (blk a k ∧ B ≤ k)) w).alloc _).trans HC5.out (fun k _ h => .inr ⟨h.1, h.2.1⟩)).setCell (.inr (.inl rfl)) _
  · intro k hk
    rcases hn5 k hk with h | h
    · exact .inl h
    · exact .inr (by simp at h; omega)
end Go.Proofs.Ytibhcibcfommeaa
