/-
  Plain: how great records are that are made of numbers.
-/
import Derived.Test.YtgpffcgkfgiodaaMake8
namespace Go.Proofs.Ytgpffcgkfgiodaa
open Go.RowKit Go.Shr
theorem mkX_size {f : Nat → Tr × Nat} {B : Nat} (h : ∀ k, (f k).1.size ≤ B) : ∀ (m k : Nat), sizeL (mkX f m k).1 ≤ m * B
  | 0, k => by simp [mkX, sizeL]
  | m + 1, k => by
    have h1 := mkX_size h m (f k).2
    have h2 := h k
    simp only [mkX, sizeL, Nat.add_mul, Nat.one_mul]; omega
theorem two_mul_le {x y : Nat} (hx : 2 ≤ x) (hy : 2 ≤ y) : x + y ≤ x * y := by
  obtain ⟨a, rfl⟩ : ∃ a, x = a + 2 := ⟨x - 2, by omega⟩
  obtain ⟨b, rfl⟩ : ∃ b, y = b + 2 := ⟨y - 2, by omega⟩
  rw [Nat.add_mul, Nat.mul_add, Nat.mul_add]
  generalize a * b = c
  omega
theorem pow4 (n : Nat) (h : 1 ≤ n) : 4 ≤ 4 ^ n := by
  obtain ⟨m, rfl⟩ : ∃ m, n = m + 1 := ⟨n - 1, by omega⟩
  have := Nat.pow_pos (n := m) (show 0 < 4 by decide)
  rw [Nat.pow_succ]; omega
theorem shsize_pos (s : Sh) : 1 ≤ s.size := by cases s; simp only [Sh.size]; omega
mutual
theorem mkT_size (ns : List Int) : ∀ (s : Sh) (k : Nat), (mkT ns s k).1.size ≤ 4 ^ s.size
  | .mk nm rp kd ks, k => by
    have h1 := mkK_size ns ks (nextA ns k)
    have h4 := pow4 (Sh.mk nm rp kd ks).size (shsize_pos _)
    have hl : ∀ n s, (Tr.mk n s []).size = 1 := fun n s => by simp [Tr.size, sizeLL]
    rw [mkT]
    split
    · dsimp only; rw [hl]; omega
    · split
      · dsimp only; rw [hl]; omega
      · split
        · dsimp only; rw [hl]; omega
        · split
          · dsimp only; rw [hl]; omega
          · simp only [Tr.size, Sh.size] at h4 ⊢
            have h5 := Nat.pow_pos (n := shSizes ks) (show 0 < 4 by decide)
            rw [Nat.add_comm 1 (shSizes ks), Nat.pow_succ]; omega
theorem mkK_size (ns : List Int) : ∀ (ks : List Sh) (k : Nat), sizeLL (mkK ns ks k).1 ≤ 3 * 4 ^ shSizes ks
  | [], k => by simp [mkK, sizeLL]
  | s :: r, k => by
    have h1 := mkX_size (mkT_size ns s) (cntOf ns s.rep k).1 (cntOf ns s.rep k).2
    have h2 := mkK_size ns r (mkX (mkT ns s) (cntOf ns s.rep k).1 (cntOf ns s.rep k).2).2
    have h3 := cntOf_le ns s.rep k
    have h4 := pow4 s.size (shsize_pos s)
    have h5 : (cntOf ns s.rep k).1 * 4 ^ s.size ≤ 3 * 4 ^ s.size := Nat.mul_le_mul_right _ h3
    simp only [mkK, sizeLL, shSizes]
    cases r with
    | nil => simp only [mkK, sizeLL, shSizes, Nat.add_zero] at h2 ⊢; omega
    | cons x q =>
      have h6 := pow4 (shSizes (x :: q)) (by have := shsize_pos x; simp only [shSizes]; omega)
      have h7 := two_mul_le (show 2 ≤ 4 ^ s.size by omega) (show 2 ≤ 4 ^ shSizes (x :: q) by omega)
      rw [Nat.pow_add]
      omega
end
theorem makeT_size (ns rs : List Int) : (makeT (makeSh ns) rs).size ≤ 1000000000 := by
  have h1 := mkT_size rs (makeSh ns) 0
  have h2 : (makeSh ns).size ≤ 14 := by rw [← flat_length, ← makeL_flat]; exact (make_len ns).2
  have h3 : 4 ^ (makeSh ns).size ≤ 4 ^ 14 := Nat.pow_le_pow_right (by decide) h2
  have h4 : 4 ^ 14 = 268435456 := by decide
  unfold makeT
  omega
end Go.Proofs.Ytgpffcgkfgiodaa
