/-
 Plain: what shapes say of their fields.
-/
import Derived.Test.YtibhcibcfommeaaFitP
import Derived.Test.YtibhcibcfommeaaMake8
set_option linter.unusedSimpArgs false
namespace Go.Proofs.Ytibhcibcfommeaa
open Go.RowKit Go.Shr
mutual
theorem ix_all {l : List Fl} {K : Int → List Int} : ∀ (s : Sh) (i : Nat), Ix l K i s → ∀ (j : Nat), i ≤ j → j < i + s.size → ∃ f, l[j]? = some f ∧ f.kids = ((K j).length : Int)
 | .mk nm r k ks, i, h, j, h1, h2 => by
  simp only [Ix] at h
  simp only [Sh.size] at h2
  by_cases hj : j = i
  ·subst hj
   exact ⟨_, h.1, by rw [h.2.1, offs_len]⟩
  ·exact ixL_all ks (i + 1) h.2.2 j (by omega) (by omega)
theorem ixL_all {l : List Fl} {K : Int → List Int} : ∀ (ks : List Sh) (i : Nat), IxL l K i ks → ∀ (j : Nat), i ≤ j → j < i + shSizes ks → ∃ f, l[j]? = some f ∧ f.kids = ((K j).length : Int)
 | [], i, _, j, h1, h2 => by simp only [shSizes] at h2; omega
 | s :: r, i, h, j, h1, h2 => by
  simp only [IxL] at h
  simp only [shSizes] at h2
  by_cases hj : j < i + s.size
  ·exact ix_all s i h.1 j h1 hj
  ·exact ixL_all r (i + s.size) h.2 j (by omega) (by omega)
end
mutual
theorem flat_bd : ∀ (s : Sh), GoodS s → ∀ x ∈ flat s, 0 ≤ x.rep ∧ x.rep ≤ 2 ∧ 0 ≤ x.kind ∧ x.kind ≤ 4
 | .mk nm r k ks, h, x, hx => by
  simp only [GoodS] at h
  simp only [flat, List.mem_cons] at hx
  rcases hx with rfl | hx
  ·exact ⟨h.1, h.2.1, h.2.2.1, h.2.2.2.1⟩
  ·exact flatL_bd ks h.2.2.2.2.2.2 x hx
theorem flatL_bd : ∀ (ks : List Sh), GoodL ks → ∀ x ∈ flatL ks, 0 ≤ x.rep ∧ x.rep ≤ 2 ∧ 0 ≤ x.kind ∧ x.kind ≤ 4
 | [], _, x, hx => by simp [flatL] at hx
 | s :: r, h, x, hx => by
  simp only [GoodL] at h
  simp only [flatL, List.mem_append] at hx
  rcases hx with hx | hx
  ·exact flat_bd s h.1 x hx
  ·exact flatL_bd r h.2 x hx
end
theorem shsize_pos' (s : Sh) : 0 < s.size := by cases s; simp only [Sh.size]; omega
theorem Sch.wf {l : List Fl} {sh : Sh} (h : Sch l sh) : Wf l :=
 ⟨by rw [h.len]; exact h.size, by rw [h.len]; exact shsize_pos' sh, h.kids, fun x hx => by rw [h.flat] at hx; have := flat_bd sh h.good x hx; omega⟩
theorem Sch.goodK {l : List Fl} {sh : Sh} (h : Sch l sh) (i : Nat) (hi : i < l.length) (_ : l[i].kind = 0) : l[i].kids = ((KF l i).length : Int) := by
 obtain ⟨f, h1, h2⟩ := ix_all sh 0 h.ix i (Nat.zero_le _) (by rw [Nat.zero_add, ← h.len]; exact hi)
 rw [List.getElem?_eq_getElem hi] at h1
 rw [Option.some.inj h1]; exact h2
end Go.Proofs.Ytibhcibcfommeaa
