/-
  The walk of within (law 8).
-/
import Derived.Test.YtdgcgkmejejccaaKnown8
import Derived.Test.YtdgcgkmejejccaaW8
set_option linter.unusedSimpArgs false
namespace Go.Proofs.Ytdgcgkmejejccaa
open Go.RowKit Go.Shr
/-- A schema of one field in the root. -/
def oneL (rep kind : Int) : List Fl := [⟨⟨#[109]⟩, 0, 0, 1⟩, ⟨⟨#[97]⟩, rep, kind, 0⟩]
theorem oneL_wf (rep kind : Int) (h1 : 0 ≤ kind) (h4 : kind ≤ 4) : Wf (oneL rep kind) := ⟨by simp [oneL], by simp [oneL], by simp [oneL], by simp [oneL]; omega⟩
theorem oneL_par (rep kind : Int) : par (oneL rep kind) = [-1, 0] := by simp [par, oneL, parF, parS, popS, nextS]
theorem oneL_kids (rep kind : Int) : KF (oneL rep kind) 0 = [1] := by unfold KF; rw [oneL_par, kidsOf_two]; rfl
theorem emptyS : (⟨#[]⟩ : ByteArray).toList = [] := by rw [ByteArray.toList_eq]
/-- What is wrong with a record of one field. -/
theorem oneL_fit (rep kind : Int) (x : List Tr) : fitT (oneL rep kind) (KF (oneL rep kind)) (.mk 0 ⟨#[]⟩ [x]) 0 = fitA (oneL rep kind) (KF (oneL rep kind)) x 1 := by
  rw [fitT_eq, oneL_kids]
  simp [Tr.n, Tr.s, Tr.kids, emptyS, flAt, oneL]
  rw [fitK_cons]
  simp [fitK]
  intro h; exact h.symm
/-- A row of zeros, of several cells each. -/
theorem made_rep (z : Array Value) (hz : 0 < z.size) : ∀ m : Nat, (madeCells z (m * z.size)).toList = (List.replicate m z.toList).flatten
  | 0 => by simp [madeCells]
  | m + 1 => by
    have ih := made_rep z hz m
    rw [List.replicate_succ', List.flatten_append, ← ih]
    apply List.ext_getElem?
    intro j
    have e1 : (madeCells z (m * z.size)).toList.length = m * z.size := by simp [size_madeCells]
    by_cases h1 : j < m * z.size
    · rw [List.getElem?_append_left (by omega)]
      have h2 : j < (m + 1) * z.size := by rw [Nat.add_mul]; omega
      simp [madeCells, h1, h2]
    · rw [List.getElem?_append_right (by omega), e1]
      by_cases h2 : j < (m + 1) * z.size
      · have h3 : j - m * z.size < z.size := by rw [Nat.add_mul] at h2; omega
        have h4 : j % z.size = j - m * z.size := by
          rw [show j = (j - m * z.size) + m * z.size by omega, Nat.add_mul_mod_self_right, Nat.mod_eq_of_lt h3]; omega
        simp [madeCells, h2, h4, h3]
      · have h3 : ¬ j - m * z.size < z.size := by rw [Nat.add_mul] at h2; omega
        simp [madeCells, h2, h3]
end Go.Proofs.Ytdgcgkmejejccaa
