/-
  Plain: what is wrong with a record: small laws.
-/
import Derived.Test.YtibhcibcfommeaaSch3
import Derived.Test.YtibhcibcfommeaaTreeP
set_option linter.unusedSimpArgs false
namespace Go.Proofs.Ytibhcibcfommeaa
open Go.RowKit Go.Shr
theorem str_len (s : ByteArray) : s.toList.length = s.size := by rw [ByteArray.toList_eq]; simp
/-- The schemas that are spoken of: kinds that there are, not too many fields. -/
structure Wf (l : List Fl) : Prop where
  len : l.length ≤ 1000
  pos : 0 < l.length
  kids : ∀ x ∈ l, x.kids ≤ 1000
  kind : ∀ x ∈ l, 0 ≤ x.kind ∧ x.kind ≤ 4
def KF (l : List Fl) (i : Int) : List Int := kidsOf (par l) i
theorem fitX_drop (l : List Fl) (K : Int → List Int) (x : List Tr) (i : Int) (k : Nat) (h : k < x.length) : fitX l K (x.drop k) i = if fitT l K x[k] i ≠ 0 then fitT l K x[k] i else fitX l K (x.drop (k + 1)) i := by
  rw [List.drop_eq_getElem_cons h]; simp only [fitX]
theorem fitK_drop (l : List Fl) (K : Int → List Int) (ks : List (List Tr)) (js : List Int) (k : Nat) (h : k < ks.length) (hj : k < js.length) : fitK l K (ks.drop k) (js.drop k) = if fitA l K ks[k] js[k] ≠ 0 then fitA l K ks[k] js[k] else fitK l K (ks.drop (k + 1)) (js.drop (k + 1)) := by
  rw [List.drop_eq_getElem_cons h, List.drop_eq_getElem_cons hj, fitK_cons]; rfl
end Go.Proofs.Ytibhcibcfommeaa
