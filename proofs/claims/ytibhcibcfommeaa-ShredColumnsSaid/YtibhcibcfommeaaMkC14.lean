/-
  What records that are made share: they fit, they are thin, they have no error.
-/
import Derived.Test.YtibhcibcfommeaaCol14S
import Derived.Test.YtibhcibcfommeaaMany9
import Derived.Test.YtibhcibcfommeaaOkP
import Derived.Test.YtibhcibcfommeaaLeafP
import Derived.Test.YtibhcibcfommeaaColsT14
set_option linter.unusedSimpArgs false
namespace Go.Proofs.Ytibhcibcfommeaa
open Go.RowKit Go.Shr
theorem many_ok14 {zz : List (List Int)} (hwf : ∀ z ∈ zz, ∀ v ∈ z, (Lit.int .i64 v).wf = true) (sh : Sh) : ∀ t ∈ manyT sh zz, okT sh t := by
  intro t ht
  obtain ⟨z, hz, rfl⟩ := List.mem_map.1 ht
  exact ok_make (hwf z (List.mem_of_mem_take hz)) sh
theorem many_th (ns : List Int) (zz : List (List Int)) : ∀ t ∈ manyT (makeSh ns) zz, thT (makeSh ns) t := by
  intro t ht
  obtain ⟨z, hz, rfl⟩ := List.mem_map.1 ht
  exact th_mkT z _ 0
theorem make_rep (ns : List Int) : ∀ x ∈ makeL ns, x.rep = 0 ∨ x.rep = 1 ∨ x.rep = 2 := by
  intro x hx
  rw [makeL_flat] at hx
  have := flat_bd _ (makeSh_good ns).1 x hx
  omega
theorem hct_below {B : Nat} {w w' : World} {bc m : Nat} {C : Nat → List Cel} {cur : Array Value} {aa : Nat → Option Addr} {cc : Nat → Nat} (h : CT B w bc m C cur aa cc) (hb : Below w.heap.size w w') : CT B w' bc m C cur aa cc := CT.below h hb
theorem made_colsE {l : List Fl} {sh : Sh} (hS : Sch l sh) (hh : hgt sh ≤ 5) {rows : List Tr} (hok : ∀ t ∈ rows, okT sh t) (hth : ∀ t ∈ rows, thT sh t) (hn : rows.length ≤ 16) : colsE l sh rows = 0 := by
  unfold colsE
  have hf : firstE (rows.map fun t => fitT l (KF l) t 0) = 0 := firstE_zero.2 (fun e he => by
    obtain ⟨t, ht, rfl⟩ := List.mem_map.1 he
    exact fit_okT sh 0 t hS.ix hS.good (hok t ht))
  rw [if_neg (by omega), hf, if_neg (fun h => h rfl), if_neg]
  rw [many_no (l := l) hh hth hn]
  decide
end Go.Proofs.Ytibhcibcfommeaa
