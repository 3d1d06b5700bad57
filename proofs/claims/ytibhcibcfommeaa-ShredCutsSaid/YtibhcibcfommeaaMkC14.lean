/-
 What records that are made share: they fit, they are thin, they have no error.
-/
import Derived.Test.YtibhcibcfommeaaCol14S
import Derived.Test.YtibhcibcfommeaaMany9
import Derived.Test.YtibhcibcfommeaaOkP
import Derived.Test.YtibhcibcfommeaaLeafP
import Derived.Test.YtibhcibcfommeaaColsT14
set_option linter.unusedSimpArgs false
namespace Go.Proofs.Ytibhcibcfommeaa
open Go.RowKit Go.Shr
theorem many_ok14 {zz : List (List Int)} (hwf : ∀ z ∈ zz, ∀ v ∈ z, (Lit.int .i64 v).wf = true) (sh : Sh) : ∀ t ∈ manyT sh zz, okT sh t := by
 intro t ht
 obtain ⟨z, hz, rfl⟩ := List.mem_map.1 ht
 exact ok_make (hwf z (List.mem_of_mem_take hz)) sh
theorem many_th (ns : List Int) (zz : List (List Int)) : ∀ t ∈ manyT (makeSh ns) zz, thT (makeSh ns) t := by
 intro t ht
 obtain ⟨z, hz, rfl⟩ := List.mem_map.1 ht
 exact th_mkT z _ 0
theorem make_rep (ns : List Int) : ∀ x ∈ makeL ns, x.rep = 0 ∨ x.rep = 1 ∨ x.rep = 2 := by
 intro x hx
 rw [makeL_flat] at hx
 have := flat_bd _ (makeSh_good ns).1 x hx
 omega
theorem made_colsE {l : List Fl} {sh : Sh} (hS : Sch l sh) (hh : hgt sh ≤ 5) {rows : List Tr} (hok : ∀ t ∈ rows, okT sh t) (hth : ∀ t ∈ rows, thT sh t) (hn : rows.length ≤ 16) : colsE l sh rows = 0 := by
 unfold colsE
 have hf : firstE (rows.map fun t => fitT l (KF l) t 0) = 0 := firstE_zero.2 (fun e he => by
  obtain ⟨t, ht, rfl⟩ := List.mem_map.1 he
  exact fit_okT sh 0 t hS.ix hS.good (hok t ht))
 rw [if_neg (by omega), hf, if_neg (fun h => h rfl), if_neg]
 rw [many_no (l := l) hh hth hn]
 decide
mutual
theorem leaf_in {l : List Fl} : ∀ (s : Sh) (i : Nat), GoodS s → Ix l (fun v => kidsOf (par l) v) i s → ∃ j, i ≤ j ∧ j < i + s.size ∧ (flN l j).kind ≠ 0
 | .mk nm rp kd ks, i, hg, hx => by
  simp only [GoodS] at hg
  simp only [Ix] at hx
  by_cases hk : kd = 0
  ·obtain ⟨j, h1, h2, h3⟩ := leafL_in ks (i + 1) (hg.2.2.2.2.2.1 hk) hg.2.2.2.2.2.2 hx.2.2
   exact ⟨j, by omega, by simp only [Sh.size]; omega, h3⟩
  ·obtain ⟨hil, hie⟩ := List.getElem?_eq_some_iff.1 hx.1
   exact ⟨i, Nat.le_refl _, by simp only [Sh.size]; omega, by rw [flN_eq hil, hie]; exact hk⟩
theorem leafL_in {l : List Fl} : ∀ (ks : List Sh) (o : Nat), ks ≠ [] → GoodL ks → IxL l (fun v => kidsOf (par l) v) o ks → ∃ j, o ≤ j ∧ j < o + shSizes ks ∧ (flN l j).kind ≠ 0
 | [], o, h, _, _ => absurd rfl h
 | s :: q, o, _, hg, hx => by
  simp only [GoodL] at hg
  simp only [IxL] at hx
  obtain ⟨j, h1, h2, h3⟩ := leaf_in s o hg.1 hx.1
  exact ⟨j, h1, by simp only [shSizes]; omega, h3⟩
end
theorem Sch.leaf {l : List Fl} {sh : Sh} (h : Sch l sh) : 0 < (leafs l l.length).length := by
 obtain ⟨j, _, h2, h3⟩ := leaf_in sh 0 h.good h.ix
 have hl := h.len
 exact List.length_pos_of_mem (leafs_mem.2 ⟨by omega, h3⟩)
end Go.Proofs.Ytibhcibcfommeaa
