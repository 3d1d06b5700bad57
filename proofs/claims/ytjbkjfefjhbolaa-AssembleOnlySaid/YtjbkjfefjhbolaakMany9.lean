import Derived.Test.YtjbkjfefjhbolaakMake8
import Derived.Test.YtjbkjfefjhbolaakOkP
import Derived.Test.YtjbkjfefjhbolaakCol14S
import Derived.Test.YtjbkjfefjhbolaakLeafP
import Derived.Test.YtjbkjfefjhbolaakOwn14
set_option linter.unusedSimpArgs false
set_option linter.unusedVariables false
namespace Go.Shr
open Go.RowKit
theorem ORow.below {e : TypeId} {B : Nat} {w w' : World} {a : Option Addr} {n cap : Nat} {l : List Tr} {ys : List Value} (h : ORow e B w a n cap l ys) (hb : Below w.heap.size w w') : ORow e B w' a n cap l ys :=
 ⟨h.own.below hb, h.row.go (Chg.ofBelow hb) (fun k hk h => ⟨by omega, h⟩), fun b h2 => Nat.lt_of_lt_of_le (h.lt b h2) hb.size, h.len⟩
structure IRows (w : World) (zz : List (List Int)) (xs : List Value) : Prop where
 len : xs.length = zz.length
 row : ∀ k (h : k < zz.length), ∃ a cap, xs[k]? = some (.slice a zz[k].length cap) ∧ Sl (fun b => b < w.heap.size) w 1 a zz[k].length cap (zz[k].map fun z => .int .i64 z)
theorem IRows.below {w w' : World} {zz : List (List Int)} {xs : List Value} (h : IRows w zz xs) (hb : Below w.heap.size w w') : IRows w' zz xs :=
 ⟨h.len, fun k hk => by obtain ⟨a, c, h1, h2⟩ := h.row k hk; exact ⟨a, c, h1, slb h2 hb⟩⟩
end Go.Shr
namespace Go.Proofs.Ytjbkjfefjhbolaa
open Go.RowKit Go.Shr
end Go.Proofs.Ytjbkjfefjhbolaa
namespace Go.Proofs.Ytjbkjfefjhbolaa
open Go.RowKit Go.Shr
theorem make_rep (ns : List Int) : ∀ x ∈ makeL ns, x.rep = 0 ∨ x.rep = 1 ∨ x.rep = 2 := by
 intro x hx
 rw [makeL_flat] at hx
 have := flat_bd _ (makeSh_good ns).1 x hx
 omega
mutual
theorem leaf_in {l : List Fl} : ∀ (s : Sh) (i : Nat), GoodS s → Ix l (fun v => kidsOf (par l) v) i s → ∃ j, i ≤ j ∧ j < i + s.size ∧ (flN l j).kind ≠ 0
 | .mk nm rp kd ks, i, hg, hx => by
  simp only [GoodS] at hg
  simp only [Ix] at hx
  by_cases hk : kd = 0
  ·obtain ⟨j, h1, h2, h3⟩ := leafL_in ks (i + 1) (hg.2.2.2.2.2.1 hk) hg.2.2.2.2.2.2 hx.2.2
   exact ⟨j, by omega, by simp only [Sh.size]; omega, h3⟩
  ·obtain ⟨hil, hie⟩ := List.getElem?_eq_some_iff.1 hx.1
   exact ⟨i, Nat.le_refl _, by simp only [Sh.size]; omega, by rw [flN_eq hil, hie]; exact hk⟩
theorem leafL_in {l : List Fl} : ∀ (ks : List Sh) (o : Nat), ks ≠ [] → GoodL ks → IxL l (fun v => kidsOf (par l) v) o ks → ∃ j, o ≤ j ∧ j < o + shSizes ks ∧ (flN l j).kind ≠ 0
 | [], o, h, _, _ => absurd rfl h
 | s :: q, o, _, hg, hx => by
  simp only [GoodL] at hg
  simp only [IxL] at hx
  obtain ⟨j, h1, h2, h3⟩ := leaf_in s o hg.1 hx.1
  exact ⟨j, h1, by simp only [shSizes]; omega, h3⟩
end
theorem Sch.leaf {l : List Fl} {sh : Sh} (h : Sch l sh) : 0 < (leafs l l.length).length := by
 obtain ⟨j, _, h2, h3⟩ := leaf_in sh 0 h.good h.ix
 have hl := h.len
 exact List.length_pos_of_mem (leafs_mem.2 ⟨by omega, h3⟩)
end Go.Proofs.Ytjbkjfefjhbolaa
