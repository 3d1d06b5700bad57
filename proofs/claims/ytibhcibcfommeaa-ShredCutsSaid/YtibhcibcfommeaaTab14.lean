/-
 Columns in memory: the rows of each in different blocks.
-/
import Derived.Test.YtibhcibcfommeaaProg
import Derived.Test.YtibhcibcfommeaaOW14
import Derived.Test.YtibhcibcfommeaaCol14Q
set_option linter.unusedSimpArgs false
namespace Go.Proofs.Ytibhcibcfommeaa
open Go.RowKit Go.Shr
def tyC (j : Nat) : TypeId := if j % 3 = 2 then 54 else 3
def szC (j : Nat) : Nat := if j % 3 = 2 then 2 else 1
def nC (C : Nat → List Cel) (j : Nat) : Nat := if j % 3 = 2 then (celV (C (j / 3))).length else (C (j / 3)).length
def xC (C : Nat → List Cel) (j : Nat) : List Value := if j % 3 = 0 then celR (C (j / 3)) else if j % 3 = 1 then celD (C (j / 3)) else vcs (celV (C (j / 3)))
theorem idx0 (k : Nat) : (k * 3) % 3 = 0 ∧ (k * 3) / 3 = k := by omega
theorem idx1 (k : Nat) : (k * 3 + 1) % 3 = 1 ∧ (k * 3 + 1) / 3 = k := by omega
theorem idx2 (k : Nat) : (k * 3 + 2) % 3 = 2 ∧ (k * 3 + 2) / 3 = k := by omega
theorem ty0 (k : Nat) : tyC (k * 3) = 3 ∧ szC (k * 3) = 1 := by unfold tyC szC; rw [(idx0 k).1]; exact ⟨rfl, rfl⟩
theorem ty1 (k : Nat) : tyC (k * 3 + 1) = 3 ∧ szC (k * 3 + 1) = 1 := by unfold tyC szC; rw [(idx1 k).1]; exact ⟨rfl, rfl⟩
theorem ty2 (k : Nat) : tyC (k * 3 + 2) = 54 ∧ szC (k * 3 + 2) = 2 := by unfold tyC szC; rw [(idx2 k).1]; exact ⟨rfl, rfl⟩
theorem n0 (C : Nat → List Cel) (k : Nat) : nC C (k * 3) = (C k).length ∧ xC C (k * 3) = celR (C k) := by unfold nC xC; rw [(idx0 k).1, (idx0 k).2]; exact ⟨rfl, rfl⟩
theorem n1 (C : Nat → List Cel) (k : Nat) : nC C (k * 3 + 1) = (C k).length ∧ xC C (k * 3 + 1) = celD (C k) := by unfold nC xC; rw [(idx1 k).1, (idx1 k).2]; exact ⟨rfl, rfl⟩
theorem n2 (C : Nat → List Cel) (k : Nat) : nC C (k * 3 + 2) = (celV (C k)).length ∧ xC C (k * 3 + 2) = vcs (celV (C k)) := by unfold nC xC; rw [(idx2 k).1, (idx2 k).2]; exact ⟨rfl, rfl⟩
theorem three {P : Nat → Prop} {j k : Nat} (h : j / 3 = k) (h0 : P (k * 3)) (h1 : P (k * 3 + 1)) (h2 : P (k * 3 + 2)) : P j := by
 have : j = k * 3 ∨ j = k * 3 + 1 ∨ j = k * 3 + 2 := by omega
 rcases this with rfl | rfl | rfl
 ·exact h0
 ·exact h1
 ·exact h2
theorem upd3_at {α : Type} (f : Nat → α) (k : Nat) (x y z : α) : upd (upd (upd f (k * 3) x) (k * 3 + 1) y) (k * 3 + 2) z (k * 3) = x ∧ upd (upd (upd f (k * 3) x) (k * 3 + 1) y) (k * 3 + 2) z (k * 3 + 1) = y ∧ upd (upd (upd f (k * 3) x) (k * 3 + 1) y) (k * 3 + 2) z (k * 3 + 2) = z := by
 refine ⟨?_, ?_, upd_self _ _ _⟩
 ·rw [upd_ne _ _ (by omega), upd_ne _ _ (by omega), upd_self]
 ·rw [upd_ne _ _ (by omega), upd_self]
theorem upd3_ne {α : Type} (f : Nat → α) {k j : Nat} (x y z : α) (h : j / 3 ≠ k) : upd (upd (upd f (k * 3) x) (k * 3 + 1) y) (k * 3 + 2) z j = f j := by
 rw [upd_ne _ _ (by omega), upd_ne _ _ (by omega), upd_ne _ _ (by omega)]
theorem nC_upd (C : Nat → List Cel) (k : Nat) (L : List Cel) (j : Nat) : upd (upd (upd (nC C) (k * 3) L.length) (k * 3 + 1) L.length) (k * 3 + 2) (celV L).length j = nC (upd C k L) j := by
 by_cases h : j / 3 = k
 ·have hu := upd3_at (nC C) k L.length L.length (celV L).length
  refine three (P := fun j => upd (upd (upd (nC C) (k * 3) L.length) (k * 3 + 1) L.length) (k * 3 + 2) (celV L).length j = nC (upd C k L) j) h ?_ ?_ ?_
  ·rw [hu.1, (n0 _ k).1, upd_self]
  ·rw [hu.2.1, (n1 _ k).1, upd_self]
  ·rw [hu.2.2, (n2 _ k).1, upd_self]
 ·rw [upd3_ne _ _ _ _ h]
  unfold nC
  rw [upd_ne _ _ h]
theorem xC_upd (C : Nat → List Cel) (k : Nat) (L : List Cel) (j : Nat) : upd (upd (upd (xC C) (k * 3) (celR L)) (k * 3 + 1) (celD L)) (k * 3 + 2) (vcs (celV L)) j = xC (upd C k L) j := by
 by_cases h : j / 3 = k
 ·have hu := upd3_at (xC C) k (celR L) (celD L) (vcs (celV L))
  refine three (P := fun j => upd (upd (upd (xC C) (k * 3) (celR L)) (k * 3 + 1) (celD L)) (k * 3 + 2) (vcs (celV L)) j = xC (upd C k L) j) h ?_ ?_ ?_
  ·rw [hu.1, (n0 _ k).2, upd_self]
  ·rw [hu.2.1, (n1 _ k).2, upd_self]
  ·rw [hu.2.2, (n2 _ k).2, upd_self]
 ·rw [upd3_ne _ _ _ _ h]
  unfold xC
  rw [upd_ne _ _ h]
/-- Columns that a call owns: their headers in the block bc, their rows in blocks from B on. -/
structure CT (B : Nat) (w : World) (bc m : Nat) (C : Nat → List Cel) (cur : Array Value) (aa : Nat → Option Addr) (cc : Nat → Nat) : Prop where
 row : Rw w bc cur 46
 size : cur.size = m * 3
 hds : Hds cur (m * 3) aa (nC C) cc
 ow : OW B w (m * 3) tyC szC aa (nC C) cc (xC C)
 lt : bc < B
section
variable {B : Nat} {w w' : World} {bc m : Nat} {C : Nat → List Cel} {cur : Array Value} {aa : Nat → Option Addr} {cc : Nat → Nat}
theorem CT.below (h : CT B w bc m C cur aa cc) (hb : Below w.heap.size w w') : CT B w' bc m C cur aa cc := ⟨h.row.below hb, h.size, h.hds, h.ow.below hb, h.lt⟩
theorem CT.chg {S : Nat → Prop} (h : CT B w bc m C cur aa cc) (hc : Chg S w w') (hS : ∀ g, g < w.heap.size → (g = bc ∨ B ≤ g) → ¬ S g) : CT B w' bc m C cur aa cc :=
 ⟨h.row.chg hc (hS bc h.row.lt (.inl rfl)), h.size, h.hds, h.ow.chg hc (fun g h1 h2 => hS g h2 (.inr h1)), h.lt⟩
theorem CT.cell0 (h : CT B w bc m C cur aa cc) {k : Nat} (hk : k < m) : w.cell? ⟨bc, k * 3, none⟩ = some (.slice (aa (k * 3)) (C k).length (cc (k * 3))) := by
 rw [h.row.cell, h.hds _ (by omega), (n0 C k).1]
theorem CT.cell1 (h : CT B w bc m C cur aa cc) {k : Nat} (hk : k < m) : w.cell? ⟨bc, k * 3 + 1, none⟩ = some (.slice (aa (k * 3 + 1)) (C k).length (cc (k * 3 + 1))) := by
 rw [h.row.cell, h.hds _ (by omega), (n1 C k).1]
theorem CT.cell2 (h : CT B w bc m C cur aa cc) {k : Nat} (hk : k < m) : w.cell? ⟨bc, k * 3 + 2, none⟩ = some (.slice (aa (k * 3 + 2)) (celV (C k)).length (cc (k * 3 + 2))) := by
 rw [h.row.cell, h.hds _ (by omega), (n2 C k).1]
theorem OW.own0 (h : OW B w (m * 3) tyC szC aa (nC C) cc (xC C)) {k : Nat} (hk : k < m) : Own B w 3 1 (aa (k * 3)) (C k).length (cc (k * 3)) (celR (C k)) := by
 have := h.own (k * 3) (by omega)
 rwa [(ty0 k).1, (ty0 k).2, (n0 C k).1, (n0 C k).2] at this
theorem OW.own1 (h : OW B w (m * 3) tyC szC aa (nC C) cc (xC C)) {k : Nat} (hk : k < m) : Own B w 3 1 (aa (k * 3 + 1)) (C k).length (cc (k * 3 + 1)) (celD (C k)) := by
 have := h.own (k * 3 + 1) (by omega)
 rwa [(ty1 k).1, (ty1 k).2, (n1 C k).1, (n1 C k).2] at this
theorem OW.own2 (h : OW B w (m * 3) tyC szC aa (nC C) cc (xC C)) {k : Nat} (hk : k < m) : Own B w 54 2 (aa (k * 3 + 2)) (celV (C k)).length (cc (k * 3 + 2)) (vcs (celV (C k))) := by
 have := h.own (k * 3 + 2) (by omega)
 rwa [(ty2 k).1, (ty2 k).2, (n2 C k).1, (n2 C k).2] at this
/-- A cell more, its levels written: first the rows, then the headers. -/
theorem CT.fin {L : List Cel} {k : Nat} (hk : k < m) {a0 a1 a2 : Option Addr} {c0 c1 c2 : Nat} (hr : Rw w bc cur 46) (hs : cur.size = m * 3) (hh : Hds cur (m * 3) aa (nC C) cc) (hl : bc < B)
  (ho : OW B w (m * 3) tyC szC (upd (upd (upd aa (k * 3) a0) (k * 3 + 1) a1) (k * 3 + 2) a2) (upd (upd (upd (nC C) (k * 3) L.length) (k * 3 + 1) L.length) (k * 3 + 2) (celV L).length) (upd (upd (upd cc (k * 3) c0) (k * 3 + 1) c1) (k * 3 + 2) c2) (upd (upd (upd (xC C) (k * 3) (celR L)) (k * 3 + 1) (celD L)) (k * 3 + 2) (vcs (celV L)))) :
  CT B (((w.setCell ⟨bc, k * 3, none⟩ (.slice a0 L.length c0)).setCell ⟨bc, k * 3 + 1, none⟩ (.slice a1 L.length c1)).setCell ⟨bc, k * 3 + 2, none⟩ (.slice a2 (celV L).length c2)) bc m (upd C k L)
   (((cur.setIfInBounds (k * 3) (.slice a0 L.length c0)).setIfInBounds (k * 3 + 1) (.slice a1 L.length c1)).setIfInBounds (k * 3 + 2) (.slice a2 (celV L).length c2))
   (upd (upd (upd aa (k * 3) a0) (k * 3 + 1) a1) (k * 3 + 2) a2) (upd (upd (upd cc (k * 3) c0) (k * 3 + 1) c1) (k * 3 + 2) c2) := by
 refine ⟨((hr.set _ _).set _ _).set _ _, by simpa using hs, ?_, ?_, hl⟩
 ·have := ((hh.set (show k * 3 < m * 3 by omega) a0 L.length c0).set (show k * 3 + 1 < m * 3 by omega) a1 L.length c1).set (show k * 3 + 2 < m * 3 by omega) a2 (celV L).length c2
  exact this.congr (fun _ _ => rfl) (fun j _ => nC_upd C k L j) (fun _ _ => rfl)
 ·have hch : Chg (fun b => b = bc) w (((w.setCell ⟨bc, k * 3, none⟩ (.slice a0 L.length c0)).setCell ⟨bc, k * 3 + 1, none⟩ (.slice a1 L.length c1)).setCell ⟨bc, k * 3 + 2, none⟩ (.slice a2 (celV L).length c2)) := (((Chg.refl (fun b => b = bc) w).setCell (p := ⟨bc, k * 3, none⟩) (.inr rfl) _).setCell (p := ⟨bc, k * 3 + 1, none⟩) (.inr rfl) _).setCell (p := ⟨bc, k * 3 + 2, none⟩) (.inr rfl) _
  exact (ho.chg hch (fun g h1 _ h2 => by have h3 : g = bc := h2; omega)).congr (fun _ _ => rfl) (fun j _ => nC_upd C k L j) (fun _ _ => rfl) (fun j _ => xC_upd C k L j)
end
end Go.Proofs.Ytibhcibcfommeaa
