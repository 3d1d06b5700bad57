/-
 Several rows that a call owns, side by side, of any elements. No program in sight.
-/
import Derived.Test.YtibhcibcfommeaaRegJ
namespace Go.Shr
open Go.RowKit
/-- N rows that a call owns, in different blocks. -/
structure OW (B : Nat) (w : World) (N : Nat) (ty : Nat → TypeId) (sz : Nat → Nat) (aa : Nat → Option Addr) (n cc : Nat → Nat) (X : Nat → List Value) : Prop where
 own : ∀ j, j < N → Own B w (ty j) (sz j) (aa j) (n j) (cc j) (X j)
 lt : ∀ j g, j < N → blk (aa j) g → g < w.heap.size ∧ B ≤ g
 dis : ∀ i j g, i < N → j < N → i ≠ j → blk (aa i) g → ¬ blk (aa j) g
/-- A row of values with one changed. -/
def upd {α : Type} (f : Nat → α) (j : Nat) (x : α) : Nat → α := fun i => if i = j then x else f i
theorem upd_self {α : Type} (f : Nat → α) (j : Nat) (x : α) : upd f j x j = x := if_pos rfl
theorem upd_ne {α : Type} (f : Nat → α) {i j : Nat} (x : α) (h : i ≠ j) : upd f j x i = f i := if_neg h
section
variable {B : Nat} {w w' : World} {N : Nat} {ty : Nat → TypeId} {sz : Nat → Nat} {aa : Nat → Option Addr} {n cc : Nat → Nat} {X : Nat → List Value}
theorem OW.chg {S : Nat → Prop} (h : OW B w N ty sz aa n cc X) (hc : Chg S w w') (hS : ∀ g, B ≤ g → g < w.heap.size → ¬ S g) : OW B w' N ty sz aa n cc X :=
 ⟨fun j hj => (h.own j hj).chg hc (fun g hg => hS g (h.lt j g hj hg).2 (h.lt j g hj hg).1), fun j g hj hg => ⟨Nat.lt_of_lt_of_le (h.lt j g hj hg).1 hc.size, (h.lt j g hj hg).2⟩, h.dis⟩
theorem OW.below (h : OW B w N ty sz aa n cc X) (hb : Below w.heap.size w w') : OW B w' N ty sz aa n cc X :=
 ⟨fun j hj => (h.own j hj).below hb, fun j g hj hg => ⟨Nat.lt_of_lt_of_le (h.lt j g hj hg).1 hb.size, (h.lt j g hj hg).2⟩, h.dis⟩
theorem OW.nil (B : Nat) (w : World) (N : Nat) (ty : Nat → TypeId) (sz : Nat → Nat) : OW B w N ty sz (fun _ => none) (fun _ => 0) (fun _ => 0) (fun _ => []) :=
 ⟨fun _ _ => Own.nil _ _ _ _, (fun _ _ _ h => by obtain ⟨_, _, h⟩ := h; cases h), (fun _ _ _ _ _ _ h => by obtain ⟨_, _, h⟩ := h; cases h)⟩
/-- More of one of them. -/
theorem OW.push (h : OW B w N ty sz aa n cc X) {j : Nat} (hj : j < N) {a' : Option Addr} {c' n' : Nat} {X' : List Value} (hn0 : 0 < n')
  (ho : Own B w' (ty j) (sz j) a' n' c' X') (hc : Chg (fun g => blk (aa j) g ∧ B ≤ g ∧ 0 < cc j) w w') (hn : ∀ g, blk a' g → blk (aa j) g ∨ w.heap.size ≤ g) :
  OW B w' N ty sz (upd aa j a') (upd n j n') (upd cc j c') (upd X j X') := by
 have hblk : ∀ g, blk a' g → g < w'.heap.size ∧ B ≤ g := fun g hg => by
  obtain ⟨g', rfl, h1, h2, _⟩ := ho.pos hn0
  obtain ⟨o, s, e'⟩ := hg
  cases e'
  exact ⟨h2, h1⟩
 have hsz := hc.size
 refine ⟨fun i hi => ?_, fun i g hi hg => ?_, fun i k g hi hk hik hg hg' => ?_⟩
 ·by_cases hij : i = j
  ·subst hij; simp only [upd_self]; exact ho
  ·simp only [upd_ne _ _ hij]
   exact (h.own i hi).chg hc (fun g hg ⟨h1, _⟩ => h.dis i j g hi hj hij hg h1)
 ·by_cases hij : i = j
  ·subst hij; rw [upd_self] at hg; exact hblk g hg
  ·rw [upd_ne _ _ hij] at hg
   have := h.lt i g hi hg
   omega
 ·by_cases hij : i = j
  ·subst hij
   rw [upd_self] at hg
   rw [upd_ne _ _ (Ne.symm hik)] at hg'
   rcases hn g hg with h1 | h1
   ·exact h.dis i k g hi hk hik h1 hg'
   ·have := (h.lt k g hk hg').1; omega
  ·rw [upd_ne _ _ hij] at hg
   by_cases hkj : k = j
   ·subst hkj
    rw [upd_self] at hg'
    rcases hn g hg' with h1 | h1
    ·exact h.dis i k g hi hk hik hg h1
    ·have := (h.lt i g hi hg).1; omega
   ·rw [upd_ne _ _ hkj] at hg'
    exact h.dis i k g hi hk hik hg hg'
/-- A cell of one of them. -/
theorem OW.stored (h : OW B w N ty sz aa n cc X) {j : Nat} (hj : j < N) {g : Nat} (ha : aa j = some ⟨g, 0, none⟩) (k : Nat) (u : Value) :
  OW B (w.setCell ⟨g, k, none⟩ u) N ty sz aa n cc (upd X j ((X j).set k u)) := by
 refine ⟨fun i hi => ?_, fun i g' hi hg => by have := h.lt i g' hi hg; simpa using this, h.dis⟩
 by_cases hij : i = j
 ·subst hij
  rw [upd_self]
  exact (h.own i hi).stored ha k u
 ·rw [upd_ne _ _ hij]
  exact (h.own i hi).setCell (fun g' hg' e => h.dis i j g' hi hj hij hg' (by rw [ha]; subst e; exact ⟨_, _, rfl⟩)) u
theorem OW.congr {aa' : Nat → Option Addr} {n' cc' : Nat → Nat} {X' : Nat → List Value} (h : OW B w N ty sz aa n cc X) (h1 : ∀ j, j < N → aa j = aa' j) (h2 : ∀ j, j < N → n j = n' j) (h3 : ∀ j, j < N → cc j = cc' j) (h4 : ∀ j, j < N → X j = X' j) : OW B w N ty sz aa' n' cc' X' :=
 ⟨fun j hj => by rw [← h1 j hj, ← h2 j hj, ← h3 j hj, ← h4 j hj]; exact h.own j hj, fun j g hj hg => h.lt j g hj (by rw [h1 j hj]; exact hg), fun i j g hi hj hij hg hg' => h.dis i j g hi hj hij (by rw [h1 i hi]; exact hg) (by rw [h1 j hj]; exact hg')⟩
theorem OW.sl (h : OW B w N ty sz aa n cc X) {j : Nat} (hj : j < N) (hs : 0 < sz j) : Sl (fun b => b < w.heap.size) w (sz j) (aa j) (n j) (cc j) (X j) := (h.own j hj).sl.mono (fun k hk _ => hk) hs
end
/-- The headers of rows, in a row that is known whole. -/
def Hds (cur : Array Value) (N : Nat) (aa : Nat → Option Addr) (n cc : Nat → Nat) : Prop := ∀ j, j < N → cur[j]? = some (.slice (aa j) (n j) (cc j))
theorem Hds.set {cur : Array Value} {N : Nat} {aa : Nat → Option Addr} {n cc : Nat → Nat} (h : Hds cur N aa n cc) {j : Nat} (hj : j < N) (a' : Option Addr) (n' c' : Nat) : Hds (cur.setIfInBounds j (.slice a' n' c')) N (upd aa j a') (upd n j n') (upd cc j c') := by
 have hs : j < cur.size := (Array.getElem?_eq_some_iff.1 (h j hj)).1
 intro i hi
 by_cases hij : i = j
 ·subst hij; simp [upd_self, hs]
 ·rw [Array.getElem?_setIfInBounds_ne (Ne.symm hij), upd_ne _ _ hij, upd_ne _ _ hij, upd_ne _ _ hij]
  exact h i hi
theorem Hds.congr {cur : Array Value} {N : Nat} {aa aa' : Nat → Option Addr} {n n' cc cc' : Nat → Nat} (h : Hds cur N aa n cc) (h1 : ∀ j, j < N → aa j = aa' j) (h2 : ∀ j, j < N → n j = n' j) (h3 : ∀ j, j < N → cc j = cc' j) : Hds cur N aa' n' cc' := fun j hj => by rw [← h1 j hj, ← h2 j hj, ← h3 j hj]; exact h j hj
end Go.Shr
