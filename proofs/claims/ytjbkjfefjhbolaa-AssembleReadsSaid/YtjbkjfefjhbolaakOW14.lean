import Derived.Test.YtjbkjfefjhbolaakOkP
set_option linter.all false
open List renaming any_eq_true → zLP, length_singleton → zLQ, length_append → zLR, take_of_length_le → zLS, mem_range → zLT
open Nat renaming lt_of_lt_of_le → zLU
namespace Go.Shr
open Go.RowKit
structure OW (B : Nat) (w : World) (N : Nat) (ty : Nat → TypeId) (sz : Nat → Nat) (aa : Nat → Option Addr) (n cc : Nat → Nat) (X : Nat → List Value) : Prop where
 own : ∀ j, j < N → Own B w (ty j) (sz j) (aa j) (n j) (cc j) (X j)
 lt : ∀ j g, j < N → blk (aa j) g → g < w.heap.size ∧ B ≤ g
 dis : ∀ i j g, i < N → j < N → i ≠ j → blk (aa i) g → ¬ blk (aa j) g
def upd {α : Type} (f : Nat → α) (j : Nat) (x : α) : Nat → α := fun i => if i = j then x else f i
theorem zU {α : Type} (f : Nat → α) (j : Nat) (x : α) : upd f j x j = x := if_pos rfl
theorem zL {α : Type} (f : Nat → α) {i j : Nat} (x : α) (h : i ≠ j) : upd f j x i = f i := if_neg h
section
variable {B : Nat} {w w' : World} {N : Nat} {ty : Nat → TypeId} {sz : Nat → Nat} {aa : Nat → Option Addr} {n cc : Nat → Nat} {X : Nat → List Value}
theorem OW.chg {S : Nat → Prop} (h : OW B w N ty sz aa n cc X) (hc : Chg S w w') (hS : ∀ g, B ≤ g → g < w.heap.size → ¬ S g) : OW B w' N ty sz aa n cc X :=
 ⟨fun j hj => (h.own j hj).chg hc (fun g hg => hS g (h.lt j g hj hg).2 (h.lt j g hj hg).1), fun j g hj hg => ⟨zLU (h.lt j g hj hg).1 hc.size, (h.lt j g hj hg).2⟩, h.dis⟩
theorem OW.below (h : OW B w N ty sz aa n cc X) (hb : Below w.heap.size w w') : OW B w' N ty sz aa n cc X :=
 ⟨fun j hj => (h.own j hj).below hb, fun j g hj hg => ⟨zLU (h.lt j g hj hg).1 hb.size, (h.lt j g hj hg).2⟩, h.dis⟩
theorem OW.nil (B : Nat) (w : World) (N : Nat) (ty : Nat → TypeId) (sz : Nat → Nat) : OW B w N ty sz (fun _ => none) (fun _ => 0) (fun _ => 0) (fun _ => []) :=
 ⟨fun _ _ => Own.nil _ _ _ _, (fun _ _ _ h => by obtain ⟨_, _, h⟩ := h; cases h), (fun _ _ _ _ _ _ h => by obtain ⟨_, _, h⟩ := h; cases h)⟩
theorem OW.push (h : OW B w N ty sz aa n cc X) {j : Nat} (hj : j < N) {a' : Option Addr} {c' n' : Nat} {X' : List Value} (hn0 : 0 < n')
  (ho : Own B w' (ty j) (sz j) a' n' c' X') (hc : Chg (fun g => blk (aa j) g ∧ B ≤ g ∧ 0 < cc j) w w') (hn : ∀ g, blk a' g → blk (aa j) g ∨ w.heap.size ≤ g) :
  OW B w' N ty sz (upd aa j a') (upd n j n') (upd cc j c') (upd X j X') := by
 have hblk : ∀ g, blk a' g → g < w'.heap.size ∧ B ≤ g := fun g hg => by
  obtain ⟨g', rfl, h1, h2, _⟩ := ho.pos hn0
  obtain ⟨o, s, e'⟩ := hg
  cases e'
  exact ⟨h2, h1⟩
 have hsz := hc.size
 refine ⟨fun i hi => ?_, fun i g hi hg => ?_, fun i k g hi hk hik hg hg' => ?_⟩
 ·by_cases hij : i = j
  ·subst hij; simp only [zU]; exact ho
  ·simp only [zL _ _ hij]
   exact (h.own i hi).chg hc (fun g hg ⟨h1, _⟩ => h.dis i j g hi hj hij hg h1)
 ·by_cases hij : i = j
  ·subst hij; rw [zU] at hg; exact hblk g hg
  ·rw [zL _ _ hij] at hg
   have := h.lt i g hi hg
   omega
 ·by_cases hij : i = j
  ·subst hij
   rw [zU] at hg
   rw [zL _ _ (Ne.symm hik)] at hg'
   rcases hn g hg with h1 | h1
   ·exact h.dis i k g hi hk hik h1 hg'
   ·have := (h.lt k g hk hg').1; omega
  ·rw [zL _ _ hij] at hg
   by_cases hkj : k = j
   ·subst hkj
    rw [zU] at hg'
    rcases hn g hg' with h1 | h1
    ·exact h.dis i k g hi hk hik hg h1
    ·have := (h.lt i g hi hg).1; omega
   ·rw [zL _ _ hkj] at hg'
    exact h.dis i k g hi hk hik hg hg'
theorem OW.stored (h : OW B w N ty sz aa n cc X) {j : Nat} (hj : j < N) {g : Nat} (ha : aa j = some ⟨g, 0, none⟩) (k : Nat) (u : Value) :
  OW B (w.setCell ⟨g, k, none⟩ u) N ty sz aa n cc (upd X j ((X j).set k u)) := by
 refine ⟨fun i hi => ?_, fun i g' hi hg => by have := h.lt i g' hi hg; simpa using this, h.dis⟩
 by_cases hij : i = j
 ·subst hij
  rw [zU]
  exact (h.own i hi).stored ha k u
 ·rw [zL _ _ hij]
  exact (h.own i hi).setCell (fun g' hg' e => h.dis i j g' hi hj hij hg' (by rw [ha]; subst e; exact ⟨_, _, rfl⟩)) u
theorem OW.congr {aa' : Nat → Option Addr} {n' cc' : Nat → Nat} {X' : Nat → List Value} (h : OW B w N ty sz aa n cc X) (h1 : ∀ j, j < N → aa j = aa' j) (h2 : ∀ j, j < N → n j = n' j) (h3 : ∀ j, j < N → cc j = cc' j) (h4 : ∀ j, j < N → X j = X' j) : OW B w N ty sz aa' n' cc' X' :=
 ⟨fun j hj => by rw [← h1 j hj, ← h2 j hj, ← h3 j hj, ← h4 j hj]; exact h.own j hj, fun j g hj hg => h.lt j g hj (by rw [h1 j hj]; exact hg), fun i j g hi hj hij hg hg' => h.dis i j g hi hj hij (by rw [h1 i hi]; exact hg) (by rw [h1 j hj]; exact hg')⟩
theorem OW.sl (h : OW B w N ty sz aa n cc X) {j : Nat} (hj : j < N) (hs : 0 < sz j) : Sl (fun b => b < w.heap.size) w (sz j) (aa j) (n j) (cc j) (X j) := (h.own j hj).sl.mono (fun k hk _ => hk) hs
end
def Hds (cur : Array Value) (N : Nat) (aa : Nat → Option Addr) (n cc : Nat → Nat) : Prop := ∀ j, j < N → cur[j]? = some (.slice (aa j) (n j) (cc j))
theorem Hds.set {cur : Array Value} {N : Nat} {aa : Nat → Option Addr} {n cc : Nat → Nat} (h : Hds cur N aa n cc) {j : Nat} (hj : j < N) (a' : Option Addr) (n' c' : Nat) : Hds (cur.setIfInBounds j (.slice a' n' c')) N (upd aa j a') (upd n j n') (upd cc j c') := by
 have hs : j < cur.size := (Array.getElem?_eq_some_iff.1 (h j hj)).1
 intro i hi
 by_cases hij : i = j
 ·subst hij; simp [zU, hs]
 ·rw [Array.getElem?_setIfInBounds_ne (Ne.symm hij), zL _ _ hij, zL _ _ hij, zL _ _ hij]
  exact h i hi
theorem Hds.congr {cur : Array Value} {N : Nat} {aa aa' : Nat → Option Addr} {n n' cc cc' : Nat → Nat} (h : Hds cur N aa n cc) (h1 : ∀ j, j < N → aa j = aa' j) (h2 : ∀ j, j < N → n j = n' j) (h3 : ∀ j, j < N → cc j = cc' j) : Hds cur N aa' n' cc' := fun j hj => by rw [← h1 j hj, ← h2 j hj, ← h3 j hj]; exact h j hj
end Go.Shr
namespace Go.Proofs.Ytjbkjfefjhbolaa
open Go.RowKit Go.Shr
def tyC (j : Nat) : TypeId := if j % 3 = 2 then 44 else 3
def szC (j : Nat) : Nat := if j % 3 = 2 then 2 else 1
def nC (C : Nat → List Cel) (j : Nat) : Nat := if j % 3 = 2 then (zV (C (j / 3))).length else (C (j / 3)).length
def xC (C : Nat → List Cel) (j : Nat) : List Value := if j % 3 = 0 then zB3 (C (j / 3)) else if j % 3 = 1 then zBO (C (j / 3)) else vcs (zV (C (j / 3)))
theorem zLk (k : Nat) : (k * 3) % 3 = 0 ∧ (k * 3) / 3 = k := by omega
theorem zLj (k : Nat) : (k * 3 + 1) % 3 = 1 ∧ (k * 3 + 1) / 3 = k := by omega
theorem zLi (k : Nat) : (k * 3 + 2) % 3 = 2 ∧ (k * 3 + 2) / 3 = k := by omega
theorem ty0 (k : Nat) : tyC (k * 3) = 3 ∧ szC (k * 3) = 1 := by unfold tyC szC; rw [(zLk k).1]; exact ⟨rfl, rfl⟩
theorem ty1 (k : Nat) : tyC (k * 3 + 1) = 3 ∧ szC (k * 3 + 1) = 1 := by unfold tyC szC; rw [(zLj k).1]; exact ⟨rfl, rfl⟩
theorem ty2 (k : Nat) : tyC (k * 3 + 2) = 44 ∧ szC (k * 3 + 2) = 2 := by unfold tyC szC; rw [(zLi k).1]; exact ⟨rfl, rfl⟩
theorem n0 (C : Nat → List Cel) (k : Nat) : nC C (k * 3) = (C k).length ∧ xC C (k * 3) = zB3 (C k) := by unfold nC xC; rw [(zLk k).1, (zLk k).2]; exact ⟨rfl, rfl⟩
theorem n1 (C : Nat → List Cel) (k : Nat) : nC C (k * 3 + 1) = (C k).length ∧ xC C (k * 3 + 1) = zBO (C k) := by unfold nC xC; rw [(zLj k).1, (zLj k).2]; exact ⟨rfl, rfl⟩
theorem n2 (C : Nat → List Cel) (k : Nat) : nC C (k * 3 + 2) = (zV (C k)).length ∧ xC C (k * 3 + 2) = vcs (zV (C k)) := by unfold nC xC; rw [(zLi k).1, (zLi k).2]; exact ⟨rfl, rfl⟩
theorem zKt {P : Nat → Prop} {j k : Nat} (h : j / 3 = k) (h0 : P (k * 3)) (h1 : P (k * 3 + 1)) (h2 : P (k * 3 + 2)) : P j := by
 have : j = k * 3 ∨ j = k * 3 + 1 ∨ j = k * 3 + 2 := by omega
 rcases this with rfl | rfl | rfl
 ·exact h0
 ·exact h1
 ·exact h2
theorem zC6 {α : Type} (f : Nat → α) (k : Nat) (x y z : α) : upd (upd (upd f (k * 3) x) (k * 3 + 1) y) (k * 3 + 2) z (k * 3) = x ∧ upd (upd (upd f (k * 3) x) (k * 3 + 1) y) (k * 3 + 2) z (k * 3 + 1) = y ∧ upd (upd (upd f (k * 3) x) (k * 3 + 1) y) (k * 3 + 2) z (k * 3 + 2) = z := by
 refine ⟨?_, ?_, zU _ _ _⟩
 ·rw [zL _ _ (by omega), zL _ _ (by omega), zU]
 ·rw [zL _ _ (by omega), zU]
theorem zC5 {α : Type} (f : Nat → α) {k j : Nat} (x y z : α) (h : j / 3 ≠ k) : upd (upd (upd f (k * 3) x) (k * 3 + 1) y) (k * 3 + 2) z j = f j := by
 rw [zL _ _ (by omega), zL _ _ (by omega), zL _ _ (by omega)]
theorem zD1 (C : Nat → List Cel) (k : Nat) (L : List Cel) (j : Nat) : upd (upd (upd (nC C) (k * 3) L.length) (k * 3 + 1) L.length) (k * 3 + 2) (zV L).length j = nC (upd C k L) j := by
 by_cases h : j / 3 = k
 ·have hu := zC6 (nC C) k L.length L.length (zV L).length
  refine zKt (P := fun j => upd (upd (upd (nC C) (k * 3) L.length) (k * 3 + 1) L.length) (k * 3 + 2) (zV L).length j = nC (upd C k L) j) h ?_ ?_ ?_
  ·rw [hu.1, (n0 _ k).1, zU]
  ·rw [hu.2.1, (n1 _ k).1, zU]
  ·rw [hu.2.2, (n2 _ k).1, zU]
 ·rw [zC5 _ _ _ _ h]
  unfold nC
  rw [zL _ _ h]
theorem zJn (C : Nat → List Cel) (k : Nat) (L : List Cel) (j : Nat) : upd (upd (upd (xC C) (k * 3) (zB3 L)) (k * 3 + 1) (zBO L)) (k * 3 + 2) (vcs (zV L)) j = xC (upd C k L) j := by
 by_cases h : j / 3 = k
 ·have hu := zC6 (xC C) k (zB3 L) (zBO L) (vcs (zV L))
  refine zKt (P := fun j => upd (upd (upd (xC C) (k * 3) (zB3 L)) (k * 3 + 1) (zBO L)) (k * 3 + 2) (vcs (zV L)) j = xC (upd C k L) j) h ?_ ?_ ?_
  ·rw [hu.1, (n0 _ k).2, zU]
  ·rw [hu.2.1, (n1 _ k).2, zU]
  ·rw [hu.2.2, (n2 _ k).2, zU]
 ·rw [zC5 _ _ _ _ h]
  unfold xC
  rw [zL _ _ h]
structure CT (B : Nat) (w : World) (bc m : Nat) (C : Nat → List Cel) (cur : Array Value) (aa : Nat → Option Addr) (cc : Nat → Nat) : Prop where
 row : Rw w bc cur 42
 size : cur.size = m * 3
 hds : Hds cur (m * 3) aa (nC C) cc
 ow : OW B w (m * 3) tyC szC aa (nC C) cc (xC C)
 lt : bc < B
section
variable {B : Nat} {w w' : World} {bc m : Nat} {C : Nat → List Cel} {cur : Array Value} {aa : Nat → Option Addr} {cc : Nat → Nat}
theorem CT.below (h : CT B w bc m C cur aa cc) (hb : Below w.heap.size w w') : CT B w' bc m C cur aa cc := ⟨h.row.below hb, h.size, h.hds, h.ow.below hb, h.lt⟩
theorem CT.chg {S : Nat → Prop} (h : CT B w bc m C cur aa cc) (hc : Chg S w w') (hS : ∀ g, g < w.heap.size → (g = bc ∨ B ≤ g) → ¬ S g) : CT B w' bc m C cur aa cc :=
 ⟨h.row.chg hc (hS bc h.row.lt (.inl rfl)), h.size, h.hds, h.ow.chg hc (fun g h1 h2 => hS g h2 (.inr h1)), h.lt⟩
theorem CT.cell0 (h : CT B w bc m C cur aa cc) {k : Nat} (hk : k < m) : w.cell? ⟨bc, k * 3, none⟩ = some (.slice (aa (k * 3)) (C k).length (cc (k * 3))) := by
 rw [h.row.cell, h.hds _ (by omega), (n0 C k).1]
theorem CT.cell1 (h : CT B w bc m C cur aa cc) {k : Nat} (hk : k < m) : w.cell? ⟨bc, k * 3 + 1, none⟩ = some (.slice (aa (k * 3 + 1)) (C k).length (cc (k * 3 + 1))) := by
 rw [h.row.cell, h.hds _ (by omega), (n1 C k).1]
theorem CT.cell2 (h : CT B w bc m C cur aa cc) {k : Nat} (hk : k < m) : w.cell? ⟨bc, k * 3 + 2, none⟩ = some (.slice (aa (k * 3 + 2)) (zV (C k)).length (cc (k * 3 + 2))) := by
 rw [h.row.cell, h.hds _ (by omega), (n2 C k).1]
theorem OW.own0 (h : OW B w (m * 3) tyC szC aa (nC C) cc (xC C)) {k : Nat} (hk : k < m) : Own B w 3 1 (aa (k * 3)) (C k).length (cc (k * 3)) (zB3 (C k)) := by
 have := h.own (k * 3) (by omega)
 rwa [(ty0 k).1, (ty0 k).2, (n0 C k).1, (n0 C k).2] at this
theorem OW.own1 (h : OW B w (m * 3) tyC szC aa (nC C) cc (xC C)) {k : Nat} (hk : k < m) : Own B w 3 1 (aa (k * 3 + 1)) (C k).length (cc (k * 3 + 1)) (zBO (C k)) := by
 have := h.own (k * 3 + 1) (by omega)
 rwa [(ty1 k).1, (ty1 k).2, (n1 C k).1, (n1 C k).2] at this
theorem OW.own2 (h : OW B w (m * 3) tyC szC aa (nC C) cc (xC C)) {k : Nat} (hk : k < m) : Own B w 44 2 (aa (k * 3 + 2)) (zV (C k)).length (cc (k * 3 + 2)) (vcs (zV (C k))) := by
 have := h.own (k * 3 + 2) (by omega)
 rwa [(ty2 k).1, (ty2 k).2, (n2 C k).1, (n2 C k).2] at this
theorem CT.fin {L : List Cel} {k : Nat} (hk : k < m) {a0 a1 a2 : Option Addr} {c0 c1 c2 : Nat} (hr : Rw w bc cur 42) (hs : cur.size = m * 3) (hh : Hds cur (m * 3) aa (nC C) cc) (hl : bc < B)
  (ho : OW B w (m * 3) tyC szC (upd (upd (upd aa (k * 3) a0) (k * 3 + 1) a1) (k * 3 + 2) a2) (upd (upd (upd (nC C) (k * 3) L.length) (k * 3 + 1) L.length) (k * 3 + 2) (zV L).length) (upd (upd (upd cc (k * 3) c0) (k * 3 + 1) c1) (k * 3 + 2) c2) (upd (upd (upd (xC C) (k * 3) (zB3 L)) (k * 3 + 1) (zBO L)) (k * 3 + 2) (vcs (zV L)))) :
  CT B (((w.setCell ⟨bc, k * 3, none⟩ (.slice a0 L.length c0)).setCell ⟨bc, k * 3 + 1, none⟩ (.slice a1 L.length c1)).setCell ⟨bc, k * 3 + 2, none⟩ (.slice a2 (zV L).length c2)) bc m (upd C k L)
   (((cur.setIfInBounds (k * 3) (.slice a0 L.length c0)).setIfInBounds (k * 3 + 1) (.slice a1 L.length c1)).setIfInBounds (k * 3 + 2) (.slice a2 (zV L).length c2))
   (upd (upd (upd aa (k * 3) a0) (k * 3 + 1) a1) (k * 3 + 2) a2) (upd (upd (upd cc (k * 3) c0) (k * 3 + 1) c1) (k * 3 + 2) c2) := by
 refine ⟨((hr.set _ _).set _ _).set _ _, by simpa using hs, ?_, ?_, hl⟩
 ·have := ((hh.set (show k * 3 < m * 3 by omega) a0 L.length c0).set (show k * 3 + 1 < m * 3 by omega) a1 L.length c1).set (show k * 3 + 2 < m * 3 by omega) a2 (zV L).length c2
  exact this.congr (fun _ _ => rfl) (fun j _ => zD1 C k L j) (fun _ _ => rfl)
 ·have hch : Chg (fun b => b = bc) w (((w.setCell ⟨bc, k * 3, none⟩ (.slice a0 L.length c0)).setCell ⟨bc, k * 3 + 1, none⟩ (.slice a1 L.length c1)).setCell ⟨bc, k * 3 + 2, none⟩ (.slice a2 (zV L).length c2)) := (((Chg.refl (fun b => b = bc) w).setCell (p := ⟨bc, k * 3, none⟩) (.inr rfl) _).setCell (p := ⟨bc, k * 3 + 1, none⟩) (.inr rfl) _).setCell (p := ⟨bc, k * 3 + 2, none⟩) (.inr rfl) _
  exact (ho.chg hch (fun g h1 _ h2 => by have h3 : g = bc := h2; omega)).congr (fun _ _ => rfl) (fun j _ => zD1 C k L j) (fun _ _ => rfl) (fun j _ => zJn C k L j)
end
open Go.RowKit Go.Shr
theorem zCl : (Try.prog.info? 44).map (fun i => (i.zero, i.size, i.bytes)) = some (some (.agg #[.int .i64 0, .string ByteArray.empty]), 2, 24) := by kernel_rfl
theorem zEY {P : Program} {w : World} {ops : Array Oper} {o : Oper} {ac : Act} {K : Act → World → Prop} {Q : Exit → Act → World → Prop} {E : Prop} {e : TypeId} {size : Nat} {a : Option Addr} {n cap : Nat} (hgd : o.guard = none) (s x : Operand) (t tx : TypeId)
  (ho : o.op = .call { callee := .builtin .append, args := #[s, x], argTypes := #[t, tx] })
  (i : TypeInfo) (ht : P.underlying t = some (.slice e)) (hi : P.info? e = some i) (hsize : i.size = size) (hsv : ac.eval s = .slice a n cap) (hle : n ≤ cap) (v : Value) (hxv : ac.eval x = v) (hs : Src P size tx v 0 [] w)
  (hK : K (ac.put o.dst (.slice a n cap)) w) : if Region.wanted o (yielded ops ac.tmps) = true then Oper.wp P o ac w K Q else E := by
 have hw : Region.wanted o (yielded ops ac.tmps) = true := by simp [Region.wanted, hgd]
 rw [if_pos hw]
 subst hsize
 have hr := run_append_nothing (P := P) w t tx o.type e i ht hi a n cap hle v hs
 unfold Oper.wp execOp
 simp only [ho, resolve, invoke, builtin, Sem.run_bind, Sem.run_pure, Result.andThen_ok, List.map_toArray, List.map_cons, List.map_nil, hsv, hxv, hr]
 exact hK
section
variable {B : Nat} {w w' : World} {m : Nat} {C : Nat → List Cel} {aa : Nat → Option Addr} {cc : Nat → Nat} {k : Nat} {a0 a1 : Option Addr} {l0 l1 c0 c1 : Nat} {x0 x1 : List Value}
theorem OW.push0 (h : OW B w (m * 3) tyC szC aa (nC C) cc (xC C)) (hk : k < m) {a' : Option Addr} {n' c' : Nat} {X' : List Value} (hn0 : 0 < n') (ho : Own B w' 3 1 a' n' c' X') (hc : Chg (fun g => blk (aa (k * 3)) g ∧ B ≤ g ∧ 0 < cc (k * 3)) w w') (hn : ∀ g, blk a' g → blk (aa (k * 3)) g ∨ w.heap.size ≤ g) :
  OW B w' (m * 3) tyC szC (upd aa (k * 3) a') (upd (nC C) (k * 3) n') (upd cc (k * 3) c') (upd (xC C) (k * 3) X') :=
 h.push (show k * 3 < m * 3 by omega) hn0 (by rw [(ty0 k).1, (ty0 k).2]; exact ho) hc hn
theorem OW.own1' (h : OW B w (m * 3) tyC szC (upd aa (k * 3) a0) (upd (nC C) (k * 3) l0) (upd cc (k * 3) c0) (upd (xC C) (k * 3) x0)) (hk : k < m) : Own B w 3 1 (aa (k * 3 + 1)) (C k).length (cc (k * 3 + 1)) (zBO (C k)) := by
 have := h.own (k * 3 + 1) (by omega)
 rwa [(ty1 k).1, (ty1 k).2, zL _ _ (by omega), zL _ _ (by omega), zL _ _ (by omega), zL _ _ (by omega), (n1 C k).1, (n1 C k).2] at this
theorem OW.push1 (h : OW B w (m * 3) tyC szC (upd aa (k * 3) a0) (upd (nC C) (k * 3) l0) (upd cc (k * 3) c0) (upd (xC C) (k * 3) x0)) (hk : k < m) {a' : Option Addr} {n' c' : Nat} {X' : List Value} (hn0 : 0 < n') (ho : Own B w' 3 1 a' n' c' X') (hc : Chg (fun g => blk (aa (k * 3 + 1)) g ∧ B ≤ g ∧ 0 < cc (k * 3 + 1)) w w') (hn : ∀ g, blk a' g → blk (aa (k * 3 + 1)) g ∨ w.heap.size ≤ g) :
  OW B w' (m * 3) tyC szC (upd (upd aa (k * 3) a0) (k * 3 + 1) a') (upd (upd (nC C) (k * 3) l0) (k * 3 + 1) n') (upd (upd cc (k * 3) c0) (k * 3 + 1) c') (upd (upd (xC C) (k * 3) x0) (k * 3 + 1) X') :=
 h.push (show k * 3 + 1 < m * 3 by omega) hn0 (by rw [(ty1 k).1, (ty1 k).2]; exact ho) (by rw [zL _ _ (by omega), zL _ _ (by omega)]; exact hc) (by rw [zL _ _ (by omega)]; exact hn)
theorem OW.own2' (h : OW B w (m * 3) tyC szC (upd (upd aa (k * 3) a0) (k * 3 + 1) a1) (upd (upd (nC C) (k * 3) l0) (k * 3 + 1) l1) (upd (upd cc (k * 3) c0) (k * 3 + 1) c1) (upd (upd (xC C) (k * 3) x0) (k * 3 + 1) x1)) (hk : k < m) : Own B w 44 2 (aa (k * 3 + 2)) (zV (C k)).length (cc (k * 3 + 2)) (vcs (zV (C k))) := by
 have := h.own (k * 3 + 2) (by omega)
 rwa [(ty2 k).1, (ty2 k).2, zL _ _ (by omega), zL _ _ (by omega), zL _ _ (by omega), zL _ _ (by omega), zL _ _ (by omega), zL _ _ (by omega), zL _ _ (by omega), zL _ _ (by omega), (n2 C k).1, (n2 C k).2] at this
theorem OW.push2 (h : OW B w (m * 3) tyC szC (upd (upd aa (k * 3) a0) (k * 3 + 1) a1) (upd (upd (nC C) (k * 3) l0) (k * 3 + 1) l1) (upd (upd cc (k * 3) c0) (k * 3 + 1) c1) (upd (upd (xC C) (k * 3) x0) (k * 3 + 1) x1)) (hk : k < m) {a' : Option Addr} {n' c' : Nat} {X' : List Value} (hn0 : 0 < n') (ho : Own B w' 44 2 a' n' c' X') (hc : Chg (fun g => blk (aa (k * 3 + 2)) g ∧ B ≤ g ∧ 0 < cc (k * 3 + 2)) w w') (hn : ∀ g, blk a' g → blk (aa (k * 3 + 2)) g ∨ w.heap.size ≤ g) :
  OW B w' (m * 3) tyC szC (upd (upd (upd aa (k * 3) a0) (k * 3 + 1) a1) (k * 3 + 2) a') (upd (upd (upd (nC C) (k * 3) l0) (k * 3 + 1) l1) (k * 3 + 2) n') (upd (upd (upd cc (k * 3) c0) (k * 3 + 1) c1) (k * 3 + 2) c') (upd (upd (upd (xC C) (k * 3) x0) (k * 3 + 1) x1) (k * 3 + 2) X') :=
 h.push (show k * 3 + 2 < m * 3 by omega) hn0 (by rw [(ty2 k).1, (ty2 k).2]; exact ho) (by rw [zL _ _ (by omega), zL _ _ (by omega), zL _ _ (by omega), zL _ _ (by omega)]; exact hc) (by rw [zL _ _ (by omega), zL _ _ (by omega)]; exact hn)
theorem wU {α : Type} (f : Nat → α) (j : Nat) (x : α) (hx : x = f j) (i : Nat) : f i = upd f j x i := by
 by_cases h : i = j
 ·subst h; rw [zU, hx]
 ·rw [zL _ _ h]
theorem OW.same2 (h : OW B w (m * 3) tyC szC (upd (upd aa (k * 3) a0) (k * 3 + 1) a1) (upd (upd (nC C) (k * 3) l0) (k * 3 + 1) l1) (upd (upd cc (k * 3) c0) (k * 3 + 1) c1) (upd (upd (xC C) (k * 3) x0) (k * 3 + 1) x1)) :
  OW B w (m * 3) tyC szC (upd (upd (upd aa (k * 3) a0) (k * 3 + 1) a1) (k * 3 + 2) (aa (k * 3 + 2))) (upd (upd (upd (nC C) (k * 3) l0) (k * 3 + 1) l1) (k * 3 + 2) (zV (C k)).length) (upd (upd (upd cc (k * 3) c0) (k * 3 + 1) c1) (k * 3 + 2) (cc (k * 3 + 2))) (upd (upd (upd (xC C) (k * 3) x0) (k * 3 + 1) x1) (k * 3 + 2) (vcs (zV (C k)))) :=
 h.congr (fun j _ => wU _ _ _ (by rw [zL _ _ (by omega), zL _ _ (by omega)]) j) (fun j _ => wU _ _ _ (by rw [zL _ _ (by omega), zL _ _ (by omega), (n2 C k).1]) j) (fun j _ => wU _ _ _ (by rw [zL _ _ (by omega), zL _ _ (by omega)]) j) (fun j _ => wU _ _ _ (by rw [zL _ _ (by omega), zL _ _ (by omega), (n2 C k).2]) j)
end
def zD9 (ok : Nat → Prop) (w : World) (bk n : Nat) (K : Nat → List Int) : Prop := ∀ k, k < n → ok bk ∧ ∃ a c, w.cell? ⟨bk, k, none⟩ = some (.slice a (K k).length c) ∧ Sl ok w 1 a (K k).length c (zQ (K k))
theorem zD9.go {ok ok' S : Nat → Prop} {w w' : World} {bk n : Nat} {K : Nat → List Int} (h : zD9 ok w bk n K) (hc : Chg S w w') (hn : ∀ k, k < w.heap.size → ok k → ¬ S k ∧ ok' k) : zD9 ok' w' bk n K := fun k hk => by
 obtain ⟨h1, a, c, h2, h3⟩ := h k hk
 have hl := World.block_lt_of_cell? w _ h2
 exact ⟨(hn bk hl h1).2, a, c, hc.keep h2 (hn bk hl h1).1, h3.go hc hn (by decide)⟩
structure SP where
 bx : Nat
 bk : Nat
 bl : Nat
 bc : Nat
 B : Nat
 B0 : Nat
 sa : Option Addr
 sc : Nat
 l : List Fl
 lfs : List Nat
def SP.m (p : SP) : Nat := p.lfs.length
def SP.lv (p : SP) (i : Nat) : List Nat := (List.range p.m).filter fun k => decide (i ∈ Go.Shr.chain (par p.l) (p.lfs.getD k 0))
def SP.ok (p : SP) (b : Nat) : Prop := b < p.B ∧ b ≠ p.bx ∧ b ≠ p.bc
def SP.tb (p : SP) (aa : Nat → Option Addr) (b : Nat) : Prop := ∃ j, j < p.m * 3 ∧ blk (aa j) b
def SP.ch (p : SP) (aa : Nat → Option Addr) (b : Nat) : Prop := b = p.bx ∨ b = p.bc ∨ p.tb aa b
def Stp (p : SP) (aa : Nat → Option Addr) (w : World) (aa' : Nat → Option Addr) (w' : World) : Prop := Chg (p.ch aa) w w' ∧ ∀ b, p.tb aa' b → p.tb aa b ∨ w.heap.size ≤ b
theorem wV {p : SP} {aa aa1 : Nat → Option Addr} {j : Nat} {a' : Option Addr} {w W : World} (h : ∀ b, p.tb aa1 b → p.tb aa b ∨ w.heap.size ≤ b) (hj : j < p.m * 3) (hn : ∀ g, blk a' g → blk (aa1 j) g ∨ W.heap.size ≤ g) (hz : w.heap.size ≤ W.heap.size) :
  ∀ b, p.tb (upd aa1 j a') b → p.tb aa b ∨ w.heap.size ≤ b := by
 rintro b ⟨i, hi, hg⟩
 by_cases hij : i = j
 ·subst hij
  rw [zU] at hg
  rcases hn b hg with h1 | h1
  ·exact h b ⟨i, hi, h1⟩
  ·exact .inr (Nat.le_trans hz h1)
 ·rw [zL _ _ hij] at hg
  exact h b ⟨i, hi, hg⟩
theorem Stp.below {p : SP} {aa : Nat → Option Addr} {w w' : World} (hb : Below w.heap.size w w') : Stp p aa w aa w' := ⟨(⟨hb.os, hb.tape, hb.output, hb.size, fun k hk _ => hb.block k hk⟩ : Chg (p.ch aa) w w'), fun b h => .inl h⟩
theorem Stp.trans {p : SP} {aa aa1 aa2 : Nat → Option Addr} {w w1 w2 : World} (h : Stp p aa w aa1 w1) (k : Stp p aa1 w1 aa2 w2) : Stp p aa w aa2 w2 :=
 ⟨h.1.trans k.1 (fun i hi hc => by
  rcases hc with hc | hc | hc
  ·exact .inl hc
  ·exact .inr (.inl hc)
  ·rcases h.2 i hc with h1 | h1
   ·exact .inr (.inr h1)
   ·omega), fun b hb => by
  rcases k.2 b hb with h1 | h1
  ·exact h.2 b h1
  ·exact .inr (Nat.le_trans h.1.size h1)⟩
def mny (m : Nat) (G : Nat → List Cel) : Bool := (List.range m).any fun k => decide (4000 < (G k).length)
def xY (G : Nat → List Cel) (k : Nat) : List Cel := (G k).take 4000
structure Str (p : SP) (w : World) (G : Nat → List Cel) (aa : Nat → Option Addr) : Prop where
 row : Rw w p.bx #[.slice p.sa p.l.length p.sc, .slice (some ⟨p.bk, 0, none⟩) p.l.length p.l.length, .slice (some ⟨p.bl, 0, none⟩) p.l.length p.l.length, .slice (some ⟨p.bc, 0, none⟩) p.m p.m, .bool (mny p.m G)] 123
 s : Sl p.ok w 4 p.sa p.l.length p.sc (fls p.l)
 kids : zD9 p.ok w p.bk p.l.length (fun k => zK (par p.l) k)
 lvs : zD9 p.ok w p.bl p.l.length (fun i => List.map (fun k : Nat => (k : Int)) (p.lv i))
 tab : ∃ cur cc, CT p.B w p.bc p.m (xY G) cur aa cc
 bds : p.bx < p.B ∧ p.bc < p.B ∧ p.bx ≠ p.bc ∧ p.B0 ≤ p.bx ∧ p.B0 ≤ p.bc ∧ p.B ≤ w.heap.size
theorem chF {w w' : World} (h : Below w.heap.size w w') : Chg (fun _ => False) w w' := ⟨h.os, h.tape, h.output, h.size, fun k hk _ => h.block k hk⟩
theorem CT.congr {B : Nat} {w : World} {bc m : Nat} {C C' : Nat → List Cel} {cur : Array Value} {aa : Nat → Option Addr} {cc : Nat → Nat} (h : CT B w bc m C cur aa cc) (hC : ∀ k, k < m → C k = C' k) : CT B w bc m C' cur aa cc := by
 have h1 : ∀ j, j < m * 3 → nC C j = nC C' j := fun j hj => by unfold nC; rw [hC (j / 3) (by omega)]
 have h2 : ∀ j, j < m * 3 → xC C j = xC C' j := fun j hj => by unfold xC; rw [hC (j / 3) (by omega)]
 exact ⟨h.row, h.size, h.hds.congr (fun _ _ => rfl) h1 (fun _ _ => rfl), h.ow.congr (fun _ _ => rfl) h1 (fun _ _ => rfl) h2, h.lt⟩
theorem zH6 {m : Nat} {G G' : Nat → List Cel} (h : ∀ k, k < m → G k = G' k) : mny m G = mny m G' := by
 unfold mny
 rw [Bool.eq_iff_iff, zLP, zLP]
 constructor
 ·rintro ⟨k, h1, h2⟩; exact ⟨k, h1, by rw [← h k (zLT.1 h1)]; exact h2⟩
 ·rintro ⟨k, h1, h2⟩; exact ⟨k, h1, by rw [h k (zLT.1 h1)]; exact h2⟩
theorem Str.congr {p : SP} {w : World} {G G' : Nat → List Cel} {aa : Nat → Option Addr} (h : Str p w G aa) (hG : ∀ k, k < p.m → G k = G' k) : Str p w G' aa := by
 obtain ⟨cur, cc, ht⟩ := h.tab
 exact ⟨by rw [← zH6 hG]; exact h.row, h.s, h.kids, h.lvs, ⟨cur, cc, ht.congr (fun k hk => by unfold xY; rw [hG k hk])⟩, h.bds⟩
theorem Str.below {p : SP} {w w' : World} {G : Nat → List Cel} {aa : Nat → Option Addr} (h : Str p w G aa) (hb : Below w.heap.size w w') : Str p w' G aa := by
 obtain ⟨cur, cc, ht⟩ := h.tab
 have hc := chF hb
 exact ⟨h.row.below hb, h.s.go hc (fun _ _ h => ⟨fun h => h, h⟩) (by decide), h.kids.go hc (fun _ _ h => ⟨fun h => h, h⟩), h.lvs.go hc (fun _ _ h => ⟨fun h => h, h⟩), ⟨cur, cc, ht.below hb⟩, by have := h.bds; have := hb.size; omega⟩
theorem Str.tbs {p : SP} {w : World} {G : Nat → List Cel} {aa : Nat → Option Addr} (h : Str p w G aa) {b : Nat} (hb : p.tb aa b) : p.B ≤ b ∧ b < w.heap.size := by
 obtain ⟨cur, cc, ht⟩ := h.tab
 obtain ⟨j, hj, hg⟩ := hb
 have := ht.ow.lt j b hj hg
 omega
def zEb (p : SP) (G : Nat → List Cel) (aa : Nat → Option Addr) (w : World) (e : Ending) (w' : World) : Prop := e = .returned (.tuple #[]) ∧ ∃ aa', Str p w' G aa' ∧ Stp p aa w aa' w'
theorem zFb {m : Nat} {G : Nat → List Cel} {k : Nat} (hk : k < m) (c : Cel) (h : (G k).length < 4000) : mny m (upd G k (G k ++ [c])) = mny m G := by
 unfold mny
 rw [Bool.eq_iff_iff, zLP, zLP]
 constructor
 ·rintro ⟨j, h1, h2⟩
  refine ⟨j, h1, ?_⟩
  by_cases hj : j = k
  ·subst hj; rw [zU] at h2; have := of_decide_eq_true h2; rw [zLR, zLQ] at this; omega
  ·rw [zL _ _ hj] at h2; exact h2
 ·rintro ⟨j, h1, h2⟩
  refine ⟨j, h1, ?_⟩
  by_cases hj : j = k
  ·subst hj; have := of_decide_eq_true h2; omega
  ·rw [zL _ _ hj]; exact h2
theorem zIT {m : Nat} {G : Nat → List Cel} {k : Nat} (hk : k < m) (c : Cel) (h : 4000 ≤ (G k).length) : mny m (upd G k (G k ++ [c])) = true := by
 unfold mny
 rw [zLP]
 refine ⟨k, zLT.2 hk, ?_⟩
 rw [zU, zLR, zLQ]
 exact decide_eq_true (by omega)
theorem zDS {G : Nat → List Cel} {k : Nat} (c : Cel) (h : (G k).length < 4000) (j : Nat) : upd (xY G) k (xY G k ++ [c]) j = xY (upd G k (G k ++ [c])) j := by
 unfold xY
 by_cases hj : j = k
 ·subst hj
  rw [zU, zU, zLS (by omega), zLS (by rw [zLR, zLQ]; omega)]
 ·rw [zL _ _ hj, zL _ _ hj]
theorem zIg {G : Nat → List Cel} {k : Nat} (c : Cel) (h : 4000 ≤ (G k).length) (j : Nat) : xY G j = xY (upd G k (G k ++ [c])) j := by
 unfold xY
 by_cases hj : j = k
 ·subst hj; rw [zU, List.take_append_of_le_length h]
 ·rw [zL _ _ hj]
theorem Str.okch {p : SP} {w : World} {G : Nat → List Cel} {aa : Nat → Option Addr} (h : Str p w G aa) {b : Nat} (hb : p.ok b) : ¬ p.ch aa b := fun h2 => by
 obtain ⟨h3, h4, h5⟩ := hb
 rcases h2 with h2 | h2 | h2
 ·exact h4 h2
 ·exact h5 h2
 ·have := (h.tbs h2).1; omega
theorem Str.low {p : SP} {w : World} {G : Nat → List Cel} {aa : Nat → Option Addr} (h : Str p w G aa) {b : Nat} (hb : b < p.B0) : ¬ p.ch aa b := fun h2 => by
 have := h.bds
 rcases h2 with h2 | h2 | h2
 ·omega
 ·omega
 ·have := (h.tbs h2).1; omega
section
variable {B : Nat} {W X : World} {N : Nat} {ty : Nat → TypeId} {sz : Nat → Nat} {aa : Nat → Option Addr} {n cc : Nat → Nat} {Y : Nat → List Value}
theorem OW.nb (_ : OW B W N ty sz aa n cc Y) {o : Obj} (hX : X = W.alloc o) : Below W.heap.size W X := by rw [hX]; exact ba (b0 W) _
theorem OW.nr (_ : OW B W N ty sz aa n cc Y) {cur : Array Value} {t : TypeId} (hX : X = W.alloc (.cells cur t)) : Rw X W.heap.size cur t := by rw [hX]; exact Rw.new W _ _
end
end Go.Proofs.Ytjbkjfefjhbolaa
