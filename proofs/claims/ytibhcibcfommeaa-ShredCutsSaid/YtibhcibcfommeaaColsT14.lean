/-
 A table whose rows are laid anew; what records' columns are, plain.
-/
import Derived.Test.YtibhcibcfommeaaOwn14
import Derived.Test.YtibhcibcfommeaaVal14G
set_option linter.unusedSimpArgs false
namespace Go.Proofs.Ytibhcibcfommeaa
open Go.RowKit Go.Shr
section
variable {B : Nat} {w w' : World} {N : Nat} {ty : Nat → TypeId} {sz : Nat → Nat} {aa aa' : Nat → Option Addr} {n cc cc' : Nat → Nat} {X : Nat → List Value} {P : Nat → Prop}
theorem OW.fresh (h : OW B w N ty sz aa n cc X) (hB : B ≤ w.heap.size) (hb : Below w.heap.size w w') (h1 : ∀ j, j < N → ¬ P j → aa' j = aa j ∧ cc' j = cc j)
  (h2 : ∀ j, j < N → P j → New14 w w' (ty j) (sz j) (aa' j) (n j) (cc' j) (X j)) (h3 : ∀ i j g, i < N → j < N → P i → P j → i ≠ j → blk (aa' i) g → ¬ blk (aa' j) g) : OW B w' N ty sz aa' n cc' X := by
 have hb' := h.below hb
 refine ⟨fun i hi => ?_, fun i g hi hg => ?_, fun i k g hi hk hik hg hg' => ?_⟩
 ·by_cases hP : P i
  ·exact (h2 i hi hP).own.mono hB
  ·rw [(h1 i hi hP).1, (h1 i hi hP).2]; exact hb'.own i hi
 ·by_cases hP : P i
  ·have := (h2 i hi hP).new g hg; omega
  ·rw [(h1 i hi hP).1] at hg; exact hb'.lt i g hi hg
 ·by_cases hP : P i
  ·by_cases hQ : P k
   ·exact h3 i k g hi hk hP hQ hik hg hg'
   ·rw [(h1 k hk hQ).1] at hg'
    have := (h2 i hi hP).new g hg; have := (h.lt k g hk hg').1; omega
  ·rw [(h1 i hi hP).1] at hg
   by_cases hQ : P k
   ·have := (h2 k hk hQ).new g hg'; have := (h.lt i g hi hg).1; omega
   ·rw [(h1 k hk hQ).1] at hg'
    exact h.dis i k g hi hk hik hg hg'
end
theorem three' {k j : Nat} (h : j / 3 = k) : j = k * 3 ∨ j = k * 3 + 1 ∨ j = k * 3 + 2 := by omega
theorem CT.renew {B : Nat} {w w' : World} {bc m : Nat} {C : Nat → List Cel} {cur : Array Value} {aa : Nat → Option Addr} {cc : Nat → Nat} {k : Nat} {a0 a1 a2 : Option Addr} {c0 c1 c2 : Nat} (h : CT B w bc m C cur aa cc) (hk : k < m) (hB : B ≤ w.heap.size) (hb : Below w.heap.size w w')
  (t : Three w w' (C k).length (celV (C k)).length (celR (C k)) (celD (C k)) (vcs (celV (C k))) a0 c0 a1 c1 a2 c2) :
  CT B (((w'.setCell ⟨bc, k * 3, none⟩ (.slice a0 (C k).length c0)).setCell ⟨bc, k * 3 + 1, none⟩ (.slice a1 (C k).length c1)).setCell ⟨bc, k * 3 + 2, none⟩ (.slice a2 (celV (C k)).length c2)) bc m C
   (((cur.setIfInBounds (k * 3) (.slice a0 (C k).length c0)).setIfInBounds (k * 3 + 1) (.slice a1 (C k).length c1)).setIfInBounds (k * 3 + 2) (.slice a2 (celV (C k)).length c2))
   (upd (upd (upd aa (k * 3) a0) (k * 3 + 1) a1) (k * 3 + 2) a2) (upd (upd (upd cc (k * 3) c0) (k * 3 + 1) c1) (k * 3 + 2) c2) := by
 have hr := h.row.below hb
 have hh := ((h.hds.set (show k * 3 < m * 3 by omega) a0 (C k).length c0).set (show k * 3 + 1 < m * 3 by omega) a1 (C k).length c1).set (show k * 3 + 2 < m * 3 by omega) a2 (celV (C k)).length c2
 have hnu : ∀ j, upd (upd (upd (nC C) (k * 3) (C k).length) (k * 3 + 1) (C k).length) (k * 3 + 2) (celV (C k)).length j = nC C j := fun j => by
  rw [nC_upd]
  unfold nC
  by_cases e : j / 3 = k
  ·rw [e, upd_self]
  ·rw [upd_ne _ _ e]
 have ua := upd3_at aa k a0 a1 a2
 have uc := upd3_at cc k c0 c1 c2
 have how : OW B w' (m * 3) tyC szC (upd (upd (upd aa (k * 3) a0) (k * 3 + 1) a1) (k * 3 + 2) a2) (nC C) (upd (upd (upd cc (k * 3) c0) (k * 3 + 1) c1) (k * 3 + 2) c2) (xC C) := by
  refine OW.fresh h.ow (P := fun j => j / 3 = k) hB hb (fun j _ hP => ⟨upd3_ne _ _ _ _ hP, upd3_ne _ _ _ _ hP⟩) (fun j _ hP => ?_) (fun i j g _ _ hi hj hij hg hg' => ?_)
  ·rcases three' hP with rfl | rfl | rfl
   ·rw [ua.1, uc.1, (ty0 k).1, (ty0 k).2, (n0 C k).1, (n0 C k).2]; exact t.r0
   ·rw [ua.2.1, uc.2.1, (ty1 k).1, (ty1 k).2, (n1 C k).1, (n1 C k).2]; exact t.r1
   ·rw [ua.2.2, uc.2.2, (ty2 k).1, (ty2 k).2, (n2 C k).1, (n2 C k).2]; exact t.r2
  ·rcases three' hi with rfl | rfl | rfl <;> rcases three' hj with rfl | rfl | rfl
   ·exact absurd rfl hij
   ·rw [ua.1] at hg; rw [ua.2.1] at hg'; exact t.d01 g hg hg'
   ·rw [ua.1] at hg; rw [ua.2.2] at hg'; exact t.d02 g hg hg'
   ·rw [ua.2.1] at hg; rw [ua.1] at hg'; exact t.d01 g hg' hg
   ·exact absurd rfl hij
   ·rw [ua.2.1] at hg; rw [ua.2.2] at hg'; exact t.d12 g hg hg'
   ·rw [ua.2.2] at hg; rw [ua.1] at hg'; exact t.d02 g hg' hg
   ·rw [ua.2.2] at hg; rw [ua.2.1] at hg'; exact t.d12 g hg' hg
   ·exact absurd rfl hij
 have hlt := h.lt
 have hch : Chg (fun b => b = bc) w' (((w'.setCell ⟨bc, k * 3, none⟩ (.slice a0 (C k).length c0)).setCell ⟨bc, k * 3 + 1, none⟩ (.slice a1 (C k).length c1)).setCell ⟨bc, k * 3 + 2, none⟩ (.slice a2 (celV (C k)).length c2)) := (((Chg.refl (fun b => b = bc) w').setCell (p := ⟨bc, k * 3, none⟩) (.inr rfl) _).setCell (p := ⟨bc, k * 3 + 1, none⟩) (.inr rfl) _).setCell (p := ⟨bc, k * 3 + 2, none⟩) (.inr rfl) _
 exact ⟨((hr.set _ _).set _ _).set _ _, by simpa using h.size, hh.congr (fun _ _ => rfl) (fun j _ => hnu j) (fun _ _ => rfl), how.chg hch (fun g h1 _ h2 => by have h3 : g = bc := h2; omega), h.lt⟩
theorem mny_rows (lfs : List Nat) (sh : Sh) (rows : List Tr) : mny lfs.length (fun k => rowsC (lfs.getD k 0) sh rows) = manyC lfs sh rows := by
 unfold mny manyC
 rw [Bool.eq_iff_iff, List.any_eq_true, List.any_eq_true]
 constructor
 ·rintro ⟨k, h1, h2⟩
  have hk := List.mem_range.1 h1
  refine ⟨lfs[k], List.getElem_mem hk, ?_⟩
  simpa [List.getD, hk] using h2
 ·rintro ⟨x, h1, h2⟩
  obtain ⟨k, hk, rfl⟩ := List.getElem_of_mem h1
  exact ⟨k, List.mem_range.2 hk, by simpa [List.getD, hk] using h2⟩
theorem cut4_id {m : Nat} {G : Nat → List Cel} (h : mny m G = false) (k : Nat) (hk : k < m) : cut4 G k = G k := by
 unfold cut4
 refine List.take_of_length_le ?_
 by_cases h2 : 4000 < (G k).length
 ·have : mny m G = true := List.any_eq_true.2 ⟨k, List.mem_range.2 hk, decide_eq_true h2⟩
  rw [h] at this; cases this
 ·omega
theorem mny_le {m : Nat} {G : Nat → List Cel} (h : mny m G = false) (k : Nat) (hk : k < m) : (G k).length ≤ 4000 := by
 by_cases h2 : 4000 < (G k).length
 ·have : mny m G = true := List.any_eq_true.2 ⟨k, List.mem_range.2 hk, decide_eq_true h2⟩
  rw [h] at this; cases this
 ·omega
theorem firstE_at {es : List Int} {i : Nat} (hi : i < es.length) (h : ∀ e ∈ es.take i, e = 0) (hn : es[i] ≠ 0) : firstE es = es[i] := by
 induction es generalizing i with
 | nil => simp at hi
 | cons e r ih =>
  cases i with
  | zero => simp only [List.getElem_cons_zero] at hn ⊢; simp [firstE, hn]
  | succ i =>
   simp only [List.getElem_cons_succ] at hn ⊢
   have h0 : e = 0 := h e (by simp)
   simp only [firstE, h0, if_true]
   exact ih (by simpa using hi) (fun x hx => h x (by rw [List.take_succ_cons]; exact List.mem_cons_of_mem _ hx)) hn
/-- What is told of records that are taken apart. -/
def ColsQ (l : List Fl) (sh : Sh) (rows : List Tr) (w : World) (e : Ending) (w' : World) : Prop :=
 Below w.heap.size w w' ∧ (colsE l sh rows ≠ 0 ∧ e = .returned (.tuple #[.slice none 0 0, .int .i64 (colsE l sh rows)]) ∨
  colsE l sh rows = 0 ∧ ∃ (B bc : Nat) (cur : Array Value) (aa : Nat → Option Addr) (cc : Nat → Nat), e = .returned (.tuple #[.slice (some ⟨bc, 0, none⟩) (leafs l l.length).length (leafs l l.length).length, .int .i64 0]) ∧ w.heap.size ≤ bc ∧
   CT B w' bc (leafs l l.length).length (fun k => rowsC ((leafs l l.length).getD k 0) sh rows) cur aa cc)
end Go.Proofs.Ytibhcibcfommeaa
