import Derived.Test.YtjbkjfefjhbolaakMake8
import Derived.Test.YtjbkjfefjhbolaakTrG
import Derived.Deep.CutRange
set_option linter.unusedSimpArgs false
set_option linter.unusedVariables false
namespace Go.Proofs.Ytjbkjfefjhbolaa
open Go.RowKit Go.Shr
def flN (l : List Fl) (i : Nat) : Fl := l.getD i Fl.none
theorem flN_eq {l : List Fl} {i : Nat} (h : i < l.length) : flN l i = l[i] := by simp [flN, List.getD, h]
/-- How many of a group's fields ahead of a place are kept. -/
def cnt (f : Nat → Bool) (P : List Int) (m a : Nat) : Nat := ((List.range m).filter fun j => f j && P.getD j (-1) == (a : Int)).length
section
variable {f : Nat → Bool} {l : List Fl} {m k : Nat} {c c' : Nat → Int}
end
end Go.Proofs.Ytjbkjfefjhbolaa
namespace Go.Proofs.Ytjbkjfefjhbolaa
open Go.RowKit Go.Shr
theorem info_lf : (Try.prog.info? 52).map (fun i => (i.zero, i.size, i.bytes)) = some (some (.agg #[.int .i64 0, .int .i64 0, .int .i64 0, .int .i64 0]), 4, 32) := by kernel_rfl
/-- How many Repeated fields lie on a way; how many that are not Required. -/
def cntR (l : List Fl) (c : List Nat) : Nat := (c.filter fun k => (flN l k).rep == 2).length
def cntD (l : List Fl) (c : List Nat) : Nat := (c.filter fun k => (flN l k).rep != 0).length
theorem cntR_cons (l : List Fl) (k : Nat) (c : List Nat) : cntR l (k :: c) = (if (flN l k).rep = 2 then 1 else 0) + cntR l c := by
 unfold cntR
 by_cases h : (flN l k).rep = 2
 ·rw [if_pos h, List.filter_cons_of_pos (by simp [h]), List.length_cons]; omega
 ·rw [if_neg h, List.filter_cons_of_neg (by simp [h])]; omega
theorem cntD_cons (l : List Fl) (k : Nat) (c : List Nat) : cntD l (k :: c) = (if (flN l k).rep = 0 then 0 else 1) + cntD l c := by
 unfold cntD
 by_cases h : (flN l k).rep = 0
 ·rw [if_pos h, List.filter_cons_of_neg (by simp [h])]; omega
 ·rw [if_neg h, List.filter_cons_of_pos (by simp [h]), List.length_cons]; omega
def lvR (l : List Fl) (i : Nat) : Nat := cntR l (Go.Shr.chain (par l) i)
def lvD (l : List Fl) (i : Nat) : Nat := cntD l (Go.Shr.chain (par l) i)
/-- The fields that are no groups, of those ahead of a place. -/
def leafs (l : List Fl) (m : Nat) : List Nat := (List.range m).filter fun i => (flN l i).kind != 0
/-- Leaves as cells. -/
def lvs (l : List Fl) (q : List Nat) : List Value := q.flatMap fun (i : Nat) => [.int .i64 (i : Int), .int .i64 (lvR l i : Int), .int .i64 (lvD l i : Int), .int .i64 (flN l i).kind]
theorem lvs_len (l : List Fl) (q : List Nat) : (lvs l q).length = q.length * 4 := by
 induction q with
 | nil => rfl
 | cons x q ih => simp [lvs] at ih ⊢; omega
theorem lvs_get (l : List Fl) : ∀ (q : List Nat) (k : Nat) (h : k < q.length), (lvs l q)[k * 4]? = some (.int .i64 (q[k] : Int)) ∧ (lvs l q)[k * 4 + 1]? = some (.int .i64 (lvR l q[k] : Int)) ∧ (lvs l q)[k * 4 + 2]? = some (.int .i64 (lvD l q[k] : Int)) ∧ (lvs l q)[k * 4 + 3]? = some (.int .i64 (flN l q[k]).kind)
 | x :: q, 0, _ => by simp [lvs]
 | x :: q, k + 1, h => by
  have := lvs_get l q k (by simpa using h)
  rw [show (k + 1) * 4 = k * 4 + 1 + 1 + 1 + 1 by omega]
  simpa [lvs] using this
theorem lvs_snoc (l : List Fl) (q : List Nat) (i : Nat) : lvs l (q ++ [i]) = lvs l q ++ [.int .i64 (i : Int), .int .i64 (lvR l i : Int), .int .i64 (lvD l i : Int), .int .i64 (flN l i).kind] := by simp [lvs]
theorem leafs_yes {l : List Fl} {m : Nat} (h : (flN l m).kind ≠ 0) : leafs l (m + 1) = leafs l m ++ [m] := by unfold leafs; rw [List.range_succ, List.filter_append]; simp [h]
theorem leafs_no {l : List Fl} {m : Nat} (h : (flN l m).kind = 0) : leafs l (m + 1) = leafs l m := by unfold leafs; rw [List.range_succ, List.filter_append]; simp [h]
theorem leafs_le {l : List Fl} {m : Nat} : (leafs l m).length ≤ m := by unfold leafs; exact Nat.le_trans (List.length_filter_le _ _) (by simp)
theorem chain_len (P : List Int) : ∀ i, (Go.Shr.chain P i).length ≤ i + 1 := by
 intro i
 induction i using Nat.strongRecOn with
 | _ i ih =>
  rw [Go.Shr.chain]
  split
  ·rename_i h
   have := ih _ h.2
   rw [List.length_cons]; omega
  ·simp
theorem cntR_le (l : List Fl) (c : List Nat) : cntR l c ≤ c.length := List.length_filter_le _ _
theorem cntD_le (l : List Fl) (c : List Nat) : cntD l c ≤ c.length := List.length_filter_le _ _
end Go.Proofs.Ytjbkjfefjhbolaa
namespace Go.Proofs.Ytjbkjfefjhbolaa
open Go.RowKit Go.Shr
mutual
theorem ix_sub {l : List Fl} {K : Int → List Int} : ∀ (s : Sh) (i : Nat), Ix l K i s → GoodS s → ∀ (j : Nat), i ≤ j → j < i + s.size → ∃ s', Ix l K j s' ∧ GoodS s'
 | .mk nm r k ks, i, h, hg, j, h1, h2 => by
  by_cases hj : j = i
  ·subst hj; exact ⟨_, h, hg⟩
  ·simp only [Ix] at h
   simp only [GoodS] at hg
   simp only [Sh.size] at h2
   exact ixL_sub ks (i + 1) h.2.2 hg.2.2.2.2.2.2 j (by omega) (by omega)
theorem ixL_sub {l : List Fl} {K : Int → List Int} : ∀ (ks : List Sh) (i : Nat), IxL l K i ks → GoodL ks → ∀ (j : Nat), i ≤ j → j < i + shSizes ks → ∃ s', Ix l K j s' ∧ GoodS s'
 | [], i, _, _, j, h1, h2 => by simp only [shSizes] at h2; omega
 | s :: r, i, h, hg, j, h1, h2 => by
  simp only [IxL] at h
  simp only [GoodL] at hg
  simp only [shSizes] at h2
  by_cases hj : j < i + s.size
  ·exact ix_sub s i h.1 hg.1 j h1 hj
  ·exact ixL_sub r (i + s.size) h.2 hg.2 j (by omega) (by omega)
end
/-- A field's group is a group. -/
theorem Sch.par_kind {l : List Fl} {sh : Sh} (h : Sch l sh) {j k : Nat} (hj : j < l.length) (hp : (par l)[j]? = some (k : Int)) : (flN l k).kind = 0 := by
 obtain ⟨hpl, hpe⟩ := getElem?_par hp
 have hb := par_bd l j hpl
 rw [hpe] at hb
 have hm : (j : Int) ∈ kidsOf (par l) (k : Int) := by
  simp only [kidsOf, List.mem_map, List.mem_filter, List.mem_range]
  refine ⟨j, ⟨hpl, ?_⟩, rfl⟩
  rw [List.getD_eq_getElem?_getD, hp]; simp
 obtain ⟨s', h1, h2⟩ := ix_sub sh 0 h.ix h.good k (by omega) (by have := h.len; omega)
 obtain ⟨nm, r, kd, ks⟩ := s'
 simp only [Ix] at h1
 simp only [GoodS] at h2
 by_cases hk : kd = 0
 ·have := h1.1
  unfold flN
  rw [List.getD_eq_getElem?_getD, this]; exact hk
 ·have h3 := h1.2.1
  rw [h2.2.2.2.2.1 hk] at h3
  rw [h3] at hm
  cases hm
theorem Sch.up_kind {l : List Fl} {sh : Sh} (h : Sch l sh) : ∀ (i : Nat), i < l.length → ∀ x ∈ Go.Shr.chain (par l) i, x ≠ i → (flN l x).kind = 0 := by
 intro i
 induction i using Nat.strongRecOn with
 | _ i ih =>
  intro hi x hx hne
  have hpl : i < (par l).length := by rw [par_length]; exact hi
  rw [chain_eq (fun j hj => par_bd l j hj) hpl] at hx
  rcases List.mem_cons.1 hx with hx | hx
  ·exact absurd hx hne
  ·by_cases h0 : (par l)[i] < 0
   ·rw [chainI_neg _ h0] at hx; cases hx
   ·obtain ⟨k, hk⟩ : ∃ k : Nat, (par l)[i] = (k : Int) := ⟨(par l)[i].toNat, by omega⟩
    have hb := par_bd l i hpl
    rw [hk, chainI_nat] at hx
    have hkp : (par l)[i]? = some (k : Int) := by rw [List.getElem?_eq_getElem hpl, hk]
    by_cases hxk : x = k
    ·rw [hxk]; exact h.par_kind hi hkp
    ·exact ih k (by omega) (by omega) x hx hxk
/-- A leaf lies on no other field's way. -/
theorem Sch.leaf_chain {l : List Fl} {sh : Sh} (h : Sch l sh) {f i : Nat} (hi : i < l.length) (hf : (flN l f).kind ≠ 0) (hm : f ∈ Go.Shr.chain (par l) i) : f = i := by
 by_cases e : f = i
 ·exact e
 ·exact absurd (h.up_kind i hi f hm e) hf
mutual
theorem good_leaf : ∀ (s : Sh), GoodS s → ∃ f ∈ flat s, f.kind ≠ 0
 | .mk nm r k ks, h => by
  simp only [GoodS] at h
  by_cases hk : k = 0
  ·obtain ⟨f, h1, h2⟩ := goodL_leaf ks h.2.2.2.2.2.2 (h.2.2.2.2.2.1 hk)
   exact ⟨f, by simp only [flat]; exact List.mem_cons_of_mem _ h1, h2⟩
  ·exact ⟨_, by simp only [flat]; exact List.mem_cons_self, hk⟩
theorem goodL_leaf : ∀ (ks : List Sh), GoodL ks → ks ≠ [] → ∃ f ∈ flatL ks, f.kind ≠ 0
 | [], _, h => absurd rfl h
 | s :: r, h, _ => by
  simp only [GoodL] at h
  obtain ⟨f, h1, h2⟩ := good_leaf s h.1
  exact ⟨f, by simp only [flatL]; exact List.mem_append_left _ h1, h2⟩
end
theorem leafs_mem {l : List Fl} {m i : Nat} : i ∈ leafs l m ↔ i < m ∧ (flN l i).kind ≠ 0 := by simp [leafs]
theorem Sch.leafs_pos {l : List Fl} {sh : Sh} (h : Sch l sh) : 0 < (leafs l l.length).length := by
 obtain ⟨f, h1, h2⟩ := good_leaf sh h.good
 rw [← h.flat] at h1
 obtain ⟨i, hi, rfl⟩ := List.getElem_of_mem h1
 have : i ∈ leafs l l.length := leafs_mem.2 ⟨hi, by rw [flN_eq hi]; exact h2⟩
 cases hl : leafs l l.length with
 | nil => rw [hl] at this; cases this
 | cons _ _ => simp
end Go.Proofs.Ytjbkjfefjhbolaa
