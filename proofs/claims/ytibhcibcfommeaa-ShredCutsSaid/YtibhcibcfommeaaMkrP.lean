/-
 Plain: records made of raw numbers; the fields of a group, one behind the other.
-/
import Derived.Test.YtibhcibcfommeaaMkP
import Derived.Test.YtibhcibcfommeaaTrG
namespace Go.Proofs.Ytibhcibcfommeaa
open Go.RowKit Go.Shr
/-- The next number's place. -/
def nextA (ns : List Int) (at' : Nat) : Nat := if at' < ns.length then at' + 1 else at'
def abc : ByteArray := ⟨#[97, 98, 99, 97, 98, 99, 97, 98, 99, 97, 98, 99]⟩
def mkX (f : Nat → Tr × Nat) : Nat → Nat → List Tr × Nat
 | 0, k => ([], k)
 | m + 1, k => ((f k).1 :: (mkX f m (f k).2).1, (mkX f m (f k).2).2)
/-- How many of a field. -/
def cntOf (ns : List Int) (rep : Int) (k : Nat) : Nat × Nat :=
 if rep = 1 then (((ns.getD k 0) % 2).toNat, nextA ns k) else if rep = 2 then (((ns.getD k 0) % 4).toNat, nextA ns k) else (1, k)
mutual
/-- A value of a field, out of the numbers from one on. -/
def mkT (ns : List Int) : Sh → Nat → Tr × Nat
 | .mk _ _ kind ks, k =>
  if kind = 1 then (.mk ((ns.getD k 0) % 2) ⟨#[]⟩ [], nextA ns k)
  else if kind = 2 then (.mk ((ns.getD k 0) % 300 - 100) ⟨#[]⟩ [], nextA ns k)
  else if kind = 3 then (.mk (ns.getD k 0) ⟨#[]⟩ [], nextA ns k)
  else if kind = 4 then (.mk 0 (abc.extract 0 ((ns.getD k 0) % 9).toNat) [], nextA ns k)
  else (.mk 0 ⟨#[]⟩ (mkK ns ks (nextA ns k)).1, (mkK ns ks (nextA ns k)).2)
def mkK (ns : List Int) : List Sh → Nat → List (List Tr) × Nat
 | [], k => ([], k)
 | s :: r, k =>
  ((mkX (mkT ns s) (cntOf ns s.rep k).1 (cntOf ns s.rep k).2).1 :: (mkK ns r (mkX (mkT ns s) (cntOf ns s.rep k).1 (cntOf ns s.rep k).2).2).1,
   (mkK ns r (mkX (mkT ns s) (cntOf ns s.rep k).1 (cntOf ns s.rep k).2).2).2)
end
def makeT (s : Sh) (ns : List Int) : Tr := (mkT ns s 0).1
theorem mkX_snoc (f : Nat → Tr × Nat) : ∀ (m k : Nat), mkX f (m + 1) k = ((mkX f m k).1 ++ [(f (mkX f m k).2).1], (f (mkX f m k).2).2)
 | 0, k => rfl
 | m + 1, k => by
  have h := mkX_snoc f m (f k).2
  rw [mkX, h]
  simp [mkX]
theorem mkK_append (ns : List Int) : ∀ (a b : List Sh) (k : Nat), mkK ns (a ++ b) k = ((mkK ns a k).1 ++ (mkK ns b (mkK ns a k).2).1, (mkK ns b (mkK ns a k).2).2)
 | [], b, k => by simp [mkK]
 | s :: a, b, k => by simp only [List.cons_append, mkK, mkK_append ns a b]
/-- What is left of a group's fields, from a place on. -/
def rest (P : List Int) (v : Int) (i : Nat) : List Int := kf i (P.drop i) v
theorem rest_start {P : List Int} {v : Nat} (h : ∀ (j : Nat) (hj : j < P.length), P[j] < (j : Int)) : rest P v (v + 1) = kf 0 P v := by
 have e : P = P.take (v + 1) ++ P.drop (v + 1) := (List.take_append_drop _ _).symm
 conv => rhs; rw [e]
 rw [kf_append, kf_none]
 ·simp only [List.nil_append, rest, List.length_take, Nat.zero_add]
  by_cases hv : v + 1 ≤ P.length
  ·rw [Nat.min_eq_left hv]
  ·rw [List.drop_eq_nil_of_le (by omega)]; rfl
 ·intro x hx hxv
  obtain ⟨j, hj, rfl⟩ := List.getElem_of_mem hx
  rw [List.getElem_take] at hxv
  simp at hj
  have := h j (by omega)
  omega
theorem rest_yes {P : List Int} {v : Int} {i : Nat} (h : i < P.length) (e : P[i] = v) : rest P v i = (i : Int) :: rest P v (i + 1) := by
 unfold rest
 rw [List.drop_eq_getElem_cons h, kf, if_pos e]
theorem rest_no {P : List Int} {v : Int} {i : Nat} (h : i < P.length) (e : P[i] ≠ v) : rest P v i = rest P v (i + 1) := by
 unfold rest
 rw [List.drop_eq_getElem_cons h, kf, if_neg e]
theorem rest_end {P : List Int} {v : Int} {i : Nat} (h : P.length ≤ i) : rest P v i = [] := by
 unfold rest
 rw [List.drop_eq_nil_of_le h]; rfl
theorem offs_cons {o : Nat} {ks : List Sh} {i : Int} {r : List Int} (h : offs o ks = i :: r) : ∃ s q, ks = s :: q ∧ i = (o : Int) ∧ r = offs (o + s.size) q := by
 cases ks with
 | nil => cases h
 | cons s q => simp only [offs] at h; injection h with h1 h2; exact ⟨s, q, rfl, h1.symm, h2.symm⟩
theorem offs_nil {o : Nat} {ks : List Sh} (h : offs o ks = []) : ks = [] := by
 cases ks with
 | nil => rfl
 | cons s q => simp [offs] at h
theorem offs_len : ∀ (o : Nat) (ks : List Sh), (offs o ks).length = ks.length
 | _, [] => rfl
 | o, s :: q => by simp [offs, offs_len _ q]
end Go.Proofs.Ytibhcibcfommeaa
