/-
  Plain: are two trees the same?
-/
import Derived.Test.YtgpffcgkfgiodaaTreeP
namespace Go.Shr
open Go.RowKit
mutual
def sameT : Tr → Tr → Bool
  | .mk n s ks, .mk n' s' ks' => n == n' && (s.toList == s'.toList && sameK ks ks')
def sameK : List (List Tr) → List (List Tr) → Bool
  | [], [] => true
  | l :: r, l' :: r' => sameL l l' && sameK r r'
  | [], _ :: _ => false
  | _ :: _, [] => false
def sameL : List Tr → List Tr → Bool
  | [], [] => true
  | t :: r, t' :: r' => sameT t t' && sameL r r'
  | [], _ :: _ => false
  | _ :: _, [] => false
end
theorem ba_ext {a b : ByteArray} (h : a.toList = b.toList) : a = b := by
  rw [ByteArray.toList_eq, ByteArray.toList_eq] at h
  cases a; cases b
  simp at h
  rw [h]
mutual
theorem sameT_iff : ∀ (t u : Tr), sameT t u = true ↔ t = u
  | .mk n s ks, .mk n' s' ks' => by
    simp only [sameT, Bool.and_eq_true, beq_iff_eq, sameK_iff ks ks', Tr.mk.injEq]
    constructor
    · rintro ⟨h1, h2, h3⟩; exact ⟨h1, ba_ext h2, h3⟩
    · rintro ⟨h1, h2, h3⟩; exact ⟨h1, by rw [h2], h3⟩
theorem sameK_iff : ∀ (t u : List (List Tr)), sameK t u = true ↔ t = u
  | [], [] => by simp [sameK]
  | l :: r, l' :: r' => by simp only [sameK, Bool.and_eq_true, sameL_iff l l', sameK_iff r r', List.cons.injEq]
  | [], _ :: _ => by simp [sameK]
  | _ :: _, [] => by simp [sameK]
theorem sameL_iff : ∀ (t u : List Tr), sameL t u = true ↔ t = u
  | [], [] => by simp [sameL]
  | l :: r, l' :: r' => by simp only [sameL, Bool.and_eq_true, sameT_iff l l', sameL_iff r r', List.cons.injEq]
  | [], _ :: _ => by simp [sameL]
  | _ :: _, [] => by simp [sameL]
end
theorem sameT_refl (t : Tr) : sameT t t = true := (sameT_iff t t).2 rfl
theorem sameK_len : ∀ {a b : List (List Tr)}, a.length ≠ b.length → sameK a b = false
  | [], [], h => absurd rfl h
  | l :: r, l' :: r', h => by
    simp only [sameK]
    rw [sameK_len (fun e => h (by simp [e]))]; simp
  | [], _ :: _, _ => by simp [sameK]
  | _ :: _, [], _ => by simp [sameK]
theorem sameL_len : ∀ {a b : List Tr}, a.length ≠ b.length → sameL a b = false
  | [], [], h => absurd rfl h
  | l :: r, l' :: r', h => by
    simp only [sameL]
    rw [sameL_len (fun e => h (by simp [e]))]; simp
  | [], _ :: _, _ => by simp [sameL]
  | _ :: _, [], _ => by simp [sameL]
theorem sameT_eq (t u : Tr) : sameT t u = (t.n == u.n && (t.s.toList == u.s.toList && sameK t.kids u.kids)) := by cases t; cases u; simp only [sameT, Tr.n, Tr.s, Tr.kids]
theorem sameK_drop (a b : List (List Tr)) (j : Nat) (h : j < a.length) (h' : j < b.length) : sameK (a.drop j) (b.drop j) = (sameL a[j] b[j] && sameK (a.drop (j + 1)) (b.drop (j + 1))) := by
  rw [List.drop_eq_getElem_cons h, List.drop_eq_getElem_cons h']; simp only [sameK]
theorem sameL_drop (a b : List Tr) (j : Nat) (h : j < a.length) (h' : j < b.length) : sameL (a.drop j) (b.drop j) = (sameT a[j] b[j] && sameL (a.drop (j + 1)) (b.drop (j + 1))) := by
  rw [List.drop_eq_getElem_cons h, List.drop_eq_getElem_cons h']; simp only [sameL]
end Go.Shr
