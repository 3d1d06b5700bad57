/-
  ShredLists, plain: a list in a list, its cells.
-/
import Derived.Test.YtibhcibcfommeaaKnown14
set_option linter.unusedSimpArgs false
namespace Go.Proofs.Ytibhcibcfommeaa
open Go.RowKit Go.Shr
def shB14 : Sh := .mk ⟨#[98]⟩ 2 3 []
def shA14 : Sh := .mk ⟨#[97]⟩ 2 0 [shB14]
def sh314 : Sh := .mk ⟨#[109]⟩ 0 0 [shA14]
def l314 : List Fl := [⟨⟨#[109]⟩, 0, 0, 1⟩, ⟨⟨#[97]⟩, 2, 0, 1⟩, ⟨⟨#[98]⟩, 2, 3, 0⟩]
theorem l3_sch14 : Sch l314 sh314 := ⟨by simp [l314, sh314, shA14, shB14, flat, flatL], by simp [sh314, shA14, shB14, GoodS, GoodL], rfl, by simp [sh314, shA14, shB14, Sh.size, shSizes]⟩
theorem l3_nms14 : Nms l314 := by
  refine ⟨fun f hf => ?_, by decide⟩
  simp only [l314, List.mem_cons, List.not_mem_nil, or_false] at hf
  rcases hf with rfl | rfl | rfl
  · exact ⟨109, rfl, by decide, by decide⟩
  · exact ⟨97, rfl, by decide, by decide⟩
  · exact ⟨98, rfl, by decide, by decide⟩
theorem l3_wy14 : Wy l314 (wayAt sh314) := Wy.mk' l3_sch14 (by decide) l3_nms14
theorem l3_rep14 : ∀ x ∈ l314, x.rep = 0 ∨ x.rep = 1 ∨ x.rep = 2 := by simp [l314]
theorem l3_leafs14 : leafs l314 l314.length = [2] := by decide
/-- The values of one of the inner lists; all of them. -/
def inn14 (i n : Nat) : List Tr := (List.range n).map fun k => .mk ((10 * i + k : Nat) : Int) ByteArray.empty []
def out14 (ns : List Nat) : List Tr := ns.zipIdx.map fun p => .mk 0 ByteArray.empty [inn14 p.2 p.1]
theorem inn14_len (i n : Nat) : (inn14 i n).length = n := by simp [inn14]
theorem out14_len (ns : List Nat) : (out14 ns).length = ns.length := by simp [out14]
theorem inn14_get (i n k : Nat) (h : k < (inn14 i n).length) : (inn14 i n)[k] = .mk ((10 * i + k : Nat) : Int) ByteArray.empty [] := by simp [inn14]
theorem out14_get (ns : List Nat) (i : Nat) (h : i < (out14 ns).length) (h' : i < ns.length) : (out14 ns)[i] = .mk 0 ByteArray.empty [inn14 i ns[i]] := by simp [out14]
/-- The cells so far: of whole lists; of the last list. -/
def lC14 (ns : List Nat) (i : Nat) : List Cel := fldN 2 1 0 0 0 shA14 (out14 ns) i
def kC14 (i n k : Nat) : List Cel := fldN 2 2 1 1 (if i = 0 then 0 else 1) shB14 (inn14 i n) k
theorem kC14_succ {i n k : Nat} (h : k < n) : kC14 i n (k + 1) = kC14 i n k ++ [⟨if k = 0 then (if i = 0 then 0 else 1) else 2, 2, some ⟨((10 * i + k : Nat) : Int), ByteArray.empty⟩⟩] := by
  have hl : k < (inn14 i n).length := by rw [inn14_len]; exact h
  unfold kC14
  rw [fldN_succ hl, inn14_get]
  simp [valC, shB14, Sh.rep, dmI, rmI, Tr.n, Tr.s]
theorem lC14_succ {ns : List Nat} {i : Nat} (h : i < ns.length) : lC14 ns (i + 1) = lC14 ns i ++ if ns[i] = 0 then [⟨if i = 0 then 0 else 1, 1, none⟩] else kC14 i ns[i] ns[i] := by
  have hl : i < (out14 ns).length := by rw [out14_len]; exact h
  unfold lC14
  rw [fldN_succ hl, out14_get ns i hl h]
  congr 1
  have e : valC 2 1 (0 + dmI shA14.rep) (0 + rmI shA14.rep) (if i = 0 then 0 else 0 + rmI shA14.rep) shA14 (.mk 0 ByteArray.empty [inn14 i ns[i]]) = fldC 2 2 1 1 (if i = 0 then 0 else 1) shB14 (inn14 i ns[i]) := by
    simp [valC, shA14, Sh.rep, dmI, rmI, Tr.kids, kidC, fldC]
  rw [e]
  by_cases h0 : ns[i] = 0
  · rw [if_pos h0, h0]
    simp [inn14, fldC, fldX, noneC, shB14, Sh.size, shSizes]
  · rw [if_neg h0]
    have hne : inn14 i ns[i] ≠ [] := fun he => h0 (by have := congrArg List.length he; rw [inn14_len] at this; simpa using this)
    have := fldN_all (lf := 2) (o := 2) (d := 1) (deep := 1) (r := if i = 0 then 0 else 1) (s := shB14) hne
    rw [inn14_len] at this
    exact this.symm
theorem kC14_len {i n : Nat} : ∀ k, k ≤ n → (kC14 i n k).length = k
  | 0, _ => by simp [kC14, fldN]
  | k + 1, h => by rw [kC14_succ (by omega), List.length_append, kC14_len k (by omega)]; simp
theorem lC14_len {ns : List Nat} (h4 : ∀ n ∈ ns, n ≤ 3) : ∀ i, i ≤ ns.length → (lC14 ns i).length ≤ i * 4
  | 0, _ => by simp [lC14, fldN]
  | i + 1, h => by
    have ih := lC14_len h4 i (by omega)
    rw [lC14_succ (by omega), List.length_append]
    have h3 := h4 _ (List.getElem_mem (show i < ns.length by omega))
    split
    · simp; omega
    · rw [kC14_len _ (Nat.le_refl _)]; omega
/-- The record. -/
def rec14 (ns : List Nat) : Tr := .mk 0 ByteArray.empty [out14 ns]
theorem rec14_cells (ns : List Nat) : rowsC 2 sh314 [rec14 ns] = if ns.length = 0 then [⟨0, 0, none⟩] else lC14 ns ns.length := by
  have e : rowsC 2 sh314 [rec14 ns] = fldC 2 1 0 0 0 shA14 (out14 ns) := by simp [rowsC, sh314, rec14, valC, Tr.kids, kidC, fldC]
  rw [e]
  by_cases h0 : ns.length = 0
  · rw [if_pos h0, List.eq_nil_of_length_eq_zero h0]
    simp [out14, fldC, fldX, noneC, shA14, shB14, Sh.size, shSizes]
  · rw [if_neg h0]
    have hne : out14 ns ≠ [] := fun he => h0 (by have := congrArg List.length he; rw [out14_len] at this; simpa using this)
    have := fldN_all (lf := 2) (o := 1) (d := 0) (deep := 0) (r := 0) (s := shA14) hne
    rw [out14_len] at this
    exact this.symm
theorem rec14_ok {ns : List Nat} (hn : ns.length ≤ 12) (h4 : ∀ n ∈ ns, n ≤ 3) : okT sh314 (rec14 ns) := by
  simp only [sh314, rec14, okT]
  rw [if_neg (by decide), if_neg (by decide), if_neg (by decide), if_neg (by decide)]
  refine ⟨rfl, rfl, ?_⟩
  show okK _ [out14 ns]
  simp only [okK]
  refine ⟨?_, fun t ht => ?_, trivial⟩
  · rw [out14_len]
    show okRep 2 _
    unfold okRep
    simp; omega
  · obtain ⟨p, hp, rfl⟩ := List.mem_map.1 ht
    obtain ⟨n, i⟩ := p
    have hi := (List.mem_zipIdx hp)
    simp only [shA14, okT]
    rw [if_neg (by decide), if_neg (by decide), if_neg (by decide), if_neg (by decide)]
    refine ⟨rfl, rfl, ?_⟩
    show okK _ [inn14 i n]
    simp only [okK]
    have hnm : n ∈ ns := by have := hi.2.2; rw [this]; exact List.getElem_mem _
    refine ⟨?_, fun u hu => ?_, trivial⟩
    · rw [inn14_len]
      have := h4 n hnm
      show okRep 2 _
      unfold okRep
      simp; omega
    · obtain ⟨k, hk, rfl⟩ := List.mem_map.1 hu
      have hk' := List.mem_range.1 hk
      have := h4 n hnm
      have hi2 := hi.2.1
      simp only [shB14, okT]
      rw [if_neg (by decide), if_neg (by decide), if_pos trivial]
      simp only [Tr.n, Tr.s, Tr.kids]
      exact ⟨⟨by omega, by omega⟩, by first | rfl | trivial, by first | rfl | trivial⟩
theorem rec14_colsE {ns : List Nat} (hn : ns.length ≤ 12) (h4 : ∀ n ∈ ns, n ≤ 3) : colsE l314 sh314 [rec14 ns] = 0 := by
  unfold colsE
  rw [if_neg (by simp)]
  have hf : fitT l314 (KF l314) (rec14 ns) 0 = 0 := fit_okT sh314 0 (rec14 ns) l3_sch14.ix l3_sch14.good (rec14_ok hn h4)
  simp only [List.map_cons, List.map_nil, hf, firstE, if_true]
  rw [if_neg (by decide), if_neg]
  rw [l3_leafs14]
  simp only [manyC, List.any_cons, List.any_nil, Bool.or_false, decide_eq_true_eq, rec14_cells]
  have := lC14_len h4 ns.length (Nat.le_refl _)
  split
  · simp
  · omega
end Go.Proofs.Ytibhcibcfommeaa
