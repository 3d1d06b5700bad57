/-
  ShredMany, plain: records of k values each.
-/
import Derived.Test.YtibhcibcfommeaaKnown14
set_option linter.unusedSimpArgs false
namespace Go.Proofs.Ytibhcibcfommeaa
open Go.RowKit Go.Shr
def twoL14 : List Fl := [⟨⟨#[109]⟩, 0, 0, 1⟩, ⟨⟨#[97]⟩, 2, 1, 0⟩]
def twoSh14 : Sh := .mk ⟨#[109]⟩ 0 0 [.mk ⟨#[97]⟩ 2 1 []]
def leaf14 : Tr := .mk 0 ByteArray.empty []
/-- A record of k values. -/
def kTr (k : Nat) : Tr := .mk 0 ByteArray.empty [List.replicate k leaf14]
def kRows (n k : Nat) : List Tr := List.replicate n (kTr k)
theorem two_sch14 : Sch twoL14 twoSh14 := ⟨by simp [twoL14, twoSh14, flat, flatL], by simp [twoSh14, GoodS, GoodL], rfl, by simp [twoSh14, Sh.size, shSizes]⟩
theorem two_nms14 : Nms twoL14 := by
  refine ⟨fun f hf => ?_, by decide⟩
  simp only [twoL14, List.mem_cons, List.not_mem_nil, or_false] at hf
  rcases hf with rfl | rfl
  · exact ⟨109, rfl, by decide, by decide⟩
  · exact ⟨97, rfl, by decide, by decide⟩
theorem two_wy14 : Wy twoL14 (wayAt twoSh14) := Wy.mk' two_sch14 (by decide) two_nms14
theorem two_rep14 : ∀ x ∈ twoL14, x.rep = 0 ∨ x.rep = 1 ∨ x.rep = 2 := by simp [twoL14]
theorem two_leafs14 : leafs twoL14 twoL14.length = [1] := by decide
theorem leaf_cells (d deep r : Nat) : valC 1 1 d deep r (.mk ⟨#[97]⟩ 2 1 []) leaf14 = [⟨r, d, some ⟨0, ByteArray.empty⟩⟩] := by
  simp [valC, leaf14, Tr.n, Tr.s]
theorem flat_const {α β : Type} {f : α → List β} {m : Nat} : ∀ (x : List α), (∀ a ∈ x, (f a).length = m) → (x.flatMap f).length = x.length * m
  | [], _ => by simp
  | a :: x, h => by
    have h1 := h a List.mem_cons_self
    have h2 := flat_const x (fun y hy => h y (List.mem_cons_of_mem _ hy))
    simp only [List.flatMap_cons, List.length_append, List.length_cons, Nat.add_mul, Nat.one_mul]; omega
theorem kTr_cells {k : Nat} (hk : 0 < k) : (valC 1 0 0 0 0 twoSh14 (kTr k)).length = k ∧ ∀ c ∈ valC 1 0 0 0 0 twoSh14 (kTr k), c.v.isSome = true := by
  obtain ⟨j, rfl⟩ : ∃ j, k = j + 1 := ⟨k - 1, by omega⟩
  have he : valC 1 0 0 0 0 twoSh14 (kTr (j + 1)) = fldX (fun r' u => valC 1 1 (0 + dmI 2) (0 + rmI 2) r' (.mk ⟨#[97]⟩ 2 1 []) u) 0 (0 + rmI 2) (noneC 1 1 (.mk ⟨#[97]⟩ 2 1 []) 0 0) (leaf14 :: List.replicate j leaf14) := by
    simp [twoSh14, kTr, valC, Tr.kids, kidC, Sh.rep, List.replicate_succ]
  rw [he]
  simp only [fldX, leaf_cells]
  constructor
  · rw [List.length_append, flat_const (m := 1) _ (fun a ha => by rw [List.eq_of_mem_replicate ha, leaf_cells]; rfl)]
    simp; omega
  · intro c hc
    rcases List.mem_append.1 hc with hc | hc
    · rw [List.mem_singleton.1 hc]; rfl
    · obtain ⟨a, ha, hc⟩ := List.mem_flatMap.1 hc
      rw [List.eq_of_mem_replicate ha, leaf_cells] at hc
      rw [List.mem_singleton.1 hc]; rfl
theorem kRows_len (n : Nat) {k : Nat} (hk : 0 < k) : (rowsC 1 twoSh14 (kRows n k)).length = n * k := by
  unfold rowsC kRows
  rw [flat_const (m := k) _ (fun a ha => by rw [List.eq_of_mem_replicate ha]; exact (kTr_cells hk).1), List.length_replicate]
theorem celV_all : ∀ (C : List Cel), (∀ c ∈ C, c.v.isSome = true) → (celV C).length = C.length
  | [], _ => rfl
  | c :: C, h => by
    have h1 := h c List.mem_cons_self
    have h2 := celV_all C (fun x hx => h x (List.mem_cons_of_mem _ hx))
    unfold celV at h2 ⊢
    cases hv : c.v with
    | none => rw [hv] at h1; cases h1
    | some v => simp [hv, h2]
theorem kRows_vals (n : Nat) {k : Nat} (hk : 0 < k) : (celV (rowsC 1 twoSh14 (kRows n k))).length = n * k := by
  rw [celV_all, kRows_len n hk]
  intro c hc
  obtain ⟨a, ha, hc⟩ := List.mem_flatMap.1 hc
  rw [List.eq_of_mem_replicate ha] at hc
  exact (kTr_cells hk).2 c hc
theorem leaf14_ok : okT (.mk ⟨#[97]⟩ 2 1 []) leaf14 := by
  simp only [okT, if_true]
  exact ⟨.inl rfl, rfl, rfl⟩
theorem kTr_ok {k : Nat} (hk : k ≤ 50) : okT twoSh14 (kTr k) := by
  simp only [twoSh14, okT]
  rw [if_neg (by decide), if_neg (by decide), if_neg (by decide), if_neg (by decide)]
  refine ⟨rfl, rfl, ?_⟩
  show okK _ [List.replicate k leaf14]
  simp only [okK]
  refine ⟨?_, fun t ht => by rw [List.eq_of_mem_replicate ht]; exact leaf14_ok, trivial⟩
  rw [List.length_replicate]
  show okRep 2 k
  unfold okRep
  simp
  omega
theorem kRows_colsE (n : Nat) {k : Nat} (hk : 0 < k) (hk5 : k ≤ 50) : colsE twoL14 twoSh14 (kRows n k) = if 200 < n then 4 else if 4000 < n * k then 4 else 0 := by
  have hl : (kRows n k).length = n := by simp [kRows]
  have hf : firstE ((kRows n k).map fun t => fitT twoL14 (KF twoL14) t 0) = 0 := firstE_zero.2 (fun e he => by
    obtain ⟨t, ht, rfl⟩ := List.mem_map.1 he
    rw [List.eq_of_mem_replicate ht]
    exact fit_okT twoSh14 0 (kTr k) two_sch14.ix two_sch14.good (kTr_ok hk5))
  unfold colsE
  rw [hl, hf, two_leafs14]
  simp only [ne_eq, not_true_eq_false, if_false, manyC, List.any_cons, List.any_nil, Bool.or_false, kRows_len n hk, decide_eq_true_eq]
end Go.Proofs.Ytibhcibcfommeaa
