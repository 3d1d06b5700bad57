/-
  Plain: the fields that are kept, one behind the other.
-/
import Derived.Test.YtibhcibcfommeaaWay7P
import Derived.Test.YtibhcibcfommeaaMkP
set_option linter.unusedSimpArgs false
namespace Go.Proofs.Ytibhcibcfommeaa
open Go.RowKit Go.Shr
def flN (l : List Fl) (i : Nat) : Fl := l.getD i Fl.none
theorem flN_eq {l : List Fl} {i : Nat} (h : i < l.length) : flN l i = l[i] := by simp [flN, List.getD, h]
def keptG (f : Nat → Bool) (l : List Fl) (m : Nat) (c : Nat → Int) : List Fl := ((List.range m).filter f).map fun a => ⟨(flN l a).name, (flN l a).rep, (flN l a).kind, c a⟩
/-- How many are kept ahead of a place. -/
def rank (f : Nat → Bool) (k : Nat) : Nat := ((List.range k).filter f).length
/-- How many of a group's fields ahead of a place are kept. -/
def cnt (f : Nat → Bool) (P : List Int) (m a : Nat) : Nat := ((List.range m).filter fun j => f j && P.getD j (-1) == (a : Int)).length
def keptL (f : Nat → Bool) (l : List Fl) : List Fl := keptG f l l.length fun a => (cnt f (par l) l.length a : Int)
section
variable {f : Nat → Bool} {l : List Fl} {m k : Nat} {c c' : Nat → Int}
theorem keptG_len : (keptG f l m c).length = rank f m := by simp [keptG, rank]
theorem rank_le : rank f m ≤ m := by unfold rank; exact Nat.le_trans (List.length_filter_le _ _) (by simp)
theorem rank_zero : rank f 0 = 0 := rfl
theorem rank_yes (h : f m = true) : rank f (m + 1) = rank f m + 1 := by unfold rank; rw [List.range_succ, List.filter_append]; simp [h]
theorem rank_no (h : f m = false) : rank f (m + 1) = rank f m := by unfold rank; rw [List.range_succ, List.filter_append]; simp [h]
theorem rank_lt (hk : k < m) (hf : f k = true) : rank f k < rank f m := by
  induction m with
  | zero => omega
  | succ m ih =>
    by_cases h : k = m
    · subst h; rw [rank_yes hf]; omega
    · have := ih (by omega)
      cases hm : f m with
      | true => rw [rank_yes hm]; omega
      | false => rw [rank_no hm]; omega
theorem keptG_yes (h : f m = true) : keptG f l (m + 1) c = keptG f l m c ++ [⟨(flN l m).name, (flN l m).rep, (flN l m).kind, c m⟩] := by
  unfold keptG; rw [List.range_succ, List.filter_append]; simp [h]
theorem keptG_no (h : f m = false) : keptG f l (m + 1) c = keptG f l m c := by
  unfold keptG; rw [List.range_succ, List.filter_append]; simp [h]
theorem keptG_congr (h : ∀ a, a < m → f a = true → c a = c' a) : keptG f l m c = keptG f l m c' := by
  unfold keptG
  refine List.map_congr_left fun a ha => ?_
  obtain ⟨h1, h2⟩ := List.mem_filter.1 ha
  rw [h a (List.mem_range.1 h1) h2]
theorem range_split : ∀ {m : Nat}, k < m → f k = true → ∃ B, (List.range m).filter f = (List.range k).filter f ++ k :: B ∧ ∀ b ∈ B, k < b
  | 0, h, _ => by omega
  | m + 1, h, hf => by
    rw [List.range_succ, List.filter_append]
    by_cases hk : k = m
    · subst hk
      exact ⟨[], by simp [hf], by simp⟩
    · obtain ⟨B, h1, h2⟩ := range_split (m := m) (by omega) hf
      refine ⟨B ++ [m].filter f, by rw [h1]; simp, fun b hb => ?_⟩
      rcases List.mem_append.1 hb with hb | hb
      · exact h2 b hb
      · have : b = m := by have := (List.mem_filter.1 hb).1; simpa using this
        omega
theorem fls_set3 (X Z : List Fl) (y : Fl) (z : Int) : (fls (X ++ y :: Z)).set (X.length * 4 + 3) (.int .i64 z) = fls (X ++ ⟨y.name, y.rep, y.kind, z⟩ :: Z) := by
  have h := fls_length X
  rw [fls_append, fls_append, List.set_append_right _ _ (by omega), h, show X.length * 4 + 3 - X.length * 4 = 3 by omega, fls_cons, fls_cons]
  rfl
theorem keptG_at (hk : k < m) (hf : f k = true) : (keptG f l m c)[rank f k]? = some ⟨(flN l k).name, (flN l k).rep, (flN l k).kind, c k⟩ := by
  obtain ⟨B, h1, _⟩ := range_split hk hf
  unfold keptG
  rw [h1, List.map_append, List.getElem?_append_right (by simp [rank])]
  simp [rank]
theorem keptG_set (hk : k < m) (hf : f k = true) (z : Int) : (fls (keptG f l m c)).set (rank f k * 4 + 3) (.int .i64 z) = fls (keptG f l m fun a => if a = k then z else c a) := by
  obtain ⟨B, h1, h2⟩ := range_split hk hf
  unfold keptG
  rw [h1, List.map_append, List.map_cons]
  have hl : rank f k = (((List.range k).filter f).map fun a => (⟨(flN l a).name, (flN l a).rep, (flN l a).kind, c a⟩ : Fl)).length := by simp [rank]
  rw [hl, fls_set3, List.map_append, List.map_cons]
  dsimp only
  rw [if_pos rfl]
  congr 2
  · refine List.map_congr_left fun a ha => ?_
    have := List.mem_range.1 (List.mem_filter.1 ha).1
    rw [if_neg (by omega)]
  · congr 1
    refine List.map_congr_left fun a ha => ?_
    have := h2 a ha
    rw [if_neg (by omega)]
theorem cnt_le {P : List Int} {a : Nat} : cnt f P m a ≤ m := by unfold cnt; exact Nat.le_trans (List.length_filter_le _ _) (by simp)
theorem cnt_succ (P : List Int) (a : Nat) : cnt f P (m + 1) a = cnt f P m a + if f m = true ∧ P.getD m (-1) = (a : Int) then 1 else 0 := by
  unfold cnt
  rw [List.range_succ, List.filter_append, List.length_append]
  congr 1
  by_cases h : f m = true ∧ P.getD m (-1) = (a : Int)
  · rw [if_pos h]; have h2 := h.2; simp only [List.filter_cons, h.1, h2]; simp
  · rw [if_neg h]
    have : (f m && P.getD m (-1) == (a : Int)) = false := by
      rw [Bool.eq_false_iff]; intro e; simp only [Bool.and_eq_true, beq_iff_eq] at e; exact h e
    simp only [List.filter_cons, this]; simp
theorem cnt_self {P : List Int} (hP : ∀ j, j < P.length → P.getD j (-1) < (j : Int)) {a : Nat} (ha : m ≤ a) (hm : m ≤ P.length) : cnt f P (m + 0) a = 0 := by
  unfold cnt
  rw [List.length_eq_zero_iff, List.filter_eq_nil_iff]
  intro j hj
  have hj' := List.mem_range.1 hj
  have := hP j (by omega)
  simp only [Bool.and_eq_true, beq_iff_eq, not_and]
  intro _ e
  omega
end
/-- Where the kept fields stand, of those ahead of a place. -/
def atl (f : Nat → Bool) (n i : Nat) : List Int := (List.range n).map fun a => if a < i ∧ f a = true then (rank f a : Int) else 0
theorem atl_len (f : Nat → Bool) (n i : Nat) : (atl f n i).length = n := by simp [atl]
theorem atl_get {f : Nat → Bool} {n i k : Nat} (hn : k < n) (hi : k < i) (hf : f k = true) : (ints (atl f n i))[k]? = some (.int .i64 (rank f k : Int)) := by
  rw [ints_get _ _ (by rw [atl_len]; exact hn)]
  simp [atl, hi, hf]
theorem atl_no {f : Nat → Bool} {n i : Nat} (hf : f i = false) : atl f n (i + 1) = atl f n i := by
  unfold atl
  refine List.map_congr_left fun a _ => ?_
  by_cases h : a = i
  · subst h; rw [if_neg (by simp [hf]), if_neg (by simp [hf])]
  · by_cases h2 : a < i ∧ f a = true
    · rw [if_pos h2, if_pos ⟨by omega, h2.2⟩]
    · rw [if_neg h2, if_neg (fun h3 => h2 ⟨by omega, h3.2⟩)]
theorem atl_yes {f : Nat → Bool} {n i : Nat} (hf : f i = true) : (ints (atl f n i)).set i (.int .i64 (rank f i : Int)) = ints (atl f n (i + 1)) := by
  refine List.ext_getElem (by simp [ints, atl]) fun a h1 h2 => ?_
  rw [List.getElem_set]
  simp only [ints, atl, List.getElem_map, List.getElem_range]
  by_cases h : i = a
  · subst h; rw [if_pos rfl, if_pos ⟨by omega, hf⟩]
  · rw [if_neg h]
    by_cases h2 : a < i ∧ f a = true
    · rw [if_pos h2, if_pos ⟨by omega, h2.2⟩]
    · rw [if_neg h2, if_neg (fun h3 => h2 ⟨by omega, h3.2⟩)]
theorem atl_zero (f : Nat → Bool) (n : Nat) : ints (atl f n 0) = List.replicate n (Value.int .i64 0) := by
  refine List.ext_getElem (by simp [ints, atl]) fun a h1 h2 => ?_
  simp [ints, atl]
theorem getD_par {l : List Fl} {j : Nat} (h : j < l.length) : (par l).getD j (-1) = (par l)[j]'(by rw [par_length]; exact h) := by
  rw [List.getD_eq_getElem?_getD, List.getElem?_eq_getElem (by rw [par_length]; exact h)]; rfl
theorem par_lt (l : List Fl) : ∀ j, j < (par l).length → (par l).getD j (-1) < (j : Int) := fun j h => by
  rw [getD_par (by rwa [par_length] at h)]; exact (par_bd l j h).2
end Go.Proofs.Ytibhcibcfommeaa
