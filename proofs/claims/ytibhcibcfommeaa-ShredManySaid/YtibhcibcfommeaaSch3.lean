/-
  The walk of schema.Parents; lists of numbers in a row.
-/
import Derived.Test.YtibhcibcfommeaaSch2
set_option linter.unusedSimpArgs false
namespace Go.Proofs.Ytibhcibcfommeaa
open Go.RowKit Go.Shr
theorem hmf : ∀ (fn : Fn) (first cap : Array Value) (w : World), (Instr.makeFunc fn first cap).run Try.prog w = .ok (.func fn first cap) w := fun _ _ _ _ => rfl
set_option maxHeartbeats 400000 in
theorem par_v (a : Option Addr) (n cap : Nat) (l : List Fl) (w : World) (hs : Sl (fun b => b < w.heap.size) w 4 a n cap (fls l)) (hn : n ≤ 1000) (hkid : ∀ x ∈ l, x.kids ≤ 1000) :
    Calls Try.prog 46 #[.slice a n cap] w fun e w' => ∃ a' cap', e = .returned (.slice a' n cap') ∧ Own w.heap.size w' 3 1 a' n cap' (ints (par l)) ∧ Below w.heap.size w w' := by
  have hmf' := hmf
  have hs1 : Sl (fun b => b < (w.alloc (.cells #[.slice none 0 0] 22)).heap.size ∧ b ≠ w.heap.size) (w.alloc (.cells #[.slice none 0 0] 22)) 4 a n cap (fls l) :=
    (hs.alloc _).mono (fun k _ hk => ⟨by simp; omega, by omega⟩) (by decide)
  have HS := Lib.hid hs1; have HK := Lib.hid hkid; clear hs hs1 hkid
  have HR := Lib.hid (Rw.new w #[.slice none 0 0] 22)
  go_enter Try.func46, Try.ntmps46
  go_wp2_with fail
  refine (walk_par a n cap l w.heap.size _ HS.out HR.out hn HK.out).mono ?_
  rintro e w1 ⟨⟨b, rfl⟩, aO, cO, r1, o1, c1⟩
  have q0 : w1.cell? ⟨w.heap.size, 0, none⟩ = some (.slice aO n cO) := r1.cell 0
  have hb1 : Below w.heap.size w w1 := ⟨c1.os, c1.tape, c1.output, by have := c1.size; simp at this; omega, fun k hk => (c1.block k (by simp; omega) (by omega)).trans (Below.heap_alloc w _ k hk)⟩
  have HO := Lib.hid o1.sl; have HB := Lib.hid hb1
  clear r1 o1 c1 hb1
  go_wp2_with fail
  refine (clone_i _ aO n cO _ w1 HO.out (ints_one _) (by omega)).mono ?_
  rintro e w2 ⟨a', cap', rfl, ho, hb⟩
  have HO2 := Lib.hid (ho.mono HB.out.size); have HB2 := Lib.hid (bt HB.out hb)
  clear ho hb
  go_wp2_with fail
  go_ret
  exact ⟨a', cap', rfl, HO2.out, HB2.out⟩
/-- The places of a group's own fields. -/
def kidsOf (P : List Int) (k : Int) : List Int := ((List.range P.length).filter fun i => P.getD i 0 == k).map fun (i : Nat) => (i : Int)
theorem kidsOf_snoc (P : List Int) (p k : Int) : kidsOf (P ++ [p]) k = kidsOf P k ++ if p = k then [(P.length : Int)] else [] := by
  unfold kidsOf
  rw [List.length_append, List.length_singleton, List.range_succ, List.filter_append, List.map_append]
  congr 1
  · congr 1
    refine List.filter_congr fun i hi => ?_
    have := List.mem_range.1 hi
    simp [List.getElem?_append_left this]
  · have e : (P ++ [p]).getD P.length 0 = p := by simp
    rw [List.filter_cons, e]
    by_cases h : p = k
    · simp [h]
    · simp [h]
theorem kidsOf_nil (k : Int) : kidsOf [] k = [] := rfl
theorem kidsOf_mem {P : List Int} {k : Int} {i : Int} (h : i ∈ kidsOf P k) : 0 ≤ i ∧ i < P.length ∧ P.getD i.toNat 0 = k := by
  simp only [kidsOf, List.mem_map, List.mem_filter, List.mem_range] at h
  obtain ⟨j, ⟨h1, h2⟩, rfl⟩ := h
  exact ⟨by omega, by omega, by simpa using h2⟩
theorem kidsOf_len (P : List Int) (k : Int) : (kidsOf P k).length ≤ P.length := by
  unfold kidsOf
  rw [List.length_map]
  exact Nat.le_trans (List.length_filter_le _ _) (by simp)
/-- A row of lists of numbers that is being made. -/
structure KI (B : Nat) (w : World) (bk n : Nat) (cur : Array Value) (aa : Nat → Option Addr) (cc : Nat → Nat) (K : Nat → List Int) : Prop where
  row : Rw w bk cur 22
  at' : ∀ k, k < n → cur[k]? = some (.slice (aa k) (K k).length (cc k))
  own : ∀ k, k < n → Own B w 3 1 (aa k) (K k).length (cc k) (ints (K k))
  lt : ∀ k g, k < n → blk (aa k) g → g < w.heap.size ∧ bk < g ∧ B ≤ g
  dis : ∀ k j g, k < n → j < n → k ≠ j → blk (aa k) g → ¬ blk (aa j) g
theorem KI.below {B : Nat} {w w' : World} {bk n : Nat} {cur : Array Value} {aa : Nat → Option Addr} {cc : Nat → Nat} {K : Nat → List Int} (h : KI B w bk n cur aa cc K) (hb : Below w.heap.size w w') : KI B w' bk n cur aa cc K :=
  ⟨h.row.below hb, h.at', fun k hk => (h.own k hk).below hb, fun k g hk hg => ⟨Nat.lt_of_lt_of_le (h.lt k g hk hg).1 hb.size, (h.lt k g hk hg).2⟩, h.dis⟩
theorem KI.push {B : Nat} {w w' : World} {bk n : Nat} {cur : Array Value} {aa : Nat → Option Addr} {cc : Nat → Nat} {K : Nat → List Int} (h : KI B w bk n cur aa cc K) (k : Nat) (hk : k < n) {a' : Option Addr} {c' : Nat} {x : Int} (hbk : bk < B)
    (ho : Own B w' 3 1 a' ((K k).length + 1) c' (ints (K k ++ [x]))) (hc : Chg (fun g => blk (aa k) g ∧ B ≤ g ∧ 0 < cc k) w w') (hn : ∀ g, blk a' g → blk (aa k) g ∨ w.heap.size ≤ g) :
    KI B (w'.setCell ⟨bk, k, none⟩ (.slice a' ((K k).length + 1) c')) bk n (cur.setIfInBounds k (.slice a' ((K k).length + 1) c')) (fun j => if j = k then a' else aa j) (fun j => if j = k then c' else cc j) (fun j => if j = k then K k ++ [x] else K j) := by
  have hsz := hc.size
  have hblk : ∀ g, blk a' g → B ≤ g ∧ g < w'.heap.size := fun g hg => by
    obtain ⟨g', rfl, h1, h2, _⟩ := ho.pos (by omega)
    obtain ⟨o, s, e'⟩ := hg
    cases e'
    exact ⟨h1, h2⟩
  have hks : k < cur.size := (Array.getElem?_eq_some_iff.1 (h.at' k hk)).1
  refine ⟨(h.row.chg hc (fun ⟨_, h2, _⟩ => by omega)).set k _, fun j hj => ?_, fun j hj => ?_, fun j g hj hg => ?_, fun i j g hi hj hij hg hg' => ?_⟩
  · by_cases hjk : j = k
    · subst hjk; simp [hks]
    · simp only [if_neg hjk]
      rw [Array.getElem?_setIfInBounds_ne (Ne.symm hjk)]; exact h.at' j hj
  · by_cases hjk : j = k
    · subst hjk
      simp only [if_true, List.length_append, List.length_singleton]
      exact ho.setBelow hbk _
    · simp only [if_neg hjk]
      exact ((h.own j hj).chg hc (fun g hg ⟨h1, _⟩ => h.dis j k g hj hk hjk hg h1)).setBelow hbk _
  · by_cases hjk : j = k
    · subst hjk
      simp only [if_true] at hg
      have := hblk g hg
      exact ⟨by simpa using this.2, by omega, this.1⟩
    · simp only [if_neg hjk] at hg
      have := h.lt j g hj hg
      exact ⟨by simp; omega, this.2⟩
  · by_cases hik : i = k
    · subst hik
      simp only [if_true] at hg
      rw [if_neg (Ne.symm hij)] at hg'
      rcases hn g hg with h1 | h1
      · exact h.dis i j g hi hj hij h1 hg'
      · have := (h.lt j g hj hg').1; omega
    · simp only [if_neg hik] at hg
      by_cases hjk : j = k
      · subst hjk
        simp only [if_true] at hg'
        rcases hn g hg' with h1 | h1
        · exact h.dis i j g hi hj hij hg h1
        · have := (h.lt i g hi hg).1; omega
      · simp only [if_neg hjk] at hg'
        exact h.dis i j g hi hj hij hg hg'
/-- Lists of numbers that are read. -/
def KidsAt (w : World) (bk n : Nat) (K : Nat → List Int) : Prop := ∀ k, k < n → ∃ a c, w.cell? ⟨bk, k, none⟩ = some (.slice a (K k).length c) ∧ Sl (fun b => b < w.heap.size) w 1 a (K k).length c (ints (K k))
theorem KidsAt.below {w w' : World} {bk n : Nat} {K : Nat → List Int} (h : KidsAt w bk n K) (hb : Below w.heap.size w w') : KidsAt w' bk n K := fun k hk => by
  obtain ⟨a, c, h1, h2⟩ := h k hk
  exact ⟨a, c, cb hb h1, slb h2 hb⟩
theorem KI.kids {B : Nat} {w : World} {bk n : Nat} {cur : Array Value} {aa : Nat → Option Addr} {cc : Nat → Nat} {K : Nat → List Int} (h : KI B w bk n cur aa cc K) : KidsAt w bk n K := fun k hk =>
  ⟨aa k, cc k, (h.row.cell k).trans (h.at' k hk), (h.own k hk).sl.mono (fun b _ hb => hb.2.2) (by decide)⟩
end Go.Proofs.Ytibhcibcfommeaa
