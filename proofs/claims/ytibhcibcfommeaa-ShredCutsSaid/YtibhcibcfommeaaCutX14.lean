/-
 What is known of a column of records; its parts.
-/
import Derived.Test.YtibhcibcfommeaaCut14
import Derived.Test.YtibhcibcfommeaaMkC14
set_option linter.unusedSimpArgs false
namespace Go.Proofs.Ytibhcibcfommeaa
open Go.RowKit Go.Shr
/-- What is known of a column of records. -/
structure ColX (X : Cl) (D : Int) (n : Nat) : Prop where
 len : X.r.length = X.d.length
 val : cntL D X.d = X.v.length
 beg : (startsF 0 X.r).length = n
 zero : stA X 0 = 0
 lim : X.d.length ≤ 4000
theorem filter_int (C : List Cel) (f : Cel → Nat) (z : Nat) : ((C.map fun c => (f c : Int)).filter fun u => u == (z : Int)).length = (C.filter fun c => f c == z).length := by
 rw [List.filter_map, List.length_map]
 congr 1
 refine List.filter_congr fun c _ => ?_
 try simp only [Function.comp]
 by_cases h : f c = z
 ·simp [h]
 ·have : ¬ ((f c : Int) = (z : Int)) := by omega
  exact (beq_eq_false_iff_ne.2 this).trans (beq_eq_false_iff_ne.2 h).symm
theorem colX {l : List Fl} {lf n : Nat} {C : List Cel} (h : RowsOk l lf n C) (h0 : n = 0 → C = []) (hl : C.length ≤ 4000) : ColX (clC C) (lvD l lf : Int) n := by
 have hb : (startsF 0 (clC C).r).length = n := by
  rw [startsF_cnt]
  have := filter_int C (fun c => c.r) 0
  exact this.trans h.begins
 refine ⟨by simp [clC], ?_, hb, ?_, by simpa [clC] using hl⟩
 ·have := filter_int C (fun c => c.d) (lvD l lf)
  exact this.trans h.whole
 ·by_cases hn : n = 0
  ·rw [h0 hn]; rfl
  ·obtain ⟨c, cs, rfl, hc⟩ := h.first (by omega)
   simp [stA, stL, clC, startsF, hc]
theorem ColX.all {X : Cl} {D : Int} {n : Nat} (h : ColX X D n) : stA X (n : Int) = X.r.length := by
 unfold stA stL
 simp only [Int.toNat_natCast]
 rw [List.getD_eq_getElem?_getD, List.getElem?_append_right (by have := h.beg; omega), h.beg]
 simp
theorem cntL_zero (D : Int) (l : List Int) : cntL D (l.take 0) = 0 := by simp [cntL]
theorem ColX.whole {X : Cl} {D : Int} {n : Nat} (h : ColX X D n) : cutC X D 0 (n : Int) = X := by
 unfold cutC
 rw [if_neg (by have := h.beg; omega), h.zero, h.all, cntL_zero]
 have hl := h.len; have hv := h.val
 refine Cl.ext' ?_ ?_ ?_
 ·simp
 ·simp [hl]
 ·have e : X.d.take X.r.length = X.d := List.take_of_length_le (by omega)
  dsimp only
  rw [e, hv]; simp
end Go.Proofs.Ytibhcibcfommeaa
