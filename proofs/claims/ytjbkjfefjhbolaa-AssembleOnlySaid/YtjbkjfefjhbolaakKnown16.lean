import Derived.Test.YtjbkjfefjhbolaakRecords16
import Derived.Test.YtjbkjfefjhbolaakCols14
import Derived.Test.YtjbkjfefjhbolaakMany9
import Derived.Test.YtjbkjfefjhbolaakSameP
set_option linter.unusedSimpArgs false
set_option linter.unusedVariables false
namespace Go.Proofs.Ytjbkjfefjhbolaa
open Go.RowKit Go.Shr
def aL : List Fl := [⟨⟨#[109]⟩, 0, 0, 1⟩, ⟨⟨#[97]⟩, 0, 1, 0⟩]
def aSh : Sh := .mk ⟨#[109]⟩ 0 0 [.mk ⟨#[97]⟩ 0 1 []]
theorem a_sch : Sch aL aSh := ⟨by simp [aL, aSh, flat, flatL], by simp [aSh, GoodS, GoodL], rfl, by simp [aSh, Sh.size, shSizes]⟩
theorem a_nms : Nms aL := by
 refine ⟨fun f hf => ?_, by decide⟩
 simp only [aL, List.mem_cons, List.not_mem_nil, or_false] at hf
 rcases hf with rfl | rfl
 ·exact ⟨109, rfl, by decide, by decide⟩
 ·exact ⟨97, rfl, by decide, by decide⟩
theorem a_wy : Wy aL (wayAt aSh) := Wy.mk' a_sch (by decide) a_nms
theorem a_rep : ∀ x ∈ aL, x.rep = 0 ∨ x.rep = 1 ∨ x.rep = 2 := by simp [aL]
theorem a_leafs : leafs aL aL.length = [1] := by decide
theorem a_colsE : colsE aL aSh [] = 0 := by
 unfold colsE
 rw [if_neg (by decide)]
 simp only [List.map_nil, firstE]
 rw [if_neg (by decide), if_neg]
 rw [a_leafs]
 simp [manyC, rowsC]
theorem a_colsL : colsL aL aSh [] = [⟨[], [], []⟩] := by
 rw [colsL, if_pos a_colsE]
 simp [clsC, a_leafs, clC, rowsC, celV]
theorem a_good : Good aL aSh [⟨[], [], []⟩] 0 [] := ⟨a_colsE, a_colsL, rfl⟩
theorem ColsR.one {w : World} {b : Nat} {t : TypeId} (h : Rw w b #[.slice none 0 0, .slice none 0 0, .slice none 0 0] t) : ColsR w (some ⟨b, 0, none⟩) 1 1 [⟨[], [], []⟩] [.slice none 0 0, .slice none 0 0, .slice none 0 0] :=
 ⟨Rw.sl h 1 3 rfl (by decide), ⟨none, 0, none, 0, none, 0, [], rfl, ⟨Sl.nil _ _ _ _, Sl.nil _ _ _ _, Sl.nil _ _ _ _⟩, rfl⟩⟩
set_option maxHeartbeats 400000 in
theorem known16 (w : World) : Calls Try.prog 10 #[] w fun e w' => e = .returned (.bool true) ∧ Below w.heap.size w w' := by
 go_enter Try.func10, Try.ntmps10
 go_wp2_with fail
 have r1 := Rw.new w #[.string ⟨#[109]⟩, .int .i64 0, .int .i64 0, .int .i64 1, .string ⟨#[97]⟩, .int .i64 0, .int .i64 1, .int .i64 0] 62
 have hb1 := ba (b0 w) (.cells #[.string ⟨#[109]⟩, .int .i64 0, .int .i64 0, .int .i64 1, .string ⟨#[97]⟩, .int .i64 0, .int .i64 1, .int .i64 0] 62)
 have hz1 : (w.alloc (.cells #[.string ⟨#[109]⟩, .int .i64 0, .int .i64 0, .int .i64 1, .string ⟨#[97]⟩, .int .i64 0, .int .i64 1, .int .i64 0] 62)).heap.size = w.heap.size + 1 := by simp
 generalize w.alloc (.cells #[.string ⟨#[109]⟩, .int .i64 0, .int .i64 0, .int .i64 1, .string ⟨#[97]⟩, .int .i64 0, .int .i64 1, .int .i64 0] 62) = w1 at r1 hb1 hz1 ⊢
 have r2 : Rw (w1.alloc (.cells #[.slice none 0 0, .slice none 0 0, .slice none 0 0] 42)) (w.heap.size + 1) #[.slice none 0 0, .slice none 0 0, .slice none 0 0] 42 := Rw.new' hz1
 have hb2 := ba (b0 w1) (.cells #[.slice none 0 0, .slice none 0 0, .slice none 0 0] 42)
 generalize w1.alloc (.cells #[.slice none 0 0, .slice none 0 0, .slice none 0 0] 42) = w2 at r2 hb2 ⊢
 have hS := Rw.sl (r1.below hb2) 2 4 rfl (by decide)
 have HB := Lib.hid (bt hb1 hb2); have HR1 := Lib.hid (r1.below hb2)
 refine (records16_v a_sch a_wy a_rep rfl (some ⟨w.heap.size, 0, none⟩) (some ⟨w.heap.size + 1, 0, none⟩) 2 1 1 [⟨[], [], []⟩] _ 0 w2 hS (ColsR.one r2) (by simp) (by simp)).mono ?_
 rintro e w3 ⟨x, a, c, ys, er, rfl, hsl, hrow, hb3, _, hq⟩
 obtain ⟨rfl, hg, hu⟩ | ⟨_, _, hno⟩ := hq (by simp [a_leafs])
 ·obtain rfl : [] = x := hu [] a_good
  have HB3 := Lib.hid (bt HB.out hb3); have HR3 := Lib.hid (HR1.out.below hb3)
  clear hsl hrow hb3 hq hu hg hS HB HR1 r1 r2 hb1 hb2 hz1
  go_wp2_with fail
  have r4 := Rw.new w3 #[.slice none 0 0, .slice none 0 0, .slice none 0 0] 42
  have hb4 := ba (b0 w3) (.cells #[.slice none 0 0, .slice none 0 0, .slice none 0 0] 42)
  generalize w3.alloc (.cells #[.slice none 0 0, .slice none 0 0, .slice none 0 0] 42) = w4 at r4 hb4 ⊢
  refine (records16_v a_sch a_wy a_rep rfl (some ⟨w.heap.size, 0, none⟩) (some ⟨w3.heap.size, 0, none⟩) 2 1 1 [⟨[], [], []⟩] _ (-1) w4 (Rw.sl (HR3.out.below hb4) 2 4 rfl (by decide)) (ColsR.one r4) (by simp) (by simp)).mono ?_
  rintro e w5 ⟨x, a', c', ys', er, rfl, _, _, hb5, hq, _⟩
  obtain ⟨rfl, rfl⟩ := hq (.inl (by decide))
  have HB5 := Lib.hid (bt (bt HB3.out hb4) hb5)
  clear hb4 hb5 hq r4 HR3 HB3
  go_wp2_with fail
  go_ret
  exact ⟨rfl, HB5.out⟩
 ·exact absurd a_good (hno [])
end Go.Proofs.Ytjbkjfefjhbolaa
namespace Go.Proofs.Ytjbkjfefjhbolaa
open Go.RowKit Go.Shr
theorem rowB {w w' : World} {x : List Tr} {ys : List Value} (h : RowG (fun b => b < w.heap.size) w x ys) (hb : Below w.heap.size w w') : RowG (fun b => b < w'.heap.size) w' x ys :=
 h.go (Chg.ofBelow hb) (fun k hk _ => ⟨Nat.not_le_of_lt hk, Nat.lt_of_lt_of_le hk hb.size⟩)
end Go.Proofs.Ytjbkjfefjhbolaa
