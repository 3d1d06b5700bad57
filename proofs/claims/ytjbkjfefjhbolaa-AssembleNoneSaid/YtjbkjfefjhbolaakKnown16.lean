import Derived.Test.YtjbkjfefjhbolaakRecords16
import Derived.Test.YtjbkjfefjhbolaakCols14
import Derived.Test.YtjbkjfefjhbolaakMany9
import Derived.Test.YtjbkjfefjhbolaakSameP
set_option linter.unusedSimpArgs false
set_option linter.unusedVariables false
namespace Go.Proofs.Ytjbkjfefjhbolaa
open Go.RowKit Go.Shr
def aL : List Fl := [⟨⟨#[109]⟩, 0, 0, 1⟩, ⟨⟨#[97]⟩, 0, 1, 0⟩]
def aSh : Sh := .mk ⟨#[109]⟩ 0 0 [.mk ⟨#[97]⟩ 0 1 []]
theorem a_sch : Sch aL aSh := ⟨by simp [aL, aSh, flat, flatL], by simp [aSh, GoodS, GoodL], rfl, by simp [aSh, Sh.size, shSizes]⟩
theorem a_nms : Nms aL := by
 refine ⟨fun f hf => ?_, by decide⟩
 simp only [aL, List.mem_cons, List.not_mem_nil, or_false] at hf
 rcases hf with rfl | rfl
 ·exact ⟨109, rfl, by decide, by decide⟩
 ·exact ⟨97, rfl, by decide, by decide⟩
theorem a_wy : Wy aL (wayAt aSh) := Wy.mk' a_sch (by decide) a_nms
theorem a_rep : ∀ x ∈ aL, x.rep = 0 ∨ x.rep = 1 ∨ x.rep = 2 := by simp [aL]
theorem a_leafs : leafs aL aL.length = [1] := by decide
theorem a_colsE : colsE aL aSh [] = 0 := by
 unfold colsE
 rw [if_neg (by decide)]
 simp only [List.map_nil, firstE]
 rw [if_neg (by decide), if_neg]
 rw [a_leafs]
 simp [manyC, rowsC]
theorem a_colsL : colsL aL aSh [] = [⟨[], [], []⟩] := by
 rw [colsL, if_pos a_colsE]
 simp [clsC, a_leafs, clC, rowsC, celV]
theorem a_good : Good aL aSh [⟨[], [], []⟩] 0 [] := ⟨a_colsE, a_colsL, rfl⟩
/-- Columns as they are written down: one, of nothing. -/
theorem ColsR.one {w : World} {b : Nat} {t : TypeId} (h : Rw w b #[.slice none 0 0, .slice none 0 0, .slice none 0 0] t) : ColsR w (some ⟨b, 0, none⟩) 1 1 [⟨[], [], []⟩] [.slice none 0 0, .slice none 0 0, .slice none 0 0] :=
 ⟨Rw.sl h 1 3 rfl (by decide), ⟨none, 0, none, 0, none, 0, [], rfl, ⟨Sl.nil _ _ _ _, Sl.nil _ _ _ _, Sl.nil _ _ _ _⟩, rfl⟩⟩
set_option maxHeartbeats 400000 in
theorem known16 (w : World) : Calls Try.prog 10 #[] w fun e w' => e = .returned (.bool true) ∧ Below w.heap.size w w' := by
 go_enter Try.func10, Try.ntmps10
 go_wp2_with fail
 have r1 := Rw.new w #[.string ⟨#[109]⟩, .int .i64 0, .int .i64 0, .int .i64 1, .string ⟨#[97]⟩, .int .i64 0, .int .i64 1, .int .i64 0] 62
 have hb1 := ba (b0 w) (.cells #[.string ⟨#[109]⟩, .int .i64 0, .int .i64 0, .int .i64 1, .string ⟨#[97]⟩, .int .i64 0, .int .i64 1, .int .i64 0] 62)
 have hz1 : (w.alloc (.cells #[.string ⟨#[109]⟩, .int .i64 0, .int .i64 0, .int .i64 1, .string ⟨#[97]⟩, .int .i64 0, .int .i64 1, .int .i64 0] 62)).heap.size = w.heap.size + 1 := by simp
 generalize w.alloc (.cells #[.string ⟨#[109]⟩, .int .i64 0, .int .i64 0, .int .i64 1, .string ⟨#[97]⟩, .int .i64 0, .int .i64 1, .int .i64 0] 62) = w1 at r1 hb1 hz1 ⊢
 have r2 : Rw (w1.alloc (.cells #[.slice none 0 0, .slice none 0 0, .slice none 0 0] 42)) (w.heap.size + 1) #[.slice none 0 0, .slice none 0 0, .slice none 0 0] 42 := Rw.new' hz1
 have hb2 := ba (b0 w1) (.cells #[.slice none 0 0, .slice none 0 0, .slice none 0 0] 42)
 generalize w1.alloc (.cells #[.slice none 0 0, .slice none 0 0, .slice none 0 0] 42) = w2 at r2 hb2 ⊢
 have hS := Rw.sl (r1.below hb2) 2 4 rfl (by decide)
 have HB := Lib.hid (bt hb1 hb2); have HR1 := Lib.hid (r1.below hb2)
 refine (records16_v a_sch a_wy a_rep rfl (some ⟨w.heap.size, 0, none⟩) (some ⟨w.heap.size + 1, 0, none⟩) 2 1 1 [⟨[], [], []⟩] _ 0 w2 hS (ColsR.one r2) (by simp) (by simp)).mono ?_
 rintro e w3 ⟨x, a, c, ys, er, rfl, hsl, hrow, hb3, _, hq⟩
 obtain ⟨rfl, hg, hu⟩ | ⟨_, _, hno⟩ := hq (by simp [a_leafs])
 ·obtain rfl : [] = x := hu [] a_good
  have HB3 := Lib.hid (bt HB.out hb3); have HR3 := Lib.hid (HR1.out.below hb3)
  clear hsl hrow hb3 hq hu hg hS HB HR1 r1 r2 hb1 hb2 hz1
  go_wp2_with fail
  have r4 := Rw.new w3 #[.slice none 0 0, .slice none 0 0, .slice none 0 0] 42
  have hb4 := ba (b0 w3) (.cells #[.slice none 0 0, .slice none 0 0, .slice none 0 0] 42)
  generalize w3.alloc (.cells #[.slice none 0 0, .slice none 0 0, .slice none 0 0] 42) = w4 at r4 hb4 ⊢
  refine (records16_v a_sch a_wy a_rep rfl (some ⟨w.heap.size, 0, none⟩) (some ⟨w3.heap.size, 0, none⟩) 2 1 1 [⟨[], [], []⟩] _ (-1) w4 (Rw.sl (HR3.out.below hb4) 2 4 rfl (by decide)) (ColsR.one r4) (by simp) (by simp)).mono ?_
  rintro e w5 ⟨x, a', c', ys', er, rfl, _, _, hb5, hq, _⟩
  obtain ⟨rfl, rfl⟩ := hq (.inl (by decide))
  have HB5 := Lib.hid (bt (bt HB3.out hb4) hb5)
  clear hb4 hb5 hq r4 HR3 HB3
  go_wp2_with fail
  go_ret
  exact ⟨rfl, HB5.out⟩
 ·exact absurd a_good (hno [])
end Go.Proofs.Ytjbkjfefjhbolaa
namespace Go.Proofs.Ytjbkjfefjhbolaa
open Go.RowKit Go.Shr
theorem Good.dlen {l : List Fl} {sh : Sh} {L : List Cl} {n : Int} {x : List Tr} (h : Good l sh L n x) : ∀ X ∈ L, X.d.length ≤ 1000000 := by
 intro X hX
 obtain ⟨k, hk, rfl⟩ := List.getElem_of_mem hX
 have hm : manyC (leafs l l.length) sh x = false := by
  have h1 := h.1
  unfold colsE at h1
  by_cases hmc : manyC (leafs l l.length) sh x = true
  ·rw [if_pos hmc] at h1
   split at h1
   ·omega
   ·split at h1
    ·rename_i hne
     exact absurd h1 hne
    ·omega
  ·exact Bool.eq_false_iff.2 hmc
 have hkl : k < (leafs l l.length).length := by rw [← h.len]; exact hk
 rw [h.col k hk]
 have h2 := List.any_eq_false.1 hm _ (List.getElem_mem (l := leafs l l.length) (n := k) hkl)
 have he : (leafs l l.length).getD k 0 = (leafs l l.length)[k] := by simp [List.getD, hkl]
 rw [he]
 simp at h2
 simp [clC]
 omega
theorem Good.slen {l : List Fl} {sh : Sh} {L : List Cl} {n : Int} {x : List Tr} (hS : Sch l sh) (h : Good l sh L n x) : ∀ X ∈ L, ∀ v ∈ X.v, v.s.size ≤ maxLen := by
 intro X hX v hv
 obtain ⟨k, hk, rfl⟩ := List.getElem_of_mem hX
 have := h.short hS k hk v hv
 unfold maxLen; omega
theorem rowB {w w' : World} {x : List Tr} {ys : List Value} (h : RowG (fun b => b < w.heap.size) w x ys) (hb : Below w.heap.size w w') : RowG (fun b => b < w'.heap.size) w' x ys :=
 h.go (Chg.ofBelow hb) (fun k hk _ => ⟨Nat.not_le_of_lt hk, Nat.lt_of_lt_of_le hk hb.size⟩)
theorem made_good {l : List Fl} {sh : Sh} {x : List Tr} (h : colsE l sh x = 0) : Good l sh (colsL l sh x) x.length x := ⟨h, rfl, rfl⟩
set_option maxHeartbeats 1000000 in
set_option maxRecDepth 100000 in
theorem law_back (a0 : Option Addr) (n0 c0 : Nat) (z0 : List Int) (a1 : Option Addr) (n1 c1 : Nat) (zz : List (List Int)) (xs1 : List Value) (w : World) (h0 : Sl (fun b => b < w.heap.size) w 1 a0 n0 c0 (ints z0)) (w0 : ∀ z ∈ z0, (Lit.int .i64 z).wf = true) (h1 : Sl (fun b => b < w.heap.size) w 1 a1 n1 c1 xs1) (h1r : IRows w zz xs1) (w1 : ∀ z ∈ zz, ∀ v ∈ z, (Lit.int .i64 v).wf = true) :
  Calls Try.prog 3 #[.slice a0 n0 c0, .slice a1 n1 c1] w fun e w' => e = .returned (.bool true) ∧ Below w.heap.size w w' := by
 have H0 := Lib.hid h0; have H1 := Lib.hid h1; have HR := Lib.hid h1r; have W0 := Lib.hid w0; have W1 := Lib.hid w1
 clear h0 h1 h1r w0 w1
 go_enter Try.func3, Try.ntmps3
 go_wp2_with fail
 refine (known16 _).mono ?_
 rintro e w1 ⟨rfl, hb1⟩
 have HB1 := Lib.hid hb1; clear hb1
 go_wp2_with fail
 refine (make5 a0 n0 c0 z0 w1 (slb H0.out HB1.out) W0.out).mono ?_
 rintro e w2 ⟨a, cap, rfl, ho, hb2⟩
 have HSC := Lib.hid (Sl.mono (ok' := fun b => b < w2.heap.size) ho.sl (fun k hk _ => hk) (by decide))
 have HB2 := Lib.hid (bt HB1.out hb2)
 clear ho hb2
 go_wp2_with fail
 refine (many_v (makeL z0) (makeSh z0) (make_sch z0) a cap a1 n1 c1 zz xs1 w2 HSC.out (slb H1.out HB2.out) (HR.out.below HB2.out) W1.out).mono ?_
 rintro e w3 ⟨al, cl, ys, rfl, hsl, hrow, hb3⟩
 have HB3 := Lib.hid (bt HB2.out hb3); have HSC3 := Lib.hid (slb HSC.out hb3)
 have HSL := Lib.hid (hsl.mono (ok' := fun b => b < w3.heap.size) (fun k hk _ => hk) (by decide))
 have HROW := Lib.hid (RowAt.g _ _ hrow.at)
 have hx16 := manyT_len (makeSh z0) zz
 have HSCH := Lib.hid (make_sch z0)
 have HZ := Lib.hid (made_colsE (make_sch z0) (make_hgt z0) (many_ok14 W1.out (makeSh z0)) (many_th z0 zz) hx16)
 have HWY := Lib.hid (make_wy z0); have HRP := Lib.hid (make_rep z0); have HR0 := Lib.hid (makeSh_good z0).2.2.1; have HH := Lib.hid (make_hgt z0)
 have hl14 := (make_len z0).2
 generalize manyT (makeSh z0) zz = x at *
 generalize makeL z0 = l at *
 generalize makeSh z0 = sh at *
 clear hsl hrow hb3 HB2 HSC HB1 H0 H1 HR W0 W1
 go_wp2_with fail
 refine (RCols_v HSCH.out HH.out HR0.out HRP.out x a al cap cl ys w3 HSC3.out HSL.out HROW.out).mono ?_
 intro e w4 hq
 obtain ⟨ca, cn, cc, xs, rfl, hcol, hb4⟩ := CQ.ofR hq
 have HG := Lib.hid (made_good HZ.out)
 have HB4 := Lib.hid (bt HB3.out hb4); have HSC4 := Lib.hid (slb HSC3.out hb4); have HCOL := Lib.hid hcol
 have HSL4 := Lib.hid (slb HSL.out hb4); have HROW4 := Lib.hid (rowB HROW.out hb4)
 clear hq hcol hb4 HB3 HSC3 HSL HROW
 go_wp2_with fail
 refine (records16_v HSCH.out HWY.out HRP.out HR0.out a ca cap cn cc (colsL l sh x) xs (x.length : Int) w4 HSC4.out HCOL.out HG.out.dlen (HG.out.slen HSCH.out)).mono ?_
 rintro e w5 ⟨y, ya, yc, zs, er, rfl, hsl, hrow, hb5, _, hq⟩
 obtain ⟨rfl, hg, hu⟩ | ⟨_, _, hno⟩ := hq (by rw [HG.out.len]; omega)
 ·obtain rfl := hu x HG.out
  have HB5 := Lib.hid (bt HB4.out hb5)
  have HX := Lib.hid (Sl.mono (ok' := fun b => b < w5.heap.size) hsl (fun k hk _ => hk) (by decide)); have HXR := Lib.hid hrow.at
  have HY := Lib.hid (slb HSL4.out hb5); have HYR := Lib.hid (RowG.at (rowB HROW4.out hb5))
  clear hsl hrow hb5 hq hu hg HB4 HSC4 HCOL HSL4 HROW4
  go_wp2_with fail
  refine (trees_v x x ya yc zs al cl ys w5 HX.out HXR.out HY.out HYR.out).mono ?_
  rintro e w6 ⟨rfl, hb6⟩
  rw [sameL_refl]
  have HB6 := Lib.hid (bt HB5.out hb6)
  clear hb6 HX HXR HY HYR
  go_wp2_with fail
  go_ret
  exact ⟨rfl, HB6.out⟩
 ·exact absurd HG.out (hno x)
end Go.Proofs.Ytjbkjfefjhbolaa
