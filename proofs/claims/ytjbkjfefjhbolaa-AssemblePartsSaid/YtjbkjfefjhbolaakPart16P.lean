import Derived.Test.YtjbkjfefjhbolaakKnown16
import Derived.Test.YtjbkjfefjhbolaakWith16
set_option linter.unusedSimpArgs false
set_option linter.unusedVariables false
namespace Go.Proofs.Ytjbkjfefjhbolaa
open Go.RowKit Go.Shr
theorem DeepC.cnt {d : Nat} {C : List Cel} (h : DeepC 0 0 d C) : C.countP (fun c => decide (c.r = 0)) = 1 := by
 obtain ⟨c, cs, rfl, h1, _, h3⟩ := h
 rw [List.countP_cons]
 have : cs.countP (fun c => decide (c.r = 0)) = 0 := List.countP_eq_zero.2 (fun x hx => by have := h3 x hx; simp; omega)
 rw [this]
 simp [h1]
theorem rows_cnt0 {l : List Fl} {sh : Sh} (hS : Sch l sh) {lf : Nat} (hlf : lf < l.length) (hk : (flN l lf).kind ≠ 0) : ∀ (x : List Tr), (∀ t ∈ x, fsT sh t) → (rowsC lf sh x).countP (fun c => decide (c.r = 0)) = x.length
 | [], _ => by simp [rowsC]
 | t :: x, h => by
  have h1 := rows_cnt0 hS hlf hk x (fun u hu => h u (by simp [hu]))
  have h2 := (valC_deep (K := KF l) hk sh 0 0 0 0 t hS.ix hS.good (h t (by simp)) (Nat.zero_le _) (by rw [Nat.zero_add, ← hS.len]; exact hlf)).cnt
  unfold rowsC at h1 ⊢
  rw [List.flatMap_cons, List.countP_append, h1, h2, List.length_cons, Nat.add_comm]
theorem Good.same {l : List Fl} {sh : Sh} {L : List Cl} {n n' : Int} {x y : List Tr} (hS : Sch l sh) (h : Good l sh L n x) (h' : Good l sh L n' y) : x.length = y.length := by
 have hp := hS.leafs_pos
 have hk : 0 < L.length := by rw [h.len]; exact hp
 have hm := leafs_mem.1 (List.getElem_mem (l := leafs l l.length) (n := 0) hp)
 have hlf : (leafs l l.length).getD 0 0 = (leafs l l.length)[0] := by simp [List.getD, hp]
 have e1 := h.col 0 hk
 rw [h'.col 0 hk] at e1
 rw [hlf] at e1
 have e2 := congrArg (fun c : Cl => c.r.countP (fun z => decide (z = 0))) e1
 simp only [clC, List.countP_map] at e2
 have hf : ((fun z : Int => decide (z = 0)) ∘ fun c : Cel => (c.r : Int)) = fun c : Cel => decide (c.r = 0) := by
  funext c
  simp
 rw [hf, rows_cnt0 hS hm.1 hm.2 x (h.fs hS), rows_cnt0 hS hm.1 hm.2 y (h'.fs hS)] at e2
 exact e2.symm
end Go.Proofs.Ytjbkjfefjhbolaa
namespace Go.Proofs.Ytjbkjfefjhbolaa
open Go.RowKit Go.Shr
theorem rowG_part16 {ok : Nat → Prop} {w : World} : ∀ (i k : Nat) {l : List Tr} {ys : List Value}, RowG ok w l ys → RowG ok w ((l.drop i).take k) ((ys.drop (i * 3)).take (k * 3))
 | 0, 0, l, ys, _ => by simp [RowG]
 | 0, k + 1, [], ys, h => by simp only [RowG] at h; subst h; simp [RowG]
 | 0, k + 1, t :: r, ys, h => by
  simp only [RowG] at h
  obtain ⟨c0, c1, c2, yr, rfl, h1, h2⟩ := h
  have := rowG_part16 0 k h2
  simp only [Nat.zero_mul, List.drop_zero] at this ⊢
  rw [show (k + 1) * 3 = k * 3 + 1 + 1 + 1 by omega]
  simp only [List.take_succ_cons, RowG]
  exact ⟨c0, c1, c2, _, rfl, h1, this⟩
 | i + 1, k, [], ys, h => by simp only [RowG] at h; subst h; simp [RowG]
 | i + 1, k, t :: r, ys, h => by
  simp only [RowG] at h
  obtain ⟨c0, c1, c2, yr, rfl, h1, h2⟩ := h
  have := rowG_part16 i k h2
  rw [show (i + 1) * 3 = i * 3 + 1 + 1 + 1 by omega]
  simpa using this
set_option maxHeartbeats 1000000 in
set_option maxRecDepth 100000 in
theorem law_parts (a0 : Option Addr) (n0 c0 : Nat) (z0 : List Int) (a1 : Option Addr) (n1 c1 : Nat) (zz : List (List Int)) (xs1 : List Value) (n2 n3 : Int) (w : World) (h0 : Sl (fun b => b < w.heap.size) w 1 a0 n0 c0 (ints z0)) (w0 : ∀ z ∈ z0, (Lit.int .i64 z).wf = true) (h1 : Sl (fun b => b < w.heap.size) w 1 a1 n1 c1 xs1) (h1r : IRows w zz xs1) (w1 : ∀ z ∈ zz, ∀ v ∈ z, (Lit.int .i64 v).wf = true) (w2 : (Lit.int .i64 n2).wf = true) (w3 : (Lit.int .i64 n3).wf = true) :
  Calls Try.prog 6 #[.slice a0 n0 c0, .slice a1 n1 c1, .int .i64 n2, .int .i64 n3] w fun e w' => e = .returned (.bool true) ∧ Below w.heap.size w w' := by
 have H0 := Lib.hid h0; have H1 := Lib.hid h1; have HR := Lib.hid h1r; have W0 := Lib.hid w0; have W1 := Lib.hid w1
 clear h0 h1 h1r w0 w1 w2 w3
 go_enter Try.func6, Try.ntmps6
 go_wp2_with fail
 refine (known16 _).mono ?_
 rintro e w1 ⟨rfl, hb1⟩
 have HB1 := Lib.hid hb1; clear hb1
 go_wp2_with fail
 refine (make5 a0 n0 c0 z0 w1 (slb H0.out HB1.out) W0.out).mono ?_
 rintro e w2 ⟨a, cap, rfl, ho, hb2⟩
 have HSC := Lib.hid (Sl.mono (ok' := fun b => b < w2.heap.size) ho.sl (fun k hk _ => hk) (by decide))
 have HB2 := Lib.hid (bt HB1.out hb2)
 clear ho hb2
 go_wp2_with fail
 refine (many_v (makeL z0) (makeSh z0) (make_sch z0) a cap a1 n1 c1 zz xs1 w2 HSC.out (slb H1.out HB2.out) (HR.out.below HB2.out) W1.out).mono ?_
 rintro e w3 ⟨al, cl, ys, rfl, hsl, hrow, hb3⟩
 have HB3 := Lib.hid (bt HB2.out hb3); have HSC3 := Lib.hid (slb HSC.out hb3)
 have HSL := Lib.hid (hsl.mono (ok' := fun b => b < w3.heap.size) (fun k hk _ => hk) (by decide))
 have HROW := Lib.hid (RowAt.g _ _ hrow.at)
 have hx16 := manyT_len (makeSh z0) zz
 have HSCH := Lib.hid (make_sch z0)
 have HOT := Lib.hid (many_ok14 W1.out (makeSh z0)); have HTH := Lib.hid (many_th z0 zz)
 have HWY := Lib.hid (make_wy z0); have HRP := Lib.hid (make_rep z0); have HR0 := Lib.hid (makeSh_good z0).2.2.1; have HH := Lib.hid (make_hgt z0)
 have hl14 := (make_len z0).2
 generalize manyT (makeSh z0) zz = x at *
 generalize makeL z0 = l at *
 generalize makeSh z0 = sh at *
 clear hsl hrow hb3 HB2 HSC HB1 H0 H1 HR W0 W1
 have hq1 : IntKind.i64.wrap ((x.length : Int) + 1) = (x.length : Int) + 1 := by rw [IntKind.wrap_i64]; omega
 go_wp2_with fail
 try rw [hq1]
 refine (within_16 n2 ((x.length : Int) + 1) w3 (by omega) (by omega)).mono ?_
 rintro e w9 ⟨rfl, rfl⟩
 obtain ⟨f, hf⟩ : ∃ f : Nat, (f : Int) = n2 % ((x.length : Int) + 1) := ⟨(n2 % ((x.length : Int) + 1)).toNat, by have := Int.emod_nonneg n2 (show ((x.length : Int) + 1) ≠ 0 by omega); omega⟩
 have hfl : f ≤ x.length := by have := Int.emod_lt_of_pos n2 (show (0 : Int) < (x.length : Int) + 1 by omega); omega
 rw [← hf]
 clear hf hq1
 have hq2 : IntKind.i64.wrap (IntKind.i64.wrap ((x.length : Int) - f) + 1) = (x.length : Int) - f + 1 := by rw [IntKind.wrap_i64, IntKind.wrap_i64]; omega
 go_wp2_with fail
 try rw [hq2]
 refine (within_16 n3 ((x.length : Int) - f + 1) w3 (by omega) (by omega)).mono ?_
 rintro e w9 ⟨rfl, rfl⟩
 obtain ⟨k, hk⟩ : ∃ k : Nat, (k : Int) = n3 % ((x.length : Int) - f + 1) := ⟨(n3 % ((x.length : Int) - f + 1)).toNat, by have := Int.emod_nonneg n3 (show ((x.length : Int) - f + 1) ≠ 0 by omega); omega⟩
 have hkl : f + k ≤ x.length := by have := Int.emod_lt_of_pos n3 (show (0 : Int) < (x.length : Int) - f + 1 by omega); omega
 rw [← hk]
 clear hk hq2
 have hq3 : IntKind.i64.wrap ((f : Int) + k) = ((f + k : Nat) : Int) := by rw [IntKind.wrap_i64]; omega
 obtain ⟨ap, hrun, hsp⟩ := Sl.part (P := Try.prog) (t := 28) (e := 57) Try.underlying28 (info_parts info_tr).choose_spec.1 (info_parts info_tr).choose_spec.2.2.1 HSL.out .i64 .i64 (f : Int) ((f + k : Nat) : Int) (by omega) (by omega) (by omega)
 rw [show ((f + k : Nat) : Int).toNat - ((f : Nat) : Int).toNat = k by omega, show ((f : Nat) : Int).toNat = f by omega] at hrun hsp
 have hgp := rowG_part16 f k HROW.out
 have hyl : ((x.drop f).take k).length = k := by simp; omega
 have hym : ∀ t ∈ (x.drop f).take k, t ∈ x := fun t ht => List.mem_of_mem_drop (List.mem_of_mem_take ht)
 have HOTY := Lib.hid (fun t ht => HOT.out t (hym t ht)); have HTHY := Lib.hid (fun t ht => HTH.out t (hym t ht))
 generalize (x.drop f).take k = y at *
 subst hyl
 have HZ := Lib.hid (made_colsE HSCH.out HH.out HOTY.out HTHY.out (by omega))
 have HG := Lib.hid (made_good HZ.out)
 have HSP := Lib.hid hsp; have HGP := Lib.hid hgp
 clear hsp hgp hym HOTY HTHY HOT HTH HZ
 obtain ⟨g, hg⟩ : ∃ g : Nat, g = f + y.length := ⟨_, rfl⟩
 have hgi : (g : Int) - f = y.length := by omega
 have hgs : (f : Int) + (y.length : Int) = (g : Int) := by omega
 rw [← hg] at hrun hq3
 have hs1 : IntKind.i64.wrap ((g : Int) - f) = (y.length : Int) := by rw [IntKind.wrap_i64]; omega
 have hs2 : IntKind.i64.wrap ((y.length : Int) + 1) = (y.length : Int) + 1 := by rw [IntKind.wrap_i64]; omega
 have hgf : f ≤ g := by omega
 have hgm : g ≤ x.length := by omega
 have HS1 := Lib.hid hs1; have HS2 := Lib.hid hs2
 clear hg hgi hs1 hs2
 go_upto_region 7 with fail
 try rw [hq3]
 try rw [hgs]
 clear hq3 hgs
 go_wp2_with fail
 refine (RCols_v HSCH.out HH.out HR0.out HRP.out y a ap cap (cl - f) _ w3 HSC3.out HSP.out HGP.out).mono ?_
 intro e w4 hq
 obtain ⟨ca, cn, cc, xs, rfl, hcol, hb4⟩ := CQ.ofR hq
 have HB4 := Lib.hid (bt HB3.out hb4); have HSC4 := Lib.hid (slb HSC3.out hb4); have HCOL := Lib.hid hcol
 have HSL4 := Lib.hid (slb HSP.out hb4); have HROW4 := Lib.hid (rowB HGP.out hb4)
 clear hq hcol hb4 HB3 HSC3 HSL HROW HSP HGP
 have hs1 := HS1.out
 go_wp2_with fail
 refine (records16_v HSCH.out HWY.out HRP.out HR0.out a ca cap cn cc (colsL l sh y) xs (y.length : Int) w4 HSC4.out HCOL.out HG.out.dlen (HG.out.slen HSCH.out)).mono ?_
 rintro e w5 ⟨y', ya, yc, zs, er, rfl, hsl, hrow, hb5, _, hq⟩
 obtain ⟨rfl, hgd, hu⟩ | ⟨_, _, hno⟩ := hq (by rw [HG.out.len]; omega)
 ·obtain rfl := hu y HG.out
  have HB5 := Lib.hid (bt HB4.out hb5); have HSC5 := Lib.hid (slb HSC4.out hb5); have HCOL5 := Lib.hid (HCOL.out.below hb5)
  have HX := Lib.hid (Sl.mono (ok' := fun b => b < w5.heap.size) hsl (fun k hk _ => hk) (by decide)); have HXR := Lib.hid (RowAt.g _ _ hrow.at)
  have HY := Lib.hid (slb HSL4.out hb5); have HYR := Lib.hid (rowB HROW4.out hb5)
  clear hsl hrow hb5 hq hu hgd HB4 HSC4 HCOL HSL4 HROW4
  have hs2 := HS2.out
  go_upto_region 9 with fail
  go_wp2_with fail
  refine (records16_v HSCH.out HWY.out HRP.out HR0.out a ca cap cn cc (colsL l sh y) xs ((y.length : Int) + 1) w5 HSC5.out HCOL5.out HG.out.dlen (HG.out.slen HSCH.out)).mono ?_
  rintro e w6 ⟨y', ya2, yc2, zs2, er, rfl, hsl, hrow, hb6, _, hq⟩
  clear hs1 hs2
  obtain ⟨_, hgd, _⟩ | ⟨rfl, rfl, _⟩ := hq (by rw [HG.out.len]; omega)
  ·have h1 := Good.same HSCH.out HG.out hgd
   have h2 := hgd.2.2
   omega
  ·have HB6 := Lib.hid (bt HB5.out hb6)
   have HX6 := Lib.hid (slb HX.out hb6); have HXR6 := Lib.hid (rowB HXR.out hb6).at
   have HY6 := Lib.hid (slb HY.out hb6); have HYR6 := Lib.hid (rowB HYR.out hb6).at
   clear hsl hrow hb6 hq HB5 HSC5 HCOL5 HX HXR HY HYR
   go_wp2_with fail
   refine (trees_v y y ya yc zs ap (cl - f) _ w6 HX6.out HXR6.out HY6.out HYR6.out).mono ?_
   rintro e w7 ⟨rfl, hb7⟩
   rw [sameL_refl]
   have HB7 := Lib.hid (bt HB6.out hb7)
   clear hb7 HX6 HXR6 HY6 HYR6 hrun
   go_wp2_with fail
   go_ret
   exact ⟨rfl, HB7.out⟩
 ·exact absurd HG.out (hno y)
end Go.Proofs.Ytjbkjfefjhbolaa
