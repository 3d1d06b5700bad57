import Derived.Test.YtjbkjfefjhbolaakBase
import Derived.Test.YtjbkjfefjhbolaakSchP
import Derived.Test.YtjbkjfefjhbolaakKnown16
set_option linter.unusedSimpArgs false
set_option linter.unusedVariables false
namespace Go.Proofs.Ytjbkjfefjhbolaa
open Go.RowKit Go.Shr
theorem within_16 (a n : Int) (w : World) (hn : 0 < n) (hn2 : n ≤ 1000000) : Calls Try.prog 17 #[.int .i64 a, .int .i64 n] w fun e w' => e = .returned (.int .i64 (a % n)) ∧ w = w' := by
 have h1 := Int.tmod_lt_of_pos a hn
 have h3 : -n < a.tmod n := by
  have := Int.lt_tmod_of_pos a hn
  omega
 have H := Lib.hid (tmod_fix a n hn)
 go_enter Try.func17, Try.ntmps17
 go_wp2
 ·go_ret
  exact ⟨ret_i (H.out.1 (by assumption)), rfl⟩
 ·go_ret
  exact ⟨ret_i (H.out.2 (by assumption)), rfl⟩
end Go.Proofs.Ytjbkjfefjhbolaa
namespace Go.Proofs.Ytjbkjfefjhbolaa
open Go.RowKit Go.Shr
set_option maxHeartbeats 1000000 in
set_option maxRecDepth 100000 in
theorem law_counts (a0 : Option Addr) (n0 c0 : Nat) (z0 : List Int) (a1 : Option Addr) (n1 c1 : Nat) (zz : List (List Int)) (xs1 : List Value) (n2 : Int) (w : World) (h0 : Sl (fun b => b < w.heap.size) w 1 a0 n0 c0 (ints z0)) (w0 : ∀ z ∈ z0, (Lit.int .i64 z).wf = true) (h1 : Sl (fun b => b < w.heap.size) w 1 a1 n1 c1 xs1) (h1r : IRows w zz xs1) (w1 : ∀ z ∈ zz, ∀ v ∈ z, (Lit.int .i64 v).wf = true) (w2 : (Lit.int .i64 n2).wf = true) :
  Calls Try.prog 7 #[.slice a0 n0 c0, .slice a1 n1 c1, .int .i64 n2] w fun e w' => e = .returned (.bool true) ∧ Below w.heap.size w w' := by
 obtain ⟨ic, hic, hz0c, hz1c, hz2c⟩ := info_parts info_cl14
 have hk0 := Int.emod_nonneg n2 (show (99 : Int) ≠ 0 by decide)
 have hk1 := Int.emod_lt_of_pos n2 (show (0 : Int) < 99 by decide)
 have H0 := Lib.hid h0; have H1 := Lib.hid h1; have HR := Lib.hid h1r; have W0 := Lib.hid w0; have W1 := Lib.hid w1
 clear h0 h1 h1r w0 w1
 go_enter Try.func7, Try.ntmps7
 go_wp2_with fail
 refine (known16 _).mono ?_
 rintro e w1 ⟨rfl, hb1⟩
 have HB1 := Lib.hid hb1; clear hb1
 go_wp2_with fail
 refine (make5 a0 n0 c0 z0 w1 (slb H0.out HB1.out) W0.out).mono ?_
 rintro e w2 ⟨a, cap, rfl, ho, hb2⟩
 have HSC := Lib.hid (Sl.mono (ok' := fun b => b < w2.heap.size) ho.sl (fun k hk _ => hk) (by decide))
 have HB2 := Lib.hid (bt HB1.out hb2)
 clear ho hb2
 go_wp2_with fail
 refine (many_v (makeL z0) (makeSh z0) (make_sch z0) a cap a1 n1 c1 zz xs1 w2 HSC.out (slb H1.out HB2.out) (HR.out.below HB2.out) W1.out).mono ?_
 rintro e w3 ⟨al, cl, ys, rfl, hsl, hrow, hb3⟩
 have HB3 := Lib.hid (bt HB2.out hb3); have HSC3 := Lib.hid (slb HSC.out hb3)
 have HSL := Lib.hid (hsl.mono (ok' := fun b => b < w3.heap.size) (fun k hk _ => hk) (by decide))
 have HROW := Lib.hid (RowAt.g _ _ hrow.at)
 have hx16 := manyT_len (makeSh z0) zz
 have HSCH := Lib.hid (make_sch z0)
 have HZ := Lib.hid (made_colsE (make_sch z0) (make_hgt z0) (many_ok14 W1.out (makeSh z0)) (many_th z0 zz) hx16)
 have HWY := Lib.hid (make_wy z0); have HRP := Lib.hid (make_rep z0); have HR0 := Lib.hid (makeSh_good z0).2.2.1; have HH := Lib.hid (make_hgt z0)
 have hl14 := (make_len z0).2
 generalize manyT (makeSh z0) zz = x at *
 generalize makeL z0 = l at *
 generalize makeSh z0 = sh at *
 clear hsl hrow hb3 HB2 HSC HB1 H0 H1 HR W0 W1
 go_wp2_with fail
 refine (RCols_v HSCH.out HH.out HR0.out HRP.out x a al cap cl ys w3 HSC3.out HSL.out HROW.out).mono ?_
 intro e w4 hq
 obtain ⟨ca, cn, cc, xs, rfl, hcol, hb4⟩ := CQ.ofR hq
 have HG := Lib.hid (made_good HZ.out)
 have HB4 := Lib.hid (bt HB3.out hb4); have HSC4 := Lib.hid (slb HSC3.out hb4); have HCOL := Lib.hid hcol
 have hcn : cn ≤ 1000 := by have h1 := HCOL.out.n; have h2 := HG.out.len; have h3 := leafs_max HSCH.out; omega
 have hlp := HSCH.out.leafs_pos
 have HLE := Lib.hid HG.out.len
 have HDL := Lib.hid HG.out.dlen; have HSLN := Lib.hid (HG.out.slen HSCH.out)
 have hx200 : x.length ≤ 200 := by omega
 have HLP := Lib.hid hlp
 clear hlp hq hcol hb4 HB3 HSC3 HSL HROW HG HZ HH
 have HS1 := Lib.hid ((slb HCOL.out.sl (ba (b0 w4) (.cells #[] 42))).src (P := Try.prog) (tx := 30) Try.underlying30 (HdG.one HCOL.out.hd))
 have tok1 : True := trivial
 have tok2 : True := trivial
 go_wp2_with (first
  | (at_builtin; have _t := tok1; clear tok1; clear _t; refine wpList_fresh (B := w4.heap.size) rfl _ _ _ _ rfl ic (.agg #[.slice none 0 0, .slice none 0 0, .slice none 0 0]) 72 Try.underlying30 hic hz0c hz1c hz2c rfl rfl _ rfl _ _ HS1.out (by simp only [maxLen]; omega) (by omega) (by first | omega | (simp; omega) | simp) ?_; intro a5 cap5 w5 ho5 hb5 hn5; (have HB5 := Lib.hid (bt (ba (b0 w4) (.cells #[] 42)) hb5)); (have hz5 := HB5.out.size); (have HO5 := Lib.hid (ho5.alloc (.cells #[.slice none 0 0, .slice none 0 0, .slice none 0 0] 42))); (have HS2 := Lib.hid (src_rw (P := Try.prog) (tx := 30) Try.underlying30 (Rw.new w5 #[.slice none 0 0, .slice none 0 0, .slice none 0 0] 42) 1 3 rfl (by decide))); clear ho5 hb5 hn5)
  | (at_builtin; have _t := tok2; clear tok2; clear _t; refine wpList_append (B := w4.heap.size) rfl _ _ _ _ rfl ic (.agg #[.slice none 0 0, .slice none 0 0, .slice none 0 0]) 72 Try.underlying30 hic hz0c hz1c hz2c rfl rfl HO5.out _ rfl _ _ HS2.out (by simp only [maxLen]; omega) (by omega) (by first | omega | (simp; omega) | simp) ?_; intro a6 cap6 w6 ho6 hc6 hn6)
  | fail)
 have hb6 : Below w4.heap.size w4 w6 := Chg.bt (bt HB5.out (ba (b0 w5) _)) hc6 (fun i hi h => by have := h.2.1; omega)
 have hs6 := ho6.sl.mono (ok' := fun b => b < w6.heap.size) (fun k hk _ => hk) (by decide)
 have HCOL6 : Hid (ColsR w6 a6 (cn + 1) cap6 (colsL l sh x ++ [⟨[], [], []⟩]) (xs ++ [.slice none 0 0, .slice none 0 0, .slice none 0 0])) := Lib.hid ⟨hs6, HdG.snoc (c := ⟨[], [], []⟩) ⟨Sl.nil _ _ _ _, Sl.nil _ _ _ _, Sl.nil _ _ _ _⟩ (HCOL.out.hd.below hb6)⟩
 have HB6 := Lib.hid (bt HB4.out hb6); have HSC6 := Lib.hid (slb HSC4.out hb6); have HCO6 := Lib.hid (HCOL.out.below hb6)
 clear hs6 hb6 ho6 hc6 hn6 HO5 HS1 HS2 HB5 HB4 HSC4 HCOL
 refine (records16_v HSCH.out HWY.out HRP.out HR0.out a a6 cap (cn + 1) cap6 _ _ (x.length : Int) w6 HSC6.out HCOL6.out (fun X hX => ?_) (fun X hX => ?_)).mono ?_
 ·rcases List.mem_append.1 hX with h | h
  ·exact HDL.out X h
  ·rw [List.mem_singleton.1 h]; simp
 ·rcases List.mem_append.1 hX with h | h
  ·exact HSLN.out X h
  ·rw [List.mem_singleton.1 h]; simp
 rintro e w7 ⟨y, ya, yc, zs, er, rfl, hsl, hrow, hb7, hq, _⟩
 obtain ⟨rfl, rfl⟩ := hq (.inr (.inr (by rw [List.length_append, HLE.out]; simp)))
 have HB7 := Lib.hid (bt HB6.out hb7); have HSC7 := Lib.hid (slb HSC6.out hb7); have HCO7 := Lib.hid (HCO6.out.below hb7)
 clear hsl hrow hb7 hq HB6 HSC6 HCO6 HCOL6
 go_wp2_with fail
 refine (records16_v HSCH.out HWY.out HRP.out HR0.out a none cap 0 0 [] [] (x.length : Int) w7 HSC7.out (ColsR.nil _ _) (by simp) (by simp)).mono ?_
 rintro e w8 ⟨y, ya2, yc2, zs2, er, rfl, hsl, hrow, hb8, hq, _⟩
 obtain ⟨rfl, rfl⟩ := hq (.inr (.inr (by have := HLP.out; simp only [List.length_nil]; omega)))
 have HB8 := Lib.hid (bt HB7.out hb8); have HSC8 := Lib.hid (slb HSC7.out hb8); have HCO8 := Lib.hid (HCO7.out.below hb8)
 clear hsl hrow hb8 hq HB7 HSC7 HCO7
 go_wp2_with fail
 refine (within_16 n2 99 w8 (by decide) (by decide)).mono ?_
 rintro e w9 ⟨rfl, rfl⟩
 have hw1 : IntKind.i64.wrap (201 + n2 % 99) = 201 + n2 % 99 := by rw [IntKind.wrap_i64]; omega
 have hw2 : IntKind.i64.wrap (-1 - n2 % 99) = -1 - n2 % 99 := by rw [IntKind.wrap_i64]; omega
 go_wp2_with fail
 try rw [hw1]
 refine (records16_v HSCH.out HWY.out HRP.out HR0.out a ca cap cn cc (colsL l sh x) xs (201 + n2 % 99) w8 HSC8.out HCO8.out HDL.out HSLN.out).mono ?_
 rintro e w10 ⟨y, ya3, yc3, zs3, er, rfl, hsl, hrow, hb10, hq, _⟩
 obtain ⟨rfl, rfl⟩ := hq (.inr (.inl (by omega)))
 have HB10 := Lib.hid (bt HB8.out hb10); have HSC10 := Lib.hid (slb HSC8.out hb10); have HCO10 := Lib.hid (HCO8.out.below hb10)
 clear hsl hrow hb10 hq HB8 HSC8 HCO8
 go_wp2_with fail
 refine (within_16 n2 99 w10 (by decide) (by decide)).mono ?_
 rintro e w9 ⟨rfl, rfl⟩
 go_wp2_with fail
 try rw [hw2]
 refine (records16_v HSCH.out HWY.out HRP.out HR0.out a ca cap cn cc (colsL l sh x) xs (-1 - n2 % 99) w10 HSC10.out HCO10.out HDL.out HSLN.out).mono ?_
 rintro e w11 ⟨y, ya4, yc4, zs4, er, rfl, hsl, hrow, hb11, hq, _⟩
 obtain ⟨rfl, rfl⟩ := hq (.inl (by omega))
 have HB11 := Lib.hid (bt HB10.out hb11)
 clear hsl hrow hb11 hq HB10 HSC10 HCO10
 go_wp2_with fail
 go_ret
 exact ⟨rfl, HB11.out⟩
end Go.Proofs.Ytjbkjfefjhbolaa
