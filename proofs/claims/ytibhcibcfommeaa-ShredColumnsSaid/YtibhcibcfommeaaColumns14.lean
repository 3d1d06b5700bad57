/-
  The walks of deep, of Few: they answer, whatever the tree is. The walk of ShredColumns.
-/
import Derived.Test.YtibhcibcfommeaaMany9
import Derived.Test.YtibhcibcfommeaaColR14
import Derived.Test.YtibhcibcfommeaaMkC14
set_option linter.unusedSimpArgs false
namespace Go.Proofs.Ytibhcibcfommeaa
open Go.RowKit Go.Shr
def DeepTo (N : Nat) : Prop := ∀ (t : Tr) (a : Option Addr) (cap : Nat) (w : World), TrAt w t [.int .i64 t.n, .string t.s, .slice a t.kids.length cap] →
  Calls Try.prog 29 #[.agg #[.int .i64 t.n, .string t.s, .slice a t.kids.length cap], .int .i64 (N : Int)] w fun e w' => (∃ z, e = .returned (.int .i64 z)) ∧ Below w.heap.size w w'
set_option maxHeartbeats 4000000 in
set_option maxRecDepth 100000 in
theorem deep_zero : DeepTo 0 := by
  intro t a cap w hT
  go_enter Try.func29, Try.ntmps29
  go_wp2_with fail
  go_ret
  exact ⟨⟨_, rfl⟩, ba (b0 w) _⟩
set_option maxHeartbeats 4000000 in
set_option maxRecDepth 100000 in
theorem deep_step (N : Nat) (hN : N ≤ 12) (IH : DeepTo N) : DeepTo (N + 1) := by
  intro t a cap w hT
  obtain ⟨a0, m0, cap0, xs, hcs, hm, hs, hsl, hk⟩ := hT.parts
  simp at hcs
  obtain ⟨rfl, rfl, rfl⟩ := hcs
  have hmx := Nat.le_trans hsl.le hsl.max
  unfold maxLen at hmx
  have hN0 : ((N + 1 : Nat) : Int) ≠ 0 := by omega
  have hNb : (((N + 1 : Nat) : Int) == 0) = false := beq_eq_false_iff_ne.2 hN0
  have HSL := Lib.hid hsl; have HK := Lib.hid hk; have HIH := Lib.hid IH
  have hNs : IntKind.i64.wrap (((N + 1 : Nat) : Int) - 1) = (N : Int) := by rw [IntKind.wrap_i64]; omega
  have HNS := Lib.hid hNs
  generalize hM : ((N + 1 : Nat) : Int) = M at *
  clear hsl hk IH hT hm hM hNs hs
  by_cases hss : 150 < t.s.size
  · have hss' : (150 : Int) < (t.s.size : Int) := by omega
    go_enter Try.func29, Try.ntmps29
    go_wp2_with fail
    go_ret
    exact ⟨⟨_, rfl⟩, ba (b0 w) _⟩
  have hss' : ¬ (150 : Int) < (t.s.size : Int) := by omega
  go_enter Try.func29, Try.ntmps29
  go_wp2_with fail
  clear hss hss' hN0 hNb
  go_loopw [5, 6] (fun nv iv wr => ∃ (j : Nat) (z : Int), nv = .int .i64 z ∧ iv = .int .i64 (j : Int) ∧ j ≤ t.kids.length ∧ Hid (Below w.heap.size w wr) ∧ Hid (Rw wr w.heap.size #[.int .i64 t.n, .string t.s, .slice a t.kids.length cap] 29)) (fun _ iv _ => t.kids.length - (intOf iv).toNat)
  case atStart => exact ⟨0, 1, rfl, rfl, Nat.zero_le _, Lib.hid (ba (b0 w) _), Lib.hid (Rw.new w _ _)⟩
  case round =>
    obtain ⟨j, z, rfl, rfl, hj, HB, HBX⟩ := hrel
    have z2 : wr.cell? ⟨w.heap.size, 2, none⟩ = some (.slice a t.kids.length cap) := HBX.out.cell 2
    by_cases hlt : j < t.kids.length
    · obtain ⟨xb, xoff, rfl, hxb, hxc⟩ := HSL.out.pos (by omega)
      obtain ⟨la, lcap, ys, g0, hys, hrow⟩ := HK.out.get j hlt
      have g0w := hxc _ _ g0
      replace g0 := cb HB.out g0w
      have hmx2 := Nat.le_trans hys.le hys.max
      unfold maxLen at hmx2
      generalize t.kids[j] = l at *
      have HG0 := Lib.hid g0w
      clear g0w
      have HYS := Lib.hid hys; have HROW := Lib.hid hrow
      clear hxc hys hrow
      go_wp2_with fail
      obtain ⟨wo, rfl⟩ : ∃ wo : World, wo = wr := ⟨_, rfl⟩
      go_loopw [5, 7] (fun nv iv wr => ∃ (k : Nat) (z : Int), nv = .int .i64 z ∧ iv = .int .i64 (k : Int) ∧ k ≤ l.length ∧ Hid (Below w.heap.size w wr) ∧ Hid (Rw wr w.heap.size #[.int .i64 t.n, .string t.s, .slice (some ⟨xb, xoff, none⟩) t.kids.length cap] 29)) (fun _ iv _ => l.length - (intOf iv).toNat)
      case atStart => exact ⟨0, z, rfl, rfl, Nat.zero_le _, HB, HBX⟩
      case round =>
        clear g0 z2
        obtain ⟨k, z, rfl, rfl, hk, HB2, HBX2⟩ := hrel
        have z2 : wr.cell? ⟨w.heap.size, 2, none⟩ = some (.slice (some ⟨xb, xoff, none⟩) t.kids.length cap) := HBX2.out.cell 2
        have G0 := cb HB2.out HG0.out
        by_cases hkl : k < l.length
        · obtain ⟨yb, yoff, rfl, hyb, hyc⟩ := HYS.out.pos (by omega)
          obtain ⟨ka, _, kcap, kxs, g0, g1, g2, rfl, hks, hsl, hkid⟩ := HROW.out.get k hkl
          have hTk : TrAt w l[k] [.int .i64 l[k].n, .string l[k].s, .slice ka l[k].kids.length kcap] := TrAt.mk' hks hsl hkid
          replace g0 := cb HB2.out (hyc _ _ g0); replace g1 := cb HB2.out (hyc _ _ g1); replace g2 := cb HB2.out (hyc _ _ g2)
          rw [← Nat.add_assoc] at g1 g2
          have HT := Lib.hid hTk
          have hNs := HNS.out
          generalize l[k] = x at *
          clear hyc hks hsl hkid hTk
          go_wp2_with fail
          refine (HIH.out x ka kcap wr (TrAt.below HB2.out _ _ HT.out)).mono ?_
          rintro e w2 ⟨⟨zz, rfl⟩, hb2⟩
          have HB3 := Lib.hid (bt HB2.out hb2)
          have HBX3 := Lib.hid (HBX2.out.below hb2)
          clear hb2 hNs
          go_wp2_with fail
          go_roundw
          case rel => exact ⟨k + 1, _, rfl, by go_num, by omega, HB3, HBX3⟩
          case measure => simp [intOf]; omega
        · obtain rfl : k = l.length := by omega
          go_wp2_with fail
          go_roundw
          case rel => exact ⟨j + 1, _, rfl, by go_num, by omega, HB2, HBX2⟩
          case measure => simp [intOf]; omega
    · obtain rfl : j = t.kids.length := by omega
      go_wp2_with fail
      go_ret
      exact ⟨⟨_, rfl⟩, HB.out⟩
theorem deep_all : ∀ N, N ≤ 13 → DeepTo N
  | 0, _ => deep_zero
  | N + 1, h => deep_step N (by omega) (deep_all N (by omega))
theorem few_v (t : Tr) (a : Option Addr) (cap : Nat) (w : World) (hT : TrAt w t [.int .i64 t.n, .string t.s, .slice a t.kids.length cap]) :
    Calls Try.prog 13 #[.agg #[.int .i64 t.n, .string t.s, .slice a t.kids.length cap]] w fun e w' => (∃ b, e = .returned (.bool b)) ∧ Below w.heap.size w w' := by
  have HT := Lib.hid hT; clear hT
  go_enter Try.func13, Try.ntmps13
  go_wp2_with fail
  refine cgen (fun wx hwx => ?_)
  have hbx : Below w.heap.size w wx := by rw [hwx]; exact ba (b0 w) _
  clear hwx
  refine (deep_all 12 (by decide) t a cap wx (TrAt.below hbx _ _ HT.out)).mono ?_
  rintro e w2 ⟨⟨z, rfl⟩, hb2⟩
  have HB := Lib.hid (bt hbx hb2)
  clear hbx hb2
  go_wp2_with fail
  go_ret
  exact ⟨⟨_, rfl⟩, HB.out⟩
end Go.Proofs.Ytibhcibcfommeaa
namespace Go.Proofs.Ytibhcibcfommeaa
open Go.RowKit Go.Shr
theorem RowG.app {ok : Nat → Prop} {w : World} : ∀ {l m : List Tr} {xs ys : List Value}, RowG ok w l xs → RowG ok w m ys → RowG ok w (l ++ m) (xs ++ ys)
  | [], m, xs, ys, h, h2 => by simp only [RowG] at h; subst h; exact h2
  | t :: r, m, xs, ys, h, h2 => by
    simp only [RowG] at h
    obtain ⟨c0, c1, c2, yr, rfl, h3, h4⟩ := h
    simp only [List.cons_append, RowG]
    exact ⟨c0, c1, c2, yr ++ ys, rfl, h3, RowG.app h4 h2⟩
set_option maxHeartbeats 2000000 in
set_option maxRecDepth 100000 in
theorem law_columns (a0 : Option Addr) (n0 c0 : Nat) (z0 : List Int) (a1 : Option Addr) (n1 c1 : Nat) (zz : List (List Int)) (xs1 : List Value) (a2 : Option Addr) (n2 c2 : Nat) (l2 : List Tr) (ys2 : List Value) (w : World) (h0 : Sl (fun b => b < w.heap.size) w 1 a0 n0 c0 (ints z0)) (w0 : ∀ z ∈ z0, (Lit.int .i64 z).wf = true) (h1 : Sl (fun b => b < w.heap.size) w 1 a1 n1 c1 xs1) (h1r : IRows w zz xs1) (w1 : ∀ z ∈ zz, ∀ v ∈ z, (Lit.int .i64 v).wf = true)
    (m2 : n2 = l2.length) (h2 : Sl (fun b => b < w.heap.size) w 3 a2 n2 c2 ys2) (h2r : RowAt w l2 ys2) :
    Calls Try.prog 3 #[.slice a0 n0 c0, .slice a1 n1 c1, .slice a2 n2 c2] w fun e w' => e = .returned (.bool true) ∧ Below w.heap.size w w' := by
  subst m2
  obtain ⟨it, hit, hz0t, hz1t, hz2t⟩ := info_parts info_tr
  have hm2 := Nat.le_trans h2.le h2.max
  unfold maxLen at hm2
  have H0 := Lib.hid h0; have H1 := Lib.hid h1; have HR := Lib.hid h1r; have W0 := Lib.hid w0; have W1 := Lib.hid w1; have H2 := Lib.hid h2; have HR2 := Lib.hid (RowAt.g _ _ h2r)
  clear h0 h1 h1r w0 w1 h2 h2r
  go_enter Try.func3, Try.ntmps3
  go_wp2_with fail
  refine (known14 _).mono ?_
  rintro e w1 ⟨rfl, hb1⟩
  have HB1 := Lib.hid hb1; clear hb1
  by_cases h5 : 5 < l2.length
  · have h5' : (5 : Int) < (l2.length : Int) := by omega
    go_wp2_with fail
    go_ret
    exact ⟨rfl, HB1.out⟩
  have h5' : ¬ (5 : Int) < (l2.length : Int) := by omega
  have h5n : l2.length ≤ 5 := by omega
  clear h5
  go_wp2_with fail
  clear h5'
  go_loopw [7] (fun iv wr => ∃ i : Nat, iv = .int .i64 (i : Int) ∧ i ≤ l2.length ∧ Hid (Below w.heap.size w wr)) (fun iv _ => l2.length - (intOf iv).toNat)
  case atStart => exact ⟨0, rfl, Nat.zero_le _, HB1⟩
  case round =>
    obtain ⟨i, rfl, hi, HB⟩ := hrel
    by_cases hil : i < l2.length
    · obtain ⟨b, off, rfl, hbo, hcc⟩ := H2.out.pos (by omega)
      obtain ⟨a4, c4, y0, y1, y2, hT⟩ := rowG_at HR2.out i hil
      have e0 := cb HB.out (hcc _ _ y0); have e1 := cb HB.out (hcc _ _ y1); have e2 := cb HB.out (hcc _ _ y2)
      rw [← Nat.add_assoc] at e1 e2
      have HT := Lib.hid (TrAt.below HB.out _ _ hT.at)
      generalize l2[i] = t at *
      clear y0 y1 y2 hcc hT
      go_wp2_with fail
      refine (few_v t a4 c4 wr HT.out).mono ?_
      rintro e w2 ⟨⟨tb, rfl⟩, hb2⟩
      have HB2 := Lib.hid (bt HB.out hb2)
      clear hb2 HB HT e0 e1 e2
      cases tb with
      | false =>
        go_wp2_with fail
        go_ret
        exact ⟨rfl, HB2.out⟩
      | true =>
        go_wp2_with fail
        go_roundw
        case rel => exact ⟨i + 1, by go_num, by omega, HB2⟩
        case measure => simp [intOf]; omega
    · obtain rfl : i = l2.length := by omega
      obtain ⟨w2, hw2⟩ : ∃ w2, w2 = wr := ⟨_, rfl⟩
      subst hw2
      clear hil
      go_wp2_with fail
      refine (make5 a0 n0 c0 z0 w2 (slb H0.out HB.out) W0.out).mono ?_
      rintro e w3 ⟨a, cap, rfl, ho, hb3⟩
      have HSC := Lib.hid (Sl.mono (ok' := fun b => b < w3.heap.size) ho.sl (fun k hk _ => hk) (by decide))
      have HB3 := Lib.hid (bt HB.out hb3)
      clear ho hb3
      go_wp2_with fail
      refine (many_v (makeL z0) (makeSh z0) (make_sch z0) a cap a1 n1 c1 zz xs1 w3 HSC.out (slb H1.out HB3.out) (HR.out.below HB3.out) W1.out).mono ?_
      rintro e w4 ⟨al, cl, ys, rfl, hsl, hrow, hb4⟩
      have HB4 := Lib.hid (bt HB3.out hb4); have HSC4 := Lib.hid (slb HSC.out hb4)
      have HSL := Lib.hid (hsl.mono (ok' := fun b => b < w4.heap.size) (fun k hk _ => hk) (by decide))
      have HROW := Lib.hid (RowAt.g _ _ hrow.at)
      have hx16 := manyT_len (makeSh z0) zz
      have HSCH := Lib.hid (make_sch z0)
      have HWY := Lib.hid (make_wy z0); have HRP := Lib.hid (make_rep z0); have HR0 := Lib.hid (makeSh_good z0).2.2.1
      have HHG := Lib.hid (make_hgt z0)
      have hl14 := (make_len z0).2
      generalize manyT (makeSh z0) zz = x at *
      generalize makeL z0 = l at *
      generalize makeSh z0 = sh at *
      clear hsl hrow hb4 HB HSC HB1 H0 H1 HR W0 W1 HB3
      have h24 : Sl (fun b => b < w4.heap.size) w4 3 a2 l2.length c2 ys2 := slb H2.out HB4.out
      have hr24 : RowG (fun b => b < w4.heap.size) w4 l2 ys2 := RowAt.g _ _ (RowAt.below HB4.out _ _ HR2.out.at)
      have H24 := Lib.hid h24; have HR24 := Lib.hid hr24
      have hs1 := (HSL.out.alloc (.cells #[] 29)).src (P := Try.prog) (tx := 24) Try.underlying24 (RowG.one' HROW.out)
      have HS1 := Lib.hid hs1
      clear hs1 h24 hr24 H2 HR2
      have tok1 : True := trivial
      have tok2 : True := trivial
      go_upto_region 13 with (first
        | (at_builtin; have _t := tok1; clear tok1; clear _t; refine wpList_fresh (B := w4.heap.size) rfl _ _ _ _ rfl it (.agg #[.int .i64 0, .string ByteArray.empty, .slice none 0 0]) 48 Try.underlying24 hit hz0t hz1t hz2t rfl rfl _ rfl _ _ HS1.out (by simp only [maxLen]; omega) (by omega) (by first | omega | (simp; omega) | simp) ?_; intro a5 cap5 w5 ho5 hb5 hn5; (have h25 := (slb H24.out (bt (ba (b0 w4) _) hb5)).src (P := Try.prog) (tx := 24) Try.underlying24 (RowG.one' HR24.out)); (have HS2 := Lib.hid h25); (have HO5 := Lib.hid ho5); (have HB5 := Lib.hid (bt (ba (b0 w4) (.cells #[] 29)) hb5)); (have hz5 := HB5.out.size); clear h25 ho5 hb5 hn5)
        | (at_builtin; have _t := tok2; clear tok2; clear _t; refine wpList_append (B := w4.heap.size) rfl _ _ _ _ rfl it (.agg #[.int .i64 0, .string ByteArray.empty, .slice none 0 0]) 48 Try.underlying24 hit hz0t hz1t hz2t rfl rfl HO5.out _ rfl _ _ HS2.out (by simp only [maxLen]; omega) (by omega) (by first | omega | (simp; omega) | simp) ?_; intro a6 cap6 w6 ho6 hc6 hn6)
        | fail)
      have hb6 : Below w4.heap.size w4 w6 := Chg.bt HB5.out hc6 (fun i hi h => by have := h.2.1; omega)
      have hs6 := ho6.sl.mono (ok' := fun b => b < w6.heap.size) (fun k hk _ => hk) (by decide)
      refine gen_wz (fun w7 hw7 => ?_)
      have hb67 : Below w6.heap.size w6 w7 := by rw [hw7]; exact ba (b0 w6) _
      have r10 : Rw w7 w6.heap.size #[.slice al x.length cl, .slice a2 l2.length c2, .slice a6 (x.length + l2.length) cap6] 24 := by rw [hw7]; exact Rw.new w6 _ _
      clear hw7
      have hb7 : Below w4.heap.size w4 w7 := bt hb6 hb67
      have hg1 := RowAt.g _ _ (RowAt.below hb7 _ _ HROW.out.at)
      have hg2 := RowAt.g _ _ (RowAt.below hb7 _ _ HR24.out.at)
      obtain ⟨b10, hb10⟩ : ∃ b, b = w6.heap.size := ⟨_, rfl⟩
      have HH : Hid (∀ i, i < 3 → ∃ (ax : Option Addr) (cx : Nat) (rws : List Tr) (yx : List Value), w7.cell? ⟨b10, i, none⟩ = some (.slice ax rws.length cx) ∧ Sl (fun b => b < w7.heap.size) w7 3 ax rws.length cx yx ∧ RowG (fun b => b < w7.heap.size) w7 rws yx) := Lib.hid (fun i hi => by
        rw [hb10]
        have : i = 0 ∨ i = 1 ∨ i = 2 := by omega
        rcases this with rfl | rfl | rfl
        · exact ⟨al, cl, x, ys, r10.cell 0, slb HSL.out hb7, hg1⟩
        · exact ⟨a2, c2, l2, ys2, r10.cell 1, slb H24.out hb7, hg2⟩
        · exact ⟨a6, cap6, x ++ l2, ys ++ ys2, by rw [List.length_append]; exact r10.cell 2, by rw [List.length_append]; exact slb hs6 hb67, RowG.app hg1 hg2⟩)
      have HB7 := Lib.hid (bt HB4.out hb7)
      have HSC7 := Lib.hid (slb HSC4.out hb7)
      rw [← hb10]
      clear hb10 r10 hb7 hb67 hb6 hs6 ho6 hc6 hn6 hg1 hg2 HS1 HS2 HO5 HB5 hz5 HSL HROW H24 HR24 HB4 HSC4
      go_wp2_with fail
      go_loopw [11] (fun iv wr => ∃ i : Nat, iv = .int .i64 (i : Int) ∧ i ≤ 3 ∧ Hid (Below w7.heap.size w7 wr)) (fun iv _ => 3 - (intOf iv).toNat)
      case atStart => exact ⟨0, rfl, by decide, Lib.hid (b0 w7)⟩
      case round =>
        obtain ⟨i, rfl, hi, HB⟩ := hrel
        by_cases hi3 : i < 3
        · obtain ⟨ax, cx, rws, yx, hcx, hsx, hgx⟩ := HH.out i hi3
          have k0 := cb HB.out hcx
          have HSX := Lib.hid (slb hsx HB.out); have HGX := Lib.hid (RowAt.g _ _ (RowAt.below HB.out _ _ hgx.at))
          have HSCr := Lib.hid (slb HSC7.out HB.out)
          have HX4 := Lib.hid k0
          have hib : (i : Int) < 3 := by omega
          clear hcx hsx hgx
          go_wp2_with fail
          refine ((Cols_v HSCH.out HWY.out HRP.out rws a ax cap cx yx wr HSCr.out HSX.out HGX.out).mono (fun e w' h => CQ.of HSCH.out h)).mono ?_
          rintro e w8 ⟨ac, nc, cc, xc, rfl, hcr, hb8⟩
          have HB8 := Lib.hid (bt HB.out hb8); have HCR := Lib.hid hcr
          have HSX8 := Lib.hid (slb HSX.out hb8); have HGX8 := Lib.hid (RowAt.g _ _ (RowAt.below hb8 _ _ HGX.out.at)); have HSC8 := Lib.hid (slb HSCr.out hb8)
          have k0 := cb hb8 HX4.out
          clear hcr hb8 HSX HGX HSCr HX4 HB
          go_wp2_with fail
          refine ((RCols_v HSCH.out HHG.out HR0.out HRP.out rws a ax cap cx yx w8 HSC8.out HSX8.out HGX8.out).mono (fun e w' h => CQ.ofR h)).mono ?_
          rintro e w9 ⟨ad, nd, cd, xd, rfl, hdr, hb9⟩
          have HB9 := Lib.hid (bt HB8.out hb9); have HDR := Lib.hid hdr; have HCR9 := Lib.hid (HCR.out.below hb9)
          have hee : (colsE l sh rws != colsE l sh rws) = false := by simp
          generalize colsE l sh rws = E at *
          generalize colsL l sh rws = LL at *
          clear hdr hb9 HSX8 HGX8 HSC8 HCR HB8 k0
          go_wp2_with fail
          refine (lcols_v ac ad nc cc nd cd LL LL xc xd w9 HCR9.out HDR.out).mono ?_
          rintro e w10 ⟨t, rfl, ht, hb10⟩
          obtain rfl : t = true := ht.2 rfl
          have HB10 := Lib.hid (bt HB9.out hb10)
          clear hb10 ht
          go_wp2_with fail
          go_roundw
          case rel => exact ⟨i + 1, by go_num, by omega, HB10⟩
          case measure => simp [intOf]; omega
        · obtain rfl : i = 3 := by omega
          clear hi3
          go_wp2_with fail
          go_ret
          exact ⟨rfl, bt HB7.out HB.out⟩
end Go.Proofs.Ytibhcibcfommeaa
