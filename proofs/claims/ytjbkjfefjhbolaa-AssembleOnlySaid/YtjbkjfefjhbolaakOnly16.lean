import Derived.Test.YtjbkjfefjhbolaakRefL16
import Derived.Test.YtjbkjfefjhbolaakFew16
import Derived.Test.YtjbkjfefjhbolaakKnown16
import Derived.Test.YtjbkjfefjhbolaakWith16
set_option linter.unusedSimpArgs false
set_option linter.unusedVariables false
namespace Go.Proofs.Ytjbkjfefjhbolaa
open Go.RowKit Go.Shr
set_option maxHeartbeats 3000000 in
set_option maxRecDepth 100000 in
theorem law_only (a0 : Option Addr) (n0 c0 : Nat) (z0 : List Int) (ra : Option Addr) (rn rc : Nat) (RL : List Cl) (rx : List Value) (n : Int) (w : World) (h0 : Sl (fun b => b < w.heap.size) w 1 a0 n0 c0 (ints z0)) (w0 : ∀ z ∈ z0, (Lit.int .i64 z).wf = true) (h1 : ColsR w ra rn rc RL rx) (w2 : (Lit.int .i64 n).wf = true) :
  Calls Try.prog 5 #[.slice a0 n0 c0, .slice ra rn rc, .int .i64 n] w fun e w' => e = .returned (.bool true) ∧ Below w.heap.size w w' := by
 obtain ⟨ii, hii, hz0i, hz1i, hz2i⟩ := info_parts info_i
 obtain ⟨iv, hiv, hz0v, hz1v, hz2v⟩ := info_parts info_vl
 obtain ⟨ic, hic, hz0c, hz1c, hz2c⟩ := info_parts info_cl14
 obtain rfl := h1.n
 have H0 := Lib.hid h0; have W0 := Lib.hid w0; have H1 := Lib.hid h1
 clear h0 w0 h1 w2
 go_enter Try.func5, Try.ntmps5
 go_wp2_with fail
 refine (known16 _).mono ?_
 rintro e w1 ⟨rfl, hb1⟩
 have HB1 := Lib.hid hb1; clear hb1
 go_wp2_with fail
 refine (few16_v ra RL.length rc RL rx w1 (H1.out.below HB1.out)).mono ?_
 rintro e w2 ⟨b, rfl, hfew, rfl⟩
 cases b with
 | false =>
  clear hfew
  go_wp2_with fail
  go_ret
  exact ⟨rfl, HB1.out⟩
 | true =>
 obtain ⟨hl15, hfe⟩ := hfew (by first | rfl | trivial)
 have HFE := Lib.hid hfe
 clear hfew hfe
 go_wp2_with fail
 refine (make5 a0 n0 c0 z0 w2 (slb H0.out HB1.out) W0.out).mono ?_
 rintro e w3 ⟨a, cap, rfl, ho, hb2⟩
 have HSC := Lib.hid (Sl.mono (ok' := fun b => b < w3.heap.size) ho.sl (fun k hk _ => hk) (by decide))
 have HB2 := Lib.hid (bt HB1.out hb2)
 have HSCH := Lib.hid (make_sch z0)
 have HWY := Lib.hid (make_wy z0); have HRP := Lib.hid (make_rep z0); have HR0 := Lib.hid (makeSh_good z0).2.2.1; have HH := Lib.hid (make_hgt z0)
 have hl14 := (make_len z0).2
 generalize makeL z0 = l at *
 generalize makeSh z0 = sh at *
 clear ho hb2 H0 W0 HB1
 go_wp2_with fail
 refine (leaves_v a cap l w3 HSC.out (by omega) HSCH.out.kids).mono ?_
 rintro e w4 ⟨aL, cL, rfl, hol, hb4⟩
 have HSC4 := Lib.hid (slb HSC.out hb4)
 have HB4 := Lib.hid (bt HB2.out hb4)
 have HOL := Lib.hid (Sl.mono (ok' := fun b => b < w4.heap.size) hol.sl (fun k hk _ => hk) (by decide))
 have HRW := Lib.hid (H1.out.below HB4.out)
 have hM1000 := leafs_max HSCH.out
 obtain ⟨M, hM⟩ : ∃ M, M = (leafs l l.length).length := ⟨_, rfl⟩
 rw [← hM] at HOL hM1000 ⊢
 have HM := Lib.hid hM
 clear hol hb4 HSC H1 hM
 go_wp2_with fail
 go_loopw [9, 10] (fun lv iv wr => ∃ (i : Nat) (aO : Option Addr) (cO : Nat) (L : List Cl) (xs : List Value), lv = .slice aO i cO ∧ iv = .int .i64 (i : Int) ∧ i ≤ M ∧ Hid (OCol w4.heap.size wr aO i cO L xs) ∧ Hid (∀ X ∈ L, FewC X) ∧ Hid (Below w4.heap.size w4 wr)) (fun _ iv _ => M - (intOf iv).toNat)
 case atStart => exact ⟨0, none, 0, [], [], rfl, rfl, Nat.zero_le _, Lib.hid (OCol.nil _ _), Lib.hid (fun X hX => by cases hX), Lib.hid (b0 _)⟩
 case round =>
  obtain ⟨i, aO, cO, L, xs, rfl, rfl, hi, HOC, HFL, HBW⟩ := hrel
  have hszr := HBW.out.size
  obtain ⟨wo, hwo⟩ : ∃ wo : World, wo = wr := ⟨_, rfl⟩
  subst hwo
  by_cases hil : i < M
  ·go_upto_region 12 with fail
   refine gen_wl (fun wU hwU => ?_)
   have hbU : Below wo.heap.size wo wU := by rw [hwU]; exact ba (b0 wo) _
   have rU : Rw wU wo.heap.size #[.slice none 0 0, .slice none 0 0, .slice none 0 0] 42 := by rw [hwU]; exact Rw.new wo _ _
   clear hwU
   obtain ⟨U, hU⟩ : ∃ U, U = wo.heap.size := ⟨_, rfl⟩
   rw [← hU] at rU ⊢
   have hUl := rU.lt
   have HUE := Lib.hid hU
   have HBU := Lib.hid hbU; have RU := Lib.hid rU
   have HQ0 : Hid (QC wU.heap.size U none 0 [] none 0 [] none 0 [] wU) := Lib.hid ⟨rU, Own.nil _ _ _ _, Own.nil _ _ _ _, Own.nil _ _ _ _, fun g h => by simp [blk] at h, fun g h => by simp [blk] at h, fun g h => by simp [blk] at h, fun g h => by simp [blk] at h, hUl, Nat.le_refl _⟩
   clear hU hbU rU
   have HRU := Lib.hid (HRW.out.below HBW.out)
   go_upto_if 40 with fail
   go_cut [12, 13] from 40 to 115 (fun v12 v13 wc => ∃ (r d : List Int) (v : List Vc) (aR : Option Addr) (cR : Nat) (aD : Option Addr) (cD : Nat) (aV : Option Addr) (cV : Nat), FewC ⟨r, d, v⟩ ∧ Hid (QC wU.heap.size U aR cR r aD cD d aV cV v wc) ∧ Hid (Below wo.heap.size wo wc))
   case first =>
    by_cases hir : i < RL.length
    ·obtain ⟨rb, ro, x0, d0, x1, d1, x2, d2, rfl, y0, y1, y2, hcl⟩ := HRU.out.get i hir
     have hfw := HFE.out _ (List.getElem_mem hir)
     obtain ⟨hf0, hf1, _⟩ := hfw
     have HCL := Lib.hid hcl
     obtain ⟨X, hX⟩ : ∃ X, X = RL[i] := ⟨_, rfl⟩
     have HXE := Lib.hid hX
     rw [← hX] at y0 y1 HCL hf0 hf1
     generalize hnR : X.r.length = nR at *
     generalize hnD : X.d.length = nD at *
     have HNR := Lib.hid (And.intro hnR hnD)
     have HZ := Lib.hid (And.intro (cb HBU.out y0) (cb HBU.out y1))
     have HZ0 := Lib.hid (And.intro y0 y1)
     have hir1 : (i : Int) < (RL.length : Int) := by omega
     clear hX hcl hnR hnD y0 y1 y2
     go_upto_region 13 with fail
     go_cut [12] from 40 to 53 (fun v wc => ∃ m2 : Nat, v = .int .i64 (m2 : Int) ∧ m2 ≤ nR ∧ m2 ≤ nD ∧ Hid (Below wU.heap.size wU wc))
     case first =>
      have HBB := Lib.hid (b0 wU)
      refine wp_region_F (fun w' => w'.cell? ⟨rb, ro + i * 3, none⟩ = some (.slice x0 nR d0) ∧ w'.cell? ⟨rb, ro + i * 3 + 1, none⟩ = some (.slice x1 nD d1)) [] (by kernel_rfl) ?g1rgS (fun hHeld => ?g1rgR)
      case g1rgS => (try dsimp only); (exact HZ.out)
      try dsimp only at hHeld
      refine wpAnyF_tks [0, 1, 2, 3, 4, 5, 6, 7, 8, 9, 10, 11, 12, 13] 0 (by kernel_rfl) (fun _ _ _ _ _ h => h) (by assumption) ?_
      iterate 14 ((apply YA.take rfl (by rfl); case hy => intro w hSw; obtain ⟨s0, s1⟩ := hSw; go_simp; try with_reducible rfl); try simp only [Act.put, pA, pB, pC])
      refine YA.nil ?_
      refine wpAnyF_done (by kernel_rfl) ?_
      clear hHeld
      go_wp2_with fail
      all_goals (go_meet; case rel => exact ⟨_, rfl, by omega, by omega, Lib.hid HBB.out.drew⟩)
     case rest =>
      obtain ⟨m2, rfl, hm2, hm3, HBM⟩ := hcut
      obtain ⟨wv, hwv⟩ : ∃ wv : World, wv = wc := ⟨_, rfl⟩
      subst hwv
      have HQ1 := Lib.hid (QR.qc (HQ0.out.qr.below HBM.out) (HQ0.out.row.below HBM.out) HQ0.out.bb)
      have HBV := Lib.hid (bt HBU.out HBM.out)
      go_wp2_with fail
      go_loopw [13] (fun kv wq => ∃ (k : Nat) (r d : List Int) (v : List Vc) (aR : Option Addr) (cR : Nat) (aD : Option Addr) (cD : Nat) (aV : Option Addr) (cV : Nat), kv = .int .i64 (k : Int) ∧ k ≤ m2 ∧ r.length = k ∧ d.length = k ∧ v.length ≤ k ∧ (∀ x ∈ v, x.s.size ≤ 150) ∧ Hid (QC wU.heap.size U aR cR r aD cD d aV cV v wq) ∧ Hid (Below wo.heap.size wo wq)) (fun kv _ => m2 - (intOf kv).toNat)
      case atStart => exact ⟨0, [], [], [], none, 0, none, 0, none, 0, rfl, Nat.zero_le _, rfl, rfl, Nat.zero_le _, fun x hx => (by cases hx), HQ1, HBV⟩
      case round =>
       obtain ⟨k, r, d, v, aR, cR, aD, cD, aV, cV, rfl, hk, hrl, hdl, hvl, hvs, HQ, HB⟩ := hrel
       by_cases hkm : k < m2
       ·obtain ⟨rbb, roo, rfl, _, hrc⟩ := HCL.out.r.pos (by have := HNR.out.1; omega)
        obtain ⟨dbb, doo, rfl, _, hdc⟩ := HCL.out.d.pos (by have := HNR.out.2; omega)
        have hkR : k < X.r.length := by have := HNR.out.1; omega
        have hkD : k < X.d.length := by have := HNR.out.2; omega
        have y0 := hrc _ _ (ints_get X.r k hkR)
        have y1 := hdc _ _ (ints_get X.d k hkD)
        obtain ⟨lb, lo, rfl, _, hlc⟩ := HOL.out.pos (by omega)
        have hiM : i < (leafs l l.length).length := by rw [← HM.out]; exact hil
        obtain ⟨l0, l1, l2, l3⟩ := lvs_get l (leafs l l.length) i hiM
        clear l0 l3
        replace l1 := cb HBW.out (hlc _ _ l1); replace l2 := cb HBW.out (hlc _ _ l2)
        rw [← Nat.add_assoc] at l1 l2
        obtain ⟨R, hR⟩ : ∃ R, R = lvR l (leafs l l.length)[i] := ⟨_, rfl⟩
        obtain ⟨D, hD⟩ : ∃ D, D = lvD l (leafs l l.length)[i] := ⟨_, rfl⟩
        have hRl : R ≤ 1000 ∧ D ≤ 1000 := by
         have hm := (leafs_mem.1 (List.getElem_mem hiM)).1
         have := cntR_le l (Go.Shr.chain (par l) (leafs l l.length)[i]); have := cntD_le l (Go.Shr.chain (par l) (leafs l l.length)[i]); have := chain_len (par l) (leafs l l.length)[i]
         rw [hR, hD]; unfold lvR lvD; omega
        rw [← hR] at l1; rw [← hD] at l2
        obtain ⟨x, hx⟩ : ∃ x, x = X.r[k] := ⟨_, rfl⟩
        obtain ⟨y, hy⟩ : ∃ y, y = X.d[k] := ⟨_, rfl⟩
        rw [← hx] at y0; rw [← hy] at y1
        have HZ1 := Lib.hid (And.intro HZ0.out.1 (And.intro HZ0.out.2 (And.intro y0 (And.intro y1 (And.intro l1 l2)))))
        have HZ2 := Lib.hid (And.intro (And.intro (cb HB.out HZ1.out.1) (And.intro (cb HB.out HZ1.out.2.1) (And.intro (cb HB.out HZ1.out.2.2.1) (And.intro (cb HB.out HZ1.out.2.2.2.1) (And.intro (cb HB.out HZ1.out.2.2.2.2.1) (cb HB.out HZ1.out.2.2.2.2.2)))))) (show wr.cell? ⟨U, 0, none⟩ = some (.slice aR k cR) ∧ wr.cell? ⟨U, 1, none⟩ = some (.slice aD k cD) by have h1 := HQ.out.row; rw [hrl, hdl] at h1; exact ⟨h1.cell 0, h1.cell 1⟩))
        have hwR : IntKind.i64.wrap ((R : Int) + 1) = (R : Int) + 1 := by rw [IntKind.wrap_i64]; omega
        have hwD : IntKind.i64.wrap ((D : Int) + 1) = (D : Int) + 1 := by rw [IntKind.wrap_i64]; omega
        have hk1 : (k : Int) < (nR : Int) := by omega
        have hk2 : (k : Int) < (nD : Int) := by omega
        have hi1 : (i : Int) < (M : Int) := by omega
        have T := HQ.out.qr
        have row := HQ.out.row
        rw [hrl, hdl] at T row
        have HT0 := Lib.hid (And.intro T (And.intro row HB.out))
        have hUw : wo.heap.size ≤ U := by have := HUE.out; omega
        have hUB := HQ.out.bb
        have hbm : (ints r).length = k := by simp [ints, hrl]
        clear hrc hdc hlc y0 y1 l1 l2 hx hy hkR hkD hbm T row
        go_upto_region 17 with fail
        go_cut [] from 59 to 98 (fun wd => ∃ (r' d' : List Int) (a9 : Option Addr) (cap9 : Nat) (a16 : Option Addr) (cap16 : Nat), r'.length = k + 1 ∧ d'.length = k + 1 ∧ Hid (QC wU.heap.size U a9 cap9 r' a16 cap16 d' aV cV v wd) ∧ Hid (Below wo.heap.size wo wd))
        case first =>
         have hRl2 := hRl
         clear hR hD
         refine wp_region_F (fun w' => (w'.cell? ⟨rb, ro + i * 3, none⟩ = some (.slice (some ⟨rbb, roo, none⟩) nR d0) ∧ w'.cell? ⟨rb, ro + i * 3 + 1, none⟩ = some (.slice (some ⟨dbb, doo, none⟩) nD d1) ∧ w'.cell? ⟨rbb, roo + k, none⟩ = some (.int .i64 x) ∧ w'.cell? ⟨dbb, doo + k, none⟩ = some (.int .i64 y) ∧ w'.cell? ⟨lb, lo + i * 4 + 1, none⟩ = some (.int .i64 (R : Int)) ∧ w'.cell? ⟨lb, lo + i * 4 + 2, none⟩ = some (.int .i64 (D : Int))) ∧ w'.cell? ⟨U, 0, none⟩ = some (.slice aR k cR) ∧ w'.cell? ⟨U, 1, none⟩ = some (.slice aD k cD)) [21, 22, 23, 24, 29, 30, 31, 32, 39, 40, 41] (by kernel_rfl) ?g2rgS (fun hHeld => ?g2rgR)
         case g2rgS => (try dsimp only); (first | exact HZ2.out | exact ⟨⟨cb hBW HZ1.out.1, cb hBW HZ1.out.2.1, cb hBW HZ1.out.2.2.1, cb hBW HZ1.out.2.2.2.1, cb hBW HZ1.out.2.2.2.2.1, cb hBW HZ1.out.2.2.2.2.2⟩, row.cell 0, row.cell 1⟩)
         try dsimp only at hHeld
         obtain ⟨W, hW⟩ : ∃ W, W = wr.drew := ⟨_, rfl⟩; rw [← hW] at hHeld ⊢; (have hBW : Below wo.heap.size wo W := by rw [hW]; exact HT0.out.2.2.drew); (have T : QR wU.heap.size aR k cR (ints r) aD k cD (ints d) aV v.length cV (vcs v) W := by rw [hW]; exact HT0.out.1.below (b0 wr).drew); (have row : Rw W U #[.slice aR k cR, .slice aD k cD, .slice aV v.length cV] 42 := by rw [hW]; exact HT0.out.2.1.drew); clear hW
         refine wpAnyF_take0 21 (oi := ⟨some 80, .move (.tmp 1), 30, "law.go:131", #[], none⟩) (v := ?g2rv1) rfl (by kernel_rfl) (fun _ _ _ h => h) (by rfl) ?g2ry1 ?g2rr1
         case g2ry1 => intro w0' _; go_simp; try with_reducible rfl
         try simp only [Act.put, pA, pB, pC]
         refine wpAnyF_take0 22 (oi := ⟨some 81, .move (.tmp 10), 3, "law.go:131", #[], none⟩) (v := ?g2rv2) rfl (by kernel_rfl) (fun _ _ _ h => h) (by rfl) ?g2ry2 ?g2rr2
         case g2ry2 => intro w0' _; go_simp; try with_reducible rfl
         try simp only [Act.put, pA, pB, pC]
         refine wpAnyF_take0 23 (oi := ⟨some 82, .indexAddr 30 (.tmp 80) (.tmp 81), 0, "law.go:131", #[⟨21, .data⟩, ⟨22, .data⟩], none⟩) (v := ?g2rv3) rfl (by kernel_rfl) (fun _ _ _ h => h) (by rfl) ?g2ry3 ?g2rr3
         case g2ry3 => intro w0' _; go_simp; try with_reducible rfl
         try simp only [Act.put, pA, pB, pC]
         refine wpAnyF_take0 24 (oi := ⟨some 83, .fieldAddr 42 (.tmp 82) 1, 0, "law.go:131", #[⟨23, .data⟩], none⟩) (v := ?g2rv4) rfl (by kernel_rfl) (fun _ _ _ h => h) (by rfl) ?g2ry4 ?g2rr4
         case g2ry4 => intro w0' _; go_simp; try with_reducible rfl
         try simp only [Act.put, pA, pB, pC]
         refine wpAnyF_take0 29 (oi := ⟨some 88, .move (.tmp 8), 49, "law.go:131", #[], none⟩) (v := ?g2rv5) rfl (by kernel_rfl) (fun _ _ _ h => h) (by rfl) ?g2ry5 ?g2rr5
         case g2ry5 => intro w0' _; go_simp; try with_reducible rfl
         try simp only [Act.put, pA, pB, pC]
         refine wpAnyF_take0 30 (oi := ⟨some 89, .move (.tmp 10), 3, "law.go:131", #[], none⟩) (v := ?g2rv6) rfl (by kernel_rfl) (fun _ _ _ h => h) (by rfl) ?g2ry6 ?g2rr6
         case g2ry6 => intro w0' _; go_simp; try with_reducible rfl
         try simp only [Act.put, pA, pB, pC]
         refine wpAnyF_take0 31 (oi := ⟨some 90, .indexAddr 49 (.tmp 88) (.tmp 89), 0, "law.go:131", #[⟨29, .data⟩, ⟨30, .data⟩], none⟩) (v := ?g2rv7) rfl (by kernel_rfl) (fun _ _ _ h => h) (by rfl) ?g2ry7 ?g2rr7
         case g2ry7 => intro w0' _; go_simp; try with_reducible rfl
         try simp only [Act.put, pA, pB, pC]
         refine wpAnyF_take0 32 (oi := ⟨some 91, .fieldAddr 52 (.tmp 90) 2, 0, "law.go:131", #[⟨31, .data⟩], none⟩) (v := ?g2rv8) rfl (by kernel_rfl) (fun _ _ _ h => h) (by rfl) ?g2ry8 ?g2rr8
         case g2ry8 => intro w0' _; go_simp; try with_reducible rfl
         try simp only [Act.put, pA, pB, pC]
         refine wpAnyF_mono (F := [39, 40, 41]) (by simp) _ _ _ _ ?_
         refine wpAnyF_tks [0, 1, 2, 3, 4, 5, 6, 7, 8, 9, 10, 11, 12, 13, 14, 15, 19, 20, 25, 26, 27, 28, 33, 34] 10 (by kernel_rfl) (fun _ _ _ _ _ h => h) (by assumption) ?_
         iterate 24 ((apply YA.take rfl (by rfl); case hy => intro w hSw; obtain ⟨⟨s0, s1, s2, s3, s4, s5⟩, s6, s7⟩ := hSw; go_simp; try with_reducible rfl); try simp only [Act.put, pA, pB, pC])
         refine YA.nil ?_
         refine wpAnyF_ready [16] (by kernel_rfl) (by simp) ?_
         refine AllReadyF.con 16 rfl (fun K hK => ?g2ro9) ?g2rm9
         case g2rm9 => exact AllReadyF.nil
         go_simp; refine (within_16 _ _ _ (by omega) (by omega)).mono ?_; rintro e w' ⟨rfl, rfl⟩; dsimp only
         refine hK.out _ _ ?g2rs9 (fun hHeld => ?g2rt9)
         case g2rs9 => (try dsimp only); (first | exact HZ2.out | exact ⟨⟨cb hBW HZ1.out.1, cb hBW HZ1.out.2.1, cb hBW HZ1.out.2.2.1, cb hBW HZ1.out.2.2.2.1, cb hBW HZ1.out.2.2.2.2.1, cb hBW HZ1.out.2.2.2.2.2⟩, row.cell 0, row.cell 1⟩)
         try dsimp only at hHeld
         clear hK K
         try simp only [Act.put, pA, pB, pC]
         refine wpAnyF_ready [17] (by kernel_rfl) (by simp) ?_
         refine AllReadyF.con 17 rfl (fun K hK => ?g2ro10) ?g2rm10
         case g2rm10 => exact AllReadyF.nil
         go_simp; refine gen_w (fun Y hY => ?_); (have hb := QR.nb T hY); (have rn17 := QR.nr T hY); (replace T := T.below hb); (replace row := row.below hb); (replace hBW := bt hBW hb); clear hb hY
         refine hK.out _ _ ?g2rs10 (fun hHeld => ?g2rt10)
         case g2rs10 => (try dsimp only); (first | exact HZ2.out | exact ⟨⟨cb hBW HZ1.out.1, cb hBW HZ1.out.2.1, cb hBW HZ1.out.2.2.1, cb hBW HZ1.out.2.2.2.1, cb hBW HZ1.out.2.2.2.2.1, cb hBW HZ1.out.2.2.2.2.2⟩, row.cell 0, row.cell 1⟩)
         try dsimp only at hHeld
         clear hK K
         try simp only [Act.put, pA, pB, pC]
         refine wpAnyF_ready [18] (by kernel_rfl) (by simp) ?_
         refine AllReadyF.con 18 rfl (fun K hK => ?g2ro11) ?g2rm11
         case g2rm11 => exact AllReadyF.nil
         (refine step_append (B := wU.heap.size) rfl _ _ _ _ rfl ii (.int .i64 0) 8 Try.underlying22 hii hz0i hz1i hz2i rfl rfl T.oR _ rfl 1 _ (src_rw (P := Try.prog) (tx := 22) Try.underlying22 rn17 1 1 rfl (by simp [Value.oneCell'])) (by simp only [maxLen]; omega) (by omega) T.le ?_; intro a9 cap9 W9 ho9 hc9 hn9); (replace T := T.pushR (Nat.succ_pos _) ho9 hc9 hn9); (replace row := row.chg hc9 (fun h => by have := h.2.1; omega)); (replace hBW := Chg.bt hBW hc9 (fun k hk h => by have := h.2.1; omega)); clear ho9 hc9 hn9 rn17
         refine hK.out _ _ ?g2rs11 (fun hHeld => ?g2rt11)
         case g2rs11 => (try dsimp only); (first | exact HZ2.out | exact ⟨⟨cb hBW HZ1.out.1, cb hBW HZ1.out.2.1, cb hBW HZ1.out.2.2.1, cb hBW HZ1.out.2.2.2.1, cb hBW HZ1.out.2.2.2.2.1, cb hBW HZ1.out.2.2.2.2.2⟩, row.cell 0, row.cell 1⟩)
         try dsimp only at hHeld
         clear hK K
         try simp only [Act.put, pA, pB, pC]
         refine wpAnyF_tks [38] 6 (by kernel_rfl) (fun _ _ _ _ _ h => h) (by assumption) ?_
         iterate 1 ((apply YA.take rfl (by rfl); case hy => intro w hSw; obtain ⟨⟨s0, s1, s2, s3, s4, s5⟩, s6, s7⟩ := hSw; go_simp; try with_reducible rfl); try simp only [Act.put, pA, pB, pC])
         refine YA.nil ?_
         refine wpAnyF_ready [35] (by kernel_rfl) (by simp) ?_
         refine AllReadyF.con 35 rfl (fun K hK => ?g2ro12) ?g2rm12
         case g2rm12 => exact AllReadyF.nil
         go_simp; refine (within_16 _ _ _ (by omega) (by omega)).mono ?_; rintro e w' ⟨rfl, rfl⟩; dsimp only
         refine hK.out _ _ ?g2rs12 (fun hHeld => ?g2rt12)
         case g2rs12 => (try dsimp only); (first | exact HZ2.out | exact ⟨⟨cb hBW HZ1.out.1, cb hBW HZ1.out.2.1, cb hBW HZ1.out.2.2.1, cb hBW HZ1.out.2.2.2.1, cb hBW HZ1.out.2.2.2.2.1, cb hBW HZ1.out.2.2.2.2.2⟩, row.cell 0, row.cell 1⟩)
         try dsimp only at hHeld
         clear hK K
         try simp only [Act.put, pA, pB, pC]
         refine wpAnyF_ready [36] (by kernel_rfl) (by simp) ?_
         refine AllReadyF.con 36 rfl (fun K hK => ?g2ro13) ?g2rm13
         case g2rm13 => exact AllReadyF.nil
         go_simp; refine gen_w (fun Y hY => ?_); (have hb := QR.nb T hY); (have rn36 := QR.nr T hY); (replace T := T.below hb); (replace row := row.below hb); (replace hBW := bt hBW hb); clear hb hY
         refine hK.out _ _ ?g2rs13 (fun hHeld => ?g2rt13)
         case g2rs13 => (try dsimp only); (first | exact HZ2.out | exact ⟨⟨cb hBW HZ1.out.1, cb hBW HZ1.out.2.1, cb hBW HZ1.out.2.2.1, cb hBW HZ1.out.2.2.2.1, cb hBW HZ1.out.2.2.2.2.1, cb hBW HZ1.out.2.2.2.2.2⟩, row.cell 0, row.cell 1⟩)
         try dsimp only at hHeld
         clear hK K
         try simp only [Act.put, pA, pB, pC]
         refine wpAnyF_ready [37] (by kernel_rfl) (by simp) ?_
         refine AllReadyF.con 37 rfl (fun K hK => ?g2ro14) ?g2rm14
         case g2rm14 => exact AllReadyF.nil
         (refine step_append (B := wU.heap.size) rfl _ _ _ _ rfl ii (.int .i64 0) 8 Try.underlying22 hii hz0i hz1i hz2i rfl rfl T.oD _ rfl 1 _ (src_rw (P := Try.prog) (tx := 22) Try.underlying22 rn36 1 1 rfl (by simp [Value.oneCell'])) (by simp only [maxLen]; omega) (by omega) T.le ?_; intro a16 cap16 W16 ho16 hc16 hn16); (replace T := (T.swap.pushR (Nat.succ_pos _) ho16 hc16 hn16).swap); (replace row := row.chg hc16 (fun h => by have := h.2.1; omega)); (replace hBW := Chg.bt hBW hc16 (fun k hk h => by have := h.2.1; omega)); clear ho16 hc16 hn16 rn36
         refine hK.out _ _ ?g2rs14 (fun hHeld => ?g2rt14)
         case g2rs14 => (try dsimp only); (first | exact HZ2.out | exact ⟨⟨cb hBW HZ1.out.1, cb hBW HZ1.out.2.1, cb hBW HZ1.out.2.2.1, cb hBW HZ1.out.2.2.2.1, cb hBW HZ1.out.2.2.2.2.1, cb hBW HZ1.out.2.2.2.2.2⟩, row.cell 0, row.cell 1⟩)
         try dsimp only at hHeld
         clear hK K
         try simp only [Act.put, pA, pB, pC]
         refine wpAnyF_ready [39] (by kernel_rfl) (by simp) ?_
         refine AllReadyF.lst 39 rfl (by kernel_rfl) (fun K hK => ?g2ro15) ?g2rm15
         case g2rm15 => exact AllReadyF.nil
         (have qf := row.frozen); (have ql := row.lt); (have qc := row.cell 0); (have qd := row.cell 1); go_simp
         refine hK.out _ _ ?_
         clear hK K
         try simp only [Act.put, pA, pB, pC]
         refine wpAnyF_ready [40] (by kernel_rfl) (by simp) ?_
         refine AllReadyF.lst 40 rfl (by kernel_rfl) (fun K hK => ?g2ro16) ?g2rm16
         case g2rm16 => exact AllReadyF.nil
         go_simp
         refine hK.out _ _ ?_
         clear hK K
         try simp only [Act.put, pA, pB, pC]
         refine wpAnyF_ready [41] (by kernel_rfl) (by simp) ?_
         refine AllReadyF.lst 41 rfl (by kernel_rfl) (fun K hK => ?g2ro17) ?g2rm17
         case g2rm17 => exact AllReadyF.nil
         go_simp
         refine hK.out _ _ ?_
         clear hK K
         try simp only [Act.put, pA, pB, pC]
         refine wpAnyF_done (by kernel_rfl) ?_
         have T2 := (T.under (p := ⟨U, 0, none⟩) hUB (.slice a9 (k + 1) cap9)).under (p := ⟨U, 1, none⟩) hUB (.slice a16 (k + 1) cap16)
         have row2 := (row.set 0 (.slice a9 (k + 1) cap9)).set 1 (.slice a16 (k + 1) cap16)
         have hB2 := (hBW.setCell (p := ⟨U, 0, none⟩) hUw (.slice a9 (k + 1) cap9)).setCell (p := ⟨U, 1, none⟩) hUw (.slice a16 (k + 1) cap16)
         have HT2 := Lib.hid T2; have HR2 := Lib.hid row2; have HB2' := Lib.hid hB2
         clear T T2 row row2 hBW hB2 qf ql qc qd hHeld
         go_wp2_with fail
         go_meet
         case rel =>
          have e1 : (r ++ [x % ((R : Int) + 1)]).length = k + 1 := by simp [hrl]
          have e2 : (d ++ [y % ((D : Int) + 1)]).length = k + 1 := by simp [hdl]
          refine ⟨r ++ [x % ((R : Int) + 1)], d ++ [y % ((D : Int) + 1)], a9, cap9, a16, cap16, e1, e2, Lib.hid (QR.qc ?_ ?_ hUB), HB2'⟩
          ·rw [e1, e2, ints_snoc, ints_snoc]; exact HT2.out
          ·rw [e1, e2]; exact HR2.out
        case rest =>
         obtain ⟨r', d', a9, cap9, a16, cap16, e1, e2, HQ2, HB3⟩ := hcut
         clear HT0 HQ HB HZ2 hR hD
         obtain ⟨wk, hwk⟩ : ∃ wk : World, wk = wc := ⟨_, rfl⟩
         subst hwk
         obtain ⟨dk, hdk⟩ : ∃ dk, dk = d'[k]'(by omega) := ⟨_, rfl⟩
         obtain ⟨g16, rfl, _, _, hgc, _⟩ := HQ2.out.oD.pos (by omega)
         have y3 := hgc _ _ (ints_get d' k (by omega))
         rw [← hdk] at y3
         have rwk := HQ2.out.row
         rw [e1, e2] at rwk
         have HZ3 := Lib.hid (And.intro (show wk.cell? ⟨U, 1, none⟩ = some (.slice (some ⟨g16, 0, none⟩) (k + 1) cap16) from rwk.cell 1) (And.intro y3 (cb HB3.out HZ1.out.2.2.2.2.2)))
         have hvn : v.length ≤ 50 := by omega
         have HVS := Lib.hid hvs
         have hb0 := HB3.out.drew
         have HB4 := Lib.hid hb0
         have HQ4 : Hid (QC wU.heap.size U a9 cap9 r' (some ⟨g16, 0, none⟩) cap16 d' aV cV v wk.drew) := Lib.hid (QR.qc (HQ2.out.qr.below (b0 wk).drew) (HQ2.out.row.drew) hUB)
         have hk3 : (k : Int) < (k : Int) + 1 := by omega
         clear hgc y3 rwk hdk hb0 hwR hwD hRl
         go_upto_region 18 with fail
         refine wp_region_F (fun w' => w'.cell? ⟨U, 1, none⟩ = some (.slice (some ⟨g16, 0, none⟩) (k + 1) cap16) ∧ w'.cell? ⟨g16, k, none⟩ = some (.int .i64 dk) ∧ w'.cell? ⟨lb, lo + i * 4 + 2, none⟩ = some (.int .i64 (D : Int))) [] (by kernel_rfl) ?g3rgS (fun hHeld => ?g3rgR)
         case g3rgS => (try dsimp only); (exact HZ3.out)
         try dsimp only at hHeld
         refine wpAnyF_tks [0, 1, 2, 3, 4, 5, 6, 7, 8, 9, 10] 0 (by kernel_rfl) (fun _ _ _ _ _ h => h) (by assumption) ?_
         iterate 11 ((apply YA.take rfl (by rfl); case hy => intro w hSw; obtain ⟨s0, s1, s2⟩ := hSw; go_simp; try with_reducible rfl); try simp only [Act.put, pA, pB, pC])
         refine YA.nil ?_
         refine wpAnyF_done (by kernel_rfl) ?_
         clear hHeld HZ3
         generalize wk.drew = wd at *
         by_cases hdD : dk = (D : Int)
         ·have hde : (dk == (D : Int)) = true := by simp [hdD]
          have x2 : wd.cell? ⟨U, 2, none⟩ = some (.slice aV v.length cV) := HQ4.out.row.cell 2
          have HOV := Lib.hid HQ4.out.oV
          have hle4 := HQ4.out.le
          have tok2 : True := trivial
          clear hdD
          go_wp2_with (first
           | (at_builtin; have _t := tok2; clear tok2; clear _t; refine wpList_append (B := wU.heap.size) rfl _ _ _ _ rfl iv (.agg #[.int .i64 0, .string ByteArray.empty]) 24 Try.underlying40 hiv hz0v hz1v hz2v rfl rfl (HOV.out.alloc _) _ rfl _ _ (src_built (e' := 44) Try.underlying40 wd #[.int .i64 0, .string ⟨#[]⟩] 44 1 2 rfl (by simp [Value.oneCell'])) (by simp only [maxLen]; omega) (by omega) (by first | omega | (simp; omega) | simp) ?_; intro a7 cap7 w7 ho7 hc7 hn7); (have g7 := (HQ4.out.qr.below (ba (b0 wd) (.cells #[.int .i64 0, .string ⟨#[]⟩] 44))).pushV (Nat.succ_pos _) ho7 hc7 hn7); (have r7 := (HQ4.out.row.alloc (.cells #[.int .i64 0, .string ⟨#[]⟩] 44)).chg hc7 (fun h => by have := h.2.1; omega)); (have y3 := r7.cell 2); (have qf := r7.frozen); (have ql := r7.lt); (have HG7 := Lib.hid g7); (have HR7 := Lib.hid r7); (have HB7 := Lib.hid (Chg.bt (ba HB4.out (.cells #[.int .i64 0, .string ⟨#[]⟩] 44)) hc7 (fun k hk h => by have := h.2.1; omega))); clear ho7 hc7 hn7 g7 r7 x2
           | fail)
          go_roundw
          case rel =>
           have ev : (v ++ [(⟨0, ⟨#[]⟩⟩ : Vc)]).length = v.length + 1 := by simp
           refine ⟨k + 1, r', d', v ++ [(⟨0, ⟨#[]⟩⟩ : Vc)], a9, cap9, some ⟨g16, 0, none⟩, cap16, a7, cap7, by go_num, by omega, e1, e2, by omega, ?_, Lib.hid (QR.qc ?_ ?_ hUB), Lib.hid (HB7.out.setCell (p := ⟨U, 2, none⟩) hUw (.slice a7 (v.length + 1) cap7))⟩
           ·intro z hz
            rcases List.mem_append.1 hz with hz | hz
            ·exact HVS.out z hz
            ·rw [List.mem_singleton.1 hz]; show ByteArray.size ⟨#[]⟩ ≤ 150; decide
           ·rw [ev]
            have hvc : vcs (v ++ [(⟨0, ⟨#[]⟩⟩ : Vc)]) = vcs v ++ [.int .i64 0, .string ⟨#[]⟩] := by simp [vcs]
            rw [hvc]
            exact HG7.out.under hUB _
           ·rw [ev]; exact HR7.out.set 2 _
          case measure => simp [intOf]; omega
         ·have hde : (dk == (D : Int)) = false := beq_eq_false_iff_ne.2 hdD
          clear hdD
          go_wp2_with fail
          go_roundw
          case rel => exact ⟨k + 1, r', d', v, a9, cap9, some ⟨g16, 0, none⟩, cap16, aV, cV, by go_num, by omega, e1, e2, by omega, HVS.out, HQ4, HB4⟩
          case measure => simp [intOf]; omega
       ·go_wp2_with fail
        go_meet
        case rel => exact ⟨r, d, v, aR, cR, aD, cD, aV, cV, ⟨by show r.length ≤ 50; omega, by show d.length ≤ 50; omega, by show v.length ≤ 50; omega, hvs⟩, HQ, HB⟩
    ·go_wp2_with fail
     go_meet
     case rel => exact ⟨[], [], [], none, 0, none, 0, none, 0, ⟨by simp, by simp, by simp, by simp⟩, HQ0, HBU⟩
   case rest =>
    obtain ⟨r, d, v, aR, cR, aD, cD, aV, cV, hfc, HQ, HBc⟩ := hcut
    have HFC := Lib.hid hfc
    have hUB := HQ.out.bb
    have hszc := HBc.out.size
    have hoc := HOC.out.below HBc.out
    have HOCA := Lib.hid (hoc.below (ba (b0 wc) (.cells #[.slice aR r.length cR, .slice aD d.length cD, .slice aV v.length cV] 42)))
    have HOW := Lib.hid hoc.own
    have hlt := HOC.out.lt
    have hUw : wo.heap.size ≤ U := by have := HUE.out; omega
    have HCA := Lib.hid (HQ.out.clAt.go (ok' := fun b => b < (wc.alloc (.cells #[.slice aR r.length cR, .slice aD d.length cD, .slice aV v.length cV] 42)).heap.size ∧ ¬ blk aO b) (chF (ba (b0 wc) (.cells #[.slice aR r.length cR, .slice aD d.length cD, .slice aV v.length cV] 42))) (fun b hb h => ⟨fun h => h, by simp; omega, fun h2 => by have := hlt b h2; have h' : wU.heap.size ≤ b := h; omega⟩))
    have x0 : wc.cell? ⟨U, 0, none⟩ = some (.slice aR r.length cR) := HQ.out.row.cell 0
    have x1 : wc.cell? ⟨U, 1, none⟩ = some (.slice aD d.length cD) := HQ.out.row.cell 1
    have x2 : wc.cell? ⟨U, 2, none⟩ = some (.slice aV v.length cV) := HQ.out.row.cell 2
    have hfr : r.length ≤ 50 ∧ d.length ≤ 50 ∧ v.length ≤ 50 := ⟨hfc.1, hfc.2.1, hfc.2.2.1⟩
    clear hfc hoc hlt
    have tok3 : True := trivial
    go_wp2_with (first
     | (at_builtin; have _t := tok3; clear tok3; clear _t; refine wpList_append (B := w4.heap.size) rfl _ _ _ _ rfl ic (.agg #[.slice none 0 0, .slice none 0 0, .slice none 0 0]) 72 Try.underlying30 hic hz0c hz1c hz2c rfl rfl (HOW.out.alloc _) _ rfl _ _ (src_built (e' := 42) Try.underlying30 wc #[.slice aR r.length cR, .slice aD d.length cD, .slice aV v.length cV] 42 1 3 rfl (by simp [Value.oneCell'])) (by simp only [maxLen]; omega) (by omega) (by first | omega | (simp; omega) | simp) ?_; intro a9 cap9 w9 ho9 hc9 hn9); (have HO9 := Lib.hid (OCol.push HOCA.out HCA.out ho9 hc9 hn9)); (have HB9 := Lib.hid (Chg.bt (ba (bt HBW.out HBc.out) (.cells #[.slice aR r.length cR, .slice aD d.length cD, .slice aV v.length cV] 42)) hc9 (fun k hk h => by have := h.2.1; omega))); clear ho9 hc9 hn9 x0 x1 x2
     | fail)
    go_roundw
    case rel => exact ⟨i + 1, a9, cap9, L ++ [⟨r, d, v⟩], _, rfl, by go_num, by omega, HO9, Lib.hid (fun Y hY => by
     rcases List.mem_append.1 hY with hY | hY
     ·exact HFL.out Y hY
     ·rw [List.mem_singleton.1 hY]; exact HFC.out), HB9⟩
    case measure => simp [intOf]; omega
  ·obtain rfl : i = M := by omega
   have HCO := Lib.hid HOC.out.cols
   have HLL : Hid (L.length = (leafs l l.length).length) := Lib.hid (by rw [← HOC.out.len]; exact HM.out)
   have hil : i = L.length := HOC.out.len
   have HBr := Lib.hid (bt HB4.out HBW.out)
   have HSr := Lib.hid (slb HSC4.out HBW.out)
   have HDL : Hid (∀ X ∈ L, X.d.length ≤ 1000000) := Lib.hid (fun X hX => by have := (HFL.out X hX).2.1; omega)
   have HVL : Hid (∀ X ∈ L, ∀ v ∈ X.v, v.s.size ≤ maxLen) := Lib.hid (fun X hX v hv => by have := (HFL.out X hX).2.2.2 v hv; unfold maxLen; omega)
   subst hil
   clear HOC HBW HSC4 HB4 HOL HM
   obtain ⟨N, hN⟩ : ∃ N : Nat, (N : Int) = n % 4 := ⟨(n % 4).toNat, by have := Int.emod_nonneg n (show (4 : Int) ≠ 0 by decide); omega⟩
   have hN4 : N < 4 := by have := Int.emod_lt_of_pos n (show (0 : Int) < 4 by decide); omega
   go_wp2_with fail
   refine (within_16 n 4 wo (by decide) (by decide)).mono ?_
   rintro e w5 ⟨rfl, hw5⟩
   subst hw5
   rw [← hN]
   clear hN
   go_wp2_with fail
   refine (records16_v HSCH.out HWY.out HRP.out HR0.out a aO cap L.length cO L xs (N : Int) wo HSr.out HCO.out HDL.out HVL.out).mono ?_
   rintro e w6 ⟨x, xa, xc, ys, er, rfl, hsx, hrx, hb6, _, hqx⟩
   have hq1 := hqx (by rw [HLL.out]; omega)
   have HQ1 := Lib.hid hq1
   have HSX := Lib.hid hsx; have HRX := Lib.hid hrx
   have HB6 := Lib.hid (bt HBr.out hb6)
   have HS6 := Lib.hid (slb HSr.out hb6); have HC6 := Lib.hid (HCO.out.below hb6)
   clear hqx hq1 hsx hrx hb6
   go_wp2_with fail
   refine (rrecords16_v HSCH.out HH.out HRP.out HR0.out a aO cap L.length cO L xs (N : Int) w6 HS6.out HC6.out HDL.out HVL.out).mono ?_
   rintro e w7 ⟨y, ya, yc, zs, fr, rfl, hsy, hry, hb7, _, hqy⟩
   have hq2 := hqy (by rw [HLL.out]; omega)
   have HSY := Lib.hid (hsy.mono (ok' := fun b => b < w7.heap.size) (fun b hb _ => hb) (by decide)); have HRY := Lib.hid hry.at
   have HSX7 := Lib.hid (slb (HSX.out.mono (ok' := fun b => b < w6.heap.size) (fun b hb _ => hb) (by decide)) hb7)
   have HRX7 := Lib.hid (RowG.at (rowB (rowG_lt HRX.out) hb7))
   have HB7 := Lib.hid (bt HB6.out hb7)
   have HS7 := Lib.hid (slb HS6.out hb7); have HC7 := Lib.hid (HC6.out.below hb7)
   have HEQ : Hid (er = fr ∧ x = y ∧ ((er = 0 ∧ Good l sh L (N : Int) x) ∨ er = 10)) := Lib.hid (by
    rcases HQ1.out with ⟨e1, g1, u1⟩ | ⟨e1, g1, u1⟩ <;> rcases hq2 with ⟨e2, g2, u2⟩ | ⟨e2, g2, u2⟩
    ·exact ⟨by rw [e1, e2], u2 x g1, .inl ⟨e1, g1⟩⟩
    ·exact absurd g1 (u2 x)
    ·exact absurd g2 (u1 y)
    ·exact ⟨by rw [e1, e2], by rw [g1, g2], .inr e1⟩)
   obtain ⟨rfl, rfl, hg⟩ := HEQ.out
   have HG := Lib.hid hg
   clear hsy hry hb7 hqy hq2 HQ1 HEQ hg HSX HRX
   go_wp2_with fail
   refine (trees_v x x xa xc ys ya yc zs w7 HSX7.out HRX7.out HSY.out HRY.out).mono ?_
   rintro e w8 ⟨rfl, hb8⟩
   rw [sameL_refl]
   have HB8 := Lib.hid (bt HB7.out hb8)
   have HS8 := Lib.hid (slb HS7.out hb8); have HC8 := Lib.hid (HC7.out.below hb8)
   have HSX8 := Lib.hid (slb HSX7.out hb8); have HRX8 := Lib.hid (rowB (RowAt.g _ _ HRX7.out) hb8)
   clear hb8 HSX7 HRX7 HSY HRY HS7 HC7
   rcases HG.out with ⟨rfl, hg⟩ | rfl
   rotate_left
   ·go_wp2_with fail
    go_ret
    exact ⟨rfl, HB8.out⟩
   have HGD := Lib.hid hg
   have HXN : Hid (x.length = N) := Lib.hid (by have := hg.2.2; omega)
   clear hg HG
   go_wp2_with fail
   refine (RCols_v HSCH.out HH.out HR0.out HRP.out x a xa cap xc ys w8 HS8.out HSX8.out HRX8.out).mono ?_
   intro e w9 hq
   obtain ⟨ac, nc, cc, xc2, rfl, hcol, hb9⟩ := CQ.ofR hq
   rw [HGD.out.1]
   rw [HGD.out.2.1] at hcol
   have hcn := hcol.n
   subst hcn
   have HCB := Lib.hid hcol
   have HB9 := Lib.hid (bt HB8.out hb9)
   have HC9 := Lib.hid (HC8.out.below hb9)
   have HSX9 := Lib.hid (slb HSX8.out hb9); have HRX9 := Lib.hid (rowB HRX8.out hb9); have HS9 := Lib.hid (slb HS8.out hb9)
   have hxb : ((x.length : Int) != (N : Int)) = false := by simp [HXN.out]
   clear hcol hb9 hq HSX8 HRX8 HC8 HS8
   go_wp2_with fail
   go_loopw [20] (fun jv wq => ∃ j : Nat, jv = .int .i64 (j : Int) ∧ j ≤ L.length ∧ Hid (Below w9.heap.size w9 wq)) (fun jv _ => L.length - (intOf jv).toNat)
   case atStart => exact ⟨0, rfl, Nat.zero_le _, Lib.hid (b0 _)⟩
   case round =>
    obtain ⟨j, rfl, hj, HBQ⟩ := hrel
    by_cases hjl : j < L.length
    ·obtain ⟨xb, xo, e0, f0, e1, f1, e2, f2, rfl, x0, x1, x2, hxc⟩ := (HCB.out.below HBQ.out).get j hjl
     obtain ⟨yb, yo, g0, d0, g1, d1, g2, d2, rfl, y0, y1, y2, hyc⟩ := (HC9.out.below HBQ.out).get j hjl
     have HZ := Lib.hid (And.intro x0 (And.intro x1 (And.intro x2 (And.intro y0 (And.intro y1 y2)))))
     have HSAME := Lib.hid (rsame_v _ _ e0 e1 e2 g0 g1 g2 f0 f1 f2 d0 d1 d2 wr.drew (hxc.below (b0 wr).drew) (hyc.below (b0 wr).drew))
     have hj1 : (j : Int) < (L.length : Int) := by omega
     generalize L[j] = X at *
     generalize X.r.length = n0 at *
     generalize X.d.length = n1 at *
     generalize X.v.length = n2 at *
     clear x0 x1 x2 y0 y1 y2 hxc hyc
     go_wp2_with fail
     refine wp_region_F (fun w' => w'.cell? ⟨xb, xo + j * 3, none⟩ = some (.slice e0 n0 f0) ∧ w'.cell? ⟨xb, xo + j * 3 + 1, none⟩ = some (.slice e1 n1 f1) ∧ w'.cell? ⟨xb, xo + j * 3 + 2, none⟩ = some (.slice e2 n2 f2) ∧ w'.cell? ⟨yb, yo + j * 3, none⟩ = some (.slice g0 n0 d0) ∧ w'.cell? ⟨yb, yo + j * 3 + 1, none⟩ = some (.slice g1 n1 d1) ∧ w'.cell? ⟨yb, yo + j * 3 + 2, none⟩ = some (.slice g2 n2 d2)) [] (by kernel_rfl) ?g4rgS (fun hHeld => ?g4rgR)
     case g4rgS => (try dsimp only); (first | exact HZ.out | exact ⟨cb hb8 HZ.out.1, cb hb8 HZ.out.2.1, cb hb8 HZ.out.2.2.1, cb hb8 HZ.out.2.2.2.1, cb hb8 HZ.out.2.2.2.2.1, cb hb8 HZ.out.2.2.2.2.2⟩)
     try dsimp only at hHeld
     refine wpAnyF_tks [0, 1, 2, 3, 4, 5, 6, 7] 2 (by kernel_rfl) (fun _ _ _ _ _ h => h) (by assumption) ?_
     iterate 8 ((apply YA.take rfl (by rfl); case hy => intro w hSw; obtain ⟨s0, s1, s2, s3, s4, s5⟩ := hSw; go_simp; try with_reducible rfl); try simp only [Act.put, pA, pB, pC])
     refine YA.nil ?_
     refine wpAnyF_ready [8] (by kernel_rfl) (by simp) ?_
     refine AllReadyF.con 8 rfl (fun K hK => ?g4ro1) ?g4rm1
     case g4rm1 => exact AllReadyF.nil
     go_simp; refine HSAME.out.mono ?_; rintro e w8' ⟨t, rfl, ht, hb8⟩; dsimp only; (obtain rfl : t = true := ht.2 (by first | rfl | trivial))
     refine hK.out _ _ ?g4rs1 (fun hHeld => ?g4rt1)
     case g4rs1 => (try dsimp only); (first | exact HZ.out | exact ⟨cb hb8 HZ.out.1, cb hb8 HZ.out.2.1, cb hb8 HZ.out.2.2.1, cb hb8 HZ.out.2.2.2.1, cb hb8 HZ.out.2.2.2.2.1, cb hb8 HZ.out.2.2.2.2.2⟩)
     try dsimp only at hHeld
     clear hK K
     try simp only [Act.put, pA, pB, pC]
     refine wpAnyF_tks [9] 0 (by kernel_rfl) (fun _ _ _ _ _ h => h) (by assumption) ?_
     iterate 1 ((apply YA.take rfl (by rfl); case hy => intro w hSw; obtain ⟨s0, s1, s2, s3, s4, s5⟩ := hSw; go_simp; try with_reducible rfl); try simp only [Act.put, pA, pB, pC])
     refine YA.nil ?_
     refine wpAnyF_done (by kernel_rfl) ?_
     clear hHeld
     have HBX := Lib.hid (bt HBQ.out (bt (b0 wr).drew hb8))
     clear ht hb8
     go_wp2_with fail
     go_roundw
     case rel => exact ⟨j + 1, by go_num, by omega, HBX⟩
     case measure => simp [intOf]; omega
    ·obtain rfl : j = L.length := by omega
     have HBF := Lib.hid (bt HB9.out HBQ.out)
     by_cases hx0 : x.length = 0
     ·have hxb : ((x.length : Int) == 0) = true := by simp [hx0]
      clear hx0
      go_wp2_with fail
      go_ret
      exact ⟨rfl, HBF.out⟩
     ·have hxb0 : ((x.length : Int) == 0) = false := beq_eq_false_iff_ne.2 (by omega)
      have hx1 : 0 < x.length := by omega
      obtain ⟨xb, xo, rfl, _, hxc⟩ := (slb HSX9.out HBQ.out).pos hx1
      obtain ⟨ta, tcap, y0, y1, y2, ht⟩ := rowG_at (rowB HRX9.out HBQ.out) 0 hx1
      have q0 := hxc _ _ y0; have q1 := hxc _ _ y1; have q2 := hxc _ _ y2
      simp only [Nat.zero_mul, Nat.zero_add, Nat.add_zero] at q0 q1 q2
      have HFT := Lib.hid (HGD.out.fit _ (List.getElem_mem hx1))
      have HT := Lib.hid ht.at
      have hx2 : (0 : Int) < (x.length : Int) := by omega
      generalize x[0] = t at *
      clear hxc y0 y1 y2 ht hx1
      go_wp2_with fail
      refine (rFits_v l HSCH.out.wf HSCH.out.goodK t a cap ta tcap wr (slb HS9.out HBQ.out) HT.out).mono ?_
      rintro e w10 ⟨rfl, hb10⟩
      rw [HFT.out]
      have HBF2 := Lib.hid (bt HBF.out hb10)
      clear hb10
      go_wp2_with fail
      go_ret
      exact ⟨rfl, HBF2.out⟩
end Go.Proofs.Ytjbkjfefjhbolaa
