/-
 The walk of ShredCuts.
-/
import Derived.Test.YtibhcibcfommeaaCutX14
import Derived.Test.YtibhcibcfommeaaRCut14
import Derived.Test.YtibhcibcfommeaaSSame14
import Derived.Test.YtibhcibcfommeaaColR14
import Derived.Test.YtibhcibcfommeaaWith14
import Derived.Deep.CutRange
set_option linter.unusedSimpArgs false
namespace Go.Proofs.Ytibhcibcfommeaa
open Go.RowKit Go.Shr
theorem stA_lt {x : Cl} {i j : Nat} (hij : i < j) (h : j < (stL x).length) : stA x (i : Int) < stA x (j : Int) := by
 have h1 := List.pairwise_iff_getElem.1 (stL_pw x) i j (by omega) h hij
 have h2 := stA_get (x := x) (i := i) (by omega); have h3 := stA_get h
 omega
theorem cells_iff {l : List Fl} {sh : Sh} (hS : Sch l sh) (h0 : sh.rep = 0) {lf : Nat} (hlf : lf < l.length) (hk : (flN l lf).kind ≠ 0) : ∀ (rows : List Tr), (∀ t ∈ rows, okT sh t) → ∀ c ∈ rowsC lf sh rows, (c.d = lvD l lf ↔ c.v.isSome = true) := by
 intro rows h c hc
 obtain ⟨t, ht, hct⟩ := List.mem_flatMap.1 hc
 have hl := hS.len
 have hz : lvR l 0 = 0 ∧ lvD l 0 = 0 := by
  unfold lvR lvD
  rw [chain_zero]
  obtain ⟨nm, rp, kd, ks⟩ := sh
  have h1 := hS.ix
  simp only [Ix] at h1
  simp only [Sh.rep] at h0
  obtain ⟨hl0, he0⟩ := List.getElem?_eq_some_iff.1 h1.1
  rw [cntR_cons, cntD_cons, flN_eq hl0, he0]
  dsimp only
  rw [h0]
  simp [cntR, cntD]
 have hv := valC_ok (by rw [par_length]; exact hlf) hk sh 0 0 t hS.ix (by rw [par_length]; omega) hS.good (h t ht) (Nat.zero_le _) (by omega)
 rw [hz.1, hz.2] at hv
 obtain ⟨_, _, _, _, _, hd⟩ := hv
 exact (hd c hct).2
theorem celV_app2 (A B : List Cel) : celV (A ++ B) = celV A ++ celV B := by simp [celV]
theorem Sl.src0 {P : Program} {ok : Nat → Prop} {w : World} {a : Option Addr} {n cap size : Nat} {tx e' : TypeId} (hk : P.underlying tx = some (.slice e')) (h : Sl ok w size a n cap []) (hn : n = 0) : Src P size tx (.slice a n cap) 0 [] w := by
 subst hn
 exact h.src hk (fun u h => by cases h)
theorem ClAt.set3' {lo bx : Nat} {W : World} {c : Cl} {a0 a1 a2 : Option Addr} {c0 c1 c2 : Nat} (h : ClAt (fun b => lo ≤ b ∧ b < W.heap.size ∧ b ≠ bx) W c a0 c0 a1 c1 a2 c2) (u0 u1 u2 : Value) :
  ClAt (fun b => lo ≤ b ∧ b < (((W.setCell ⟨bx, 0, none⟩ u0).setCell ⟨bx, 1, none⟩ u1).setCell ⟨bx, 2, none⟩ u2).heap.size ∧ b ≠ bx) (((W.setCell ⟨bx, 0, none⟩ u0).setCell ⟨bx, 1, none⟩ u1).setCell ⟨bx, 2, none⟩ u2) c a0 c0 a1 c1 a2 c2 :=
 h.go (S := fun g => g = bx) (cset3 (Chg.refl (fun g => g = bx) W) rfl) (fun b _ h => ⟨fun he => h.2.2 he, h.1, by simpa using h.2.1, h.2.2⟩)
theorem OutQ.app {b22 B m : Nat} {L P : List Cel} {W : World} {aa : Nat → Option Addr} {n cc : Nat → Nat} {X : Nat → List Value} {x0 x1 x2 : Value} (how : OW B W 3 tyC szC aa n cc X) (row : Rw W b22 #[x0, x1, x2] 46) (hb : b22 < B)
  (h0 : n 0 = L.length + P.length) (h1 : n 1 = L.length + P.length) (h2 : n 2 = (celV L).length + (celV P).length) (hx0 : X 0 = celR L ++ celR P) (hx1 : X 1 = celD L ++ celD P) (hx2 : X 2 = vcs (celV L) ++ vcs (clC P).v) (hm : m = (celV L).length + (celV P).length) :
  OutQ b22 B (L ++ P) (((W.setCell ⟨b22, 0, none⟩ (.slice (aa 0) (L.length + P.length) (cc 0))).setCell ⟨b22, 1, none⟩ (.slice (aa 1) (L.length + P.length) (cc 1))).setCell ⟨b22, 2, none⟩ (.slice (aa 2) m (cc 2))) := by
 subst hm
 refine ⟨aa, cc, (how.chg (cset3 (Chg.refl (fun b => b = b22) W) rfl) (fun g hg _ he => by have he' : g = b22 := he; omega)).congr (fun _ _ => rfl) (three3 ?_ ?_ ?_) (fun _ _ => rfl) (three3 ?_ ?_ ?_), ?_⟩
 ·rw [h0]; simp [n3, nC]
 ·rw [h1]; simp [n3, nC]
 ·rw [h2]; simp [n3, nC, celV_app2]
 ·rw [hx0]; simp [x3, xC, celR]
 ·rw [hx1]; simp [x3, xC, celD]
 ·rw [hx2]; simp [x3, xC, celV_app2, vcs, clC]
 ·have h := Rw.set3 row (u0 := .slice (aa 0) (L.length + P.length) (cc 0)) (u1 := .slice (aa 1) (L.length + P.length) (cc 1)) (u2 := .slice (aa 2) ((celV L).length + (celV P).length) (cc 2))
  simpa [celV_app2] using h
set_option maxHeartbeats 1500000 in
set_option maxRecDepth 100000 in
theorem law_cuts (a0 : Option Addr) (n0 c0 : Nat) (z0 : List Int) (a1 : Option Addr) (n1 c1 : Nat) (zz : List (List Int)) (xs1 : List Value) (which from_ to_ by_ : Int) (w : World) (h0 : Sl (fun b => b < w.heap.size) w 1 a0 n0 c0 (ints z0)) (w0 : ∀ z ∈ z0, (Lit.int .i64 z).wf = true) (h1 : Sl (fun b => b < w.heap.size) w 1 a1 n1 c1 xs1) (h1r : IRows w zz xs1) (w1 : ∀ z ∈ zz, ∀ v ∈ z, (Lit.int .i64 v).wf = true) (_ : (Lit.int .i64 which).wf = true) (_ : (Lit.int .i64 from_).wf = true) (_ : (Lit.int .i64 to_).wf = true) (_ : (Lit.int .i64 by_).wf = true) :
  Calls Try.prog 10 #[.slice a0 n0 c0, .slice a1 n1 c1, .int .i64 which, .int .i64 from_, .int .i64 to_, .int .i64 by_] w fun e w' => e = .returned (.bool true) ∧ Below w.heap.size w w' := by
 obtain ⟨ii, hii, hz0i, hz1i, hz2i⟩ := info_parts info_i
 obtain ⟨iv, hiv, hz0v, hz1v, hz2v⟩ := info_parts info_vl
 have hrn : n1 = zz.length := by have h1' := h1.len; have h2 := h1r.len; omega
 subst hrn
 have hmx := Nat.le_trans h1.le h1.max
 unfold maxLen at hmx
 have H0 := Lib.hid h0; have H1 := Lib.hid h1; have HR := Lib.hid h1r; have W0 := Lib.hid w0; have W1 := Lib.hid w1
 clear h0 h1 h1r w0 w1
 go_enter Try.func10, Try.ntmps10
 go_wp2_with fail
 refine (known14 _).mono ?_
 rintro e w1 ⟨rfl, hb1⟩
 have HB1 := Lib.hid hb1; clear hb1
 go_wp2_with fail
 refine (make5 a0 n0 c0 z0 w1 (slb H0.out HB1.out) W0.out).mono ?_
 rintro e w2 ⟨a, cap, rfl, ho, hb2⟩
 have HSC := Lib.hid (Sl.mono (ok' := fun b => b < w2.heap.size) ho.sl (fun k hk _ => hk) (by decide))
 have HB2 := Lib.hid (bt HB1.out hb2)
 clear ho hb2
 go_wp2_with fail
 refine (many_v (makeL z0) (makeSh z0) (make_sch z0) a cap a1 zz.length c1 zz xs1 w2 HSC.out (slb H1.out HB2.out) (HR.out.below HB2.out) W1.out).mono ?_
 rintro e w3 ⟨al, cl, ys, rfl, hsl, hrow, hb3⟩
 have HB3 := Lib.hid (bt HB2.out hb3); have HSC3 := Lib.hid (slb HSC.out hb3)
 have HSL := Lib.hid (hsl.mono (ok' := fun b => b < w3.heap.size) (fun k hk _ => hk) (by decide))
 have HROW := Lib.hid (RowAt.g _ _ hrow.at)
 have hx16 := manyT_len (makeSh z0) zz
 have HXL : Hid ((manyT (makeSh z0) zz).length = min 16 zz.length) := Lib.hid (by simp [manyT])
 have HSCH := Lib.hid (make_sch z0)
 have HZ := Lib.hid (made_colsE (make_sch z0) (make_hgt z0) (many_ok14 W1.out (makeSh z0)) (many_th z0 zz) hx16)
 have HOKS := Lib.hid (many_ok14 W1.out (makeSh z0)); have HR0 := Lib.hid (makeSh_good z0).2.2.1
 have HRP := Lib.hid (make_rep z0); have HHG := Lib.hid (make_hgt z0)
 have HCN : Hid (∀ (lf : Nat), (rowsC lf (makeSh z0) (manyT (makeSh z0) zz)).length ≤ (manyT (makeSh z0) zz).length * 243) := Lib.hid (fun lf => rows_cnt (make_hgt z0) _ (many_th z0 zz))
 have hl14 := (make_len z0).2
 generalize manyT (makeSh z0) zz = x at *
 generalize makeL z0 = l at *
 generalize makeSh z0 = sh at *
 have hmm := leafs_le (l := l) (m := l.length)
 have hmp := HSCH.out.leaf
 clear hsl hrow hb3 HB2 HSC HB1 H0 H1 HR W0 W1
 go_wp2_with fail
 refine (RCols_v HSCH.out HHG.out HR0.out HRP.out x a al cap cl ys w3 HSC3.out HSL.out HROW.out).mono ?_
 rintro e w4 ⟨hb4, ⟨hne, _⟩ | ⟨_, B, bc, rcap, cur, aa, cc, rfl, hbc, hrcm, hct⟩⟩
 ·exact absurd HZ.out hne
 have HB4 := Lib.hid (bt HB3.out hb4); have HCT := Lib.hid hct; have HSC4 := Lib.hid (slb HSC3.out hb4)
 clear hb4 hct HSL HROW HRP HHG HB3 HSC3 HZ
 go_wp2_with fail
 refine (leaves_v a cap l w4 HSC4.out (by omega) HSCH.out.kids).mono ?_
 rintro e w5 ⟨aL, cL, rfl, oL, hb5⟩
 have HB5 := Lib.hid (bt HB4.out hb5)
 have HCT5 := Lib.hid (HCT.out.below hb5); have HOL := Lib.hid oL
 clear oL hb5 HCT HB4 HSC4
 go_wp2_with fail
 refine (within_14 which ((leafs l l.length).length : Int) w5 (by omega) (by omega)).mono ?_
 rintro e w6 ⟨rfl, rfl⟩
 obtain ⟨k, hk⟩ : ∃ k : Nat, which % ((leafs l l.length).length : Int) = (k : Int) := ⟨(which % ((leafs l l.length).length : Int)).toNat, (Int.toNat_of_nonneg (Int.emod_nonneg _ (by omega))).symm⟩
 have hkm : k < (leafs l l.length).length := by have := Int.emod_lt_of_pos which (show (0 : Int) < ((leafs l l.length).length : Int) by omega); omega
 rw [hk]
 clear hk
 have hlf := leafs_mem.1 (List.getElem_mem hkm)
 have hgk : (leafs l l.length).getD k 0 = (leafs l l.length)[k] := by simp [List.getD, hkm]
 have HCOLX : Hid (ColX (clC (rowsC ((leafs l l.length).getD k 0) sh x)) (lvD l (leafs l l.length)[k] : Int) x.length) := Lib.hid (colX (by rw [hgk]; exact rows_ok HSCH.out HR0.out hlf.1 hlf.2 x HOKS.out) (fun hn => by rw [List.eq_nil_of_length_eq_zero hn]; rfl) (by have := HCN.out ((leafs l l.length).getD k 0); omega))
 have HVD : Hid (∀ c ∈ rowsC ((leafs l l.length).getD k 0) sh x, (c.d = lvD l (leafs l l.length)[k] ↔ c.v.isSome = true)) := Lib.hid (by rw [hgk]; exact cells_iff HSCH.out HR0.out hlf.1 hlf.2 x HOKS.out)
 have k0 := HCT5.out.cell0 hkm; have k1 := HCT5.out.cell1 hkm; have k2 := HCT5.out.cell2 hkm
 have hcl := HCT5.out.clAt hkm
 obtain ⟨gL, hgL, _, _, hcL, _⟩ := HOL.out.pos (by omega)
 obtain ⟨f0, f1, f2, f3⟩ := lvs_get l (leafs l l.length) k hkm
 have l0 := hcL _ _ f0; have l1 := hcL _ _ f1; have l2 := hcL _ _ f2; have l3 := hcL _ _ f3
 subst hgL
 have hCl : (rowsC ((leafs l l.length).getD k 0) sh x).length ≤ 4000 := by have := HCN.out ((leafs l l.length).getD k 0); omega
 have hkr : k < rcap := by have := HCT5.out.le; omega
 generalize lvD l (leafs l l.length)[k] = D at *
 generalize lvR l (leafs l l.length)[k] = R0 at *
 generalize (flN l (leafs l l.length)[k]).kind = K0 at *
 generalize (leafs l l.length)[k] = lf at *
 try dsimp only at k0 k1 k2 hcl
 generalize rowsC ((leafs l l.length).getD k 0) sh x = C at *
 generalize aa (k * 3) = x0 at *; generalize aa (k * 3 + 1) = x1 at *; generalize aa (k * 3 + 2) = x2 at *
 generalize cc (k * 3) = y0 at *; generalize cc (k * 3 + 1) = y1 at *; generalize cc (k * 3 + 2) = y2 at *
 clear hgk hlf f0 f1 f2 f3 hcL HOL HOKS HR0 HCN HSCH HCT5
 have HCL5 := Lib.hid hcl
 have HL5 := Lib.hid (And.intro l0 (And.intro l1 (And.intro l2 l3)))
 clear hcl l0 l1 l2 l3 hmm hl14
 generalize (leafs l l.length).length = m at *
 go_upto_region 8 with fail
 refine gen_wz (fun w7 hw7 => ?_)
 have hb7 : Below w5.heap.size w5 w7 := by rw [hw7]; first | exact ba (b0 w5) _ | exact bset3 (ba (b0 w5) _) (Nat.le_refl _)
 have r18 : Rw w7 w5.heap.size #[.slice x0 C.length y0, .slice x1 C.length y1, .slice x2 (celV C).length y2] 46 := by rw [hw7]; first | exact Rw.new w5 _ _ | exact Rw.set3 (Rw.new w5 _ _)
 clear hw7 k0 k1 k2
 obtain ⟨b18, hb18⟩ : ∃ b, b = w5.heap.size := ⟨_, rfl⟩
 rw [← hb18] at r18 ⊢
 have HCL7 := Lib.hid (HCL5.out.below hb7)
 have HT7 := Lib.hid (And.intro (show w7.cell? ⟨b18, 0, none⟩ = some (.slice x0 C.length y0) from r18.cell 0) (And.intro (show w7.cell? ⟨b18, 1, none⟩ = some (.slice x1 C.length y1) from r18.cell 1) (And.intro (show w7.cell? ⟨b18, 2, none⟩ = some (.slice x2 (celV C).length y2) from r18.cell 2) (And.intro (cb hb7 HL5.out.1) (And.intro (cb hb7 HL5.out.2.1) (And.intro (cb hb7 HL5.out.2.2.1) (cb hb7 HL5.out.2.2.2)))))))
 have HB7 := Lib.hid (bt HB5.out hb7)
 clear hb7 r18 hb18 HCL5 HL5 HB5
 have hxr : (clC C).r.length = C.length := by simp [clC]
 have hxd : (clC C).d.length = C.length := by simp [clC]
 have hxv : (clC C).v.length = (celV C).length := rfl
 -- what the calls tell of the column
 have h1 := fun (W : World) (hW : Below w7.heap.size w7 W) => starts_v (clC C) x0 x1 x2 y0 y1 y2 W (HCL7.out.below hW) (by omega)
 have h2 := fun (W : World) (hW : Below w7.heap.size w7 W) => rstarts_v (clC C) x0 x1 x2 y0 y1 y2 W (HCL7.out.below hW) (by omega)
 have h3 := fun (W : World) (hc : ClAt (fun b => b < W.heap.size) W (clC C) x0 y0 x1 y1 x2 y2) (f t : Int) => cut_v (clC C) (D : Int) f t (lf : Int) (R0 : Int) K0 x0 x1 x2 y0 y1 y2 W hc (by omega) HCOLX.out.len HCOLX.out.val
 rw [hxr, hxd, hxv] at h1 h2 h3
 have HST := Lib.hid h1; have HRST := Lib.hid h2; have HCUT := Lib.hid h3
 have HRCUT := Lib.hid (fun (W : World) (hc : ClAt (fun b => b < W.heap.size) W (clC C) x0 y0 x1 y1 x2 y2) (f t : Int) => rcut_v C D f t (lf : Int) (R0 : Int) K0 x0 x1 x2 y0 y1 y2 W hc (by omega) HVD.out)
 have hbeg := HCOLX.out.beg
 have HBEG := Lib.hid hbeg
 clear h1 h2 h3 hxr hxd hxv hbeg
 refine wp_region_F (fun w' => w'.cell? ⟨b18, 0, none⟩ = some (.slice x0 C.length y0) ∧ w'.cell? ⟨b18, 1, none⟩ = some (.slice x1 C.length y1) ∧ w'.cell? ⟨b18, 2, none⟩ = some (.slice x2 (celV C).length y2)) [4, 5] (by kernel_rfl) ?g47rgS (fun hHeld => ?g47rgR)
 case g47rgS => (try dsimp only); (first | exact ⟨cb (b0 w7).drew HT7.out.1, cb (b0 w7).drew HT7.out.2.1, cb (b0 w7).drew HT7.out.2.2.1⟩ | exact ⟨cb HBW HT7.out.1, cb HBW HT7.out.2.1, cb HBW HT7.out.2.2.1⟩)
 try dsimp only at hHeld
 (have HBW : Below w7.heap.size w7 w7.drew := (b0 w7).drew)
 refine wpAnyF_take 0 (oi := ⟨some 47, .load 46 (.tmp 18), 46, "law.go:78", #[], none⟩) (v := ?g47rv1) rfl (by kernel_rfl) (fun _ _ _ h => h) (by assumption) (by rfl) ?g47ry1 ?g47rr1
 case g47ry1 => intro w hSw; obtain ⟨s0, s1, s2⟩ := hSw; go_simp; try with_reducible rfl
 try simp only [Act.put, pA, pB, pC]
 refine wpAnyF_take 2 (oi := ⟨some 49, .load 46 (.tmp 18), 46, "law.go:78", #[], none⟩) (v := ?g47rv2) rfl (by kernel_rfl) (fun _ _ _ h => h) (by assumption) (by rfl) ?g47ry2 ?g47rr2
 case g47ry2 => intro w hSw; obtain ⟨s0, s1, s2⟩ := hSw; go_simp; try with_reducible rfl
 try simp only [Act.put, pA, pB, pC]
 refine wpAnyF_ready [1] (by kernel_rfl) (by simp) ?_
 refine AllReadyF.cons 1 (o := ⟨some 48, .call { callee := .value (.func 24), args := #[.tmp 47], argTypes := #[46] }, 22, "law.go:78", #[⟨0, .data⟩], none⟩) rfl (fun K hK => ?g47ro3) ?g47rm3
 case g47rm3 => exact AllReadyF.nil
 go_simp; refine (HST.out _ HBW).mono ?_; rintro e w8 ⟨as', cs, rfl, hos, hbk⟩; dsimp only; (replace HBW := bt HBW hbk)
 refine hK.out _ _ ?g47rs3 (fun hHeld => ?g47rt3)
 case g47rs3 => (try dsimp only); (first | exact ⟨cb (b0 w7).drew HT7.out.1, cb (b0 w7).drew HT7.out.2.1, cb (b0 w7).drew HT7.out.2.2.1⟩ | exact ⟨cb HBW HT7.out.1, cb HBW HT7.out.2.1, cb HBW HT7.out.2.2.1⟩)
 try dsimp only at hHeld
 clear hK K
 try simp only [Act.put, pA, pB, pC]
 refine wpAnyF_ready [3] (by kernel_rfl) (by simp) ?_
 refine AllReadyF.cons 3 (o := ⟨some 50, .call { callee := .value (.func 25), args := #[.tmp 49], argTypes := #[46] }, 22, "law.go:78", #[⟨2, .data⟩, ⟨1, .chain⟩], none⟩) rfl (fun K hK => ?g47ro4) ?g47rm4
 case g47rm4 => exact AllReadyF.nil
 go_simp; refine (HRST.out _ HBW).mono ?_; rintro e w9 ⟨ar, cr, rfl, hor, hbk2⟩; dsimp only; (replace HBW := bt HBW hbk2)
 refine hK.out _ _ ?g47rs4 (fun hHeld => ?g47rt4)
 case g47rs4 => (try dsimp only); (first | exact ⟨cb (b0 w7).drew HT7.out.1, cb (b0 w7).drew HT7.out.2.1, cb (b0 w7).drew HT7.out.2.2.1⟩ | exact ⟨cb HBW HT7.out.1, cb HBW HT7.out.2.1, cb HBW HT7.out.2.2.1⟩)
 try dsimp only at hHeld
 clear hK K
 try simp only [Act.put, pA, pB, pC]
 refine wpAnyF_ready [4] (by kernel_rfl) (by simp) ?_
 refine AllReadyF.last 4 (o := ⟨some 19, .assign (.tmp 48), 22, "law.go:78", #[⟨1, .data⟩, ⟨3, .chain⟩, ⟨0, .phase⟩, ⟨1, .phase⟩, { on := 2, ground := Go.Ground.textOnly Go.Departure.lateStores }, { on := 3, ground := Go.Ground.textOnly Go.Departure.lateStoresUnsure }], none⟩) rfl (by kernel_rfl) (fun K hK => ?g47ro5) ?g47rm5
 case g47rm5 => exact AllReadyF.nil
 go_simp
 refine hK.out _ _ ?_
 clear hK K
 try simp only [Act.put, pA, pB, pC]
 refine wpAnyF_ready [5] (by kernel_rfl) (by simp) ?_
 refine AllReadyF.last 5 (o := ⟨some 20, .assign (.tmp 50), 22, "law.go:78", #[⟨3, .data⟩, ⟨4, .chain⟩, ⟨0, .phase⟩, ⟨1, .phase⟩, ⟨2, .phase⟩, ⟨3, .phase⟩, ⟨4, .phase⟩], none⟩) rfl (by kernel_rfl) (fun K hK => ?g47ro6) ?g47rm6
 case g47rm6 => exact AllReadyF.nil
 go_simp
 refine hK.out _ _ ?_
 clear hK K
 try simp only [Act.put, pA, pB, pC]
 refine wpAnyF_done (by kernel_rfl) ?_
 have HO1 := Lib.hid (hos.below hbk2); have HO2 := Lib.hid hor
 have HBW9 := Lib.hid HBW
 clear hHeld HBW hbk hbk2 hos hor HST HRST
 have hNx : (startsF 0 (clC C).r).length ≤ 16 := by rw [HBEG.out]; omega
 have HNM : Hid ((startsF 0 (clC C).r).length = min 16 zz.length) := Lib.hid (by rw [HBEG.out, HXL.out])
 obtain ⟨N, hN⟩ : ∃ N, N = (startsF 0 (clC C).r).length := ⟨_, rfl⟩
 have HND := Lib.hid hN
 rw [← hN] at hNx HNM HO1 HO2 ⊢
 clear hN
 have hee : ((N : Int) != (N : Int)) = false := by simp
 go_upto_if 63 with fail
 go_cut [19] from 51 to 63 (fun v wd => v = .slice as' N cs ∧ w9 = wd)
 case first =>
  by_cases h16 : 16 < zz.length
  ·have h16' : (16 : Int) < (zz.length : Int) := by omega
   have hnb : ((N : Int) != 16) = false := by have := HNM.out; simp; omega
   clear h16
   go_wp2_with fail
   go_meet
   case rel => exact ⟨rfl, rfl⟩
  ·have h16' : ¬ (16 : Int) < (zz.length : Int) := by omega
   have hnb : ((N : Int) != (zz.length : Int)) = false := by have := HNM.out; simp; omega
   clear h16
   go_wp2_with fail
   go_meet
   case rel => exact ⟨rfl, rfl⟩
 case rest =>
  obtain ⟨rfl, hwc⟩ := hcut
  subst hwc
  clear hee
  go_wp2_with fail
  go_loopw [21] (fun iv wr => ∃ i : Nat, iv = .int .i64 (i : Int) ∧ i ≤ N ∧ Hid (Below w9.heap.size w9 wr)) (fun iv _ => N - (intOf iv).toNat)
  case atStart => exact ⟨0, rfl, Nat.zero_le _, Lib.hid (b0 w9)⟩
  case round =>
   obtain ⟨i, rfl, hi, HB⟩ := hrel
   by_cases hiN : i < N
   ·obtain ⟨ga, hga, _, _, hgac, _⟩ := HO1.out.pos (by omega)
    obtain ⟨gb, hgb, _, _, hgbc, _⟩ := HO2.out.pos (by omega)
    subst hga hgb
    have hil : i < (startsF 0 (clC C).r).length := by have := HND.out; omega
    have e0 := cb HB.out (hgac i _ (ints_get _ _ hil)); have e1 := cb HB.out (hgbc i _ (ints_get _ _ hil))
    generalize (startsF 0 (clC C).r)[i] = z at *
    have HZ := Lib.hid (And.intro e0 e1)
    have hzb : (z != z) = false := by simp
    clear hgac hgbc hil
    go_upto_region 14 with fail
    clear e0 e1
    refine wp_region_F (fun w' => w'.cell? ⟨ga, i, none⟩ = some (.int .i64 z) ∧ w'.cell? ⟨gb, i, none⟩ = some (.int .i64 z)) [] (by kernel_rfl) ?g48rgS (fun hHeld => ?g48rgR)
    case g48rgS => (try dsimp only); (exact HZ.out)
    try dsimp only at hHeld
    refine wpAnyF_take 0 (oi := ⟨some 70, .move (.tmp 19), 22, "law.go:83", #[], none⟩) (v := ?g48rv1) rfl (by kernel_rfl) (fun _ _ _ h => h) (by assumption) (by rfl) ?g48ry1 ?g48rr1
    case g48ry1 => intro w hSw; obtain ⟨s0, s1⟩ := hSw; go_simp; try with_reducible rfl
    try simp only [Act.put, pA, pB, pC]
    refine wpAnyF_take 1 (oi := ⟨some 71, .move (.tmp 21), 3, "law.go:83", #[], none⟩) (v := ?g48rv2) rfl (by kernel_rfl) (fun _ _ _ h => h) (by assumption) (by rfl) ?g48ry2 ?g48rr2
    case g48ry2 => intro w hSw; obtain ⟨s0, s1⟩ := hSw; go_simp; try with_reducible rfl
    try simp only [Act.put, pA, pB, pC]
    refine wpAnyF_take 2 (oi := ⟨some 72, .indexAddr 22 (.tmp 70) (.tmp 71), 0, "law.go:83", #[⟨0, .data⟩, ⟨1, .data⟩], none⟩) (v := ?g48rv3) rfl (by kernel_rfl) (fun _ _ _ h => h) (by assumption) (by rfl) ?g48ry3 ?g48rr3
    case g48ry3 => intro w hSw; obtain ⟨s0, s1⟩ := hSw; go_simp; try with_reducible rfl
    try simp only [Act.put, pA, pB, pC]
    refine wpAnyF_take 3 (oi := ⟨some 73, .load 3 (.tmp 72), 3, "law.go:83", #[⟨2, .data⟩], none⟩) (v := ?g48rv4) rfl (by kernel_rfl) (fun _ _ _ h => h) (by assumption) (by rfl) ?g48ry4 ?g48rr4
    case g48ry4 => intro w hSw; obtain ⟨s0, s1⟩ := hSw; go_simp; try with_reducible rfl
    try simp only [Act.put, pA, pB, pC]
    refine wpAnyF_take 4 (oi := ⟨some 74, .move (.tmp 20), 22, "law.go:83", #[], none⟩) (v := ?g48rv5) rfl (by kernel_rfl) (fun _ _ _ h => h) (by assumption) (by rfl) ?g48ry5 ?g48rr5
    case g48ry5 => intro w hSw; obtain ⟨s0, s1⟩ := hSw; go_simp; try with_reducible rfl
    try simp only [Act.put, pA, pB, pC]
    refine wpAnyF_take 5 (oi := ⟨some 75, .move (.tmp 21), 3, "law.go:83", #[], none⟩) (v := ?g48rv6) rfl (by kernel_rfl) (fun _ _ _ h => h) (by assumption) (by rfl) ?g48ry6 ?g48rr6
    case g48ry6 => intro w hSw; obtain ⟨s0, s1⟩ := hSw; go_simp; try with_reducible rfl
    try simp only [Act.put, pA, pB, pC]
    refine wpAnyF_take 6 (oi := ⟨some 76, .indexAddr 22 (.tmp 74) (.tmp 75), 0, "law.go:83", #[⟨4, .data⟩, ⟨5, .data⟩], none⟩) (v := ?g48rv7) rfl (by kernel_rfl) (fun _ _ _ h => h) (by assumption) (by rfl) ?g48ry7 ?g48rr7
    case g48ry7 => intro w hSw; obtain ⟨s0, s1⟩ := hSw; go_simp; try with_reducible rfl
    try simp only [Act.put, pA, pB, pC]
    refine wpAnyF_take 7 (oi := ⟨some 77, .load 3 (.tmp 76), 3, "law.go:83", #[⟨6, .data⟩], none⟩) (v := ?g48rv8) rfl (by kernel_rfl) (fun _ _ _ h => h) (by assumption) (by rfl) ?g48ry8 ?g48rr8
    case g48ry8 => intro w hSw; obtain ⟨s0, s1⟩ := hSw; go_simp; try with_reducible rfl
    try simp only [Act.put, pA, pB, pC]
    refine wpAnyF_take 8 (oi := ⟨some 78, .binOp .neq 3 (.tmp 73) (.tmp 77) 3, 4, "law.go:83", #[⟨3, .data⟩, ⟨7, .data⟩], none⟩) (v := ?g48rv9) rfl (by kernel_rfl) (fun _ _ _ h => h) (by assumption) (by rfl) ?g48ry9 ?g48rr9
    case g48ry9 => intro w hSw; obtain ⟨s0, s1⟩ := hSw; go_simp; try with_reducible rfl
    try simp only [Act.put, pA, pB, pC]
    refine wpAnyF_done (by kernel_rfl) ?_
    clear hHeld hzb
    go_wp2_with fail
    go_roundw
    case rel => exact ⟨i + 1, by go_num, by omega, Lib.hid HB.out.drew⟩
    case measure => simp [intOf]; omega
   ·obtain rfl : i = N := by omega
    clear hiN
    have HB79 := Lib.hid (bt HBW9.out HB.out)
    obtain ⟨wL, hwL⟩ : ∃ wL : World, wL = wr := ⟨_, rfl⟩
    subst hwL
    have HTL := Lib.hid (And.intro (cb HB79.out HT7.out.1) (And.intro (cb HB79.out HT7.out.2.1) (And.intro (cb HB79.out HT7.out.2.2.1) (And.intro (cb HB79.out HT7.out.2.2.2.1) (And.intro (cb HB79.out HT7.out.2.2.2.2.1) (And.intro (cb HB79.out HT7.out.2.2.2.2.2.1) (cb HB79.out HT7.out.2.2.2.2.2.2)))))))
    have HCLL := Lib.hid (HCL7.out.below HB79.out)
    have hmi : (k : Int) < (m : Int) := by omega
    go_upto_region 16 with fail
    refine wp_region_F (fun w' => w'.cell? ⟨b18, 0, none⟩ = some (.slice x0 C.length y0) ∧ w'.cell? ⟨b18, 1, none⟩ = some (.slice x1 C.length y1) ∧ w'.cell? ⟨b18, 2, none⟩ = some (.slice x2 (celV C).length y2) ∧ w'.cell? ⟨gL, k * 4, none⟩ = some (.int .i64 (lf : Int)) ∧ w'.cell? ⟨gL, k * 4 + 1, none⟩ = some (.int .i64 (R0 : Int)) ∧ w'.cell? ⟨gL, k * 4 + 2, none⟩ = some (.int .i64 (D : Int)) ∧ w'.cell? ⟨gL, k * 4 + 3, none⟩ = some (.int .i64 K0)) [] (by kernel_rfl) ?g49rgS (fun hHeld => ?g49rgR)
    case g49rgS => (try dsimp only); (first | exact ⟨cb (b0 wL).drew HTL.out.1, cb (b0 wL).drew HTL.out.2.1, cb (b0 wL).drew HTL.out.2.2.1, cb (b0 wL).drew HTL.out.2.2.2.1, cb (b0 wL).drew HTL.out.2.2.2.2.1, cb (b0 wL).drew HTL.out.2.2.2.2.2.1, cb (b0 wL).drew HTL.out.2.2.2.2.2.2⟩ | exact ⟨cb HBX HTL.out.1, cb HBX HTL.out.2.1, cb HBX HTL.out.2.2.1, cb HBX HTL.out.2.2.2.1, cb HBX HTL.out.2.2.2.2.1, cb HBX HTL.out.2.2.2.2.2.1, cb HBX HTL.out.2.2.2.2.2.2⟩)
    try dsimp only at hHeld
    (have HBX : Below wL.heap.size wL wL.drew := (b0 wL).drew)
    refine wpAnyF_take 0 (oi := ⟨some 79, .load 46 (.tmp 18), 46, "law.go:87", #[], none⟩) (v := ?g49rv1) rfl (by kernel_rfl) (fun _ _ _ h => h) (by assumption) (by rfl) ?g49ry1 ?g49rr1
    case g49ry1 => intro w hSw; obtain ⟨s0, s1, s2, s3, s4, s5, s6⟩ := hSw; go_simp; try with_reducible rfl
    try simp only [Act.put, pA, pB, pC]
    refine wpAnyF_take 1 (oi := ⟨some 80, .move (.tmp 16), 42, "law.go:87", #[], none⟩) (v := ?g49rv2) rfl (by kernel_rfl) (fun _ _ _ h => h) (by assumption) (by rfl) ?g49ry2 ?g49rr2
    case g49ry2 => intro w hSw; obtain ⟨s0, s1, s2, s3, s4, s5, s6⟩ := hSw; go_simp; try with_reducible rfl
    try simp only [Act.put, pA, pB, pC]
    refine wpAnyF_take 2 (oi := ⟨some 81, .move (.tmp 17), 3, "law.go:87", #[], none⟩) (v := ?g49rv3) rfl (by kernel_rfl) (fun _ _ _ h => h) (by assumption) (by rfl) ?g49ry3 ?g49rr3
    case g49ry3 => intro w hSw; obtain ⟨s0, s1, s2, s3, s4, s5, s6⟩ := hSw; go_simp; try with_reducible rfl
    try simp only [Act.put, pA, pB, pC]
    refine wpAnyF_take 3 (oi := ⟨some 82, .indexAddr 42 (.tmp 80) (.tmp 81), 0, "law.go:87", #[⟨1, .data⟩, ⟨2, .data⟩], none⟩) (v := ?g49rv4) rfl (by kernel_rfl) (fun _ _ _ h => h) (by assumption) (by rfl) ?g49ry4 ?g49rr4
    case g49ry4 => intro w hSw; obtain ⟨s0, s1, s2, s3, s4, s5, s6⟩ := hSw; go_simp; try with_reducible rfl
    try simp only [Act.put, pA, pB, pC]
    refine wpAnyF_take 4 (oi := ⟨some 83, .load 48 (.tmp 82), 48, "law.go:87", #[⟨3, .data⟩], none⟩) (v := ?g49rv5) rfl (by kernel_rfl) (fun _ _ _ h => h) (by assumption) (by rfl) ?g49ry5 ?g49rr5
    case g49ry5 => intro w hSw; obtain ⟨s0, s1, s2, s3, s4, s5, s6⟩ := hSw; go_simp; try with_reducible rfl
    try simp only [Act.put, pA, pB, pC]
    refine wpAnyF_take 5 (oi := ⟨some 84, .move (.tmp 3), 3, "law.go:87", #[], none⟩) (v := ?g49rv6) rfl (by kernel_rfl) (fun _ _ _ h => h) (by assumption) (by rfl) ?g49ry6 ?g49rr6
    case g49ry6 => intro w hSw; obtain ⟨s0, s1, s2, s3, s4, s5, s6⟩ := hSw; go_simp; try with_reducible rfl
    try simp only [Act.put, pA, pB, pC]
    refine wpAnyF_take 6 (oi := ⟨some 85, .move (.tmp 4), 3, "law.go:87", #[], none⟩) (v := ?g49rv7) rfl (by kernel_rfl) (fun _ _ _ h => h) (by assumption) (by rfl) ?g49ry7 ?g49rr7
    case g49ry7 => intro w hSw; obtain ⟨s0, s1, s2, s3, s4, s5, s6⟩ := hSw; go_simp; try with_reducible rfl
    try simp only [Act.put, pA, pB, pC]
    refine wpAnyF_take 8 (oi := ⟨some 87, .load 46 (.tmp 18), 46, "law.go:87", #[], none⟩) (v := ?g49rv8) rfl (by kernel_rfl) (fun _ _ _ h => h) (by assumption) (by rfl) ?g49ry8 ?g49rr8
    case g49ry8 => intro w hSw; obtain ⟨s0, s1, s2, s3, s4, s5, s6⟩ := hSw; go_simp; try with_reducible rfl
    try simp only [Act.put, pA, pB, pC]
    refine wpAnyF_take 9 (oi := ⟨some 88, .move (.tmp 16), 42, "law.go:87", #[], none⟩) (v := ?g49rv9) rfl (by kernel_rfl) (fun _ _ _ h => h) (by assumption) (by rfl) ?g49ry9 ?g49rr9
    case g49ry9 => intro w hSw; obtain ⟨s0, s1, s2, s3, s4, s5, s6⟩ := hSw; go_simp; try with_reducible rfl
    try simp only [Act.put, pA, pB, pC]
    refine wpAnyF_take 10 (oi := ⟨some 89, .move (.tmp 17), 3, "law.go:87", #[], none⟩) (v := ?g49rv10) rfl (by kernel_rfl) (fun _ _ _ h => h) (by assumption) (by rfl) ?g49ry10 ?g49rr10
    case g49ry10 => intro w hSw; obtain ⟨s0, s1, s2, s3, s4, s5, s6⟩ := hSw; go_simp; try with_reducible rfl
    try simp only [Act.put, pA, pB, pC]
    refine wpAnyF_take 11 (oi := ⟨some 90, .indexAddr 42 (.tmp 88) (.tmp 89), 0, "law.go:87", #[⟨9, .data⟩, ⟨10, .data⟩], none⟩) (v := ?g49rv11) rfl (by kernel_rfl) (fun _ _ _ h => h) (by assumption) (by rfl) ?g49ry11 ?g49rr11
    case g49ry11 => intro w hSw; obtain ⟨s0, s1, s2, s3, s4, s5, s6⟩ := hSw; go_simp; try with_reducible rfl
    try simp only [Act.put, pA, pB, pC]
    refine wpAnyF_take 12 (oi := ⟨some 91, .load 48 (.tmp 90), 48, "law.go:87", #[⟨11, .data⟩], none⟩) (v := ?g49rv12) rfl (by kernel_rfl) (fun _ _ _ h => h) (by assumption) (by rfl) ?g49ry12 ?g49rr12
    case g49ry12 => intro w hSw; obtain ⟨s0, s1, s2, s3, s4, s5, s6⟩ := hSw; go_simp; try with_reducible rfl
    try simp only [Act.put, pA, pB, pC]
    refine wpAnyF_take 13 (oi := ⟨some 92, .move (.tmp 3), 3, "law.go:87", #[], none⟩) (v := ?g49rv13) rfl (by kernel_rfl) (fun _ _ _ h => h) (by assumption) (by rfl) ?g49ry13 ?g49rr13
    case g49ry13 => intro w hSw; obtain ⟨s0, s1, s2, s3, s4, s5, s6⟩ := hSw; go_simp; try with_reducible rfl
    try simp only [Act.put, pA, pB, pC]
    refine wpAnyF_take 14 (oi := ⟨some 93, .move (.tmp 4), 3, "law.go:87", #[], none⟩) (v := ?g49rv14) rfl (by kernel_rfl) (fun _ _ _ h => h) (by assumption) (by rfl) ?g49ry14 ?g49rr14
    case g49ry14 => intro w hSw; obtain ⟨s0, s1, s2, s3, s4, s5, s6⟩ := hSw; go_simp; try with_reducible rfl
    try simp only [Act.put, pA, pB, pC]
    refine wpAnyF_ready [7] (by kernel_rfl) (by simp) ?_
    refine AllReadyF.cons 7 (o := ⟨some 86, .call { callee := .value (.func 26), args := #[.tmp 79, .tmp 83, .tmp 84, .tmp 85], argTypes := #[46, 48, 3, 3] }, 46, "law.go:87", #[⟨0, .data⟩, ⟨4, .data⟩, ⟨5, .data⟩, ⟨6, .data⟩], none⟩) rfl (fun K hK => ?g49ro15) ?g49rm15
    case g49rm15 => exact AllReadyF.nil
    go_simp; refine (HCUT.out _ (HCLL.out.below HBX) from_ to_).mono ?_; rintro e w10 ⟨p0, d0, p1, d1, p2, d2, rfl, hc1, hbk⟩; dsimp only; (replace HBX := bt HBX hbk); (have hcA := hc1.go (S := fun _ => False) (ok' := fun b => b < w10.heap.size) (Chg.refl _ w10) (fun b hb _ => ⟨fun h => h, hb⟩)); clear hbk hc1
    refine hK.out _ _ ?g49rs15 (fun hHeld => ?g49rt15)
    case g49rs15 => (try dsimp only); (first | exact ⟨cb (b0 wL).drew HTL.out.1, cb (b0 wL).drew HTL.out.2.1, cb (b0 wL).drew HTL.out.2.2.1, cb (b0 wL).drew HTL.out.2.2.2.1, cb (b0 wL).drew HTL.out.2.2.2.2.1, cb (b0 wL).drew HTL.out.2.2.2.2.2.1, cb (b0 wL).drew HTL.out.2.2.2.2.2.2⟩ | exact ⟨cb HBX HTL.out.1, cb HBX HTL.out.2.1, cb HBX HTL.out.2.2.1, cb HBX HTL.out.2.2.2.1, cb HBX HTL.out.2.2.2.2.1, cb HBX HTL.out.2.2.2.2.2.1, cb HBX HTL.out.2.2.2.2.2.2⟩)
    try dsimp only at hHeld
    clear hK K
    try simp only [Act.put, pA, pB, pC]
    refine wpAnyF_ready [15] (by kernel_rfl) (by simp) ?_
    refine AllReadyF.cons 15 (o := ⟨some 94, .call { callee := .value (.func 27), args := #[.tmp 87, .tmp 91, .tmp 92, .tmp 93], argTypes := #[46, 48, 3, 3] }, 46, "law.go:87", #[⟨8, .data⟩, ⟨12, .data⟩, ⟨13, .data⟩, ⟨14, .data⟩, ⟨7, .chain⟩], none⟩) rfl (fun K hK => ?g49ro16) ?g49rm16
    case g49rm16 => exact AllReadyF.nil
    go_simp; refine (HRCUT.out _ (HCLL.out.below HBX) from_ to_).mono ?_; rintro e w11 ⟨p3, d3, p4, d4, p5, d5, rfl, hc2, hbk⟩; dsimp only; (replace HBX := bt HBX hbk); (replace hcA := hcA.below hbk); (have hcB := hc2.go (S := fun _ => False) (ok' := fun b => b < w11.heap.size) (Chg.refl _ w11) (fun b hb _ => ⟨fun h => h, hb⟩)); clear hbk hc2
    refine hK.out _ _ ?g49rs16 (fun hHeld => ?g49rt16)
    case g49rs16 => (try dsimp only); (first | exact ⟨cb (b0 wL).drew HTL.out.1, cb (b0 wL).drew HTL.out.2.1, cb (b0 wL).drew HTL.out.2.2.1, cb (b0 wL).drew HTL.out.2.2.2.1, cb (b0 wL).drew HTL.out.2.2.2.2.1, cb (b0 wL).drew HTL.out.2.2.2.2.2.1, cb (b0 wL).drew HTL.out.2.2.2.2.2.2⟩ | exact ⟨cb HBX HTL.out.1, cb HBX HTL.out.2.1, cb HBX HTL.out.2.2.1, cb HBX HTL.out.2.2.2.1, cb HBX HTL.out.2.2.2.2.1, cb HBX HTL.out.2.2.2.2.2.1, cb HBX HTL.out.2.2.2.2.2.2⟩)
    try dsimp only at hHeld
    clear hK K
    try simp only [Act.put, pA, pB, pC]
    refine wpAnyF_ready [16] (by kernel_rfl) (by simp) ?_
    refine AllReadyF.cons 16 (o := ⟨some 95, .call { callee := .value (.func 23), args := #[.tmp 86, .tmp 94], argTypes := #[46, 46] }, 4, "law.go:87", #[⟨7, .data⟩, ⟨15, .data⟩, ⟨15, .chain⟩], none⟩) rfl (fun K hK => ?g49ro17) ?g49rm17
    case g49rm17 => exact AllReadyF.nil
    go_simp; refine (ssame_v _ _ _ _ _ _ _ _ _ _ _ _ _ _ w11 hcA hcB).mono ?_; rintro e w12 ⟨tt, rfl, ht, hbk⟩; (obtain rfl : tt = true := ht.2 (by trivial)); dsimp only; (replace HBX := bt HBX hbk); clear hbk ht
    refine hK.out _ _ ?g49rs17 (fun hHeld => ?g49rt17)
    case g49rs17 => (try dsimp only); (first | exact ⟨cb (b0 wL).drew HTL.out.1, cb (b0 wL).drew HTL.out.2.1, cb (b0 wL).drew HTL.out.2.2.1, cb (b0 wL).drew HTL.out.2.2.2.1, cb (b0 wL).drew HTL.out.2.2.2.2.1, cb (b0 wL).drew HTL.out.2.2.2.2.2.1, cb (b0 wL).drew HTL.out.2.2.2.2.2.2⟩ | exact ⟨cb HBX HTL.out.1, cb HBX HTL.out.2.1, cb HBX HTL.out.2.2.1, cb HBX HTL.out.2.2.2.1, cb HBX HTL.out.2.2.2.2.1, cb HBX HTL.out.2.2.2.2.2.1, cb HBX HTL.out.2.2.2.2.2.2⟩)
    try dsimp only at hHeld
    clear hK K
    try simp only [Act.put, pA, pB, pC]
    refine wpAnyF_take 17 (oi := ⟨some 96, .unOp .not 4 (.tmp 95), 4, "law.go:87", #[⟨16, .data⟩], none⟩) (v := ?g49rv18) rfl (by kernel_rfl) (fun _ _ _ h => h) (by assumption) (by rfl) ?g49ry18 ?g49rr18
    case g49ry18 => intro w hSw; obtain ⟨s0, s1, s2, s3, s4, s5, s6⟩ := hSw; go_simp; try with_reducible rfl
    try simp only [Act.put, pA, pB, pC]
    refine wpAnyF_done (by kernel_rfl) ?_
    have HBX2 := Lib.hid HBX
    clear hHeld hcA hcB HBX HTL
    go_upto_region 19 with fail
    refine gen_wz (fun w20 hw20 => ?_)
    have hb20 : Below w12.heap.size w12 w20 := by rw [hw20]; first | exact ba (b0 w12) _ | exact bset3 (ba (b0 w12) _) (Nat.le_refl _)
    have r22 : Rw w20 w12.heap.size #[.slice none 0 0, .slice none 0 0, .slice none 0 0] 46 := by rw [hw20]; first | exact Rw.new w12 _ _ | exact Rw.set3 (Rw.new w12 _ _)
    clear hw20
    obtain ⟨b22, hb22⟩ : ∃ b, b = w12.heap.size := ⟨_, rfl⟩
    rw [← hb22] at r22 ⊢
    have h22l := r22.lt
    have HR22 := Lib.hid r22
    have HB120 := Lib.hid (bt (bt HB79.out HBX2.out) hb20)
    have HCL22 : Hid (ClAt (fun b => b < b22) w20 (clC C) x0 y0 x1 y1 x2 y2) := Lib.hid (by
     have h1 := HCLL.out.below HBX2.out
     rw [hb22]
     exact h1.go (S := fun g => w12.heap.size ≤ g) (Chg.ofBelow hb20) (fun g _ h => ⟨by omega, h⟩))
    have h7b : w7.heap.size ≤ b22 := by rw [hb22]; exact Nat.le_trans HB79.out.size HBX2.out.size
    have HT20 := Lib.hid (And.intro (cb HB120.out HT7.out.1) (And.intro (cb HB120.out HT7.out.2.1) (And.intro (cb HB120.out HT7.out.2.2.1) (And.intro (cb HB120.out HT7.out.2.2.2.1) (And.intro (cb HB120.out HT7.out.2.2.2.2.1) (And.intro (cb HB120.out HT7.out.2.2.2.2.2.1) (cb HB120.out HT7.out.2.2.2.2.2.2)))))))
    have hb18l : b18 < b22 := by have h : b18 < w7.heap.size := World.block_lt_of_cell? w7 _ HT7.out.1; omega
    have hgLl : gL < b22 := by have h : gL < w7.heap.size := World.block_lt_of_cell? w7 _ HT7.out.2.2.2.1; omega
    clear r22 hb20 hb22
    go_wp2_with fail
    refine (within_14 by_ 5 w20 (by decide) (by decide)).mono ?_
    rintro e w21 ⟨rfl, rfl⟩
    obtain ⟨q, hq⟩ : ∃ q : Nat, by_ % 5 = (q : Int) := ⟨(by_ % 5).toNat, by omega⟩
    have hq5 : q < 5 := by omega
    rw [hq]
    clear hq
    obtain ⟨bq, hbq⟩ : ∃ b : Nat, b = 1 + q := ⟨_, rfl⟩
    have hbq1 : 1 ≤ bq := by omega
    have hbq2 : bq ≤ 5 := by omega
    have eQ : IntKind.i64.wrap (1 + (q : Int)) = (bq : Int) := by rw [IntKind.wrap_i64]; omega
    have eQ' : (1 + (q : Int)) = (bq : Int) := by omega
    clear hbq
    go_upto_region 20 with fail
    try rw [eQ']
    clear eQ eQ' hq5
    go_wp2_with fail
    have hn18 : ¬ (fun b => b = b22) b18 := fun he => by have he' : b18 = b22 := he; omega
    have hngL : ¬ (fun b => b = b22) gL := fun he => by have he' : gL = b22 := he; omega
    have HNI : Hid (OutQ b22 w20.heap.size [] w20) := Lib.hid ⟨fun _ => none, fun _ => 0, (OW.nil _ _ _ _ _).congr (fun _ _ => rfl) (three3 rfl rfl rfl) (fun _ _ => rfl) (three3 rfl rfl rfl), HR22.out⟩
    have HS0 := Lib.hid HCOLX.out.zero
    have hSn : Hid (i < (stL (clC C)).length) := Lib.hid (by rw [stL_len, ← HND.out]; omega)
    have HALL : Hid (stA (clC C) (i : Int) = C.length) := Lib.hid (by
     have h1 := HCOLX.out.all
     rw [← HBEG.out, ← HND.out] at h1
     rw [h1]; simp [clC])
    go_loopw [23] (fun iv wr => ∃ j : Nat, iv = .int .i64 (j : Int) ∧ j ≤ i + 5 ∧ Hid (OutQ b22 w20.heap.size (C.take (stA (clC C) ((min j i : Nat) : Int))) wr) ∧ Hid (Chg (fun b => b = b22) w20 wr)) (fun iv _ => i + 6 - (intOf iv).toNat)
    case atStart => exact ⟨0, rfl, Nat.zero_le _, by rw [Nat.zero_min]; (have h := HS0.out); exact Lib.hid (by rw [show ((0 : Nat) : Int) = 0 from rfl, h, List.take_zero]; exact HNI.out), Lib.hid (Chg.refl _ _)⟩
    case round =>
     obtain ⟨j, rfl, hj, HO, HCH⟩ := hrel
     obtain ⟨wi, hwi⟩ : ∃ wi : World, wi = wr := ⟨_, rfl⟩
     subst hwi
     by_cases hji : j < i
     ·have HTI := Lib.hid (And.intro (HCH.out.keep HT20.out.1 hn18) (And.intro (HCH.out.keep HT20.out.2.1 hn18) (And.intro (HCH.out.keep HT20.out.2.2.1 hn18) (And.intro (HCH.out.keep HT20.out.2.2.2.1 hngL) (And.intro (HCH.out.keep HT20.out.2.2.2.2.1 hngL) (And.intro (HCH.out.keep HT20.out.2.2.2.2.2.1 hngL) (HCH.out.keep HT20.out.2.2.2.2.2.2 hngL)))))))
      have hszi := HCH.out.size
      have HCLI : Hid (ClAt (fun b => b < wi.heap.size) wi (clC C) x0 y0 x1 y1 x2 y2) := Lib.hid (HCL22.out.go HCH.out (fun b _ h => ⟨fun he => by have he' : b = b22 := he; omega, by omega⟩))
      obtain ⟨T, hT⟩ : ∃ T : Nat, T = min (j + bq) i := ⟨_, rfl⟩
      have HMIN : Hid ((if (i : Int) < (j : Int) + (bq : Int) then (i : Int) else (j : Int) + (bq : Int)) = (T : Int)) := Lib.hid (by rw [hT]; split <;> omega)
      have hjT : j < T := by omega
      have hTi : T ≤ i := by omega
      have HTE := Lib.hid hT
      clear hT
      have HMJ : Hid (min j i = j) := Lib.hid (by omega)
      have HAB := Lib.hid (stA_lt (x := clC C) hjT (by have := hSn.out; omega))
      have HBC' := Lib.hid (stA_le (clC C) T (by have := hSn.out; omega))
      have HCC := Lib.hid (cutC_cells HVD.out (Nat.le_of_lt hjT) (show T < (stL (clC C)).length by have := hSn.out; omega))
      have hoq := HO.out
      rw [HMJ.out] at hoq
      obtain ⟨A, hA⟩ : ∃ A, A = stA (clC C) (j : Int) := ⟨_, rfl⟩
      obtain ⟨Bx, hBx⟩ : ∃ B, B = stA (clC C) (T : Int) := ⟨_, rfl⟩
      have hab := HAB.out; have hbc := HBC'.out
      rw [← hA, ← hBx] at hab
      rw [← hBx] at hbc
      have hcc := HCC.out
      rw [← hA, ← hBx] at hcc
      rw [← hA] at hoq
      have hxr : (clC C).r.length = C.length := by simp [clC]
      rw [hxr] at hbc
      obtain ⟨P, hP⟩ : ∃ P, P = (C.drop A).take (Bx - A) := ⟨_, rfl⟩
      have hPl : 0 < P.length := by rw [hP, List.length_take, List.length_drop]; omega
      have HPL2 : Hid (P.length ≤ 4000) := Lib.hid (by rw [hP, List.length_take, List.length_drop]; omega)
      have HPT : Hid (C.take Bx = C.take A ++ P) := Lib.hid (by rw [hP, ← List.take_append_drop A (C.take Bx), List.take_take, Nat.min_eq_left (by omega), List.drop_take])
      rw [← hP] at hcc
      have HCP := Lib.hid hcc; have HOQ := Lib.hid hoq; have HBX3 := Lib.hid hBx
      have hAl : (C.take A).length ≤ 4000 := by rw [List.length_take]; omega
      clear hcc hoq hA hBx hP hab hbc hxr HO HAB HBC' HCC
      generalize C.take A = L at *
      have hplr : (clC P).r.length = P.length := by simp [clC]
      have hpld : (clC P).d.length = P.length := by simp [clC]
      have hj4 : j ≤ 16 := by omega
      have hwA : IntKind.i64.wrap ((j : Int) + (bq : Int)) = (j : Int) + (bq : Int) := IntWalk.i64_in _ ⟨by omega, by omega⟩
      have HWA := Lib.hid hwA
      have hcu := fun (W : World) (hW : Below wi.heap.size wi W) => HCUT.out W (HCLI.out.below hW) (j : Int) (T : Int)
      rw [HCP.out] at hcu
      have HCU := Lib.hid hcu
      have hrcu := fun (W : World) (hW : Below wi.heap.size wi W) => HRCUT.out W (HCLI.out.below hW) (j : Int) (T : Int)
      rw [HCP.out] at hrcu
      have HRCU := Lib.hid hrcu
      clear hcu hrcu
      go_upto_region 23 with fail
      go_cut [24] from 105 to 120 (fun v wd => ∃ (b24 : Nat) (p0 p1 p2 : Option Addr) (d0 d1 d2 : Nat), v = .pointer (some ⟨b24, 0, none⟩) ∧ wi.heap.size ≤ b24 ∧ Hid (Rw wd b24 #[.slice p0 P.length d0, .slice p1 P.length d1, .slice p2 (celV P).length d2] 46) ∧ Hid (ClAt (fun b => wi.heap.size ≤ b ∧ b < wd.heap.size ∧ b ≠ b24) wd (clC P) p0 d0 p1 d1 p2 d2) ∧ Hid (Below wi.heap.size wi wd))
      case first =>
       refine wp_region_F (fun w' => w'.cell? ⟨b18, 0, none⟩ = some (.slice x0 C.length y0) ∧ w'.cell? ⟨b18, 1, none⟩ = some (.slice x1 C.length y1) ∧ w'.cell? ⟨b18, 2, none⟩ = some (.slice x2 (celV C).length y2) ∧ w'.cell? ⟨gL, k * 4, none⟩ = some (.int .i64 (lf : Int)) ∧ w'.cell? ⟨gL, k * 4 + 1, none⟩ = some (.int .i64 (R0 : Int)) ∧ w'.cell? ⟨gL, k * 4 + 2, none⟩ = some (.int .i64 (D : Int)) ∧ w'.cell? ⟨gL, k * 4 + 3, none⟩ = some (.int .i64 K0)) [14] (by kernel_rfl) ?g50rgS (fun hHeld => ?g50rgR)
       case g50rgS => (try dsimp only); (first | exact ⟨cb (b0 wi).drew (HTI.out.1), cb (b0 wi).drew (HTI.out.2.1), cb (b0 wi).drew (HTI.out.2.2.1), cb (b0 wi).drew (HTI.out.2.2.2.1), cb (b0 wi).drew (HTI.out.2.2.2.2.1), cb (b0 wi).drew (HTI.out.2.2.2.2.2.1), cb (b0 wi).drew (HTI.out.2.2.2.2.2.2)⟩ | exact ⟨cb HBX (HTI.out.1), cb HBX (HTI.out.2.1), cb HBX (HTI.out.2.2.1), cb HBX (HTI.out.2.2.2.1), cb HBX (HTI.out.2.2.2.2.1), cb HBX (HTI.out.2.2.2.2.2.1), cb HBX (HTI.out.2.2.2.2.2.2)⟩)
       try dsimp only at hHeld
       obtain ⟨W, hW⟩ : ∃ W, W = wi.drew := ⟨_, rfl⟩; rw [← hW] at hHeld ⊢; (have HBX : Below wi.heap.size wi W := by rw [hW]; exact (b0 wi).drew); clear hW
       refine wpAnyF_take 0 (oi := ⟨some 108, .load 46 (.tmp 18), 46, "law.go:93", #[], none⟩) (v := ?g50rv1) rfl (by kernel_rfl) (fun _ _ _ h => h) (by assumption) (by rfl) ?g50ry1 ?g50rr1
       case g50ry1 => intro w hSw; obtain ⟨s0, s1, s2, s3, s4, s5, s6⟩ := hSw; go_simp; try with_reducible rfl
       try simp only [Act.put, pA, pB, pC]
       refine wpAnyF_take 1 (oi := ⟨some 109, .move (.tmp 16), 42, "law.go:93", #[], none⟩) (v := ?g50rv2) rfl (by kernel_rfl) (fun _ _ _ h => h) (by assumption) (by rfl) ?g50ry2 ?g50rr2
       case g50ry2 => intro w hSw; obtain ⟨s0, s1, s2, s3, s4, s5, s6⟩ := hSw; go_simp; try with_reducible rfl
       try simp only [Act.put, pA, pB, pC]
       refine wpAnyF_take 2 (oi := ⟨some 110, .move (.tmp 17), 3, "law.go:93", #[], none⟩) (v := ?g50rv3) rfl (by kernel_rfl) (fun _ _ _ h => h) (by assumption) (by rfl) ?g50ry3 ?g50rr3
       case g50ry3 => intro w hSw; obtain ⟨s0, s1, s2, s3, s4, s5, s6⟩ := hSw; go_simp; try with_reducible rfl
       try simp only [Act.put, pA, pB, pC]
       refine wpAnyF_take 3 (oi := ⟨some 111, .indexAddr 42 (.tmp 109) (.tmp 110), 0, "law.go:93", #[⟨1, .data⟩, ⟨2, .data⟩], none⟩) (v := ?g50rv4) rfl (by kernel_rfl) (fun _ _ _ h => h) (by assumption) (by rfl) ?g50ry4 ?g50rr4
       case g50ry4 => intro w hSw; obtain ⟨s0, s1, s2, s3, s4, s5, s6⟩ := hSw; go_simp; try with_reducible rfl
       try simp only [Act.put, pA, pB, pC]
       refine wpAnyF_take 4 (oi := ⟨some 112, .load 48 (.tmp 111), 48, "law.go:93", #[⟨3, .data⟩], none⟩) (v := ?g50rv5) rfl (by kernel_rfl) (fun _ _ _ h => h) (by assumption) (by rfl) ?g50ry5 ?g50rr5
       case g50ry5 => intro w hSw; obtain ⟨s0, s1, s2, s3, s4, s5, s6⟩ := hSw; go_simp; try with_reducible rfl
       try simp only [Act.put, pA, pB, pC]
       refine wpAnyF_take 5 (oi := ⟨some 113, .move (.tmp 23), 3, "law.go:93", #[], none⟩) (v := ?g50rv6) rfl (by kernel_rfl) (fun _ _ _ h => h) (by assumption) (by rfl) ?g50ry6 ?g50rr6
       case g50ry6 => intro w hSw; obtain ⟨s0, s1, s2, s3, s4, s5, s6⟩ := hSw; go_simp; try with_reducible rfl
       try simp only [Act.put, pA, pB, pC]
       refine wpAnyF_take 6 (oi := ⟨some 114, .move (.tmp 23), 3, "law.go:93", #[], none⟩) (v := ?g50rv7) rfl (by kernel_rfl) (fun _ _ _ h => h) (by assumption) (by rfl) ?g50ry7 ?g50rr7
       case g50ry7 => intro w hSw; obtain ⟨s0, s1, s2, s3, s4, s5, s6⟩ := hSw; go_simp; try with_reducible rfl
       try simp only [Act.put, pA, pB, pC]
       refine wpAnyF_take 7 (oi := ⟨some 115, .move (.tmp 5), 3, "law.go:93", #[], none⟩) (v := ?g50rv8) rfl (by kernel_rfl) (fun _ _ _ h => h) (by assumption) (by rfl) ?g50ry8 ?g50rr8
       case g50ry8 => intro w hSw; obtain ⟨s0, s1, s2, s3, s4, s5, s6⟩ := hSw; go_simp; try with_reducible rfl
       try simp only [Act.put, pA, pB, pC]
       refine wpAnyF_take 8 (oi := ⟨some 116, .binOp .add 3 (.tmp 114) (.tmp 115) 3, 3, "law.go:93", #[⟨6, .data⟩, ⟨7, .data⟩], none⟩) (v := ?g50rv9) rfl (by kernel_rfl) (fun _ _ _ h => h) (by assumption) (by rfl) ?g50ry9 ?g50rr9
       case g50ry9 => intro w hSw; obtain ⟨s0, s1, s2, s3, s4, s5, s6⟩ := hSw; go_simp; try with_reducible rfl
       try simp only [Act.put, pA, pB, pC]
       refine wpAnyF_take 9 (oi := ⟨some 117, .move (.tmp 19), 22, "law.go:93", #[], none⟩) (v := ?g50rv10) rfl (by kernel_rfl) (fun _ _ _ h => h) (by assumption) (by rfl) ?g50ry10 ?g50rr10
       case g50ry10 => intro w hSw; obtain ⟨s0, s1, s2, s3, s4, s5, s6⟩ := hSw; go_simp; try with_reducible rfl
       try simp only [Act.put, pA, pB, pC]
       refine wpAnyF_take 10 (oi := ⟨some 118, .call { callee := .builtin .len, args := #[.tmp 117], argTypes := #[22] }, 3, "law.go:93", #[⟨9, .data⟩], none⟩) (v := ?g50rv11) rfl (by kernel_rfl) (fun _ _ _ h => h) (by assumption) (by rfl) ?g50ry11 ?g50rr11
       case g50ry11 => intro w hSw; obtain ⟨s0, s1, s2, s3, s4, s5, s6⟩ := hSw; go_simp; try with_reducible rfl
       try simp only [Act.put, pA, pB, pC]
       refine wpAnyF_take 11 (oi := ⟨some 119, .call { callee := .builtin .min, args := #[.tmp 116, .tmp 118], argTypes := #[3, 3] }, 3, "law.go:93", #[⟨8, .data⟩, ⟨10, .data⟩], none⟩) (v := ?g50rv12) rfl (by kernel_rfl) (fun _ _ _ h => h) (by assumption) (by rfl) ?g50ry12 ?g50rr12
       case g50ry12 => intro w hSw; obtain ⟨s0, s1, s2, s3, s4, s5, s6⟩ := hSw; go_simp; try with_reducible rfl
       try simp only [Act.put, pA, pB, pC]
       refine wpAnyF_ready [12, 13] (by kernel_rfl) (by simp) ?_
       refine AllReadyF.cons 12 (o := ⟨some 120, .call { callee := .value (.func 26), args := #[.tmp 108, .tmp 112, .tmp 113, .tmp 119], argTypes := #[46, 48, 3, 3] }, 46, "law.go:93", #[⟨0, .data⟩, ⟨4, .data⟩, ⟨5, .data⟩, ⟨11, .data⟩], none⟩) rfl (fun K hK => ?g50ro13) ?g50rm13
       case g50ro13 =>
        go_simp; (try rw [HMIN.out]); refine (HCU.out _ HBX).mono ?_; rintro e w10 ⟨p0, d0, p1, d1, p2, d2, rfl, hc1, hbk⟩; rw [hplr, hpld]; dsimp only; (have hbs := HBX.size);  (have hcA := hc1.go (S := fun _ => False) (ok' := fun b => wi.heap.size ≤ b ∧ b < w10.heap.size) (Chg.refl _ w10) (fun b hb h => ⟨fun h => h, by omega, hb⟩)); (replace HBX := bt HBX hbk); clear hbk hc1
        refine hK.out _ _ ?g50rs13 (fun hHeld => ?g50rt13)
        case g50rs13 => (try dsimp only); (first | exact ⟨cb (b0 wi).drew (HTI.out.1), cb (b0 wi).drew (HTI.out.2.1), cb (b0 wi).drew (HTI.out.2.2.1), cb (b0 wi).drew (HTI.out.2.2.2.1), cb (b0 wi).drew (HTI.out.2.2.2.2.1), cb (b0 wi).drew (HTI.out.2.2.2.2.2.1), cb (b0 wi).drew (HTI.out.2.2.2.2.2.2)⟩ | exact ⟨cb HBX (HTI.out.1), cb HBX (HTI.out.2.1), cb HBX (HTI.out.2.2.1), cb HBX (HTI.out.2.2.2.1), cb HBX (HTI.out.2.2.2.2.1), cb HBX (HTI.out.2.2.2.2.2.1), cb HBX (HTI.out.2.2.2.2.2.2)⟩)
        try dsimp only at hHeld
        clear hK K
        try simp only [Act.put, pA, pB, pC]
        refine wpAnyF_ready [13] (by kernel_rfl) (by simp) ?_
        refine AllReadyF.cons 13 (o := ⟨some 24, .alloc 46, 0, "law.go:93", #[], none⟩) rfl (fun K hK => ?g50ro14) ?g50rm14
        case g50rm14 => exact AllReadyF.nil
        go_simp; refine gen_w (fun X hX => ?_); (have hbk := bel_nb HBX hX); (have rb := bel_nr HBX hX); (have hbg := HBX.size);  (have hcA2 := hcA.go (S := fun g => w10.heap.size ≤ g) (ok' := fun b => wi.heap.size ≤ b ∧ b < X.heap.size ∧ b ≠ w10.heap.size) (Chg.ofBelow hbk) (fun b hb h => ⟨by omega, h.1, by have := hbk.size; omega, by omega⟩)) ; (replace HBX := bt HBX hbk);  skip ; clear hX hbk
        refine hK.out _ _ ?g50rs14 (fun hHeld => ?g50rt14)
        case g50rs14 => (try dsimp only); (first | exact ⟨cb (b0 wi).drew (HTI.out.1), cb (b0 wi).drew (HTI.out.2.1), cb (b0 wi).drew (HTI.out.2.2.1), cb (b0 wi).drew (HTI.out.2.2.2.1), cb (b0 wi).drew (HTI.out.2.2.2.2.1), cb (b0 wi).drew (HTI.out.2.2.2.2.2.1), cb (b0 wi).drew (HTI.out.2.2.2.2.2.2)⟩ | exact ⟨cb HBX (HTI.out.1), cb HBX (HTI.out.2.1), cb HBX (HTI.out.2.2.1), cb HBX (HTI.out.2.2.2.1), cb HBX (HTI.out.2.2.2.2.1), cb HBX (HTI.out.2.2.2.2.2.1), cb HBX (HTI.out.2.2.2.2.2.2)⟩)
        try dsimp only at hHeld
        clear hK K
        try simp only [Act.put, pA, pB, pC]
        refine wpAnyF_ready [14] (by kernel_rfl) (by simp) ?_
        refine AllReadyF.last 14 (o := ⟨none, .store 46 (.tmp 24) (.tmp 120), 0, "law.go:93", #[⟨13, .data⟩, ⟨12, .data⟩, ⟨12, .chain⟩, ⟨0, .phase⟩, ⟨1, .phase⟩, ⟨2, .phase⟩, ⟨3, .phase⟩, ⟨4, .phase⟩, ⟨5, .phase⟩, ⟨6, .phase⟩, ⟨7, .phase⟩, ⟨8, .phase⟩, ⟨9, .phase⟩, ⟨10, .phase⟩, ⟨11, .phase⟩, ⟨12, .phase⟩, ⟨13, .phase⟩], none⟩) rfl (by kernel_rfl) (fun K hK => ?g50ro15) ?g50rm15
        case g50rm15 => exact AllReadyF.nil
        (have y0 := rb.cell 0); (have y1 := rb.cell 1); (have y2 := rb.cell 2); (have qf := rb.frozen); (have ql := rb.lt); (simp only [List.getElem?_toArray, List.getElem?_cons_zero, List.getElem?_cons_succ] at y0 y1 y2); go_simp; clear y0 y1 y2 qf ql
        refine hK.out _ _ ?_
        clear hK K
        try simp only [Act.put, pA, pB, pC]
        refine wpAnyF_done (by kernel_rfl) ?_
        have rz := Rw.set3 rb (u0 := .slice p0 P.length d0) (u1 := .slice p1 P.length d1) (u2 := .slice p2 (celV P).length d2)
        have hbf := bset3 HBX hbg (u0 := .slice p0 P.length d0) (u1 := .slice p1 P.length d1) (u2 := .slice p2 (celV P).length d2)
        have HBF := Lib.hid hbf; have HRZ := Lib.hid rz; have hbg2 := hbg
        first
         | (have HCF := Lib.hid (ClAt.set3' hcA2 (.slice p0 P.length d0) (.slice p1 P.length d1) (.slice p2 (celV P).length d2)))
         | (have HCF := Lib.hid (ClAt.set3' hcA (.slice p0 P.length d0) (.slice p1 P.length d1) (.slice p2 (celV P).length d2)))
        clear rz hbf rb HBX hcA
        go_wp2_with fail
        go_meet
        case rel => exact ⟨_, p0, p1, p2, d0, d1, d2, rfl, hbg2, HRZ, HCF, HBF⟩
       case g50rm13 =>
       refine AllReadyF.cons 13 (o := ⟨some 24, .alloc 46, 0, "law.go:93", #[], none⟩) rfl (fun K hK => ?g50ro16) ?g50rm16
       case g50ro16 =>
        go_simp; refine gen_w (fun X hX => ?_); (have hbk := bel_nb HBX hX); (have rb := bel_nr HBX hX); (have hbg := HBX.size);  skip; (replace HBX := bt HBX hbk);  (obtain ⟨bx, hbx⟩ : ∃ b, b = W.heap.size := ⟨_, rfl⟩); rw [← hbx] at rb hbg ⊢; clear hbx; clear hX hbk
        refine hK.out _ _ ?g50rs16 (fun hHeld => ?g50rt16)
        case g50rs16 => (try dsimp only); (first | exact ⟨cb (b0 wi).drew (HTI.out.1), cb (b0 wi).drew (HTI.out.2.1), cb (b0 wi).drew (HTI.out.2.2.1), cb (b0 wi).drew (HTI.out.2.2.2.1), cb (b0 wi).drew (HTI.out.2.2.2.2.1), cb (b0 wi).drew (HTI.out.2.2.2.2.2.1), cb (b0 wi).drew (HTI.out.2.2.2.2.2.2)⟩ | exact ⟨cb HBX (HTI.out.1), cb HBX (HTI.out.2.1), cb HBX (HTI.out.2.2.1), cb HBX (HTI.out.2.2.2.1), cb HBX (HTI.out.2.2.2.2.1), cb HBX (HTI.out.2.2.2.2.2.1), cb HBX (HTI.out.2.2.2.2.2.2)⟩)
        try dsimp only at hHeld
        clear hK K
        try simp only [Act.put, pA, pB, pC]
        refine wpAnyF_ready [12] (by kernel_rfl) (by simp) ?_
        refine AllReadyF.cons 12 (o := ⟨some 120, .call { callee := .value (.func 26), args := #[.tmp 108, .tmp 112, .tmp 113, .tmp 119], argTypes := #[46, 48, 3, 3] }, 46, "law.go:93", #[⟨0, .data⟩, ⟨4, .data⟩, ⟨5, .data⟩, ⟨11, .data⟩], none⟩) rfl (fun K hK => ?g50ro17) ?g50rm17
        case g50rm17 => exact AllReadyF.nil
        go_simp; (try rw [HMIN.out]); refine (HCU.out _ HBX).mono ?_; rintro e w10 ⟨p0, d0, p1, d1, p2, d2, rfl, hc1, hbk⟩; rw [hplr, hpld]; dsimp only; (have hbs := HBX.size);  (have hrl := rb.lt); (replace rb := rb.below hbk); (have hcA := hc1.go (S := fun _ => False) (ok' := fun b => wi.heap.size ≤ b ∧ b < w10.heap.size ∧ b ≠ bx) (Chg.refl _ w10) (fun b hb h => ⟨fun h => h, by omega, hb, by omega⟩)) ; (replace HBX := bt HBX hbk); clear hbk hc1
        refine hK.out _ _ ?g50rs17 (fun hHeld => ?g50rt17)
        case g50rs17 => (try dsimp only); (first | exact ⟨cb (b0 wi).drew (HTI.out.1), cb (b0 wi).drew (HTI.out.2.1), cb (b0 wi).drew (HTI.out.2.2.1), cb (b0 wi).drew (HTI.out.2.2.2.1), cb (b0 wi).drew (HTI.out.2.2.2.2.1), cb (b0 wi).drew (HTI.out.2.2.2.2.2.1), cb (b0 wi).drew (HTI.out.2.2.2.2.2.2)⟩ | exact ⟨cb HBX (HTI.out.1), cb HBX (HTI.out.2.1), cb HBX (HTI.out.2.2.1), cb HBX (HTI.out.2.2.2.1), cb HBX (HTI.out.2.2.2.2.1), cb HBX (HTI.out.2.2.2.2.2.1), cb HBX (HTI.out.2.2.2.2.2.2)⟩)
        try dsimp only at hHeld
        clear hK K
        try simp only [Act.put, pA, pB, pC]
        refine wpAnyF_ready [14] (by kernel_rfl) (by simp) ?_
        refine AllReadyF.last 14 (o := ⟨none, .store 46 (.tmp 24) (.tmp 120), 0, "law.go:93", #[⟨13, .data⟩, ⟨12, .data⟩, ⟨12, .chain⟩, ⟨0, .phase⟩, ⟨1, .phase⟩, ⟨2, .phase⟩, ⟨3, .phase⟩, ⟨4, .phase⟩, ⟨5, .phase⟩, ⟨6, .phase⟩, ⟨7, .phase⟩, ⟨8, .phase⟩, ⟨9, .phase⟩, ⟨10, .phase⟩, ⟨11, .phase⟩, ⟨12, .phase⟩, ⟨13, .phase⟩], none⟩) rfl (by kernel_rfl) (fun K hK => ?g50ro18) ?g50rm18
        case g50rm18 => exact AllReadyF.nil
        (have y0 := rb.cell 0); (have y1 := rb.cell 1); (have y2 := rb.cell 2); (have qf := rb.frozen); (have ql := rb.lt); (simp only [List.getElem?_toArray, List.getElem?_cons_zero, List.getElem?_cons_succ] at y0 y1 y2); go_simp; clear y0 y1 y2 qf ql
        refine hK.out _ _ ?_
        clear hK K
        try simp only [Act.put, pA, pB, pC]
        refine wpAnyF_done (by kernel_rfl) ?_
        have rz := Rw.set3 rb (u0 := .slice p0 P.length d0) (u1 := .slice p1 P.length d1) (u2 := .slice p2 (celV P).length d2)
        have hbf := bset3 HBX hbg (u0 := .slice p0 P.length d0) (u1 := .slice p1 P.length d1) (u2 := .slice p2 (celV P).length d2)
        have HBF := Lib.hid hbf; have HRZ := Lib.hid rz; have hbg2 := hbg
        first
         | (have HCF := Lib.hid (ClAt.set3' hcA2 (.slice p0 P.length d0) (.slice p1 P.length d1) (.slice p2 (celV P).length d2)))
         | (have HCF := Lib.hid (ClAt.set3' hcA (.slice p0 P.length d0) (.slice p1 P.length d1) (.slice p2 (celV P).length d2)))
        clear rz hbf rb HBX hcA
        go_wp2_with fail
        go_meet
        case rel => exact ⟨_, p0, p1, p2, d0, d1, d2, rfl, hbg2, HRZ, HCF, HBF⟩
       case g50rm16 =>
       exact AllReadyF.nil
      case rest =>
       obtain ⟨b24, p0, p1, p2, d0, d1, d2, rfl, hb24, HRX, HCX, HBX⟩ := hcut
       have hpv : (clC P).v.length = (celV P).length := rfl
       have hw24 := HRX.out.lt
       go_upto_region 24 with fail
       refine wp_region_F (fun w' => (w'.cell? ⟨b24, 0, none⟩ = some (.slice p0 P.length d0) ∧ w'.cell? ⟨b24, 1, none⟩ = some (.slice p1 P.length d1) ∧ w'.cell? ⟨b24, 2, none⟩ = some (.slice p2 (celV P).length d2)) ∧ w'.cell? ⟨b18, 0, none⟩ = some (.slice x0 C.length y0) ∧ w'.cell? ⟨b18, 1, none⟩ = some (.slice x1 C.length y1) ∧ w'.cell? ⟨b18, 2, none⟩ = some (.slice x2 (celV C).length y2) ∧ w'.cell? ⟨gL, k * 4, none⟩ = some (.int .i64 (lf : Int)) ∧ w'.cell? ⟨gL, k * 4 + 1, none⟩ = some (.int .i64 (R0 : Int)) ∧ w'.cell? ⟨gL, k * 4 + 2, none⟩ = some (.int .i64 (D : Int)) ∧ w'.cell? ⟨gL, k * 4 + 3, none⟩ = some (.int .i64 K0)) [] (by kernel_rfl) ?g51rgS (fun hHeld => ?g51rgR)
       case g51rgS => (try dsimp only); (first | exact ⟨⟨HRX.out.drew.cell 0, HRX.out.drew.cell 1, HRX.out.drew.cell 2⟩, cb (bt HBX.out (b0 wc).drew) (HTI.out.1), cb (bt HBX.out (b0 wc).drew) (HTI.out.2.1), cb (bt HBX.out (b0 wc).drew) (HTI.out.2.2.1), cb (bt HBX.out (b0 wc).drew) (HTI.out.2.2.2.1), cb (bt HBX.out (b0 wc).drew) (HTI.out.2.2.2.2.1), cb (bt HBX.out (b0 wc).drew) (HTI.out.2.2.2.2.2.1), cb (bt HBX.out (b0 wc).drew) (HTI.out.2.2.2.2.2.2)⟩ | exact ⟨⟨(HRX.out.below HBY).cell 0, (HRX.out.below HBY).cell 1, (HRX.out.below HBY).cell 2⟩, cb (bt HBX.out HBY) (HTI.out.1), cb (bt HBX.out HBY) (HTI.out.2.1), cb (bt HBX.out HBY) (HTI.out.2.2.1), cb (bt HBX.out HBY) (HTI.out.2.2.2.1), cb (bt HBX.out HBY) (HTI.out.2.2.2.2.1), cb (bt HBX.out HBY) (HTI.out.2.2.2.2.2.1), cb (bt HBX.out HBY) (HTI.out.2.2.2.2.2.2)⟩)
       try dsimp only at hHeld
       obtain ⟨W, hW⟩ : ∃ W, W = wc.drew := ⟨_, rfl⟩; rw [← hW] at hHeld ⊢; (have HBY : Below wc.heap.size wc W := by rw [hW]; exact (b0 wc).drew); clear hW
       refine wpAnyF_take 0 (oi := ⟨some 121, .load 46 (.tmp 24), 46, "law.go:94", #[], none⟩) (v := ?g51rv1) rfl (by kernel_rfl) (fun _ _ _ h => h) (by assumption) (by rfl) ?g51ry1 ?g51rr1
       case g51ry1 => intro w hSw; obtain ⟨⟨t0, t1, t2⟩, s0, s1, s2, s3, s4, s5, s6⟩ := hSw; go_simp; try with_reducible rfl
       try simp only [Act.put, pA, pB, pC]
       refine wpAnyF_take 1 (oi := ⟨some 122, .load 46 (.tmp 18), 46, "law.go:94", #[], none⟩) (v := ?g51rv2) rfl (by kernel_rfl) (fun _ _ _ h => h) (by assumption) (by rfl) ?g51ry2 ?g51rr2
       case g51ry2 => intro w hSw; obtain ⟨⟨t0, t1, t2⟩, s0, s1, s2, s3, s4, s5, s6⟩ := hSw; go_simp; try with_reducible rfl
       try simp only [Act.put, pA, pB, pC]
       refine wpAnyF_take 2 (oi := ⟨some 123, .move (.tmp 16), 42, "law.go:94", #[], none⟩) (v := ?g51rv3) rfl (by kernel_rfl) (fun _ _ _ h => h) (by assumption) (by rfl) ?g51ry3 ?g51rr3
       case g51ry3 => intro w hSw; obtain ⟨⟨t0, t1, t2⟩, s0, s1, s2, s3, s4, s5, s6⟩ := hSw; go_simp; try with_reducible rfl
       try simp only [Act.put, pA, pB, pC]
       refine wpAnyF_take 3 (oi := ⟨some 124, .move (.tmp 17), 3, "law.go:94", #[], none⟩) (v := ?g51rv4) rfl (by kernel_rfl) (fun _ _ _ h => h) (by assumption) (by rfl) ?g51ry4 ?g51rr4
       case g51ry4 => intro w hSw; obtain ⟨⟨t0, t1, t2⟩, s0, s1, s2, s3, s4, s5, s6⟩ := hSw; go_simp; try with_reducible rfl
       try simp only [Act.put, pA, pB, pC]
       refine wpAnyF_take 4 (oi := ⟨some 125, .indexAddr 42 (.tmp 123) (.tmp 124), 0, "law.go:94", #[⟨2, .data⟩, ⟨3, .data⟩], none⟩) (v := ?g51rv5) rfl (by kernel_rfl) (fun _ _ _ h => h) (by assumption) (by rfl) ?g51ry5 ?g51rr5
       case g51ry5 => intro w hSw; obtain ⟨⟨t0, t1, t2⟩, s0, s1, s2, s3, s4, s5, s6⟩ := hSw; go_simp; try with_reducible rfl
       try simp only [Act.put, pA, pB, pC]
       refine wpAnyF_take 5 (oi := ⟨some 126, .load 48 (.tmp 125), 48, "law.go:94", #[⟨4, .data⟩], none⟩) (v := ?g51rv6) rfl (by kernel_rfl) (fun _ _ _ h => h) (by assumption) (by rfl) ?g51ry6 ?g51rr6
       case g51ry6 => intro w hSw; obtain ⟨⟨t0, t1, t2⟩, s0, s1, s2, s3, s4, s5, s6⟩ := hSw; go_simp; try with_reducible rfl
       try simp only [Act.put, pA, pB, pC]
       refine wpAnyF_take 6 (oi := ⟨some 127, .move (.tmp 23), 3, "law.go:94", #[], none⟩) (v := ?g51rv7) rfl (by kernel_rfl) (fun _ _ _ h => h) (by assumption) (by rfl) ?g51ry7 ?g51rr7
       case g51ry7 => intro w hSw; obtain ⟨⟨t0, t1, t2⟩, s0, s1, s2, s3, s4, s5, s6⟩ := hSw; go_simp; try with_reducible rfl
       try simp only [Act.put, pA, pB, pC]
       refine wpAnyF_take 7 (oi := ⟨some 128, .move (.tmp 23), 3, "law.go:94", #[], none⟩) (v := ?g51rv8) rfl (by kernel_rfl) (fun _ _ _ h => h) (by assumption) (by rfl) ?g51ry8 ?g51rr8
       case g51ry8 => intro w hSw; obtain ⟨⟨t0, t1, t2⟩, s0, s1, s2, s3, s4, s5, s6⟩ := hSw; go_simp; try with_reducible rfl
       try simp only [Act.put, pA, pB, pC]
       refine wpAnyF_take 8 (oi := ⟨some 129, .move (.tmp 5), 3, "law.go:94", #[], none⟩) (v := ?g51rv9) rfl (by kernel_rfl) (fun _ _ _ h => h) (by assumption) (by rfl) ?g51ry9 ?g51rr9
       case g51ry9 => intro w hSw; obtain ⟨⟨t0, t1, t2⟩, s0, s1, s2, s3, s4, s5, s6⟩ := hSw; go_simp; try with_reducible rfl
       try simp only [Act.put, pA, pB, pC]
       refine wpAnyF_take 9 (oi := ⟨some 130, .binOp .add 3 (.tmp 128) (.tmp 129) 3, 3, "law.go:94", #[⟨7, .data⟩, ⟨8, .data⟩], none⟩) (v := ?g51rv10) rfl (by kernel_rfl) (fun _ _ _ h => h) (by assumption) (by rfl) ?g51ry10 ?g51rr10
       case g51ry10 => intro w hSw; obtain ⟨⟨t0, t1, t2⟩, s0, s1, s2, s3, s4, s5, s6⟩ := hSw; go_simp; try with_reducible rfl
       try simp only [Act.put, pA, pB, pC]
       refine wpAnyF_take 10 (oi := ⟨some 131, .move (.tmp 19), 22, "law.go:94", #[], none⟩) (v := ?g51rv11) rfl (by kernel_rfl) (fun _ _ _ h => h) (by assumption) (by rfl) ?g51ry11 ?g51rr11
       case g51ry11 => intro w hSw; obtain ⟨⟨t0, t1, t2⟩, s0, s1, s2, s3, s4, s5, s6⟩ := hSw; go_simp; try with_reducible rfl
       try simp only [Act.put, pA, pB, pC]
       refine wpAnyF_take 11 (oi := ⟨some 132, .call { callee := .builtin .len, args := #[.tmp 131], argTypes := #[22] }, 3, "law.go:94", #[⟨10, .data⟩], none⟩) (v := ?g51rv12) rfl (by kernel_rfl) (fun _ _ _ h => h) (by assumption) (by rfl) ?g51ry12 ?g51rr12
       case g51ry12 => intro w hSw; obtain ⟨⟨t0, t1, t2⟩, s0, s1, s2, s3, s4, s5, s6⟩ := hSw; go_simp; try with_reducible rfl
       try simp only [Act.put, pA, pB, pC]
       refine wpAnyF_take 12 (oi := ⟨some 133, .call { callee := .builtin .min, args := #[.tmp 130, .tmp 132], argTypes := #[3, 3] }, 3, "law.go:94", #[⟨9, .data⟩, ⟨11, .data⟩], none⟩) (v := ?g51rv13) rfl (by kernel_rfl) (fun _ _ _ h => h) (by assumption) (by rfl) ?g51ry13 ?g51rr13
       case g51ry13 => intro w hSw; obtain ⟨⟨t0, t1, t2⟩, s0, s1, s2, s3, s4, s5, s6⟩ := hSw; go_simp; try with_reducible rfl
       try simp only [Act.put, pA, pB, pC]
       refine wpAnyF_ready [13] (by kernel_rfl) (by simp) ?_
       refine AllReadyF.cons 13 (o := ⟨some 134, .call { callee := .value (.func 27), args := #[.tmp 122, .tmp 126, .tmp 127, .tmp 133], argTypes := #[46, 48, 3, 3] }, 46, "law.go:94", #[⟨1, .data⟩, ⟨5, .data⟩, ⟨6, .data⟩, ⟨12, .data⟩], none⟩) rfl (fun K hK => ?g51ro14) ?g51rm14
       case g51rm14 => exact AllReadyF.nil
       go_simp; (try rw [HMIN.out]); refine (HRCU.out _ (bt HBX.out HBY)).mono ?_; rintro e w10 ⟨p3, d3, p4, d4, p5, d5, rfl, hc2, hbk⟩; rw [hplr, hpld]; dsimp only; (replace HBY := bt HBY hbk); (have hcB := hc2.go (S := fun _ => False) (ok' := fun b => b < w10.heap.size) (Chg.refl _ w10) (fun b hb _ => ⟨fun h => h, hb⟩)); clear hbk hc2
       refine hK.out _ _ ?g51rs14 (fun hHeld => ?g51rt14)
       case g51rs14 => (try dsimp only); (first | exact ⟨⟨HRX.out.drew.cell 0, HRX.out.drew.cell 1, HRX.out.drew.cell 2⟩, cb (bt HBX.out (b0 wc).drew) (HTI.out.1), cb (bt HBX.out (b0 wc).drew) (HTI.out.2.1), cb (bt HBX.out (b0 wc).drew) (HTI.out.2.2.1), cb (bt HBX.out (b0 wc).drew) (HTI.out.2.2.2.1), cb (bt HBX.out (b0 wc).drew) (HTI.out.2.2.2.2.1), cb (bt HBX.out (b0 wc).drew) (HTI.out.2.2.2.2.2.1), cb (bt HBX.out (b0 wc).drew) (HTI.out.2.2.2.2.2.2)⟩ | exact ⟨⟨(HRX.out.below HBY).cell 0, (HRX.out.below HBY).cell 1, (HRX.out.below HBY).cell 2⟩, cb (bt HBX.out HBY) (HTI.out.1), cb (bt HBX.out HBY) (HTI.out.2.1), cb (bt HBX.out HBY) (HTI.out.2.2.1), cb (bt HBX.out HBY) (HTI.out.2.2.2.1), cb (bt HBX.out HBY) (HTI.out.2.2.2.2.1), cb (bt HBX.out HBY) (HTI.out.2.2.2.2.2.1), cb (bt HBX.out HBY) (HTI.out.2.2.2.2.2.2)⟩)
       try dsimp only at hHeld
       clear hK K
       try simp only [Act.put, pA, pB, pC]
       refine wpAnyF_ready [14] (by kernel_rfl) (by simp) ?_
       refine AllReadyF.cons 14 (o := ⟨some 135, .call { callee := .value (.func 28), args := #[.tmp 121, .tmp 134], argTypes := #[46, 46] }, 4, "law.go:94", #[⟨0, .data⟩, ⟨13, .data⟩, ⟨13, .chain⟩], none⟩) rfl (fun K hK => ?g51ro15) ?g51rm15
       case g51rm15 => exact AllReadyF.nil
       go_simp; (have hcx := HCX.out.go (S := fun g => wc.heap.size ≤ g) (ok' := fun b => b < w10.heap.size) (Chg.ofBelow HBY) (fun b hb h => ⟨by omega, Nat.lt_of_lt_of_le hb HBY.size⟩)); (have hrs := rsame_v (clC P) (clC P) _ _ _ _ _ _ _ _ _ _ _ _ w10 hcx hcB); rw [hplr, hpld, hpv] at hrs; refine hrs.mono ?_; rintro e w12' ⟨tt, rfl, ht, hbk⟩; (obtain rfl : tt = true := ht.2 (by trivial)); dsimp only; (replace HBY := bt HBY hbk); clear hbk ht hrs hcx
       refine hK.out _ _ ?g51rs15 (fun hHeld => ?g51rt15)
       case g51rs15 => (try dsimp only); (first | exact ⟨⟨HRX.out.drew.cell 0, HRX.out.drew.cell 1, HRX.out.drew.cell 2⟩, cb (bt HBX.out (b0 wc).drew) (HTI.out.1), cb (bt HBX.out (b0 wc).drew) (HTI.out.2.1), cb (bt HBX.out (b0 wc).drew) (HTI.out.2.2.1), cb (bt HBX.out (b0 wc).drew) (HTI.out.2.2.2.1), cb (bt HBX.out (b0 wc).drew) (HTI.out.2.2.2.2.1), cb (bt HBX.out (b0 wc).drew) (HTI.out.2.2.2.2.2.1), cb (bt HBX.out (b0 wc).drew) (HTI.out.2.2.2.2.2.2)⟩ | exact ⟨⟨(HRX.out.below HBY).cell 0, (HRX.out.below HBY).cell 1, (HRX.out.below HBY).cell 2⟩, cb (bt HBX.out HBY) (HTI.out.1), cb (bt HBX.out HBY) (HTI.out.2.1), cb (bt HBX.out HBY) (HTI.out.2.2.1), cb (bt HBX.out HBY) (HTI.out.2.2.2.1), cb (bt HBX.out HBY) (HTI.out.2.2.2.2.1), cb (bt HBX.out HBY) (HTI.out.2.2.2.2.2.1), cb (bt HBX.out HBY) (HTI.out.2.2.2.2.2.2)⟩)
       try dsimp only at hHeld
       clear hK K
       try simp only [Act.put, pA, pB, pC]
       refine wpAnyF_take 15 (oi := ⟨some 136, .unOp .not 4 (.tmp 135), 4, "law.go:94", #[⟨14, .data⟩], none⟩) (v := ?g51rv16) rfl (by kernel_rfl) (fun _ _ _ h => h) (by assumption) (by rfl) ?g51ry16 ?g51rr16
       case g51ry16 => intro w hSw; obtain ⟨⟨t0, t1, t2⟩, s0, s1, s2, s3, s4, s5, s6⟩ := hSw; go_simp; try with_reducible rfl
       try simp only [Act.put, pA, pB, pC]
       refine wpAnyF_done (by kernel_rfl) ?_
       have HBZ := Lib.hid HBY
       clear hHeld hcB HBY hwA
       obtain ⟨aa1, cc1, how1, row1⟩ := HOQ.out
       have HAk : Hid (∀ q g, q < 3 → blk (aa1 q) g → g < wi.heap.size) := Lib.hid (fun q g hq hg => (how1.lt q g hq hg).1)
       have HOW := Lib.hid (how1.below (bt HBX.out HBZ.out)); have HROW := Lib.hid (row1.below (bt HBX.out HBZ.out))
       have HR24 := Lib.hid (HRX.out.below HBZ.out)
       have HCX2 := Lib.hid (HCX.out.go (S := fun g => wc.heap.size ≤ g) (ok' := fun b => wi.heap.size ≤ b) (Chg.ofBelow HBZ.out) (fun b hb h => ⟨by omega, h.1⟩))
       have HCHX := Lib.hid (HCH.out.trans (Chg.ofBelow (bt HBX.out HBZ.out)) (fun g hg h => by omega))
       have hvL := celV_le L; have hvP := celV_le P
       have hpl4 := HPL2.out
       clear how1 row1 HOQ HRX HCX HRCU HCU
       have hzz := HBZ.out.size; have hzx := HBX.out.size
       go_upto_region 26 with fail
       refine gen_wz (fun wq hwq => ?_)
       have hbq0 : Below w12'.heap.size w12' wq := by rw [hwq]; exact b0 _
       clear hwq
       have HOWq := Lib.hid (HOW.out.below hbq0); have HROWq := Lib.hid (HROW.out.below hbq0); have HR24q := Lib.hid (HR24.out.below hbq0)
       have HCX3 := Lib.hid (HCX2.out.go (S := fun g => w12'.heap.size ≤ g) (ok' := fun b => wi.heap.size ≤ b) (Chg.ofBelow hbq0) (fun b hb h => ⟨by omega, h⟩))
       have HCHq := Lib.hid (HCHX.out.trans (Chg.ofBelow hbq0) (fun g hg h => by omega))
       have hzq : w12'.heap.size ≤ wq.heap.size := hbq0.size
       have h2220 : b22 < w20.heap.size := h22l
       clear hbq0 HOW HROW HR24 HCX2 HCHX
       by_cases hv : (celV P).length = 0
       ·have HV0 : Hid (celV P = []) := Lib.hid (List.eq_nil_of_length_eq_zero hv)
        refine wp_region_F (fun w' => (w'.cell? ⟨b22, 0, none⟩ = some (.slice (aa1 0) L.length (cc1 0)) ∧ w'.cell? ⟨b22, 1, none⟩ = some (.slice (aa1 1) L.length (cc1 1)) ∧ w'.cell? ⟨b22, 2, none⟩ = some (.slice (aa1 2) (celV L).length (cc1 2))) ∧ (w'.cell? ⟨b24, 0, none⟩ = some (.slice p0 P.length d0) ∧ w'.cell? ⟨b24, 1, none⟩ = some (.slice p1 P.length d1) ∧ w'.cell? ⟨b24, 2, none⟩ = some (.slice p2 (celV P).length d2))) [16] (by kernel_rfl) ?g52rgS (fun hHeld => ?g52rgR)
        case g52rgS => (try dsimp only); (first | exact ⟨⟨HROWq.out.drew.cell 0, HROWq.out.drew.cell 1, HROWq.out.drew.cell 2⟩, HR24q.out.drew.cell 0, HR24q.out.drew.cell 1, HR24q.out.drew.cell 2⟩ | exact ⟨⟨row.cell 0, row.cell 1, row.cell 2⟩, r24.cell 0, r24.cell 1, r24.cell 2⟩)
        try dsimp only at hHeld
        obtain ⟨W, hW⟩ : ∃ W, W = wq.drew := ⟨_, rfl⟩; rw [← hW] at hHeld ⊢; (have row := Rw.ren hW HROWq.out.drew); (have r24 := Rw.ren hW HR24q.out.drew); (have how : OW w20.heap.size W 3 tyC szC aa1 (n3 L) cc1 (x3 L) := by rw [hW]; exact HOWq.out.below (b0 wq).drew); (have hcx : ClAt (fun b => wi.heap.size ≤ b) W (clC P) p0 d0 p1 d1 p2 d2 := by rw [hW]; exact HCX3.out.go (S := fun _ => False) ((Chg.refl _ wq).drew) (fun b _ h => ⟨fun h => h, h⟩)); (have hch : Chg (fun b => b = b22) w20 W := by rw [hW]; exact HCHq.out.drew); (have hBW : w20.heap.size ≤ W.heap.size := hch.size); clear hW
        refine wpAnyF_take 0 (oi := ⟨some 137, .fieldAddr 46 (.tmp 22) 0, 0, "law.go:97", #[], none⟩) (v := ?g52rv1) rfl (by kernel_rfl) (fun _ _ _ h => h) (by assumption) (by rfl) ?g52ry1 ?g52rr1
        case g52ry1 => intro w hSw; obtain ⟨⟨s0, s1, s2⟩, s3, s4, s5⟩ := hSw; go_simp; try with_reducible rfl
        try simp only [Act.put, pA, pB, pC]
        refine wpAnyF_take 1 (oi := ⟨some 138, .load 22 (.tmp 137), 22, "law.go:97", #[⟨0, .data⟩], none⟩) (v := ?g52rv2) rfl (by kernel_rfl) (fun _ _ _ h => h) (by assumption) (by rfl) ?g52ry2 ?g52rr2
        case g52ry2 => intro w hSw; obtain ⟨⟨s0, s1, s2⟩, s3, s4, s5⟩ := hSw; go_simp; try with_reducible rfl
        try simp only [Act.put, pA, pB, pC]
        refine wpAnyF_take 2 (oi := ⟨some 139, .fieldAddr 46 (.tmp 24) 0, 0, "law.go:97", #[], none⟩) (v := ?g52rv3) rfl (by kernel_rfl) (fun _ _ _ h => h) (by assumption) (by rfl) ?g52ry3 ?g52rr3
        case g52ry3 => intro w hSw; obtain ⟨⟨s0, s1, s2⟩, s3, s4, s5⟩ := hSw; go_simp; try with_reducible rfl
        try simp only [Act.put, pA, pB, pC]
        refine wpAnyF_take 3 (oi := ⟨some 140, .load 22 (.tmp 139), 22, "law.go:97", #[⟨2, .data⟩], none⟩) (v := ?g52rv4) rfl (by kernel_rfl) (fun _ _ _ h => h) (by assumption) (by rfl) ?g52ry4 ?g52rr4
        case g52ry4 => intro w hSw; obtain ⟨⟨s0, s1, s2⟩, s3, s4, s5⟩ := hSw; go_simp; try with_reducible rfl
        try simp only [Act.put, pA, pB, pC]
        refine wpAnyF_take 5 (oi := ⟨some 142, .fieldAddr 46 (.tmp 22) 1, 0, "law.go:97", #[], none⟩) (v := ?g52rv5) rfl (by kernel_rfl) (fun _ _ _ h => h) (by assumption) (by rfl) ?g52ry5 ?g52rr5
        case g52ry5 => intro w hSw; obtain ⟨⟨s0, s1, s2⟩, s3, s4, s5⟩ := hSw; go_simp; try with_reducible rfl
        try simp only [Act.put, pA, pB, pC]
        refine wpAnyF_take 6 (oi := ⟨some 143, .load 22 (.tmp 142), 22, "law.go:97", #[⟨5, .data⟩], none⟩) (v := ?g52rv6) rfl (by kernel_rfl) (fun _ _ _ h => h) (by assumption) (by rfl) ?g52ry6 ?g52rr6
        case g52ry6 => intro w hSw; obtain ⟨⟨s0, s1, s2⟩, s3, s4, s5⟩ := hSw; go_simp; try with_reducible rfl
        try simp only [Act.put, pA, pB, pC]
        refine wpAnyF_take 7 (oi := ⟨some 144, .fieldAddr 46 (.tmp 24) 1, 0, "law.go:97", #[], none⟩) (v := ?g52rv7) rfl (by kernel_rfl) (fun _ _ _ h => h) (by assumption) (by rfl) ?g52ry7 ?g52rr7
        case g52ry7 => intro w hSw; obtain ⟨⟨s0, s1, s2⟩, s3, s4, s5⟩ := hSw; go_simp; try with_reducible rfl
        try simp only [Act.put, pA, pB, pC]
        refine wpAnyF_take 8 (oi := ⟨some 145, .load 22 (.tmp 144), 22, "law.go:97", #[⟨7, .data⟩], none⟩) (v := ?g52rv8) rfl (by kernel_rfl) (fun _ _ _ h => h) (by assumption) (by rfl) ?g52ry8 ?g52rr8
        case g52ry8 => intro w hSw; obtain ⟨⟨s0, s1, s2⟩, s3, s4, s5⟩ := hSw; go_simp; try with_reducible rfl
        try simp only [Act.put, pA, pB, pC]
        refine wpAnyF_take 10 (oi := ⟨some 147, .fieldAddr 46 (.tmp 22) 2, 0, "law.go:97", #[], none⟩) (v := ?g52rv9) rfl (by kernel_rfl) (fun _ _ _ h => h) (by assumption) (by rfl) ?g52ry9 ?g52rr9
        case g52ry9 => intro w hSw; obtain ⟨⟨s0, s1, s2⟩, s3, s4, s5⟩ := hSw; go_simp; try with_reducible rfl
        try simp only [Act.put, pA, pB, pC]
        refine wpAnyF_take 11 (oi := ⟨some 148, .load 44 (.tmp 147), 44, "law.go:97", #[⟨10, .data⟩], none⟩) (v := ?g52rv10) rfl (by kernel_rfl) (fun _ _ _ h => h) (by assumption) (by rfl) ?g52ry10 ?g52rr10
        case g52ry10 => intro w hSw; obtain ⟨⟨s0, s1, s2⟩, s3, s4, s5⟩ := hSw; go_simp; try with_reducible rfl
        try simp only [Act.put, pA, pB, pC]
        refine wpAnyF_take 12 (oi := ⟨some 149, .fieldAddr 46 (.tmp 24) 2, 0, "law.go:97", #[], none⟩) (v := ?g52rv11) rfl (by kernel_rfl) (fun _ _ _ h => h) (by assumption) (by rfl) ?g52ry11 ?g52rr11
        case g52ry11 => intro w hSw; obtain ⟨⟨s0, s1, s2⟩, s3, s4, s5⟩ := hSw; go_simp; try with_reducible rfl
        try simp only [Act.put, pA, pB, pC]
        refine wpAnyF_take 13 (oi := ⟨some 150, .load 44 (.tmp 149), 44, "law.go:97", #[⟨12, .data⟩], none⟩) (v := ?g52rv12) rfl (by kernel_rfl) (fun _ _ _ h => h) (by assumption) (by rfl) ?g52ry12 ?g52rr12
        case g52ry12 => intro w hSw; obtain ⟨⟨s0, s1, s2⟩, s3, s4, s5⟩ := hSw; go_simp; try with_reducible rfl
        try simp only [Act.put, pA, pB, pC]
        refine wpAnyF_ready [4] (by kernel_rfl) (by simp) ?_
        refine AllReadyF.cons 4 (o := ⟨some 141, .call { callee := .builtin .append, args := #[.tmp 138, .tmp 140], argTypes := #[22, 22] }, 22, "law.go:97", #[⟨1, .data⟩, ⟨3, .data⟩], none⟩) rfl (fun K hK => ?g52ro13) ?g52rm13
        case g52rm13 => exact AllReadyF.nil
        (have o0 : Own w20.heap.size _ 3 1 (aa1 0) L.length (cc1 0) (celR L) := how.own 0 (by decide)); (have sx := hcx.r); rw [clC_r, hplr] at sx; (refine step_append (B := w20.heap.size) rfl _ _ _ _ rfl ii (.int .i64 0) 8 Try.underlying22 hii hz0i hz1i hz2i rfl rfl o0 _ rfl _ _ (sx.src (P := Try.prog) (tx := 22) Try.underlying22 (celR_one _)) (by simp only [maxLen]; omega) (by omega) hBW ?_; intro a4 cap4 W4 ho4 hc4 hn4); (replace row := row.chg hc4 (fun h => by have := h.2.1; omega)); (replace r24 := r24.chg hc4 (fun h => by have := HAk.out 0 _ (by decide) h.1; omega)); (replace hcx := hcx.go hc4 (fun g _ h => ⟨fun h2 => by have := HAk.out 0 _ (by decide) h2.1; omega, h⟩)); (replace hch := hch.trans hc4 (fun g hg h => by have := h.2.1; omega)); (replace hBW := Nat.le_trans hBW hc4.size); (replace how := how.push (j := 0) (by decide) (by omega) ho4 hc4 hn4); clear ho4 hc4 hn4 o0 sx
        refine hK.out _ _ ?g52rs13 (fun hHeld => ?g52rt13)
        case g52rs13 => (try dsimp only); (first | exact ⟨⟨HROWq.out.drew.cell 0, HROWq.out.drew.cell 1, HROWq.out.drew.cell 2⟩, HR24q.out.drew.cell 0, HR24q.out.drew.cell 1, HR24q.out.drew.cell 2⟩ | exact ⟨⟨row.cell 0, row.cell 1, row.cell 2⟩, r24.cell 0, r24.cell 1, r24.cell 2⟩)
        try dsimp only at hHeld
        clear hK K
        try simp only [Act.put, pA, pB, pC]
        refine wpAnyF_ready [9] (by kernel_rfl) (by simp) ?_
        refine AllReadyF.cons 9 (o := ⟨some 146, .call { callee := .builtin .append, args := #[.tmp 143, .tmp 145], argTypes := #[22, 22] }, 22, "law.go:97", #[⟨6, .data⟩, ⟨8, .data⟩, ⟨4, .chain⟩], none⟩) rfl (fun K hK => ?g52ro14) ?g52rm14
        case g52rm14 => exact AllReadyF.nil
        (have o1 : Own w20.heap.size _ 3 1 (aa1 1) L.length (cc1 1) (celD L) := how.own 1 (by decide)); (have sx := hcx.d); rw [clC_d, hpld] at sx; (refine step_append (B := w20.heap.size) rfl _ _ _ _ rfl ii (.int .i64 0) 8 Try.underlying22 hii hz0i hz1i hz2i rfl rfl o1 _ rfl _ _ (sx.src (P := Try.prog) (tx := 22) Try.underlying22 (celD_one _)) (by simp only [maxLen]; omega) (by omega) hBW ?_; intro a9 cap9 W9 ho9 hc9 hn9); (replace row := row.chg hc9 (fun h => by have := h.2.1; omega)); (replace r24 := r24.chg hc9 (fun h => by have := HAk.out 1 _ (by decide) h.1; omega)); (replace hcx := hcx.go hc9 (fun g _ h => ⟨fun h2 => by have := HAk.out 1 _ (by decide) h2.1; omega, h⟩)); (replace hch := hch.trans hc9 (fun g hg h => by have := h.2.1; omega)); (replace hBW := Nat.le_trans hBW hc9.size); (replace how := how.push (j := 1) (by decide) (by omega) ho9 hc9 hn9); clear ho9 hc9 hn9 o1 sx
        refine hK.out _ _ ?g52rs14 (fun hHeld => ?g52rt14)
        case g52rs14 => (try dsimp only); (first | exact ⟨⟨HROWq.out.drew.cell 0, HROWq.out.drew.cell 1, HROWq.out.drew.cell 2⟩, HR24q.out.drew.cell 0, HR24q.out.drew.cell 1, HR24q.out.drew.cell 2⟩ | exact ⟨⟨row.cell 0, row.cell 1, row.cell 2⟩, r24.cell 0, r24.cell 1, r24.cell 2⟩)
        try dsimp only at hHeld
        clear hK K
        try simp only [Act.put, pA, pB, pC]
        refine wpAnyF_ready [14] (by kernel_rfl) (by simp) ?_
        refine AllReadyF.cons 14 (o := ⟨some 151, .call { callee := .builtin .append, args := #[.tmp 148, .tmp 150], argTypes := #[44, 44] }, 44, "law.go:97", #[⟨11, .data⟩, ⟨13, .data⟩, ⟨9, .chain⟩], none⟩) rfl (fun K hK => ?g52ro15) ?g52rm15
        case g52rm15 => exact AllReadyF.nil
        (have o2 : Own w20.heap.size _ 54 2 (aa1 2) (celV L).length (cc1 2) (vcs (celV L)) := how.own 2 (by decide)); (refine step_nothing rfl _ _ _ _ rfl iv Try.underlying44 hiv hz1v rfl o2.le _ rfl (Sl.src0 (P := Try.prog) (tx := 44) Try.underlying44 (ok := fun b => wi.heap.size ≤ b) (size := 2) (n := 0) (by have h : Sl _ _ 2 p2 (celV P).length d2 (vcs (celV P)) := hcx.v; rw [HV0.out] at h; exact h) rfl) ?_)
        refine hK.out _ _ ?g52rs15 (fun hHeld => ?g52rt15)
        case g52rs15 => (try dsimp only); (first | exact ⟨⟨HROWq.out.drew.cell 0, HROWq.out.drew.cell 1, HROWq.out.drew.cell 2⟩, HR24q.out.drew.cell 0, HR24q.out.drew.cell 1, HR24q.out.drew.cell 2⟩ | exact ⟨⟨row.cell 0, row.cell 1, row.cell 2⟩, r24.cell 0, r24.cell 1, r24.cell 2⟩)
        try dsimp only at hHeld
        clear hK K
        try simp only [Act.put, pA, pB, pC]
        refine wpAnyF_take 15 (oi := ⟨some 152, .build 46 #[(0, .tmp 141), (1, .tmp 146), (2, .tmp 151)], 46, "law.go:97", #[⟨4, .data⟩, ⟨9, .data⟩, ⟨14, .data⟩], none⟩) (v := ?g52rv16) rfl (by kernel_rfl) (fun _ _ _ h => h) (by assumption) (by rfl) ?g52ry16 ?g52rr16
        case g52ry16 => intro w hSw; obtain ⟨⟨s0, s1, s2⟩, s3, s4, s5⟩ := hSw; go_simp; try with_reducible rfl
        try simp only [Act.put, pA, pB, pC]
        refine wpAnyF_ready [16] (by kernel_rfl) (by simp) ?_
        refine AllReadyF.last 16 (o := ⟨none, .store 46 (.tmp 22) (.tmp 152), 0, "law.go:97", #[⟨15, .data⟩, ⟨14, .chain⟩, ⟨0, .phase⟩, ⟨1, .phase⟩, ⟨2, .phase⟩, ⟨3, .phase⟩, ⟨4, .phase⟩, ⟨5, .phase⟩, ⟨6, .phase⟩, ⟨7, .phase⟩, ⟨8, .phase⟩, ⟨9, .phase⟩, ⟨10, .phase⟩, ⟨11, .phase⟩, ⟨12, .phase⟩, ⟨13, .phase⟩, ⟨14, .phase⟩, ⟨15, .phase⟩], none⟩) rfl (by kernel_rfl) (fun K hK => ?g52ro17) ?g52rm17
        case g52rm17 => exact AllReadyF.nil
        (obtain ⟨y0, y1, y2⟩ := And.intro (row.cell 0) (And.intro (row.cell 1) (row.cell 2))); (have qf := row.frozen); (have ql := row.lt); (simp only [List.getElem?_toArray, List.getElem?_cons_zero, List.getElem?_cons_succ] at y0 y1 y2); go_simp
        refine hK.out _ _ ?_
        clear hK K
        try simp only [Act.put, pA, pB, pC]
        refine wpAnyF_done (by kernel_rfl) ?_
        have hch2 := cset3 hch rfl (u0 := .slice a4 (L.length + P.length) cap4) (u1 := .slice a9 (L.length + P.length) cap9) (u2 := .slice (aa1 2) (celV L).length (cc1 2))
        have hq : OutQ b22 w20.heap.size (L ++ P) (((W9.setCell ⟨b22, 0, none⟩ (.slice a4 (L.length + P.length) cap4)).setCell ⟨b22, 1, none⟩ (.slice a9 (L.length + P.length) cap9)).setCell ⟨b22, 2, none⟩ (.slice (aa1 2) (celV L).length (cc1 2))) := by
         have h := OutQ.app (L := L) (P := P) how row (by omega) rfl rfl (m := (celV L).length) (show (celV L).length = _ by rw [HV0.out]; rfl) rfl rfl (show vcs (celV L) = vcs (celV L) ++ vcs (celV P) by rw [HV0.out]; simp [vcs]) (by rw [HV0.out]; rfl)
         exact h
        have HQ := Lib.hid hq; have HC3 := Lib.hid hch2
        clear row how hch hch2 qf ql y0 y1 y2 hq hcx r24
        have hwA := HWA.out
        go_wp2_with fail
        go_roundw
        case rel =>
         have hb := HTE.out
         by_cases hle : j + bq ≤ i
         ·exact ⟨j + bq, by go_num, by omega, by rw [show min (j + bq) i = T by omega, ← HBX3.out, HPT.out]; exact HQ, HC3⟩
         ·exact ⟨j + bq, by go_num, by omega, by rw [show min (j + bq) i = T by omega, ← HBX3.out, HPT.out]; exact HQ, HC3⟩
        case measure => simp [intOf]; omega
       ·have hv1 : 0 < (celV P).length := by omega
        clear hv
        refine wp_region_F (fun w' => (w'.cell? ⟨b22, 0, none⟩ = some (.slice (aa1 0) L.length (cc1 0)) ∧ w'.cell? ⟨b22, 1, none⟩ = some (.slice (aa1 1) L.length (cc1 1)) ∧ w'.cell? ⟨b22, 2, none⟩ = some (.slice (aa1 2) (celV L).length (cc1 2))) ∧ (w'.cell? ⟨b24, 0, none⟩ = some (.slice p0 P.length d0) ∧ w'.cell? ⟨b24, 1, none⟩ = some (.slice p1 P.length d1) ∧ w'.cell? ⟨b24, 2, none⟩ = some (.slice p2 (celV P).length d2))) [16] (by kernel_rfl) ?g53rgS (fun hHeld => ?g53rgR)
        case g53rgS => (try dsimp only); (first | exact ⟨⟨HROWq.out.drew.cell 0, HROWq.out.drew.cell 1, HROWq.out.drew.cell 2⟩, HR24q.out.drew.cell 0, HR24q.out.drew.cell 1, HR24q.out.drew.cell 2⟩ | exact ⟨⟨row.cell 0, row.cell 1, row.cell 2⟩, r24.cell 0, r24.cell 1, r24.cell 2⟩)
        try dsimp only at hHeld
        obtain ⟨W, hW⟩ : ∃ W, W = wq.drew := ⟨_, rfl⟩; rw [← hW] at hHeld ⊢; (have row := Rw.ren hW HROWq.out.drew); (have r24 := Rw.ren hW HR24q.out.drew); (have how : OW w20.heap.size W 3 tyC szC aa1 (n3 L) cc1 (x3 L) := by rw [hW]; exact HOWq.out.below (b0 wq).drew); (have hcx : ClAt (fun b => wi.heap.size ≤ b) W (clC P) p0 d0 p1 d1 p2 d2 := by rw [hW]; exact HCX3.out.go (S := fun _ => False) ((Chg.refl _ wq).drew) (fun b _ h => ⟨fun h => h, h⟩)); (have hch : Chg (fun b => b = b22) w20 W := by rw [hW]; exact HCHq.out.drew); (have hBW : w20.heap.size ≤ W.heap.size := hch.size); clear hW
        refine wpAnyF_take 0 (oi := ⟨some 137, .fieldAddr 46 (.tmp 22) 0, 0, "law.go:97", #[], none⟩) (v := ?g53rv1) rfl (by kernel_rfl) (fun _ _ _ h => h) (by assumption) (by rfl) ?g53ry1 ?g53rr1
        case g53ry1 => intro w hSw; obtain ⟨⟨s0, s1, s2⟩, s3, s4, s5⟩ := hSw; go_simp; try with_reducible rfl
        try simp only [Act.put, pA, pB, pC]
        refine wpAnyF_take 1 (oi := ⟨some 138, .load 22 (.tmp 137), 22, "law.go:97", #[⟨0, .data⟩], none⟩) (v := ?g53rv2) rfl (by kernel_rfl) (fun _ _ _ h => h) (by assumption) (by rfl) ?g53ry2 ?g53rr2
        case g53ry2 => intro w hSw; obtain ⟨⟨s0, s1, s2⟩, s3, s4, s5⟩ := hSw; go_simp; try with_reducible rfl
        try simp only [Act.put, pA, pB, pC]
        refine wpAnyF_take 2 (oi := ⟨some 139, .fieldAddr 46 (.tmp 24) 0, 0, "law.go:97", #[], none⟩) (v := ?g53rv3) rfl (by kernel_rfl) (fun _ _ _ h => h) (by assumption) (by rfl) ?g53ry3 ?g53rr3
        case g53ry3 => intro w hSw; obtain ⟨⟨s0, s1, s2⟩, s3, s4, s5⟩ := hSw; go_simp; try with_reducible rfl
        try simp only [Act.put, pA, pB, pC]
        refine wpAnyF_take 3 (oi := ⟨some 140, .load 22 (.tmp 139), 22, "law.go:97", #[⟨2, .data⟩], none⟩) (v := ?g53rv4) rfl (by kernel_rfl) (fun _ _ _ h => h) (by assumption) (by rfl) ?g53ry4 ?g53rr4
        case g53ry4 => intro w hSw; obtain ⟨⟨s0, s1, s2⟩, s3, s4, s5⟩ := hSw; go_simp; try with_reducible rfl
        try simp only [Act.put, pA, pB, pC]
        refine wpAnyF_take 5 (oi := ⟨some 142, .fieldAddr 46 (.tmp 22) 1, 0, "law.go:97", #[], none⟩) (v := ?g53rv5) rfl (by kernel_rfl) (fun _ _ _ h => h) (by assumption) (by rfl) ?g53ry5 ?g53rr5
        case g53ry5 => intro w hSw; obtain ⟨⟨s0, s1, s2⟩, s3, s4, s5⟩ := hSw; go_simp; try with_reducible rfl
        try simp only [Act.put, pA, pB, pC]
        refine wpAnyF_take 6 (oi := ⟨some 143, .load 22 (.tmp 142), 22, "law.go:97", #[⟨5, .data⟩], none⟩) (v := ?g53rv6) rfl (by kernel_rfl) (fun _ _ _ h => h) (by assumption) (by rfl) ?g53ry6 ?g53rr6
        case g53ry6 => intro w hSw; obtain ⟨⟨s0, s1, s2⟩, s3, s4, s5⟩ := hSw; go_simp; try with_reducible rfl
        try simp only [Act.put, pA, pB, pC]
        refine wpAnyF_take 7 (oi := ⟨some 144, .fieldAddr 46 (.tmp 24) 1, 0, "law.go:97", #[], none⟩) (v := ?g53rv7) rfl (by kernel_rfl) (fun _ _ _ h => h) (by assumption) (by rfl) ?g53ry7 ?g53rr7
        case g53ry7 => intro w hSw; obtain ⟨⟨s0, s1, s2⟩, s3, s4, s5⟩ := hSw; go_simp; try with_reducible rfl
        try simp only [Act.put, pA, pB, pC]
        refine wpAnyF_take 8 (oi := ⟨some 145, .load 22 (.tmp 144), 22, "law.go:97", #[⟨7, .data⟩], none⟩) (v := ?g53rv8) rfl (by kernel_rfl) (fun _ _ _ h => h) (by assumption) (by rfl) ?g53ry8 ?g53rr8
        case g53ry8 => intro w hSw; obtain ⟨⟨s0, s1, s2⟩, s3, s4, s5⟩ := hSw; go_simp; try with_reducible rfl
        try simp only [Act.put, pA, pB, pC]
        refine wpAnyF_take 10 (oi := ⟨some 147, .fieldAddr 46 (.tmp 22) 2, 0, "law.go:97", #[], none⟩) (v := ?g53rv9) rfl (by kernel_rfl) (fun _ _ _ h => h) (by assumption) (by rfl) ?g53ry9 ?g53rr9
        case g53ry9 => intro w hSw; obtain ⟨⟨s0, s1, s2⟩, s3, s4, s5⟩ := hSw; go_simp; try with_reducible rfl
        try simp only [Act.put, pA, pB, pC]
        refine wpAnyF_take 11 (oi := ⟨some 148, .load 44 (.tmp 147), 44, "law.go:97", #[⟨10, .data⟩], none⟩) (v := ?g53rv10) rfl (by kernel_rfl) (fun _ _ _ h => h) (by assumption) (by rfl) ?g53ry10 ?g53rr10
        case g53ry10 => intro w hSw; obtain ⟨⟨s0, s1, s2⟩, s3, s4, s5⟩ := hSw; go_simp; try with_reducible rfl
        try simp only [Act.put, pA, pB, pC]
        refine wpAnyF_take 12 (oi := ⟨some 149, .fieldAddr 46 (.tmp 24) 2, 0, "law.go:97", #[], none⟩) (v := ?g53rv11) rfl (by kernel_rfl) (fun _ _ _ h => h) (by assumption) (by rfl) ?g53ry11 ?g53rr11
        case g53ry11 => intro w hSw; obtain ⟨⟨s0, s1, s2⟩, s3, s4, s5⟩ := hSw; go_simp; try with_reducible rfl
        try simp only [Act.put, pA, pB, pC]
        refine wpAnyF_take 13 (oi := ⟨some 150, .load 44 (.tmp 149), 44, "law.go:97", #[⟨12, .data⟩], none⟩) (v := ?g53rv12) rfl (by kernel_rfl) (fun _ _ _ h => h) (by assumption) (by rfl) ?g53ry12 ?g53rr12
        case g53ry12 => intro w hSw; obtain ⟨⟨s0, s1, s2⟩, s3, s4, s5⟩ := hSw; go_simp; try with_reducible rfl
        try simp only [Act.put, pA, pB, pC]
        refine wpAnyF_ready [4] (by kernel_rfl) (by simp) ?_
        refine AllReadyF.cons 4 (o := ⟨some 141, .call { callee := .builtin .append, args := #[.tmp 138, .tmp 140], argTypes := #[22, 22] }, 22, "law.go:97", #[⟨1, .data⟩, ⟨3, .data⟩], none⟩) rfl (fun K hK => ?g53ro13) ?g53rm13
        case g53rm13 => exact AllReadyF.nil
        (have o0 : Own w20.heap.size _ 3 1 (aa1 0) L.length (cc1 0) (celR L) := how.own 0 (by decide)); (have sx := hcx.r); rw [clC_r, hplr] at sx; (refine step_append (B := w20.heap.size) rfl _ _ _ _ rfl ii (.int .i64 0) 8 Try.underlying22 hii hz0i hz1i hz2i rfl rfl o0 _ rfl _ _ (sx.src (P := Try.prog) (tx := 22) Try.underlying22 (celR_one _)) (by simp only [maxLen]; omega) (by omega) hBW ?_; intro a4 cap4 W4 ho4 hc4 hn4); (replace row := row.chg hc4 (fun h => by have := h.2.1; omega)); (replace r24 := r24.chg hc4 (fun h => by have := HAk.out 0 _ (by decide) h.1; omega)); (replace hcx := hcx.go hc4 (fun g _ h => ⟨fun h2 => by have := HAk.out 0 _ (by decide) h2.1; omega, h⟩)); (replace hch := hch.trans hc4 (fun g hg h => by have := h.2.1; omega)); (replace hBW := Nat.le_trans hBW hc4.size); (replace how := how.push (j := 0) (by decide) (by omega) ho4 hc4 hn4); clear ho4 hc4 hn4 o0 sx
        refine hK.out _ _ ?g53rs13 (fun hHeld => ?g53rt13)
        case g53rs13 => (try dsimp only); (first | exact ⟨⟨HROWq.out.drew.cell 0, HROWq.out.drew.cell 1, HROWq.out.drew.cell 2⟩, HR24q.out.drew.cell 0, HR24q.out.drew.cell 1, HR24q.out.drew.cell 2⟩ | exact ⟨⟨row.cell 0, row.cell 1, row.cell 2⟩, r24.cell 0, r24.cell 1, r24.cell 2⟩)
        try dsimp only at hHeld
        clear hK K
        try simp only [Act.put, pA, pB, pC]
        refine wpAnyF_ready [9] (by kernel_rfl) (by simp) ?_
        refine AllReadyF.cons 9 (o := ⟨some 146, .call { callee := .builtin .append, args := #[.tmp 143, .tmp 145], argTypes := #[22, 22] }, 22, "law.go:97", #[⟨6, .data⟩, ⟨8, .data⟩, ⟨4, .chain⟩], none⟩) rfl (fun K hK => ?g53ro14) ?g53rm14
        case g53rm14 => exact AllReadyF.nil
        (have o1 : Own w20.heap.size _ 3 1 (aa1 1) L.length (cc1 1) (celD L) := how.own 1 (by decide)); (have sx := hcx.d); rw [clC_d, hpld] at sx; (refine step_append (B := w20.heap.size) rfl _ _ _ _ rfl ii (.int .i64 0) 8 Try.underlying22 hii hz0i hz1i hz2i rfl rfl o1 _ rfl _ _ (sx.src (P := Try.prog) (tx := 22) Try.underlying22 (celD_one _)) (by simp only [maxLen]; omega) (by omega) hBW ?_; intro a9 cap9 W9 ho9 hc9 hn9); (replace row := row.chg hc9 (fun h => by have := h.2.1; omega)); (replace r24 := r24.chg hc9 (fun h => by have := HAk.out 1 _ (by decide) h.1; omega)); (replace hcx := hcx.go hc9 (fun g _ h => ⟨fun h2 => by have := HAk.out 1 _ (by decide) h2.1; omega, h⟩)); (replace hch := hch.trans hc9 (fun g hg h => by have := h.2.1; omega)); (replace hBW := Nat.le_trans hBW hc9.size); (replace how := how.push (j := 1) (by decide) (by omega) ho9 hc9 hn9); clear ho9 hc9 hn9 o1 sx
        refine hK.out _ _ ?g53rs14 (fun hHeld => ?g53rt14)
        case g53rs14 => (try dsimp only); (first | exact ⟨⟨HROWq.out.drew.cell 0, HROWq.out.drew.cell 1, HROWq.out.drew.cell 2⟩, HR24q.out.drew.cell 0, HR24q.out.drew.cell 1, HR24q.out.drew.cell 2⟩ | exact ⟨⟨row.cell 0, row.cell 1, row.cell 2⟩, r24.cell 0, r24.cell 1, r24.cell 2⟩)
        try dsimp only at hHeld
        clear hK K
        try simp only [Act.put, pA, pB, pC]
        refine wpAnyF_ready [14] (by kernel_rfl) (by simp) ?_
        refine AllReadyF.cons 14 (o := ⟨some 151, .call { callee := .builtin .append, args := #[.tmp 148, .tmp 150], argTypes := #[44, 44] }, 44, "law.go:97", #[⟨11, .data⟩, ⟨13, .data⟩, ⟨9, .chain⟩], none⟩) rfl (fun K hK => ?g53ro15) ?g53rm15
        case g53rm15 => exact AllReadyF.nil
        (have o2 : Own w20.heap.size _ 54 2 (aa1 2) (celV L).length (cc1 2) (vcs (celV L)) := how.own 2 (by decide)); (refine step_append (B := w20.heap.size) rfl _ _ _ _ rfl iv (.agg #[.int .i64 0, .string ByteArray.empty]) 24 Try.underlying44 hiv hz0v hz1v hz2v rfl rfl o2 _ rfl _ _ (hcx.v.src (P := Try.prog) (tx := 44) Try.underlying44 (vcs_one _)) (by simp only [maxLen]; omega) (by omega) hBW ?_; intro a14 cap14 W14 ho14 hc14 hn14); (try rw [hpv] at ho14 ⊢); (replace row := row.chg hc14 (fun h => by have := h.2.1; omega)); (replace hch := hch.trans hc14 (fun g hg h => by have := h.2.1; omega)); (replace how := how.push (j := 2) (by decide) (by omega) ho14 hc14 hn14); (replace r24 := r24.chg hc14 (fun h => by have := HAk.out 2 _ (by decide) h.1; omega)); clear ho14 hc14 hn14 o2
        refine hK.out _ _ ?g53rs15 (fun hHeld => ?g53rt15)
        case g53rs15 => (try dsimp only); (first | exact ⟨⟨HROWq.out.drew.cell 0, HROWq.out.drew.cell 1, HROWq.out.drew.cell 2⟩, HR24q.out.drew.cell 0, HR24q.out.drew.cell 1, HR24q.out.drew.cell 2⟩ | exact ⟨⟨row.cell 0, row.cell 1, row.cell 2⟩, r24.cell 0, r24.cell 1, r24.cell 2⟩)
        try dsimp only at hHeld
        clear hK K
        try simp only [Act.put, pA, pB, pC]
        refine wpAnyF_take 15 (oi := ⟨some 152, .build 46 #[(0, .tmp 141), (1, .tmp 146), (2, .tmp 151)], 46, "law.go:97", #[⟨4, .data⟩, ⟨9, .data⟩, ⟨14, .data⟩], none⟩) (v := ?g53rv16) rfl (by kernel_rfl) (fun _ _ _ h => h) (by assumption) (by rfl) ?g53ry16 ?g53rr16
        case g53ry16 => intro w hSw; obtain ⟨⟨s0, s1, s2⟩, s3, s4, s5⟩ := hSw; go_simp; try with_reducible rfl
        try simp only [Act.put, pA, pB, pC]
        refine wpAnyF_ready [16] (by kernel_rfl) (by simp) ?_
        refine AllReadyF.last 16 (o := ⟨none, .store 46 (.tmp 22) (.tmp 152), 0, "law.go:97", #[⟨15, .data⟩, ⟨14, .chain⟩, ⟨0, .phase⟩, ⟨1, .phase⟩, ⟨2, .phase⟩, ⟨3, .phase⟩, ⟨4, .phase⟩, ⟨5, .phase⟩, ⟨6, .phase⟩, ⟨7, .phase⟩, ⟨8, .phase⟩, ⟨9, .phase⟩, ⟨10, .phase⟩, ⟨11, .phase⟩, ⟨12, .phase⟩, ⟨13, .phase⟩, ⟨14, .phase⟩, ⟨15, .phase⟩], none⟩) rfl (by kernel_rfl) (fun K hK => ?g53ro17) ?g53rm17
        case g53rm17 => exact AllReadyF.nil
        (obtain ⟨y0, y1, y2⟩ := And.intro (row.cell 0) (And.intro (row.cell 1) (row.cell 2))); (have qf := row.frozen); (have ql := row.lt); (simp only [List.getElem?_toArray, List.getElem?_cons_zero, List.getElem?_cons_succ] at y0 y1 y2); go_simp
        refine hK.out _ _ ?_
        clear hK K
        try simp only [Act.put, pA, pB, pC]
        refine wpAnyF_done (by kernel_rfl) ?_
        have hch2 := cset3 hch rfl (u0 := .slice a4 (L.length + P.length) cap4) (u1 := .slice a9 (L.length + P.length) cap9) (u2 := .slice a14 ((celV L).length + (celV P).length) cap14)
        have hq : OutQ b22 w20.heap.size (L ++ P) (((W14.setCell ⟨b22, 0, none⟩ (.slice a4 (L.length + P.length) cap4)).setCell ⟨b22, 1, none⟩ (.slice a9 (L.length + P.length) cap9)).setCell ⟨b22, 2, none⟩ (.slice a14 ((celV L).length + (celV P).length) cap14)) := by
         have h := OutQ.app (L := L) (P := P) how row (by omega) rfl rfl (m := (celV L).length + (celV P).length) rfl rfl rfl rfl rfl
         exact h
        have HQ := Lib.hid hq; have HC3 := Lib.hid hch2
        clear row how hch hch2 qf ql y0 y1 y2 hq hcx r24
        have hwA := HWA.out
        go_wp2_with fail
        go_roundw
        case rel =>
         have hb := HTE.out
         by_cases hle : j + bq ≤ i
         ·exact ⟨j + bq, by go_num, by omega, by rw [show min (j + bq) i = T by omega, ← HBX3.out, HPT.out]; exact HQ, HC3⟩
         ·exact ⟨j + bq, by go_num, by omega, by rw [show min (j + bq) i = T by omega, ← HBX3.out, HPT.out]; exact HQ, HC3⟩
        case measure => simp [intOf]; omega
     ·have HME : Hid (min j i = i) := Lib.hid (by omega)
      have hoq := HO.out
      rw [HME.out, HALL.out, List.take_length] at hoq
      obtain ⟨aa', cc', how, row⟩ := hoq
      have HOW := Lib.hid how
      have k22 := And.intro (row.cell 0) (And.intro (row.cell 1) (row.cell 2))
      have e0 : wi.cell? ⟨b22, 0, none⟩ = some (.slice (aa' 0) C.length (cc' 0)) := row.cell 0
      have e1 : wi.cell? ⟨b22, 1, none⟩ = some (.slice (aa' 1) C.length (cc' 1)) := row.cell 1
      have e2 : wi.cell? ⟨b22, 2, none⟩ = some (.slice (aa' 2) (celV C).length (cc' 2)) := row.cell 2
      have s0 := HCH.out.keep HT20.out.1 hn18; have s1 := HCH.out.keep HT20.out.2.1 hn18; have s2 := HCH.out.keep HT20.out.2.2.1 hn18
      have hszi := HCH.out.size
      have HCLI : Hid (ClAt (fun b => b < wi.heap.size) wi (clC C) x0 y0 x1 y1 x2 y2) := Lib.hid (HCL22.out.go HCH.out (fun b _ h => ⟨fun he => by have he' : b = b22 := he; omega, by omega⟩))
      have hxr : (clC C).r.length = C.length := by simp [clC]
      have hxd : (clC C).d.length = C.length := by simp [clC]
      have hxv : (clC C).v.length = (celV C).length := rfl
      have o0 : Own w20.heap.size wi 3 1 (aa' 0) C.length (cc' 0) (celR C) := how.own 0 (by decide)
      have o1 : Own w20.heap.size wi 3 1 (aa' 1) C.length (cc' 1) (celD C) := how.own 1 (by decide)
      have o2 : Own w20.heap.size wi 54 2 (aa' 2) (celV C).length (cc' 2) (vcs (celV C)) := how.own 2 (by decide)
      have HAL : Hid (ClAt (fun b => b < wi.heap.size) wi (clC C) (aa' 0) (cc' 0) (aa' 1) (cc' 1) (aa' 2) (cc' 2)) := Lib.hid ⟨by rw [hxr, clC_r]; exact o0.sl.mono (fun b hb _ => hb) (by decide), by rw [hxd, clC_d]; exact o1.sl.mono (fun b hb _ => hb) (by decide), o2.sl.mono (fun b hb _ => hb) (by decide)⟩
      have h1 := fun (W : World) (hW : Below wi.heap.size wi W) => ssame_v (clC C) (clC C) _ _ _ _ _ _ _ _ _ _ _ _ W (HAL.out.below hW) (HCLI.out.below hW)
      have h2 := fun (W : World) (hW : Below wi.heap.size wi W) => rsame_v (clC C) (clC C) _ _ _ _ _ _ _ _ _ _ _ _ W (HAL.out.below hW) (HCLI.out.below hW)
      rw [hxr, hxd, hxv] at h1 h2
      have HS1 := Lib.hid h1; have HS2 := Lib.hid h2
      have HE := Lib.hid (And.intro e0 (And.intro e1 (And.intro e2 (And.intro s0 (And.intro s1 s2)))))
      have HBF := Lib.hid (Chg.bt (bt HB7.out HB120.out) HCH.out (fun g hg he => by have he' : g = b22 := he; have := HB7.out.size; omega))
      clear how row o0 o1 o2 h1 h2 k22 hxr hxd hxv
      go_wp2_with fail
      refine (HS1.out wi (b0 wi)).mono ?_
      rintro e w30 ⟨tt, rfl, ht, hb30⟩
      obtain rfl : tt = true := ht.2 (by trivial)
      have HB30 := Lib.hid hb30
      clear ht hb30 e0 e1 e2 s0 s1 s2
      have e0 := cb HB30.out HE.out.1; have e1 := cb HB30.out HE.out.2.1; have e2 := cb HB30.out HE.out.2.2.1
      have s0 := cb HB30.out HE.out.2.2.2.1; have s1 := cb HB30.out HE.out.2.2.2.2.1; have s2 := cb HB30.out HE.out.2.2.2.2.2
      go_wp2_with fail
      refine (HS2.out w30 HB30.out).mono ?_
      rintro e w31 ⟨tt, rfl, ht, hb31⟩
      obtain rfl : tt = true := ht.2 (by trivial)
      have HB31 := Lib.hid (bt (bt HBF.out HB30.out) hb31)
      clear ht hb31 e0 e1 e2 s0 s1 s2
      go_wp2_with fail
      go_ret
      exact ⟨rfl, HB31.out⟩
end Go.Proofs.Ytibhcibcfommeaa
