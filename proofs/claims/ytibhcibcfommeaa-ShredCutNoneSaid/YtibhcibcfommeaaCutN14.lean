/-
  The walk of ShredCutNone.
-/
import Derived.Test.YtibhcibcfommeaaCut14
import Derived.Test.YtibhcibcfommeaaSSame14
import Derived.Test.YtibhcibcfommeaaKnown14
import Derived.Test.YtibhcibcfommeaaMkC14
import Derived.Test.YtibhcibcfommeaaWith14
set_option linter.unusedSimpArgs false
namespace Go.Proofs.Ytibhcibcfommeaa
open Go.RowKit Go.Shr
/-- What is known of a column of records. -/
structure ColX (X : Cl) (D : Int) (n : Nat) : Prop where
  len : X.r.length = X.d.length
  val : cntL D X.d = X.v.length
  beg : (startsF 0 X.r).length = n
  zero : stA X 0 = 0
  lim : X.d.length ≤ 4000
theorem filter_int (C : List Cel) (f : Cel → Nat) (z : Nat) : ((C.map fun c => (f c : Int)).filter fun u => u == (z : Int)).length = (C.filter fun c => f c == z).length := by
  rw [List.filter_map, List.length_map]
  congr 1
  refine List.filter_congr fun c _ => ?_
  try simp only [Function.comp]
  by_cases h : f c = z
  · simp [h]
  · have : ¬ ((f c : Int) = (z : Int)) := by omega
    exact (beq_eq_false_iff_ne.2 this).trans (beq_eq_false_iff_ne.2 h).symm
theorem colX {l : List Fl} {lf n : Nat} {C : List Cel} (h : RowsOk l lf n C) (h0 : n = 0 → C = []) (hl : C.length ≤ 4000) : ColX (clC C) (lvD l lf : Int) n := by
  have hb : (startsF 0 (clC C).r).length = n := by
    rw [startsF_cnt]
    have := filter_int C (fun c => c.r) 0
    exact this.trans h.begins
  refine ⟨by simp [clC], ?_, hb, ?_, by simpa [clC] using hl⟩
  · have := filter_int C (fun c => c.d) (lvD l lf)
    exact this.trans h.whole
  · by_cases hn : n = 0
    · rw [h0 hn]; rfl
    · obtain ⟨c, cs, rfl, hc⟩ := h.first (by omega)
      simp [stA, stL, clC, startsF, hc]
theorem ColX.all {X : Cl} {D : Int} {n : Nat} (h : ColX X D n) : stA X (n : Int) = X.r.length := by
  unfold stA stL
  simp only [Int.toNat_natCast]
  rw [List.getD_eq_getElem?_getD, List.getElem?_append_right (by have := h.beg; omega), h.beg]
  simp
theorem cntL_zero (D : Int) (l : List Int) : cntL D (l.take 0) = 0 := by simp [cntL]
theorem ColX.whole {X : Cl} {D : Int} {n : Nat} (h : ColX X D n) : cutC X D 0 (n : Int) = X := by
  unfold cutC
  rw [if_neg (by have := h.beg; omega), h.zero, h.all, cntL_zero]
  have hl := h.len; have hv := h.val
  refine Cl.ext' ?_ ?_ ?_
  · simp
  · simp [hl]
  · have e : X.d.take X.r.length = X.d := List.take_of_length_le (by omega)
    dsimp only
    rw [e, hv]; simp
theorem ColX.kk {X : Cl} {D : Int} {n : Nat} (_ : ColX X D n) (k : Int) : (cutC X D k k).r.length = 0 := by
  unfold cutC
  split
  · rfl
  · simp
theorem cutC_bad {X : Cl} {D f t : Int} (h : f < 0 ∨ ((startsF 0 X.r).length : Int) < t ∨ t < f) : (cutC X D f t).r.length = 0 := by unfold cutC; rw [if_pos h]; rfl
/-- A column whose cells are none, in a box. -/
def NonQ (b : Nat) (w : World) : Prop := ∃ p m d, w.cell? ⟨b, 0, none⟩ = some (.slice p m d) ∧ m = 0
theorem NonQ.below {b : Nat} {w w' : World} (h : NonQ b w) (hb : Below w.heap.size w w') : NonQ b w' := by obtain ⟨p, m, d, h, h0⟩ := h; exact ⟨p, m, d, cb hb h, h0⟩
set_option maxHeartbeats 4000000 in
set_option maxRecDepth 100000 in
theorem law_cutnone (a0 : Option Addr) (n0 c0 : Nat) (z0 : List Int) (a1 : Option Addr) (n1 c1 : Nat) (zz : List (List Int)) (xs1 : List Value) (from_ to_ : Int) (w : World) (h0 : Sl (fun b => b < w.heap.size) w 1 a0 n0 c0 (ints z0)) (w0 : ∀ z ∈ z0, (Lit.int .i64 z).wf = true) (h1 : Sl (fun b => b < w.heap.size) w 1 a1 n1 c1 xs1) (h1r : IRows w zz xs1) (w1 : ∀ z ∈ zz, ∀ v ∈ z, (Lit.int .i64 v).wf = true) (_ : (Lit.int .i64 from_).wf = true) (_ : (Lit.int .i64 to_).wf = true) :
    Calls Try.prog 11 #[.slice a0 n0 c0, .slice a1 n1 c1, .int .i64 from_, .int .i64 to_] w fun e w' => e = .returned (.bool true) ∧ Below w.heap.size w w' := by
  have H0 := Lib.hid h0; have H1 := Lib.hid h1; have HR := Lib.hid h1r; have W0 := Lib.hid w0; have W1 := Lib.hid w1
  clear h0 h1 h1r w0 w1
  go_enter Try.func11, Try.ntmps11
  go_wp2_with fail
  refine (known14 _).mono ?_
  rintro e w1 ⟨rfl, hb1⟩
  have HB1 := Lib.hid hb1; clear hb1
  go_wp2_with fail
  refine (make5 a0 n0 c0 z0 w1 (slb H0.out HB1.out) W0.out).mono ?_
  rintro e w2 ⟨a, cap, rfl, ho, hb2⟩
  have HSC := Lib.hid (Sl.mono (ok' := fun b => b < w2.heap.size) ho.sl (fun k hk _ => hk) (by decide))
  have HB2 := Lib.hid (bt HB1.out hb2)
  clear ho hb2
  go_wp2_with fail
  refine (many_v (makeL z0) (makeSh z0) (make_sch z0) a cap a1 n1 c1 zz xs1 w2 HSC.out (slb H1.out HB2.out) (HR.out.below HB2.out) W1.out).mono ?_
  rintro e w3 ⟨al, cl, ys, rfl, hsl, hrow, hb3⟩
  have HB3 := Lib.hid (bt HB2.out hb3); have HSC3 := Lib.hid (slb HSC.out hb3)
  have HSL := Lib.hid (hsl.mono (ok' := fun b => b < w3.heap.size) (fun k hk _ => hk) (by decide))
  have HROW := Lib.hid (RowAt.g _ _ hrow.at)
  have hx16 := manyT_len (makeSh z0) zz
  have HSCH := Lib.hid (make_sch z0)
  have HZ := Lib.hid (made_colsE (make_sch z0) (make_hgt z0) (many_ok14 W1.out (makeSh z0)) (many_th z0 zz) hx16)
  have HOKS := Lib.hid (many_ok14 W1.out (makeSh z0)); have HR0 := Lib.hid (makeSh_good z0).2.2.1
  have HWY := Lib.hid (make_wy z0); have HRP := Lib.hid (make_rep z0)
  have HCN : Hid (∀ (lf : Nat), (rowsC lf (makeSh z0) (manyT (makeSh z0) zz)).length ≤ (manyT (makeSh z0) zz).length * 243) := Lib.hid (fun lf => rows_cnt (make_hgt z0) _ (many_th z0 zz))
  have hl14 := (make_len z0).2
  generalize manyT (makeSh z0) zz = x at *
  generalize makeL z0 = l at *
  generalize makeSh z0 = sh at *
  have hmm := leafs_le (l := l) (m := l.length)
  have hmp := HSCH.out.leaf
  clear hsl hrow hb3 HB2 HSC HB1 H0 H1 HR W0 W1
  go_wp2_with fail
  refine (Cols_v HSCH.out HWY.out HRP.out x a al cap cl ys w3 HSC3.out HSL.out HROW.out).mono ?_
  rintro e w4 ⟨hb4, ⟨hne, _⟩ | ⟨_, B, bc, cur, aa, cc, rfl, hbc, hct⟩⟩
  · exact absurd HZ.out hne
  have HB4 := Lib.hid (bt HB3.out hb4); have HCT := Lib.hid hct; have HSC4 := Lib.hid (slb HSC3.out hb4)
  clear hb4 hct HSL HROW HRP HWY HB3 HSC3 HZ
  go_wp2_with fail
  refine (leaves_v a cap l w4 HSC4.out (by omega) HSCH.out.kids).mono ?_
  rintro e w5 ⟨aL, cL, rfl, oL, hb5⟩
  have HB5 := Lib.hid (bt HB4.out hb5)
  have hct5 := HCT.out.below hb5
  have hlf := leafs_mem.1 (List.getElem_mem hmp)
  have hg0 : (leafs l l.length).getD 0 0 = (leafs l l.length)[0] := by simp [List.getD, hmp]
  have HCOLX : Hid (ColX (clC (rowsC ((leafs l l.length).getD 0 0) sh x)) (lvD l (leafs l l.length)[0] : Int) x.length) := Lib.hid (colX (by rw [hg0]; exact rows_ok HSCH.out HR0.out hlf.1 hlf.2 x HOKS.out) (fun hn => by rw [List.eq_nil_of_length_eq_zero hn]; rfl) (by have := HCN.out ((leafs l l.length).getD 0 0); omega))
  have k0 := hct5.cell0 hmp; have k1 := hct5.cell1 hmp; have k2 := hct5.cell2 hmp
  have hcl := hct5.clAt hmp
  simp only [Nat.zero_mul, Nat.zero_add] at k0 k1 k2 hcl
  have hxr : (rowsC ((leafs l l.length).getD 0 0) sh x).length = (clC (rowsC ((leafs l l.length).getD 0 0) sh x)).r.length := by simp [clC]
  have hxd : (rowsC ((leafs l l.length).getD 0 0) sh x).length = (clC (rowsC ((leafs l l.length).getD 0 0) sh x)).d.length := by simp [clC]
  rw [hxr] at k0
  rw [hxd] at k1
  replace k2 : w5.cell? ⟨bc, 2, none⟩ = some (.slice (aa 2) (clC (rowsC ((leafs l l.length).getD 0 0) sh x)).v.length (cc 2)) := k2
  obtain ⟨gL, hgL, _, _, hcL, _⟩ := oL.pos hmp
  obtain ⟨f0, f1, f2, f3⟩ := lvs_get l (leafs l l.length) 0 hmp
  have l0 := hcL _ _ f0; have l1 := hcL _ _ f1; have l2 := hcL _ _ f2; have l3 := hcL _ _ f3
  simp only [Nat.zero_mul, Nat.zero_add] at l0 l1 l2 l3
  subst hgL
  generalize lvD l (leafs l l.length)[0] = D at *
  generalize lvR l (leafs l l.length)[0] = R0 at *
  generalize (flN l (leafs l l.length)[0]).kind = K0 at *
  generalize (leafs l l.length)[0] = lf at *
  clear hxr hxd hg0 hlf
  generalize clC (rowsC ((leafs l l.length).getD 0 0) sh x) = X at *
  have HCUT := Lib.hid (fun (W : World) (hW : Below w5.heap.size w5 W) (f t : Int) => cut_v X (D : Int) f t (lf : Int) (R0 : Int) K0 _ _ _ _ _ _ W (hcl.below hW) (by have := HCOLX.out.lim; omega) HCOLX.out.len HCOLX.out.val)
  have HSAME := Lib.hid (fun (W : World) (hW : Below w5.heap.size w5 W) (b0' b1' b2' : Option Addr) (d0' d1' d2' : Nat) (hy : ClAt (fun b => b < W.heap.size) W X b0' d0' b1' d1' b2' d2') => ssame_v X X _ _ _ _ _ _ _ _ _ _ _ _ W hy (hcl.below hW))
  have HT := Lib.hid (And.intro k0 (And.intro k1 (And.intro k2 (And.intro l0 (And.intro l1 (And.intro l2 l3))))))
  have hmm2 : (((leafs l l.length).length : Int) != ((leafs l l.length).length : Int)) = false := by simp
  have hmi : (0 : Int) < ((leafs l l.length).length : Int) := by omega
  clear k0 k1 k2 l0 l1 l2 l3 f0 f1 f2 f3 hcL oL hb5 hcl hct5 HCT HB4 HSC4 HOKS HR0 HCN HSCH
  generalize (leafs l l.length).length = m at *
  go_wp2_with fail
  clear hmm2
  have hn16 : x.length ≤ 16 := hx16
  generalize x.length = n at *
  refine (within_14 from_ ((n : Int) + 1) w5 (by omega) (by omega)).mono ?_
  rintro e w6 ⟨rfl, rfl⟩
  obtain ⟨k, hk⟩ : ∃ k : Nat, from_ % ((n : Int) + 1) = (k : Int) := ⟨(from_ % ((n : Int) + 1)).toNat, (Int.toNat_of_nonneg (Int.emod_nonneg _ (by omega))).symm⟩
  have hkn : k ≤ n := by have := Int.emod_lt_of_pos from_ (show (0 : Int) < (n : Int) + 1 by omega); omega
  rw [hk]
  clear hk
  have hbeg := HCOLX.out.beg
  have HBEG := Lib.hid hbeg
  clear hbeg
  have hto1 : 0 ≤ to_ % 9 := by omega
  have hto2 : to_ % 9 ≤ 8 := by omega
  have HWI := Lib.hid (fun (W : World) => within_14 to_ 9 W (by decide) (by decide))
  generalize to_ % 9 = s at *
  have HBB15 : Hid (Below w5.heap.size w5 w5) := Lib.hid (b0 w5)
  have EQ15 : Hid True := Lib.hid trivial
  go_upto_region 10 with fail
  have HL15 : Hid ((cutC X (D : Int) ((k : Int)) ((k : Int))).r.length = 0) := Lib.hid (HCOLX.out.kk _)
  go_cut [15] from 48 to 56 (fun v wd => ∃ b, v = .pointer (some ⟨b, 0, none⟩) ∧ Hid (NonQ b wd) ∧ Hid (Below w5.heap.size w5 wd))
  case first =>
    refine wp_region_F (fun w' => w'.cell? ⟨bc, 0, none⟩ = some (.slice (aa 0) X.r.length (cc 0)) ∧ w'.cell? ⟨bc, 1, none⟩ = some (.slice (aa 1) X.d.length (cc 1)) ∧ w'.cell? ⟨bc, 2, none⟩ = some (.slice (aa 2) X.v.length (cc 2)) ∧ w'.cell? ⟨gL, 0, none⟩ = some (.int .i64 (lf : Int)) ∧ w'.cell? ⟨gL, 1, none⟩ = some (.int .i64 (R0 : Int)) ∧ w'.cell? ⟨gL, 2, none⟩ = some (.int .i64 (D : Int)) ∧ w'.cell? ⟨gL, 3, none⟩ = some (.int .i64 K0)) [10] (by kernel_rfl) ?g4rgS (fun hHeld => ?g4rgR)
    case g4rgS => (try dsimp only); (first | exact ⟨cb (bt HBB15.out (b0 _).drew) HT.out.1, cb (bt HBB15.out (b0 _).drew) HT.out.2.1, cb (bt HBB15.out (b0 _).drew) HT.out.2.2.1, cb (bt HBB15.out (b0 _).drew) HT.out.2.2.2.1, cb (bt HBB15.out (b0 _).drew) HT.out.2.2.2.2.1, cb (bt HBB15.out (b0 _).drew) HT.out.2.2.2.2.2.1, cb (bt HBB15.out (b0 _).drew) HT.out.2.2.2.2.2.2⟩ | exact ⟨cb (bt HBB15.out HBW) HT.out.1, cb (bt HBB15.out HBW) HT.out.2.1, cb (bt HBB15.out HBW) HT.out.2.2.1, cb (bt HBB15.out HBW) HT.out.2.2.2.1, cb (bt HBB15.out HBW) HT.out.2.2.2.2.1, cb (bt HBB15.out HBW) HT.out.2.2.2.2.2.1, cb (bt HBB15.out HBW) HT.out.2.2.2.2.2.2⟩)
    try dsimp only at hHeld
    obtain ⟨W, hW⟩ : ∃ W, W = w5.drew := ⟨_, rfl⟩; rw [← hW] at hHeld ⊢; (have HBW : Below w5.heap.size w5 W := by rw [hW]; exact (b0 w5).drew); clear hW
    refine wpAnyF_take 0 (oi := ⟨some 48, .move (.tmp 11), 34, "more.go:126", #[], none⟩) (v := ?g4rv1) rfl (by kernel_rfl) (fun _ _ _ h => h) (by assumption) (by rfl) ?g4ry1 ?g4rr1
    case g4ry1 => intro w hSw; obtain ⟨s0, s1, s2, s3, s4, s5, s6⟩ := hSw; go_simp; try with_reducible rfl
    try simp only [Act.put, List.setIfInBounds_toArray, List.set_cons_zero, List.set_cons_succ]
    refine wpAnyF_take 1 (oi := ⟨some 49, .indexAddr 34 (.tmp 48) (.const (.int .i64 0)), 0, "more.go:126", #[⟨0, .data⟩], none⟩) (v := ?g4rv2) rfl (by kernel_rfl) (fun _ _ _ h => h) (by assumption) (by rfl) ?g4ry2 ?g4rr2
    case g4ry2 => intro w hSw; obtain ⟨s0, s1, s2, s3, s4, s5, s6⟩ := hSw; go_simp; try with_reducible rfl
    try simp only [Act.put, List.setIfInBounds_toArray, List.set_cons_zero, List.set_cons_succ]
    refine wpAnyF_take 2 (oi := ⟨some 50, .load 46 (.tmp 49), 46, "more.go:126", #[⟨1, .data⟩], none⟩) (v := ?g4rv3) rfl (by kernel_rfl) (fun _ _ _ h => h) (by assumption) (by rfl) ?g4ry3 ?g4rr3
    case g4ry3 => intro w hSw; obtain ⟨s0, s1, s2, s3, s4, s5, s6⟩ := hSw; go_simp; try with_reducible rfl
    try simp only [Act.put, List.setIfInBounds_toArray, List.set_cons_zero, List.set_cons_succ]
    refine wpAnyF_take 3 (oi := ⟨some 51, .move (.tmp 13), 42, "more.go:126", #[], none⟩) (v := ?g4rv4) rfl (by kernel_rfl) (fun _ _ _ h => h) (by assumption) (by rfl) ?g4ry4 ?g4rr4
    case g4ry4 => intro w hSw; obtain ⟨s0, s1, s2, s3, s4, s5, s6⟩ := hSw; go_simp; try with_reducible rfl
    try simp only [Act.put, List.setIfInBounds_toArray, List.set_cons_zero, List.set_cons_succ]
    refine wpAnyF_take 4 (oi := ⟨some 52, .indexAddr 42 (.tmp 51) (.const (.int .i64 0)), 0, "more.go:126", #[⟨3, .data⟩], none⟩) (v := ?g4rv5) rfl (by kernel_rfl) (fun _ _ _ h => h) (by assumption) (by rfl) ?g4ry5 ?g4rr5
    case g4ry5 => intro w hSw; obtain ⟨s0, s1, s2, s3, s4, s5, s6⟩ := hSw; go_simp; try with_reducible rfl
    try simp only [Act.put, List.setIfInBounds_toArray, List.set_cons_zero, List.set_cons_succ]
    refine wpAnyF_take 5 (oi := ⟨some 53, .load 48 (.tmp 52), 48, "more.go:126", #[⟨4, .data⟩], none⟩) (v := ?g4rv6) rfl (by kernel_rfl) (fun _ _ _ h => h) (by assumption) (by rfl) ?g4ry6 ?g4rr6
    case g4ry6 => intro w hSw; obtain ⟨s0, s1, s2, s3, s4, s5, s6⟩ := hSw; go_simp; try with_reducible rfl
    try simp only [Act.put, List.setIfInBounds_toArray, List.set_cons_zero, List.set_cons_succ]
    refine wpAnyF_take 6 (oi := ⟨some 54, .move (.tmp 14), 3, "more.go:126", #[], none⟩) (v := ?g4rv7) rfl (by kernel_rfl) (fun _ _ _ h => h) (by assumption) (by rfl) ?g4ry7 ?g4rr7
    case g4ry7 => intro w hSw; obtain ⟨s0, s1, s2, s3, s4, s5, s6⟩ := hSw; go_simp; try with_reducible rfl
    try simp only [Act.put, List.setIfInBounds_toArray, List.set_cons_zero, List.set_cons_succ]
    refine wpAnyF_take 7 (oi := ⟨some 55, .move (.tmp 14), 3, "more.go:126", #[], none⟩) (v := ?g4rv8) rfl (by kernel_rfl) (fun _ _ _ h => h) (by assumption) (by rfl) ?g4ry8 ?g4rr8
    case g4ry8 => intro w hSw; obtain ⟨s0, s1, s2, s3, s4, s5, s6⟩ := hSw; go_simp; try with_reducible rfl
    try simp only [Act.put, List.setIfInBounds_toArray, List.set_cons_zero, List.set_cons_succ]
    refine wpAnyF_ready [8, 9] (by kernel_rfl) (by simp) ?_
    refine AllReadyF.cons 8 (o := ⟨some 56, .call { callee := .value (.func 26), args := #[.tmp 50, .tmp 53, .tmp 54, .tmp 55], argTypes := #[46, 48, 3, 3] }, 46, "more.go:126", #[⟨2, .data⟩, ⟨5, .data⟩, ⟨6, .data⟩, ⟨7, .data⟩], none⟩) rfl (fun K hK => ?g4ro9) ?g4rm9
    case g4ro9 =>
      go_simp; refine (HCUT.out _ (bt HBB15.out HBW) ((k : Int)) ((k : Int))).mono ?_; rintro e w2 ⟨p0, d0, p1, d1, p2, d2, rfl, _, hbk⟩; dsimp only;  skip; (replace HBW := bt HBW hbk); clear hbk
      refine hK.out _ _ ?g4rs9 (fun hHeld => ?g4rt9)
      case g4rs9 => (try dsimp only); (first | exact ⟨cb (bt HBB15.out (b0 _).drew) HT.out.1, cb (bt HBB15.out (b0 _).drew) HT.out.2.1, cb (bt HBB15.out (b0 _).drew) HT.out.2.2.1, cb (bt HBB15.out (b0 _).drew) HT.out.2.2.2.1, cb (bt HBB15.out (b0 _).drew) HT.out.2.2.2.2.1, cb (bt HBB15.out (b0 _).drew) HT.out.2.2.2.2.2.1, cb (bt HBB15.out (b0 _).drew) HT.out.2.2.2.2.2.2⟩ | exact ⟨cb (bt HBB15.out HBW) HT.out.1, cb (bt HBB15.out HBW) HT.out.2.1, cb (bt HBB15.out HBW) HT.out.2.2.1, cb (bt HBB15.out HBW) HT.out.2.2.2.1, cb (bt HBB15.out HBW) HT.out.2.2.2.2.1, cb (bt HBB15.out HBW) HT.out.2.2.2.2.2.1, cb (bt HBB15.out HBW) HT.out.2.2.2.2.2.2⟩)
      try dsimp only at hHeld
      clear hK K
      try simp only [Act.put, List.setIfInBounds_toArray, List.set_cons_zero, List.set_cons_succ]
      refine wpAnyF_ready [9] (by kernel_rfl) (by simp) ?_
      refine AllReadyF.cons 9 (o := ⟨some 15, .alloc 46, 0, "more.go:126", #[], none⟩) rfl (fun K hK => ?g4ro10) ?g4rm10
      case g4rm10 => exact AllReadyF.nil
      go_simp; refine gen_w (fun X' hX => ?_); (have hbk := bel_nb HBW hX); (have rb := bel_nr HBW hX); (have hbg := HBW.size); (replace HBW := bt HBW hbk); clear hX hbk
      refine hK.out _ _ ?g4rs10 (fun hHeld => ?g4rt10)
      case g4rs10 => (try dsimp only); (first | exact ⟨cb (bt HBB15.out (b0 _).drew) HT.out.1, cb (bt HBB15.out (b0 _).drew) HT.out.2.1, cb (bt HBB15.out (b0 _).drew) HT.out.2.2.1, cb (bt HBB15.out (b0 _).drew) HT.out.2.2.2.1, cb (bt HBB15.out (b0 _).drew) HT.out.2.2.2.2.1, cb (bt HBB15.out (b0 _).drew) HT.out.2.2.2.2.2.1, cb (bt HBB15.out (b0 _).drew) HT.out.2.2.2.2.2.2⟩ | exact ⟨cb (bt HBB15.out HBW) HT.out.1, cb (bt HBB15.out HBW) HT.out.2.1, cb (bt HBB15.out HBW) HT.out.2.2.1, cb (bt HBB15.out HBW) HT.out.2.2.2.1, cb (bt HBB15.out HBW) HT.out.2.2.2.2.1, cb (bt HBB15.out HBW) HT.out.2.2.2.2.2.1, cb (bt HBB15.out HBW) HT.out.2.2.2.2.2.2⟩)
      try dsimp only at hHeld
      clear hK K
      try simp only [Act.put, List.setIfInBounds_toArray, List.set_cons_zero, List.set_cons_succ]
      refine wpAnyF_ready [10] (by kernel_rfl) (by simp) ?_
      refine AllReadyF.last 10 (o := ⟨none, .store 46 (.tmp 15) (.tmp 56), 0, "more.go:126", #[⟨9, .data⟩, ⟨8, .data⟩, ⟨8, .chain⟩, ⟨0, .phase⟩, ⟨1, .phase⟩, ⟨2, .phase⟩, ⟨3, .phase⟩, ⟨4, .phase⟩, ⟨5, .phase⟩, ⟨6, .phase⟩, ⟨7, .phase⟩, ⟨8, .phase⟩, ⟨9, .phase⟩], none⟩) rfl (by kernel_rfl) (fun K hK => ?g4ro11) ?g4rm11
      case g4rm11 => exact AllReadyF.nil
      (have y0 := rb.cell 0); (have y1 := rb.cell 1); (have y2 := rb.cell 2); (have qf := rb.frozen); (have ql := rb.lt); (simp only [List.getElem?_toArray, List.getElem?_cons_zero, List.getElem?_cons_succ] at y0 y1 y2); go_simp; clear y0 y1 y2 qf ql
      refine hK.out _ _ ?_
      clear hK K
      try simp only [Act.put, List.setIfInBounds_toArray, List.set_cons_zero, List.set_cons_succ]
      refine wpAnyF_done (by kernel_rfl) ?_
      have rz := Rw.set3 rb (u0 := .slice p0 (cutC X (D : Int) ((k : Int)) ((k : Int))).r.length d0) (u1 := .slice p1 (cutC X (D : Int) ((k : Int)) ((k : Int))).d.length d1) (u2 := .slice p2 (cutC X (D : Int) ((k : Int)) ((k : Int))).v.length d2)
      have z0 := rz.cell 0
      simp only [List.getElem?_toArray, List.getElem?_cons_zero] at z0
      have HN := Lib.hid (show NonQ _ _ from ⟨_, _, _, z0, HL15.out⟩)
      have HBF := Lib.hid (bset3 HBW hbg (u0 := .slice p0 (cutC X (D : Int) ((k : Int)) ((k : Int))).r.length d0) (u1 := .slice p1 (cutC X (D : Int) ((k : Int)) ((k : Int))).d.length d1) (u2 := .slice p2 (cutC X (D : Int) ((k : Int)) ((k : Int))).v.length d2))
      clear rz z0 rb HBW hbg
      go_wp2_with fail
      go_meet
      case rel => exact ⟨_, rfl, HN, HBF⟩
    case g4rm9 =>
    refine AllReadyF.cons 9 (o := ⟨some 15, .alloc 46, 0, "more.go:126", #[], none⟩) rfl (fun K hK => ?g4ro12) ?g4rm12
    case g4ro12 =>
      go_simp; refine gen_w (fun X' hX => ?_); (have hbk := bel_nb HBW hX); (have rb := bel_nr HBW hX); (have hbg := HBW.size); (replace HBW := bt HBW hbk); clear hX hbk
      refine hK.out _ _ ?g4rs12 (fun hHeld => ?g4rt12)
      case g4rs12 => (try dsimp only); (first | exact ⟨cb (bt HBB15.out (b0 _).drew) HT.out.1, cb (bt HBB15.out (b0 _).drew) HT.out.2.1, cb (bt HBB15.out (b0 _).drew) HT.out.2.2.1, cb (bt HBB15.out (b0 _).drew) HT.out.2.2.2.1, cb (bt HBB15.out (b0 _).drew) HT.out.2.2.2.2.1, cb (bt HBB15.out (b0 _).drew) HT.out.2.2.2.2.2.1, cb (bt HBB15.out (b0 _).drew) HT.out.2.2.2.2.2.2⟩ | exact ⟨cb (bt HBB15.out HBW) HT.out.1, cb (bt HBB15.out HBW) HT.out.2.1, cb (bt HBB15.out HBW) HT.out.2.2.1, cb (bt HBB15.out HBW) HT.out.2.2.2.1, cb (bt HBB15.out HBW) HT.out.2.2.2.2.1, cb (bt HBB15.out HBW) HT.out.2.2.2.2.2.1, cb (bt HBB15.out HBW) HT.out.2.2.2.2.2.2⟩)
      try dsimp only at hHeld
      clear hK K
      try simp only [Act.put, List.setIfInBounds_toArray, List.set_cons_zero, List.set_cons_succ]
      refine wpAnyF_ready [8] (by kernel_rfl) (by simp) ?_
      refine AllReadyF.cons 8 (o := ⟨some 56, .call { callee := .value (.func 26), args := #[.tmp 50, .tmp 53, .tmp 54, .tmp 55], argTypes := #[46, 48, 3, 3] }, 46, "more.go:126", #[⟨2, .data⟩, ⟨5, .data⟩, ⟨6, .data⟩, ⟨7, .data⟩], none⟩) rfl (fun K hK => ?g4ro13) ?g4rm13
      case g4rm13 => exact AllReadyF.nil
      go_simp; refine (HCUT.out _ (bt HBB15.out HBW) ((k : Int)) ((k : Int))).mono ?_; rintro e w2 ⟨p0, d0, p1, d1, p2, d2, rfl, _, hbk⟩; dsimp only;  (replace rb := rb.below hbk) ; (replace HBW := bt HBW hbk); clear hbk
      refine hK.out _ _ ?g4rs13 (fun hHeld => ?g4rt13)
      case g4rs13 => (try dsimp only); (first | exact ⟨cb (bt HBB15.out (b0 _).drew) HT.out.1, cb (bt HBB15.out (b0 _).drew) HT.out.2.1, cb (bt HBB15.out (b0 _).drew) HT.out.2.2.1, cb (bt HBB15.out (b0 _).drew) HT.out.2.2.2.1, cb (bt HBB15.out (b0 _).drew) HT.out.2.2.2.2.1, cb (bt HBB15.out (b0 _).drew) HT.out.2.2.2.2.2.1, cb (bt HBB15.out (b0 _).drew) HT.out.2.2.2.2.2.2⟩ | exact ⟨cb (bt HBB15.out HBW) HT.out.1, cb (bt HBB15.out HBW) HT.out.2.1, cb (bt HBB15.out HBW) HT.out.2.2.1, cb (bt HBB15.out HBW) HT.out.2.2.2.1, cb (bt HBB15.out HBW) HT.out.2.2.2.2.1, cb (bt HBB15.out HBW) HT.out.2.2.2.2.2.1, cb (bt HBB15.out HBW) HT.out.2.2.2.2.2.2⟩)
      try dsimp only at hHeld
      clear hK K
      try simp only [Act.put, List.setIfInBounds_toArray, List.set_cons_zero, List.set_cons_succ]
      refine wpAnyF_ready [10] (by kernel_rfl) (by simp) ?_
      refine AllReadyF.last 10 (o := ⟨none, .store 46 (.tmp 15) (.tmp 56), 0, "more.go:126", #[⟨9, .data⟩, ⟨8, .data⟩, ⟨8, .chain⟩, ⟨0, .phase⟩, ⟨1, .phase⟩, ⟨2, .phase⟩, ⟨3, .phase⟩, ⟨4, .phase⟩, ⟨5, .phase⟩, ⟨6, .phase⟩, ⟨7, .phase⟩, ⟨8, .phase⟩, ⟨9, .phase⟩], none⟩) rfl (by kernel_rfl) (fun K hK => ?g4ro14) ?g4rm14
      case g4rm14 => exact AllReadyF.nil
      (have y0 := rb.cell 0); (have y1 := rb.cell 1); (have y2 := rb.cell 2); (have qf := rb.frozen); (have ql := rb.lt); (simp only [List.getElem?_toArray, List.getElem?_cons_zero, List.getElem?_cons_succ] at y0 y1 y2); go_simp; clear y0 y1 y2 qf ql
      refine hK.out _ _ ?_
      clear hK K
      try simp only [Act.put, List.setIfInBounds_toArray, List.set_cons_zero, List.set_cons_succ]
      refine wpAnyF_done (by kernel_rfl) ?_
      have rz := Rw.set3 rb (u0 := .slice p0 (cutC X (D : Int) ((k : Int)) ((k : Int))).r.length d0) (u1 := .slice p1 (cutC X (D : Int) ((k : Int)) ((k : Int))).d.length d1) (u2 := .slice p2 (cutC X (D : Int) ((k : Int)) ((k : Int))).v.length d2)
      have z0 := rz.cell 0
      simp only [List.getElem?_toArray, List.getElem?_cons_zero] at z0
      have HN := Lib.hid (show NonQ _ _ from ⟨_, _, _, z0, HL15.out⟩)
      have HBF := Lib.hid (bset3 HBW hbg (u0 := .slice p0 (cutC X (D : Int) ((k : Int)) ((k : Int))).r.length d0) (u1 := .slice p1 (cutC X (D : Int) ((k : Int)) ((k : Int))).d.length d1) (u2 := .slice p2 (cutC X (D : Int) ((k : Int)) ((k : Int))).v.length d2))
      clear rz z0 rb HBW hbg
      go_wp2_with fail
      go_meet
      case rel => exact ⟨_, rfl, HN, HBF⟩
    case g4rm12 =>
    exact AllReadyF.nil
  case rest =>
    obtain ⟨b15, rfl, HN15, HBX15⟩ := hcut
    obtain ⟨w15, hw15⟩ : ∃ W : World, W = wc := ⟨_, rfl⟩
    subst hw15
    have HBB16 : Hid (Below w5.heap.size w5 w15) := Lib.hid (bt HBB15.out HBX15.out)
    clear HBX15 HL15
    go_upto_region 11 with fail
    have HL16 : Hid ((cutC X (D : Int) ((-1 - s : Int)) ((k : Int))).r.length = 0) := Lib.hid (cutC_bad (.inl (by omega)))
    go_cut [16] from 57 to 67 (fun v wd => ∃ b, v = .pointer (some ⟨b, 0, none⟩) ∧ Hid (NonQ b wd) ∧ Hid (Below w15.heap.size w15 wd))
    case first =>
      have hwa : IntKind.i64.wrap (-1 - s) = (-1 - s) := IntWalk.i64_in _ ⟨by omega, by omega⟩
      refine wp_region_F (fun w' => w'.cell? ⟨bc, 0, none⟩ = some (.slice (aa 0) X.r.length (cc 0)) ∧ w'.cell? ⟨bc, 1, none⟩ = some (.slice (aa 1) X.d.length (cc 1)) ∧ w'.cell? ⟨bc, 2, none⟩ = some (.slice (aa 2) X.v.length (cc 2)) ∧ w'.cell? ⟨gL, 0, none⟩ = some (.int .i64 (lf : Int)) ∧ w'.cell? ⟨gL, 1, none⟩ = some (.int .i64 (R0 : Int)) ∧ w'.cell? ⟨gL, 2, none⟩ = some (.int .i64 (D : Int)) ∧ w'.cell? ⟨gL, 3, none⟩ = some (.int .i64 K0)) [12] (by kernel_rfl) ?g5rgS (fun hHeld => ?g5rgR)
      case g5rgS => (try dsimp only); (first | exact ⟨cb (bt HBB16.out (b0 _).drew) HT.out.1, cb (bt HBB16.out (b0 _).drew) HT.out.2.1, cb (bt HBB16.out (b0 _).drew) HT.out.2.2.1, cb (bt HBB16.out (b0 _).drew) HT.out.2.2.2.1, cb (bt HBB16.out (b0 _).drew) HT.out.2.2.2.2.1, cb (bt HBB16.out (b0 _).drew) HT.out.2.2.2.2.2.1, cb (bt HBB16.out (b0 _).drew) HT.out.2.2.2.2.2.2⟩ | exact ⟨cb (bt HBB16.out HBW) HT.out.1, cb (bt HBB16.out HBW) HT.out.2.1, cb (bt HBB16.out HBW) HT.out.2.2.1, cb (bt HBB16.out HBW) HT.out.2.2.2.1, cb (bt HBB16.out HBW) HT.out.2.2.2.2.1, cb (bt HBB16.out HBW) HT.out.2.2.2.2.2.1, cb (bt HBB16.out HBW) HT.out.2.2.2.2.2.2⟩)
      try dsimp only at hHeld
      obtain ⟨W, hW⟩ : ∃ W, W = w15.drew := ⟨_, rfl⟩; rw [← hW] at hHeld ⊢; (have HBW : Below w15.heap.size w15 W := by rw [hW]; exact (b0 w15).drew); clear hW
      refine wpAnyF_take 0 (oi := ⟨some 57, .move (.tmp 11), 34, "more.go:127", #[], none⟩) (v := ?g5rv1) rfl (by kernel_rfl) (fun _ _ _ h => h) (by assumption) (by rfl) ?g5ry1 ?g5rr1
      case g5ry1 => intro w hSw; obtain ⟨s0, s1, s2, s3, s4, s5, s6⟩ := hSw; go_simp; try with_reducible rfl
      try simp only [Act.put, List.setIfInBounds_toArray, List.set_cons_zero, List.set_cons_succ]
      refine wpAnyF_take 1 (oi := ⟨some 58, .indexAddr 34 (.tmp 57) (.const (.int .i64 0)), 0, "more.go:127", #[⟨0, .data⟩], none⟩) (v := ?g5rv2) rfl (by kernel_rfl) (fun _ _ _ h => h) (by assumption) (by rfl) ?g5ry2 ?g5rr2
      case g5ry2 => intro w hSw; obtain ⟨s0, s1, s2, s3, s4, s5, s6⟩ := hSw; go_simp; try with_reducible rfl
      try simp only [Act.put, List.setIfInBounds_toArray, List.set_cons_zero, List.set_cons_succ]
      refine wpAnyF_take 2 (oi := ⟨some 59, .load 46 (.tmp 58), 46, "more.go:127", #[⟨1, .data⟩], none⟩) (v := ?g5rv3) rfl (by kernel_rfl) (fun _ _ _ h => h) (by assumption) (by rfl) ?g5ry3 ?g5rr3
      case g5ry3 => intro w hSw; obtain ⟨s0, s1, s2, s3, s4, s5, s6⟩ := hSw; go_simp; try with_reducible rfl
      try simp only [Act.put, List.setIfInBounds_toArray, List.set_cons_zero, List.set_cons_succ]
      refine wpAnyF_take 3 (oi := ⟨some 60, .move (.tmp 13), 42, "more.go:127", #[], none⟩) (v := ?g5rv4) rfl (by kernel_rfl) (fun _ _ _ h => h) (by assumption) (by rfl) ?g5ry4 ?g5rr4
      case g5ry4 => intro w hSw; obtain ⟨s0, s1, s2, s3, s4, s5, s6⟩ := hSw; go_simp; try with_reducible rfl
      try simp only [Act.put, List.setIfInBounds_toArray, List.set_cons_zero, List.set_cons_succ]
      refine wpAnyF_take 4 (oi := ⟨some 61, .indexAddr 42 (.tmp 60) (.const (.int .i64 0)), 0, "more.go:127", #[⟨3, .data⟩], none⟩) (v := ?g5rv5) rfl (by kernel_rfl) (fun _ _ _ h => h) (by assumption) (by rfl) ?g5ry5 ?g5rr5
      case g5ry5 => intro w hSw; obtain ⟨s0, s1, s2, s3, s4, s5, s6⟩ := hSw; go_simp; try with_reducible rfl
      try simp only [Act.put, List.setIfInBounds_toArray, List.set_cons_zero, List.set_cons_succ]
      refine wpAnyF_take 5 (oi := ⟨some 62, .load 48 (.tmp 61), 48, "more.go:127", #[⟨4, .data⟩], none⟩) (v := ?g5rv6) rfl (by kernel_rfl) (fun _ _ _ h => h) (by assumption) (by rfl) ?g5ry6 ?g5rr6
      case g5ry6 => intro w hSw; obtain ⟨s0, s1, s2, s3, s4, s5, s6⟩ := hSw; go_simp; try with_reducible rfl
      try simp only [Act.put, List.setIfInBounds_toArray, List.set_cons_zero, List.set_cons_succ]
      refine wpAnyF_take 6 (oi := ⟨some 63, .move (.tmp 3), 3, "more.go:127", #[], none⟩) (v := ?g5rv7) rfl (by kernel_rfl) (fun _ _ _ h => h) (by assumption) (by rfl) ?g5ry7 ?g5rr7
      case g5ry7 => intro w hSw; obtain ⟨s0, s1, s2, s3, s4, s5, s6⟩ := hSw; go_simp; try with_reducible rfl
      try simp only [Act.put, List.setIfInBounds_toArray, List.set_cons_zero, List.set_cons_succ]
      refine wpAnyF_take 9 (oi := ⟨some 66, .move (.tmp 14), 3, "more.go:127", #[], none⟩) (v := ?g5rv8) rfl (by kernel_rfl) (fun _ _ _ h => h) (by assumption) (by rfl) ?g5ry8 ?g5rr8
      case g5ry8 => intro w hSw; obtain ⟨s0, s1, s2, s3, s4, s5, s6⟩ := hSw; go_simp; try with_reducible rfl
      try simp only [Act.put, List.setIfInBounds_toArray, List.set_cons_zero, List.set_cons_succ]
      refine wpAnyF_ready [7, 11] (by kernel_rfl) (by simp) ?_
      refine AllReadyF.cons 7 (o := ⟨some 64, .call { callee := .value (.func 20), args := #[.tmp 63, .const (.int .i64 9)], argTypes := #[3, 3] }, 3, "more.go:127", #[⟨6, .data⟩], none⟩) rfl (fun K hK => ?g5ro9) ?g5rm9
      case g5ro9 =>
        go_simp; refine (HWI.out _).mono ?_; rintro e w' ⟨rfl, rfl⟩; dsimp only
        refine hK.out _ _ ?g5rs9 (fun hHeld => ?g5rt9)
        case g5rs9 => (try dsimp only); (first | exact ⟨cb (bt HBB16.out (b0 _).drew) HT.out.1, cb (bt HBB16.out (b0 _).drew) HT.out.2.1, cb (bt HBB16.out (b0 _).drew) HT.out.2.2.1, cb (bt HBB16.out (b0 _).drew) HT.out.2.2.2.1, cb (bt HBB16.out (b0 _).drew) HT.out.2.2.2.2.1, cb (bt HBB16.out (b0 _).drew) HT.out.2.2.2.2.2.1, cb (bt HBB16.out (b0 _).drew) HT.out.2.2.2.2.2.2⟩ | exact ⟨cb (bt HBB16.out HBW) HT.out.1, cb (bt HBB16.out HBW) HT.out.2.1, cb (bt HBB16.out HBW) HT.out.2.2.1, cb (bt HBB16.out HBW) HT.out.2.2.2.1, cb (bt HBB16.out HBW) HT.out.2.2.2.2.1, cb (bt HBB16.out HBW) HT.out.2.2.2.2.2.1, cb (bt HBB16.out HBW) HT.out.2.2.2.2.2.2⟩)
        try dsimp only at hHeld
        clear hK K
        try simp only [Act.put, List.setIfInBounds_toArray, List.set_cons_zero, List.set_cons_succ]
        refine wpAnyF_take 8 (oi := ⟨some 65, .binOp .sub 3 (.const (.int .i64 (-1))) (.tmp 64) 3, 3, "more.go:127", #[⟨7, .data⟩], none⟩) (v := ?g5rv10) rfl (by kernel_rfl) (fun _ _ _ h => h) (by assumption) (by rfl) ?g5ry10 ?g5rr10
        case g5ry10 => intro w hSw; obtain ⟨s0, s1, s2, s3, s4, s5, s6⟩ := hSw; go_simp; try with_reducible rfl
        try simp only [Act.put, List.setIfInBounds_toArray, List.set_cons_zero, List.set_cons_succ]
        refine wpAnyF_ready [10, 11] (by kernel_rfl) (by simp) ?_
        refine AllReadyF.cons 10 (o := ⟨some 67, .call { callee := .value (.func 26), args := #[.tmp 59, .tmp 62, .tmp 65, .tmp 66], argTypes := #[46, 48, 3, 3] }, 46, "more.go:127", #[⟨2, .data⟩, ⟨5, .data⟩, ⟨8, .data⟩, ⟨9, .data⟩, ⟨7, .chain⟩], none⟩) rfl (fun K hK => ?g5ro11) ?g5rm11
        case g5ro11 =>
          go_simp; refine (HCUT.out _ (bt HBB16.out HBW) ((-1 - s : Int)) ((k : Int))).mono ?_; rintro e w2 ⟨p0, d0, p1, d1, p2, d2, rfl, _, hbk⟩; dsimp only;  skip; (replace HBW := bt HBW hbk); clear hbk
          refine hK.out _ _ ?g5rs11 (fun hHeld => ?g5rt11)
          case g5rs11 => (try dsimp only); (first | exact ⟨cb (bt HBB16.out (b0 _).drew) HT.out.1, cb (bt HBB16.out (b0 _).drew) HT.out.2.1, cb (bt HBB16.out (b0 _).drew) HT.out.2.2.1, cb (bt HBB16.out (b0 _).drew) HT.out.2.2.2.1, cb (bt HBB16.out (b0 _).drew) HT.out.2.2.2.2.1, cb (bt HBB16.out (b0 _).drew) HT.out.2.2.2.2.2.1, cb (bt HBB16.out (b0 _).drew) HT.out.2.2.2.2.2.2⟩ | exact ⟨cb (bt HBB16.out HBW) HT.out.1, cb (bt HBB16.out HBW) HT.out.2.1, cb (bt HBB16.out HBW) HT.out.2.2.1, cb (bt HBB16.out HBW) HT.out.2.2.2.1, cb (bt HBB16.out HBW) HT.out.2.2.2.2.1, cb (bt HBB16.out HBW) HT.out.2.2.2.2.2.1, cb (bt HBB16.out HBW) HT.out.2.2.2.2.2.2⟩)
          try dsimp only at hHeld
          clear hK K
          try simp only [Act.put, List.setIfInBounds_toArray, List.set_cons_zero, List.set_cons_succ]
          refine wpAnyF_ready [11] (by kernel_rfl) (by simp) ?_
          refine AllReadyF.cons 11 (o := ⟨some 16, .alloc 46, 0, "more.go:127", #[], none⟩) rfl (fun K hK => ?g5ro12) ?g5rm12
          case g5rm12 => exact AllReadyF.nil
          go_simp; refine gen_w (fun X' hX => ?_); (have hbk := bel_nb HBW hX); (have rb := bel_nr HBW hX); (have hbg := HBW.size); (replace HBW := bt HBW hbk); clear hX hbk
          refine hK.out _ _ ?g5rs12 (fun hHeld => ?g5rt12)
          case g5rs12 => (try dsimp only); (first | exact ⟨cb (bt HBB16.out (b0 _).drew) HT.out.1, cb (bt HBB16.out (b0 _).drew) HT.out.2.1, cb (bt HBB16.out (b0 _).drew) HT.out.2.2.1, cb (bt HBB16.out (b0 _).drew) HT.out.2.2.2.1, cb (bt HBB16.out (b0 _).drew) HT.out.2.2.2.2.1, cb (bt HBB16.out (b0 _).drew) HT.out.2.2.2.2.2.1, cb (bt HBB16.out (b0 _).drew) HT.out.2.2.2.2.2.2⟩ | exact ⟨cb (bt HBB16.out HBW) HT.out.1, cb (bt HBB16.out HBW) HT.out.2.1, cb (bt HBB16.out HBW) HT.out.2.2.1, cb (bt HBB16.out HBW) HT.out.2.2.2.1, cb (bt HBB16.out HBW) HT.out.2.2.2.2.1, cb (bt HBB16.out HBW) HT.out.2.2.2.2.2.1, cb (bt HBB16.out HBW) HT.out.2.2.2.2.2.2⟩)
          try dsimp only at hHeld
          clear hK K
          try simp only [Act.put, List.setIfInBounds_toArray, List.set_cons_zero, List.set_cons_succ]
          refine wpAnyF_ready [12] (by kernel_rfl) (by simp) ?_
          refine AllReadyF.last 12 (o := ⟨none, .store 46 (.tmp 16) (.tmp 67), 0, "more.go:127", #[⟨11, .data⟩, ⟨10, .data⟩, ⟨10, .chain⟩, ⟨0, .phase⟩, ⟨1, .phase⟩, ⟨2, .phase⟩, ⟨3, .phase⟩, ⟨4, .phase⟩, ⟨5, .phase⟩, ⟨6, .phase⟩, ⟨7, .phase⟩, ⟨8, .phase⟩, ⟨9, .phase⟩, ⟨10, .phase⟩, ⟨11, .phase⟩], none⟩) rfl (by kernel_rfl) (fun K hK => ?g5ro13) ?g5rm13
          case g5rm13 => exact AllReadyF.nil
          (have y0 := rb.cell 0); (have y1 := rb.cell 1); (have y2 := rb.cell 2); (have qf := rb.frozen); (have ql := rb.lt); (simp only [List.getElem?_toArray, List.getElem?_cons_zero, List.getElem?_cons_succ] at y0 y1 y2); go_simp; clear y0 y1 y2 qf ql
          refine hK.out _ _ ?_
          clear hK K
          try simp only [Act.put, List.setIfInBounds_toArray, List.set_cons_zero, List.set_cons_succ]
          refine wpAnyF_done (by kernel_rfl) ?_
          have rz := Rw.set3 rb (u0 := .slice p0 (cutC X (D : Int) ((-1 - s : Int)) ((k : Int))).r.length d0) (u1 := .slice p1 (cutC X (D : Int) ((-1 - s : Int)) ((k : Int))).d.length d1) (u2 := .slice p2 (cutC X (D : Int) ((-1 - s : Int)) ((k : Int))).v.length d2)
          have z0 := rz.cell 0
          simp only [List.getElem?_toArray, List.getElem?_cons_zero] at z0
          have HN := Lib.hid (show NonQ _ _ from ⟨_, _, _, z0, HL16.out⟩)
          have HBF := Lib.hid (bset3 HBW hbg (u0 := .slice p0 (cutC X (D : Int) ((-1 - s : Int)) ((k : Int))).r.length d0) (u1 := .slice p1 (cutC X (D : Int) ((-1 - s : Int)) ((k : Int))).d.length d1) (u2 := .slice p2 (cutC X (D : Int) ((-1 - s : Int)) ((k : Int))).v.length d2))
          clear rz z0 rb HBW hbg
          go_wp2_with fail
          go_meet
          case rel => exact ⟨_, rfl, HN, HBF⟩
        case g5rm11 =>
        refine AllReadyF.cons 11 (o := ⟨some 16, .alloc 46, 0, "more.go:127", #[], none⟩) rfl (fun K hK => ?g5ro14) ?g5rm14
        case g5ro14 =>
          go_simp; refine gen_w (fun X' hX => ?_); (have hbk := bel_nb HBW hX); (have rb := bel_nr HBW hX); (have hbg := HBW.size); (replace HBW := bt HBW hbk); clear hX hbk
          refine hK.out _ _ ?g5rs14 (fun hHeld => ?g5rt14)
          case g5rs14 => (try dsimp only); (first | exact ⟨cb (bt HBB16.out (b0 _).drew) HT.out.1, cb (bt HBB16.out (b0 _).drew) HT.out.2.1, cb (bt HBB16.out (b0 _).drew) HT.out.2.2.1, cb (bt HBB16.out (b0 _).drew) HT.out.2.2.2.1, cb (bt HBB16.out (b0 _).drew) HT.out.2.2.2.2.1, cb (bt HBB16.out (b0 _).drew) HT.out.2.2.2.2.2.1, cb (bt HBB16.out (b0 _).drew) HT.out.2.2.2.2.2.2⟩ | exact ⟨cb (bt HBB16.out HBW) HT.out.1, cb (bt HBB16.out HBW) HT.out.2.1, cb (bt HBB16.out HBW) HT.out.2.2.1, cb (bt HBB16.out HBW) HT.out.2.2.2.1, cb (bt HBB16.out HBW) HT.out.2.2.2.2.1, cb (bt HBB16.out HBW) HT.out.2.2.2.2.2.1, cb (bt HBB16.out HBW) HT.out.2.2.2.2.2.2⟩)
          try dsimp only at hHeld
          clear hK K
          try simp only [Act.put, List.setIfInBounds_toArray, List.set_cons_zero, List.set_cons_succ]
          refine wpAnyF_ready [10] (by kernel_rfl) (by simp) ?_
          refine AllReadyF.cons 10 (o := ⟨some 67, .call { callee := .value (.func 26), args := #[.tmp 59, .tmp 62, .tmp 65, .tmp 66], argTypes := #[46, 48, 3, 3] }, 46, "more.go:127", #[⟨2, .data⟩, ⟨5, .data⟩, ⟨8, .data⟩, ⟨9, .data⟩, ⟨7, .chain⟩], none⟩) rfl (fun K hK => ?g5ro15) ?g5rm15
          case g5rm15 => exact AllReadyF.nil
          go_simp; refine (HCUT.out _ (bt HBB16.out HBW) ((-1 - s : Int)) ((k : Int))).mono ?_; rintro e w2 ⟨p0, d0, p1, d1, p2, d2, rfl, _, hbk⟩; dsimp only;  (replace rb := rb.below hbk) ; (replace HBW := bt HBW hbk); clear hbk
          refine hK.out _ _ ?g5rs15 (fun hHeld => ?g5rt15)
          case g5rs15 => (try dsimp only); (first | exact ⟨cb (bt HBB16.out (b0 _).drew) HT.out.1, cb (bt HBB16.out (b0 _).drew) HT.out.2.1, cb (bt HBB16.out (b0 _).drew) HT.out.2.2.1, cb (bt HBB16.out (b0 _).drew) HT.out.2.2.2.1, cb (bt HBB16.out (b0 _).drew) HT.out.2.2.2.2.1, cb (bt HBB16.out (b0 _).drew) HT.out.2.2.2.2.2.1, cb (bt HBB16.out (b0 _).drew) HT.out.2.2.2.2.2.2⟩ | exact ⟨cb (bt HBB16.out HBW) HT.out.1, cb (bt HBB16.out HBW) HT.out.2.1, cb (bt HBB16.out HBW) HT.out.2.2.1, cb (bt HBB16.out HBW) HT.out.2.2.2.1, cb (bt HBB16.out HBW) HT.out.2.2.2.2.1, cb (bt HBB16.out HBW) HT.out.2.2.2.2.2.1, cb (bt HBB16.out HBW) HT.out.2.2.2.2.2.2⟩)
          try dsimp only at hHeld
          clear hK K
          try simp only [Act.put, List.setIfInBounds_toArray, List.set_cons_zero, List.set_cons_succ]
          refine wpAnyF_ready [12] (by kernel_rfl) (by simp) ?_
          refine AllReadyF.last 12 (o := ⟨none, .store 46 (.tmp 16) (.tmp 67), 0, "more.go:127", #[⟨11, .data⟩, ⟨10, .data⟩, ⟨10, .chain⟩, ⟨0, .phase⟩, ⟨1, .phase⟩, ⟨2, .phase⟩, ⟨3, .phase⟩, ⟨4, .phase⟩, ⟨5, .phase⟩, ⟨6, .phase⟩, ⟨7, .phase⟩, ⟨8, .phase⟩, ⟨9, .phase⟩, ⟨10, .phase⟩, ⟨11, .phase⟩], none⟩) rfl (by kernel_rfl) (fun K hK => ?g5ro16) ?g5rm16
          case g5rm16 => exact AllReadyF.nil
          (have y0 := rb.cell 0); (have y1 := rb.cell 1); (have y2 := rb.cell 2); (have qf := rb.frozen); (have ql := rb.lt); (simp only [List.getElem?_toArray, List.getElem?_cons_zero, List.getElem?_cons_succ] at y0 y1 y2); go_simp; clear y0 y1 y2 qf ql
          refine hK.out _ _ ?_
          clear hK K
          try simp only [Act.put, List.setIfInBounds_toArray, List.set_cons_zero, List.set_cons_succ]
          refine wpAnyF_done (by kernel_rfl) ?_
          have rz := Rw.set3 rb (u0 := .slice p0 (cutC X (D : Int) ((-1 - s : Int)) ((k : Int))).r.length d0) (u1 := .slice p1 (cutC X (D : Int) ((-1 - s : Int)) ((k : Int))).d.length d1) (u2 := .slice p2 (cutC X (D : Int) ((-1 - s : Int)) ((k : Int))).v.length d2)
          have z0 := rz.cell 0
          simp only [List.getElem?_toArray, List.getElem?_cons_zero] at z0
          have HN := Lib.hid (show NonQ _ _ from ⟨_, _, _, z0, HL16.out⟩)
          have HBF := Lib.hid (bset3 HBW hbg (u0 := .slice p0 (cutC X (D : Int) ((-1 - s : Int)) ((k : Int))).r.length d0) (u1 := .slice p1 (cutC X (D : Int) ((-1 - s : Int)) ((k : Int))).d.length d1) (u2 := .slice p2 (cutC X (D : Int) ((-1 - s : Int)) ((k : Int))).v.length d2))
          clear rz z0 rb HBW hbg
          go_wp2_with fail
          go_meet
          case rel => exact ⟨_, rfl, HN, HBF⟩
        case g5rm14 =>
        exact AllReadyF.nil
      case g5rm9 =>
      refine AllReadyF.cons 11 (o := ⟨some 16, .alloc 46, 0, "more.go:127", #[], none⟩) rfl (fun K hK => ?g5ro17) ?g5rm17
      case g5ro17 =>
        go_simp; refine gen_w (fun X' hX => ?_); (have hbk := bel_nb HBW hX); (have rb := bel_nr HBW hX); (have hbg := HBW.size); (replace HBW := bt HBW hbk); clear hX hbk
        refine hK.out _ _ ?g5rs17 (fun hHeld => ?g5rt17)
        case g5rs17 => (try dsimp only); (first | exact ⟨cb (bt HBB16.out (b0 _).drew) HT.out.1, cb (bt HBB16.out (b0 _).drew) HT.out.2.1, cb (bt HBB16.out (b0 _).drew) HT.out.2.2.1, cb (bt HBB16.out (b0 _).drew) HT.out.2.2.2.1, cb (bt HBB16.out (b0 _).drew) HT.out.2.2.2.2.1, cb (bt HBB16.out (b0 _).drew) HT.out.2.2.2.2.2.1, cb (bt HBB16.out (b0 _).drew) HT.out.2.2.2.2.2.2⟩ | exact ⟨cb (bt HBB16.out HBW) HT.out.1, cb (bt HBB16.out HBW) HT.out.2.1, cb (bt HBB16.out HBW) HT.out.2.2.1, cb (bt HBB16.out HBW) HT.out.2.2.2.1, cb (bt HBB16.out HBW) HT.out.2.2.2.2.1, cb (bt HBB16.out HBW) HT.out.2.2.2.2.2.1, cb (bt HBB16.out HBW) HT.out.2.2.2.2.2.2⟩)
        try dsimp only at hHeld
        clear hK K
        try simp only [Act.put, List.setIfInBounds_toArray, List.set_cons_zero, List.set_cons_succ]
        refine wpAnyF_ready [7] (by kernel_rfl) (by simp) ?_
        refine AllReadyF.cons 7 (o := ⟨some 64, .call { callee := .value (.func 20), args := #[.tmp 63, .const (.int .i64 9)], argTypes := #[3, 3] }, 3, "more.go:127", #[⟨6, .data⟩], none⟩) rfl (fun K hK => ?g5ro18) ?g5rm18
        case g5rm18 => exact AllReadyF.nil
        go_simp; refine (HWI.out _).mono ?_; rintro e w' ⟨rfl, rfl⟩; dsimp only
        refine hK.out _ _ ?g5rs18 (fun hHeld => ?g5rt18)
        case g5rs18 => (try dsimp only); (first | exact ⟨cb (bt HBB16.out (b0 _).drew) HT.out.1, cb (bt HBB16.out (b0 _).drew) HT.out.2.1, cb (bt HBB16.out (b0 _).drew) HT.out.2.2.1, cb (bt HBB16.out (b0 _).drew) HT.out.2.2.2.1, cb (bt HBB16.out (b0 _).drew) HT.out.2.2.2.2.1, cb (bt HBB16.out (b0 _).drew) HT.out.2.2.2.2.2.1, cb (bt HBB16.out (b0 _).drew) HT.out.2.2.2.2.2.2⟩ | exact ⟨cb (bt HBB16.out HBW) HT.out.1, cb (bt HBB16.out HBW) HT.out.2.1, cb (bt HBB16.out HBW) HT.out.2.2.1, cb (bt HBB16.out HBW) HT.out.2.2.2.1, cb (bt HBB16.out HBW) HT.out.2.2.2.2.1, cb (bt HBB16.out HBW) HT.out.2.2.2.2.2.1, cb (bt HBB16.out HBW) HT.out.2.2.2.2.2.2⟩)
        try dsimp only at hHeld
        clear hK K
        try simp only [Act.put, List.setIfInBounds_toArray, List.set_cons_zero, List.set_cons_succ]
        refine wpAnyF_take 8 (oi := ⟨some 65, .binOp .sub 3 (.const (.int .i64 (-1))) (.tmp 64) 3, 3, "more.go:127", #[⟨7, .data⟩], none⟩) (v := ?g5rv19) rfl (by kernel_rfl) (fun _ _ _ h => h) (by assumption) (by rfl) ?g5ry19 ?g5rr19
        case g5ry19 => intro w hSw; obtain ⟨s0, s1, s2, s3, s4, s5, s6⟩ := hSw; go_simp; try with_reducible rfl
        try simp only [Act.put, List.setIfInBounds_toArray, List.set_cons_zero, List.set_cons_succ]
        refine wpAnyF_ready [10] (by kernel_rfl) (by simp) ?_
        refine AllReadyF.cons 10 (o := ⟨some 67, .call { callee := .value (.func 26), args := #[.tmp 59, .tmp 62, .tmp 65, .tmp 66], argTypes := #[46, 48, 3, 3] }, 46, "more.go:127", #[⟨2, .data⟩, ⟨5, .data⟩, ⟨8, .data⟩, ⟨9, .data⟩, ⟨7, .chain⟩], none⟩) rfl (fun K hK => ?g5ro20) ?g5rm20
        case g5rm20 => exact AllReadyF.nil
        go_simp; refine (HCUT.out _ (bt HBB16.out HBW) ((-1 - s : Int)) ((k : Int))).mono ?_; rintro e w2 ⟨p0, d0, p1, d1, p2, d2, rfl, _, hbk⟩; dsimp only;  (replace rb := rb.below hbk) ; (replace HBW := bt HBW hbk); clear hbk
        refine hK.out _ _ ?g5rs20 (fun hHeld => ?g5rt20)
        case g5rs20 => (try dsimp only); (first | exact ⟨cb (bt HBB16.out (b0 _).drew) HT.out.1, cb (bt HBB16.out (b0 _).drew) HT.out.2.1, cb (bt HBB16.out (b0 _).drew) HT.out.2.2.1, cb (bt HBB16.out (b0 _).drew) HT.out.2.2.2.1, cb (bt HBB16.out (b0 _).drew) HT.out.2.2.2.2.1, cb (bt HBB16.out (b0 _).drew) HT.out.2.2.2.2.2.1, cb (bt HBB16.out (b0 _).drew) HT.out.2.2.2.2.2.2⟩ | exact ⟨cb (bt HBB16.out HBW) HT.out.1, cb (bt HBB16.out HBW) HT.out.2.1, cb (bt HBB16.out HBW) HT.out.2.2.1, cb (bt HBB16.out HBW) HT.out.2.2.2.1, cb (bt HBB16.out HBW) HT.out.2.2.2.2.1, cb (bt HBB16.out HBW) HT.out.2.2.2.2.2.1, cb (bt HBB16.out HBW) HT.out.2.2.2.2.2.2⟩)
        try dsimp only at hHeld
        clear hK K
        try simp only [Act.put, List.setIfInBounds_toArray, List.set_cons_zero, List.set_cons_succ]
        refine wpAnyF_ready [12] (by kernel_rfl) (by simp) ?_
        refine AllReadyF.last 12 (o := ⟨none, .store 46 (.tmp 16) (.tmp 67), 0, "more.go:127", #[⟨11, .data⟩, ⟨10, .data⟩, ⟨10, .chain⟩, ⟨0, .phase⟩, ⟨1, .phase⟩, ⟨2, .phase⟩, ⟨3, .phase⟩, ⟨4, .phase⟩, ⟨5, .phase⟩, ⟨6, .phase⟩, ⟨7, .phase⟩, ⟨8, .phase⟩, ⟨9, .phase⟩, ⟨10, .phase⟩, ⟨11, .phase⟩], none⟩) rfl (by kernel_rfl) (fun K hK => ?g5ro21) ?g5rm21
        case g5rm21 => exact AllReadyF.nil
        (have y0 := rb.cell 0); (have y1 := rb.cell 1); (have y2 := rb.cell 2); (have qf := rb.frozen); (have ql := rb.lt); (simp only [List.getElem?_toArray, List.getElem?_cons_zero, List.getElem?_cons_succ] at y0 y1 y2); go_simp; clear y0 y1 y2 qf ql
        refine hK.out _ _ ?_
        clear hK K
        try simp only [Act.put, List.setIfInBounds_toArray, List.set_cons_zero, List.set_cons_succ]
        refine wpAnyF_done (by kernel_rfl) ?_
        have rz := Rw.set3 rb (u0 := .slice p0 (cutC X (D : Int) ((-1 - s : Int)) ((k : Int))).r.length d0) (u1 := .slice p1 (cutC X (D : Int) ((-1 - s : Int)) ((k : Int))).d.length d1) (u2 := .slice p2 (cutC X (D : Int) ((-1 - s : Int)) ((k : Int))).v.length d2)
        have z0 := rz.cell 0
        simp only [List.getElem?_toArray, List.getElem?_cons_zero] at z0
        have HN := Lib.hid (show NonQ _ _ from ⟨_, _, _, z0, HL16.out⟩)
        have HBF := Lib.hid (bset3 HBW hbg (u0 := .slice p0 (cutC X (D : Int) ((-1 - s : Int)) ((k : Int))).r.length d0) (u1 := .slice p1 (cutC X (D : Int) ((-1 - s : Int)) ((k : Int))).d.length d1) (u2 := .slice p2 (cutC X (D : Int) ((-1 - s : Int)) ((k : Int))).v.length d2))
        clear rz z0 rb HBW hbg
        go_wp2_with fail
        go_meet
        case rel => exact ⟨_, rfl, HN, HBF⟩
      case g5rm17 =>
      exact AllReadyF.nil
    case rest =>
      obtain ⟨b16, rfl, HN16, HBX16⟩ := hcut
      obtain ⟨w16, hw16⟩ : ∃ W : World, W = wc := ⟨_, rfl⟩
      subst hw16
      have HBB17 : Hid (Below w5.heap.size w5 w16) := Lib.hid (bt HBB16.out HBX16.out)
      replace HN15 := Lib.hid (HN15.out.below HBX16.out)
      clear HBX16 HL16
      go_upto_region 12 with fail
      have HL17 : Hid ((cutC X (D : Int) ((k : Int)) (((n : Int) + 1 + s))).r.length = 0) := Lib.hid (cutC_bad (.inr (.inl (by rw [HBEG.out]; omega))))
      go_cut [17] from 68 to 81 (fun v wd => ∃ b, v = .pointer (some ⟨b, 0, none⟩) ∧ Hid (NonQ b wd) ∧ Hid (Below w16.heap.size w16 wd))
      case first =>
        have hwa : IntKind.i64.wrap ((n : Int) + 1) = ((n : Int) + 1) := IntWalk.i64_in _ ⟨by omega, by omega⟩
        have hwb : IntKind.i64.wrap ((n : Int) + 1 + s) = ((n : Int) + 1 + s) := IntWalk.i64_in _ ⟨by omega, by omega⟩
        refine wp_region_F (fun w' => w'.cell? ⟨bc, 0, none⟩ = some (.slice (aa 0) X.r.length (cc 0)) ∧ w'.cell? ⟨bc, 1, none⟩ = some (.slice (aa 1) X.d.length (cc 1)) ∧ w'.cell? ⟨bc, 2, none⟩ = some (.slice (aa 2) X.v.length (cc 2)) ∧ w'.cell? ⟨gL, 0, none⟩ = some (.int .i64 (lf : Int)) ∧ w'.cell? ⟨gL, 1, none⟩ = some (.int .i64 (R0 : Int)) ∧ w'.cell? ⟨gL, 2, none⟩ = some (.int .i64 (D : Int)) ∧ w'.cell? ⟨gL, 3, none⟩ = some (.int .i64 K0)) [15] (by kernel_rfl) ?g6rgS (fun hHeld => ?g6rgR)
        case g6rgS => (try dsimp only); (first | exact ⟨cb (bt HBB17.out (b0 _).drew) HT.out.1, cb (bt HBB17.out (b0 _).drew) HT.out.2.1, cb (bt HBB17.out (b0 _).drew) HT.out.2.2.1, cb (bt HBB17.out (b0 _).drew) HT.out.2.2.2.1, cb (bt HBB17.out (b0 _).drew) HT.out.2.2.2.2.1, cb (bt HBB17.out (b0 _).drew) HT.out.2.2.2.2.2.1, cb (bt HBB17.out (b0 _).drew) HT.out.2.2.2.2.2.2⟩ | exact ⟨cb (bt HBB17.out HBW) HT.out.1, cb (bt HBB17.out HBW) HT.out.2.1, cb (bt HBB17.out HBW) HT.out.2.2.1, cb (bt HBB17.out HBW) HT.out.2.2.2.1, cb (bt HBB17.out HBW) HT.out.2.2.2.2.1, cb (bt HBB17.out HBW) HT.out.2.2.2.2.2.1, cb (bt HBB17.out HBW) HT.out.2.2.2.2.2.2⟩)
        try dsimp only at hHeld
        obtain ⟨W, hW⟩ : ∃ W, W = w16.drew := ⟨_, rfl⟩; rw [← hW] at hHeld ⊢; (have HBW : Below w16.heap.size w16 W := by rw [hW]; exact (b0 w16).drew); clear hW
        refine wpAnyF_take 0 (oi := ⟨some 68, .move (.tmp 11), 34, "more.go:128", #[], none⟩) (v := ?g6rv1) rfl (by kernel_rfl) (fun _ _ _ h => h) (by assumption) (by rfl) ?g6ry1 ?g6rr1
        case g6ry1 => intro w hSw; obtain ⟨s0, s1, s2, s3, s4, s5, s6⟩ := hSw; go_simp; try with_reducible rfl
        try simp only [Act.put, List.setIfInBounds_toArray, List.set_cons_zero, List.set_cons_succ]
        refine wpAnyF_take 1 (oi := ⟨some 69, .indexAddr 34 (.tmp 68) (.const (.int .i64 0)), 0, "more.go:128", #[⟨0, .data⟩], none⟩) (v := ?g6rv2) rfl (by kernel_rfl) (fun _ _ _ h => h) (by assumption) (by rfl) ?g6ry2 ?g6rr2
        case g6ry2 => intro w hSw; obtain ⟨s0, s1, s2, s3, s4, s5, s6⟩ := hSw; go_simp; try with_reducible rfl
        try simp only [Act.put, List.setIfInBounds_toArray, List.set_cons_zero, List.set_cons_succ]
        refine wpAnyF_take 2 (oi := ⟨some 70, .load 46 (.tmp 69), 46, "more.go:128", #[⟨1, .data⟩], none⟩) (v := ?g6rv3) rfl (by kernel_rfl) (fun _ _ _ h => h) (by assumption) (by rfl) ?g6ry3 ?g6rr3
        case g6ry3 => intro w hSw; obtain ⟨s0, s1, s2, s3, s4, s5, s6⟩ := hSw; go_simp; try with_reducible rfl
        try simp only [Act.put, List.setIfInBounds_toArray, List.set_cons_zero, List.set_cons_succ]
        refine wpAnyF_take 3 (oi := ⟨some 71, .move (.tmp 13), 42, "more.go:128", #[], none⟩) (v := ?g6rv4) rfl (by kernel_rfl) (fun _ _ _ h => h) (by assumption) (by rfl) ?g6ry4 ?g6rr4
        case g6ry4 => intro w hSw; obtain ⟨s0, s1, s2, s3, s4, s5, s6⟩ := hSw; go_simp; try with_reducible rfl
        try simp only [Act.put, List.setIfInBounds_toArray, List.set_cons_zero, List.set_cons_succ]
        refine wpAnyF_take 4 (oi := ⟨some 72, .indexAddr 42 (.tmp 71) (.const (.int .i64 0)), 0, "more.go:128", #[⟨3, .data⟩], none⟩) (v := ?g6rv5) rfl (by kernel_rfl) (fun _ _ _ h => h) (by assumption) (by rfl) ?g6ry5 ?g6rr5
        case g6ry5 => intro w hSw; obtain ⟨s0, s1, s2, s3, s4, s5, s6⟩ := hSw; go_simp; try with_reducible rfl
        try simp only [Act.put, List.setIfInBounds_toArray, List.set_cons_zero, List.set_cons_succ]
        refine wpAnyF_take 5 (oi := ⟨some 73, .load 48 (.tmp 72), 48, "more.go:128", #[⟨4, .data⟩], none⟩) (v := ?g6rv6) rfl (by kernel_rfl) (fun _ _ _ h => h) (by assumption) (by rfl) ?g6ry6 ?g6rr6
        case g6ry6 => intro w hSw; obtain ⟨s0, s1, s2, s3, s4, s5, s6⟩ := hSw; go_simp; try with_reducible rfl
        try simp only [Act.put, List.setIfInBounds_toArray, List.set_cons_zero, List.set_cons_succ]
        refine wpAnyF_take 6 (oi := ⟨some 74, .move (.tmp 14), 3, "more.go:128", #[], none⟩) (v := ?g6rv7) rfl (by kernel_rfl) (fun _ _ _ h => h) (by assumption) (by rfl) ?g6ry7 ?g6rr7
        case g6ry7 => intro w hSw; obtain ⟨s0, s1, s2, s3, s4, s5, s6⟩ := hSw; go_simp; try with_reducible rfl
        try simp only [Act.put, List.setIfInBounds_toArray, List.set_cons_zero, List.set_cons_succ]
        refine wpAnyF_take 7 (oi := ⟨some 75, .move (.tmp 10), 24, "more.go:128", #[], none⟩) (v := ?g6rv8) rfl (by kernel_rfl) (fun _ _ _ h => h) (by assumption) (by rfl) ?g6ry8 ?g6rr8
        case g6ry8 => intro w hSw; obtain ⟨s0, s1, s2, s3, s4, s5, s6⟩ := hSw; go_simp; try with_reducible rfl
        try simp only [Act.put, List.setIfInBounds_toArray, List.set_cons_zero, List.set_cons_succ]
        refine wpAnyF_take 8 (oi := ⟨some 76, .call { callee := .builtin .len, args := #[.tmp 75], argTypes := #[24] }, 3, "more.go:128", #[⟨7, .data⟩], none⟩) (v := ?g6rv9) rfl (by kernel_rfl) (fun _ _ _ h => h) (by assumption) (by rfl) ?g6ry9 ?g6rr9
        case g6ry9 => intro w hSw; obtain ⟨s0, s1, s2, s3, s4, s5, s6⟩ := hSw; go_simp; try with_reducible rfl
        try simp only [Act.put, List.setIfInBounds_toArray, List.set_cons_zero, List.set_cons_succ]
        refine wpAnyF_take 9 (oi := ⟨some 77, .binOp .add 3 (.tmp 76) (.const (.int .i64 1)) 3, 3, "more.go:128", #[⟨8, .data⟩], none⟩) (v := ?g6rv10) rfl (by kernel_rfl) (fun _ _ _ h => h) (by assumption) (by rfl) ?g6ry10 ?g6rr10
        case g6ry10 => intro w hSw; obtain ⟨s0, s1, s2, s3, s4, s5, s6⟩ := hSw; go_simp; try with_reducible rfl
        try simp only [Act.put, List.setIfInBounds_toArray, List.set_cons_zero, List.set_cons_succ]
        refine wpAnyF_take 10 (oi := ⟨some 78, .move (.tmp 3), 3, "more.go:128", #[], none⟩) (v := ?g6rv11) rfl (by kernel_rfl) (fun _ _ _ h => h) (by assumption) (by rfl) ?g6ry11 ?g6rr11
        case g6ry11 => intro w hSw; obtain ⟨s0, s1, s2, s3, s4, s5, s6⟩ := hSw; go_simp; try with_reducible rfl
        try simp only [Act.put, List.setIfInBounds_toArray, List.set_cons_zero, List.set_cons_succ]
        refine wpAnyF_ready [11, 14] (by kernel_rfl) (by simp) ?_
        refine AllReadyF.cons 11 (o := ⟨some 79, .call { callee := .value (.func 20), args := #[.tmp 78, .const (.int .i64 9)], argTypes := #[3, 3] }, 3, "more.go:128", #[⟨10, .data⟩], none⟩) rfl (fun K hK => ?g6ro12) ?g6rm12
        case g6ro12 =>
          go_simp; refine (HWI.out _).mono ?_; rintro e w' ⟨rfl, rfl⟩; dsimp only
          refine hK.out _ _ ?g6rs12 (fun hHeld => ?g6rt12)
          case g6rs12 => (try dsimp only); (first | exact ⟨cb (bt HBB17.out (b0 _).drew) HT.out.1, cb (bt HBB17.out (b0 _).drew) HT.out.2.1, cb (bt HBB17.out (b0 _).drew) HT.out.2.2.1, cb (bt HBB17.out (b0 _).drew) HT.out.2.2.2.1, cb (bt HBB17.out (b0 _).drew) HT.out.2.2.2.2.1, cb (bt HBB17.out (b0 _).drew) HT.out.2.2.2.2.2.1, cb (bt HBB17.out (b0 _).drew) HT.out.2.2.2.2.2.2⟩ | exact ⟨cb (bt HBB17.out HBW) HT.out.1, cb (bt HBB17.out HBW) HT.out.2.1, cb (bt HBB17.out HBW) HT.out.2.2.1, cb (bt HBB17.out HBW) HT.out.2.2.2.1, cb (bt HBB17.out HBW) HT.out.2.2.2.2.1, cb (bt HBB17.out HBW) HT.out.2.2.2.2.2.1, cb (bt HBB17.out HBW) HT.out.2.2.2.2.2.2⟩)
          try dsimp only at hHeld
          clear hK K
          try simp only [Act.put, List.setIfInBounds_toArray, List.set_cons_zero, List.set_cons_succ]
          refine wpAnyF_take 12 (oi := ⟨some 80, .binOp .add 3 (.tmp 77) (.tmp 79) 3, 3, "more.go:128", #[⟨9, .data⟩, ⟨11, .data⟩], none⟩) (v := ?g6rv13) rfl (by kernel_rfl) (fun _ _ _ h => h) (by assumption) (by rfl) ?g6ry13 ?g6rr13
          case g6ry13 => intro w hSw; obtain ⟨s0, s1, s2, s3, s4, s5, s6⟩ := hSw; go_simp; try with_reducible rfl
          try simp only [Act.put, List.setIfInBounds_toArray, List.set_cons_zero, List.set_cons_succ]
          refine wpAnyF_ready [13, 14] (by kernel_rfl) (by simp) ?_
          refine AllReadyF.cons 13 (o := ⟨some 81, .call { callee := .value (.func 26), args := #[.tmp 70, .tmp 73, .tmp 74, .tmp 80], argTypes := #[46, 48, 3, 3] }, 46, "more.go:128", #[⟨2, .data⟩, ⟨5, .data⟩, ⟨6, .data⟩, ⟨12, .data⟩, ⟨11, .chain⟩], none⟩) rfl (fun K hK => ?g6ro14) ?g6rm14
          case g6ro14 =>
            go_simp; refine (HCUT.out _ (bt HBB17.out HBW) ((k : Int)) (((n : Int) + 1 + s))).mono ?_; rintro e w2 ⟨p0, d0, p1, d1, p2, d2, rfl, _, hbk⟩; dsimp only;  skip; (replace HBW := bt HBW hbk); clear hbk
            refine hK.out _ _ ?g6rs14 (fun hHeld => ?g6rt14)
            case g6rs14 => (try dsimp only); (first | exact ⟨cb (bt HBB17.out (b0 _).drew) HT.out.1, cb (bt HBB17.out (b0 _).drew) HT.out.2.1, cb (bt HBB17.out (b0 _).drew) HT.out.2.2.1, cb (bt HBB17.out (b0 _).drew) HT.out.2.2.2.1, cb (bt HBB17.out (b0 _).drew) HT.out.2.2.2.2.1, cb (bt HBB17.out (b0 _).drew) HT.out.2.2.2.2.2.1, cb (bt HBB17.out (b0 _).drew) HT.out.2.2.2.2.2.2⟩ | exact ⟨cb (bt HBB17.out HBW) HT.out.1, cb (bt HBB17.out HBW) HT.out.2.1, cb (bt HBB17.out HBW) HT.out.2.2.1, cb (bt HBB17.out HBW) HT.out.2.2.2.1, cb (bt HBB17.out HBW) HT.out.2.2.2.2.1, cb (bt HBB17.out HBW) HT.out.2.2.2.2.2.1, cb (bt HBB17.out HBW) HT.out.2.2.2.2.2.2⟩)
            try dsimp only at hHeld
            clear hK K
            try simp only [Act.put, List.setIfInBounds_toArray, List.set_cons_zero, List.set_cons_succ]
            refine wpAnyF_ready [14] (by kernel_rfl) (by simp) ?_
            refine AllReadyF.cons 14 (o := ⟨some 17, .alloc 46, 0, "more.go:128", #[], none⟩) rfl (fun K hK => ?g6ro15) ?g6rm15
            case g6rm15 => exact AllReadyF.nil
            go_simp; refine gen_w (fun X' hX => ?_); (have hbk := bel_nb HBW hX); (have rb := bel_nr HBW hX); (have hbg := HBW.size); (replace HBW := bt HBW hbk); clear hX hbk
            refine hK.out _ _ ?g6rs15 (fun hHeld => ?g6rt15)
            case g6rs15 => (try dsimp only); (first | exact ⟨cb (bt HBB17.out (b0 _).drew) HT.out.1, cb (bt HBB17.out (b0 _).drew) HT.out.2.1, cb (bt HBB17.out (b0 _).drew) HT.out.2.2.1, cb (bt HBB17.out (b0 _).drew) HT.out.2.2.2.1, cb (bt HBB17.out (b0 _).drew) HT.out.2.2.2.2.1, cb (bt HBB17.out (b0 _).drew) HT.out.2.2.2.2.2.1, cb (bt HBB17.out (b0 _).drew) HT.out.2.2.2.2.2.2⟩ | exact ⟨cb (bt HBB17.out HBW) HT.out.1, cb (bt HBB17.out HBW) HT.out.2.1, cb (bt HBB17.out HBW) HT.out.2.2.1, cb (bt HBB17.out HBW) HT.out.2.2.2.1, cb (bt HBB17.out HBW) HT.out.2.2.2.2.1, cb (bt HBB17.out HBW) HT.out.2.2.2.2.2.1, cb (bt HBB17.out HBW) HT.out.2.2.2.2.2.2⟩)
            try dsimp only at hHeld
            clear hK K
            try simp only [Act.put, List.setIfInBounds_toArray, List.set_cons_zero, List.set_cons_succ]
            refine wpAnyF_ready [15] (by kernel_rfl) (by simp) ?_
            refine AllReadyF.last 15 (o := ⟨none, .store 46 (.tmp 17) (.tmp 81), 0, "more.go:128", #[⟨14, .data⟩, ⟨13, .data⟩, ⟨13, .chain⟩, ⟨0, .phase⟩, ⟨1, .phase⟩, ⟨2, .phase⟩, ⟨3, .phase⟩, ⟨4, .phase⟩, ⟨5, .phase⟩, ⟨6, .phase⟩, ⟨7, .phase⟩, ⟨8, .phase⟩, ⟨9, .phase⟩, ⟨10, .phase⟩, ⟨11, .phase⟩, ⟨12, .phase⟩, ⟨13, .phase⟩, ⟨14, .phase⟩], none⟩) rfl (by kernel_rfl) (fun K hK => ?g6ro16) ?g6rm16
            case g6rm16 => exact AllReadyF.nil
            (have y0 := rb.cell 0); (have y1 := rb.cell 1); (have y2 := rb.cell 2); (have qf := rb.frozen); (have ql := rb.lt); (simp only [List.getElem?_toArray, List.getElem?_cons_zero, List.getElem?_cons_succ] at y0 y1 y2); go_simp; clear y0 y1 y2 qf ql
            refine hK.out _ _ ?_
            clear hK K
            try simp only [Act.put, List.setIfInBounds_toArray, List.set_cons_zero, List.set_cons_succ]
            refine wpAnyF_done (by kernel_rfl) ?_
            have rz := Rw.set3 rb (u0 := .slice p0 (cutC X (D : Int) ((k : Int)) (((n : Int) + 1 + s))).r.length d0) (u1 := .slice p1 (cutC X (D : Int) ((k : Int)) (((n : Int) + 1 + s))).d.length d1) (u2 := .slice p2 (cutC X (D : Int) ((k : Int)) (((n : Int) + 1 + s))).v.length d2)
            have z0 := rz.cell 0
            simp only [List.getElem?_toArray, List.getElem?_cons_zero] at z0
            have HN := Lib.hid (show NonQ _ _ from ⟨_, _, _, z0, HL17.out⟩)
            have HBF := Lib.hid (bset3 HBW hbg (u0 := .slice p0 (cutC X (D : Int) ((k : Int)) (((n : Int) + 1 + s))).r.length d0) (u1 := .slice p1 (cutC X (D : Int) ((k : Int)) (((n : Int) + 1 + s))).d.length d1) (u2 := .slice p2 (cutC X (D : Int) ((k : Int)) (((n : Int) + 1 + s))).v.length d2))
            clear rz z0 rb HBW hbg
            go_wp2_with fail
            go_meet
            case rel => exact ⟨_, rfl, HN, HBF⟩
          case g6rm14 =>
          refine AllReadyF.cons 14 (o := ⟨some 17, .alloc 46, 0, "more.go:128", #[], none⟩) rfl (fun K hK => ?g6ro17) ?g6rm17
          case g6ro17 =>
            go_simp; refine gen_w (fun X' hX => ?_); (have hbk := bel_nb HBW hX); (have rb := bel_nr HBW hX); (have hbg := HBW.size); (replace HBW := bt HBW hbk); clear hX hbk
            refine hK.out _ _ ?g6rs17 (fun hHeld => ?g6rt17)
            case g6rs17 => (try dsimp only); (first | exact ⟨cb (bt HBB17.out (b0 _).drew) HT.out.1, cb (bt HBB17.out (b0 _).drew) HT.out.2.1, cb (bt HBB17.out (b0 _).drew) HT.out.2.2.1, cb (bt HBB17.out (b0 _).drew) HT.out.2.2.2.1, cb (bt HBB17.out (b0 _).drew) HT.out.2.2.2.2.1, cb (bt HBB17.out (b0 _).drew) HT.out.2.2.2.2.2.1, cb (bt HBB17.out (b0 _).drew) HT.out.2.2.2.2.2.2⟩ | exact ⟨cb (bt HBB17.out HBW) HT.out.1, cb (bt HBB17.out HBW) HT.out.2.1, cb (bt HBB17.out HBW) HT.out.2.2.1, cb (bt HBB17.out HBW) HT.out.2.2.2.1, cb (bt HBB17.out HBW) HT.out.2.2.2.2.1, cb (bt HBB17.out HBW) HT.out.2.2.2.2.2.1, cb (bt HBB17.out HBW) HT.out.2.2.2.2.2.2⟩)
            try dsimp only at hHeld
            clear hK K
            try simp only [Act.put, List.setIfInBounds_toArray, List.set_cons_zero, List.set_cons_succ]
            refine wpAnyF_ready [13] (by kernel_rfl) (by simp) ?_
            refine AllReadyF.cons 13 (o := ⟨some 81, .call { callee := .value (.func 26), args := #[.tmp 70, .tmp 73, .tmp 74, .tmp 80], argTypes := #[46, 48, 3, 3] }, 46, "more.go:128", #[⟨2, .data⟩, ⟨5, .data⟩, ⟨6, .data⟩, ⟨12, .data⟩, ⟨11, .chain⟩], none⟩) rfl (fun K hK => ?g6ro18) ?g6rm18
            case g6rm18 => exact AllReadyF.nil
            go_simp; refine (HCUT.out _ (bt HBB17.out HBW) ((k : Int)) (((n : Int) + 1 + s))).mono ?_; rintro e w2 ⟨p0, d0, p1, d1, p2, d2, rfl, _, hbk⟩; dsimp only;  (replace rb := rb.below hbk) ; (replace HBW := bt HBW hbk); clear hbk
            refine hK.out _ _ ?g6rs18 (fun hHeld => ?g6rt18)
            case g6rs18 => (try dsimp only); (first | exact ⟨cb (bt HBB17.out (b0 _).drew) HT.out.1, cb (bt HBB17.out (b0 _).drew) HT.out.2.1, cb (bt HBB17.out (b0 _).drew) HT.out.2.2.1, cb (bt HBB17.out (b0 _).drew) HT.out.2.2.2.1, cb (bt HBB17.out (b0 _).drew) HT.out.2.2.2.2.1, cb (bt HBB17.out (b0 _).drew) HT.out.2.2.2.2.2.1, cb (bt HBB17.out (b0 _).drew) HT.out.2.2.2.2.2.2⟩ | exact ⟨cb (bt HBB17.out HBW) HT.out.1, cb (bt HBB17.out HBW) HT.out.2.1, cb (bt HBB17.out HBW) HT.out.2.2.1, cb (bt HBB17.out HBW) HT.out.2.2.2.1, cb (bt HBB17.out HBW) HT.out.2.2.2.2.1, cb (bt HBB17.out HBW) HT.out.2.2.2.2.2.1, cb (bt HBB17.out HBW) HT.out.2.2.2.2.2.2⟩)
            try dsimp only at hHeld
            clear hK K
            try simp only [Act.put, List.setIfInBounds_toArray, List.set_cons_zero, List.set_cons_succ]
            refine wpAnyF_ready [15] (by kernel_rfl) (by simp) ?_
            refine AllReadyF.last 15 (o := ⟨none, .store 46 (.tmp 17) (.tmp 81), 0, "more.go:128", #[⟨14, .data⟩, ⟨13, .data⟩, ⟨13, .chain⟩, ⟨0, .phase⟩, ⟨1, .phase⟩, ⟨2, .phase⟩, ⟨3, .phase⟩, ⟨4, .phase⟩, ⟨5, .phase⟩, ⟨6, .phase⟩, ⟨7, .phase⟩, ⟨8, .phase⟩, ⟨9, .phase⟩, ⟨10, .phase⟩, ⟨11, .phase⟩, ⟨12, .phase⟩, ⟨13, .phase⟩, ⟨14, .phase⟩], none⟩) rfl (by kernel_rfl) (fun K hK => ?g6ro19) ?g6rm19
            case g6rm19 => exact AllReadyF.nil
            (have y0 := rb.cell 0); (have y1 := rb.cell 1); (have y2 := rb.cell 2); (have qf := rb.frozen); (have ql := rb.lt); (simp only [List.getElem?_toArray, List.getElem?_cons_zero, List.getElem?_cons_succ] at y0 y1 y2); go_simp; clear y0 y1 y2 qf ql
            refine hK.out _ _ ?_
            clear hK K
            try simp only [Act.put, List.setIfInBounds_toArray, List.set_cons_zero, List.set_cons_succ]
            refine wpAnyF_done (by kernel_rfl) ?_
            have rz := Rw.set3 rb (u0 := .slice p0 (cutC X (D : Int) ((k : Int)) (((n : Int) + 1 + s))).r.length d0) (u1 := .slice p1 (cutC X (D : Int) ((k : Int)) (((n : Int) + 1 + s))).d.length d1) (u2 := .slice p2 (cutC X (D : Int) ((k : Int)) (((n : Int) + 1 + s))).v.length d2)
            have z0 := rz.cell 0
            simp only [List.getElem?_toArray, List.getElem?_cons_zero] at z0
            have HN := Lib.hid (show NonQ _ _ from ⟨_, _, _, z0, HL17.out⟩)
            have HBF := Lib.hid (bset3 HBW hbg (u0 := .slice p0 (cutC X (D : Int) ((k : Int)) (((n : Int) + 1 + s))).r.length d0) (u1 := .slice p1 (cutC X (D : Int) ((k : Int)) (((n : Int) + 1 + s))).d.length d1) (u2 := .slice p2 (cutC X (D : Int) ((k : Int)) (((n : Int) + 1 + s))).v.length d2))
            clear rz z0 rb HBW hbg
            go_wp2_with fail
            go_meet
            case rel => exact ⟨_, rfl, HN, HBF⟩
          case g6rm17 =>
          exact AllReadyF.nil
        case g6rm12 =>
        refine AllReadyF.cons 14 (o := ⟨some 17, .alloc 46, 0, "more.go:128", #[], none⟩) rfl (fun K hK => ?g6ro20) ?g6rm20
        case g6ro20 =>
          go_simp; refine gen_w (fun X' hX => ?_); (have hbk := bel_nb HBW hX); (have rb := bel_nr HBW hX); (have hbg := HBW.size); (replace HBW := bt HBW hbk); clear hX hbk
          refine hK.out _ _ ?g6rs20 (fun hHeld => ?g6rt20)
          case g6rs20 => (try dsimp only); (first | exact ⟨cb (bt HBB17.out (b0 _).drew) HT.out.1, cb (bt HBB17.out (b0 _).drew) HT.out.2.1, cb (bt HBB17.out (b0 _).drew) HT.out.2.2.1, cb (bt HBB17.out (b0 _).drew) HT.out.2.2.2.1, cb (bt HBB17.out (b0 _).drew) HT.out.2.2.2.2.1, cb (bt HBB17.out (b0 _).drew) HT.out.2.2.2.2.2.1, cb (bt HBB17.out (b0 _).drew) HT.out.2.2.2.2.2.2⟩ | exact ⟨cb (bt HBB17.out HBW) HT.out.1, cb (bt HBB17.out HBW) HT.out.2.1, cb (bt HBB17.out HBW) HT.out.2.2.1, cb (bt HBB17.out HBW) HT.out.2.2.2.1, cb (bt HBB17.out HBW) HT.out.2.2.2.2.1, cb (bt HBB17.out HBW) HT.out.2.2.2.2.2.1, cb (bt HBB17.out HBW) HT.out.2.2.2.2.2.2⟩)
          try dsimp only at hHeld
          clear hK K
          try simp only [Act.put, List.setIfInBounds_toArray, List.set_cons_zero, List.set_cons_succ]
          refine wpAnyF_ready [11] (by kernel_rfl) (by simp) ?_
          refine AllReadyF.cons 11 (o := ⟨some 79, .call { callee := .value (.func 20), args := #[.tmp 78, .const (.int .i64 9)], argTypes := #[3, 3] }, 3, "more.go:128", #[⟨10, .data⟩], none⟩) rfl (fun K hK => ?g6ro21) ?g6rm21
          case g6rm21 => exact AllReadyF.nil
          go_simp; refine (HWI.out _).mono ?_; rintro e w' ⟨rfl, rfl⟩; dsimp only
          refine hK.out _ _ ?g6rs21 (fun hHeld => ?g6rt21)
          case g6rs21 => (try dsimp only); (first | exact ⟨cb (bt HBB17.out (b0 _).drew) HT.out.1, cb (bt HBB17.out (b0 _).drew) HT.out.2.1, cb (bt HBB17.out (b0 _).drew) HT.out.2.2.1, cb (bt HBB17.out (b0 _).drew) HT.out.2.2.2.1, cb (bt HBB17.out (b0 _).drew) HT.out.2.2.2.2.1, cb (bt HBB17.out (b0 _).drew) HT.out.2.2.2.2.2.1, cb (bt HBB17.out (b0 _).drew) HT.out.2.2.2.2.2.2⟩ | exact ⟨cb (bt HBB17.out HBW) HT.out.1, cb (bt HBB17.out HBW) HT.out.2.1, cb (bt HBB17.out HBW) HT.out.2.2.1, cb (bt HBB17.out HBW) HT.out.2.2.2.1, cb (bt HBB17.out HBW) HT.out.2.2.2.2.1, cb (bt HBB17.out HBW) HT.out.2.2.2.2.2.1, cb (bt HBB17.out HBW) HT.out.2.2.2.2.2.2⟩)
          try dsimp only at hHeld
          clear hK K
          try simp only [Act.put, List.setIfInBounds_toArray, List.set_cons_zero, List.set_cons_succ]
          refine wpAnyF_take 12 (oi := ⟨some 80, .binOp .add 3 (.tmp 77) (.tmp 79) 3, 3, "more.go:128", #[⟨9, .data⟩, ⟨11, .data⟩], none⟩) (v := ?g6rv22) rfl (by kernel_rfl) (fun _ _ _ h => h) (by assumption) (by rfl) ?g6ry22 ?g6rr22
          case g6ry22 => intro w hSw; obtain ⟨s0, s1, s2, s3, s4, s5, s6⟩ := hSw; go_simp; try with_reducible rfl
          try simp only [Act.put, List.setIfInBounds_toArray, List.set_cons_zero, List.set_cons_succ]
          refine wpAnyF_ready [13] (by kernel_rfl) (by simp) ?_
          refine AllReadyF.cons 13 (o := ⟨some 81, .call { callee := .value (.func 26), args := #[.tmp 70, .tmp 73, .tmp 74, .tmp 80], argTypes := #[46, 48, 3, 3] }, 46, "more.go:128", #[⟨2, .data⟩, ⟨5, .data⟩, ⟨6, .data⟩, ⟨12, .data⟩, ⟨11, .chain⟩], none⟩) rfl (fun K hK => ?g6ro23) ?g6rm23
          case g6rm23 => exact AllReadyF.nil
          go_simp; refine (HCUT.out _ (bt HBB17.out HBW) ((k : Int)) (((n : Int) + 1 + s))).mono ?_; rintro e w2 ⟨p0, d0, p1, d1, p2, d2, rfl, _, hbk⟩; dsimp only;  (replace rb := rb.below hbk) ; (replace HBW := bt HBW hbk); clear hbk
          refine hK.out _ _ ?g6rs23 (fun hHeld => ?g6rt23)
          case g6rs23 => (try dsimp only); (first | exact ⟨cb (bt HBB17.out (b0 _).drew) HT.out.1, cb (bt HBB17.out (b0 _).drew) HT.out.2.1, cb (bt HBB17.out (b0 _).drew) HT.out.2.2.1, cb (bt HBB17.out (b0 _).drew) HT.out.2.2.2.1, cb (bt HBB17.out (b0 _).drew) HT.out.2.2.2.2.1, cb (bt HBB17.out (b0 _).drew) HT.out.2.2.2.2.2.1, cb (bt HBB17.out (b0 _).drew) HT.out.2.2.2.2.2.2⟩ | exact ⟨cb (bt HBB17.out HBW) HT.out.1, cb (bt HBB17.out HBW) HT.out.2.1, cb (bt HBB17.out HBW) HT.out.2.2.1, cb (bt HBB17.out HBW) HT.out.2.2.2.1, cb (bt HBB17.out HBW) HT.out.2.2.2.2.1, cb (bt HBB17.out HBW) HT.out.2.2.2.2.2.1, cb (bt HBB17.out HBW) HT.out.2.2.2.2.2.2⟩)
          try dsimp only at hHeld
          clear hK K
          try simp only [Act.put, List.setIfInBounds_toArray, List.set_cons_zero, List.set_cons_succ]
          refine wpAnyF_ready [15] (by kernel_rfl) (by simp) ?_
          refine AllReadyF.last 15 (o := ⟨none, .store 46 (.tmp 17) (.tmp 81), 0, "more.go:128", #[⟨14, .data⟩, ⟨13, .data⟩, ⟨13, .chain⟩, ⟨0, .phase⟩, ⟨1, .phase⟩, ⟨2, .phase⟩, ⟨3, .phase⟩, ⟨4, .phase⟩, ⟨5, .phase⟩, ⟨6, .phase⟩, ⟨7, .phase⟩, ⟨8, .phase⟩, ⟨9, .phase⟩, ⟨10, .phase⟩, ⟨11, .phase⟩, ⟨12, .phase⟩, ⟨13, .phase⟩, ⟨14, .phase⟩], none⟩) rfl (by kernel_rfl) (fun K hK => ?g6ro24) ?g6rm24
          case g6rm24 => exact AllReadyF.nil
          (have y0 := rb.cell 0); (have y1 := rb.cell 1); (have y2 := rb.cell 2); (have qf := rb.frozen); (have ql := rb.lt); (simp only [List.getElem?_toArray, List.getElem?_cons_zero, List.getElem?_cons_succ] at y0 y1 y2); go_simp; clear y0 y1 y2 qf ql
          refine hK.out _ _ ?_
          clear hK K
          try simp only [Act.put, List.setIfInBounds_toArray, List.set_cons_zero, List.set_cons_succ]
          refine wpAnyF_done (by kernel_rfl) ?_
          have rz := Rw.set3 rb (u0 := .slice p0 (cutC X (D : Int) ((k : Int)) (((n : Int) + 1 + s))).r.length d0) (u1 := .slice p1 (cutC X (D : Int) ((k : Int)) (((n : Int) + 1 + s))).d.length d1) (u2 := .slice p2 (cutC X (D : Int) ((k : Int)) (((n : Int) + 1 + s))).v.length d2)
          have z0 := rz.cell 0
          simp only [List.getElem?_toArray, List.getElem?_cons_zero] at z0
          have HN := Lib.hid (show NonQ _ _ from ⟨_, _, _, z0, HL17.out⟩)
          have HBF := Lib.hid (bset3 HBW hbg (u0 := .slice p0 (cutC X (D : Int) ((k : Int)) (((n : Int) + 1 + s))).r.length d0) (u1 := .slice p1 (cutC X (D : Int) ((k : Int)) (((n : Int) + 1 + s))).d.length d1) (u2 := .slice p2 (cutC X (D : Int) ((k : Int)) (((n : Int) + 1 + s))).v.length d2))
          clear rz z0 rb HBW hbg
          go_wp2_with fail
          go_meet
          case rel => exact ⟨_, rfl, HN, HBF⟩
        case g6rm20 =>
        exact AllReadyF.nil
      case rest =>
        obtain ⟨b17, rfl, HN17, HBX17⟩ := hcut
        obtain ⟨w17, hw17⟩ : ∃ W : World, W = wc := ⟨_, rfl⟩
        subst hw17
        have HBB18 : Hid (Below w5.heap.size w5 w17) := Lib.hid (bt HBB17.out HBX17.out)
        replace HN15 := Lib.hid (HN15.out.below HBX17.out)
        replace HN16 := Lib.hid (HN16.out.below HBX17.out)
        clear HBX17 HL17
        go_upto_region 13 with fail
        have HL18 : Hid ((cutC X (D : Int) (((k : Int) + 1)) ((k : Int))).r.length = 0) := Lib.hid (cutC_bad (.inr (.inr (by omega))))
        go_cut [18] from 82 to 91 (fun v wd => ∃ b, v = .pointer (some ⟨b, 0, none⟩) ∧ Hid (NonQ b wd) ∧ Hid (Below w17.heap.size w17 wd))
        case first =>
          have hwa : IntKind.i64.wrap ((k : Int) + 1) = ((k : Int) + 1) := IntWalk.i64_in _ ⟨by omega, by omega⟩
          refine wp_region_F (fun w' => w'.cell? ⟨bc, 0, none⟩ = some (.slice (aa 0) X.r.length (cc 0)) ∧ w'.cell? ⟨bc, 1, none⟩ = some (.slice (aa 1) X.d.length (cc 1)) ∧ w'.cell? ⟨bc, 2, none⟩ = some (.slice (aa 2) X.v.length (cc 2)) ∧ w'.cell? ⟨gL, 0, none⟩ = some (.int .i64 (lf : Int)) ∧ w'.cell? ⟨gL, 1, none⟩ = some (.int .i64 (R0 : Int)) ∧ w'.cell? ⟨gL, 2, none⟩ = some (.int .i64 (D : Int)) ∧ w'.cell? ⟨gL, 3, none⟩ = some (.int .i64 K0)) [11] (by kernel_rfl) ?g7rgS (fun hHeld => ?g7rgR)
          case g7rgS => (try dsimp only); (first | exact ⟨cb (bt HBB18.out (b0 _).drew) HT.out.1, cb (bt HBB18.out (b0 _).drew) HT.out.2.1, cb (bt HBB18.out (b0 _).drew) HT.out.2.2.1, cb (bt HBB18.out (b0 _).drew) HT.out.2.2.2.1, cb (bt HBB18.out (b0 _).drew) HT.out.2.2.2.2.1, cb (bt HBB18.out (b0 _).drew) HT.out.2.2.2.2.2.1, cb (bt HBB18.out (b0 _).drew) HT.out.2.2.2.2.2.2⟩ | exact ⟨cb (bt HBB18.out HBW) HT.out.1, cb (bt HBB18.out HBW) HT.out.2.1, cb (bt HBB18.out HBW) HT.out.2.2.1, cb (bt HBB18.out HBW) HT.out.2.2.2.1, cb (bt HBB18.out HBW) HT.out.2.2.2.2.1, cb (bt HBB18.out HBW) HT.out.2.2.2.2.2.1, cb (bt HBB18.out HBW) HT.out.2.2.2.2.2.2⟩)
          try dsimp only at hHeld
          obtain ⟨W, hW⟩ : ∃ W, W = w17.drew := ⟨_, rfl⟩; rw [← hW] at hHeld ⊢; (have HBW : Below w17.heap.size w17 W := by rw [hW]; exact (b0 w17).drew); clear hW
          refine wpAnyF_take 0 (oi := ⟨some 82, .move (.tmp 11), 34, "more.go:129", #[], none⟩) (v := ?g7rv1) rfl (by kernel_rfl) (fun _ _ _ h => h) (by assumption) (by rfl) ?g7ry1 ?g7rr1
          case g7ry1 => intro w hSw; obtain ⟨s0, s1, s2, s3, s4, s5, s6⟩ := hSw; go_simp; try with_reducible rfl
          try simp only [Act.put, List.setIfInBounds_toArray, List.set_cons_zero, List.set_cons_succ]
          refine wpAnyF_take 1 (oi := ⟨some 83, .indexAddr 34 (.tmp 82) (.const (.int .i64 0)), 0, "more.go:129", #[⟨0, .data⟩], none⟩) (v := ?g7rv2) rfl (by kernel_rfl) (fun _ _ _ h => h) (by assumption) (by rfl) ?g7ry2 ?g7rr2
          case g7ry2 => intro w hSw; obtain ⟨s0, s1, s2, s3, s4, s5, s6⟩ := hSw; go_simp; try with_reducible rfl
          try simp only [Act.put, List.setIfInBounds_toArray, List.set_cons_zero, List.set_cons_succ]
          refine wpAnyF_take 2 (oi := ⟨some 84, .load 46 (.tmp 83), 46, "more.go:129", #[⟨1, .data⟩], none⟩) (v := ?g7rv3) rfl (by kernel_rfl) (fun _ _ _ h => h) (by assumption) (by rfl) ?g7ry3 ?g7rr3
          case g7ry3 => intro w hSw; obtain ⟨s0, s1, s2, s3, s4, s5, s6⟩ := hSw; go_simp; try with_reducible rfl
          try simp only [Act.put, List.setIfInBounds_toArray, List.set_cons_zero, List.set_cons_succ]
          refine wpAnyF_take 3 (oi := ⟨some 85, .move (.tmp 13), 42, "more.go:129", #[], none⟩) (v := ?g7rv4) rfl (by kernel_rfl) (fun _ _ _ h => h) (by assumption) (by rfl) ?g7ry4 ?g7rr4
          case g7ry4 => intro w hSw; obtain ⟨s0, s1, s2, s3, s4, s5, s6⟩ := hSw; go_simp; try with_reducible rfl
          try simp only [Act.put, List.setIfInBounds_toArray, List.set_cons_zero, List.set_cons_succ]
          refine wpAnyF_take 4 (oi := ⟨some 86, .indexAddr 42 (.tmp 85) (.const (.int .i64 0)), 0, "more.go:129", #[⟨3, .data⟩], none⟩) (v := ?g7rv5) rfl (by kernel_rfl) (fun _ _ _ h => h) (by assumption) (by rfl) ?g7ry5 ?g7rr5
          case g7ry5 => intro w hSw; obtain ⟨s0, s1, s2, s3, s4, s5, s6⟩ := hSw; go_simp; try with_reducible rfl
          try simp only [Act.put, List.setIfInBounds_toArray, List.set_cons_zero, List.set_cons_succ]
          refine wpAnyF_take 5 (oi := ⟨some 87, .load 48 (.tmp 86), 48, "more.go:129", #[⟨4, .data⟩], none⟩) (v := ?g7rv6) rfl (by kernel_rfl) (fun _ _ _ h => h) (by assumption) (by rfl) ?g7ry6 ?g7rr6
          case g7ry6 => intro w hSw; obtain ⟨s0, s1, s2, s3, s4, s5, s6⟩ := hSw; go_simp; try with_reducible rfl
          try simp only [Act.put, List.setIfInBounds_toArray, List.set_cons_zero, List.set_cons_succ]
          refine wpAnyF_take 6 (oi := ⟨some 88, .move (.tmp 14), 3, "more.go:129", #[], none⟩) (v := ?g7rv7) rfl (by kernel_rfl) (fun _ _ _ h => h) (by assumption) (by rfl) ?g7ry7 ?g7rr7
          case g7ry7 => intro w hSw; obtain ⟨s0, s1, s2, s3, s4, s5, s6⟩ := hSw; go_simp; try with_reducible rfl
          try simp only [Act.put, List.setIfInBounds_toArray, List.set_cons_zero, List.set_cons_succ]
          refine wpAnyF_take 7 (oi := ⟨some 89, .binOp .add 3 (.tmp 88) (.const (.int .i64 1)) 3, 3, "more.go:129", #[⟨6, .data⟩], none⟩) (v := ?g7rv8) rfl (by kernel_rfl) (fun _ _ _ h => h) (by assumption) (by rfl) ?g7ry8 ?g7rr8
          case g7ry8 => intro w hSw; obtain ⟨s0, s1, s2, s3, s4, s5, s6⟩ := hSw; go_simp; try with_reducible rfl
          try simp only [Act.put, List.setIfInBounds_toArray, List.set_cons_zero, List.set_cons_succ]
          refine wpAnyF_take 8 (oi := ⟨some 90, .move (.tmp 14), 3, "more.go:129", #[], none⟩) (v := ?g7rv9) rfl (by kernel_rfl) (fun _ _ _ h => h) (by assumption) (by rfl) ?g7ry9 ?g7rr9
          case g7ry9 => intro w hSw; obtain ⟨s0, s1, s2, s3, s4, s5, s6⟩ := hSw; go_simp; try with_reducible rfl
          try simp only [Act.put, List.setIfInBounds_toArray, List.set_cons_zero, List.set_cons_succ]
          refine wpAnyF_ready [9, 10] (by kernel_rfl) (by simp) ?_
          refine AllReadyF.cons 9 (o := ⟨some 91, .call { callee := .value (.func 26), args := #[.tmp 84, .tmp 87, .tmp 89, .tmp 90], argTypes := #[46, 48, 3, 3] }, 46, "more.go:129", #[⟨2, .data⟩, ⟨5, .data⟩, ⟨7, .data⟩, ⟨8, .data⟩], none⟩) rfl (fun K hK => ?g7ro10) ?g7rm10
          case g7ro10 =>
            go_simp; refine (HCUT.out _ (bt HBB18.out HBW) (((k : Int) + 1)) ((k : Int))).mono ?_; rintro e w2 ⟨p0, d0, p1, d1, p2, d2, rfl, _, hbk⟩; dsimp only;  skip; (replace HBW := bt HBW hbk); clear hbk
            refine hK.out _ _ ?g7rs10 (fun hHeld => ?g7rt10)
            case g7rs10 => (try dsimp only); (first | exact ⟨cb (bt HBB18.out (b0 _).drew) HT.out.1, cb (bt HBB18.out (b0 _).drew) HT.out.2.1, cb (bt HBB18.out (b0 _).drew) HT.out.2.2.1, cb (bt HBB18.out (b0 _).drew) HT.out.2.2.2.1, cb (bt HBB18.out (b0 _).drew) HT.out.2.2.2.2.1, cb (bt HBB18.out (b0 _).drew) HT.out.2.2.2.2.2.1, cb (bt HBB18.out (b0 _).drew) HT.out.2.2.2.2.2.2⟩ | exact ⟨cb (bt HBB18.out HBW) HT.out.1, cb (bt HBB18.out HBW) HT.out.2.1, cb (bt HBB18.out HBW) HT.out.2.2.1, cb (bt HBB18.out HBW) HT.out.2.2.2.1, cb (bt HBB18.out HBW) HT.out.2.2.2.2.1, cb (bt HBB18.out HBW) HT.out.2.2.2.2.2.1, cb (bt HBB18.out HBW) HT.out.2.2.2.2.2.2⟩)
            try dsimp only at hHeld
            clear hK K
            try simp only [Act.put, List.setIfInBounds_toArray, List.set_cons_zero, List.set_cons_succ]
            refine wpAnyF_ready [10] (by kernel_rfl) (by simp) ?_
            refine AllReadyF.cons 10 (o := ⟨some 18, .alloc 46, 0, "more.go:129", #[], none⟩) rfl (fun K hK => ?g7ro11) ?g7rm11
            case g7rm11 => exact AllReadyF.nil
            go_simp; refine gen_w (fun X' hX => ?_); (have hbk := bel_nb HBW hX); (have rb := bel_nr HBW hX); (have hbg := HBW.size); (replace HBW := bt HBW hbk); clear hX hbk
            refine hK.out _ _ ?g7rs11 (fun hHeld => ?g7rt11)
            case g7rs11 => (try dsimp only); (first | exact ⟨cb (bt HBB18.out (b0 _).drew) HT.out.1, cb (bt HBB18.out (b0 _).drew) HT.out.2.1, cb (bt HBB18.out (b0 _).drew) HT.out.2.2.1, cb (bt HBB18.out (b0 _).drew) HT.out.2.2.2.1, cb (bt HBB18.out (b0 _).drew) HT.out.2.2.2.2.1, cb (bt HBB18.out (b0 _).drew) HT.out.2.2.2.2.2.1, cb (bt HBB18.out (b0 _).drew) HT.out.2.2.2.2.2.2⟩ | exact ⟨cb (bt HBB18.out HBW) HT.out.1, cb (bt HBB18.out HBW) HT.out.2.1, cb (bt HBB18.out HBW) HT.out.2.2.1, cb (bt HBB18.out HBW) HT.out.2.2.2.1, cb (bt HBB18.out HBW) HT.out.2.2.2.2.1, cb (bt HBB18.out HBW) HT.out.2.2.2.2.2.1, cb (bt HBB18.out HBW) HT.out.2.2.2.2.2.2⟩)
            try dsimp only at hHeld
            clear hK K
            try simp only [Act.put, List.setIfInBounds_toArray, List.set_cons_zero, List.set_cons_succ]
            refine wpAnyF_ready [11] (by kernel_rfl) (by simp) ?_
            refine AllReadyF.last 11 (o := ⟨none, .store 46 (.tmp 18) (.tmp 91), 0, "more.go:129", #[⟨10, .data⟩, ⟨9, .data⟩, ⟨9, .chain⟩, ⟨0, .phase⟩, ⟨1, .phase⟩, ⟨2, .phase⟩, ⟨3, .phase⟩, ⟨4, .phase⟩, ⟨5, .phase⟩, ⟨6, .phase⟩, ⟨7, .phase⟩, ⟨8, .phase⟩, ⟨9, .phase⟩, ⟨10, .phase⟩], none⟩) rfl (by kernel_rfl) (fun K hK => ?g7ro12) ?g7rm12
            case g7rm12 => exact AllReadyF.nil
            (have y0 := rb.cell 0); (have y1 := rb.cell 1); (have y2 := rb.cell 2); (have qf := rb.frozen); (have ql := rb.lt); (simp only [List.getElem?_toArray, List.getElem?_cons_zero, List.getElem?_cons_succ] at y0 y1 y2); go_simp; clear y0 y1 y2 qf ql
            refine hK.out _ _ ?_
            clear hK K
            try simp only [Act.put, List.setIfInBounds_toArray, List.set_cons_zero, List.set_cons_succ]
            refine wpAnyF_done (by kernel_rfl) ?_
            have rz := Rw.set3 rb (u0 := .slice p0 (cutC X (D : Int) (((k : Int) + 1)) ((k : Int))).r.length d0) (u1 := .slice p1 (cutC X (D : Int) (((k : Int) + 1)) ((k : Int))).d.length d1) (u2 := .slice p2 (cutC X (D : Int) (((k : Int) + 1)) ((k : Int))).v.length d2)
            have z0 := rz.cell 0
            simp only [List.getElem?_toArray, List.getElem?_cons_zero] at z0
            have HN := Lib.hid (show NonQ _ _ from ⟨_, _, _, z0, HL18.out⟩)
            have HBF := Lib.hid (bset3 HBW hbg (u0 := .slice p0 (cutC X (D : Int) (((k : Int) + 1)) ((k : Int))).r.length d0) (u1 := .slice p1 (cutC X (D : Int) (((k : Int) + 1)) ((k : Int))).d.length d1) (u2 := .slice p2 (cutC X (D : Int) (((k : Int) + 1)) ((k : Int))).v.length d2))
            clear rz z0 rb HBW hbg
            go_wp2_with fail
            go_meet
            case rel => exact ⟨_, rfl, HN, HBF⟩
          case g7rm10 =>
          refine AllReadyF.cons 10 (o := ⟨some 18, .alloc 46, 0, "more.go:129", #[], none⟩) rfl (fun K hK => ?g7ro13) ?g7rm13
          case g7ro13 =>
            go_simp; refine gen_w (fun X' hX => ?_); (have hbk := bel_nb HBW hX); (have rb := bel_nr HBW hX); (have hbg := HBW.size); (replace HBW := bt HBW hbk); clear hX hbk
            refine hK.out _ _ ?g7rs13 (fun hHeld => ?g7rt13)
            case g7rs13 => (try dsimp only); (first | exact ⟨cb (bt HBB18.out (b0 _).drew) HT.out.1, cb (bt HBB18.out (b0 _).drew) HT.out.2.1, cb (bt HBB18.out (b0 _).drew) HT.out.2.2.1, cb (bt HBB18.out (b0 _).drew) HT.out.2.2.2.1, cb (bt HBB18.out (b0 _).drew) HT.out.2.2.2.2.1, cb (bt HBB18.out (b0 _).drew) HT.out.2.2.2.2.2.1, cb (bt HBB18.out (b0 _).drew) HT.out.2.2.2.2.2.2⟩ | exact ⟨cb (bt HBB18.out HBW) HT.out.1, cb (bt HBB18.out HBW) HT.out.2.1, cb (bt HBB18.out HBW) HT.out.2.2.1, cb (bt HBB18.out HBW) HT.out.2.2.2.1, cb (bt HBB18.out HBW) HT.out.2.2.2.2.1, cb (bt HBB18.out HBW) HT.out.2.2.2.2.2.1, cb (bt HBB18.out HBW) HT.out.2.2.2.2.2.2⟩)
            try dsimp only at hHeld
            clear hK K
            try simp only [Act.put, List.setIfInBounds_toArray, List.set_cons_zero, List.set_cons_succ]
            refine wpAnyF_ready [9] (by kernel_rfl) (by simp) ?_
            refine AllReadyF.cons 9 (o := ⟨some 91, .call { callee := .value (.func 26), args := #[.tmp 84, .tmp 87, .tmp 89, .tmp 90], argTypes := #[46, 48, 3, 3] }, 46, "more.go:129", #[⟨2, .data⟩, ⟨5, .data⟩, ⟨7, .data⟩, ⟨8, .data⟩], none⟩) rfl (fun K hK => ?g7ro14) ?g7rm14
            case g7rm14 => exact AllReadyF.nil
            go_simp; refine (HCUT.out _ (bt HBB18.out HBW) (((k : Int) + 1)) ((k : Int))).mono ?_; rintro e w2 ⟨p0, d0, p1, d1, p2, d2, rfl, _, hbk⟩; dsimp only;  (replace rb := rb.below hbk) ; (replace HBW := bt HBW hbk); clear hbk
            refine hK.out _ _ ?g7rs14 (fun hHeld => ?g7rt14)
            case g7rs14 => (try dsimp only); (first | exact ⟨cb (bt HBB18.out (b0 _).drew) HT.out.1, cb (bt HBB18.out (b0 _).drew) HT.out.2.1, cb (bt HBB18.out (b0 _).drew) HT.out.2.2.1, cb (bt HBB18.out (b0 _).drew) HT.out.2.2.2.1, cb (bt HBB18.out (b0 _).drew) HT.out.2.2.2.2.1, cb (bt HBB18.out (b0 _).drew) HT.out.2.2.2.2.2.1, cb (bt HBB18.out (b0 _).drew) HT.out.2.2.2.2.2.2⟩ | exact ⟨cb (bt HBB18.out HBW) HT.out.1, cb (bt HBB18.out HBW) HT.out.2.1, cb (bt HBB18.out HBW) HT.out.2.2.1, cb (bt HBB18.out HBW) HT.out.2.2.2.1, cb (bt HBB18.out HBW) HT.out.2.2.2.2.1, cb (bt HBB18.out HBW) HT.out.2.2.2.2.2.1, cb (bt HBB18.out HBW) HT.out.2.2.2.2.2.2⟩)
            try dsimp only at hHeld
            clear hK K
            try simp only [Act.put, List.setIfInBounds_toArray, List.set_cons_zero, List.set_cons_succ]
            refine wpAnyF_ready [11] (by kernel_rfl) (by simp) ?_
            refine AllReadyF.last 11 (o := ⟨none, .store 46 (.tmp 18) (.tmp 91), 0, "more.go:129", #[⟨10, .data⟩, ⟨9, .data⟩, ⟨9, .chain⟩, ⟨0, .phase⟩, ⟨1, .phase⟩, ⟨2, .phase⟩, ⟨3, .phase⟩, ⟨4, .phase⟩, ⟨5, .phase⟩, ⟨6, .phase⟩, ⟨7, .phase⟩, ⟨8, .phase⟩, ⟨9, .phase⟩, ⟨10, .phase⟩], none⟩) rfl (by kernel_rfl) (fun K hK => ?g7ro15) ?g7rm15
            case g7rm15 => exact AllReadyF.nil
            (have y0 := rb.cell 0); (have y1 := rb.cell 1); (have y2 := rb.cell 2); (have qf := rb.frozen); (have ql := rb.lt); (simp only [List.getElem?_toArray, List.getElem?_cons_zero, List.getElem?_cons_succ] at y0 y1 y2); go_simp; clear y0 y1 y2 qf ql
            refine hK.out _ _ ?_
            clear hK K
            try simp only [Act.put, List.setIfInBounds_toArray, List.set_cons_zero, List.set_cons_succ]
            refine wpAnyF_done (by kernel_rfl) ?_
            have rz := Rw.set3 rb (u0 := .slice p0 (cutC X (D : Int) (((k : Int) + 1)) ((k : Int))).r.length d0) (u1 := .slice p1 (cutC X (D : Int) (((k : Int) + 1)) ((k : Int))).d.length d1) (u2 := .slice p2 (cutC X (D : Int) (((k : Int) + 1)) ((k : Int))).v.length d2)
            have z0 := rz.cell 0
            simp only [List.getElem?_toArray, List.getElem?_cons_zero] at z0
            have HN := Lib.hid (show NonQ _ _ from ⟨_, _, _, z0, HL18.out⟩)
            have HBF := Lib.hid (bset3 HBW hbg (u0 := .slice p0 (cutC X (D : Int) (((k : Int) + 1)) ((k : Int))).r.length d0) (u1 := .slice p1 (cutC X (D : Int) (((k : Int) + 1)) ((k : Int))).d.length d1) (u2 := .slice p2 (cutC X (D : Int) (((k : Int) + 1)) ((k : Int))).v.length d2))
            clear rz z0 rb HBW hbg
            go_wp2_with fail
            go_meet
            case rel => exact ⟨_, rfl, HN, HBF⟩
          case g7rm13 =>
          exact AllReadyF.nil
        case rest =>
          obtain ⟨b18, rfl, HN18, HBX18⟩ := hcut
          obtain ⟨w18, hw18⟩ : ∃ W : World, W = wc := ⟨_, rfl⟩
          subst hw18
          have HBB : Hid (Below w5.heap.size w5 w18) := Lib.hid (bt HBB18.out HBX18.out)
          replace HN15 := Lib.hid (HN15.out.below HBX18.out)
          replace HN16 := Lib.hid (HN16.out.below HBX18.out)
          replace HN17 := Lib.hid (HN17.out.below HBX18.out)
          obtain ⟨p15, m15, d15, x15, e15⟩ := HN15.out
          obtain ⟨p16, m16, d16, x16, e16⟩ := HN16.out
          obtain ⟨p17, m17, d17, x17, e17⟩ := HN17.out
          obtain ⟨p18, m18, d18, x18, e18⟩ := HN18.out
          subst e15 e16 e17 e18
          have HZ := Lib.hid (And.intro x15 (And.intro x16 (And.intro x17 x18)))
          have HC0 := Lib.hid (fun (W : World) (hW : Below w5.heap.size w5 W) => HCUT.out W hW 0 (n : Int))
          have hc0 := HC0.out
          rw [HCOLX.out.whole] at hc0
          have HC1 := Lib.hid hc0
          clear hc0 x15 x16 x17 x18
          go_upto_region 14 with fail
          refine wp_region_F (fun w' => (w'.cell? ⟨bc, 0, none⟩ = some (.slice (aa 0) X.r.length (cc 0)) ∧ w'.cell? ⟨bc, 1, none⟩ = some (.slice (aa 1) X.d.length (cc 1)) ∧ w'.cell? ⟨bc, 2, none⟩ = some (.slice (aa 2) X.v.length (cc 2)) ∧ w'.cell? ⟨gL, 0, none⟩ = some (.int .i64 (lf : Int)) ∧ w'.cell? ⟨gL, 1, none⟩ = some (.int .i64 (R0 : Int)) ∧ w'.cell? ⟨gL, 2, none⟩ = some (.int .i64 (D : Int)) ∧ w'.cell? ⟨gL, 3, none⟩ = some (.int .i64 K0)) ∧ w'.cell? ⟨b15, 0, none⟩ = some (.slice p15 0 d15) ∧ w'.cell? ⟨b16, 0, none⟩ = some (.slice p16 0 d16) ∧ w'.cell? ⟨b17, 0, none⟩ = some (.slice p17 0 d17) ∧ w'.cell? ⟨b18, 0, none⟩ = some (.slice p18 0 d18)) [37] (by kernel_rfl) ?g8rgS (fun hHeld => ?g8rgR)
          case g8rgS => (try dsimp only); (first | exact ⟨⟨cb (bt HBB.out HBW) HT.out.1, cb (bt HBB.out HBW) HT.out.2.1, cb (bt HBB.out HBW) HT.out.2.2.1, cb (bt HBB.out HBW) HT.out.2.2.2.1, cb (bt HBB.out HBW) HT.out.2.2.2.2.1, cb (bt HBB.out HBW) HT.out.2.2.2.2.2.1, cb (bt HBB.out HBW) HT.out.2.2.2.2.2.2⟩, cb HBW HZ.out.1, cb HBW HZ.out.2.1, cb HBW HZ.out.2.2.1, cb HBW HZ.out.2.2.2⟩ | exact ⟨⟨cb (bt HBB.out (b0 w18).drew) HT.out.1, cb (bt HBB.out (b0 w18).drew) HT.out.2.1, cb (bt HBB.out (b0 w18).drew) HT.out.2.2.1, cb (bt HBB.out (b0 w18).drew) HT.out.2.2.2.1, cb (bt HBB.out (b0 w18).drew) HT.out.2.2.2.2.1, cb (bt HBB.out (b0 w18).drew) HT.out.2.2.2.2.2.1, cb (bt HBB.out (b0 w18).drew) HT.out.2.2.2.2.2.2⟩, cb (b0 w18).drew HZ.out.1, cb (b0 w18).drew HZ.out.2.1, cb (b0 w18).drew HZ.out.2.2.1, cb (b0 w18).drew HZ.out.2.2.2⟩)
          try dsimp only at hHeld
          (have HBW : Below w18.heap.size w18 w18.drew := (b0 w18).drew)
          refine wpAnyF_take 0 (oi := ⟨some 92, .fieldAddr 46 (.tmp 15) 0, 0, "more.go:130", #[], none⟩) (v := ?g8rv1) rfl (by kernel_rfl) (fun _ _ _ h => h) (by assumption) (by rfl) ?g8ry1 ?g8rr1
          case g8ry1 => intro w hSw; obtain ⟨⟨s0, s1, s2, s3, s4, s5, s6⟩, s7, s8, s9, s10⟩ := hSw; go_simp; try with_reducible rfl
          try simp only [Act.put, List.setIfInBounds_toArray, List.set_cons_zero, List.set_cons_succ]
          refine wpAnyF_take 1 (oi := ⟨some 93, .load 22 (.tmp 92), 22, "more.go:130", #[⟨0, .data⟩], none⟩) (v := ?g8rv2) rfl (by kernel_rfl) (fun _ _ _ h => h) (by assumption) (by rfl) ?g8ry2 ?g8rr2
          case g8ry2 => intro w hSw; obtain ⟨⟨s0, s1, s2, s3, s4, s5, s6⟩, s7, s8, s9, s10⟩ := hSw; go_simp; try with_reducible rfl
          try simp only [Act.put, List.setIfInBounds_toArray, List.set_cons_zero, List.set_cons_succ]
          refine wpAnyF_take 2 (oi := ⟨some 94, .call { callee := .builtin .len, args := #[.tmp 93], argTypes := #[22] }, 3, "more.go:130", #[⟨1, .data⟩], none⟩) (v := ?g8rv3) rfl (by kernel_rfl) (fun _ _ _ h => h) (by assumption) (by rfl) ?g8ry3 ?g8rr3
          case g8ry3 => intro w hSw; obtain ⟨⟨s0, s1, s2, s3, s4, s5, s6⟩, s7, s8, s9, s10⟩ := hSw; go_simp; try with_reducible rfl
          try simp only [Act.put, List.setIfInBounds_toArray, List.set_cons_zero, List.set_cons_succ]
          refine wpAnyF_take 3 (oi := ⟨some 95, .binOp .eql 3 (.tmp 94) (.const (.int .i64 0)) 3, 4, "more.go:130", #[⟨2, .data⟩], none⟩) (v := ?g8rv4) rfl (by kernel_rfl) (fun _ _ _ h => h) (by assumption) (by rfl) ?g8ry4 ?g8rr4
          case g8ry4 => intro w hSw; obtain ⟨⟨s0, s1, s2, s3, s4, s5, s6⟩, s7, s8, s9, s10⟩ := hSw; go_simp; try with_reducible rfl
          try simp only [Act.put, List.setIfInBounds_toArray, List.set_cons_zero, List.set_cons_succ]
          refine wpAnyF_take 4 (oi := ⟨some 96, .move (.tmp 95), 4, "more.go:130", #[⟨3, .data⟩], none⟩) (v := ?g8rv5) rfl (by kernel_rfl) (fun _ _ _ h => h) (by assumption) (by rfl) ?g8ry5 ?g8rr5
          case g8ry5 => intro w hSw; obtain ⟨⟨s0, s1, s2, s3, s4, s5, s6⟩, s7, s8, s9, s10⟩ := hSw; go_simp; try with_reducible rfl
          try simp only [Act.put, List.setIfInBounds_toArray, List.set_cons_zero, List.set_cons_succ]
          first
            | refine wpAnyF_skip 5 (oi := ⟨some 97, .fieldAddr 46 (.tmp 16) 0, 0, "more.go:130", #[⟨4, .guard⟩], some (4, true)⟩) rfl (by kernel_rfl) (fun _ _ _ h => h) (by assumption) (by rfl) ?_
            | (refine wpAnyF_take 5 (oi := ⟨some 97, .fieldAddr 46 (.tmp 16) 0, 0, "more.go:130", #[⟨4, .guard⟩], some (4, true)⟩) (v := ?g8rv6) rfl (by kernel_rfl) (fun _ _ _ h => h) (by assumption) (by rfl) ?g8ry6 ?g8rr6
               case g8ry6 => intro w hSw; obtain ⟨⟨s0, s1, s2, s3, s4, s5, s6⟩, s7, s8, s9, s10⟩ := hSw; go_simp; try with_reducible rfl)
          try simp only [Act.put, List.setIfInBounds_toArray, List.set_cons_zero, List.set_cons_succ]
          first
            | refine wpAnyF_skip 6 (oi := ⟨some 98, .load 22 (.tmp 97), 22, "more.go:130", #[⟨5, .data⟩, ⟨4, .guard⟩], some (4, true)⟩) rfl (by kernel_rfl) (fun _ _ _ h => h) (by assumption) (by rfl) ?_
            | (refine wpAnyF_take 6 (oi := ⟨some 98, .load 22 (.tmp 97), 22, "more.go:130", #[⟨5, .data⟩, ⟨4, .guard⟩], some (4, true)⟩) (v := ?g8rv7) rfl (by kernel_rfl) (fun _ _ _ h => h) (by assumption) (by rfl) ?g8ry7 ?g8rr7
               case g8ry7 => intro w hSw; obtain ⟨⟨s0, s1, s2, s3, s4, s5, s6⟩, s7, s8, s9, s10⟩ := hSw; go_simp; try with_reducible rfl)
          try simp only [Act.put, List.setIfInBounds_toArray, List.set_cons_zero, List.set_cons_succ]
          first
            | refine wpAnyF_skip 7 (oi := ⟨some 99, .call { callee := .builtin .len, args := #[.tmp 98], argTypes := #[22] }, 3, "more.go:130", #[⟨6, .data⟩, ⟨4, .guard⟩], some (4, true)⟩) rfl (by kernel_rfl) (fun _ _ _ h => h) (by assumption) (by rfl) ?_
            | (refine wpAnyF_take 7 (oi := ⟨some 99, .call { callee := .builtin .len, args := #[.tmp 98], argTypes := #[22] }, 3, "more.go:130", #[⟨6, .data⟩, ⟨4, .guard⟩], some (4, true)⟩) (v := ?g8rv8) rfl (by kernel_rfl) (fun _ _ _ h => h) (by assumption) (by rfl) ?g8ry8 ?g8rr8
               case g8ry8 => intro w hSw; obtain ⟨⟨s0, s1, s2, s3, s4, s5, s6⟩, s7, s8, s9, s10⟩ := hSw; go_simp; try with_reducible rfl)
          try simp only [Act.put, List.setIfInBounds_toArray, List.set_cons_zero, List.set_cons_succ]
          first
            | refine wpAnyF_skip 8 (oi := ⟨some 100, .binOp .eql 3 (.tmp 99) (.const (.int .i64 0)) 3, 4, "more.go:130", #[⟨7, .data⟩, ⟨4, .guard⟩], some (4, true)⟩) rfl (by kernel_rfl) (fun _ _ _ h => h) (by assumption) (by rfl) ?_
            | (refine wpAnyF_take 8 (oi := ⟨some 100, .binOp .eql 3 (.tmp 99) (.const (.int .i64 0)) 3, 4, "more.go:130", #[⟨7, .data⟩, ⟨4, .guard⟩], some (4, true)⟩) (v := ?g8rv9) rfl (by kernel_rfl) (fun _ _ _ h => h) (by assumption) (by rfl) ?g8ry9 ?g8rr9
               case g8ry9 => intro w hSw; obtain ⟨⟨s0, s1, s2, s3, s4, s5, s6⟩, s7, s8, s9, s10⟩ := hSw; go_simp; try with_reducible rfl)
          try simp only [Act.put, List.setIfInBounds_toArray, List.set_cons_zero, List.set_cons_succ]
          refine wpAnyF_take 9 (oi := ⟨some 101, .pick (.tmp 96) (.tmp 100) (.const (.bool false)), 4, "more.go:130", #[⟨4, .data⟩, ⟨8, .data⟩], none⟩) (v := ?g8rv10) rfl (by kernel_rfl) (fun _ _ _ h => h) (by assumption) (by rfl) ?g8ry10 ?g8rr10
          case g8ry10 => intro w hSw; obtain ⟨⟨s0, s1, s2, s3, s4, s5, s6⟩, s7, s8, s9, s10⟩ := hSw; go_simp; try with_reducible rfl
          try simp only [Act.put, List.setIfInBounds_toArray, List.set_cons_zero, List.set_cons_succ]
          refine wpAnyF_take 10 (oi := ⟨some 102, .move (.tmp 101), 4, "more.go:130", #[⟨9, .data⟩, ⟨4, .chain⟩], none⟩) (v := ?g8rv11) rfl (by kernel_rfl) (fun _ _ _ h => h) (by assumption) (by rfl) ?g8ry11 ?g8rr11
          case g8ry11 => intro w hSw; obtain ⟨⟨s0, s1, s2, s3, s4, s5, s6⟩, s7, s8, s9, s10⟩ := hSw; go_simp; try with_reducible rfl
          try simp only [Act.put, List.setIfInBounds_toArray, List.set_cons_zero, List.set_cons_succ]
          first
            | refine wpAnyF_skip 11 (oi := ⟨some 103, .fieldAddr 46 (.tmp 17) 0, 0, "more.go:130", #[⟨10, .guard⟩], some (10, true)⟩) rfl (by kernel_rfl) (fun _ _ _ h => h) (by assumption) (by rfl) ?_
            | (refine wpAnyF_take 11 (oi := ⟨some 103, .fieldAddr 46 (.tmp 17) 0, 0, "more.go:130", #[⟨10, .guard⟩], some (10, true)⟩) (v := ?g8rv12) rfl (by kernel_rfl) (fun _ _ _ h => h) (by assumption) (by rfl) ?g8ry12 ?g8rr12
               case g8ry12 => intro w hSw; obtain ⟨⟨s0, s1, s2, s3, s4, s5, s6⟩, s7, s8, s9, s10⟩ := hSw; go_simp; try with_reducible rfl)
          try simp only [Act.put, List.setIfInBounds_toArray, List.set_cons_zero, List.set_cons_succ]
          first
            | refine wpAnyF_skip 12 (oi := ⟨some 104, .load 22 (.tmp 103), 22, "more.go:130", #[⟨11, .data⟩, ⟨10, .guard⟩], some (10, true)⟩) rfl (by kernel_rfl) (fun _ _ _ h => h) (by assumption) (by rfl) ?_
            | (refine wpAnyF_take 12 (oi := ⟨some 104, .load 22 (.tmp 103), 22, "more.go:130", #[⟨11, .data⟩, ⟨10, .guard⟩], some (10, true)⟩) (v := ?g8rv13) rfl (by kernel_rfl) (fun _ _ _ h => h) (by assumption) (by rfl) ?g8ry13 ?g8rr13
               case g8ry13 => intro w hSw; obtain ⟨⟨s0, s1, s2, s3, s4, s5, s6⟩, s7, s8, s9, s10⟩ := hSw; go_simp; try with_reducible rfl)
          try simp only [Act.put, List.setIfInBounds_toArray, List.set_cons_zero, List.set_cons_succ]
          first
            | refine wpAnyF_skip 13 (oi := ⟨some 105, .call { callee := .builtin .len, args := #[.tmp 104], argTypes := #[22] }, 3, "more.go:130", #[⟨12, .data⟩, ⟨10, .guard⟩], some (10, true)⟩) rfl (by kernel_rfl) (fun _ _ _ h => h) (by assumption) (by rfl) ?_
            | (refine wpAnyF_take 13 (oi := ⟨some 105, .call { callee := .builtin .len, args := #[.tmp 104], argTypes := #[22] }, 3, "more.go:130", #[⟨12, .data⟩, ⟨10, .guard⟩], some (10, true)⟩) (v := ?g8rv14) rfl (by kernel_rfl) (fun _ _ _ h => h) (by assumption) (by rfl) ?g8ry14 ?g8rr14
               case g8ry14 => intro w hSw; obtain ⟨⟨s0, s1, s2, s3, s4, s5, s6⟩, s7, s8, s9, s10⟩ := hSw; go_simp; try with_reducible rfl)
          try simp only [Act.put, List.setIfInBounds_toArray, List.set_cons_zero, List.set_cons_succ]
          first
            | refine wpAnyF_skip 14 (oi := ⟨some 106, .binOp .eql 3 (.tmp 105) (.const (.int .i64 0)) 3, 4, "more.go:130", #[⟨13, .data⟩, ⟨10, .guard⟩], some (10, true)⟩) rfl (by kernel_rfl) (fun _ _ _ h => h) (by assumption) (by rfl) ?_
            | (refine wpAnyF_take 14 (oi := ⟨some 106, .binOp .eql 3 (.tmp 105) (.const (.int .i64 0)) 3, 4, "more.go:130", #[⟨13, .data⟩, ⟨10, .guard⟩], some (10, true)⟩) (v := ?g8rv15) rfl (by kernel_rfl) (fun _ _ _ h => h) (by assumption) (by rfl) ?g8ry15 ?g8rr15
               case g8ry15 => intro w hSw; obtain ⟨⟨s0, s1, s2, s3, s4, s5, s6⟩, s7, s8, s9, s10⟩ := hSw; go_simp; try with_reducible rfl)
          try simp only [Act.put, List.setIfInBounds_toArray, List.set_cons_zero, List.set_cons_succ]
          refine wpAnyF_take 15 (oi := ⟨some 107, .pick (.tmp 102) (.tmp 106) (.const (.bool false)), 4, "more.go:130", #[⟨10, .data⟩, ⟨14, .data⟩], none⟩) (v := ?g8rv16) rfl (by kernel_rfl) (fun _ _ _ h => h) (by assumption) (by rfl) ?g8ry16 ?g8rr16
          case g8ry16 => intro w hSw; obtain ⟨⟨s0, s1, s2, s3, s4, s5, s6⟩, s7, s8, s9, s10⟩ := hSw; go_simp; try with_reducible rfl
          try simp only [Act.put, List.setIfInBounds_toArray, List.set_cons_zero, List.set_cons_succ]
          refine wpAnyF_take 16 (oi := ⟨some 108, .move (.tmp 107), 4, "more.go:130", #[⟨15, .data⟩, ⟨10, .chain⟩], none⟩) (v := ?g8rv17) rfl (by kernel_rfl) (fun _ _ _ h => h) (by assumption) (by rfl) ?g8ry17 ?g8rr17
          case g8ry17 => intro w hSw; obtain ⟨⟨s0, s1, s2, s3, s4, s5, s6⟩, s7, s8, s9, s10⟩ := hSw; go_simp; try with_reducible rfl
          try simp only [Act.put, List.setIfInBounds_toArray, List.set_cons_zero, List.set_cons_succ]
          first
            | refine wpAnyF_skip 17 (oi := ⟨some 109, .fieldAddr 46 (.tmp 18) 0, 0, "more.go:130", #[⟨16, .guard⟩], some (16, true)⟩) rfl (by kernel_rfl) (fun _ _ _ h => h) (by assumption) (by rfl) ?_
            | (refine wpAnyF_take 17 (oi := ⟨some 109, .fieldAddr 46 (.tmp 18) 0, 0, "more.go:130", #[⟨16, .guard⟩], some (16, true)⟩) (v := ?g8rv18) rfl (by kernel_rfl) (fun _ _ _ h => h) (by assumption) (by rfl) ?g8ry18 ?g8rr18
               case g8ry18 => intro w hSw; obtain ⟨⟨s0, s1, s2, s3, s4, s5, s6⟩, s7, s8, s9, s10⟩ := hSw; go_simp; try with_reducible rfl)
          try simp only [Act.put, List.setIfInBounds_toArray, List.set_cons_zero, List.set_cons_succ]
          first
            | refine wpAnyF_skip 18 (oi := ⟨some 110, .load 22 (.tmp 109), 22, "more.go:130", #[⟨17, .data⟩, ⟨16, .guard⟩], some (16, true)⟩) rfl (by kernel_rfl) (fun _ _ _ h => h) (by assumption) (by rfl) ?_
            | (refine wpAnyF_take 18 (oi := ⟨some 110, .load 22 (.tmp 109), 22, "more.go:130", #[⟨17, .data⟩, ⟨16, .guard⟩], some (16, true)⟩) (v := ?g8rv19) rfl (by kernel_rfl) (fun _ _ _ h => h) (by assumption) (by rfl) ?g8ry19 ?g8rr19
               case g8ry19 => intro w hSw; obtain ⟨⟨s0, s1, s2, s3, s4, s5, s6⟩, s7, s8, s9, s10⟩ := hSw; go_simp; try with_reducible rfl)
          try simp only [Act.put, List.setIfInBounds_toArray, List.set_cons_zero, List.set_cons_succ]
          first
            | refine wpAnyF_skip 19 (oi := ⟨some 111, .call { callee := .builtin .len, args := #[.tmp 110], argTypes := #[22] }, 3, "more.go:130", #[⟨18, .data⟩, ⟨16, .guard⟩], some (16, true)⟩) rfl (by kernel_rfl) (fun _ _ _ h => h) (by assumption) (by rfl) ?_
            | (refine wpAnyF_take 19 (oi := ⟨some 111, .call { callee := .builtin .len, args := #[.tmp 110], argTypes := #[22] }, 3, "more.go:130", #[⟨18, .data⟩, ⟨16, .guard⟩], some (16, true)⟩) (v := ?g8rv20) rfl (by kernel_rfl) (fun _ _ _ h => h) (by assumption) (by rfl) ?g8ry20 ?g8rr20
               case g8ry20 => intro w hSw; obtain ⟨⟨s0, s1, s2, s3, s4, s5, s6⟩, s7, s8, s9, s10⟩ := hSw; go_simp; try with_reducible rfl)
          try simp only [Act.put, List.setIfInBounds_toArray, List.set_cons_zero, List.set_cons_succ]
          first
            | refine wpAnyF_skip 20 (oi := ⟨some 112, .binOp .eql 3 (.tmp 111) (.const (.int .i64 0)) 3, 4, "more.go:130", #[⟨19, .data⟩, ⟨16, .guard⟩], some (16, true)⟩) rfl (by kernel_rfl) (fun _ _ _ h => h) (by assumption) (by rfl) ?_
            | (refine wpAnyF_take 20 (oi := ⟨some 112, .binOp .eql 3 (.tmp 111) (.const (.int .i64 0)) 3, 4, "more.go:130", #[⟨19, .data⟩, ⟨16, .guard⟩], some (16, true)⟩) (v := ?g8rv21) rfl (by kernel_rfl) (fun _ _ _ h => h) (by assumption) (by rfl) ?g8ry21 ?g8rr21
               case g8ry21 => intro w hSw; obtain ⟨⟨s0, s1, s2, s3, s4, s5, s6⟩, s7, s8, s9, s10⟩ := hSw; go_simp; try with_reducible rfl)
          try simp only [Act.put, List.setIfInBounds_toArray, List.set_cons_zero, List.set_cons_succ]
          refine wpAnyF_take 21 (oi := ⟨some 113, .pick (.tmp 108) (.tmp 112) (.const (.bool false)), 4, "more.go:130", #[⟨16, .data⟩, ⟨20, .data⟩], none⟩) (v := ?g8rv22) rfl (by kernel_rfl) (fun _ _ _ h => h) (by assumption) (by rfl) ?g8ry22 ?g8rr22
          case g8ry22 => intro w hSw; obtain ⟨⟨s0, s1, s2, s3, s4, s5, s6⟩, s7, s8, s9, s10⟩ := hSw; go_simp; try with_reducible rfl
          try simp only [Act.put, List.setIfInBounds_toArray, List.set_cons_zero, List.set_cons_succ]
          refine wpAnyF_take 22 (oi := ⟨some 114, .move (.tmp 113), 4, "more.go:130", #[⟨21, .data⟩, ⟨16, .chain⟩], none⟩) (v := ?g8rv23) rfl (by kernel_rfl) (fun _ _ _ h => h) (by assumption) (by rfl) ?g8ry23 ?g8rr23
          case g8ry23 => intro w hSw; obtain ⟨⟨s0, s1, s2, s3, s4, s5, s6⟩, s7, s8, s9, s10⟩ := hSw; go_simp; try with_reducible rfl
          try simp only [Act.put, List.setIfInBounds_toArray, List.set_cons_zero, List.set_cons_succ]
          first
            | refine wpAnyF_skip 23 (oi := ⟨some 115, .move (.tmp 11), 34, "more.go:130", #[⟨22, .guard⟩], some (22, true)⟩) rfl (by kernel_rfl) (fun _ _ _ h => h) (by assumption) (by rfl) ?_
            | (refine wpAnyF_take 23 (oi := ⟨some 115, .move (.tmp 11), 34, "more.go:130", #[⟨22, .guard⟩], some (22, true)⟩) (v := ?g8rv24) rfl (by kernel_rfl) (fun _ _ _ h => h) (by assumption) (by rfl) ?g8ry24 ?g8rr24
               case g8ry24 => intro w hSw; obtain ⟨⟨s0, s1, s2, s3, s4, s5, s6⟩, s7, s8, s9, s10⟩ := hSw; go_simp; try with_reducible rfl)
          try simp only [Act.put, List.setIfInBounds_toArray, List.set_cons_zero, List.set_cons_succ]
          first
            | refine wpAnyF_skip 24 (oi := ⟨some 116, .indexAddr 34 (.tmp 115) (.const (.int .i64 0)), 0, "more.go:130", #[⟨23, .data⟩, ⟨22, .guard⟩], some (22, true)⟩) rfl (by kernel_rfl) (fun _ _ _ h => h) (by assumption) (by rfl) ?_
            | (refine wpAnyF_take 24 (oi := ⟨some 116, .indexAddr 34 (.tmp 115) (.const (.int .i64 0)), 0, "more.go:130", #[⟨23, .data⟩, ⟨22, .guard⟩], some (22, true)⟩) (v := ?g8rv25) rfl (by kernel_rfl) (fun _ _ _ h => h) (by assumption) (by rfl) ?g8ry25 ?g8rr25
               case g8ry25 => intro w hSw; obtain ⟨⟨s0, s1, s2, s3, s4, s5, s6⟩, s7, s8, s9, s10⟩ := hSw; go_simp; try with_reducible rfl)
          try simp only [Act.put, List.setIfInBounds_toArray, List.set_cons_zero, List.set_cons_succ]
          first
            | refine wpAnyF_skip 25 (oi := ⟨some 117, .load 46 (.tmp 116), 46, "more.go:130", #[⟨24, .data⟩, ⟨22, .guard⟩], some (22, true)⟩) rfl (by kernel_rfl) (fun _ _ _ h => h) (by assumption) (by rfl) ?_
            | (refine wpAnyF_take 25 (oi := ⟨some 117, .load 46 (.tmp 116), 46, "more.go:130", #[⟨24, .data⟩, ⟨22, .guard⟩], some (22, true)⟩) (v := ?g8rv26) rfl (by kernel_rfl) (fun _ _ _ h => h) (by assumption) (by rfl) ?g8ry26 ?g8rr26
               case g8ry26 => intro w hSw; obtain ⟨⟨s0, s1, s2, s3, s4, s5, s6⟩, s7, s8, s9, s10⟩ := hSw; go_simp; try with_reducible rfl)
          try simp only [Act.put, List.setIfInBounds_toArray, List.set_cons_zero, List.set_cons_succ]
          first
            | refine wpAnyF_skip 26 (oi := ⟨some 118, .move (.tmp 13), 42, "more.go:130", #[⟨22, .guard⟩], some (22, true)⟩) rfl (by kernel_rfl) (fun _ _ _ h => h) (by assumption) (by rfl) ?_
            | (refine wpAnyF_take 26 (oi := ⟨some 118, .move (.tmp 13), 42, "more.go:130", #[⟨22, .guard⟩], some (22, true)⟩) (v := ?g8rv27) rfl (by kernel_rfl) (fun _ _ _ h => h) (by assumption) (by rfl) ?g8ry27 ?g8rr27
               case g8ry27 => intro w hSw; obtain ⟨⟨s0, s1, s2, s3, s4, s5, s6⟩, s7, s8, s9, s10⟩ := hSw; go_simp; try with_reducible rfl)
          try simp only [Act.put, List.setIfInBounds_toArray, List.set_cons_zero, List.set_cons_succ]
          first
            | refine wpAnyF_skip 27 (oi := ⟨some 119, .indexAddr 42 (.tmp 118) (.const (.int .i64 0)), 0, "more.go:130", #[⟨26, .data⟩, ⟨22, .guard⟩], some (22, true)⟩) rfl (by kernel_rfl) (fun _ _ _ h => h) (by assumption) (by rfl) ?_
            | (refine wpAnyF_take 27 (oi := ⟨some 119, .indexAddr 42 (.tmp 118) (.const (.int .i64 0)), 0, "more.go:130", #[⟨26, .data⟩, ⟨22, .guard⟩], some (22, true)⟩) (v := ?g8rv28) rfl (by kernel_rfl) (fun _ _ _ h => h) (by assumption) (by rfl) ?g8ry28 ?g8rr28
               case g8ry28 => intro w hSw; obtain ⟨⟨s0, s1, s2, s3, s4, s5, s6⟩, s7, s8, s9, s10⟩ := hSw; go_simp; try with_reducible rfl)
          try simp only [Act.put, List.setIfInBounds_toArray, List.set_cons_zero, List.set_cons_succ]
          first
            | refine wpAnyF_skip 28 (oi := ⟨some 120, .load 48 (.tmp 119), 48, "more.go:130", #[⟨27, .data⟩, ⟨22, .guard⟩], some (22, true)⟩) rfl (by kernel_rfl) (fun _ _ _ h => h) (by assumption) (by rfl) ?_
            | (refine wpAnyF_take 28 (oi := ⟨some 120, .load 48 (.tmp 119), 48, "more.go:130", #[⟨27, .data⟩, ⟨22, .guard⟩], some (22, true)⟩) (v := ?g8rv29) rfl (by kernel_rfl) (fun _ _ _ h => h) (by assumption) (by rfl) ?g8ry29 ?g8rr29
               case g8ry29 => intro w hSw; obtain ⟨⟨s0, s1, s2, s3, s4, s5, s6⟩, s7, s8, s9, s10⟩ := hSw; go_simp; try with_reducible rfl)
          try simp only [Act.put, List.setIfInBounds_toArray, List.set_cons_zero, List.set_cons_succ]
          first
            | refine wpAnyF_skip 29 (oi := ⟨some 121, .move (.tmp 10), 24, "more.go:130", #[⟨22, .guard⟩], some (22, true)⟩) rfl (by kernel_rfl) (fun _ _ _ h => h) (by assumption) (by rfl) ?_
            | (refine wpAnyF_take 29 (oi := ⟨some 121, .move (.tmp 10), 24, "more.go:130", #[⟨22, .guard⟩], some (22, true)⟩) (v := ?g8rv30) rfl (by kernel_rfl) (fun _ _ _ h => h) (by assumption) (by rfl) ?g8ry30 ?g8rr30
               case g8ry30 => intro w hSw; obtain ⟨⟨s0, s1, s2, s3, s4, s5, s6⟩, s7, s8, s9, s10⟩ := hSw; go_simp; try with_reducible rfl)
          try simp only [Act.put, List.setIfInBounds_toArray, List.set_cons_zero, List.set_cons_succ]
          first
            | refine wpAnyF_skip 30 (oi := ⟨some 122, .call { callee := .builtin .len, args := #[.tmp 121], argTypes := #[24] }, 3, "more.go:130", #[⟨29, .data⟩, ⟨22, .guard⟩], some (22, true)⟩) rfl (by kernel_rfl) (fun _ _ _ h => h) (by assumption) (by rfl) ?_
            | (refine wpAnyF_take 30 (oi := ⟨some 122, .call { callee := .builtin .len, args := #[.tmp 121], argTypes := #[24] }, 3, "more.go:130", #[⟨29, .data⟩, ⟨22, .guard⟩], some (22, true)⟩) (v := ?g8rv31) rfl (by kernel_rfl) (fun _ _ _ h => h) (by assumption) (by rfl) ?g8ry31 ?g8rr31
               case g8ry31 => intro w hSw; obtain ⟨⟨s0, s1, s2, s3, s4, s5, s6⟩, s7, s8, s9, s10⟩ := hSw; go_simp; try with_reducible rfl)
          try simp only [Act.put, List.setIfInBounds_toArray, List.set_cons_zero, List.set_cons_succ]
          first
            | refine wpAnyF_skip 32 (oi := ⟨some 124, .move (.tmp 11), 34, "more.go:130", #[⟨22, .guard⟩], some (22, true)⟩) rfl (by kernel_rfl) (fun _ _ _ h => h) (by assumption) (by rfl) ?_
            | (refine wpAnyF_take 32 (oi := ⟨some 124, .move (.tmp 11), 34, "more.go:130", #[⟨22, .guard⟩], some (22, true)⟩) (v := ?g8rv32) rfl (by kernel_rfl) (fun _ _ _ h => h) (by assumption) (by rfl) ?g8ry32 ?g8rr32
               case g8ry32 => intro w hSw; obtain ⟨⟨s0, s1, s2, s3, s4, s5, s6⟩, s7, s8, s9, s10⟩ := hSw; go_simp; try with_reducible rfl)
          try simp only [Act.put, List.setIfInBounds_toArray, List.set_cons_zero, List.set_cons_succ]
          first
            | refine wpAnyF_skip 33 (oi := ⟨some 125, .indexAddr 34 (.tmp 124) (.const (.int .i64 0)), 0, "more.go:130", #[⟨32, .data⟩, ⟨22, .guard⟩], some (22, true)⟩) rfl (by kernel_rfl) (fun _ _ _ h => h) (by assumption) (by rfl) ?_
            | (refine wpAnyF_take 33 (oi := ⟨some 125, .indexAddr 34 (.tmp 124) (.const (.int .i64 0)), 0, "more.go:130", #[⟨32, .data⟩, ⟨22, .guard⟩], some (22, true)⟩) (v := ?g8rv33) rfl (by kernel_rfl) (fun _ _ _ h => h) (by assumption) (by rfl) ?g8ry33 ?g8rr33
               case g8ry33 => intro w hSw; obtain ⟨⟨s0, s1, s2, s3, s4, s5, s6⟩, s7, s8, s9, s10⟩ := hSw; go_simp; try with_reducible rfl)
          try simp only [Act.put, List.setIfInBounds_toArray, List.set_cons_zero, List.set_cons_succ]
          first
            | refine wpAnyF_skip 34 (oi := ⟨some 126, .load 46 (.tmp 125), 46, "more.go:130", #[⟨33, .data⟩, ⟨22, .guard⟩], some (22, true)⟩) rfl (by kernel_rfl) (fun _ _ _ h => h) (by assumption) (by rfl) ?_
            | (refine wpAnyF_take 34 (oi := ⟨some 126, .load 46 (.tmp 125), 46, "more.go:130", #[⟨33, .data⟩, ⟨22, .guard⟩], some (22, true)⟩) (v := ?g8rv34) rfl (by kernel_rfl) (fun _ _ _ h => h) (by assumption) (by rfl) ?g8ry34 ?g8rr34
               case g8ry34 => intro w hSw; obtain ⟨⟨s0, s1, s2, s3, s4, s5, s6⟩, s7, s8, s9, s10⟩ := hSw; go_simp; try with_reducible rfl)
          try simp only [Act.put, List.setIfInBounds_toArray, List.set_cons_zero, List.set_cons_succ]
          refine wpAnyF_ready [31] (by kernel_rfl) (by simp) ?_
          refine AllReadyF.cons 31 (o := ⟨some 123, .call { callee := .value (.func 26), args := #[.tmp 117, .tmp 120, .const (.int .i64 0), .tmp 122], argTypes := #[46, 48, 3, 3] }, 46, "more.go:130", #[⟨25, .data⟩, ⟨28, .data⟩, ⟨30, .data⟩, ⟨22, .chain⟩, ⟨22, .guard⟩], some (22, true)⟩) rfl (fun K hK => ?g8ro35) ?g8rm35
          case g8rm35 => exact AllReadyF.nil
          go_simp; refine (HC1.out _ (bt HBB.out HBW)).mono ?_; rintro e w2 ⟨p0, d0, p1, d1, p2, d2, rfl, hcl, hbk⟩; dsimp only; (replace HBW := bt HBW hbk); (have hcl2 := hcl.go (S := fun _ => False) (ok' := fun b => b < w2.heap.size) (Chg.refl _ w2) (fun b hb _ => ⟨fun h => h, hb⟩)); clear hbk hcl
          refine hK.out _ _ ?g8rs35 (fun hHeld => ?g8rt35)
          case g8rs35 => (try dsimp only); (first | exact ⟨⟨cb (bt HBB.out HBW) HT.out.1, cb (bt HBB.out HBW) HT.out.2.1, cb (bt HBB.out HBW) HT.out.2.2.1, cb (bt HBB.out HBW) HT.out.2.2.2.1, cb (bt HBB.out HBW) HT.out.2.2.2.2.1, cb (bt HBB.out HBW) HT.out.2.2.2.2.2.1, cb (bt HBB.out HBW) HT.out.2.2.2.2.2.2⟩, cb HBW HZ.out.1, cb HBW HZ.out.2.1, cb HBW HZ.out.2.2.1, cb HBW HZ.out.2.2.2⟩ | exact ⟨⟨cb (bt HBB.out (b0 w18).drew) HT.out.1, cb (bt HBB.out (b0 w18).drew) HT.out.2.1, cb (bt HBB.out (b0 w18).drew) HT.out.2.2.1, cb (bt HBB.out (b0 w18).drew) HT.out.2.2.2.1, cb (bt HBB.out (b0 w18).drew) HT.out.2.2.2.2.1, cb (bt HBB.out (b0 w18).drew) HT.out.2.2.2.2.2.1, cb (bt HBB.out (b0 w18).drew) HT.out.2.2.2.2.2.2⟩, cb (b0 w18).drew HZ.out.1, cb (b0 w18).drew HZ.out.2.1, cb (b0 w18).drew HZ.out.2.2.1, cb (b0 w18).drew HZ.out.2.2.2⟩)
          try dsimp only at hHeld
          clear hK K
          try simp only [Act.put, List.setIfInBounds_toArray, List.set_cons_zero, List.set_cons_succ]
          refine wpAnyF_ready [35] (by kernel_rfl) (by simp) ?_
          refine AllReadyF.cons 35 (o := ⟨some 127, .call { callee := .value (.func 23), args := #[.tmp 123, .tmp 126], argTypes := #[46, 46] }, 4, "more.go:130", #[⟨31, .data⟩, ⟨34, .data⟩, ⟨31, .chain⟩, ⟨22, .guard⟩], some (22, true)⟩) rfl (fun K hK => ?g8ro36) ?g8rm36
          case g8rm36 => exact AllReadyF.nil
          go_simp; refine (HSAME.out _ (bt HBB.out HBW) _ _ _ _ _ _ hcl2).mono ?_; rintro e w3' ⟨t, rfl, ht, hbk⟩; (obtain rfl : t = true := ht.2 (by trivial)); dsimp only; (replace HBW := bt HBW hbk); clear hbk
          refine hK.out _ _ ?g8rs36 (fun hHeld => ?g8rt36)
          case g8rs36 => (try dsimp only); (first | exact ⟨⟨cb (bt HBB.out HBW) HT.out.1, cb (bt HBB.out HBW) HT.out.2.1, cb (bt HBB.out HBW) HT.out.2.2.1, cb (bt HBB.out HBW) HT.out.2.2.2.1, cb (bt HBB.out HBW) HT.out.2.2.2.2.1, cb (bt HBB.out HBW) HT.out.2.2.2.2.2.1, cb (bt HBB.out HBW) HT.out.2.2.2.2.2.2⟩, cb HBW HZ.out.1, cb HBW HZ.out.2.1, cb HBW HZ.out.2.2.1, cb HBW HZ.out.2.2.2⟩ | exact ⟨⟨cb (bt HBB.out (b0 w18).drew) HT.out.1, cb (bt HBB.out (b0 w18).drew) HT.out.2.1, cb (bt HBB.out (b0 w18).drew) HT.out.2.2.1, cb (bt HBB.out (b0 w18).drew) HT.out.2.2.2.1, cb (bt HBB.out (b0 w18).drew) HT.out.2.2.2.2.1, cb (bt HBB.out (b0 w18).drew) HT.out.2.2.2.2.2.1, cb (bt HBB.out (b0 w18).drew) HT.out.2.2.2.2.2.2⟩, cb (b0 w18).drew HZ.out.1, cb (b0 w18).drew HZ.out.2.1, cb (b0 w18).drew HZ.out.2.2.1, cb (b0 w18).drew HZ.out.2.2.2⟩)
          try dsimp only at hHeld
          clear hK K
          try simp only [Act.put, List.setIfInBounds_toArray, List.set_cons_zero, List.set_cons_succ]
          refine wpAnyF_take 36 (oi := ⟨some 128, .pick (.tmp 114) (.tmp 127) (.const (.bool false)), 4, "more.go:130", #[⟨22, .data⟩, ⟨35, .data⟩], none⟩) (v := ?g8rv37) rfl (by kernel_rfl) (fun _ _ _ h => h) (by assumption) (by rfl) ?g8ry37 ?g8rr37
          case g8ry37 => intro w hSw; obtain ⟨⟨s0, s1, s2, s3, s4, s5, s6⟩, s7, s8, s9, s10⟩ := hSw; go_simp; try with_reducible rfl
          try simp only [Act.put, List.setIfInBounds_toArray, List.set_cons_zero, List.set_cons_succ]
          refine wpAnyF_ready [37] (by kernel_rfl) (by simp) ?_
          refine AllReadyF.last 37 (o := ⟨some 8, .assign (.tmp 128), 4, "more.go:130", #[⟨36, .data⟩, ⟨35, .chain⟩, ⟨0, .phase⟩, ⟨1, .phase⟩, ⟨2, .phase⟩, ⟨3, .phase⟩, ⟨4, .phase⟩, ⟨5, .phase⟩, ⟨6, .phase⟩, ⟨7, .phase⟩, ⟨8, .phase⟩, ⟨9, .phase⟩, ⟨10, .phase⟩, ⟨11, .phase⟩, ⟨12, .phase⟩, ⟨13, .phase⟩, ⟨14, .phase⟩, ⟨15, .phase⟩, ⟨16, .phase⟩, ⟨17, .phase⟩, ⟨18, .phase⟩, ⟨19, .phase⟩, ⟨20, .phase⟩, ⟨21, .phase⟩, ⟨22, .phase⟩, ⟨23, .phase⟩, ⟨24, .phase⟩, ⟨25, .phase⟩, ⟨26, .phase⟩, ⟨27, .phase⟩, ⟨28, .phase⟩, ⟨29, .phase⟩, ⟨30, .phase⟩, ⟨31, .phase⟩, ⟨32, .phase⟩, ⟨33, .phase⟩, ⟨34, .phase⟩, ⟨35, .phase⟩, ⟨36, .phase⟩], none⟩) rfl (by kernel_rfl) (fun K hK => ?g8ro38) ?g8rm38
          case g8rm38 => exact AllReadyF.nil
          go_simp
          refine hK.out _ _ ?_
          clear hK K
          try simp only [Act.put, List.setIfInBounds_toArray, List.set_cons_zero, List.set_cons_succ]
          refine wpAnyF_done (by kernel_rfl) ?_
          have HBF := Lib.hid (bt (bt HB5.out HBB.out) HBW)
          clear hHeld HBW hcl2 ht
          go_wp2_with fail
          go_ret
          exact ⟨rfl, HBF.out⟩
end Go.Proofs.Ytibhcibcfommeaa
