/-
  The walk of WireReads.
-/
import Derived.Test.YtofhlopedflkiaaRTree9
import Derived.Test.YtofhlopedflkiaaRBytes9
import Derived.Test.YtofhlopedflkiaaConv9
import Derived.Test.YtofhlopedflkiaaFront9
import Derived.Test.YtofhlopedflkiaaFitR2
set_option linter.unusedSimpArgs false
namespace Go.Proofs.Ytofhlopedflkiaa
open Go.RowKit Go.Shr
set_option maxHeartbeats 4000000 in
set_option maxRecDepth 100000 in
theorem law_wreads (a0 : Option Addr) (n0 c0 : Nat) (z0 : List Int) (a1 : Option Addr) (n1 c1 : Nat) (zz : List (List Int)) (xs1 : List Value) (a2 : Option Addr) (n2 c2 : Nat) (z2 : List Int) (a3 : Option Addr) (n3 c3 : Nat) (y3 : List UInt8) (cut : Int) (a5 : Option Addr) (n5 c5 : Nat) (raw : List UInt8) (w : World) (h0 : Sl (fun b => b < w.heap.size) w 1 a0 n0 c0 (ints z0)) (w0 : ∀ z ∈ z0, (Lit.int .i64 z).wf = true)
    (h1 : Sl (fun b => b < w.heap.size) w 1 a1 n1 c1 xs1) (hr1 : IRows w zz xs1) (w1 : ∀ z ∈ zz, ∀ v ∈ z, (Lit.int .i64 v).wf = true) (h2 : Sl (fun b => b < w.heap.size) w 1 a2 n2 c2 (ints z2)) (_w2 : ∀ z ∈ z2, (Lit.int .i64 z).wf = true) (h3 : Sl (fun b => b < w.heap.size) w 1 a3 n3 c3 (u8s y3)) (_w4 : (Lit.int .i64 cut).wf = true) (h5 : Sl (fun b => b < w.heap.size) w 1 a5 n5 c5 (u8s raw)) :
    Calls Try.prog 6 #[.slice a0 n0 c0, .slice a1 n1 c1, .slice a2 n2 c2, .slice a3 n3 c3, .int .i64 cut, .slice a5 n5 c5] w fun e w' => e = .returned (.bool true) ∧ Below w.heap.size w w' := by
  obtain ⟨i0, hi0, hz0, hz1, hz2⟩ := info_parts info_u8
  have hl2 : z2.length = n2 := by have := h2.len; rw [ints_length] at this; omega
  have hl3 : y3.length = n3 := by have := h3.len; simpa using this
  have hl5 : raw.length = n5 := by have := h5.len; simpa using this
  subst hl2 hl3 hl5
  have hm2 := Nat.le_trans h2.le h2.max; have hm3 := Nat.le_trans h3.le h3.max; have hm5 := Nat.le_trans h5.le h5.max
  unfold maxLen at hm2 hm3 hm5
  have H0 := Lib.hid h0; have H1 := Lib.hid h1; have HR := Lib.hid hr1; have W0 := Lib.hid w0; have W1 := Lib.hid w1; have H2 := Lib.hid h2; have H3 := Lib.hid h3; have H5 := Lib.hid h5
  clear h0 h1 hr1 w0 w1 h2 h3 h5
  go_enter Try.func6, Try.ntmps6
  go_wp2_with fail
  refine (known9 _).mono ?_
  rintro e w1 ⟨rfl, hb1⟩
  have HB1 := Lib.hid hb1; clear hb1
  by_cases h200 : 200 < raw.length
  · have h200' : (200 : Int) < (raw.length : Int) := by omega
    go_wp2_with fail
    go_ret
    exact ⟨rfl, HB1.out⟩
  have h200' : ¬ (200 : Int) < (raw.length : Int) := by omega
  have h200'' : raw.length ≤ 200 := by omega
  clear h200
  go_wp2_with fail
  refine (make5 a0 n0 c0 z0 w1 (slb H0.out HB1.out) W0.out).mono ?_
  rintro e w2 ⟨a, cap, rfl, ho, hb2⟩
  have HSC := Lib.hid (Sl.mono (ok' := fun b => b < w2.heap.size) ho.sl (fun k hk _ => hk) (by decide))
  have HB2 := Lib.hid (bt HB1.out hb2)
  clear ho hb2 h200'
  go_wp2_with fail
  refine (many_v (makeL z0) (makeSh z0) (make_sch z0) a cap a1 n1 c1 zz xs1 w2 HSC.out (slb H1.out HB2.out) (HR.out.below HB2.out) W1.out).mono ?_
  rintro e w3 ⟨al, cl, ys, rfl, hsl, hrow, hb3⟩
  have HB3 := Lib.hid (bt HB2.out hb3); have HSC3 := Lib.hid (slb HSC.out hb3)
  have HSL := Lib.hid (hsl.mono (ok' := fun b => b < w3.heap.size) (fun k hk _ => hk) (by decide))
  have HROW := Lib.hid hrow.at
  have HOKS := Lib.hid (many_ok W1.out (makeSh z0)); have HENC := Lib.hid (many_enc7 (ns := z0) W1.out)
  have HSCH := Lib.hid (make_sch z0)
  generalize manyT (makeSh z0) zz = x at *
  generalize makeL z0 = L at *
  generalize makeSh z0 = sh at *
  clear hsl hrow hb3 HB2 HSC HB1 H0 H1 HR W0 W1
  go_wp2_with fail
  refine (rbytes_v L sh HSCH.out a cap x al cl ys w3 HSC3.out HSL.out HROW.out HOKS.out (Nat.le_trans HENC.out (by decide))).mono ?_
  rintro e w4 ⟨a4, c4, rfl, ho4, hb4⟩
  have HB4 := Lib.hid (bt HB3.out hb4); have HSC4 := Lib.hid (slb HSC3.out hb4)
  have hs4 := ho4.sl.mono (ok' := fun b => b < w4.heap.size) (fun k hk _ => hk) (by decide)
  have HS4 := Lib.hid hs4
  have hep : 0 < (encR sh x).length := by have := vput_pos x.length; unfold encR; rw [List.length_append]; omega
  have hel := HENC.out
  have HSRC := Lib.hid ((hs4.alloc (.cells #[] 5)).src (P := Try.prog) (tx := 30) Try.underlying30 (u8s_one _))
  generalize encR sh x = E at *
  clear ho4 hb4 hs4 HSL HROW HSC3 HB3 HOKS HENC
  go_upto_block 0 with (at_builtin; refine wpList_append (B := w4.heap.size) rfl _ _ _ _ rfl i0 (.int .u8 0) 1 Try.underlying30 hi0 hz0 hz1 hz2 rfl rfl (Own.bare _ _ _ _ _) _ rfl _ _ HSRC.out (by simp only [maxLen]; omega) (by omega) (by simp) ?_; intro aD cD w5 ho5 hc5 hn5)
  have hb5 : Below w4.heap.size w4 w5 := ((Below.refl _ _).alloc (Nat.le_refl _) _).trans (hc5.below (by simp) (fun i hi ⟨_, h2⟩ => by omega))
  have HO5 : Hid (Own w4.heap.size w5 5 1 aD E.length cD (u8s E)) := Lib.hid (by simpa using ho5)
  have HB5 := Lib.hid hb5
  clear ho5 hc5 hn5 hb5 HSRC
  have hz4 := HB4.out.size
  go_cut [15, 16] from 39 to 70 (fun dv _ wc => ∃ D : List UInt8, dv = .slice aD E.length cD ∧ Hid (D.length = E.length) ∧ Hid (Own w4.heap.size wc 5 1 aD E.length cD (u8s D)) ∧ Hid (Below w4.heap.size w4 wc))
  case first =>
    go_wp2_with fail
    go_loopw [16] (fun iv wr => ∃ (i : Nat) (D : List UInt8), iv = .int .i64 (i : Int) ∧ i ≤ 3 ∧ Hid (D.length = E.length) ∧ Hid (Own w4.heap.size wr 5 1 aD E.length cD (u8s D)) ∧ Hid (Below w4.heap.size w4 wr)) (fun iv _ => 3 - (intOf iv).toNat)
    case atStart => exact ⟨0, E, rfl, by omega, Lib.hid rfl, by simpa using HO5, HB5⟩
    case round =>
      clear HO5 HB5
      obtain ⟨i, D, rfl, hi3, HDL, HO, HB⟩ := hrel
      have hszr := HB.out.size
      by_cases hgo : i < z2.length ∧ i < y3.length ∧ i < 3
      · obtain ⟨hg2, hg3, hgi⟩ := hgo
        obtain ⟨b2, o2, rfl, hb2, hc2⟩ := H2.out.pos (by omega)
        obtain ⟨b3, o3, rfl, hb3, hc3⟩ := H3.out.pos (by omega)
        have hlow := (bt HB4.out HB.out)
        have v2 := cb hlow (hc2 _ _ (ints_get z2 i hg2))
        have v3 := cb hlow (hc3 _ _ (u8s_get y3 i hg3))
        obtain ⟨g, rfl, hg1, hg4, hgc, hgf⟩ := HO.out.pos (by omega)
        generalize z2[i] = z at *
        generalize y3[i] = y at *
        have hep' : (0 : Int) < (E.length : Int) := by omega
        obtain ⟨m, hm⟩ : ∃ m : Nat, z % (E.length : Int) = (m : Int) := ⟨(z % (E.length : Int)).toNat, by have := Int.emod_nonneg z (show (E.length : Int) ≠ 0 by omega); omega⟩
        have hml : m < E.length := by have := Int.emod_lt_of_pos z hep'; omega
        have hmD : m < D.length := by rw [HDL.out]; exact hml
        have vd := hgc _ _ (u8s_get D m hmD)
        have HST : Hid (∀ u : UInt8, Own w4.heap.size (wr.drew.setCell ⟨g, m, none⟩ (.int .u8 (u.toNat : Int))) 5 1 (some ⟨g, 0, none⟩) E.length cD (u8s (D.set m u))) := Lib.hid (fun u => by
          have h := HO.out.drew.stored rfl m (.int .u8 (u.toNat : Int))
          rwa [show (u8s D).set m (.int .u8 (u.toNat : Int)) = u8s (D.set m u) by simp [u8s, List.map_set]] at h)
        generalize D[m] = d at *
        have HM := Lib.hid hm
        have hwr : IntKind.u8.wrap ((d.toNat : Int) + (y.toNat : Int)) = (((d + y).toNat : Nat) : Int) := by
          have : ∀ n : Int, IntKind.u8.wrap n = n % 256 := fun n => by simp [IntKind.wrap, IntKind.bits, IntKind.signed]
          rw [this, UInt8.toNat_add]; omega
        have hii0 : (0 : Int) ≤ (i : Int) := by omega
        have hg2' : (i : Int) < (z2.length : Int) := by omega
        have hg3' : (i : Int) < (y3.length : Int) := by omega
        have hgi' : (i : Int) < 3 := by omega
        have hm0 : (0 : Int) ≤ (m : Int) := by omega
        have hml' : (m : Int) < (E.length : Int) := by omega
        have HV := Lib.hid (And.intro v2 (And.intro v3 vd))
        clear hc2 hc3 hgc hm v2 v3 vd hlow
        go_upto_region 11 with fail
        refine Go.Shr.wp_region_F (fun w' => w'.cell? ⟨b2, o2 + i, none⟩ = some (.int .i64 z) ∧ w'.cell? ⟨b3, o3 + i, none⟩ = some (.int .u8 (y.toNat : Int)) ∧ w'.cell? ⟨g, m, none⟩ = some (.int .u8 (d.toNat : Int))) [16] (by kernel_rfl) ?g14rgS (fun hHeld => ?g14rgR)
        case g14rgS => (try dsimp only); (exact HV.out)
        try dsimp only at hHeld
        refine Go.Shr.wpAnyF_take 0 (oi := { dst := some 55, op := Go.Op.move (Go.Operand.tmp 15), type := 30, pos := "law.go:65", after := #[], guard := none }) (v := ?g14rv1) rfl (by kernel_rfl) (fun _ _ _ h => h) (by assumption) (by rfl) ?g14ry1 ?g14rr1
        case g14ry1 => intro w hSw; obtain ⟨s1, s2, s3⟩ := hSw; go_simp; try with_reducible rfl
        try simp only [Act.put, List.setIfInBounds_toArray, List.set_cons_zero, List.set_cons_succ]
        refine Go.Shr.wpAnyF_take 1 (oi := { dst := some 56, op := Go.Op.move (Go.Operand.tmp 2), type := 22, pos := "law.go:65", after := #[], guard := none }) (v := ?g14rv2) rfl (by kernel_rfl) (fun _ _ _ h => h) (by assumption) (by rfl) ?g14ry2 ?g14rr2
        case g14ry2 => intro w hSw; obtain ⟨s1, s2, s3⟩ := hSw; go_simp; try with_reducible rfl
        try simp only [Act.put, List.setIfInBounds_toArray, List.set_cons_zero, List.set_cons_succ]
        refine Go.Shr.wpAnyF_take 2 (oi := { dst := some 57, op := Go.Op.move (Go.Operand.tmp 16), type := 3, pos := "law.go:65", after := #[], guard := none }) (v := ?g14rv3) rfl (by kernel_rfl) (fun _ _ _ h => h) (by assumption) (by rfl) ?g14ry3 ?g14rr3
        case g14ry3 => intro w hSw; obtain ⟨s1, s2, s3⟩ := hSw; go_simp; try with_reducible rfl
        try simp only [Act.put, List.setIfInBounds_toArray, List.set_cons_zero, List.set_cons_succ]
        refine Go.Shr.wpAnyF_take 3 (oi := { dst := some 58, op := Go.Op.indexAddr 22 (Go.Operand.tmp 56) (Go.Operand.tmp 57), type := 0, pos := "law.go:65", after := #[{ on := 1, ground := Go.Ground.data }, { on := 2, ground := Go.Ground.data }], guard := none }) (v := ?g14rv4) rfl (by kernel_rfl) (fun _ _ _ h => h) (by assumption) (by rfl) ?g14ry4 ?g14rr4
        case g14ry4 => intro w hSw; obtain ⟨s1, s2, s3⟩ := hSw; go_simp; try with_reducible rfl
        try simp only [Act.put, List.setIfInBounds_toArray, List.set_cons_zero, List.set_cons_succ]
        refine Go.Shr.wpAnyF_take 4 (oi := { dst := some 59, op := Go.Op.load 3 (Go.Operand.tmp 58), type := 3, pos := "law.go:65", after := #[{ on := 3, ground := Go.Ground.data }], guard := none }) (v := ?g14rv5) rfl (by kernel_rfl) (fun _ _ _ h => h) (by assumption) (by rfl) ?g14ry5 ?g14rr5
        case g14ry5 => intro w hSw; obtain ⟨s1, s2, s3⟩ := hSw; go_simp; try with_reducible rfl
        try simp only [Act.put, List.setIfInBounds_toArray, List.set_cons_zero, List.set_cons_succ]
        refine Go.Shr.wpAnyF_take 5 (oi := { dst := some 60, op := Go.Op.move (Go.Operand.tmp 15), type := 30, pos := "law.go:65", after := #[], guard := none }) (v := ?g14rv6) rfl (by kernel_rfl) (fun _ _ _ h => h) (by assumption) (by rfl) ?g14ry6 ?g14rr6
        case g14ry6 => intro w hSw; obtain ⟨s1, s2, s3⟩ := hSw; go_simp; try with_reducible rfl
        try simp only [Act.put, List.setIfInBounds_toArray, List.set_cons_zero, List.set_cons_succ]
        refine Go.Shr.wpAnyF_take 6 (oi := { dst := some 61, op := Go.Op.call { callee := Go.Callee.builtin Go.Builtin.len, args := #[Go.Operand.tmp 60], argTypes := #[30] }, type := 3, pos := "law.go:65", after := #[{ on := 5, ground := Go.Ground.data }], guard := none }) (v := ?g14rv7) rfl (by kernel_rfl) (fun _ _ _ h => h) (by assumption) (by rfl) ?g14ry7 ?g14rr7
        case g14ry7 => intro w hSw; obtain ⟨s1, s2, s3⟩ := hSw; go_simp; try with_reducible rfl
        try simp only [Act.put, List.setIfInBounds_toArray, List.set_cons_zero, List.set_cons_succ]
        refine Go.Shr.wpAnyF_take 10 (oi := { dst := some 65, op := Go.Op.move (Go.Operand.tmp 3), type := 30, pos := "law.go:65", after := #[], guard := none }) (v := ?g14rv8) rfl (by kernel_rfl) (fun _ _ _ h => h) (by assumption) (by rfl) ?g14ry8 ?g14rr8
        case g14ry8 => intro w hSw; obtain ⟨s1, s2, s3⟩ := hSw; go_simp; try with_reducible rfl
        try simp only [Act.put, List.setIfInBounds_toArray, List.set_cons_zero, List.set_cons_succ]
        refine Go.Shr.wpAnyF_take 11 (oi := { dst := some 66, op := Go.Op.move (Go.Operand.tmp 16), type := 3, pos := "law.go:65", after := #[], guard := none }) (v := ?g14rv9) rfl (by kernel_rfl) (fun _ _ _ h => h) (by assumption) (by rfl) ?g14ry9 ?g14rr9
        case g14ry9 => intro w hSw; obtain ⟨s1, s2, s3⟩ := hSw; go_simp; try with_reducible rfl
        try simp only [Act.put, List.setIfInBounds_toArray, List.set_cons_zero, List.set_cons_succ]
        refine Go.Shr.wpAnyF_take 12 (oi := { dst := some 67, op := Go.Op.indexAddr 30 (Go.Operand.tmp 65) (Go.Operand.tmp 66), type := 0, pos := "law.go:65", after := #[{ on := 10, ground := Go.Ground.data }, { on := 11, ground := Go.Ground.data }], guard := none }) (v := ?g14rv10) rfl (by kernel_rfl) (fun _ _ _ h => h) (by assumption) (by rfl) ?g14ry10 ?g14rr10
        case g14ry10 => intro w hSw; obtain ⟨s1, s2, s3⟩ := hSw; go_simp; try with_reducible rfl
        try simp only [Act.put, List.setIfInBounds_toArray, List.set_cons_zero, List.set_cons_succ]
        refine Go.Shr.wpAnyF_take 13 (oi := { dst := some 68, op := Go.Op.load 5 (Go.Operand.tmp 67), type := 5, pos := "law.go:65", after := #[{ on := 12, ground := Go.Ground.data }], guard := none }) (v := ?g14rv11) rfl (by kernel_rfl) (fun _ _ _ h => h) (by assumption) (by rfl) ?g14ry11 ?g14rr11
        case g14ry11 => intro w hSw; obtain ⟨s1, s2, s3⟩ := hSw; go_simp; try with_reducible rfl
        try simp only [Act.put, List.setIfInBounds_toArray, List.set_cons_zero, List.set_cons_succ]
        refine Go.Shr.wpAnyF_ready [7] (by kernel_rfl) (by simp) ?_
        refine Go.Shr.AllReadyF.cons 7 (o := { dst := some 62, op := Go.Op.call { callee := Go.Callee.value (Go.Operand.func 19), args := #[Go.Operand.tmp 59, Go.Operand.tmp 61], argTypes := #[3, 3] }, type := 3, pos := "law.go:65", after := #[{ on := 4, ground := Go.Ground.data }, { on := 6, ground := Go.Ground.data }], guard := none }) rfl (fun K hK => ?g14ro12) ?g14rm12
        case g14rm12 => exact Go.Shr.AllReadyF.nil
        go_simp; refine (within_9 z (E.length : Int) wr.drew hep' (by omega)).mono ?_; rintro e9 w9 ⟨rfl, rfl⟩; rw [HM.out]; dsimp only
        refine hK.out _ _ ?g14rs12 (fun hHeld => ?g14rt12)
        case g14rs12 => (try dsimp only); (exact HV.out)
        try dsimp only at hHeld
        clear hK K
        try simp only [Act.put, List.setIfInBounds_toArray, List.set_cons_zero, List.set_cons_succ]
        refine Go.Shr.wpAnyF_take 8 (oi := { dst := some 63, op := Go.Op.indexAddr 30 (Go.Operand.tmp 55) (Go.Operand.tmp 62), type := 0, pos := "law.go:65", after := #[{ on := 0, ground := Go.Ground.data }, { on := 7, ground := Go.Ground.data }], guard := none }) (v := ?g14rv13) rfl (by kernel_rfl) (fun _ _ _ h => h) (by assumption) (by rfl) ?g14ry13 ?g14rr13
        case g14ry13 => intro w hSw; obtain ⟨s1, s2, s3⟩ := hSw; go_simp; try with_reducible rfl
        try simp only [Act.put, List.setIfInBounds_toArray, List.set_cons_zero, List.set_cons_succ]
        refine Go.Shr.wpAnyF_take 9 (oi := { dst := some 64, op := Go.Op.load 5 (Go.Operand.tmp 63), type := 5, pos := "law.go:65", after := #[{ on := 8, ground := Go.Ground.data }], guard := none }) (v := ?g14rv14) rfl (by kernel_rfl) (fun _ _ _ h => h) (by assumption) (by rfl) ?g14ry14 ?g14rr14
        case g14ry14 => intro w hSw; obtain ⟨s1, s2, s3⟩ := hSw; go_simp; try with_reducible rfl
        try simp only [Act.put, List.setIfInBounds_toArray, List.set_cons_zero, List.set_cons_succ]
        refine Go.Shr.wpAnyF_take 14 (oi := { dst := some 69, op := Go.Op.binOp Go.BinOp.add 5 (Go.Operand.tmp 64) (Go.Operand.tmp 68) 5, type := 5, pos := "law.go:65", after := #[{ on := 9, ground := Go.Ground.data }, { on := 13, ground := Go.Ground.data }], guard := none }) (v := ?g14rv15) rfl (by kernel_rfl) (fun _ _ _ h => h) (by assumption) (by rfl) ?g14ry15 ?g14rr15
        case g14ry15 => intro w hSw; obtain ⟨s1, s2, s3⟩ := hSw; go_simp; try with_reducible rfl
        try simp only [Act.put, List.setIfInBounds_toArray, List.set_cons_zero, List.set_cons_succ]
        refine Go.Shr.wpAnyF_take 15 (oi := { dst := some 70, op := Go.Op.indexAddr 30 (Go.Operand.tmp 55) (Go.Operand.tmp 62), type := 0, pos := "law.go:65", after := #[{ on := 0, ground := Go.Ground.data }, { on := 7, ground := Go.Ground.data }, { on := 0, ground := Go.Ground.phase }, { on := 1, ground := Go.Ground.phase }, { on := 2, ground := Go.Ground.phase }, { on := 3, ground := Go.Ground.phase }, { on := 4, ground := Go.Ground.phase }, { on := 5, ground := Go.Ground.phase }, { on := 6, ground := Go.Ground.phase }, { on := 7, ground := Go.Ground.phase }, { on := 8, ground := Go.Ground.phase }, { on := 9, ground := Go.Ground.phase }, { on := 10, ground := Go.Ground.phase }, { on := 11, ground := Go.Ground.phase }, { on := 12, ground := Go.Ground.phase }, { on := 13, ground := Go.Ground.phase }, { on := 14, ground := Go.Ground.phase }], guard := none }) (v := ?g14rv16) rfl (by kernel_rfl) (fun _ _ _ h => h) (by assumption) (by rfl) ?g14ry16 ?g14rr16
        case g14ry16 => intro w hSw; obtain ⟨s1, s2, s3⟩ := hSw; go_simp; try with_reducible rfl
        try simp only [Act.put, List.setIfInBounds_toArray, List.set_cons_zero, List.set_cons_succ]
        refine Go.Shr.wpAnyF_ready [16] (by kernel_rfl) (by simp) ?_
        refine Go.Shr.AllReadyF.last 16 (o := { dst := none, op := Go.Op.store 5 (Go.Operand.tmp 70) (Go.Operand.tmp 69), type := 0, pos := "law.go:65", after := #[{ on := 15, ground := Go.Ground.data }, { on := 14, ground := Go.Ground.data }, { on := 7, ground := Go.Ground.chain }, { on := 0, ground := Go.Ground.phase }, { on := 1, ground := Go.Ground.phase }, { on := 2, ground := Go.Ground.phase }, { on := 3, ground := Go.Ground.phase }, { on := 4, ground := Go.Ground.phase }, { on := 5, ground := Go.Ground.phase }, { on := 6, ground := Go.Ground.phase }, { on := 7, ground := Go.Ground.phase }, { on := 8, ground := Go.Ground.phase }, { on := 9, ground := Go.Ground.phase }, { on := 10, ground := Go.Ground.phase }, { on := 11, ground := Go.Ground.phase }, { on := 12, ground := Go.Ground.phase }, { on := 13, ground := Go.Ground.phase }, { on := 14, ground := Go.Ground.phase }], guard := none }) rfl (by kernel_rfl) (fun K hK => ?g14ro17) ?g14rm17
        case g14rm17 => exact Go.Shr.AllReadyF.nil
        go_simp
        refine hK.out _ _ ?_
        clear hK K
        try simp only [Act.put, List.setIfInBounds_toArray, List.set_cons_zero, List.set_cons_succ]
        refine Go.Shr.wpAnyF_done (by kernel_rfl) ?_
        have hd := HST.out (d + y)
        have HB' : Hid (Below w4.heap.size w4 (wr.drew.setCell ⟨g, m, none⟩ (.int .u8 ((d + y).toNat : Int)))) := Lib.hid (HB.out.drew.setCell (p := ⟨g, m, none⟩) hg1 _)
        have HD' := Lib.hid hd
        clear hd hwr
        go_wp2_with fail
        go_roundw
        case rel => exact ⟨i + 1, D.set m (d + y), by go_num, by omega, Lib.hid (by rw [List.length_set]; exact HDL.out), HD', HB'⟩
        case measure => simp [intOf]; omega
      · by_cases g2 : i < z2.length
        · have g2' : (i : Int) < (z2.length : Int) := by omega
          by_cases g3 : i < y3.length
          · have g3' : (i : Int) < (y3.length : Int) := by omega
            have g4' : ¬ (i : Int) < 3 := by omega
            clear hgo g2 g3
            go_wp2_with fail
            go_meet
            case rel => exact ⟨D, rfl, HDL, HO, HB⟩
          · have g3' : ¬ (i : Int) < (y3.length : Int) := by omega
            clear hgo g2 g3
            go_wp2_with fail
            go_meet
            case rel => exact ⟨D, rfl, HDL, HO, HB⟩
        · have g2' : ¬ (i : Int) < (z2.length : Int) := by omega
          clear hgo g2
          go_wp2_with fail
          go_meet
          case rel => exact ⟨D, rfl, HDL, HO, HB⟩
  case rest =>
    obtain ⟨D, rfl, HDL, HO, HB⟩ := hcut
    have HS := Lib.hid (HO.out.sl.mono (ok' := fun b => b < wc.heap.size) (fun k hk _ => hk) (by decide))
    have hwcz := HB.out.size
    clear HO HO5 HB5
    go_upto_if 73 with fail
    go_cut [15] from 71 to 81 (fun dv wd => ∃ (D2 : List UInt8) (aX : Option Addr) (cX : Nat), dv = .slice aX D2.length cX ∧ Hid (D2.length ≤ 7000000000000) ∧ Hid (Sl (fun b => b < wc.heap.size) wc 1 aX D2.length cX (u8s D2)) ∧ wc = wd)
    case first =>
      obtain ⟨bb, hbb⟩ : ∃ bb, (Int.tmod cut 3 == 1) = bb := ⟨_, rfl⟩
      cases bb
      · go_wp2_with fail
        go_meet
        case rel =>
          have e := HDL.out
          exact ⟨D, aD, cD, by rw [e], Lib.hid (by omega), Lib.hid (by rw [e]; exact HS.out), rfl⟩
      · go_wp2_with fail
        generalize wrap64 (cut.tdiv 3) = q
        refine (within_9 q ((E.length : Int) + 1) wc (by omega) (by omega)).mono ?_
        rintro e wd ⟨rfl, rfl⟩
        obtain ⟨m, hm⟩ : ∃ m : Nat, q % ((E.length : Int) + 1) = (m : Int) := ⟨(q % ((E.length : Int) + 1)).toNat, by have := Int.emod_nonneg q (show (E.length : Int) + 1 ≠ 0 by omega); omega⟩
        have hml : m ≤ E.length := by have := Int.emod_lt_of_pos q (show (0 : Int) < (E.length : Int) + 1 by omega); omega
        rw [hm]
        clear hm
        obtain ⟨aY, hr5, hs5⟩ := Sl.upto (P := Try.prog) (t := 30) Try.underlying30 hi0 hz1 HS.out .i64 (m : Int) (by omega) (by omega)
        rw [Int.toNat_natCast] at hr5 hs5
        rw [Nat.mul_one, show (u8s D).take m = u8s (D.take m) by simp [u8s]] at hs5
        have hl5 : (D.take m).length = m := by have := HDL.out; simp; omega
        have HS5 := Lib.hid hs5; have HL5 := Lib.hid hl5
        clear hs5 hl5
        go_wp2_with fail
        go_meet
        case rel =>
          have e := HL5.out
          exact ⟨D.take m, aY, cD, by rw [e], Lib.hid (by omega), Lib.hid (by rw [e]; exact HS5.out), rfl⟩
    case rest =>
    obtain ⟨D2, aX, cX, rfl, HD2, HSX, rfl⟩ := hcut
    have HBC := Lib.hid (bt HB4.out HB.out)
    have HE4 := Lib.hid (slb HS4.out HB.out); have H5C := Lib.hid (slb H5.out HBC.out); have HSC := Lib.hid (slb HSC4.out HB.out)
    have HSRC2 := Lib.hid ((HE4.out.alloc (.cells #[] 5)).src (P := Try.prog) (tx := 30) Try.underlying30 (u8s_one _))
    clear HS HDL HB H2 H3 HS4 HSC4 HB4
    go_upto_region 15 with (first
      | (at_builtin; refine wpList_append (B := wc.heap.size) rfl _ _ _ _ rfl i0 (.int .u8 0) 1 Try.underlying30 hi0 hz0 hz1 hz2 rfl rfl (Own.bare _ _ _ _ _) _ rfl _ _ HSRC2.out (by simp only [maxLen]; omega) (by omega) (by simp) ?_; intro aM cM w6 ho6 hc6 hn6; (have hb6 : Below wc.heap.size wc w6 := ((Below.refl _ _).alloc (Nat.le_refl _) _).trans (hc6.below (by simp) (fun i hi ⟨_, h2⟩ => by omega))); (have HO6 : Hid (Own wc.heap.size w6 5 1 aM E.length cM (u8s E)) := Lib.hid (by simpa using ho6)); (have HB6 := Lib.hid hb6); (have hz6 := hb6.size); (have HSRC5 := Lib.hid ((slb H5C.out hb6).src (P := Try.prog) (tx := 30) Try.underlying30 (u8s_one _))); clear ho6 hc6 hn6 hb6)
      | (at_builtin; refine wpList_append (B := wc.heap.size) rfl _ _ _ _ rfl i0 (.int .u8 0) 1 Try.underlying30 hi0 hz0 hz1 hz2 rfl rfl HO6.out _ rfl _ _ HSRC5.out (by simp only [maxLen]; omega) (by omega) (by omega) ?_; intro aM2 cM2 w7 ho7 hc7 hn7; (have hb7 : Below wc.heap.size wc w7 := HB6.out.trans (hc7.below (by omega) (fun i hi ⟨_, h2⟩ => by omega))); (have HO7 := Lib.hid ho7); (have HB7 := Lib.hid hb7); clear ho7 hc7 hn7 hb7)
      | fail)
    obtain ⟨w8, hw8⟩ : ∃ w8, w8 = w7.alloc (.cells #[.slice aX D2.length cX, .slice aM2 (E.length + raw.length) cM2, .slice a5 raw.length c5] 30) := ⟨_, rfl⟩
    rw [← hw8]
    have hb8 : Below wc.heap.size wc w8 := by rw [hw8]; exact ba HB7.out _
    have r8 : Rw w8 w7.heap.size #[.slice aX D2.length cX, .slice aM2 (E.length + raw.length) cM2, .slice a5 raw.length c5] 30 := by rw [hw8]; exact Rw.new w7 _ _
    have sM : Sl (fun b => b < w8.heap.size) w8 1 aM2 (E.length + raw.length) cM2 (u8s E ++ u8s raw) := by rw [hw8]; exact (HO7.out.alloc _).sl.mono (fun k hk _ => hk) (by decide)
    generalize w7.heap.size = bI at *
    have HIN : Hid (∀ i : Nat, i < 3 → ∃ (aI : Option Addr) (cI : Nat) (X : List UInt8), w8.cell? ⟨bI, i, none⟩ = some (.slice aI X.length cI) ∧ Sl (fun b => b < w8.heap.size) w8 1 aI X.length cI (u8s X) ∧ X.length ≤ 10000000000000) := Lib.hid (fun i hi => by
      have e : i = 0 ∨ i = 1 ∨ i = 2 := by omega
      rcases e with rfl | rfl | rfl
      · exact ⟨aX, cX, D2, r8.cell 0, slb HSX.out hb8, by have := HD2.out; omega⟩
      · exact ⟨aM2, cM2, E ++ raw, by rw [List.length_append]; exact r8.cell 1, by rw [List.length_append, u8s_append]; exact sM, by rw [List.length_append]; omega⟩
      · exact ⟨a5, c5, raw, r8.cell 2, slb H5C.out hb8, by omega⟩)
    have HB8 := Lib.hid (bt HBC.out hb8); have HSC8 := Lib.hid (slb HSC.out hb8)
    clear hw8 r8 sM hb8 HO6 HO7 HB6 HB7 HSRC5 HSRC2 HE4 H5C HSC HSX HD2 HBC hz6 hwcz hz4
    go_wp2_with fail
    go_loopw [18] (fun iv wr => ∃ i : Nat, iv = .int .i64 (i : Int) ∧ i ≤ 3 ∧ Hid (Below w8.heap.size w8 wr)) (fun iv _ => 3 - (intOf iv).toNat)
    case atStart => exact ⟨0, rfl, by omega, Lib.hid (b0 w8)⟩
    case round =>
      obtain ⟨i, rfl, hi3, HB⟩ := hrel
      obtain ⟨wo, rfl⟩ : ∃ wo : World, wo = wr := ⟨_, rfl⟩
      have hszo := HB.out.size
      by_cases hlt : i < 3
      · obtain ⟨aI, cI, X, g0, hsI, hXl⟩ := HIN.out i hlt
        have g0w := cb HB.out g0
        have HSI := Lib.hid (slb hsI HB.out)
        have HSRC := Lib.hid ((HSI.out.alloc (.cells #[] 5)).src (P := Try.prog) (tx := 30) Try.underlying30 (u8s_one _))
        have g0a := cb (ba (b0 wo) (.cells #[] 5)) g0w
        have hii0 : (0 : Int) ≤ (i : Int) := by omega
        have hii3 : (i : Int) < 3 := by omega
        have HG0 := Lib.hid g0w
        clear g0 hsI g0w
        go_wp2_with (at_builtin; refine wpList_append (B := wo.heap.size) rfl _ _ _ _ rfl i0 (.int .u8 0) 1 Try.underlying30 hi0 hz0 hz1 hz2 rfl rfl (Own.bare _ _ _ _ _) _ rfl _ _ HSRC.out (by simp only [maxLen]; omega) (by omega) (by simp) ?_; intro aC cC w9 ho9 hc9 hn9)
        have hb9 : Below wo.heap.size wo w9 := ((Below.refl _ _).alloc (Nat.le_refl _) _).trans (hc9.below (by simp) (fun i hi ⟨_, h2⟩ => by omega))
        have ho9' : Own wo.heap.size w9 5 1 aC X.length cC (u8s X) := by simpa using ho9
        have HS9 := Lib.hid (ho9'.sl.mono (ok' := fun b => b < w9.heap.size) (fun k hk _ => hk) (by decide))
        have HB9 := Lib.hid (bt HB.out hb9)
        have g9 := cb hb9 HG0.out
        have HSI9 := Lib.hid (slb HSI.out hb9)
        clear ho9 hc9 hn9 hb9 ho9' g0a HSRC HG0 HSI
        refine (parse_v L sh HSCH.out a cap aC cC X w9 (slb HSC8.out HB9.out) HS9.out hXl).mono ?_
        rintro e w10 ⟨x1, a10, c10, ys10, e10, rfl, hs10, hr10, hp10, hb10⟩
        have HB10 := Lib.hid (bt HB9.out hb10)
        have g10 := cb hb10 g9
        have HSI10 := Lib.hid (slb HSI9.out hb10)
        have HS10 := Lib.hid (hs10.mono (ok' := fun b => b < w10.heap.size) (fun k hk _ => hk) (by decide)); have HR10 := Lib.hid hr10.at
        have HP10 := Lib.hid hp10
        clear hs10 hr10 hb10 g9 hp10 HSI9 HS9 HB9
        go_wp2_with fail
        refine (rparse_v L sh HSCH.out a cap aI cI X w10 (slb HSC8.out HB10.out) HSI10.out hXl).mono ?_
        rintro e w11 ⟨x2, a11, c11, ys11, e11, rfl, hs11, hr11, hp11, hb11⟩
        have heq : x2 = x1 ∧ e11 = e10 := by
          have h1 := HP10.out
          unfold PRes at h1 hp11
          cases hd : decR sh X with
          | ok y => rw [hd] at h1 hp11; exact ⟨hp11.1.trans h1.1.symm, hp11.2.trans h1.2.symm⟩
          | error z => rw [hd] at h1 hp11; exact ⟨hp11.2.2.trans h1.2.2.symm, hp11.1.trans h1.1.symm⟩
        obtain ⟨rfl, rfl⟩ := heq
        have HB11 := Lib.hid (bt HB10.out hb11)
        have g11 := cb hb11 g10
        have HSI11 := Lib.hid (slb HSI10.out hb11)
        have HS10' := Lib.hid (slb HS10.out hb11); have HR10' := Lib.hid (RowAt.below hb11 _ _ HR10.out)
        have HS11 := Lib.hid (hs11.mono (ok' := fun b => b < w11.heap.size) (fun k hk _ => hk) (by decide)); have HR11 := Lib.hid hr11.at
        have hsr := Lib.hid (sameL_refl x2)
        clear hs11 hr11 hb11 g10 hp11 HSI10 HS10 HR10 HB10
        go_wp2_with fail
        refine (trees_v x2 x2 a10 c10 ys10 a11 c11 ys11 w11 HS10'.out HR10'.out HS11.out HR11.out).mono ?_
        rintro e w12 ⟨rfl, hb12⟩
        rw [hsr.out]
        have HB12 := Lib.hid (bt HB11.out hb12)
        have g12 := cb hb12 g11
        have HSI12 := Lib.hid (slb HSI11.out hb12)
        have HS12 := Lib.hid (slb HS10'.out hb12); have HR12 := Lib.hid (RowAt.below hb12 _ _ HR10'.out)
        clear hb12 g11 HSI11 HS10' HR10' HS11 HR11 HB11
        by_cases he : e11 = 0
        · subst he
          have hd : decR sh X = .ok x2 := by
            have h1 := HP10.out
            unfold PRes at h1
            cases hd : decR sh X with
            | ok y => rw [hd] at h1; rw [h1.1]
            | error z => rw [hd] at h1; exact absurd h1.1.symm h1.2.1
          obtain ⟨hx200, hxok, hxe⟩ := decR_ok hd
          have HOKX := Lib.hid hxok
          clear hd hxok HP10
          subst hxe
          have HXL := Lib.hid hXl
          have g12' := Lib.hid g12
          clear g12
          go_wp2_with fail
          have hq := HSI12.out; have hg := g12'.out
          have HB' := b0 w12
          refine Go.Shr.wp_region_F (fun w' => Sl (fun b => b < w'.heap.size) w' 1 aI (encR sh x2).length cI (u8s (encR sh x2)) ∧ w'.cell? ⟨bI, i, none⟩ = some (.slice aI (encR sh x2).length cI)) [9] (by kernel_rfl) ?g15rgS (fun hHeld => ?g15rgR)
          case g15rgS => (try dsimp only); (first | exact ⟨hq, hg⟩ | exact ⟨hq.drew, hg⟩)
          try dsimp only at hHeld
          obtain ⟨W, hW⟩ : ∃ W, W = w12.drew := ⟨_, rfl⟩; rw [← hW] at hHeld ⊢; (replace hq := Go.Shr.Sl.ren hW hq.drew); (replace HB' := Go.Shr.Below.ren hW HB'.drew); (replace hg := cb HB' g12'.out); clear hW
          refine Go.Shr.wpAnyF_take 0 (oi := { dst := some 125, op := Go.Op.move (Go.Operand.tmp 13), type := 26, pos := "law.go:80", after := #[], guard := none }) (v := ?g15rv1) rfl (by kernel_rfl) (fun _ _ _ h => h) (by assumption) (by rfl) ?g15ry1 ?g15rr1
          case g15ry1 => intro w hSw; (obtain ⟨s0, s1⟩ := hSw); (have cv1 := s0.toString (P := Try.prog) Try.underlying30 Try.underlying5 Try.underlying9); go_simp; try with_reducible rfl
          try simp only [Act.put, List.setIfInBounds_toArray, List.set_cons_zero, List.set_cons_succ]
          refine Go.Shr.wpAnyF_take 1 (oi := { dst := some 126, op := Go.Op.move (Go.Operand.tmp 19), type := 28, pos := "law.go:80", after := #[], guard := none }) (v := ?g15rv2) rfl (by kernel_rfl) (fun _ _ _ h => h) (by assumption) (by rfl) ?g15ry2 ?g15rr2
          case g15ry2 => intro w hSw; (obtain ⟨s0, s1⟩ := hSw); (have cv1 := s0.toString (P := Try.prog) Try.underlying30 Try.underlying5 Try.underlying9); go_simp; try with_reducible rfl
          try simp only [Act.put, List.setIfInBounds_toArray, List.set_cons_zero, List.set_cons_succ]
          refine Go.Shr.wpAnyF_take 4 (oi := { dst := some 129, op := Go.Op.move (Go.Operand.tmp 17), type := 43, pos := "law.go:80", after := #[], guard := none }) (v := ?g15rv3) rfl (by kernel_rfl) (fun _ _ _ h => h) (by assumption) (by rfl) ?g15ry3 ?g15rr3
          case g15ry3 => intro w hSw; (obtain ⟨s0, s1⟩ := hSw); (have cv1 := s0.toString (P := Try.prog) Try.underlying30 Try.underlying5 Try.underlying9); go_simp; try with_reducible rfl
          try simp only [Act.put, List.setIfInBounds_toArray, List.set_cons_zero, List.set_cons_succ]
          refine Go.Shr.wpAnyF_take 5 (oi := { dst := some 130, op := Go.Op.move (Go.Operand.tmp 18), type := 3, pos := "law.go:80", after := #[], guard := none }) (v := ?g15rv4) rfl (by kernel_rfl) (fun _ _ _ h => h) (by assumption) (by rfl) ?g15ry4 ?g15rr4
          case g15ry4 => intro w hSw; (obtain ⟨s0, s1⟩ := hSw); (have cv1 := s0.toString (P := Try.prog) Try.underlying30 Try.underlying5 Try.underlying9); go_simp; try with_reducible rfl
          try simp only [Act.put, List.setIfInBounds_toArray, List.set_cons_zero, List.set_cons_succ]
          refine Go.Shr.wpAnyF_take 6 (oi := { dst := some 131, op := Go.Op.indexAddr 43 (Go.Operand.tmp 129) (Go.Operand.tmp 130), type := 0, pos := "law.go:80", after := #[{ on := 4, ground := Go.Ground.data }, { on := 5, ground := Go.Ground.data }], guard := none }) (v := ?g15rv5) rfl (by kernel_rfl) (fun _ _ _ h => h) (by assumption) (by rfl) ?g15ry5 ?g15rr5
          case g15ry5 => intro w hSw; (obtain ⟨s0, s1⟩ := hSw); (have cv1 := s0.toString (P := Try.prog) Try.underlying30 Try.underlying5 Try.underlying9); go_simp; try with_reducible rfl
          try simp only [Act.put, List.setIfInBounds_toArray, List.set_cons_zero, List.set_cons_succ]
          refine Go.Shr.wpAnyF_take 7 (oi := { dst := some 132, op := Go.Op.load 30 (Go.Operand.tmp 131), type := 30, pos := "law.go:80", after := #[{ on := 6, ground := Go.Ground.data }], guard := none }) (v := ?g15rv6) rfl (by kernel_rfl) (fun _ _ _ h => h) (by assumption) (by rfl) ?g15ry6 ?g15rr6
          case g15ry6 => intro w hSw; (obtain ⟨s0, s1⟩ := hSw); (have cv1 := s0.toString (P := Try.prog) Try.underlying30 Try.underlying5 Try.underlying9); go_simp; try with_reducible rfl
          try simp only [Act.put, List.setIfInBounds_toArray, List.set_cons_zero, List.set_cons_succ]
          refine Go.Shr.wpAnyF_take 8 (oi := { dst := some 133, op := Go.Op.convert 30 9 (Go.Operand.tmp 132), type := 9, pos := "law.go:80", after := #[{ on := 7, ground := Go.Ground.data }], guard := none }) (v := ?g15rv7) rfl (by kernel_rfl) (fun _ _ _ h => h) (by assumption) (by rfl) ?g15ry7 ?g15rr7
          case g15ry7 => intro w hSw; (obtain ⟨s0, s1⟩ := hSw); (have cv1 := s0.toString (P := Try.prog) Try.underlying30 Try.underlying5 Try.underlying9); go_simp; try with_reducible rfl
          try simp only [Act.put, List.setIfInBounds_toArray, List.set_cons_zero, List.set_cons_succ]
          refine Go.Shr.wpAnyF_ready [2] (by kernel_rfl) (by simp) ?_
          refine Go.Shr.AllReadyF.cons 2 (o := { dst := some 127, op := Go.Op.call { callee := Go.Callee.value (Go.Operand.func 14), args := #[Go.Operand.tmp 125, Go.Operand.tmp 126], argTypes := #[26, 28] }, type := 30, pos := "law.go:80", after := #[{ on := 0, ground := Go.Ground.data }, { on := 1, ground := Go.Ground.data }], guard := none }) rfl (fun K hK => ?g15ro8) ?g15rm8
          case g15rm8 => exact Go.Shr.AllReadyF.nil
          go_simp; refine (bytes_v L sh HSCH.out a cap x2 a10 c10 ys10 W (slb HSC8.out (bt HB12.out HB')) (slb HS12.out HB') (RowAt.below HB' _ _ HR12.out) HXL.out).mono ?_; rintro e W3 ⟨aQ, cQ, rfl, hoQ, hbQ⟩; dsimp only; refine gen_w (fun W hW => ?_); (have hp := Go.Shr.Sl.ren hW (hoQ.sl.mono (ok' := fun b => b < W3.heap.size) (fun k hk _ => hk) (by decide))); (replace hq := Go.Shr.Sl.ren hW (slb hq hbQ)); (replace HB' := Go.Shr.Below.ren hW (bt HB' hbQ)); (replace hg := cb HB' g12'.out); clear hW hbQ hoQ
          refine hK.out _ _ ?g15rs8 (fun hHeld => ?g15rt8)
          case g15rs8 => (try dsimp only); (first | exact ⟨hq, hg⟩ | exact ⟨hq.drew, hg⟩)
          try dsimp only at hHeld
          clear hK K
          try simp only [Act.put, List.setIfInBounds_toArray, List.set_cons_zero, List.set_cons_succ]
          refine Go.Shr.wpAnyF_ready [3] (by kernel_rfl) (by simp) ?_
          refine Go.Shr.AllReadyF.cons 3 (o := { dst := some 128, op := Go.Op.convert 30 9 (Go.Operand.tmp 127), type := 9, pos := "law.go:80", after := #[{ on := 2, ground := Go.Ground.data }], guard := none }) rfl (fun K hK => ?g15ro9) ?g15rm9
          case g15rm9 => exact Go.Shr.AllReadyF.nil
          (have cv2 := hp.toString (P := Try.prog) Try.underlying30 Try.underlying5 Try.underlying9); go_simp; clear cv2
          refine hK.out _ _ ?g15rs9 (fun hHeld => ?g15rt9)
          case g15rs9 => (try dsimp only); (first | exact ⟨hq, hg⟩ | exact ⟨hq.drew, hg⟩)
          try dsimp only at hHeld
          clear hK K
          try simp only [Act.put, List.setIfInBounds_toArray, List.set_cons_zero, List.set_cons_succ]
          refine Go.Shr.wpAnyF_ready [9] (by kernel_rfl) (by simp) ?_
          refine Go.Shr.AllReadyF.last 9 (o := { dst := some 134, op := Go.Op.binOp Go.BinOp.neq 9 (Go.Operand.tmp 128) (Go.Operand.tmp 133) 9, type := 4, pos := "law.go:80", after := #[{ on := 3, ground := Go.Ground.data }, { on := 8, ground := Go.Ground.data }], guard := none }) rfl (by kernel_rfl) (fun K hK => ?g15ro10) ?g15rm10
          case g15rm10 => exact Go.Shr.AllReadyF.nil
          go_simp
          refine hK.out _ _ ?_
          clear hK K
          try simp only [Act.put, List.setIfInBounds_toArray, List.set_cons_zero, List.set_cons_succ]
          refine Go.Shr.wpAnyF_done (by kernel_rfl) ?_
          have HBW := Lib.hid (bt HB12.out HB')
          have HSW := Lib.hid (slb HS12.out HB')
          have HRW := Lib.hid (RowAt.g _ _ (RowAt.below HB' _ _ HR12.out))
          have hxl : x2.length ≤ 200 := hx200
          clear hp hq HB' hg
          go_wp2_with fail
          go_loopw [23] (fun kv wr => ∃ k : Nat, kv = .int .i64 (k : Int) ∧ k ≤ x2.length ∧ Hid (Below W.heap.size W wr)) (fun kv _ => x2.length - (intOf kv).toNat)
          case atStart => exact ⟨0, rfl, by omega, Lib.hid (b0 W)⟩
          case round =>
            obtain ⟨k, rfl, hk, HBK⟩ := hrel
            by_cases hkl : k < x2.length
            · obtain ⟨xb, xoff, hxa, hxb, hxc⟩ := HSW.out.pos (by omega)
              obtain ⟨d0, d1, d2, t0, t1, t2, hte⟩ := HRW.out.get' k hkl
              obtain ⟨ta, tm, tcap, _, hcs2, hxm, _, _, _⟩ := hte.parts'
              simp at hcs2
              obtain ⟨rfl, rfl, rfl⟩ := hcs2
              subst hxm
              have v0 := cb HBK.out (hxc _ _ t0)
              have v1 := cb HBK.out (hxc _ _ t1)
              have v2 := cb HBK.out (hxc _ _ t2)
              rw [← Nat.add_assoc] at v1 v2
              have HT := Lib.hid hte.at
              have HFT : Hid (fitT L (KF L) x2[k] 0 = 0) := Lib.hid (fit_okT sh 0 x2[k] HSCH.out.ix HSCH.out.good (HOKX.out _ (List.getElem_mem hkl)))
              generalize x2[k] = t at *
              clear hxc t0 t1 t2 hte
              subst hxa
              go_wp2_with fail
              refine (rFits_v L HSCH.out.wf HSCH.out.goodK t a cap ta tcap wr (slb HSC8.out (bt HBW.out HBK.out)) (TrAt.below HBK.out _ _ HT.out)).mono ?_
              rintro e wK ⟨rfl, hbK⟩
              rw [HFT.out]
              have HBK2 := Lib.hid (bt HBK.out hbK)
              clear hbK v0 v1 v2
              go_wp2_with fail
              go_roundw
              case rel => exact ⟨k + 1, by go_num, by omega, HBK2⟩
              case measure => simp [intOf]; omega
            · obtain rfl : k = x2.length := by omega
              go_wp2_with fail
              go_roundw
              case rel => exact ⟨i + 1, by go_num, by omega, Lib.hid (bt HBW.out HBK.out)⟩
              case measure => simp [intOf]; omega
        · have heb : ((e11 : Int) != 0) = true := by simp; omega
          clear he
          go_wp2_with fail
          go_roundw
          case rel => exact ⟨i + 1, by go_num, by omega, HB12⟩
          case measure => simp [intOf]; omega
      · obtain rfl : i = 3 := by omega
        go_wp2_with fail
        go_ret
        exact ⟨rfl, bt HB8.out HB.out⟩
end Go.Proofs.Ytofhlopedflkiaa
