/-
  The walk of WireBytes.
-/
import Derived.Test.YtofhlopedflkiaaRBytes9
import Derived.Test.YtofhlopedflkiaaFront9
set_option linter.unusedSimpArgs false
namespace Go.Proofs.Ytofhlopedflkiaa
open Go.RowKit Go.Shr
set_option maxHeartbeats 2000000 in
set_option maxRecDepth 100000 in
theorem law_wbytes (a0 : Option Addr) (n0 c0 : Nat) (z0 : List Int) (a1 : Option Addr) (n1 c1 : Nat) (zz : List (List Int)) (xs1 : List Value) (w : World) (h0 : Sl (fun b => b < w.heap.size) w 1 a0 n0 c0 (ints z0)) (w0 : ∀ z ∈ z0, (Lit.int .i64 z).wf = true)
    (h1 : Sl (fun b => b < w.heap.size) w 1 a1 n1 c1 xs1) (hr1 : IRows w zz xs1) (w1 : ∀ z ∈ zz, ∀ v ∈ z, (Lit.int .i64 v).wf = true) :
    Calls Try.prog 5 #[.slice a0 n0 c0, .slice a1 n1 c1] w fun e w' => e = .returned (.bool true) ∧ Below w.heap.size w w' := by
  have H0 := Lib.hid h0; have H1 := Lib.hid h1; have HR := Lib.hid hr1; have W0 := Lib.hid w0; have W1 := Lib.hid w1
  clear h0 h1 hr1 w0 w1
  go_enter Try.func5, Try.ntmps5
  go_wp2_with fail
  refine (known9 _).mono ?_
  rintro e w1 ⟨rfl, hb1⟩
  have HB1 := Lib.hid hb1; clear hb1
  go_wp2_with fail
  refine (make5 a0 n0 c0 z0 w1 (slb H0.out HB1.out) W0.out).mono ?_
  rintro e w2 ⟨a, cap, rfl, ho, hb2⟩
  have HSC := Lib.hid (Sl.mono (ok' := fun b => b < w2.heap.size) ho.sl (fun k hk _ => hk) (by decide))
  have HB2 := Lib.hid (bt HB1.out hb2)
  clear ho hb2
  go_wp2_with fail
  refine (many_v (makeL z0) (makeSh z0) (make_sch z0) a cap a1 n1 c1 zz xs1 w2 HSC.out (slb H1.out HB2.out) (HR.out.below HB2.out) W1.out).mono ?_
  rintro e w3 ⟨al, cl, ys, rfl, hsl, hrow, hb3⟩
  have HB3 := Lib.hid (bt HB2.out hb3); have HSC3 := Lib.hid (slb HSC.out hb3)
  have HSL := Lib.hid (hsl.mono (ok' := fun b => b < w3.heap.size) (fun k hk _ => hk) (by decide))
  have HROW := Lib.hid hrow.at
  have HOKS := Lib.hid (many_ok W1.out (makeSh z0)); have HENC := Lib.hid (many_enc7 (ns := z0) W1.out)
  have hx16 := manyT_len (makeSh z0) zz
  have HSCH := Lib.hid (make_sch z0)
  generalize manyT (makeSh z0) zz = x at *
  generalize makeL z0 = L at *
  generalize makeSh z0 = sh at *
  clear hsl hrow hb3 HB2 HSC HB1 H0 H1 HR W0 W1
  go_wp2_with fail
  refine (bytes_v L sh HSCH.out a cap x al cl ys w3 HSC3.out HSL.out HROW.out (Nat.le_trans HENC.out (by decide))).mono ?_
  rintro e w4 ⟨a4, c4, rfl, ho4, hb4⟩
  have HB4 := Lib.hid (bt HB3.out hb4); have HSC4 := Lib.hid (slb HSC3.out hb4)
  have hs4 := ho4.sl.mono (ok' := fun b => b < w4.heap.size) (fun k hk _ => hk) (by decide)
  have HS4 := Lib.hid hs4
  have HL4 := Lib.hid (slb HSL.out hb4); have HRW4 := Lib.hid (RowAt.below hb4 _ _ HROW.out)
  clear ho4 hb4 hs4 HSL HROW HSC3 HB3
  go_wp2_with fail
  refine (parse_v L sh HSCH.out a cap a4 c4 (encR sh x) w4 HSC4.out HS4.out (Nat.le_trans HENC.out (by decide))).mono ?_
  rintro e w6 ⟨y, a6, c6, ys6, e6, rfl, hs6, hr6, hp6, hb6⟩
  rw [decR_enc sh x (by omega) HOKS.out] at hp6
  obtain ⟨rfl, rfl⟩ := hp6
  have HB6 := Lib.hid (bt HB4.out hb6); have HSC6 := Lib.hid (slb HSC4.out hb6)
  have hq := slb HS4.out hb6
  have HL6 := Lib.hid (slb HL4.out hb6); have HRW6 := Lib.hid (RowAt.below hb6 _ _ HRW4.out)
  have HY6 := Lib.hid (hs6.mono (ok' := fun b => b < w6.heap.size) (fun k hk _ => hk) (by decide))
  have HYR6 := Lib.hid hr6.at
  clear hs6 hr6 hb6 HS4 HL4 HRW4 HSC4 HB4
  have hsr := sameL_refl y
  have HSR := Lib.hid hsr
  clear hsr
  go_wp2_with fail
  have HB := b0 w6
  refine Go.Shr.wp_region_F (fun w' => Sl (fun b => b < w'.heap.size) w' 1 a4 (encR sh y).length c4 (u8s (encR sh y))) [16] (by kernel_rfl) ?g2rgS (fun hHeld => ?g2rgR)
  case g2rgS => (try dsimp only); (first | exact hq | exact hq.drew)
  try dsimp only at hHeld
  obtain ⟨W, hW⟩ : ∃ W, W = w6.drew := ⟨_, rfl⟩; rw [← hW] at hHeld ⊢; (replace hq := Go.Shr.Sl.ren hW hq.drew); (replace HB := Go.Shr.Below.ren hW HB.drew); clear hW
  refine Go.Shr.wpAnyF_take 0 (oi := { dst := some 26, op := Go.Op.move (Go.Operand.tmp 7), type := 30, pos := "law.go:50", after := #[], guard := none }) (v := ?g2rv1) rfl (by kernel_rfl) (fun _ _ _ h => h) (by assumption) (by rfl) ?g2ry1 ?g2rr1
  case g2ry1 => intro w hSw; (have cv1 := hSw.toString (P := Try.prog) Try.underlying30 Try.underlying5 Try.underlying9); go_simp; try with_reducible rfl
  try simp only [Act.put, List.setIfInBounds_toArray, List.set_cons_zero, List.set_cons_succ]
  refine Go.Shr.wpAnyF_take 1 (oi := { dst := some 27, op := Go.Op.convert 30 9 (Go.Operand.tmp 26), type := 9, pos := "law.go:50", after := #[{ on := 0, ground := Go.Ground.data }], guard := none }) (v := ?g2rv2) rfl (by kernel_rfl) (fun _ _ _ h => h) (by assumption) (by rfl) ?g2ry2 ?g2rr2
  case g2ry2 => intro w hSw; (have cv1 := hSw.toString (P := Try.prog) Try.underlying30 Try.underlying5 Try.underlying9); go_simp; try with_reducible rfl
  try simp only [Act.put, List.setIfInBounds_toArray, List.set_cons_zero, List.set_cons_succ]
  refine Go.Shr.wpAnyF_take 2 (oi := { dst := some 28, op := Go.Op.move (Go.Operand.tmp 5), type := 26, pos := "law.go:50", after := #[], guard := none }) (v := ?g2rv3) rfl (by kernel_rfl) (fun _ _ _ h => h) (by assumption) (by rfl) ?g2ry3 ?g2rr3
  case g2ry3 => intro w hSw; (have cv1 := hSw.toString (P := Try.prog) Try.underlying30 Try.underlying5 Try.underlying9); go_simp; try with_reducible rfl
  try simp only [Act.put, List.setIfInBounds_toArray, List.set_cons_zero, List.set_cons_succ]
  refine Go.Shr.wpAnyF_take 3 (oi := { dst := some 29, op := Go.Op.move (Go.Operand.tmp 6), type := 28, pos := "law.go:50", after := #[], guard := none }) (v := ?g2rv4) rfl (by kernel_rfl) (fun _ _ _ h => h) (by assumption) (by rfl) ?g2ry4 ?g2rr4
  case g2ry4 => intro w hSw; (have cv1 := hSw.toString (P := Try.prog) Try.underlying30 Try.underlying5 Try.underlying9); go_simp; try with_reducible rfl
  try simp only [Act.put, List.setIfInBounds_toArray, List.set_cons_zero, List.set_cons_succ]
  refine Go.Shr.wpAnyF_ready [4] (by kernel_rfl) (by simp) ?_
  refine Go.Shr.AllReadyF.cons 4 (o := { dst := some 30, op := Go.Op.call { callee := Go.Callee.value (Go.Operand.func 18), args := #[Go.Operand.tmp 28, Go.Operand.tmp 29], argTypes := #[26, 28] }, type := 30, pos := "law.go:50", after := #[{ on := 2, ground := Go.Ground.data }, { on := 3, ground := Go.Ground.data }], guard := none }) rfl (fun K hK => ?g2ro5) ?g2rm5
  case g2rm5 => exact Go.Shr.AllReadyF.nil
  go_simp; refine (rbytes_v L sh HSCH.out a cap y al cl ys W (slb HSC6.out HB) (slb HL6.out HB) (RowAt.below HB _ _ HRW6.out) HOKS.out (Nat.le_trans HENC.out (by decide))).mono ?_; rintro e W3 ⟨a3, c3, rfl, ho3, hb3⟩; dsimp only; refine gen_w (fun W hW => ?_); (have hp := Go.Shr.Sl.ren hW (ho3.sl.mono (ok' := fun b => b < W3.heap.size) (fun k hk _ => hk) (by decide))); (replace hq := Go.Shr.Sl.ren hW (slb hq hb3)); (replace HB := Go.Shr.Below.ren hW (bt HB hb3)); clear hW hb3 ho3
  refine hK.out _ _ ?g2rs5 (fun hHeld => ?g2rt5)
  case g2rs5 => (try dsimp only); (first | exact hq | exact hq.drew)
  try dsimp only at hHeld
  clear hK K
  try simp only [Act.put, List.setIfInBounds_toArray, List.set_cons_zero, List.set_cons_succ]
  refine Go.Shr.wpAnyF_ready [5] (by kernel_rfl) (by simp) ?_
  refine Go.Shr.AllReadyF.cons 5 (o := { dst := some 31, op := Go.Op.convert 30 9 (Go.Operand.tmp 30), type := 9, pos := "law.go:50", after := #[{ on := 4, ground := Go.Ground.data }], guard := none }) rfl (fun K hK => ?g2ro6) ?g2rm6
  case g2rm6 => exact Go.Shr.AllReadyF.nil
  (have cv2 := hp.toString (P := Try.prog) Try.underlying30 Try.underlying5 Try.underlying9); go_simp; clear cv2
  refine hK.out _ _ ?g2rs6 (fun hHeld => ?g2rt6)
  case g2rs6 => (try dsimp only); (first | exact hq | exact hq.drew)
  try dsimp only at hHeld
  clear hK K
  try simp only [Act.put, List.setIfInBounds_toArray, List.set_cons_zero, List.set_cons_succ]
  refine Go.Shr.wpAnyF_take 6 (oi := { dst := some 32, op := Go.Op.binOp Go.BinOp.eql 9 (Go.Operand.tmp 27) (Go.Operand.tmp 31) 9, type := 4, pos := "law.go:50", after := #[{ on := 1, ground := Go.Ground.data }, { on := 5, ground := Go.Ground.data }], guard := none }) (v := ?g2rv7) rfl (by kernel_rfl) (fun _ _ _ h => h) (by assumption) (by rfl) ?g2ry7 ?g2rr7
  case g2ry7 => intro w hSw; (have cv1 := hSw.toString (P := Try.prog) Try.underlying30 Try.underlying5 Try.underlying9); go_simp; try with_reducible rfl
  try simp only [Act.put, List.setIfInBounds_toArray, List.set_cons_zero, List.set_cons_succ]
  refine Go.Shr.wpAnyF_take 7 (oi := { dst := some 33, op := Go.Op.move (Go.Operand.tmp 32), type := 4, pos := "law.go:50", after := #[{ on := 6, ground := Go.Ground.data }, { on := 4, ground := Go.Ground.chain }], guard := none }) (v := ?g2rv8) rfl (by kernel_rfl) (fun _ _ _ h => h) (by assumption) (by rfl) ?g2ry8 ?g2rr8
  case g2ry8 => intro w hSw; (have cv1 := hSw.toString (P := Try.prog) Try.underlying30 Try.underlying5 Try.underlying9); go_simp; try with_reducible rfl
  try simp only [Act.put, List.setIfInBounds_toArray, List.set_cons_zero, List.set_cons_succ]
  first
    | refine Go.Shr.wpAnyF_skip 8 (oi := { dst := some 34, op := Go.Op.move (Go.Operand.tmp 9), type := 39, pos := "law.go:50", after := #[{ on := 7, ground := Go.Ground.guard }], guard := some (7, true) }) rfl (by kernel_rfl) (fun _ _ _ h => h) (by assumption) (by rfl) ?_
    | (refine Go.Shr.wpAnyF_take 8 (oi := { dst := some 34, op := Go.Op.move (Go.Operand.tmp 9), type := 39, pos := "law.go:50", after := #[{ on := 7, ground := Go.Ground.guard }], guard := some (7, true) }) (v := ?g2rv9) rfl (by kernel_rfl) (fun _ _ _ h => h) (by assumption) (by rfl) ?g2ry9 ?g2rr9
       case g2ry9 => intro w hSw; (have cv1 := hSw.toString (P := Try.prog) Try.underlying30 Try.underlying5 Try.underlying9); go_simp; try with_reducible rfl)
  try simp only [Act.put, List.setIfInBounds_toArray, List.set_cons_zero, List.set_cons_succ]
  first
    | refine Go.Shr.wpAnyF_skip 9 (oi := { dst := some 35, op := Go.Op.binOp Go.BinOp.eql 39 (Go.Operand.tmp 34) (Go.Operand.const (Go.Value.int Go.IntKind.i64 0)) 39, type := 4, pos := "law.go:50", after := #[{ on := 8, ground := Go.Ground.data }, { on := 7, ground := Go.Ground.guard }], guard := some (7, true) }) rfl (by kernel_rfl) (fun _ _ _ h => h) (by assumption) (by rfl) ?_
    | (refine Go.Shr.wpAnyF_take 9 (oi := { dst := some 35, op := Go.Op.binOp Go.BinOp.eql 39 (Go.Operand.tmp 34) (Go.Operand.const (Go.Value.int Go.IntKind.i64 0)) 39, type := 4, pos := "law.go:50", after := #[{ on := 8, ground := Go.Ground.data }, { on := 7, ground := Go.Ground.guard }], guard := some (7, true) }) (v := ?g2rv10) rfl (by kernel_rfl) (fun _ _ _ h => h) (by assumption) (by rfl) ?g2ry10 ?g2rr10
       case g2ry10 => intro w hSw; (have cv1 := hSw.toString (P := Try.prog) Try.underlying30 Try.underlying5 Try.underlying9); go_simp; try with_reducible rfl)
  try simp only [Act.put, List.setIfInBounds_toArray, List.set_cons_zero, List.set_cons_succ]
  refine Go.Shr.wpAnyF_take 10 (oi := { dst := some 36, op := Go.Op.pick (Go.Operand.tmp 33) (Go.Operand.tmp 35) (Go.Operand.const (Go.Value.bool false)), type := 4, pos := "law.go:50", after := #[{ on := 7, ground := Go.Ground.data }, { on := 9, ground := Go.Ground.data }], guard := none }) (v := ?g2rv11) rfl (by kernel_rfl) (fun _ _ _ h => h) (by assumption) (by rfl) ?g2ry11 ?g2rr11
  case g2ry11 => intro w hSw; (have cv1 := hSw.toString (P := Try.prog) Try.underlying30 Try.underlying5 Try.underlying9); go_simp; try with_reducible rfl
  try simp only [Act.put, List.setIfInBounds_toArray, List.set_cons_zero, List.set_cons_succ]
  refine Go.Shr.wpAnyF_take 11 (oi := { dst := some 37, op := Go.Op.move (Go.Operand.tmp 36), type := 4, pos := "law.go:50", after := #[{ on := 10, ground := Go.Ground.data }, { on := 7, ground := Go.Ground.chain }], guard := none }) (v := ?g2rv12) rfl (by kernel_rfl) (fun _ _ _ h => h) (by assumption) (by rfl) ?g2ry12 ?g2rr12
  case g2ry12 => intro w hSw; (have cv1 := hSw.toString (P := Try.prog) Try.underlying30 Try.underlying5 Try.underlying9); go_simp; try with_reducible rfl
  try simp only [Act.put, List.setIfInBounds_toArray, List.set_cons_zero, List.set_cons_succ]
  first
    | refine Go.Shr.wpAnyF_skip 12 (oi := { dst := some 38, op := Go.Op.move (Go.Operand.tmp 8), type := 28, pos := "law.go:50", after := #[{ on := 11, ground := Go.Ground.guard }], guard := some (11, true) }) rfl (by kernel_rfl) (fun _ _ _ h => h) (by assumption) (by rfl) ?_
    | (refine Go.Shr.wpAnyF_take 12 (oi := { dst := some 38, op := Go.Op.move (Go.Operand.tmp 8), type := 28, pos := "law.go:50", after := #[{ on := 11, ground := Go.Ground.guard }], guard := some (11, true) }) (v := ?g2rv13) rfl (by kernel_rfl) (fun _ _ _ h => h) (by assumption) (by rfl) ?g2ry13 ?g2rr13
       case g2ry13 => intro w hSw; (have cv1 := hSw.toString (P := Try.prog) Try.underlying30 Try.underlying5 Try.underlying9); go_simp; try with_reducible rfl)
  try simp only [Act.put, List.setIfInBounds_toArray, List.set_cons_zero, List.set_cons_succ]
  first
    | refine Go.Shr.wpAnyF_skip 13 (oi := { dst := some 39, op := Go.Op.move (Go.Operand.tmp 6), type := 28, pos := "law.go:50", after := #[{ on := 11, ground := Go.Ground.guard }], guard := some (11, true) }) rfl (by kernel_rfl) (fun _ _ _ h => h) (by assumption) (by rfl) ?_
    | (refine Go.Shr.wpAnyF_take 13 (oi := { dst := some 39, op := Go.Op.move (Go.Operand.tmp 6), type := 28, pos := "law.go:50", after := #[{ on := 11, ground := Go.Ground.guard }], guard := some (11, true) }) (v := ?g2rv14) rfl (by kernel_rfl) (fun _ _ _ h => h) (by assumption) (by rfl) ?g2ry14 ?g2rr14
       case g2ry14 => intro w hSw; (have cv1 := hSw.toString (P := Try.prog) Try.underlying30 Try.underlying5 Try.underlying9); go_simp; try with_reducible rfl)
  try simp only [Act.put, List.setIfInBounds_toArray, List.set_cons_zero, List.set_cons_succ]
  refine Go.Shr.wpAnyF_ready [14] (by kernel_rfl) (by simp) ?_
  refine Go.Shr.AllReadyF.cons 14 (o := { dst := some 40, op := Go.Op.call { callee := Go.Callee.value (Go.Operand.func 16), args := #[Go.Operand.tmp 38, Go.Operand.tmp 39], argTypes := #[28, 28] }, type := 4, pos := "law.go:50", after := #[{ on := 12, ground := Go.Ground.data }, { on := 13, ground := Go.Ground.data }, { on := 11, ground := Go.Ground.chain }, { on := 11, ground := Go.Ground.guard }], guard := some (11, true) }) rfl (fun K hK => ?g2ro15) ?g2rm15
  case g2rm15 => exact Go.Shr.AllReadyF.nil
  go_simp; refine (trees_v y y a6 c6 ys6 al cl ys W (slb HY6.out HB) (RowAt.below HB _ _ HYR6.out) (slb HL6.out HB) (RowAt.below HB _ _ HRW6.out)).mono ?_; rintro e W9 ⟨rfl, hb9⟩; rw [HSR.out]; dsimp only; refine gen_w (fun W hW => ?_); (replace hq := Go.Shr.Sl.ren hW (slb hq hb9)); (replace HB := Go.Shr.Below.ren hW (bt HB hb9)); clear hW hb9
  refine hK.out _ _ ?g2rs15 (fun hHeld => ?g2rt15)
  case g2rs15 => (try dsimp only); (first | exact hq | exact hq.drew)
  try dsimp only at hHeld
  clear hK K
  try simp only [Act.put, List.setIfInBounds_toArray, List.set_cons_zero, List.set_cons_succ]
  refine Go.Shr.wpAnyF_take 15 (oi := { dst := some 41, op := Go.Op.pick (Go.Operand.tmp 37) (Go.Operand.tmp 40) (Go.Operand.const (Go.Value.bool false)), type := 4, pos := "law.go:50", after := #[{ on := 11, ground := Go.Ground.data }, { on := 14, ground := Go.Ground.data }], guard := none }) (v := ?g2rv16) rfl (by kernel_rfl) (fun _ _ _ h => h) (by assumption) (by rfl) ?g2ry16 ?g2rr16
  case g2ry16 => intro w hSw; (have cv1 := hSw.toString (P := Try.prog) Try.underlying30 Try.underlying5 Try.underlying9); go_simp; try with_reducible rfl
  try simp only [Act.put, List.setIfInBounds_toArray, List.set_cons_zero, List.set_cons_succ]
  refine Go.Shr.wpAnyF_ready [16] (by kernel_rfl) (by simp) ?_
  refine Go.Shr.AllReadyF.last 16 (o := { dst := some 4, op := Go.Op.assign (Go.Operand.tmp 41), type := 4, pos := "law.go:50", after := #[{ on := 15, ground := Go.Ground.data }, { on := 14, ground := Go.Ground.chain }, { on := 0, ground := Go.Ground.phase }, { on := 1, ground := Go.Ground.phase }, { on := 2, ground := Go.Ground.phase }, { on := 3, ground := Go.Ground.phase }, { on := 4, ground := Go.Ground.phase }, { on := 5, ground := Go.Ground.phase }, { on := 6, ground := Go.Ground.phase }, { on := 7, ground := Go.Ground.phase }, { on := 8, ground := Go.Ground.phase }, { on := 9, ground := Go.Ground.phase }, { on := 10, ground := Go.Ground.phase }, { on := 11, ground := Go.Ground.phase }, { on := 12, ground := Go.Ground.phase }, { on := 13, ground := Go.Ground.phase }, { on := 14, ground := Go.Ground.phase }, { on := 15, ground := Go.Ground.phase }], guard := none }) rfl (by kernel_rfl) (fun K hK => ?g2ro17) ?g2rm17
  case g2rm17 => exact Go.Shr.AllReadyF.nil
  go_simp
  refine hK.out _ _ ?_
  clear hK K
  try simp only [Act.put, List.setIfInBounds_toArray, List.set_cons_zero, List.set_cons_succ]
  refine Go.Shr.wpAnyF_done (by kernel_rfl) ?_
  go_wp2_with fail
  refine bodyPost_ret (v := .bool true) (by simp [results, Try.results5, go_sem]) rfl ?_
  exact ⟨rfl, bt HB6.out HB⟩
end Go.Proofs.Ytofhlopedflkiaa
