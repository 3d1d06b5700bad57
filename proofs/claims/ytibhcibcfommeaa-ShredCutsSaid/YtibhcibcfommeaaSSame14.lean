/-
 The walks of slices.Equal, of the program's Same of columns.
-/
import Derived.Test.YtibhcibcfommeaaLCols14
set_option linter.unusedSimpArgs false
namespace Go.Proofs.Ytibhcibcfommeaa
open Go.RowKit Go.Shr
set_option maxHeartbeats 1000000 in
set_option maxRecDepth 100000 in
theorem eq_int (ok ok' : Nat → Prop) (a b : Option Addr) (c d : Nat) (x y : List Int) (w : World) (hx : Sl ok w 1 a x.length c (ints x)) (hy : Sl ok' w 1 b y.length d (ints y)) :
  Calls Try.prog 40 #[.slice a x.length c, .slice b y.length d] w fun e w' => ∃ t, e = .returned (.bool t) ∧ (t = true ↔ x = y) ∧ Below w.heap.size w w' := by
 have hm0 := Nat.le_trans hx.le hx.max; have hm1 := Nat.le_trans hy.le hy.max
 unfold maxLen at hm0 hm1
 have HX := Lib.hid hx; have HY := Lib.hid hy
 clear hx hy
 go_enter Try.func40, Try.ntmps40
 by_cases hl : x.length = y.length
 rotate_left
 ·have HNE : Hid (¬ x = y) := Lib.hid (fun h => hl (by subst h; rfl))
  have e0 : ((x.length : Int) != (y.length : Int)) = true := by simp; omega
  clear hl
  go_wp2_with fail
  go_ret
  exact ⟨false, rfl, ⟨fun h => (by cases h), fun h => absurd h HNE.out⟩, b0 w⟩
 have e0 : ((x.length : Int) != (y.length : Int)) = false := by simp; omega
 have hl1 : x.length ≤ y.length := by omega
 have hl2 : y.length ≤ x.length := by omega
 clear hl
 go_wp2_with fail
 clear e0
 go_loopw [13] (fun iv wr => ∃ i : Nat, iv = .int .i64 (i : Int) ∧ i ≤ x.length ∧ Hid (x.take i = y.take i) ∧ Hid (Below w.heap.size w wr)) (fun iv _ => x.length - (intOf iv).toNat)
 case atStart => exact ⟨0, rfl, Nat.zero_le _, Lib.hid rfl, Lib.hid (b0 w)⟩
 case round =>
  obtain ⟨i, rfl, hi, HE, HB⟩ := hrel
  by_cases hlt : i < x.length
  ·have hlt2 : i < y.length := by omega
   obtain ⟨p, o, rfl, _, hpc⟩ := HX.out.pos (by omega)
   obtain ⟨p', o', rfl, _, hpc'⟩ := HY.out.pos (by omega)
   have u0 := cb HB.out (hpc i _ (ints_get x i hlt)); have u1 := cb HB.out (hpc' i _ (ints_get y i hlt2))
   have HX2 := Lib.hid (And.intro u0 u1)
   clear hpc hpc'
   by_cases he : x[i] = y[i]
   ·have HT := Lib.hid (take_eq_succ HE.out hlt hlt2 he)
    have hnb : (x[i] != y[i]) = false := by simp [he]
    generalize x[i] = xi at *; generalize y[i] = yi at *
    clear he
    go_upto_region 6 with fail
    clear u0 u1
    refine wp_region_F (fun w' => w'.cell? ⟨p, o + i, none⟩ = some (.int .i64 xi) ∧ w'.cell? ⟨p', o' + i, none⟩ = some (.int .i64 yi)) [] (by kernel_rfl) ?g36rgS (fun hHeld => ?g36rgR)
    case g36rgS => (try dsimp only); (exact HX2.out)
    try dsimp only at hHeld
    refine wpAnyF_take 0 (oi := ⟨some 16, .move (.tmp 0), 22, "slices.go:25", #[], none⟩) (v := ?g36rv1) rfl (by kernel_rfl) (fun _ _ _ h => h) (by assumption) (by rfl) ?g36ry1 ?g36rr1
    case g36ry1 => intro w hSw; obtain ⟨s0, s1⟩ := hSw; go_simp; try with_reducible rfl
    try simp only [Act.put, pA, pB, pC]
    refine wpAnyF_take 1 (oi := ⟨some 17, .move (.tmp 5), 3, "slices.go:25", #[], none⟩) (v := ?g36rv2) rfl (by kernel_rfl) (fun _ _ _ h => h) (by assumption) (by rfl) ?g36ry2 ?g36rr2
    case g36ry2 => intro w hSw; obtain ⟨s0, s1⟩ := hSw; go_simp; try with_reducible rfl
    try simp only [Act.put, pA, pB, pC]
    refine wpAnyF_take 2 (oi := ⟨some 18, .indexAddr 22 (.tmp 16) (.tmp 17), 0, "slices.go:25", #[⟨0, .data⟩, ⟨1, .data⟩], none⟩) (v := ?g36rv3) rfl (by kernel_rfl) (fun _ _ _ h => h) (by assumption) (by rfl) ?g36ry3 ?g36rr3
    case g36ry3 => intro w hSw; obtain ⟨s0, s1⟩ := hSw; go_simp; try with_reducible rfl
    try simp only [Act.put, pA, pB, pC]
    refine wpAnyF_take 3 (oi := ⟨some 19, .load 3 (.tmp 18), 3, "slices.go:25", #[⟨2, .data⟩], none⟩) (v := ?g36rv4) rfl (by kernel_rfl) (fun _ _ _ h => h) (by assumption) (by rfl) ?g36ry4 ?g36rr4
    case g36ry4 => intro w hSw; obtain ⟨s0, s1⟩ := hSw; go_simp; try with_reducible rfl
    try simp only [Act.put, pA, pB, pC]
    refine wpAnyF_take 4 (oi := ⟨some 20, .move (.tmp 1), 22, "slices.go:25", #[], none⟩) (v := ?g36rv5) rfl (by kernel_rfl) (fun _ _ _ h => h) (by assumption) (by rfl) ?g36ry5 ?g36rr5
    case g36ry5 => intro w hSw; obtain ⟨s0, s1⟩ := hSw; go_simp; try with_reducible rfl
    try simp only [Act.put, pA, pB, pC]
    refine wpAnyF_take 5 (oi := ⟨some 21, .move (.tmp 5), 3, "slices.go:25", #[], none⟩) (v := ?g36rv6) rfl (by kernel_rfl) (fun _ _ _ h => h) (by assumption) (by rfl) ?g36ry6 ?g36rr6
    case g36ry6 => intro w hSw; obtain ⟨s0, s1⟩ := hSw; go_simp; try with_reducible rfl
    try simp only [Act.put, pA, pB, pC]
    refine wpAnyF_take 6 (oi := ⟨some 22, .indexAddr 22 (.tmp 20) (.tmp 21), 0, "slices.go:25", #[⟨4, .data⟩, ⟨5, .data⟩], none⟩) (v := ?g36rv7) rfl (by kernel_rfl) (fun _ _ _ h => h) (by assumption) (by rfl) ?g36ry7 ?g36rr7
    case g36ry7 => intro w hSw; obtain ⟨s0, s1⟩ := hSw; go_simp; try with_reducible rfl
    try simp only [Act.put, pA, pB, pC]
    refine wpAnyF_take 7 (oi := ⟨some 23, .load 3 (.tmp 22), 3, "slices.go:25", #[⟨6, .data⟩], none⟩) (v := ?g36rv8) rfl (by kernel_rfl) (fun _ _ _ h => h) (by assumption) (by rfl) ?g36ry8 ?g36rr8
    case g36ry8 => intro w hSw; obtain ⟨s0, s1⟩ := hSw; go_simp; try with_reducible rfl
    try simp only [Act.put, pA, pB, pC]
    refine wpAnyF_take 8 (oi := ⟨some 24, .binOp .neq 3 (.tmp 19) (.tmp 23) 3, 4, "slices.go:25", #[⟨3, .data⟩, ⟨7, .data⟩], none⟩) (v := ?g36rv9) rfl (by kernel_rfl) (fun _ _ _ h => h) (by assumption) (by rfl) ?g36ry9 ?g36rr9
    case g36ry9 => intro w hSw; obtain ⟨s0, s1⟩ := hSw; go_simp; try with_reducible rfl
    try simp only [Act.put, pA, pB, pC]
    refine wpAnyF_done (by kernel_rfl) ?_
    clear hHeld
    go_wp2_with fail
    go_roundw
    case rel => exact ⟨i + 1, by go_num, by omega, HT, Lib.hid HB.out.drew⟩
    case measure => simp [intOf]; omega
   ·have HNE : Hid (¬ x = y) := Lib.hid (fun h => he (by subst h; rfl))
    have hnb : (x[i] != y[i]) = true := by simp [he]
    generalize x[i] = xi at *; generalize y[i] = yi at *
    clear he
    go_upto_region 6 with fail
    clear u0 u1
    refine wp_region_F (fun w' => w'.cell? ⟨p, o + i, none⟩ = some (.int .i64 xi) ∧ w'.cell? ⟨p', o' + i, none⟩ = some (.int .i64 yi)) [] (by kernel_rfl) ?g37rgS (fun hHeld => ?g37rgR)
    case g37rgS => (try dsimp only); (exact HX2.out)
    try dsimp only at hHeld
    refine wpAnyF_take 0 (oi := ⟨some 16, .move (.tmp 0), 22, "slices.go:25", #[], none⟩) (v := ?g37rv1) rfl (by kernel_rfl) (fun _ _ _ h => h) (by assumption) (by rfl) ?g37ry1 ?g37rr1
    case g37ry1 => intro w hSw; obtain ⟨s0, s1⟩ := hSw; go_simp; try with_reducible rfl
    try simp only [Act.put, pA, pB, pC]
    refine wpAnyF_take 1 (oi := ⟨some 17, .move (.tmp 5), 3, "slices.go:25", #[], none⟩) (v := ?g37rv2) rfl (by kernel_rfl) (fun _ _ _ h => h) (by assumption) (by rfl) ?g37ry2 ?g37rr2
    case g37ry2 => intro w hSw; obtain ⟨s0, s1⟩ := hSw; go_simp; try with_reducible rfl
    try simp only [Act.put, pA, pB, pC]
    refine wpAnyF_take 2 (oi := ⟨some 18, .indexAddr 22 (.tmp 16) (.tmp 17), 0, "slices.go:25", #[⟨0, .data⟩, ⟨1, .data⟩], none⟩) (v := ?g37rv3) rfl (by kernel_rfl) (fun _ _ _ h => h) (by assumption) (by rfl) ?g37ry3 ?g37rr3
    case g37ry3 => intro w hSw; obtain ⟨s0, s1⟩ := hSw; go_simp; try with_reducible rfl
    try simp only [Act.put, pA, pB, pC]
    refine wpAnyF_take 3 (oi := ⟨some 19, .load 3 (.tmp 18), 3, "slices.go:25", #[⟨2, .data⟩], none⟩) (v := ?g37rv4) rfl (by kernel_rfl) (fun _ _ _ h => h) (by assumption) (by rfl) ?g37ry4 ?g37rr4
    case g37ry4 => intro w hSw; obtain ⟨s0, s1⟩ := hSw; go_simp; try with_reducible rfl
    try simp only [Act.put, pA, pB, pC]
    refine wpAnyF_take 4 (oi := ⟨some 20, .move (.tmp 1), 22, "slices.go:25", #[], none⟩) (v := ?g37rv5) rfl (by kernel_rfl) (fun _ _ _ h => h) (by assumption) (by rfl) ?g37ry5 ?g37rr5
    case g37ry5 => intro w hSw; obtain ⟨s0, s1⟩ := hSw; go_simp; try with_reducible rfl
    try simp only [Act.put, pA, pB, pC]
    refine wpAnyF_take 5 (oi := ⟨some 21, .move (.tmp 5), 3, "slices.go:25", #[], none⟩) (v := ?g37rv6) rfl (by kernel_rfl) (fun _ _ _ h => h) (by assumption) (by rfl) ?g37ry6 ?g37rr6
    case g37ry6 => intro w hSw; obtain ⟨s0, s1⟩ := hSw; go_simp; try with_reducible rfl
    try simp only [Act.put, pA, pB, pC]
    refine wpAnyF_take 6 (oi := ⟨some 22, .indexAddr 22 (.tmp 20) (.tmp 21), 0, "slices.go:25", #[⟨4, .data⟩, ⟨5, .data⟩], none⟩) (v := ?g37rv7) rfl (by kernel_rfl) (fun _ _ _ h => h) (by assumption) (by rfl) ?g37ry7 ?g37rr7
    case g37ry7 => intro w hSw; obtain ⟨s0, s1⟩ := hSw; go_simp; try with_reducible rfl
    try simp only [Act.put, pA, pB, pC]
    refine wpAnyF_take 7 (oi := ⟨some 23, .load 3 (.tmp 22), 3, "slices.go:25", #[⟨6, .data⟩], none⟩) (v := ?g37rv8) rfl (by kernel_rfl) (fun _ _ _ h => h) (by assumption) (by rfl) ?g37ry8 ?g37rr8
    case g37ry8 => intro w hSw; obtain ⟨s0, s1⟩ := hSw; go_simp; try with_reducible rfl
    try simp only [Act.put, pA, pB, pC]
    refine wpAnyF_take 8 (oi := ⟨some 24, .binOp .neq 3 (.tmp 19) (.tmp 23) 3, 4, "slices.go:25", #[⟨3, .data⟩, ⟨7, .data⟩], none⟩) (v := ?g37rv9) rfl (by kernel_rfl) (fun _ _ _ h => h) (by assumption) (by rfl) ?g37ry9 ?g37rr9
    case g37ry9 => intro w hSw; obtain ⟨s0, s1⟩ := hSw; go_simp; try with_reducible rfl
    try simp only [Act.put, pA, pB, pC]
    refine wpAnyF_done (by kernel_rfl) ?_
    clear hHeld
    go_wp2_with fail
    go_ret
    exact ⟨false, rfl, ⟨fun h => (by cases h), fun h => absurd h HNE.out⟩, HB.out.drew⟩
  ·obtain rfl : i = x.length := by omega
   have HA : Hid (x = y) := Lib.hid (by have h := HE.out; rw [List.take_length, List.take_of_length_le (by omega)] at h; exact h)
   go_wp2_with fail
   go_ret
   exact ⟨true, rfl, ⟨fun _ => HA.out, fun _ => rfl⟩, HB.out⟩
set_option maxHeartbeats 1000000 in
set_option maxRecDepth 100000 in
theorem eq_val (ok ok' : Nat → Prop) (a b : Option Addr) (c d : Nat) (x y : List Vc) (w : World) (hx : Sl ok w 2 a x.length c (vcs x)) (hy : Sl ok' w 2 b y.length d (vcs y)) :
  Calls Try.prog 41 #[.slice a x.length c, .slice b y.length d] w fun e w' => ∃ t, e = .returned (.bool t) ∧ (t = true ↔ x = y) ∧ Below w.heap.size w w' := by
 have hm0 := Nat.le_trans hx.le hx.max; have hm1 := Nat.le_trans hy.le hy.max
 unfold maxLen at hm0 hm1
 have HX := Lib.hid hx; have HY := Lib.hid hy
 clear hx hy
 go_enter Try.func41, Try.ntmps41
 by_cases hl : x.length = y.length
 rotate_left
 ·have HNE : Hid (¬ x = y) := Lib.hid (fun h => hl (by subst h; rfl))
  have e0 : ((x.length : Int) != (y.length : Int)) = true := by simp; omega
  clear hl
  go_wp2_with fail
  go_ret
  exact ⟨false, rfl, ⟨fun h => (by cases h), fun h => absurd h HNE.out⟩, b0 w⟩
 have e0 : ((x.length : Int) != (y.length : Int)) = false := by simp; omega
 have hl1 : x.length ≤ y.length := by omega
 have hl2 : y.length ≤ x.length := by omega
 clear hl
 go_wp2_with fail
 clear e0
 go_loopw [13] (fun iv wr => ∃ i : Nat, iv = .int .i64 (i : Int) ∧ i ≤ x.length ∧ Hid (x.take i = y.take i) ∧ Hid (Below w.heap.size w wr)) (fun iv _ => x.length - (intOf iv).toNat)
 case atStart => exact ⟨0, rfl, Nat.zero_le _, Lib.hid rfl, Lib.hid (b0 w)⟩
 case round =>
  obtain ⟨i, rfl, hi, HE, HB⟩ := hrel
  by_cases hlt : i < x.length
  ·have hlt2 : i < y.length := by omega
   obtain ⟨p, o, rfl, _, hpc⟩ := HX.out.pos (by omega)
   obtain ⟨p', o', rfl, _, hpc'⟩ := HY.out.pos (by omega)
   have u0 := cb HB.out (hpc _ _ (vcs_get x i hlt).1); have u1 := cb HB.out (hpc _ _ (vcs_get x i hlt).2); have u2 := cb HB.out (hpc' _ _ (vcs_get y i hlt2).1); have u3 := cb HB.out (hpc' _ _ (vcs_get y i hlt2).2)
   rw [← Nat.add_assoc] at u1 u3
   have HX2 := Lib.hid (And.intro u0 (And.intro u1 (And.intro u2 u3)))
   clear hpc hpc'
   by_cases he : x[i] = y[i]
   ·have HT := Lib.hid (take_eq_succ HE.out hlt hlt2 he)
    have hnb : (!((x[i].n == y[i].n) && (x[i].s.toList == y[i].s.toList))) = false := by simp [he]
    generalize x[i] = xv at *; generalize y[i] = yv at *
    obtain ⟨xn, xs⟩ := xv; obtain ⟨yn, ys⟩ := yv
    dsimp only at hnb u0 u1 u2 u3 HX2
    clear he
    have hvn := fun w => val_neq w xn yn xs ys
    rw [hnb] at hvn
    go_upto_region 6 with fail
    clear u0 u1 u2 u3
    refine wp_region_F (fun w' => w'.cell? ⟨p, o + i * 2, none⟩ = some (.int .i64 xn) ∧ w'.cell? ⟨p, o + i * 2 + 1, none⟩ = some (.string xs) ∧ w'.cell? ⟨p', o' + i * 2, none⟩ = some (.int .i64 yn) ∧ w'.cell? ⟨p', o' + i * 2 + 1, none⟩ = some (.string ys)) [] (by kernel_rfl) ?g38rgS (fun hHeld => ?g38rgR)
    case g38rgS => (try dsimp only); (exact HX2.out)
    try dsimp only at hHeld
    refine wpAnyF_take 0 (oi := ⟨some 16, .move (.tmp 0), 44, "slices.go:25", #[], none⟩) (v := ?g38rv1) rfl (by kernel_rfl) (fun _ _ _ h => h) (by assumption) (by rfl) ?g38ry1 ?g38rr1
    case g38ry1 => intro w hSw; obtain ⟨s0, s1, s2, s3⟩ := hSw; go_simp; try with_reducible rfl
    try simp only [Act.put, pA, pB, pC]
    refine wpAnyF_take 1 (oi := ⟨some 17, .move (.tmp 5), 3, "slices.go:25", #[], none⟩) (v := ?g38rv2) rfl (by kernel_rfl) (fun _ _ _ h => h) (by assumption) (by rfl) ?g38ry2 ?g38rr2
    case g38ry2 => intro w hSw; obtain ⟨s0, s1, s2, s3⟩ := hSw; go_simp; try with_reducible rfl
    try simp only [Act.put, pA, pB, pC]
    refine wpAnyF_take 2 (oi := ⟨some 18, .indexAddr 44 (.tmp 16) (.tmp 17), 0, "slices.go:25", #[⟨0, .data⟩, ⟨1, .data⟩], none⟩) (v := ?g38rv3) rfl (by kernel_rfl) (fun _ _ _ h => h) (by assumption) (by rfl) ?g38ry3 ?g38rr3
    case g38ry3 => intro w hSw; obtain ⟨s0, s1, s2, s3⟩ := hSw; go_simp; try with_reducible rfl
    try simp only [Act.put, pA, pB, pC]
    refine wpAnyF_take 3 (oi := ⟨some 19, .load 54 (.tmp 18), 54, "slices.go:25", #[⟨2, .data⟩], none⟩) (v := ?g38rv4) rfl (by kernel_rfl) (fun _ _ _ h => h) (by assumption) (by rfl) ?g38ry4 ?g38rr4
    case g38ry4 => intro w hSw; obtain ⟨s0, s1, s2, s3⟩ := hSw; go_simp; try with_reducible rfl
    try simp only [Act.put, pA, pB, pC]
    refine wpAnyF_take 4 (oi := ⟨some 20, .move (.tmp 1), 44, "slices.go:25", #[], none⟩) (v := ?g38rv5) rfl (by kernel_rfl) (fun _ _ _ h => h) (by assumption) (by rfl) ?g38ry5 ?g38rr5
    case g38ry5 => intro w hSw; obtain ⟨s0, s1, s2, s3⟩ := hSw; go_simp; try with_reducible rfl
    try simp only [Act.put, pA, pB, pC]
    refine wpAnyF_take 5 (oi := ⟨some 21, .move (.tmp 5), 3, "slices.go:25", #[], none⟩) (v := ?g38rv6) rfl (by kernel_rfl) (fun _ _ _ h => h) (by assumption) (by rfl) ?g38ry6 ?g38rr6
    case g38ry6 => intro w hSw; obtain ⟨s0, s1, s2, s3⟩ := hSw; go_simp; try with_reducible rfl
    try simp only [Act.put, pA, pB, pC]
    refine wpAnyF_take 6 (oi := ⟨some 22, .indexAddr 44 (.tmp 20) (.tmp 21), 0, "slices.go:25", #[⟨4, .data⟩, ⟨5, .data⟩], none⟩) (v := ?g38rv7) rfl (by kernel_rfl) (fun _ _ _ h => h) (by assumption) (by rfl) ?g38ry7 ?g38rr7
    case g38ry7 => intro w hSw; obtain ⟨s0, s1, s2, s3⟩ := hSw; go_simp; try with_reducible rfl
    try simp only [Act.put, pA, pB, pC]
    refine wpAnyF_take 7 (oi := ⟨some 23, .load 54 (.tmp 22), 54, "slices.go:25", #[⟨6, .data⟩], none⟩) (v := ?g38rv8) rfl (by kernel_rfl) (fun _ _ _ h => h) (by assumption) (by rfl) ?g38ry8 ?g38rr8
    case g38ry8 => intro w hSw; obtain ⟨s0, s1, s2, s3⟩ := hSw; go_simp; try with_reducible rfl
    try simp only [Act.put, pA, pB, pC]
    refine wpAnyF_take 8 (oi := ⟨some 24, .binOp .neq 54 (.tmp 19) (.tmp 23) 54, 4, "slices.go:25", #[⟨3, .data⟩, ⟨7, .data⟩], none⟩) (v := ?g38rv9) rfl (by kernel_rfl) (fun _ _ _ h => h) (by assumption) (by rfl) ?g38ry9 ?g38rr9
    case g38ry9 => intro w hSw; obtain ⟨s0, s1, s2, s3⟩ := hSw; go_simp; try with_reducible rfl
    try simp only [Act.put, pA, pB, pC]
    refine wpAnyF_done (by kernel_rfl) ?_
    clear hHeld
    go_wp2_with fail
    go_roundw
    case rel => exact ⟨i + 1, by go_num, by omega, HT, Lib.hid HB.out.drew⟩
    case measure => simp [intOf]; omega
   ·have HNE : Hid (¬ x = y) := Lib.hid (fun h => he (by subst h; rfl))
    have hnb : (!((x[i].n == y[i].n) && (x[i].s.toList == y[i].s.toList))) = true := by rw [Bool.not_eq_true', Bool.eq_false_iff]; intro h; rw [Bool.and_eq_true, beq_iff_eq, beq_iff_eq] at h; exact he (vc_ext h.1 h.2)
    generalize x[i] = xv at *; generalize y[i] = yv at *
    obtain ⟨xn, xs⟩ := xv; obtain ⟨yn, ys⟩ := yv
    dsimp only at hnb u0 u1 u2 u3 HX2
    clear he
    have hvn := fun w => val_neq w xn yn xs ys
    rw [hnb] at hvn
    go_upto_region 6 with fail
    clear u0 u1 u2 u3
    refine wp_region_F (fun w' => w'.cell? ⟨p, o + i * 2, none⟩ = some (.int .i64 xn) ∧ w'.cell? ⟨p, o + i * 2 + 1, none⟩ = some (.string xs) ∧ w'.cell? ⟨p', o' + i * 2, none⟩ = some (.int .i64 yn) ∧ w'.cell? ⟨p', o' + i * 2 + 1, none⟩ = some (.string ys)) [] (by kernel_rfl) ?g39rgS (fun hHeld => ?g39rgR)
    case g39rgS => (try dsimp only); (exact HX2.out)
    try dsimp only at hHeld
    refine wpAnyF_take 0 (oi := ⟨some 16, .move (.tmp 0), 44, "slices.go:25", #[], none⟩) (v := ?g39rv1) rfl (by kernel_rfl) (fun _ _ _ h => h) (by assumption) (by rfl) ?g39ry1 ?g39rr1
    case g39ry1 => intro w hSw; obtain ⟨s0, s1, s2, s3⟩ := hSw; go_simp; try with_reducible rfl
    try simp only [Act.put, pA, pB, pC]
    refine wpAnyF_take 1 (oi := ⟨some 17, .move (.tmp 5), 3, "slices.go:25", #[], none⟩) (v := ?g39rv2) rfl (by kernel_rfl) (fun _ _ _ h => h) (by assumption) (by rfl) ?g39ry2 ?g39rr2
    case g39ry2 => intro w hSw; obtain ⟨s0, s1, s2, s3⟩ := hSw; go_simp; try with_reducible rfl
    try simp only [Act.put, pA, pB, pC]
    refine wpAnyF_take 2 (oi := ⟨some 18, .indexAddr 44 (.tmp 16) (.tmp 17), 0, "slices.go:25", #[⟨0, .data⟩, ⟨1, .data⟩], none⟩) (v := ?g39rv3) rfl (by kernel_rfl) (fun _ _ _ h => h) (by assumption) (by rfl) ?g39ry3 ?g39rr3
    case g39ry3 => intro w hSw; obtain ⟨s0, s1, s2, s3⟩ := hSw; go_simp; try with_reducible rfl
    try simp only [Act.put, pA, pB, pC]
    refine wpAnyF_take 3 (oi := ⟨some 19, .load 54 (.tmp 18), 54, "slices.go:25", #[⟨2, .data⟩], none⟩) (v := ?g39rv4) rfl (by kernel_rfl) (fun _ _ _ h => h) (by assumption) (by rfl) ?g39ry4 ?g39rr4
    case g39ry4 => intro w hSw; obtain ⟨s0, s1, s2, s3⟩ := hSw; go_simp; try with_reducible rfl
    try simp only [Act.put, pA, pB, pC]
    refine wpAnyF_take 4 (oi := ⟨some 20, .move (.tmp 1), 44, "slices.go:25", #[], none⟩) (v := ?g39rv5) rfl (by kernel_rfl) (fun _ _ _ h => h) (by assumption) (by rfl) ?g39ry5 ?g39rr5
    case g39ry5 => intro w hSw; obtain ⟨s0, s1, s2, s3⟩ := hSw; go_simp; try with_reducible rfl
    try simp only [Act.put, pA, pB, pC]
    refine wpAnyF_take 5 (oi := ⟨some 21, .move (.tmp 5), 3, "slices.go:25", #[], none⟩) (v := ?g39rv6) rfl (by kernel_rfl) (fun _ _ _ h => h) (by assumption) (by rfl) ?g39ry6 ?g39rr6
    case g39ry6 => intro w hSw; obtain ⟨s0, s1, s2, s3⟩ := hSw; go_simp; try with_reducible rfl
    try simp only [Act.put, pA, pB, pC]
    refine wpAnyF_take 6 (oi := ⟨some 22, .indexAddr 44 (.tmp 20) (.tmp 21), 0, "slices.go:25", #[⟨4, .data⟩, ⟨5, .data⟩], none⟩) (v := ?g39rv7) rfl (by kernel_rfl) (fun _ _ _ h => h) (by assumption) (by rfl) ?g39ry7 ?g39rr7
    case g39ry7 => intro w hSw; obtain ⟨s0, s1, s2, s3⟩ := hSw; go_simp; try with_reducible rfl
    try simp only [Act.put, pA, pB, pC]
    refine wpAnyF_take 7 (oi := ⟨some 23, .load 54 (.tmp 22), 54, "slices.go:25", #[⟨6, .data⟩], none⟩) (v := ?g39rv8) rfl (by kernel_rfl) (fun _ _ _ h => h) (by assumption) (by rfl) ?g39ry8 ?g39rr8
    case g39ry8 => intro w hSw; obtain ⟨s0, s1, s2, s3⟩ := hSw; go_simp; try with_reducible rfl
    try simp only [Act.put, pA, pB, pC]
    refine wpAnyF_take 8 (oi := ⟨some 24, .binOp .neq 54 (.tmp 19) (.tmp 23) 54, 4, "slices.go:25", #[⟨3, .data⟩, ⟨7, .data⟩], none⟩) (v := ?g39rv9) rfl (by kernel_rfl) (fun _ _ _ h => h) (by assumption) (by rfl) ?g39ry9 ?g39rr9
    case g39ry9 => intro w hSw; obtain ⟨s0, s1, s2, s3⟩ := hSw; go_simp; try with_reducible rfl
    try simp only [Act.put, pA, pB, pC]
    refine wpAnyF_done (by kernel_rfl) ?_
    clear hHeld
    go_wp2_with fail
    go_ret
    exact ⟨false, rfl, ⟨fun h => (by cases h), fun h => absurd h HNE.out⟩, HB.out.drew⟩
  ·obtain rfl : i = x.length := by omega
   have HA : Hid (x = y) := Lib.hid (by have h := HE.out; rw [List.take_length, List.take_of_length_le (by omega)] at h; exact h)
   go_wp2_with fail
   go_ret
   exact ⟨true, rfl, ⟨fun _ => HA.out, fun _ => rfl⟩, HB.out⟩
set_option maxHeartbeats 1000000 in
set_option maxRecDepth 100000 in
theorem ssame_v (x y : Cl) (a0 a1 a2 g0 g1 g2 : Option Addr) (c0 c1 c2 d0 d1 d2 : Nat) (w : World) (hx : ClAt (fun b => b < w.heap.size) w x a0 c0 a1 c1 a2 c2) (hy : ClAt (fun b => b < w.heap.size) w y g0 d0 g1 d1 g2 d2) :
  Calls Try.prog 23 #[.agg #[.slice a0 x.r.length c0, .slice a1 x.d.length c1, .slice a2 x.v.length c2], .agg #[.slice g0 y.r.length d0, .slice g1 y.d.length d1, .slice g2 y.v.length d2]] w fun e w' => ∃ b, e = .returned (.bool b) ∧ (b = true ↔ x = y) ∧ Below w.heap.size w w' := by
 have HX := Lib.hid hx; have HY := Lib.hid hy
 clear hx hy
 go_enter Try.func23, Try.ntmps23
 go_upto_region 1 with fail
 refine gen_wz (fun w1 hw1 => ?_)
 have hb1 : Below w.heap.size w w1 := by rw [hw1]; exact ba (ba (b0 w) _) _
 have r2 : Rw w1 w.heap.size #[.slice a0 x.r.length c0, .slice a1 x.d.length c1, .slice a2 x.v.length c2] 46 := by rw [hw1]; exact (Rw.new w _ _).alloc _
 have r3 : Rw w1 (w.heap.size + 1) #[.slice g0 y.r.length d0, .slice g1 y.d.length d1, .slice g2 y.v.length d2] 46 := by rw [hw1]; exact Rw.new' (by simp)
 clear hw1
 obtain ⟨q3, hq3⟩ : ∃ b, b = w.heap.size + 1 := ⟨_, rfl⟩
 rw [← hq3] at r3 ⊢
 have HB1 := Lib.hid hb1; have R2 := Lib.hid r2; have R3 := Lib.hid r3
 have k0 : w1.cell? ⟨w.heap.size, 0, none⟩ = some (.slice a0 x.r.length c0) := r2.cell 0
 have k3 : w1.cell? ⟨q3, 0, none⟩ = some (.slice g0 y.r.length d0) := r3.cell 0
 clear hq3 hb1 r2 r3
 go_wp2_with fail
 refine (eq_int _ _ a0 g0 c0 d0 x.r y.r w1 (slb HX.out.r HB1.out) (slb HY.out.r HB1.out)).mono ?_
 rintro e w2 ⟨t, rfl, ht, hb2⟩
 have HB2 := Lib.hid (bt HB1.out hb2)
 have k1 : w2.cell? ⟨w.heap.size, 1, none⟩ = some (.slice a1 x.d.length c1) := (R2.out.below hb2).cell 1
 have k4 : w2.cell? ⟨q3, 1, none⟩ = some (.slice g1 y.d.length d1) := (R3.out.below hb2).cell 1
 have R22 := Lib.hid (R2.out.below hb2); have R32 := Lib.hid (R3.out.below hb2)
 clear hb2 k0 k3 R2 R3
 cases t with
 | false =>
  have HNE : Hid (¬ x = y) := Lib.hid (fun h => by have := ht.2 (by rw [h]); cases this)
  clear ht
  go_wp2_with fail
  go_ret
  exact ⟨false, rfl, ⟨fun h => (by cases h), fun h => absurd h HNE.out⟩, HB2.out⟩
 | true =>
  have HT1 := Lib.hid (ht.1 rfl)
  clear ht
  go_wp2_with fail
  refine (eq_int _ _ a1 g1 c1 d1 x.d y.d w2 (slb HX.out.d HB2.out) (slb HY.out.d HB2.out)).mono ?_
  rintro e w3 ⟨t, rfl, ht, hb3⟩
  have HB3 := Lib.hid (bt HB2.out hb3)
  have k2 : w3.cell? ⟨w.heap.size, 2, none⟩ = some (.slice a2 x.v.length c2) := (R22.out.below hb3).cell 2
  have k5 : w3.cell? ⟨q3, 2, none⟩ = some (.slice g2 y.v.length d2) := (R32.out.below hb3).cell 2
  clear hb3 k1 k4 R22 R32
  cases t with
  | false =>
   have HNE : Hid (¬ x = y) := Lib.hid (fun h => by have := ht.2 (by rw [h]); cases this)
   clear ht
   go_wp2_with fail
   go_ret
   exact ⟨false, rfl, ⟨fun h => (by cases h), fun h => absurd h HNE.out⟩, HB3.out⟩
  | true =>
   have HT2 := Lib.hid (ht.1 rfl)
   clear ht
   go_wp2_with fail
   refine (eq_val _ _ a2 g2 c2 d2 x.v y.v w3 (slb HX.out.v HB3.out) (slb HY.out.v HB3.out)).mono ?_
   rintro e w4 ⟨t, rfl, ht, hb4⟩
   have HB4 := Lib.hid (bt HB3.out hb4)
   have HT3 : Hid (t = true ↔ x = y) := Lib.hid ⟨fun h => Cl.ext' HT1.out HT2.out (ht.1 h), fun h => ht.2 (by rw [h])⟩
   clear hb4 k2 k5 ht
   go_wp2_with fail
   go_ret
   exact ⟨t, rfl, HT3.out, HB4.out⟩
end Go.Proofs.Ytibhcibcfommeaa
