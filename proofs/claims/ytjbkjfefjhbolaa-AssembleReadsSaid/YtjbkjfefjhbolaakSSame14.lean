import Derived.Test.YtjbkjfefjhbolaakColR14
set_option linter.all false
open Nat renaming le_trans → zLP, zero_le → zLT
open List renaming take_of_length_le → zLQ, take_length → zLR
open And renaming intro → zLS
set_option maxHeartbeats 40000000
set_option maxRecDepth 100000
namespace Go.Proofs.Ytjbkjfefjhbolaa
open Go.RowKit Go.Shr
theorem zJz (ok ok' : Nat → Prop) (a b : Option Addr) (c d : Nat) (x y : List Int) (w : World) (hx : Sl ok w 1 a x.length c (zQ x)) (hy : Sl ok' w 1 b y.length d (zQ y)) :
  Calls Try.prog 67 #[.slice a x.length c, .slice b y.length d] w fun e w' => ∃ t, e = .returned (.bool t) ∧ (t = true ↔ x = y) ∧ Below w.heap.size w w' := by
 have hm0 := zLP hx.le hx.max; have hm1 := zLP hy.le hy.max
 unfold maxLen at hm0 hm1
 have HX := zH hx; have HY := zH hy
 clear hx hy
 go_enter Try.func67, Try.ntmps67
 by_cases hl : x.length = y.length
 rotate_left
 ·have HNE : Hid (¬ x = y) := zH (fun h => hl (by subst h; rfl))
  have e0 : ((x.length : Int) != (y.length : Int)) = true := by simp; omega
  clear hl
  go_wp2_with fail
  go_ret
  exact ⟨false, rfl, ⟨fun h => (by cases h), fun h => absurd h HNE.out⟩, b0 w⟩
 have e0 : ((x.length : Int) != (y.length : Int)) = false := by simp; omega
 have hl1 : x.length ≤ y.length := by omega
 have hl2 : y.length ≤ x.length := by omega
 clear hl
 go_wp2_with fail
 clear e0
 go_loopw [13] (fun iv wr => ∃ i : Nat, iv = .int .i64 (i : Int) ∧ i ≤ x.length ∧ Hid (x.take i = y.take i) ∧ Hid (Below w.heap.size w wr)) (fun iv _ => x.length - (intOf iv).toNat)
 case atStart => exact ⟨0, rfl, zLT _, zH rfl, zH (b0 w)⟩
 case round =>
  obtain ⟨i, rfl, hi, HE, HB⟩ := hrel
  by_cases hlt : i < x.length
  ·have hlt2 : i < y.length := by omega
   obtain ⟨p, o, rfl, _, hpc⟩ := HX.out.pos (by omega)
   obtain ⟨p', o', rfl, _, hpc'⟩ := HY.out.pos (by omega)
   have u0 := cb HB.out (hpc i _ (zO x i hlt)); have u1 := cb HB.out (hpc' i _ (zO y i hlt2))
   have HX2 := zH (zLS u0 u1)
   clear hpc hpc'
   by_cases he : x[i] = y[i]
   ·have HT := zH (qR HE.out hlt hlt2 he)
    have hnb : (x[i] != y[i]) = false := by simp [he]
    generalize x[i] = xi at *; generalize y[i] = yi at *
    clear he
    go_upto_region 6 with fail
    clear u0 u1
    refine zF (fun w' => w'.cell? ⟨p, o + i, none⟩ = some (.int .i64 xi) ∧ w'.cell? ⟨p', o' + i, none⟩ = some (.int .i64 yi)) [] (by kernel_rfl) ?g34rgS (fun hHeld => ?g34rgR)
    case g34rgS => (try dsimp only); (exact HX2.out)
    try dsimp only at hHeld
    refine zD [0, 1, 2, 3, 4, 5, 6, 7, 8] 0 (by kernel_rfl) (fun _ _ _ _ _ h => h) (by assumption) ?_
    iterate 9 ((apply YA.take rfl (by rfl); case hy => rintro w ⟨s0, s1⟩; go_simp; try with_reducible rfl); try simp only [pD])
    refine YA.nil ?_
    refine zE (by kernel_rfl) ?_
    clear hHeld
    go_wp2_with fail
    go_roundw
    case rel => exact ⟨i + 1, by go_num, by omega, HT, zH HB.out.drew⟩
    case measure => simp [intOf]; omega
   ·have HNE : Hid (¬ x = y) := zH (fun h => he (by subst h; rfl))
    have hnb : (x[i] != y[i]) = true := by simp [he]
    generalize x[i] = xi at *; generalize y[i] = yi at *
    clear he
    go_upto_region 6 with fail
    clear u0 u1
    refine zF (fun w' => w'.cell? ⟨p, o + i, none⟩ = some (.int .i64 xi) ∧ w'.cell? ⟨p', o' + i, none⟩ = some (.int .i64 yi)) [] (by kernel_rfl) ?g35rgS (fun hHeld => ?g35rgR)
    case g35rgS => (try dsimp only); (exact HX2.out)
    try dsimp only at hHeld
    refine zD [0, 1, 2, 3, 4, 5, 6, 7, 8] 0 (by kernel_rfl) (fun _ _ _ _ _ h => h) (by assumption) ?_
    iterate 9 ((apply YA.take rfl (by rfl); case hy => rintro w ⟨s0, s1⟩; go_simp; try with_reducible rfl); try simp only [pD])
    refine YA.nil ?_
    refine zE (by kernel_rfl) ?_
    clear hHeld
    go_wp2_with fail
    go_ret
    exact ⟨false, rfl, ⟨fun h => (by cases h), fun h => absurd h HNE.out⟩, HB.out.drew⟩
  ·obtain rfl : i = x.length := by omega
   have HA : Hid (x = y) := zH (by have h := HE.out; rw [zLR, zLQ (by omega)] at h; exact h)
   go_wp2_with fail
   go_ret
   exact ⟨true, rfl, ⟨fun _ => HA.out, fun _ => rfl⟩, HB.out⟩
theorem zK7 (ok ok' : Nat → Prop) (a b : Option Addr) (c d : Nat) (x y : List Vc) (w : World) (hx : Sl ok w 2 a x.length c (vcs x)) (hy : Sl ok' w 2 b y.length d (vcs y)) :
  Calls Try.prog 68 #[.slice a x.length c, .slice b y.length d] w fun e w' => ∃ t, e = .returned (.bool t) ∧ (t = true ↔ x = y) ∧ Below w.heap.size w w' := by
 have hm0 := zLP hx.le hx.max; have hm1 := zLP hy.le hy.max
 unfold maxLen at hm0 hm1
 have HX := zH hx; have HY := zH hy
 clear hx hy
 go_enter Try.func68, Try.ntmps68
 by_cases hl : x.length = y.length
 rotate_left
 ·have HNE : Hid (¬ x = y) := zH (fun h => hl (by subst h; rfl))
  have e0 : ((x.length : Int) != (y.length : Int)) = true := by simp; omega
  clear hl
  go_wp2_with fail
  go_ret
  exact ⟨false, rfl, ⟨fun h => (by cases h), fun h => absurd h HNE.out⟩, b0 w⟩
 have e0 : ((x.length : Int) != (y.length : Int)) = false := by simp; omega
 have hl1 : x.length ≤ y.length := by omega
 have hl2 : y.length ≤ x.length := by omega
 clear hl
 go_wp2_with fail
 clear e0
 go_loopw [13] (fun iv wr => ∃ i : Nat, iv = .int .i64 (i : Int) ∧ i ≤ x.length ∧ Hid (x.take i = y.take i) ∧ Hid (Below w.heap.size w wr)) (fun iv _ => x.length - (intOf iv).toNat)
 case atStart => exact ⟨0, rfl, zLT _, zH rfl, zH (b0 w)⟩
 case round =>
  obtain ⟨i, rfl, hi, HE, HB⟩ := hrel
  by_cases hlt : i < x.length
  ·have hlt2 : i < y.length := by omega
   obtain ⟨p, o, rfl, _, hpc⟩ := HX.out.pos (by omega)
   obtain ⟨p', o', rfl, _, hpc'⟩ := HY.out.pos (by omega)
   have u0 := cb HB.out (hpc _ _ (qL x i hlt).1); have u1 := cb HB.out (hpc _ _ (qL x i hlt).2); have u2 := cb HB.out (hpc' _ _ (qL y i hlt2).1); have u3 := cb HB.out (hpc' _ _ (qL y i hlt2).2)
   rw [← Nat.add_assoc] at u1 u3
   have HX2 := zH (zLS u0 (zLS u1 (zLS u2 u3)))
   clear hpc hpc'
   by_cases he : x[i] = y[i]
   ·have HT := zH (qR HE.out hlt hlt2 he)
    have hnb : (!((x[i].n == y[i].n) && (x[i].s.toList == y[i].s.toList))) = false := by simp [he]
    generalize x[i] = xv at *; generalize y[i] = yv at *
    obtain ⟨xn, xs⟩ := xv; obtain ⟨yn, ys⟩ := yv
    dsimp only at hnb u0 u1 u2 u3 HX2
    clear he
    have hvn := fun w => zC1 w xn yn xs ys
    rw [hnb] at hvn
    go_upto_region 6 with fail
    clear u0 u1 u2 u3
    refine zF (fun w' => w'.cell? ⟨p, o + i * 2, none⟩ = some (.int .i64 xn) ∧ w'.cell? ⟨p, o + i * 2 + 1, none⟩ = some (.string xs) ∧ w'.cell? ⟨p', o' + i * 2, none⟩ = some (.int .i64 yn) ∧ w'.cell? ⟨p', o' + i * 2 + 1, none⟩ = some (.string ys)) [] (by kernel_rfl) ?g36rgS (fun hHeld => ?g36rgR)
    case g36rgS => (try dsimp only); (exact HX2.out)
    try dsimp only at hHeld
    refine zD [0, 1, 2, 3, 4, 5, 6, 7, 8] 0 (by kernel_rfl) (fun _ _ _ _ _ h => h) (by assumption) ?_
    iterate 9 ((apply YA.take rfl (by rfl); case hy => rintro w ⟨s0, s1, s2, s3⟩; go_simp; try with_reducible rfl); try simp only [pD])
    refine YA.nil ?_
    refine zE (by kernel_rfl) ?_
    clear hHeld
    go_wp2_with fail
    go_roundw
    case rel => exact ⟨i + 1, by go_num, by omega, HT, zH HB.out.drew⟩
    case measure => simp [intOf]; omega
   ·have HNE : Hid (¬ x = y) := zH (fun h => he (by subst h; rfl))
    have hnb : (!((x[i].n == y[i].n) && (x[i].s.toList == y[i].s.toList))) = true := by rw [Bool.not_eq_true', Bool.eq_false_iff]; intro h; rw [Bool.and_eq_true, beq_iff_eq, beq_iff_eq] at h; exact he (zJo h.1 h.2)
    generalize x[i] = xv at *; generalize y[i] = yv at *
    obtain ⟨xn, xs⟩ := xv; obtain ⟨yn, ys⟩ := yv
    dsimp only at hnb u0 u1 u2 u3 HX2
    clear he
    have hvn := fun w => zC1 w xn yn xs ys
    rw [hnb] at hvn
    go_upto_region 6 with fail
    clear u0 u1 u2 u3
    refine zF (fun w' => w'.cell? ⟨p, o + i * 2, none⟩ = some (.int .i64 xn) ∧ w'.cell? ⟨p, o + i * 2 + 1, none⟩ = some (.string xs) ∧ w'.cell? ⟨p', o' + i * 2, none⟩ = some (.int .i64 yn) ∧ w'.cell? ⟨p', o' + i * 2 + 1, none⟩ = some (.string ys)) [] (by kernel_rfl) ?g37rgS (fun hHeld => ?g37rgR)
    case g37rgS => (try dsimp only); (exact HX2.out)
    try dsimp only at hHeld
    refine zD [0, 1, 2, 3, 4, 5, 6, 7, 8] 0 (by kernel_rfl) (fun _ _ _ _ _ h => h) (by assumption) ?_
    iterate 9 ((apply YA.take rfl (by rfl); case hy => rintro w ⟨s0, s1, s2, s3⟩; go_simp; try with_reducible rfl); try simp only [pD])
    refine YA.nil ?_
    refine zE (by kernel_rfl) ?_
    clear hHeld
    go_wp2_with fail
    go_ret
    exact ⟨false, rfl, ⟨fun h => (by cases h), fun h => absurd h HNE.out⟩, HB.out.drew⟩
  ·obtain rfl : i = x.length := by omega
   have HA : Hid (x = y) := zH (by have h := HE.out; rw [zLR, zLQ (by omega)] at h; exact h)
   go_wp2_with fail
   go_ret
   exact ⟨true, rfl, ⟨fun _ => HA.out, fun _ => rfl⟩, HB.out⟩
theorem zJR (x y : Cl) (a0 a1 a2 g0 g1 g2 : Option Addr) (c0 c1 c2 d0 d1 d2 : Nat) (w : World) (hx : zBi (fun b => b < w.heap.size) w x a0 c0 a1 c1 a2 c2) (hy : zBi (fun b => b < w.heap.size) w y g0 d0 g1 d1 g2 d2) :
  Calls Try.prog 49 #[.agg #[.slice a0 x.r.length c0, .slice a1 x.d.length c1, .slice a2 x.v.length c2], .agg #[.slice g0 y.r.length d0, .slice g1 y.d.length d1, .slice g2 y.v.length d2]] w fun e w' => ∃ b, e = .returned (.bool b) ∧ (b = true ↔ x = y) ∧ Below w.heap.size w w' := by
 have HX := zH hx; have HY := zH hy
 clear hx hy
 go_enter Try.func49, Try.ntmps49
 go_upto_region 1 with fail
 refine zAC (fun w1 hw1 => ?_)
 have hb1 : Below w.heap.size w w1 := by rw [hw1]; exact ba (ba (b0 w) _) _
 have r2 : Rw w1 w.heap.size #[.slice a0 x.r.length c0, .slice a1 x.d.length c1, .slice a2 x.v.length c2] 42 := by rw [hw1]; exact (Rw.new w _ _).alloc _
 have r3 : Rw w1 (w.heap.size + 1) #[.slice g0 y.r.length d0, .slice g1 y.d.length d1, .slice g2 y.v.length d2] 42 := by rw [hw1]; exact Rw.new' (by simp)
 clear hw1
 obtain ⟨q3, hq3⟩ : ∃ b, b = w.heap.size + 1 := ⟨_, rfl⟩
 rw [← hq3] at r3 ⊢
 have HB1 := zH hb1; have R2 := zH r2; have R3 := zH r3
 have k0 : w1.cell? ⟨w.heap.size, 0, none⟩ = some (.slice a0 x.r.length c0) := r2.cell 0
 have k3 : w1.cell? ⟨q3, 0, none⟩ = some (.slice g0 y.r.length d0) := r3.cell 0
 clear hq3 hb1 r2 r3
 go_wp2_with fail
 refine (zJz _ _ a0 g0 c0 d0 x.r y.r w1 (slb HX.out.r HB1.out) (slb HY.out.r HB1.out)).mono ?_
 rintro e w2 ⟨t, rfl, ht, hb2⟩
 have HB2 := zH (bt HB1.out hb2)
 have k1 : w2.cell? ⟨w.heap.size, 1, none⟩ = some (.slice a1 x.d.length c1) := (R2.out.below hb2).cell 1
 have k4 : w2.cell? ⟨q3, 1, none⟩ = some (.slice g1 y.d.length d1) := (R3.out.below hb2).cell 1
 have R22 := zH (R2.out.below hb2); have R32 := zH (R3.out.below hb2)
 clear hb2 k0 k3 R2 R3
 cases t with
 | false =>
  have HNE : Hid (¬ x = y) := zH (fun h => by have := ht.2 (by rw [h]); cases this)
  clear ht
  go_wp2_with fail
  go_ret
  exact ⟨false, rfl, ⟨fun h => (by cases h), fun h => absurd h HNE.out⟩, HB2.out⟩
 | true =>
  have HT1 := zH (ht.1 rfl)
  clear ht
  go_wp2_with fail
  refine (zJz _ _ a1 g1 c1 d1 x.d y.d w2 (slb HX.out.d HB2.out) (slb HY.out.d HB2.out)).mono ?_
  rintro e w3 ⟨t, rfl, ht, hb3⟩
  have HB3 := zH (bt HB2.out hb3)
  have k2 : w3.cell? ⟨w.heap.size, 2, none⟩ = some (.slice a2 x.v.length c2) := (R22.out.below hb3).cell 2
  have k5 : w3.cell? ⟨q3, 2, none⟩ = some (.slice g2 y.v.length d2) := (R32.out.below hb3).cell 2
  clear hb3 k1 k4 R22 R32
  cases t with
  | false =>
   have HNE : Hid (¬ x = y) := zH (fun h => by have := ht.2 (by rw [h]); cases this)
   clear ht
   go_wp2_with fail
   go_ret
   exact ⟨false, rfl, ⟨fun h => (by cases h), fun h => absurd h HNE.out⟩, HB3.out⟩
  | true =>
   have HT2 := zH (ht.1 rfl)
   clear ht
   go_wp2_with fail
   refine (zK7 _ _ a2 g2 c2 d2 x.v y.v w3 (slb HX.out.v HB3.out) (slb HY.out.v HB3.out)).mono ?_
   rintro e w4 ⟨t, rfl, ht, hb4⟩
   have HB4 := zH (bt HB3.out hb4)
   have HT3 : Hid (t = true ↔ x = y) := zH ⟨fun h => Cl.ext' HT1.out HT2.out (ht.1 h), fun h => ht.2 (by rw [h])⟩
   clear hb4 k2 k5 ht
   go_wp2_with fail
   go_ret
   exact ⟨t, rfl, HT3.out, HB4.out⟩
theorem zKf (a b : Option Addr) (n c m d : Nat) (L M : List Cl) (xs ys : List Value) (w : World) (hx : xE w a n c L xs) (hy : xE w b m d M ys) :
  Calls Try.prog 48 #[.slice a n c, .slice b m d, .func (.func 49) #[] #[]] w fun e w' => ∃ t, e = .returned (.bool t) ∧ (t = true ↔ L = M) ∧ Below w.heap.size w w' := by
 obtain rfl := hx.n
 obtain rfl := hy.n
 have hm0 := zLP hx.sl.le hx.sl.max; have hm1 := zLP hy.sl.le hy.sl.max
 unfold maxLen at hm0 hm1
 have HX := zH hx; have HY := zH hy
 clear hx hy
 go_enter Try.func48, Try.ntmps48
 by_cases hl : L.length = M.length
 rotate_left
 ·have HNE : Hid (¬ L = M) := zH (fun h => hl (by subst h; rfl))
  have e0 : ((L.length : Int) != (M.length : Int)) = true := by simp; omega
  clear hl
  go_wp2_with fail
  go_ret
  exact ⟨false, rfl, ⟨fun h => (by cases h), fun h => absurd h HNE.out⟩, b0 w⟩
 have e0 : ((L.length : Int) != (M.length : Int)) = false := by simp; omega
 have HL := zH hl
 have hl1 : L.length ≤ M.length := by omega
 have hl2 : M.length ≤ L.length := by omega
 clear hl
 go_wp2_with fail
 clear e0
 go_loopw [17] (fun iv wr => ∃ i : Nat, iv = .int .i64 (i : Int) ∧ i ≤ L.length ∧ Hid (L.take i = M.take i) ∧ Hid (Below w.heap.size w wr)) (fun iv _ => L.length - (intOf iv).toNat)
 case atStart => exact ⟨0, rfl, zLT _, zH rfl, zH (b0 w)⟩
 case round =>
  obtain ⟨i, rfl, hi, HE, HB⟩ := hrel
  by_cases hlt : i < L.length
  ·have hlt2 : i < M.length := by omega
   obtain ⟨p, o, a0, c0, a1, c1, a2, c2, hpa, k0, k1, k2, hca⟩ := (HX.out.below HB.out).get i hlt
   obtain ⟨p', o', g0, d0, g1, d1, g2, d2, hpa', k3, k4, k5, hcb⟩ := (HY.out.below HB.out).get i hlt2
   subst hpa hpa'
   have HT : Hid (L[i] = M[i] → L.take (i + 1) = M.take (i + 1)) := zH (fun he => qR HE.out hlt hlt2 he)
   have HNE : Hid (¬ L[i] = M[i] → ¬ L = M) := zH (fun he h => he (by subst h; rfl))
   have HCA := zH hca; have HCB := zH hcb
   generalize L[i] = x at *; generalize M[i] = y at *
   clear hca hcb
   go_upto_region 6 with fail
   refine yE (fun w5 hw5 => ?_)
   have hb5 : Below wr.heap.size wr w5 := by rw [hw5]; exact ba (b0 wr) _
   have r85 : Rw w5 wr.heap.size #[.slice a0 x.r.length c0, .slice a1 x.d.length c1, .slice a2 x.v.length c2] 42 := by rw [hw5]; exact Rw.new wr _ _
   have hz5 : w5.heap.size = wr.heap.size + 1 := by rw [hw5]; simp
   clear hw5 k0 k1 k2
   replace k3 := cb hb5 k3; replace k4 := cb hb5 k4; replace k5 := cb hb5 k5
   have HZ5 := zH hz5
   clear hz5
   go_upto_region 7 with fail
   refine yE (fun w2 hw2 => ?_)
   have hb2 : Below wr.heap.size wr w2 := by rw [hw2]; exact bt hb5 (ba (b0 w5) _)
   have r8 : Rw w2 wr.heap.size #[.slice a0 x.r.length c0, .slice a1 x.d.length c1, .slice a2 x.v.length c2] 42 := by rw [hw2]; exact r85.alloc _
   have r9 : Rw w2 w5.heap.size #[.slice g0 y.r.length d0, .slice g1 y.d.length d1, .slice g2 y.v.length d2] 42 := by rw [hw2]; exact Rw.new w5 _ _
   clear hw2 k3 k4 k5 r85
   obtain ⟨q9, hq9⟩ : ∃ b, b = w5.heap.size := ⟨_, rfl⟩
   rw [← hq9] at r9 ⊢
   clear hq9
   have k0 : w2.cell? ⟨wr.heap.size, 0, none⟩ = some (.slice a0 x.r.length c0) := r8.cell 0
   have k1 : w2.cell? ⟨wr.heap.size, 1, none⟩ = some (.slice a1 x.d.length c1) := r8.cell 1
   have k2 : w2.cell? ⟨wr.heap.size, 2, none⟩ = some (.slice a2 x.v.length c2) := r8.cell 2
   have k3 : w2.cell? ⟨q9, 0, none⟩ = some (.slice g0 y.r.length d0) := r9.cell 0
   have k4 : w2.cell? ⟨q9, 1, none⟩ = some (.slice g1 y.d.length d1) := r9.cell 1
   have k5 : w2.cell? ⟨q9, 2, none⟩ = some (.slice g2 y.v.length d2) := r9.cell 2
   have HS := zH (zJR x y a0 a1 a2 g0 g1 g2 c0 c1 c2 d0 d1 d2 w2 (HCA.out.below hb2) (HCB.out.below hb2))
   have HB2 := zH hb2
   clear r8 r9 hb2
   go_wp2_with fail
   refine HS.out.mono ?_
   rintro e w8 ⟨t, rfl, ht8, hb8⟩
   have HB8 := zH (bt HB.out (bt HB2.out hb8))
   have HT8 := zH ht8
   clear hb8 ht8 k0 k1 k2 k3 k4 k5
   cases t with
   | true =>
    have HTT := zH (HT.out (HT8.out.1 rfl))
    go_wp2_with fail
    go_roundw
    case rel => exact ⟨i + 1, by go_num, by omega, HTT, HB8⟩
    case measure => simp [intOf]; omega
   | false =>
    have HNN := zH (HNE.out (fun h => by have := HT8.out.2 h; cases this))
    go_wp2_with fail
    go_ret
    exact ⟨false, rfl, ⟨fun h => (by cases h), fun h => absurd h HNN.out⟩, HB8.out⟩
  ·obtain rfl : i = L.length := by omega
   have HA : Hid (L = M) := zH (by have h := HE.out; rw [zLR, zLQ (by omega)] at h; exact h)
   go_wp2_with fail
   go_ret
   exact ⟨true, rfl, ⟨fun _ => HA.out, fun _ => rfl⟩, HB.out⟩
theorem zKb {l : List Fl} {sh : Sh} {W : Nat → List UInt8} (hS : Sch l sh) (hw : Wy l W) (hrp : ∀ x ∈ l, x.rep = 0 ∨ x.rep = 1 ∨ x.rep = 2) (rows : List Tr) (sa ra ca : Option Addr) (sc rc m cc : Nat) (ys xs : List Value) (L : List Cl) (w : World)
  (hs : Sl (fun b => b < w.heap.size) w 4 sa l.length sc (fls l)) (hr : Sl (fun b => b < w.heap.size) w 3 ra rows.length rc ys) (hrow : zZ (fun b => b < w.heap.size) w rows ys) (hc : xE w ca m cc L xs) :
  Calls Try.prog 30 #[.slice sa l.length sc, .slice ra rows.length rc, .slice ca m cc] w fun e w' => ∃ t, e = .returned (.bool t) ∧ (t = true ↔ yM l sh rows = 0 ∧ xL l sh rows = L) ∧ Below w.heap.size w w' := by
 have HC := zH hc
 have HCALL := zH ((zLf hS hw hrp rows sa ra sc rc ys w hs hr hrow).mono (fun e w' h => CQ.of hS h))
 clear hs hr hrow hc hS hw hrp
 go_enter Try.func30, Try.ntmps30
 go_wp2_with fail
 refine HCALL.out.mono ?_
 rintro e w1 ⟨a, n, cap, xs', rfl, hcr, hb1⟩
 have HCR := zH hcr; have HB1 := zH hb1
 clear hcr hb1
 by_cases hE : yM l sh rows = 0
 ·have hEb : (yM l sh rows == 0) = true := by simpa using hE
  have HE := zH hE
  clear hE
  go_wp2_with fail
  refine (zKf a ca n cap m cc (xL l sh rows) L xs' xs w1 HCR.out (HC.out.below HB1.out)).mono ?_
  rintro e w2 ⟨t, rfl, ht, hb2⟩
  have HT := zH ht; have HB2 := zH (bt HB1.out hb2)
  clear ht hb2
  go_wp2_with fail
  go_ret
  exact ⟨t, rfl, ⟨fun h => ⟨HE.out, HT.out.1 h⟩, fun h => HT.out.2 h.2⟩, HB2.out⟩
 ·have hEb : (yM l sh rows == 0) = false := by simpa using hE
  have HE := zH hE
  clear hE
  go_wp2_with fail
  go_ret
  exact ⟨false, rfl, ⟨fun h => (by cases h), fun h => absurd h.1 HE.out⟩, HB1.out⟩
end Go.Proofs.Ytjbkjfefjhbolaa
