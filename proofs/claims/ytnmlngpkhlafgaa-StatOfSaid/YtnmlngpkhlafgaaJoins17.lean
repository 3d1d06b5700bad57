/-
  The walk of StatJoins.
-/
import Derived.Test.YtnmlngpkhlafgaaStat9
import Derived.Test.YtnmlngpkhlafgaaStat7
import Derived.Test.YtnmlngpkhlafgaaRegJ
import Derived.Deep.CutRange
set_option linter.unusedSimpArgs false
namespace Go.Proofs.Ytnmlngpkhlafgaa
open Go.RowKit Go.Shr
/-- What is known of a column of cells that are laid ahead: in whatever world behind. -/
theorem of_later (k : Int) (f1 f2 f3 : Int) (aR aD aV : Option Addr) (nR cR nD cD nV cV : Nat) (l : List Vl) (wb : World) (hl : Sl (fun b => b < wb.heap.size) wb 2 aV nV cV (vls l)) (hn : nD ≤ 1000) (hv : nV ≤ nD) (x : St) (hx : x = ofS k ((nD : Int) - nV) l) (W : World) (hb : Below wb.heap.size wb W) :
    Calls Try.prog 12 #[.agg #[.int .i64 f1, .int .i64 f2, .int .i64 f3, .int .i64 k], .agg #[.slice aR nR cR, .slice aD nD cD, .slice aV nV cV]] W fun e w' => e = .returned (.agg #[.int .i64 x.nulls, .bool x.has, .int .i64 x.mn.n, .string x.mn.s, .int .i64 x.mx.n, .string x.mx.s]) ∧ Below W.heap.size W w' := by
  have := of_v k f1 f2 f3 aR aD aV nR cR nD cD nV cV l W (slb hl hb) hn hv
  rw [← hx] at this
  exact this
theorem ofS_nn {k : Int} {x : St} {n m : Nat} {l : List Vl} (hx : x = ofS k ((n : Int) - m) l) (hn : n ≤ 1000) (hm : m ≤ n) : 0 ≤ x.nulls ∧ x.nulls ≤ 1000 := by subst hx; rw [ofS_nulls]; omega
theorem filtB_nlen {l : List Vl} {bs : List Bool} {n m : Nat} (hl : l.length = n) (hm : (filtB l bs).length = m) : m ≤ n := by have := filtB_count l bs; omega
theorem joinS_nulls (k : Int) (x y : St) : (joinS k x y).nulls = x.nulls + y.nulls := by unfold joinS; split <;> (try split) <;> rfl
theorem HBd {B : Nat} {a b c : World} (h : Below B a b) (k : Below b.heap.size b c) (hB : B ≤ b.heap.size := by first | exact h.size | simp) : Below B a c := h.trans (k.mono hB)
set_option maxHeartbeats 4000000 in
theorem law_joins (kind : Int) (a1 : Option Addr) (n1 cap1 : Nat) (l1 : List Vl) (a2 : Option Addr) (n2 cap2 : Nat) (l2 : List Vl) (a3 : Option Addr) (n3 cap3 : Nat) (l3 : List Vl) (n : Int) (w : World) (_ : (Lit.int .i64 kind).wf = true) (hl1 : Sl (fun b => b < w.heap.size) w 2 a1 n1 cap1 (vls l1)) (hl2 : Sl (fun b => b < w.heap.size) w 2 a2 n2 cap2 (vls l2)) (hl3 : Sl (fun b => b < w.heap.size) w 2 a3 n3 cap3 (vls l3)) (_ : (Lit.int .i64 n).wf = true) :
    Calls Try.prog 5 #[.int .i64 kind, .slice a1 n1 cap1, .slice a2 n2 cap2, .slice a3 n3 cap3, .int .i64 n] w fun e w' => e = .returned (.bool true) ∧ Below w.heap.size w w' := by
  have HL1 := Lib.hid hl1; have HL2 := Lib.hid hl2; have HL3 := Lib.hid hl3; clear hl1 hl2 hl3
  go_enter Try.func5, Try.ntmps5
  go_wp2_with fail
  refine (known_v _).mono ?_
  rintro e w1 ⟨rfl, hb1⟩
  have HB1 := Lib.hid hb1; clear hb1
  go_wp2_with fail
  refine (within_17 kind 4 w1 (by decide) (by decide)).mono ?_
  rintro e w2 ⟨rfl, rfl⟩
  have k1 := Int.emod_nonneg kind (show (4 : Int) ≠ 0 by decide)
  have k2 := Int.emod_lt_of_pos kind (show (0 : Int) < 4 by decide)
  have k3 : 1 ≤ 1 + kind % 4 := by omega
  have k4 : 1 + kind % 4 ≤ 4 := by omega
  clear k1 k2
  go_wp2_with fail
  generalize 1 + kind % 4 = k at *
  have HB2 := Lib.hid (ba HB1.out (.cells #[.int .i64 0, .int .i64 0, .int .i64 1, .int .i64 k] 28))
  have R12 := Lib.hid (Rw.new w1 #[.int .i64 0, .int .i64 0, .int .i64 1, .int .i64 k] 28)
  have hz12 : w.heap.size ≤ w1.heap.size := HB1.out.size
  refine (all_v _ k3 k4 a1 n1 cap1 l1 _ (slb HL1.out HB2.out)).mono ?_
  rintro e w3 ⟨a1', m1, c1', r1, rfl, hm1, hr1, ho1, hb3⟩
  have hlen1 : r1.length = m1 := by have := ho1.len; rw [vls_length] at this; omega
  have G1 := Lib.hid hr1
  have HB3 := Lib.hid (bt HB2.out hb3)
  replace R12 := Lib.hid (R12.out.below hb3)
  have HS1 := Lib.hid (ho1.sl.mono (ok' := fun b => b < w3.heap.size) (fun k hk _ => hk) (by decide))
  clear hb3 ho1 hr1 HB2 HL1
  go_wp2_with fail
  refine (column_v a1' m1 c1' r1 none 0 0 [] w3 HS1.out hm1 (Sl.nil _ _ _ _)).mono ?_
  rintro e w4 ⟨aR1, nR1, cR1, aD1, cD1, aV1, nV1, cV1, rfl, hsD, hsV, hb4⟩
  rw [filtB_none] at hsV
  have hnV : nV1 = m1 := by have := hsV.len; rw [vls_length] at this; omega
  subst hnV
  have HB4 := Lib.hid (bt HB3.out hb4)
  replace R12 := Lib.hid (R12.out.below hb4)
  have V1 := Lib.hid hsV
  clear hb4 hsD hsV HB3 HS1
  go_wp2_with fail
  have HB5 := Lib.hid (ba (ba HB4.out (.cells #[.int .i64 0, .int .i64 0, .int .i64 1, .int .i64 0] 28)) (.cells #[.slice aR1 nR1 cR1, .slice aD1 nV1 cD1, .slice aV1 nV1 cV1] 31))
  replace R12 := Lib.hid ((R12.out.alloc (.cells #[.int .i64 0, .int .i64 0, .int .i64 1, .int .i64 0] 28)).alloc (.cells #[.slice aR1 nR1 cR1, .slice aD1 nV1 cD1, .slice aV1 nV1 cV1] 31))
  have R14 := Lib.hid (Rw.new (w4.alloc (.cells #[.int .i64 0, .int .i64 0, .int .i64 1, .int .i64 0] 28)) #[.slice aR1 nR1 cR1, .slice aD1 nV1 cD1, .slice aV1 nV1 cV1] 31)
  replace V1 := Lib.hid (slb V1.out (ba (ba (b0 w4) (.cells #[.int .i64 0, .int .i64 0, .int .i64 1, .int .i64 0] 28)) (.cells #[.slice aR1 nR1 cR1, .slice aD1 nV1 cD1, .slice aV1 nV1 cV1] 31)))
  refine (all_v _ k3 k4 a2 n2 cap2 l2 _ (slb HL2.out HB5.out)).mono ?_
  rintro e w5 ⟨a2', m2, c2', r2, rfl, hm2, hr2, ho2, hb5⟩
  have hlen2 : r2.length = m2 := by have := ho2.len; rw [vls_length] at this; omega
  have G2 := Lib.hid hr2
  have HB6 := Lib.hid (bt HB5.out hb5)
  replace R12 := Lib.hid (R12.out.below hb5)
  replace R14 := Lib.hid (R14.out.below hb5)
  replace V1 := Lib.hid (slb V1.out hb5)
  have HS2 := Lib.hid (ho2.sl.mono (ok' := fun b => b < w5.heap.size) (fun k hk _ => hk) (by decide))
  have e14 : (w4.alloc (.cells #[.int .i64 0, .int .i64 0, .int .i64 1, .int .i64 0] 28)).heap.size = w4.heap.size + 1 := by simp
  rw [e14] at R14
  clear hb5 ho2 hr2 HB5 HL2 HB4 e14
  go_wp2_with fail
  refine (column_v a2' m2 c2' r2 none 0 0 [] w5 HS2.out hm2 (Sl.nil _ _ _ _)).mono ?_
  rintro e w6 ⟨aR2, nR2, cR2, aD2, cD2, aV2, nV2, cV2, rfl, hsD, hsV, hb6⟩
  rw [filtB_none] at hsV
  have hnV : nV2 = m2 := by have := hsV.len; rw [vls_length] at this; omega
  subst hnV
  have HB7 := Lib.hid (bt HB6.out hb6)
  replace R12 := Lib.hid (R12.out.below hb6)
  replace R14 := Lib.hid (R14.out.below hb6)
  replace V1 := Lib.hid (slb V1.out hb6)
  have V2 := Lib.hid hsV
  clear hb6 hsD hsV HB6 HS2
  go_wp2_with fail
  have HB8 := Lib.hid (ba (ba HB7.out (.cells #[.int .i64 0, .int .i64 0, .int .i64 1, .int .i64 0] 28)) (.cells #[.slice aR2 nR2 cR2, .slice aD2 nV2 cD2, .slice aV2 nV2 cV2] 31))
  replace R12 := Lib.hid ((R12.out.alloc (.cells #[.int .i64 0, .int .i64 0, .int .i64 1, .int .i64 0] 28)).alloc (.cells #[.slice aR2 nR2 cR2, .slice aD2 nV2 cD2, .slice aV2 nV2 cV2] 31))
  replace R14 := Lib.hid ((R14.out.alloc (.cells #[.int .i64 0, .int .i64 0, .int .i64 1, .int .i64 0] 28)).alloc (.cells #[.slice aR2 nR2 cR2, .slice aD2 nV2 cD2, .slice aV2 nV2 cV2] 31))
  have R16 := Lib.hid (Rw.new (w6.alloc (.cells #[.int .i64 0, .int .i64 0, .int .i64 1, .int .i64 0] 28)) #[.slice aR2 nR2 cR2, .slice aD2 nV2 cD2, .slice aV2 nV2 cV2] 31)
  replace V1 := Lib.hid (slb V1.out (ba (ba (b0 w6) (.cells #[.int .i64 0, .int .i64 0, .int .i64 1, .int .i64 0] 28)) (.cells #[.slice aR2 nR2 cR2, .slice aD2 nV2 cD2, .slice aV2 nV2 cV2] 31)))
  replace V2 := Lib.hid (slb V2.out (ba (ba (b0 w6) (.cells #[.int .i64 0, .int .i64 0, .int .i64 1, .int .i64 0] 28)) (.cells #[.slice aR2 nR2 cR2, .slice aD2 nV2 cD2, .slice aV2 nV2 cV2] 31)))
  refine (all_v _ k3 k4 a3 n3 cap3 l3 _ (slb HL3.out HB8.out)).mono ?_
  rintro e w7 ⟨a3', m3, c3', r3, rfl, hm3, hr3, ho3, hb7⟩
  have hlen3 : r3.length = m3 := by have := ho3.len; rw [vls_length] at this; omega
  have G3 := Lib.hid hr3
  have HB9 := Lib.hid (bt HB8.out hb7)
  replace R12 := Lib.hid (R12.out.below hb7)
  replace R14 := Lib.hid (R14.out.below hb7)
  replace R16 := Lib.hid (R16.out.below hb7)
  replace V1 := Lib.hid (slb V1.out hb7)
  replace V2 := Lib.hid (slb V2.out hb7)
  have HS3 := Lib.hid (ho3.sl.mono (ok' := fun b => b < w7.heap.size) (fun k hk _ => hk) (by decide))
  have e16 : (w6.alloc (.cells #[.int .i64 0, .int .i64 0, .int .i64 1, .int .i64 0] 28)).heap.size = w6.heap.size + 1 := by simp
  rw [e16] at R16
  clear hb7 ho3 hr3 HB8 HL3 HB7 e16
  go_wp2_with fail
  refine (within_17 n 2 w7 (by decide) (by decide)).mono ?_
  rintro e w8 ⟨rfl, rfl⟩
  go_wp2_with fail
  generalize (n % 2 == 0) = t at *
  have HB10 := Lib.hid (ba HB9.out (.cells #[.bool false, .bool t] 4))
  replace R12 := Lib.hid (R12.out.alloc (.cells #[.bool false, .bool t] 4))
  replace R14 := Lib.hid (R14.out.alloc (.cells #[.bool false, .bool t] 4))
  replace R16 := Lib.hid (R16.out.alloc (.cells #[.bool false, .bool t] 4))
  replace V1 := Lib.hid (slb V1.out (ba (b0 w7) (.cells #[.bool false, .bool t] 4)))
  replace V2 := Lib.hid (slb V2.out (ba (b0 w7) (.cells #[.bool false, .bool t] 4)))
  replace HS3 := Lib.hid (slb HS3.out (ba (b0 w7) (.cells #[.bool false, .bool t] 4)))
  have hbs : Sl (fun b => b < (w7.alloc (.cells #[.bool false, .bool t] 4)).heap.size) (w7.alloc (.cells #[.bool false, .bool t] 4)) 1 (some ⟨w7.heap.size, 0, none⟩) 2 2 (bools [false, t]) :=
    ⟨rfl, Nat.le_refl _, by decide, .inr ⟨_, 0, rfl, by simp, fun j u hj => by
      rw [(Rw.new w7 #[.bool false, .bool t] 4).cell, Nat.zero_add]
      simpa [bools] using hj⟩⟩
  have HBS := Lib.hid hbs; clear hbs
  refine (column_v a3' m3 c3' r3 _ 2 2 [false, t] _ HS3.out hm3 HBS.out).mono ?_
  rintro e w9 ⟨aR3, nR3, cR3, aD3, cD3, aV3, nV3, cV3, rfl, hsD, hsV, hb9⟩
  have hnV3 : nV3 ≤ m3 := by
    have h1 := hsV.len
    rw [vls_length] at h1
    exact filtB_nlen (bs := [false, t]) hlen3 (by omega)
  replace G3 := Lib.hid (show ∀ x ∈ filtB r3 [false, t], goodV k x ∧ x.s.size ≤ 100 from fun x hx => G3.out x (filtB_mem _ _ hx))
  have HB11 := Lib.hid (bt HB10.out hb9)
  replace R12 := Lib.hid (R12.out.below hb9)
  replace R14 := Lib.hid (R14.out.below hb9)
  replace R16 := Lib.hid (R16.out.below hb9)
  replace V1 := Lib.hid (slb V1.out hb9)
  replace V2 := Lib.hid (slb V2.out hb9)
  have V3 := Lib.hid hsV
  clear hb9 hsD hsV HB10 HS3 HBS HB9
  go_wp2_with fail
  obtain ⟨wb, hwb⟩ : ∃ wb, wb = ((w9.alloc (.cells #[.int .i64 0, .int .i64 0, .int .i64 1, .int .i64 0] 28)).alloc (.cells #[.slice aR3 nR3 cR3, .slice aD3 m3 cD3, .slice aV3 nV3 cV3] 31)) := ⟨_, rfl⟩
  have HB12 := Lib.hid (Go.Shr.Below.ren hwb (ba (ba HB11.out (.cells #[.int .i64 0, .int .i64 0, .int .i64 1, .int .i64 0] 28)) (.cells #[.slice aR3 nR3 cR3, .slice aD3 m3 cD3, .slice aV3 nV3 cV3] 31)))
  replace R12 := Lib.hid (Rw.ren hwb ((R12.out.alloc (.cells #[.int .i64 0, .int .i64 0, .int .i64 1, .int .i64 0] 28)).alloc (.cells #[.slice aR3 nR3 cR3, .slice aD3 m3 cD3, .slice aV3 nV3 cV3] 31)))
  replace R14 := Lib.hid (Rw.ren hwb ((R14.out.alloc (.cells #[.int .i64 0, .int .i64 0, .int .i64 1, .int .i64 0] 28)).alloc (.cells #[.slice aR3 nR3 cR3, .slice aD3 m3 cD3, .slice aV3 nV3 cV3] 31)))
  replace R16 := Lib.hid (Rw.ren hwb ((R16.out.alloc (.cells #[.int .i64 0, .int .i64 0, .int .i64 1, .int .i64 0] 28)).alloc (.cells #[.slice aR3 nR3 cR3, .slice aD3 m3 cD3, .slice aV3 nV3 cV3] 31)))
  have R18 := Lib.hid (Rw.ren hwb (Rw.new' (b := w9.heap.size + 1) (cur := #[.slice aR3 nR3 cR3, .slice aD3 m3 cD3, .slice aV3 nV3 cV3]) (t := 31) (w := (w9.alloc (.cells #[.int .i64 0, .int .i64 0, .int .i64 1, .int .i64 0] 28))) (by simp)))
  have hbw : Below w9.heap.size w9 wb := Go.Shr.Below.ren hwb (ba (ba (b0 w9) (.cells #[.int .i64 0, .int .i64 0, .int .i64 1, .int .i64 0] 28)) (.cells #[.slice aR3 nR3 cR3, .slice aD3 m3 cD3, .slice aV3 nV3 cV3] 31))
  replace V1 := Lib.hid (slb V1.out hbw)
  replace V2 := Lib.hid (slb V2.out hbw)
  replace V3 := Lib.hid (slb V3.out hbw)
  rw [← hwb]
  clear hbw hwb HB11
  obtain ⟨x, hx⟩ : ∃ x, x = ofS k ((nV1 : Int) - nV1) r1 := ⟨_, rfl⟩
  obtain ⟨y, hy⟩ : ∃ y, y = ofS k ((nV2 : Int) - nV2) r2 := ⟨_, rfl⟩
  obtain ⟨z, hz⟩ : ∃ z, z = ofS k ((m3 : Int) - nV3) (filtB r3 [false, t]) := ⟨_, rfl⟩
  have gx : goodS k x := hx ▸ goodS_of _ _ (fun v hv => (G1.out v hv).1)
  have hxn := ofS_nn hx (by omega) (by omega)
  have hyn := ofS_nn hy (by omega) (by omega)
  have hzn := ofS_nn hz (by omega) (by omega)
  have HX := Lib.hid (of_later k 0 0 1 aR1 aD1 aV1 nR1 cR1 nV1 cD1 nV1 cV1 r1 wb V1.out (by omega) (by omega) x hx)
  have HY := Lib.hid (of_later k 0 0 1 aR2 aD2 aV2 nR2 cR2 nV2 cD2 nV2 cV2 r2 wb V2.out (by omega) (by omega) y hy)
  have HZ := Lib.hid (of_later k 0 0 1 aR3 aD3 aV3 nR3 cR3 m3 cD3 nV3 cV3 (filtB r3 [false, t]) wb V3.out (by omega) (by omega) z hz)
  have GX := Lib.hid gx
  clear hx hy hz gx V1 V2 V3 G1 G2 G3
  generalize w1.heap.size = b12 at *
  generalize w4.heap.size + 1 = b14 at *
  generalize w6.heap.size + 1 = b16 at *
  generalize w9.heap.size + 1 = b18 at *
  go_cut [19, 20, 21] from 48 to 49 (fun v19 v20 v21 wc => ∃ (b19 b20 b21 : Nat), v19 = .pointer (some ⟨b19, 0, none⟩) ∧ v20 = .pointer (some ⟨b20, 0, none⟩) ∧ v21 = .pointer (some ⟨b21, 0, none⟩) ∧
      Hid (Rw wc b19 #[.int .i64 x.nulls, .bool x.has, .int .i64 x.mn.n, .string x.mn.s, .int .i64 x.mx.n, .string x.mx.s] 37) ∧ Hid (Rw wc b20 #[.int .i64 y.nulls, .bool y.has, .int .i64 y.mn.n, .string y.mn.s, .int .i64 y.mx.n, .string y.mx.s] 37) ∧ Hid (Rw wc b21 #[.int .i64 z.nulls, .bool z.has, .int .i64 z.mn.n, .string z.mn.s, .int .i64 z.mx.n, .string z.mx.s] 37) ∧ Below w.heap.size w wc)
  case first =>
    have r12 := R12.out; have r14 := R14.out; have r16 := R16.out; have r18 := R18.out
    have hBw0 : Below wb.heap.size wb wb.drew := (b0 wb).drew
    have hl12 := r12.lt; have hl14 := r14.lt; have hl16 := r16.lt; have hl18 := r18.lt
    clear R12 R14 R16 R18
    refine Go.Shr.wp_region_K [12, 13, 14] [54, 55, 56, 57, 58, 59, 60, 61, 62, 19, 20, 21] (fun w' => Rw w' b12 #[.int .i64 0, .int .i64 0, .int .i64 1, .int .i64 k] 28 ∧ Rw w' b14 #[.slice aR1 nR1 cR1, .slice aD1 nV1 cD1, .slice aV1 nV1 cV1] 31 ∧ Rw w' b16 #[.slice aR2 nR2 cR2, .slice aD2 nV2 cD2, .slice aV2 nV2 cV2] 31 ∧ Rw w' b18 #[.slice aR3 nR3 cR3, .slice aD3 m3 cD3, .slice aV3 nV3 cV3] 31) [?g1cJ0, ?g1cJ1, ?g1cJ2, ?g1cJ3, ?g1cJ4, ?g1cJ5, ?g1cJ6, ?g1cJ7, ?g1cJ8, Go.undef, Go.undef, Go.undef, Go.undef, Go.undef, Go.undef] (fun _ => none) (fun i => match i with | 9 => some (#[.int .i64 0, .bool false, .int .i64 0, .string ByteArray.empty, .int .i64 0, .string ByteArray.empty], 37) | 10 => some (#[.int .i64 0, .bool false, .int .i64 0, .string ByteArray.empty, .int .i64 0, .string ByteArray.empty], 37) | 11 => some (#[.int .i64 0, .bool false, .int .i64 0, .string ByteArray.empty, .int .i64 0, .string ByteArray.empty], 37) | _ => none) (by kernel_rfl) (by kernel_rfl) (by simp) ?g1kS ?g1kT ?g1kC ?g1kO ?g1kA ?g1kE
    case g1kS => first | trivial | ((try dsimp only); (exact ⟨r12, r14, r16, r18⟩))
    case g1kT => intro w w' hb h; first | trivial | ((try dsimp only at h ⊢); (exact ⟨h.1.below hb, h.2.1.below hb, h.2.2.1.below hb, h.2.2.2.below hb⟩))
    case g1kC => intro i p hp; cases hp
    case g1kO =>
      refine (show Go.Shr.AllO 15 _ from (Go.Shr.AllO.succ (Go.Shr.AllO.succ (Go.Shr.AllO.succ (Go.Shr.AllO.succ (Go.Shr.AllO.succ (Go.Shr.AllO.succ (Go.Shr.AllO.succ (Go.Shr.AllO.succ (Go.Shr.AllO.succ (Go.Shr.AllO.succ (Go.Shr.AllO.succ (Go.Shr.AllO.succ (Go.Shr.AllO.succ (Go.Shr.AllO.succ (Go.Shr.AllO.succ Go.Shr.AllO.zero ?g1kO0) ?g1kO1) ?g1kO2) ?g1kO3) ?g1kO4) ?g1kO5) ?g1kO6) ?g1kO7) ?g1kO8) ?g1kO9) ?g1kO10) ?g1kO11) ?g1kO12) ?g1kO13) ?g1kO14))
      case g1kO0 =>
        intro _ _
        refine Go.Shr.ObJ.mk (o := { dst := some 54, op := Go.Op.load 28 (Go.Operand.tmp 12), type := 28, pos := "more.go:48", after := #[], guard := none }) rfl ?_
        intro t w hSw hBw hdep G hG; try dsimp only at hSw
        refine hG.out ?_
        clear hG
        generalize hfr : Go.Shr.frOf _ _ t = fr
        simp only [Go.Shr.frOf, List.foldl_cons, List.foldl_nil, Act.put, List.setIfInBounds_toArray, List.set_cons_zero, List.set_cons_succ] at hfr
        subst hfr
        refine Go.Shr.obq (C := Go.Shr.CK _ _ _ _) (i := 0) (v := ?g1cJ0) (by rfl) ?g1kY0 (Go.Shr.CK_intro rfl rfl rfl)
        case g1kY0 => (obtain ⟨g1, g2, g3, g4⟩ := hSw); (have q0 := g1.cell 0); (have q1 := g1.cell 1); (have q2 := g1.cell 2); (have q3 := g1.cell 3); (have q4 := g2.cell 0); (have q5 := g2.cell 1); (have q6 := g2.cell 2); (have q7 := g3.cell 0); (have q8 := g3.cell 1); (have q9 := g3.cell 2); (have q10 := g4.cell 0); (have q11 := g4.cell 1); (have q12 := g4.cell 2); (simp only [List.getElem?_toArray, List.getElem?_cons_zero, List.getElem?_cons_succ] at q0 q1 q2 q3 q4 q5 q6 q7 q8 q9 q10 q11 q12); go_simp; try with_reducible rfl
      case g1kO1 =>
        intro _ _
        refine Go.Shr.ObJ.mk (o := { dst := some 55, op := Go.Op.load 31 (Go.Operand.tmp 14), type := 31, pos := "more.go:48", after := #[], guard := none }) rfl ?_
        intro t w hSw hBw hdep G hG; try dsimp only at hSw
        refine hG.out ?_
        clear hG
        generalize hfr : Go.Shr.frOf _ _ t = fr
        simp only [Go.Shr.frOf, List.foldl_cons, List.foldl_nil, Act.put, List.setIfInBounds_toArray, List.set_cons_zero, List.set_cons_succ] at hfr
        subst hfr
        refine Go.Shr.obq (C := Go.Shr.CK _ _ _ _) (i := 1) (v := ?g1cJ1) (by rfl) ?g1kY1 (Go.Shr.CK_intro rfl rfl rfl)
        case g1kY1 => (obtain ⟨g1, g2, g3, g4⟩ := hSw); (have q0 := g1.cell 0); (have q1 := g1.cell 1); (have q2 := g1.cell 2); (have q3 := g1.cell 3); (have q4 := g2.cell 0); (have q5 := g2.cell 1); (have q6 := g2.cell 2); (have q7 := g3.cell 0); (have q8 := g3.cell 1); (have q9 := g3.cell 2); (have q10 := g4.cell 0); (have q11 := g4.cell 1); (have q12 := g4.cell 2); (simp only [List.getElem?_toArray, List.getElem?_cons_zero, List.getElem?_cons_succ] at q0 q1 q2 q3 q4 q5 q6 q7 q8 q9 q10 q11 q12); go_simp; try with_reducible rfl
      case g1kO2 =>
        intro _ _
        refine Go.Shr.ObJ.mk (o := { dst := some 56, op := Go.Op.call { callee := Go.Callee.value (Go.Operand.func 12), args := #[Go.Operand.tmp 54, Go.Operand.tmp 55], argTypes := #[28, 31] }, type := 37, pos := "more.go:48", after := #[{ on := 0, ground := Go.Ground.data }, { on := 1, ground := Go.Ground.data }], guard := none }) rfl ?_
        intro t w hSw hBw hdep G hG; try dsimp only at hSw
        have ht54 : t 54 = _ := Go.Shr.CK_const (v := t 54) (hdep 0 (by kernel_rfl)) rfl rfl rfl
        have ht55 : t 55 = _ := Go.Shr.CK_const (v := t 55) (hdep 1 (by kernel_rfl)) rfl rfl rfl
        refine hG.out ?_
        clear hG
        generalize hfr : Go.Shr.frOf _ _ t = fr
        simp only [Go.Shr.frOf, List.foldl_cons, List.foldl_nil, Act.put, List.setIfInBounds_toArray, List.set_cons_zero, List.set_cons_succ, ht54, ht55] at hfr
        subst hfr
        clear ht54
        clear ht55
        refine Go.Shr.obc (C := Go.Shr.CK _ _ _ _) (i := 2) (by rfl) (fun K hK => ?_)
        ((obtain ⟨g1, g2, g3, g4⟩ := hSw); (have q0 := g1.cell 0); (have q1 := g1.cell 1); (have q2 := g1.cell 2); (have q3 := g1.cell 3); (have q4 := g2.cell 0); (have q5 := g2.cell 1); (have q6 := g2.cell 2); (have q7 := g3.cell 0); (have q8 := g3.cell 1); (have q9 := g3.cell 2); (have q10 := g4.cell 0); (have q11 := g4.cell 1); (have q12 := g4.cell 2); (simp only [List.getElem?_toArray, List.getElem?_cons_zero, List.getElem?_cons_succ] at q0 q1 q2 q3 q4 q5 q6 q7 q8 q9 q10 q11 q12)); go_simp; refine (HX.out _ (HBd hBw0 hBw)).mono ?_; rintro e w2 ⟨rfl, hb2⟩; dsimp only
        refine hK.out _ _ hb2 (Go.Shr.CK_intro rfl rfl ?g1kY2)
        case g1kY2 => simp only [List.getElem?_cons_succ, List.getElem?_cons_zero]; with_reducible rfl
      case g1kO3 =>
        intro _ _
        refine Go.Shr.ObJ.mk (o := { dst := some 57, op := Go.Op.load 28 (Go.Operand.tmp 12), type := 28, pos := "more.go:48", after := #[], guard := none }) rfl ?_
        intro t w hSw hBw hdep G hG; try dsimp only at hSw
        refine hG.out ?_
        clear hG
        generalize hfr : Go.Shr.frOf _ _ t = fr
        simp only [Go.Shr.frOf, List.foldl_cons, List.foldl_nil, Act.put, List.setIfInBounds_toArray, List.set_cons_zero, List.set_cons_succ] at hfr
        subst hfr
        refine Go.Shr.obq (C := Go.Shr.CK _ _ _ _) (i := 3) (v := ?g1cJ3) (by rfl) ?g1kY3 (Go.Shr.CK_intro rfl rfl rfl)
        case g1kY3 => (obtain ⟨g1, g2, g3, g4⟩ := hSw); (have q0 := g1.cell 0); (have q1 := g1.cell 1); (have q2 := g1.cell 2); (have q3 := g1.cell 3); (have q4 := g2.cell 0); (have q5 := g2.cell 1); (have q6 := g2.cell 2); (have q7 := g3.cell 0); (have q8 := g3.cell 1); (have q9 := g3.cell 2); (have q10 := g4.cell 0); (have q11 := g4.cell 1); (have q12 := g4.cell 2); (simp only [List.getElem?_toArray, List.getElem?_cons_zero, List.getElem?_cons_succ] at q0 q1 q2 q3 q4 q5 q6 q7 q8 q9 q10 q11 q12); go_simp; try with_reducible rfl
      case g1kO4 =>
        intro _ _
        refine Go.Shr.ObJ.mk (o := { dst := some 58, op := Go.Op.load 31 (Go.Operand.tmp 16), type := 31, pos := "more.go:48", after := #[], guard := none }) rfl ?_
        intro t w hSw hBw hdep G hG; try dsimp only at hSw
        refine hG.out ?_
        clear hG
        generalize hfr : Go.Shr.frOf _ _ t = fr
        simp only [Go.Shr.frOf, List.foldl_cons, List.foldl_nil, Act.put, List.setIfInBounds_toArray, List.set_cons_zero, List.set_cons_succ] at hfr
        subst hfr
        refine Go.Shr.obq (C := Go.Shr.CK _ _ _ _) (i := 4) (v := ?g1cJ4) (by rfl) ?g1kY4 (Go.Shr.CK_intro rfl rfl rfl)
        case g1kY4 => (obtain ⟨g1, g2, g3, g4⟩ := hSw); (have q0 := g1.cell 0); (have q1 := g1.cell 1); (have q2 := g1.cell 2); (have q3 := g1.cell 3); (have q4 := g2.cell 0); (have q5 := g2.cell 1); (have q6 := g2.cell 2); (have q7 := g3.cell 0); (have q8 := g3.cell 1); (have q9 := g3.cell 2); (have q10 := g4.cell 0); (have q11 := g4.cell 1); (have q12 := g4.cell 2); (simp only [List.getElem?_toArray, List.getElem?_cons_zero, List.getElem?_cons_succ] at q0 q1 q2 q3 q4 q5 q6 q7 q8 q9 q10 q11 q12); go_simp; try with_reducible rfl
      case g1kO5 =>
        intro _ _
        refine Go.Shr.ObJ.mk (o := { dst := some 59, op := Go.Op.call { callee := Go.Callee.value (Go.Operand.func 12), args := #[Go.Operand.tmp 57, Go.Operand.tmp 58], argTypes := #[28, 31] }, type := 37, pos := "more.go:48", after := #[{ on := 3, ground := Go.Ground.data }, { on := 4, ground := Go.Ground.data }, { on := 2, ground := Go.Ground.chain }], guard := none }) rfl ?_
        intro t w hSw hBw hdep G hG; try dsimp only at hSw
        have ht57 : t 57 = _ := Go.Shr.CK_const (v := t 57) (hdep 3 (by kernel_rfl)) rfl rfl rfl
        have ht58 : t 58 = _ := Go.Shr.CK_const (v := t 58) (hdep 4 (by kernel_rfl)) rfl rfl rfl
        refine hG.out ?_
        clear hG
        generalize hfr : Go.Shr.frOf _ _ t = fr
        simp only [Go.Shr.frOf, List.foldl_cons, List.foldl_nil, Act.put, List.setIfInBounds_toArray, List.set_cons_zero, List.set_cons_succ, ht57, ht58] at hfr
        subst hfr
        clear ht57
        clear ht58
        refine Go.Shr.obc (C := Go.Shr.CK _ _ _ _) (i := 5) (by rfl) (fun K hK => ?_)
        ((obtain ⟨g1, g2, g3, g4⟩ := hSw); (have q0 := g1.cell 0); (have q1 := g1.cell 1); (have q2 := g1.cell 2); (have q3 := g1.cell 3); (have q4 := g2.cell 0); (have q5 := g2.cell 1); (have q6 := g2.cell 2); (have q7 := g3.cell 0); (have q8 := g3.cell 1); (have q9 := g3.cell 2); (have q10 := g4.cell 0); (have q11 := g4.cell 1); (have q12 := g4.cell 2); (simp only [List.getElem?_toArray, List.getElem?_cons_zero, List.getElem?_cons_succ] at q0 q1 q2 q3 q4 q5 q6 q7 q8 q9 q10 q11 q12)); go_simp; refine (HY.out _ (HBd hBw0 hBw)).mono ?_; rintro e w5 ⟨rfl, hb5⟩; dsimp only
        refine hK.out _ _ hb5 (Go.Shr.CK_intro rfl rfl ?g1kY5)
        case g1kY5 => simp only [List.getElem?_cons_succ, List.getElem?_cons_zero]; with_reducible rfl
      case g1kO6 =>
        intro _ _
        refine Go.Shr.ObJ.mk (o := { dst := some 60, op := Go.Op.load 28 (Go.Operand.tmp 12), type := 28, pos := "more.go:48", after := #[], guard := none }) rfl ?_
        intro t w hSw hBw hdep G hG; try dsimp only at hSw
        refine hG.out ?_
        clear hG
        generalize hfr : Go.Shr.frOf _ _ t = fr
        simp only [Go.Shr.frOf, List.foldl_cons, List.foldl_nil, Act.put, List.setIfInBounds_toArray, List.set_cons_zero, List.set_cons_succ] at hfr
        subst hfr
        refine Go.Shr.obq (C := Go.Shr.CK _ _ _ _) (i := 6) (v := ?g1cJ6) (by rfl) ?g1kY6 (Go.Shr.CK_intro rfl rfl rfl)
        case g1kY6 => (obtain ⟨g1, g2, g3, g4⟩ := hSw); (have q0 := g1.cell 0); (have q1 := g1.cell 1); (have q2 := g1.cell 2); (have q3 := g1.cell 3); (have q4 := g2.cell 0); (have q5 := g2.cell 1); (have q6 := g2.cell 2); (have q7 := g3.cell 0); (have q8 := g3.cell 1); (have q9 := g3.cell 2); (have q10 := g4.cell 0); (have q11 := g4.cell 1); (have q12 := g4.cell 2); (simp only [List.getElem?_toArray, List.getElem?_cons_zero, List.getElem?_cons_succ] at q0 q1 q2 q3 q4 q5 q6 q7 q8 q9 q10 q11 q12); go_simp; try with_reducible rfl
      case g1kO7 =>
        intro _ _
        refine Go.Shr.ObJ.mk (o := { dst := some 61, op := Go.Op.load 31 (Go.Operand.tmp 18), type := 31, pos := "more.go:48", after := #[], guard := none }) rfl ?_
        intro t w hSw hBw hdep G hG; try dsimp only at hSw
        refine hG.out ?_
        clear hG
        generalize hfr : Go.Shr.frOf _ _ t = fr
        simp only [Go.Shr.frOf, List.foldl_cons, List.foldl_nil, Act.put, List.setIfInBounds_toArray, List.set_cons_zero, List.set_cons_succ] at hfr
        subst hfr
        refine Go.Shr.obq (C := Go.Shr.CK _ _ _ _) (i := 7) (v := ?g1cJ7) (by rfl) ?g1kY7 (Go.Shr.CK_intro rfl rfl rfl)
        case g1kY7 => (obtain ⟨g1, g2, g3, g4⟩ := hSw); (have q0 := g1.cell 0); (have q1 := g1.cell 1); (have q2 := g1.cell 2); (have q3 := g1.cell 3); (have q4 := g2.cell 0); (have q5 := g2.cell 1); (have q6 := g2.cell 2); (have q7 := g3.cell 0); (have q8 := g3.cell 1); (have q9 := g3.cell 2); (have q10 := g4.cell 0); (have q11 := g4.cell 1); (have q12 := g4.cell 2); (simp only [List.getElem?_toArray, List.getElem?_cons_zero, List.getElem?_cons_succ] at q0 q1 q2 q3 q4 q5 q6 q7 q8 q9 q10 q11 q12); go_simp; try with_reducible rfl
      case g1kO8 =>
        intro _ _
        refine Go.Shr.ObJ.mk (o := { dst := some 62, op := Go.Op.call { callee := Go.Callee.value (Go.Operand.func 12), args := #[Go.Operand.tmp 60, Go.Operand.tmp 61], argTypes := #[28, 31] }, type := 37, pos := "more.go:48", after := #[{ on := 6, ground := Go.Ground.data }, { on := 7, ground := Go.Ground.data }, { on := 5, ground := Go.Ground.chain }], guard := none }) rfl ?_
        intro t w hSw hBw hdep G hG; try dsimp only at hSw
        have ht60 : t 60 = _ := Go.Shr.CK_const (v := t 60) (hdep 6 (by kernel_rfl)) rfl rfl rfl
        have ht61 : t 61 = _ := Go.Shr.CK_const (v := t 61) (hdep 7 (by kernel_rfl)) rfl rfl rfl
        refine hG.out ?_
        clear hG
        generalize hfr : Go.Shr.frOf _ _ t = fr
        simp only [Go.Shr.frOf, List.foldl_cons, List.foldl_nil, Act.put, List.setIfInBounds_toArray, List.set_cons_zero, List.set_cons_succ, ht60, ht61] at hfr
        subst hfr
        clear ht60
        clear ht61
        refine Go.Shr.obc (C := Go.Shr.CK _ _ _ _) (i := 8) (by rfl) (fun K hK => ?_)
        ((obtain ⟨g1, g2, g3, g4⟩ := hSw); (have q0 := g1.cell 0); (have q1 := g1.cell 1); (have q2 := g1.cell 2); (have q3 := g1.cell 3); (have q4 := g2.cell 0); (have q5 := g2.cell 1); (have q6 := g2.cell 2); (have q7 := g3.cell 0); (have q8 := g3.cell 1); (have q9 := g3.cell 2); (have q10 := g4.cell 0); (have q11 := g4.cell 1); (have q12 := g4.cell 2); (simp only [List.getElem?_toArray, List.getElem?_cons_zero, List.getElem?_cons_succ] at q0 q1 q2 q3 q4 q5 q6 q7 q8 q9 q10 q11 q12)); go_simp; refine (HZ.out _ (HBd hBw0 hBw)).mono ?_; rintro e w8 ⟨rfl, hb8⟩; dsimp only
        refine hK.out _ _ hb8 (Go.Shr.CK_intro rfl rfl ?g1kY8)
        case g1kY8 => simp only [List.getElem?_cons_succ, List.getElem?_cons_zero]; with_reducible rfl
      case g1kO9 => exact fun _ h => absurd h (by simp)
      case g1kO10 => exact fun _ h => absurd h (by simp)
      case g1kO11 => exact fun _ h => absurd h (by simp)
      case g1kO12 => exact fun h => absurd h (by decide)
      case g1kO13 => exact fun h => absurd h (by decide)
      case g1kO14 => exact fun h => absurd h (by decide)
    case g1kA =>
      refine (show Go.Shr.AllO 15 _ from (Go.Shr.AllO.succ (Go.Shr.AllO.succ (Go.Shr.AllO.succ (Go.Shr.AllO.succ (Go.Shr.AllO.succ (Go.Shr.AllO.succ (Go.Shr.AllO.succ (Go.Shr.AllO.succ (Go.Shr.AllO.succ (Go.Shr.AllO.succ (Go.Shr.AllO.succ (Go.Shr.AllO.succ (Go.Shr.AllO.succ (Go.Shr.AllO.succ (Go.Shr.AllO.succ Go.Shr.AllO.zero ?g1kA0) ?g1kA1) ?g1kA2) ?g1kA3) ?g1kA4) ?g1kA5) ?g1kA6) ?g1kA7) ?g1kA8) ?g1kA9) ?g1kA10) ?g1kA11) ?g1kA12) ?g1kA13) ?g1kA14))
      case g1kA0 => intro z hz; cases hz
      case g1kA1 => intro z hz; cases hz
      case g1kA2 => intro z hz; cases hz
      case g1kA3 => intro z hz; cases hz
      case g1kA4 => intro z hz; cases hz
      case g1kA5 => intro z hz; cases hz
      case g1kA6 => intro z hz; cases hz
      case g1kA7 => intro z hz; cases hz
      case g1kA8 => intro z hz; cases hz
      case g1kA9 => intro z hz; cases hz; refine Go.Shr.obal (o := { dst := some 19, op := Go.Op.alloc 37, type := 0, pos := "more.go:48", after := #[], guard := none }) rfl rfl ?_; intro K a w hK; go_simp; exact hK
      case g1kA10 => intro z hz; cases hz; refine Go.Shr.obal (o := { dst := some 20, op := Go.Op.alloc 37, type := 0, pos := "more.go:48", after := #[], guard := none }) rfl rfl ?_; intro K a w hK; go_simp; exact hK
      case g1kA11 => intro z hz; cases hz; refine Go.Shr.obal (o := { dst := some 21, op := Go.Op.alloc 37, type := 0, pos := "more.go:48", after := #[], guard := none }) rfl rfl ?_; intro K a w hK; go_simp; exact hK
      case g1kA12 => intro z hz; cases hz
      case g1kA13 => intro z hz; cases hz
      case g1kA14 => intro z hz; cases hz
    case g1kE =>
      intro a w hJ G hG
      obtain ⟨t, rfl, hSw, HJB, hcJ, hdJ⟩ := hJ.open
      try dsimp only at hSw
      have ht54 : t 54 = _ := Go.Shr.CK_const (v := t 54) (hcJ 0 (by decide) (by decide)) rfl rfl rfl
      have ht55 : t 55 = _ := Go.Shr.CK_const (v := t 55) (hcJ 1 (by decide) (by decide)) rfl rfl rfl
      have ht56 : t 56 = _ := Go.Shr.CK_const (v := t 56) (hcJ 2 (by decide) (by decide)) rfl rfl rfl
      have ht57 : t 57 = _ := Go.Shr.CK_const (v := t 57) (hcJ 3 (by decide) (by decide)) rfl rfl rfl
      have ht58 : t 58 = _ := Go.Shr.CK_const (v := t 58) (hcJ 4 (by decide) (by decide)) rfl rfl rfl
      have ht59 : t 59 = _ := Go.Shr.CK_const (v := t 59) (hcJ 5 (by decide) (by decide)) rfl rfl rfl
      have ht60 : t 60 = _ := Go.Shr.CK_const (v := t 60) (hcJ 6 (by decide) (by decide)) rfl rfl rfl
      have ht61 : t 61 = _ := Go.Shr.CK_const (v := t 61) (hcJ 7 (by decide) (by decide)) rfl rfl rfl
      have ht62 : t 62 = _ := Go.Shr.CK_const (v := t 62) (hcJ 8 (by decide) (by decide)) rfl rfl rfl
      obtain ⟨b19, he19, hg19, r19⟩ := Go.Shr.CK_new (v := t 19) (hcJ 9 (by decide) (by decide)) rfl
      obtain ⟨b20, he20, hg20, r20⟩ := Go.Shr.CK_new (v := t 20) (hcJ 10 (by decide) (by decide)) rfl
      obtain ⟨b21, he21, hg21, r21⟩ := Go.Shr.CK_new (v := t 21) (hcJ 11 (by decide) (by decide)) rfl
      have hn19_20 : b19 ≠ b20 := fun h => hdJ 9 10 (by simp) (by simp) (by decide) (by decide) (by decide) (by decide) (by decide) (by show t 19 = t 20; rw [he19, he20, h])
      have hn19_21 : b19 ≠ b21 := fun h => hdJ 9 11 (by simp) (by simp) (by decide) (by decide) (by decide) (by decide) (by decide) (by show t 19 = t 21; rw [he19, he21, h])
      have hn20_21 : b20 ≠ b21 := fun h => hdJ 10 11 (by simp) (by simp) (by decide) (by decide) (by decide) (by decide) (by decide) (by show t 20 = t 21; rw [he20, he21, h])
      obtain ⟨r12, r14, r16, r18⟩ := hSw
      clear hcJ hdJ
      refine hG.out ?_
      clear hG G
      refine Go.Shr.wpAny_of_F (S := fun _ => True) (F := [12, 13, 14]) _ _ _ _ ?_
      simp only [Go.Shr.frOf, List.foldl_cons, List.foldl_nil, Act.put, List.setIfInBounds_toArray, List.set_cons_zero, List.set_cons_succ, ht54, ht55, ht56, ht57, ht58, ht59, ht60, ht61, ht62, he19, he20, he21]
      clear ht54 ht55 ht56 ht57 ht58 ht59 ht60 ht61 ht62 he19 he20 he21
      have HB := HBd hBw0 HJB
      refine (show Go.Shr.wpAnyF _ _ _ _ _ _ 3 (Go.Shr.listF 15 [12, 13, 14]) _ _ from ?_)
      have hHeld : True := trivial
      refine Go.Shr.wpAnyF_ready [12] (by kernel_rfl) (by simp) ?_
      refine Go.Shr.AllReadyF.last 12 (o := { dst := none, op := Go.Op.store 37 (Go.Operand.tmp 19) (Go.Operand.tmp 56), type := 0, pos := "more.go:48", after := #[{ on := 9, ground := Go.Ground.data }, { on := 2, ground := Go.Ground.data }, { on := 8, ground := Go.Ground.chain }, { on := 0, ground := Go.Ground.phase }, { on := 1, ground := Go.Ground.phase }, { on := 2, ground := Go.Ground.phase }, { on := 3, ground := Go.Ground.textOnly Go.Departure.lateStores }, { on := 4, ground := Go.Ground.textOnly Go.Departure.lateStores }, { on := 5, ground := Go.Ground.textOnly Go.Departure.lateStoresUnsure }, { on := 6, ground := Go.Ground.textOnly Go.Departure.lateStores }, { on := 7, ground := Go.Ground.textOnly Go.Departure.lateStores }, { on := 8, ground := Go.Ground.textOnly Go.Departure.lateStoresUnsure }, { on := 9, ground := Go.Ground.phase }, { on := 10, ground := Go.Ground.phase }, { on := 11, ground := Go.Ground.phase }], guard := none }) rfl (by kernel_rfl) (fun K hK => ?g1ro12) ?g1rm12
      case g1rm12 => exact Go.Shr.AllReadyF.nil
      (have q12_0 := r19.cell 0); (have q12_1 := r19.cell 1); (have q12_2 := r19.cell 2); (have q12_3 := r19.cell 3); (have q12_4 := r19.cell 4); (have q12_5 := r19.cell 5); (have qf12 := r19.frozen); (have ql12 := r19.lt); (simp only [List.getElem?_toArray, List.getElem?_cons_zero, List.getElem?_cons_succ] at q12_0 q12_1 q12_2 q12_3 q12_4 q12_5); go_simp; refine gen_w (fun W hW => ?_); (try replace r12 := Rw.ren hW (r12.other6 (by omega))); (try replace r14 := Rw.ren hW (r14.other6 (by omega))); (try replace r16 := Rw.ren hW (r16.other6 (by omega))); (try replace r18 := Rw.ren hW (r18.other6 (by omega))); (try replace r20 := Rw.ren hW (r20.other6 (by omega))); (try replace r21 := Rw.ren hW (r21.other6 (by omega))); (replace r19 := Rw.ren hW (r19.set6)); (try replace HC := Go.Shr.Chg.ren hW (cset6 HC (by simp))); (replace HB := Go.Shr.Below.ren hW (bset6 HB (by omega))); clear hW qf12 ql12 q12_0 q12_1 q12_2 q12_3 q12_4 q12_5
      refine hK.out _ _ ?_
      clear hK K
      try simp only [Act.put, List.setIfInBounds_toArray, List.set_cons_zero, List.set_cons_succ]
      refine Go.Shr.wpAnyF_ready [13] (by kernel_rfl) (by simp) ?_
      refine Go.Shr.AllReadyF.last 13 (o := { dst := none, op := Go.Op.store 37 (Go.Operand.tmp 20) (Go.Operand.tmp 59), type := 0, pos := "more.go:48", after := #[{ on := 10, ground := Go.Ground.data }, { on := 5, ground := Go.Ground.data }, { on := 12, ground := Go.Ground.chain }, { on := 0, ground := Go.Ground.phase }, { on := 1, ground := Go.Ground.phase }, { on := 2, ground := Go.Ground.phase }, { on := 3, ground := Go.Ground.phase }, { on := 4, ground := Go.Ground.phase }, { on := 5, ground := Go.Ground.phase }, { on := 6, ground := Go.Ground.textOnly Go.Departure.lateStores }, { on := 7, ground := Go.Ground.textOnly Go.Departure.lateStores }, { on := 8, ground := Go.Ground.textOnly Go.Departure.lateStoresUnsure }, { on := 9, ground := Go.Ground.phase }, { on := 10, ground := Go.Ground.phase }, { on := 11, ground := Go.Ground.phase }, { on := 12, ground := Go.Ground.phase }], guard := none }) rfl (by kernel_rfl) (fun K hK => ?g1ro13) ?g1rm13
      case g1rm13 => exact Go.Shr.AllReadyF.nil
      (have q13_0 := r20.cell 0); (have q13_1 := r20.cell 1); (have q13_2 := r20.cell 2); (have q13_3 := r20.cell 3); (have q13_4 := r20.cell 4); (have q13_5 := r20.cell 5); (have qf13 := r20.frozen); (have ql13 := r20.lt); (simp only [List.getElem?_toArray, List.getElem?_cons_zero, List.getElem?_cons_succ] at q13_0 q13_1 q13_2 q13_3 q13_4 q13_5); go_simp; refine gen_w (fun W hW => ?_); (try replace r12 := Rw.ren hW (r12.other6 (by omega))); (try replace r14 := Rw.ren hW (r14.other6 (by omega))); (try replace r16 := Rw.ren hW (r16.other6 (by omega))); (try replace r18 := Rw.ren hW (r18.other6 (by omega))); (try replace r19 := Rw.ren hW (r19.other6 (by omega))); (try replace r21 := Rw.ren hW (r21.other6 (by omega))); (replace r20 := Rw.ren hW (r20.set6)); (try replace HC := Go.Shr.Chg.ren hW (cset6 HC (by simp))); (replace HB := Go.Shr.Below.ren hW (bset6 HB (by omega))); clear hW qf13 ql13 q13_0 q13_1 q13_2 q13_3 q13_4 q13_5
      refine hK.out _ _ ?_
      clear hK K
      try simp only [Act.put, List.setIfInBounds_toArray, List.set_cons_zero, List.set_cons_succ]
      refine Go.Shr.wpAnyF_ready [14] (by kernel_rfl) (by simp) ?_
      refine Go.Shr.AllReadyF.last 14 (o := { dst := none, op := Go.Op.store 37 (Go.Operand.tmp 21) (Go.Operand.tmp 62), type := 0, pos := "more.go:48", after := #[{ on := 11, ground := Go.Ground.data }, { on := 8, ground := Go.Ground.data }, { on := 13, ground := Go.Ground.chain }, { on := 0, ground := Go.Ground.phase }, { on := 1, ground := Go.Ground.phase }, { on := 2, ground := Go.Ground.phase }, { on := 3, ground := Go.Ground.phase }, { on := 4, ground := Go.Ground.phase }, { on := 5, ground := Go.Ground.phase }, { on := 6, ground := Go.Ground.phase }, { on := 7, ground := Go.Ground.phase }, { on := 8, ground := Go.Ground.phase }, { on := 9, ground := Go.Ground.phase }, { on := 10, ground := Go.Ground.phase }, { on := 11, ground := Go.Ground.phase }, { on := 12, ground := Go.Ground.phase }, { on := 13, ground := Go.Ground.phase }], guard := none }) rfl (by kernel_rfl) (fun K hK => ?g1ro14) ?g1rm14
      case g1rm14 => exact Go.Shr.AllReadyF.nil
      (have q14_0 := r21.cell 0); (have q14_1 := r21.cell 1); (have q14_2 := r21.cell 2); (have q14_3 := r21.cell 3); (have q14_4 := r21.cell 4); (have q14_5 := r21.cell 5); (have qf14 := r21.frozen); (have ql14 := r21.lt); (simp only [List.getElem?_toArray, List.getElem?_cons_zero, List.getElem?_cons_succ] at q14_0 q14_1 q14_2 q14_3 q14_4 q14_5); go_simp; refine gen_w (fun W hW => ?_); (try replace r12 := Rw.ren hW (r12.other6 (by omega))); (try replace r14 := Rw.ren hW (r14.other6 (by omega))); (try replace r16 := Rw.ren hW (r16.other6 (by omega))); (try replace r18 := Rw.ren hW (r18.other6 (by omega))); (try replace r19 := Rw.ren hW (r19.other6 (by omega))); (try replace r20 := Rw.ren hW (r20.other6 (by omega))); (replace r21 := Rw.ren hW (r21.set6)); (try replace HC := Go.Shr.Chg.ren hW (cset6 HC (by simp))); (replace HB := Go.Shr.Below.ren hW (bset6 HB (by omega))); clear hW qf14 ql14 q14_0 q14_1 q14_2 q14_3 q14_4 q14_5
      refine hK.out _ _ ?_
      clear hK K
      try simp only [Act.put, List.setIfInBounds_toArray, List.set_cons_zero, List.set_cons_succ]
      refine Go.Shr.wpAnyF_done (by kernel_rfl) ?_
      go_wp2_with fail
      go_meet
      case rel => exact ⟨_, _, _, rfl, rfl, rfl, Lib.hid r19, Lib.hid r20, Lib.hid r21, bt HB12.out HB⟩
  case rest =>
    obtain ⟨b19, b20, b21, rfl, rfl, rfl, R19, R20, R21, hb⟩ := hcut
    have hfin : sameS (joinS k (joinS k x y) z) (joinS k x (joinS k y z)) = true ∧ sameS (joinS k x St.zero) x = true ∧ sameS (joinS k St.zero x) x = true := by
      refine ⟨?_, ?_, ?_⟩
      · rw [joinS_assoc]; exact sameS_refl _
      · rw [show St.zero = noS 0 from rfl, joinS_no GX.out, Int.add_zero]; exact sameS_refl _
      · rw [show St.zero = noS 0 from rfl, no_joinS, Int.zero_add]; exact sameS_refl _
    obtain ⟨f1, f2, f3⟩ := hfin
    have hn1 : (joinS k x y).nulls = x.nulls + y.nulls := joinS_nulls k x y
    have hn2 : (joinS k y z).nulls = y.nulls + z.nulls := joinS_nulls k y z
    have J1 : Hid (∀ W, Calls Try.prog 13 #[.int .i64 k, .agg #[.int .i64 x.nulls, .bool x.has, .int .i64 x.mn.n, .string x.mn.s, .int .i64 x.mx.n, .string x.mx.s], .agg #[.int .i64 y.nulls, .bool y.has, .int .i64 y.mn.n, .string y.mn.s, .int .i64 y.mx.n, .string y.mx.s]] W fun e w' => e = .returned (joinS k x y).v ∧ Below W.heap.size W w') := Lib.hid (fun W => join_s k x y W (by omega) (by omega))
    have J2 : Hid (∀ W, Calls Try.prog 13 #[.int .i64 k, (joinS k x y).v, .agg #[.int .i64 z.nulls, .bool z.has, .int .i64 z.mn.n, .string z.mn.s, .int .i64 z.mx.n, .string z.mx.s]] W fun e w' => e = .returned (joinS k (joinS k x y) z).v ∧ Below W.heap.size W w') := Lib.hid (fun W => join_s k (joinS k x y) z W (by omega) (by omega))
    have J3 : Hid (∀ W, Calls Try.prog 13 #[.int .i64 k, .agg #[.int .i64 y.nulls, .bool y.has, .int .i64 y.mn.n, .string y.mn.s, .int .i64 y.mx.n, .string y.mx.s], .agg #[.int .i64 z.nulls, .bool z.has, .int .i64 z.mn.n, .string z.mn.s, .int .i64 z.mx.n, .string z.mx.s]] W fun e w' => e = .returned (joinS k y z).v ∧ Below W.heap.size W w') := Lib.hid (fun W => join_s k y z W (by omega) (by omega))
    have J4 : Hid (∀ W, Calls Try.prog 13 #[.int .i64 k, .agg #[.int .i64 x.nulls, .bool x.has, .int .i64 x.mn.n, .string x.mn.s, .int .i64 x.mx.n, .string x.mx.s], (joinS k y z).v] W fun e w' => e = .returned (joinS k x (joinS k y z)).v ∧ Below W.heap.size W w') := Lib.hid (fun W => join_s k x (joinS k y z) W (by omega) (by omega))
    have J5 : Hid (∀ W, Calls Try.prog 13 #[.int .i64 k, .agg #[.int .i64 x.nulls, .bool x.has, .int .i64 x.mn.n, .string x.mn.s, .int .i64 x.mx.n, .string x.mx.s], .agg #[.int .i64 0, .bool false, .int .i64 0, .string ByteArray.empty, .int .i64 0, .string ByteArray.empty]] W fun e w' => e = .returned (joinS k x St.zero).v ∧ Below W.heap.size W w') := Lib.hid (fun W => join_s k x St.zero W (by omega) (by decide))
    have J6 : Hid (∀ W, Calls Try.prog 13 #[.int .i64 k, .agg #[.int .i64 0, .bool false, .int .i64 0, .string ByteArray.empty, .int .i64 0, .string ByteArray.empty], .agg #[.int .i64 x.nulls, .bool x.has, .int .i64 x.mn.n, .string x.mn.s, .int .i64 x.mx.n, .string x.mx.s]] W fun e w' => e = .returned (joinS k St.zero x).v ∧ Below W.heap.size W w') := Lib.hid (fun W => join_s k St.zero x W (by decide) (by omega))
    have S1 : Hid (∀ W, Calls Try.prog 16 #[(joinS k (joinS k x y) z).v, (joinS k x (joinS k y z)).v] W fun e w' => e = .returned (.bool true) ∧ Below W.heap.size W w') := Lib.hid (fun W => by have := same_v (joinS k (joinS k x y) z) (joinS k x (joinS k y z)) W; rwa [f1] at this)
    have S2 : Hid (∀ W, Calls Try.prog 16 #[(joinS k x St.zero).v, .agg #[.int .i64 x.nulls, .bool x.has, .int .i64 x.mn.n, .string x.mn.s, .int .i64 x.mx.n, .string x.mx.s]] W fun e w' => e = .returned (.bool true) ∧ Below W.heap.size W w') := Lib.hid (fun W => by have := same_v (joinS k x St.zero) x W; rwa [f2] at this)
    have S3 : Hid (∀ W, Calls Try.prog 16 #[(joinS k St.zero x).v, .agg #[.int .i64 x.nulls, .bool x.has, .int .i64 x.mn.n, .string x.mn.s, .int .i64 x.mx.n, .string x.mx.s]] W fun e w' => e = .returned (.bool true) ∧ Below W.heap.size W w') := Lib.hid (fun W => by have := same_v (joinS k St.zero x) x W; rwa [f3] at this)
    have HB := Lib.hid hb
    clear f1 f2 f3 hn1 hn2 hxn hyn hzn hb R12 R14 R16 R18 HB12 GX
    go_upto_region 9 with fail
    refine Go.Shr.wp_region_F (fun w' => Rw w' b19 #[.int .i64 x.nulls, .bool x.has, .int .i64 x.mn.n, .string x.mn.s, .int .i64 x.mx.n, .string x.mx.s] 37 ∧ Rw w' b20 #[.int .i64 y.nulls, .bool y.has, .int .i64 y.mn.n, .string y.mn.s, .int .i64 y.mx.n, .string y.mx.s] 37 ∧ Rw w' b21 #[.int .i64 z.nulls, .bool z.has, .int .i64 z.mn.n, .string z.mn.s, .int .i64 z.mx.n, .string z.mx.s] 37) [] (by kernel_rfl) ?g2rgS (fun hHeld => ?g2rgR)
    case g2rgS => (try dsimp only); (first | exact ⟨R19.out.drew, R20.out.drew, R21.out.drew⟩ | exact ⟨hHeld.1.below hb4, hHeld.2.1.below hb4, hHeld.2.2.below hb4⟩ | exact ⟨hHeld.1.below hb6, hHeld.2.1.below hb6, hHeld.2.2.below hb6⟩ | exact ⟨hHeld.1.below hb12, hHeld.2.1.below hb12, hHeld.2.2.below hb12⟩ | exact ⟨hHeld.1.below hb13, hHeld.2.1.below hb13, hHeld.2.2.below hb13⟩ | exact ⟨hHeld.1.below hb14, hHeld.2.1.below hb14, hHeld.2.2.below hb14⟩ | exact ⟨hHeld.1.below hb19, hHeld.2.1.below hb19, hHeld.2.2.below hb19⟩ | exact ⟨hHeld.1.below hb21, hHeld.2.1.below hb21, hHeld.2.2.below hb21⟩ | exact ⟨hHeld.1.below hb27, hHeld.2.1.below hb27, hHeld.2.2.below hb27⟩ | exact ⟨hHeld.1.below hb29, hHeld.2.1.below hb29, hHeld.2.2.below hb29⟩)
    try dsimp only at hHeld
    refine Go.Shr.wpAnyF_take 0 (oi := { dst := some 63, op := Go.Op.move (Go.Operand.tmp 11), type := 3, pos := "more.go:49", after := #[], guard := none }) (v := ?g2rv1) rfl (by kernel_rfl) (fun _ _ _ h => h) (by assumption) (by rfl) ?g2ry1 ?g2rr1
    case g2ry1 => intro w hSw; (rename_i w2; obtain ⟨g1, g2, g3⟩ := hSw); (have q0 := g1.cell 0); (have q1 := g1.cell 1); (have q2 := g1.cell 2); (have q3 := g1.cell 3); (have q4 := g1.cell 4); (have q5 := g1.cell 5); (have p0 := g2.cell 0); (have p1 := g2.cell 1); (have p2 := g2.cell 2); (have p3 := g2.cell 3); (have p4 := g2.cell 4); (have p5 := g2.cell 5); (have o0 := g3.cell 0); (have o1 := g3.cell 1); (have o2 := g3.cell 2); (have o3 := g3.cell 3); (have o4 := g3.cell 4); (have o5 := g3.cell 5); (simp only [List.getElem?_toArray, List.getElem?_cons_zero, List.getElem?_cons_succ] at q0 q1 q2 q3 q4 q5 p0 p1 p2 p3 p4 p5 o0 o1 o2 o3 o4 o5); go_simp; try with_reducible rfl
    try simp only [Act.put, List.setIfInBounds_toArray, List.set_cons_zero, List.set_cons_succ]
    refine Go.Shr.wpAnyF_take 1 (oi := { dst := some 64, op := Go.Op.move (Go.Operand.tmp 11), type := 3, pos := "more.go:49", after := #[], guard := none }) (v := ?g2rv2) rfl (by kernel_rfl) (fun _ _ _ h => h) (by assumption) (by rfl) ?g2ry2 ?g2rr2
    case g2ry2 => intro w hSw; (rename_i w2; obtain ⟨g1, g2, g3⟩ := hSw); (have q0 := g1.cell 0); (have q1 := g1.cell 1); (have q2 := g1.cell 2); (have q3 := g1.cell 3); (have q4 := g1.cell 4); (have q5 := g1.cell 5); (have p0 := g2.cell 0); (have p1 := g2.cell 1); (have p2 := g2.cell 2); (have p3 := g2.cell 3); (have p4 := g2.cell 4); (have p5 := g2.cell 5); (have o0 := g3.cell 0); (have o1 := g3.cell 1); (have o2 := g3.cell 2); (have o3 := g3.cell 3); (have o4 := g3.cell 4); (have o5 := g3.cell 5); (simp only [List.getElem?_toArray, List.getElem?_cons_zero, List.getElem?_cons_succ] at q0 q1 q2 q3 q4 q5 p0 p1 p2 p3 p4 p5 o0 o1 o2 o3 o4 o5); go_simp; try with_reducible rfl
    try simp only [Act.put, List.setIfInBounds_toArray, List.set_cons_zero, List.set_cons_succ]
    refine Go.Shr.wpAnyF_take 2 (oi := { dst := some 65, op := Go.Op.load 37 (Go.Operand.tmp 19), type := 37, pos := "more.go:49", after := #[], guard := none }) (v := ?g2rv3) rfl (by kernel_rfl) (fun _ _ _ h => h) (by assumption) (by rfl) ?g2ry3 ?g2rr3
    case g2ry3 => intro w hSw; (rename_i w2; obtain ⟨g1, g2, g3⟩ := hSw); (have q0 := g1.cell 0); (have q1 := g1.cell 1); (have q2 := g1.cell 2); (have q3 := g1.cell 3); (have q4 := g1.cell 4); (have q5 := g1.cell 5); (have p0 := g2.cell 0); (have p1 := g2.cell 1); (have p2 := g2.cell 2); (have p3 := g2.cell 3); (have p4 := g2.cell 4); (have p5 := g2.cell 5); (have o0 := g3.cell 0); (have o1 := g3.cell 1); (have o2 := g3.cell 2); (have o3 := g3.cell 3); (have o4 := g3.cell 4); (have o5 := g3.cell 5); (simp only [List.getElem?_toArray, List.getElem?_cons_zero, List.getElem?_cons_succ] at q0 q1 q2 q3 q4 q5 p0 p1 p2 p3 p4 p5 o0 o1 o2 o3 o4 o5); go_simp; try with_reducible rfl
    try simp only [Act.put, List.setIfInBounds_toArray, List.set_cons_zero, List.set_cons_succ]
    refine Go.Shr.wpAnyF_take 3 (oi := { dst := some 66, op := Go.Op.load 37 (Go.Operand.tmp 20), type := 37, pos := "more.go:49", after := #[], guard := none }) (v := ?g2rv4) rfl (by kernel_rfl) (fun _ _ _ h => h) (by assumption) (by rfl) ?g2ry4 ?g2rr4
    case g2ry4 => intro w hSw; (rename_i w2; obtain ⟨g1, g2, g3⟩ := hSw); (have q0 := g1.cell 0); (have q1 := g1.cell 1); (have q2 := g1.cell 2); (have q3 := g1.cell 3); (have q4 := g1.cell 4); (have q5 := g1.cell 5); (have p0 := g2.cell 0); (have p1 := g2.cell 1); (have p2 := g2.cell 2); (have p3 := g2.cell 3); (have p4 := g2.cell 4); (have p5 := g2.cell 5); (have o0 := g3.cell 0); (have o1 := g3.cell 1); (have o2 := g3.cell 2); (have o3 := g3.cell 3); (have o4 := g3.cell 4); (have o5 := g3.cell 5); (simp only [List.getElem?_toArray, List.getElem?_cons_zero, List.getElem?_cons_succ] at q0 q1 q2 q3 q4 q5 p0 p1 p2 p3 p4 p5 o0 o1 o2 o3 o4 o5); go_simp; try with_reducible rfl
    try simp only [Act.put, List.setIfInBounds_toArray, List.set_cons_zero, List.set_cons_succ]
    refine Go.Shr.wpAnyF_take 5 (oi := { dst := some 68, op := Go.Op.load 37 (Go.Operand.tmp 21), type := 37, pos := "more.go:49", after := #[], guard := none }) (v := ?g2rv5) rfl (by kernel_rfl) (fun _ _ _ h => h) (by assumption) (by rfl) ?g2ry5 ?g2rr5
    case g2ry5 => intro w hSw; (rename_i w2; obtain ⟨g1, g2, g3⟩ := hSw); (have q0 := g1.cell 0); (have q1 := g1.cell 1); (have q2 := g1.cell 2); (have q3 := g1.cell 3); (have q4 := g1.cell 4); (have q5 := g1.cell 5); (have p0 := g2.cell 0); (have p1 := g2.cell 1); (have p2 := g2.cell 2); (have p3 := g2.cell 3); (have p4 := g2.cell 4); (have p5 := g2.cell 5); (have o0 := g3.cell 0); (have o1 := g3.cell 1); (have o2 := g3.cell 2); (have o3 := g3.cell 3); (have o4 := g3.cell 4); (have o5 := g3.cell 5); (simp only [List.getElem?_toArray, List.getElem?_cons_zero, List.getElem?_cons_succ] at q0 q1 q2 q3 q4 q5 p0 p1 p2 p3 p4 p5 o0 o1 o2 o3 o4 o5); go_simp; try with_reducible rfl
    try simp only [Act.put, List.setIfInBounds_toArray, List.set_cons_zero, List.set_cons_succ]
    refine Go.Shr.wpAnyF_take 7 (oi := { dst := some 70, op := Go.Op.move (Go.Operand.tmp 11), type := 3, pos := "more.go:49", after := #[], guard := none }) (v := ?g2rv6) rfl (by kernel_rfl) (fun _ _ _ h => h) (by assumption) (by rfl) ?g2ry6 ?g2rr6
    case g2ry6 => intro w hSw; (rename_i w2; obtain ⟨g1, g2, g3⟩ := hSw); (have q0 := g1.cell 0); (have q1 := g1.cell 1); (have q2 := g1.cell 2); (have q3 := g1.cell 3); (have q4 := g1.cell 4); (have q5 := g1.cell 5); (have p0 := g2.cell 0); (have p1 := g2.cell 1); (have p2 := g2.cell 2); (have p3 := g2.cell 3); (have p4 := g2.cell 4); (have p5 := g2.cell 5); (have o0 := g3.cell 0); (have o1 := g3.cell 1); (have o2 := g3.cell 2); (have o3 := g3.cell 3); (have o4 := g3.cell 4); (have o5 := g3.cell 5); (simp only [List.getElem?_toArray, List.getElem?_cons_zero, List.getElem?_cons_succ] at q0 q1 q2 q3 q4 q5 p0 p1 p2 p3 p4 p5 o0 o1 o2 o3 o4 o5); go_simp; try with_reducible rfl
    try simp only [Act.put, List.setIfInBounds_toArray, List.set_cons_zero, List.set_cons_succ]
    refine Go.Shr.wpAnyF_take 8 (oi := { dst := some 71, op := Go.Op.load 37 (Go.Operand.tmp 19), type := 37, pos := "more.go:49", after := #[], guard := none }) (v := ?g2rv7) rfl (by kernel_rfl) (fun _ _ _ h => h) (by assumption) (by rfl) ?g2ry7 ?g2rr7
    case g2ry7 => intro w hSw; (rename_i w2; obtain ⟨g1, g2, g3⟩ := hSw); (have q0 := g1.cell 0); (have q1 := g1.cell 1); (have q2 := g1.cell 2); (have q3 := g1.cell 3); (have q4 := g1.cell 4); (have q5 := g1.cell 5); (have p0 := g2.cell 0); (have p1 := g2.cell 1); (have p2 := g2.cell 2); (have p3 := g2.cell 3); (have p4 := g2.cell 4); (have p5 := g2.cell 5); (have o0 := g3.cell 0); (have o1 := g3.cell 1); (have o2 := g3.cell 2); (have o3 := g3.cell 3); (have o4 := g3.cell 4); (have o5 := g3.cell 5); (simp only [List.getElem?_toArray, List.getElem?_cons_zero, List.getElem?_cons_succ] at q0 q1 q2 q3 q4 q5 p0 p1 p2 p3 p4 p5 o0 o1 o2 o3 o4 o5); go_simp; try with_reducible rfl
    try simp only [Act.put, List.setIfInBounds_toArray, List.set_cons_zero, List.set_cons_succ]
    refine Go.Shr.wpAnyF_take 9 (oi := { dst := some 72, op := Go.Op.move (Go.Operand.tmp 11), type := 3, pos := "more.go:49", after := #[], guard := none }) (v := ?g2rv8) rfl (by kernel_rfl) (fun _ _ _ h => h) (by assumption) (by rfl) ?g2ry8 ?g2rr8
    case g2ry8 => intro w hSw; (rename_i w2; obtain ⟨g1, g2, g3⟩ := hSw); (have q0 := g1.cell 0); (have q1 := g1.cell 1); (have q2 := g1.cell 2); (have q3 := g1.cell 3); (have q4 := g1.cell 4); (have q5 := g1.cell 5); (have p0 := g2.cell 0); (have p1 := g2.cell 1); (have p2 := g2.cell 2); (have p3 := g2.cell 3); (have p4 := g2.cell 4); (have p5 := g2.cell 5); (have o0 := g3.cell 0); (have o1 := g3.cell 1); (have o2 := g3.cell 2); (have o3 := g3.cell 3); (have o4 := g3.cell 4); (have o5 := g3.cell 5); (simp only [List.getElem?_toArray, List.getElem?_cons_zero, List.getElem?_cons_succ] at q0 q1 q2 q3 q4 q5 p0 p1 p2 p3 p4 p5 o0 o1 o2 o3 o4 o5); go_simp; try with_reducible rfl
    try simp only [Act.put, List.setIfInBounds_toArray, List.set_cons_zero, List.set_cons_succ]
    refine Go.Shr.wpAnyF_take 10 (oi := { dst := some 73, op := Go.Op.load 37 (Go.Operand.tmp 20), type := 37, pos := "more.go:49", after := #[], guard := none }) (v := ?g2rv9) rfl (by kernel_rfl) (fun _ _ _ h => h) (by assumption) (by rfl) ?g2ry9 ?g2rr9
    case g2ry9 => intro w hSw; (rename_i w2; obtain ⟨g1, g2, g3⟩ := hSw); (have q0 := g1.cell 0); (have q1 := g1.cell 1); (have q2 := g1.cell 2); (have q3 := g1.cell 3); (have q4 := g1.cell 4); (have q5 := g1.cell 5); (have p0 := g2.cell 0); (have p1 := g2.cell 1); (have p2 := g2.cell 2); (have p3 := g2.cell 3); (have p4 := g2.cell 4); (have p5 := g2.cell 5); (have o0 := g3.cell 0); (have o1 := g3.cell 1); (have o2 := g3.cell 2); (have o3 := g3.cell 3); (have o4 := g3.cell 4); (have o5 := g3.cell 5); (simp only [List.getElem?_toArray, List.getElem?_cons_zero, List.getElem?_cons_succ] at q0 q1 q2 q3 q4 q5 p0 p1 p2 p3 p4 p5 o0 o1 o2 o3 o4 o5); go_simp; try with_reducible rfl
    try simp only [Act.put, List.setIfInBounds_toArray, List.set_cons_zero, List.set_cons_succ]
    refine Go.Shr.wpAnyF_take 11 (oi := { dst := some 74, op := Go.Op.load 37 (Go.Operand.tmp 21), type := 37, pos := "more.go:49", after := #[], guard := none }) (v := ?g2rv10) rfl (by kernel_rfl) (fun _ _ _ h => h) (by assumption) (by rfl) ?g2ry10 ?g2rr10
    case g2ry10 => intro w hSw; (rename_i w2; obtain ⟨g1, g2, g3⟩ := hSw); (have q0 := g1.cell 0); (have q1 := g1.cell 1); (have q2 := g1.cell 2); (have q3 := g1.cell 3); (have q4 := g1.cell 4); (have q5 := g1.cell 5); (have p0 := g2.cell 0); (have p1 := g2.cell 1); (have p2 := g2.cell 2); (have p3 := g2.cell 3); (have p4 := g2.cell 4); (have p5 := g2.cell 5); (have o0 := g3.cell 0); (have o1 := g3.cell 1); (have o2 := g3.cell 2); (have o3 := g3.cell 3); (have o4 := g3.cell 4); (have o5 := g3.cell 5); (simp only [List.getElem?_toArray, List.getElem?_cons_zero, List.getElem?_cons_succ] at q0 q1 q2 q3 q4 q5 p0 p1 p2 p3 p4 p5 o0 o1 o2 o3 o4 o5); go_simp; try with_reducible rfl
    try simp only [Act.put, List.setIfInBounds_toArray, List.set_cons_zero, List.set_cons_succ]
    refine Go.Shr.wpAnyF_ready [4] (by kernel_rfl) (by simp) ?_
    refine Go.Shr.AllReadyF.cons 4 (o := { dst := some 67, op := Go.Op.call { callee := Go.Callee.value (Go.Operand.func 13), args := #[Go.Operand.tmp 64, Go.Operand.tmp 65, Go.Operand.tmp 66], argTypes := #[3, 37, 37] }, type := 37, pos := "more.go:49", after := #[{ on := 1, ground := Go.Ground.data }, { on := 2, ground := Go.Ground.data }, { on := 3, ground := Go.Ground.data }], guard := none }) rfl (fun K hK => ?g2ro11) ?g2rm11
    case g2rm11 => exact Go.Shr.AllReadyF.nil
    go_simp; refine (J1.out _).mono ?_; rintro e w4 ⟨rfl, hb4⟩; dsimp only
    refine hK.out _ _ ?g2rs11 (fun hHeld => ?g2rt11)
    case g2rs11 => (try dsimp only); (first | exact ⟨R19.out.drew, R20.out.drew, R21.out.drew⟩ | exact ⟨hHeld.1.below hb4, hHeld.2.1.below hb4, hHeld.2.2.below hb4⟩ | exact ⟨hHeld.1.below hb6, hHeld.2.1.below hb6, hHeld.2.2.below hb6⟩ | exact ⟨hHeld.1.below hb12, hHeld.2.1.below hb12, hHeld.2.2.below hb12⟩ | exact ⟨hHeld.1.below hb13, hHeld.2.1.below hb13, hHeld.2.2.below hb13⟩ | exact ⟨hHeld.1.below hb14, hHeld.2.1.below hb14, hHeld.2.2.below hb14⟩ | exact ⟨hHeld.1.below hb19, hHeld.2.1.below hb19, hHeld.2.2.below hb19⟩ | exact ⟨hHeld.1.below hb21, hHeld.2.1.below hb21, hHeld.2.2.below hb21⟩ | exact ⟨hHeld.1.below hb27, hHeld.2.1.below hb27, hHeld.2.2.below hb27⟩ | exact ⟨hHeld.1.below hb29, hHeld.2.1.below hb29, hHeld.2.2.below hb29⟩)
    try dsimp only at hHeld
    clear hK K
    try simp only [Act.put, List.setIfInBounds_toArray, List.set_cons_zero, List.set_cons_succ]
    refine Go.Shr.wpAnyF_ready [6] (by kernel_rfl) (by simp) ?_
    refine Go.Shr.AllReadyF.cons 6 (o := { dst := some 69, op := Go.Op.call { callee := Go.Callee.value (Go.Operand.func 13), args := #[Go.Operand.tmp 63, Go.Operand.tmp 67, Go.Operand.tmp 68], argTypes := #[3, 37, 37] }, type := 37, pos := "more.go:49", after := #[{ on := 0, ground := Go.Ground.data }, { on := 4, ground := Go.Ground.data }, { on := 5, ground := Go.Ground.data }, { on := 4, ground := Go.Ground.chain }], guard := none }) rfl (fun K hK => ?g2ro12) ?g2rm12
    case g2rm12 => exact Go.Shr.AllReadyF.nil
    go_simp; refine (J2.out _).mono ?_; rintro e w6 ⟨rfl, hb6⟩; dsimp only
    refine hK.out _ _ ?g2rs12 (fun hHeld => ?g2rt12)
    case g2rs12 => (try dsimp only); (first | exact ⟨R19.out.drew, R20.out.drew, R21.out.drew⟩ | exact ⟨hHeld.1.below hb4, hHeld.2.1.below hb4, hHeld.2.2.below hb4⟩ | exact ⟨hHeld.1.below hb6, hHeld.2.1.below hb6, hHeld.2.2.below hb6⟩ | exact ⟨hHeld.1.below hb12, hHeld.2.1.below hb12, hHeld.2.2.below hb12⟩ | exact ⟨hHeld.1.below hb13, hHeld.2.1.below hb13, hHeld.2.2.below hb13⟩ | exact ⟨hHeld.1.below hb14, hHeld.2.1.below hb14, hHeld.2.2.below hb14⟩ | exact ⟨hHeld.1.below hb19, hHeld.2.1.below hb19, hHeld.2.2.below hb19⟩ | exact ⟨hHeld.1.below hb21, hHeld.2.1.below hb21, hHeld.2.2.below hb21⟩ | exact ⟨hHeld.1.below hb27, hHeld.2.1.below hb27, hHeld.2.2.below hb27⟩ | exact ⟨hHeld.1.below hb29, hHeld.2.1.below hb29, hHeld.2.2.below hb29⟩)
    try dsimp only at hHeld
    clear hK K
    try simp only [Act.put, List.setIfInBounds_toArray, List.set_cons_zero, List.set_cons_succ]
    refine Go.Shr.wpAnyF_ready [12] (by kernel_rfl) (by simp) ?_
    refine Go.Shr.AllReadyF.cons 12 (o := { dst := some 75, op := Go.Op.call { callee := Go.Callee.value (Go.Operand.func 13), args := #[Go.Operand.tmp 72, Go.Operand.tmp 73, Go.Operand.tmp 74], argTypes := #[3, 37, 37] }, type := 37, pos := "more.go:49", after := #[{ on := 9, ground := Go.Ground.data }, { on := 10, ground := Go.Ground.data }, { on := 11, ground := Go.Ground.data }, { on := 6, ground := Go.Ground.chain }], guard := none }) rfl (fun K hK => ?g2ro13) ?g2rm13
    case g2rm13 => exact Go.Shr.AllReadyF.nil
    go_simp; refine (J3.out _).mono ?_; rintro e w12 ⟨rfl, hb12⟩; dsimp only
    refine hK.out _ _ ?g2rs13 (fun hHeld => ?g2rt13)
    case g2rs13 => (try dsimp only); (first | exact ⟨R19.out.drew, R20.out.drew, R21.out.drew⟩ | exact ⟨hHeld.1.below hb4, hHeld.2.1.below hb4, hHeld.2.2.below hb4⟩ | exact ⟨hHeld.1.below hb6, hHeld.2.1.below hb6, hHeld.2.2.below hb6⟩ | exact ⟨hHeld.1.below hb12, hHeld.2.1.below hb12, hHeld.2.2.below hb12⟩ | exact ⟨hHeld.1.below hb13, hHeld.2.1.below hb13, hHeld.2.2.below hb13⟩ | exact ⟨hHeld.1.below hb14, hHeld.2.1.below hb14, hHeld.2.2.below hb14⟩ | exact ⟨hHeld.1.below hb19, hHeld.2.1.below hb19, hHeld.2.2.below hb19⟩ | exact ⟨hHeld.1.below hb21, hHeld.2.1.below hb21, hHeld.2.2.below hb21⟩ | exact ⟨hHeld.1.below hb27, hHeld.2.1.below hb27, hHeld.2.2.below hb27⟩ | exact ⟨hHeld.1.below hb29, hHeld.2.1.below hb29, hHeld.2.2.below hb29⟩)
    try dsimp only at hHeld
    clear hK K
    try simp only [Act.put, List.setIfInBounds_toArray, List.set_cons_zero, List.set_cons_succ]
    refine Go.Shr.wpAnyF_ready [13] (by kernel_rfl) (by simp) ?_
    refine Go.Shr.AllReadyF.cons 13 (o := { dst := some 76, op := Go.Op.call { callee := Go.Callee.value (Go.Operand.func 13), args := #[Go.Operand.tmp 70, Go.Operand.tmp 71, Go.Operand.tmp 75], argTypes := #[3, 37, 37] }, type := 37, pos := "more.go:49", after := #[{ on := 7, ground := Go.Ground.data }, { on := 8, ground := Go.Ground.data }, { on := 12, ground := Go.Ground.data }, { on := 12, ground := Go.Ground.chain }], guard := none }) rfl (fun K hK => ?g2ro14) ?g2rm14
    case g2rm14 => exact Go.Shr.AllReadyF.nil
    go_simp; refine (J4.out _).mono ?_; rintro e w13 ⟨rfl, hb13⟩; dsimp only
    refine hK.out _ _ ?g2rs14 (fun hHeld => ?g2rt14)
    case g2rs14 => (try dsimp only); (first | exact ⟨R19.out.drew, R20.out.drew, R21.out.drew⟩ | exact ⟨hHeld.1.below hb4, hHeld.2.1.below hb4, hHeld.2.2.below hb4⟩ | exact ⟨hHeld.1.below hb6, hHeld.2.1.below hb6, hHeld.2.2.below hb6⟩ | exact ⟨hHeld.1.below hb12, hHeld.2.1.below hb12, hHeld.2.2.below hb12⟩ | exact ⟨hHeld.1.below hb13, hHeld.2.1.below hb13, hHeld.2.2.below hb13⟩ | exact ⟨hHeld.1.below hb14, hHeld.2.1.below hb14, hHeld.2.2.below hb14⟩ | exact ⟨hHeld.1.below hb19, hHeld.2.1.below hb19, hHeld.2.2.below hb19⟩ | exact ⟨hHeld.1.below hb21, hHeld.2.1.below hb21, hHeld.2.2.below hb21⟩ | exact ⟨hHeld.1.below hb27, hHeld.2.1.below hb27, hHeld.2.2.below hb27⟩ | exact ⟨hHeld.1.below hb29, hHeld.2.1.below hb29, hHeld.2.2.below hb29⟩)
    try dsimp only at hHeld
    clear hK K
    try simp only [Act.put, List.setIfInBounds_toArray, List.set_cons_zero, List.set_cons_succ]
    refine Go.Shr.wpAnyF_ready [14] (by kernel_rfl) (by simp) ?_
    refine Go.Shr.AllReadyF.cons 14 (o := { dst := some 77, op := Go.Op.call { callee := Go.Callee.value (Go.Operand.func 16), args := #[Go.Operand.tmp 69, Go.Operand.tmp 76], argTypes := #[37, 37] }, type := 4, pos := "more.go:49", after := #[{ on := 6, ground := Go.Ground.data }, { on := 13, ground := Go.Ground.data }, { on := 13, ground := Go.Ground.chain }], guard := none }) rfl (fun K hK => ?g2ro15) ?g2rm15
    case g2rm15 => exact Go.Shr.AllReadyF.nil
    go_simp; refine (S1.out _).mono ?_; rintro e w14 ⟨rfl, hb14⟩; dsimp only
    refine hK.out _ _ ?g2rs15 (fun hHeld => ?g2rt15)
    case g2rs15 => (try dsimp only); (first | exact ⟨R19.out.drew, R20.out.drew, R21.out.drew⟩ | exact ⟨hHeld.1.below hb4, hHeld.2.1.below hb4, hHeld.2.2.below hb4⟩ | exact ⟨hHeld.1.below hb6, hHeld.2.1.below hb6, hHeld.2.2.below hb6⟩ | exact ⟨hHeld.1.below hb12, hHeld.2.1.below hb12, hHeld.2.2.below hb12⟩ | exact ⟨hHeld.1.below hb13, hHeld.2.1.below hb13, hHeld.2.2.below hb13⟩ | exact ⟨hHeld.1.below hb14, hHeld.2.1.below hb14, hHeld.2.2.below hb14⟩ | exact ⟨hHeld.1.below hb19, hHeld.2.1.below hb19, hHeld.2.2.below hb19⟩ | exact ⟨hHeld.1.below hb21, hHeld.2.1.below hb21, hHeld.2.2.below hb21⟩ | exact ⟨hHeld.1.below hb27, hHeld.2.1.below hb27, hHeld.2.2.below hb27⟩ | exact ⟨hHeld.1.below hb29, hHeld.2.1.below hb29, hHeld.2.2.below hb29⟩)
    try dsimp only at hHeld
    clear hK K
    try simp only [Act.put, List.setIfInBounds_toArray, List.set_cons_zero, List.set_cons_succ]
    refine Go.Shr.wpAnyF_take 15 (oi := { dst := some 78, op := Go.Op.move (Go.Operand.tmp 77), type := 4, pos := "more.go:49", after := #[{ on := 14, ground := Go.Ground.data }, { on := 14, ground := Go.Ground.chain }], guard := none }) (v := ?g2rv16) rfl (by kernel_rfl) (fun _ _ _ h => h) (by assumption) (by rfl) ?g2ry16 ?g2rr16
    case g2ry16 => intro w hSw; (rename_i w2; obtain ⟨g1, g2, g3⟩ := hSw); (have q0 := g1.cell 0); (have q1 := g1.cell 1); (have q2 := g1.cell 2); (have q3 := g1.cell 3); (have q4 := g1.cell 4); (have q5 := g1.cell 5); (have p0 := g2.cell 0); (have p1 := g2.cell 1); (have p2 := g2.cell 2); (have p3 := g2.cell 3); (have p4 := g2.cell 4); (have p5 := g2.cell 5); (have o0 := g3.cell 0); (have o1 := g3.cell 1); (have o2 := g3.cell 2); (have o3 := g3.cell 3); (have o4 := g3.cell 4); (have o5 := g3.cell 5); (simp only [List.getElem?_toArray, List.getElem?_cons_zero, List.getElem?_cons_succ] at q0 q1 q2 q3 q4 q5 p0 p1 p2 p3 p4 p5 o0 o1 o2 o3 o4 o5); go_simp; try with_reducible rfl
    try simp only [Act.put, List.setIfInBounds_toArray, List.set_cons_zero, List.set_cons_succ]
    first
      | refine Go.Shr.wpAnyF_skip 16 (oi := { dst := some 79, op := Go.Op.move (Go.Operand.tmp 11), type := 3, pos := "more.go:49", after := #[{ on := 15, ground := Go.Ground.guard }], guard := some (15, true) }) rfl (by kernel_rfl) (fun _ _ _ h => h) (by assumption) (by rfl) ?_
      | (refine Go.Shr.wpAnyF_take 16 (oi := { dst := some 79, op := Go.Op.move (Go.Operand.tmp 11), type := 3, pos := "more.go:49", after := #[{ on := 15, ground := Go.Ground.guard }], guard := some (15, true) }) (v := ?g2rv17) rfl (by kernel_rfl) (fun _ _ _ h => h) (by assumption) (by rfl) ?g2ry17 ?g2rr17
         case g2ry17 => intro w hSw; (rename_i w2; obtain ⟨g1, g2, g3⟩ := hSw); (have q0 := g1.cell 0); (have q1 := g1.cell 1); (have q2 := g1.cell 2); (have q3 := g1.cell 3); (have q4 := g1.cell 4); (have q5 := g1.cell 5); (have p0 := g2.cell 0); (have p1 := g2.cell 1); (have p2 := g2.cell 2); (have p3 := g2.cell 3); (have p4 := g2.cell 4); (have p5 := g2.cell 5); (have o0 := g3.cell 0); (have o1 := g3.cell 1); (have o2 := g3.cell 2); (have o3 := g3.cell 3); (have o4 := g3.cell 4); (have o5 := g3.cell 5); (simp only [List.getElem?_toArray, List.getElem?_cons_zero, List.getElem?_cons_succ] at q0 q1 q2 q3 q4 q5 p0 p1 p2 p3 p4 p5 o0 o1 o2 o3 o4 o5); go_simp; try with_reducible rfl)
    try simp only [Act.put, List.setIfInBounds_toArray, List.set_cons_zero, List.set_cons_succ]
    first
      | refine Go.Shr.wpAnyF_skip 17 (oi := { dst := some 80, op := Go.Op.load 37 (Go.Operand.tmp 19), type := 37, pos := "more.go:49", after := #[{ on := 15, ground := Go.Ground.guard }], guard := some (15, true) }) rfl (by kernel_rfl) (fun _ _ _ h => h) (by assumption) (by rfl) ?_
      | (refine Go.Shr.wpAnyF_take 17 (oi := { dst := some 80, op := Go.Op.load 37 (Go.Operand.tmp 19), type := 37, pos := "more.go:49", after := #[{ on := 15, ground := Go.Ground.guard }], guard := some (15, true) }) (v := ?g2rv18) rfl (by kernel_rfl) (fun _ _ _ h => h) (by assumption) (by rfl) ?g2ry18 ?g2rr18
         case g2ry18 => intro w hSw; (rename_i w2; obtain ⟨g1, g2, g3⟩ := hSw); (have q0 := g1.cell 0); (have q1 := g1.cell 1); (have q2 := g1.cell 2); (have q3 := g1.cell 3); (have q4 := g1.cell 4); (have q5 := g1.cell 5); (have p0 := g2.cell 0); (have p1 := g2.cell 1); (have p2 := g2.cell 2); (have p3 := g2.cell 3); (have p4 := g2.cell 4); (have p5 := g2.cell 5); (have o0 := g3.cell 0); (have o1 := g3.cell 1); (have o2 := g3.cell 2); (have o3 := g3.cell 3); (have o4 := g3.cell 4); (have o5 := g3.cell 5); (simp only [List.getElem?_toArray, List.getElem?_cons_zero, List.getElem?_cons_succ] at q0 q1 q2 q3 q4 q5 p0 p1 p2 p3 p4 p5 o0 o1 o2 o3 o4 o5); go_simp; try with_reducible rfl)
    try simp only [Act.put, List.setIfInBounds_toArray, List.set_cons_zero, List.set_cons_succ]
    first
      | refine Go.Shr.wpAnyF_skip 18 (oi := { dst := some 81, op := Go.Op.build 37 #[], type := 37, pos := "more.go:49", after := #[{ on := 15, ground := Go.Ground.guard }], guard := some (15, true) }) rfl (by kernel_rfl) (fun _ _ _ h => h) (by assumption) (by rfl) ?_
      | (refine Go.Shr.wpAnyF_take 18 (oi := { dst := some 81, op := Go.Op.build 37 #[], type := 37, pos := "more.go:49", after := #[{ on := 15, ground := Go.Ground.guard }], guard := some (15, true) }) (v := ?g2rv19) rfl (by kernel_rfl) (fun _ _ _ h => h) (by assumption) (by rfl) ?g2ry19 ?g2rr19
         case g2ry19 => intro w hSw; (rename_i w2; obtain ⟨g1, g2, g3⟩ := hSw); (have q0 := g1.cell 0); (have q1 := g1.cell 1); (have q2 := g1.cell 2); (have q3 := g1.cell 3); (have q4 := g1.cell 4); (have q5 := g1.cell 5); (have p0 := g2.cell 0); (have p1 := g2.cell 1); (have p2 := g2.cell 2); (have p3 := g2.cell 3); (have p4 := g2.cell 4); (have p5 := g2.cell 5); (have o0 := g3.cell 0); (have o1 := g3.cell 1); (have o2 := g3.cell 2); (have o3 := g3.cell 3); (have o4 := g3.cell 4); (have o5 := g3.cell 5); (simp only [List.getElem?_toArray, List.getElem?_cons_zero, List.getElem?_cons_succ] at q0 q1 q2 q3 q4 q5 p0 p1 p2 p3 p4 p5 o0 o1 o2 o3 o4 o5); go_simp; try with_reducible rfl)
    try simp only [Act.put, List.setIfInBounds_toArray, List.set_cons_zero, List.set_cons_succ]
    first
      | refine Go.Shr.wpAnyF_skip 20 (oi := { dst := some 83, op := Go.Op.load 37 (Go.Operand.tmp 19), type := 37, pos := "more.go:49", after := #[{ on := 15, ground := Go.Ground.guard }], guard := some (15, true) }) rfl (by kernel_rfl) (fun _ _ _ h => h) (by assumption) (by rfl) ?_
      | (refine Go.Shr.wpAnyF_take 20 (oi := { dst := some 83, op := Go.Op.load 37 (Go.Operand.tmp 19), type := 37, pos := "more.go:49", after := #[{ on := 15, ground := Go.Ground.guard }], guard := some (15, true) }) (v := ?g2rv20) rfl (by kernel_rfl) (fun _ _ _ h => h) (by assumption) (by rfl) ?g2ry20 ?g2rr20
         case g2ry20 => intro w hSw; (rename_i w2; obtain ⟨g1, g2, g3⟩ := hSw); (have q0 := g1.cell 0); (have q1 := g1.cell 1); (have q2 := g1.cell 2); (have q3 := g1.cell 3); (have q4 := g1.cell 4); (have q5 := g1.cell 5); (have p0 := g2.cell 0); (have p1 := g2.cell 1); (have p2 := g2.cell 2); (have p3 := g2.cell 3); (have p4 := g2.cell 4); (have p5 := g2.cell 5); (have o0 := g3.cell 0); (have o1 := g3.cell 1); (have o2 := g3.cell 2); (have o3 := g3.cell 3); (have o4 := g3.cell 4); (have o5 := g3.cell 5); (simp only [List.getElem?_toArray, List.getElem?_cons_zero, List.getElem?_cons_succ] at q0 q1 q2 q3 q4 q5 p0 p1 p2 p3 p4 p5 o0 o1 o2 o3 o4 o5); go_simp; try with_reducible rfl)
    try simp only [Act.put, List.setIfInBounds_toArray, List.set_cons_zero, List.set_cons_succ]
    refine Go.Shr.wpAnyF_ready [19] (by kernel_rfl) (by simp) ?_
    refine Go.Shr.AllReadyF.cons 19 (o := { dst := some 82, op := Go.Op.call { callee := Go.Callee.value (Go.Operand.func 13), args := #[Go.Operand.tmp 79, Go.Operand.tmp 80, Go.Operand.tmp 81], argTypes := #[3, 37, 37] }, type := 37, pos := "more.go:49", after := #[{ on := 16, ground := Go.Ground.data }, { on := 17, ground := Go.Ground.data }, { on := 18, ground := Go.Ground.data }, { on := 15, ground := Go.Ground.chain }, { on := 15, ground := Go.Ground.guard }], guard := some (15, true) }) rfl (fun K hK => ?g2ro21) ?g2rm21
    case g2rm21 => exact Go.Shr.AllReadyF.nil
    go_simp; refine (J5.out _).mono ?_; rintro e w19 ⟨rfl, hb19⟩; dsimp only
    refine hK.out _ _ ?g2rs21 (fun hHeld => ?g2rt21)
    case g2rs21 => (try dsimp only); (first | exact ⟨R19.out.drew, R20.out.drew, R21.out.drew⟩ | exact ⟨hHeld.1.below hb4, hHeld.2.1.below hb4, hHeld.2.2.below hb4⟩ | exact ⟨hHeld.1.below hb6, hHeld.2.1.below hb6, hHeld.2.2.below hb6⟩ | exact ⟨hHeld.1.below hb12, hHeld.2.1.below hb12, hHeld.2.2.below hb12⟩ | exact ⟨hHeld.1.below hb13, hHeld.2.1.below hb13, hHeld.2.2.below hb13⟩ | exact ⟨hHeld.1.below hb14, hHeld.2.1.below hb14, hHeld.2.2.below hb14⟩ | exact ⟨hHeld.1.below hb19, hHeld.2.1.below hb19, hHeld.2.2.below hb19⟩ | exact ⟨hHeld.1.below hb21, hHeld.2.1.below hb21, hHeld.2.2.below hb21⟩ | exact ⟨hHeld.1.below hb27, hHeld.2.1.below hb27, hHeld.2.2.below hb27⟩ | exact ⟨hHeld.1.below hb29, hHeld.2.1.below hb29, hHeld.2.2.below hb29⟩)
    try dsimp only at hHeld
    clear hK K
    try simp only [Act.put, List.setIfInBounds_toArray, List.set_cons_zero, List.set_cons_succ]
    refine Go.Shr.wpAnyF_ready [21] (by kernel_rfl) (by simp) ?_
    refine Go.Shr.AllReadyF.cons 21 (o := { dst := some 84, op := Go.Op.call { callee := Go.Callee.value (Go.Operand.func 16), args := #[Go.Operand.tmp 82, Go.Operand.tmp 83], argTypes := #[37, 37] }, type := 4, pos := "more.go:49", after := #[{ on := 19, ground := Go.Ground.data }, { on := 20, ground := Go.Ground.data }, { on := 19, ground := Go.Ground.chain }, { on := 15, ground := Go.Ground.guard }], guard := some (15, true) }) rfl (fun K hK => ?g2ro22) ?g2rm22
    case g2rm22 => exact Go.Shr.AllReadyF.nil
    go_simp; refine (S2.out _).mono ?_; rintro e w21 ⟨rfl, hb21⟩; dsimp only
    refine hK.out _ _ ?g2rs22 (fun hHeld => ?g2rt22)
    case g2rs22 => (try dsimp only); (first | exact ⟨R19.out.drew, R20.out.drew, R21.out.drew⟩ | exact ⟨hHeld.1.below hb4, hHeld.2.1.below hb4, hHeld.2.2.below hb4⟩ | exact ⟨hHeld.1.below hb6, hHeld.2.1.below hb6, hHeld.2.2.below hb6⟩ | exact ⟨hHeld.1.below hb12, hHeld.2.1.below hb12, hHeld.2.2.below hb12⟩ | exact ⟨hHeld.1.below hb13, hHeld.2.1.below hb13, hHeld.2.2.below hb13⟩ | exact ⟨hHeld.1.below hb14, hHeld.2.1.below hb14, hHeld.2.2.below hb14⟩ | exact ⟨hHeld.1.below hb19, hHeld.2.1.below hb19, hHeld.2.2.below hb19⟩ | exact ⟨hHeld.1.below hb21, hHeld.2.1.below hb21, hHeld.2.2.below hb21⟩ | exact ⟨hHeld.1.below hb27, hHeld.2.1.below hb27, hHeld.2.2.below hb27⟩ | exact ⟨hHeld.1.below hb29, hHeld.2.1.below hb29, hHeld.2.2.below hb29⟩)
    try dsimp only at hHeld
    clear hK K
    try simp only [Act.put, List.setIfInBounds_toArray, List.set_cons_zero, List.set_cons_succ]
    refine Go.Shr.wpAnyF_take 22 (oi := { dst := some 85, op := Go.Op.pick (Go.Operand.tmp 78) (Go.Operand.tmp 84) (Go.Operand.const (Go.Value.bool false)), type := 4, pos := "more.go:49", after := #[{ on := 15, ground := Go.Ground.data }, { on := 21, ground := Go.Ground.data }], guard := none }) (v := ?g2rv23) rfl (by kernel_rfl) (fun _ _ _ h => h) (by assumption) (by rfl) ?g2ry23 ?g2rr23
    case g2ry23 => intro w hSw; (rename_i w2; obtain ⟨g1, g2, g3⟩ := hSw); (have q0 := g1.cell 0); (have q1 := g1.cell 1); (have q2 := g1.cell 2); (have q3 := g1.cell 3); (have q4 := g1.cell 4); (have q5 := g1.cell 5); (have p0 := g2.cell 0); (have p1 := g2.cell 1); (have p2 := g2.cell 2); (have p3 := g2.cell 3); (have p4 := g2.cell 4); (have p5 := g2.cell 5); (have o0 := g3.cell 0); (have o1 := g3.cell 1); (have o2 := g3.cell 2); (have o3 := g3.cell 3); (have o4 := g3.cell 4); (have o5 := g3.cell 5); (simp only [List.getElem?_toArray, List.getElem?_cons_zero, List.getElem?_cons_succ] at q0 q1 q2 q3 q4 q5 p0 p1 p2 p3 p4 p5 o0 o1 o2 o3 o4 o5); go_simp; try with_reducible rfl
    try simp only [Act.put, List.setIfInBounds_toArray, List.set_cons_zero, List.set_cons_succ]
    refine Go.Shr.wpAnyF_take 23 (oi := { dst := some 86, op := Go.Op.move (Go.Operand.tmp 85), type := 4, pos := "more.go:49", after := #[{ on := 22, ground := Go.Ground.data }, { on := 21, ground := Go.Ground.chain }], guard := none }) (v := ?g2rv24) rfl (by kernel_rfl) (fun _ _ _ h => h) (by assumption) (by rfl) ?g2ry24 ?g2rr24
    case g2ry24 => intro w hSw; (rename_i w2; obtain ⟨g1, g2, g3⟩ := hSw); (have q0 := g1.cell 0); (have q1 := g1.cell 1); (have q2 := g1.cell 2); (have q3 := g1.cell 3); (have q4 := g1.cell 4); (have q5 := g1.cell 5); (have p0 := g2.cell 0); (have p1 := g2.cell 1); (have p2 := g2.cell 2); (have p3 := g2.cell 3); (have p4 := g2.cell 4); (have p5 := g2.cell 5); (have o0 := g3.cell 0); (have o1 := g3.cell 1); (have o2 := g3.cell 2); (have o3 := g3.cell 3); (have o4 := g3.cell 4); (have o5 := g3.cell 5); (simp only [List.getElem?_toArray, List.getElem?_cons_zero, List.getElem?_cons_succ] at q0 q1 q2 q3 q4 q5 p0 p1 p2 p3 p4 p5 o0 o1 o2 o3 o4 o5); go_simp; try with_reducible rfl
    try simp only [Act.put, List.setIfInBounds_toArray, List.set_cons_zero, List.set_cons_succ]
    first
      | refine Go.Shr.wpAnyF_skip 24 (oi := { dst := some 87, op := Go.Op.move (Go.Operand.tmp 11), type := 3, pos := "more.go:49", after := #[{ on := 23, ground := Go.Ground.guard }], guard := some (23, true) }) rfl (by kernel_rfl) (fun _ _ _ h => h) (by assumption) (by rfl) ?_
      | (refine Go.Shr.wpAnyF_take 24 (oi := { dst := some 87, op := Go.Op.move (Go.Operand.tmp 11), type := 3, pos := "more.go:49", after := #[{ on := 23, ground := Go.Ground.guard }], guard := some (23, true) }) (v := ?g2rv25) rfl (by kernel_rfl) (fun _ _ _ h => h) (by assumption) (by rfl) ?g2ry25 ?g2rr25
         case g2ry25 => intro w hSw; (rename_i w2; obtain ⟨g1, g2, g3⟩ := hSw); (have q0 := g1.cell 0); (have q1 := g1.cell 1); (have q2 := g1.cell 2); (have q3 := g1.cell 3); (have q4 := g1.cell 4); (have q5 := g1.cell 5); (have p0 := g2.cell 0); (have p1 := g2.cell 1); (have p2 := g2.cell 2); (have p3 := g2.cell 3); (have p4 := g2.cell 4); (have p5 := g2.cell 5); (have o0 := g3.cell 0); (have o1 := g3.cell 1); (have o2 := g3.cell 2); (have o3 := g3.cell 3); (have o4 := g3.cell 4); (have o5 := g3.cell 5); (simp only [List.getElem?_toArray, List.getElem?_cons_zero, List.getElem?_cons_succ] at q0 q1 q2 q3 q4 q5 p0 p1 p2 p3 p4 p5 o0 o1 o2 o3 o4 o5); go_simp; try with_reducible rfl)
    try simp only [Act.put, List.setIfInBounds_toArray, List.set_cons_zero, List.set_cons_succ]
    first
      | refine Go.Shr.wpAnyF_skip 25 (oi := { dst := some 88, op := Go.Op.build 37 #[], type := 37, pos := "more.go:49", after := #[{ on := 23, ground := Go.Ground.guard }], guard := some (23, true) }) rfl (by kernel_rfl) (fun _ _ _ h => h) (by assumption) (by rfl) ?_
      | (refine Go.Shr.wpAnyF_take 25 (oi := { dst := some 88, op := Go.Op.build 37 #[], type := 37, pos := "more.go:49", after := #[{ on := 23, ground := Go.Ground.guard }], guard := some (23, true) }) (v := ?g2rv26) rfl (by kernel_rfl) (fun _ _ _ h => h) (by assumption) (by rfl) ?g2ry26 ?g2rr26
         case g2ry26 => intro w hSw; (rename_i w2; obtain ⟨g1, g2, g3⟩ := hSw); (have q0 := g1.cell 0); (have q1 := g1.cell 1); (have q2 := g1.cell 2); (have q3 := g1.cell 3); (have q4 := g1.cell 4); (have q5 := g1.cell 5); (have p0 := g2.cell 0); (have p1 := g2.cell 1); (have p2 := g2.cell 2); (have p3 := g2.cell 3); (have p4 := g2.cell 4); (have p5 := g2.cell 5); (have o0 := g3.cell 0); (have o1 := g3.cell 1); (have o2 := g3.cell 2); (have o3 := g3.cell 3); (have o4 := g3.cell 4); (have o5 := g3.cell 5); (simp only [List.getElem?_toArray, List.getElem?_cons_zero, List.getElem?_cons_succ] at q0 q1 q2 q3 q4 q5 p0 p1 p2 p3 p4 p5 o0 o1 o2 o3 o4 o5); go_simp; try with_reducible rfl)
    try simp only [Act.put, List.setIfInBounds_toArray, List.set_cons_zero, List.set_cons_succ]
    first
      | refine Go.Shr.wpAnyF_skip 26 (oi := { dst := some 89, op := Go.Op.load 37 (Go.Operand.tmp 19), type := 37, pos := "more.go:49", after := #[{ on := 23, ground := Go.Ground.guard }], guard := some (23, true) }) rfl (by kernel_rfl) (fun _ _ _ h => h) (by assumption) (by rfl) ?_
      | (refine Go.Shr.wpAnyF_take 26 (oi := { dst := some 89, op := Go.Op.load 37 (Go.Operand.tmp 19), type := 37, pos := "more.go:49", after := #[{ on := 23, ground := Go.Ground.guard }], guard := some (23, true) }) (v := ?g2rv27) rfl (by kernel_rfl) (fun _ _ _ h => h) (by assumption) (by rfl) ?g2ry27 ?g2rr27
         case g2ry27 => intro w hSw; (rename_i w2; obtain ⟨g1, g2, g3⟩ := hSw); (have q0 := g1.cell 0); (have q1 := g1.cell 1); (have q2 := g1.cell 2); (have q3 := g1.cell 3); (have q4 := g1.cell 4); (have q5 := g1.cell 5); (have p0 := g2.cell 0); (have p1 := g2.cell 1); (have p2 := g2.cell 2); (have p3 := g2.cell 3); (have p4 := g2.cell 4); (have p5 := g2.cell 5); (have o0 := g3.cell 0); (have o1 := g3.cell 1); (have o2 := g3.cell 2); (have o3 := g3.cell 3); (have o4 := g3.cell 4); (have o5 := g3.cell 5); (simp only [List.getElem?_toArray, List.getElem?_cons_zero, List.getElem?_cons_succ] at q0 q1 q2 q3 q4 q5 p0 p1 p2 p3 p4 p5 o0 o1 o2 o3 o4 o5); go_simp; try with_reducible rfl)
    try simp only [Act.put, List.setIfInBounds_toArray, List.set_cons_zero, List.set_cons_succ]
    first
      | refine Go.Shr.wpAnyF_skip 28 (oi := { dst := some 91, op := Go.Op.load 37 (Go.Operand.tmp 19), type := 37, pos := "more.go:49", after := #[{ on := 23, ground := Go.Ground.guard }], guard := some (23, true) }) rfl (by kernel_rfl) (fun _ _ _ h => h) (by assumption) (by rfl) ?_
      | (refine Go.Shr.wpAnyF_take 28 (oi := { dst := some 91, op := Go.Op.load 37 (Go.Operand.tmp 19), type := 37, pos := "more.go:49", after := #[{ on := 23, ground := Go.Ground.guard }], guard := some (23, true) }) (v := ?g2rv28) rfl (by kernel_rfl) (fun _ _ _ h => h) (by assumption) (by rfl) ?g2ry28 ?g2rr28
         case g2ry28 => intro w hSw; (rename_i w2; obtain ⟨g1, g2, g3⟩ := hSw); (have q0 := g1.cell 0); (have q1 := g1.cell 1); (have q2 := g1.cell 2); (have q3 := g1.cell 3); (have q4 := g1.cell 4); (have q5 := g1.cell 5); (have p0 := g2.cell 0); (have p1 := g2.cell 1); (have p2 := g2.cell 2); (have p3 := g2.cell 3); (have p4 := g2.cell 4); (have p5 := g2.cell 5); (have o0 := g3.cell 0); (have o1 := g3.cell 1); (have o2 := g3.cell 2); (have o3 := g3.cell 3); (have o4 := g3.cell 4); (have o5 := g3.cell 5); (simp only [List.getElem?_toArray, List.getElem?_cons_zero, List.getElem?_cons_succ] at q0 q1 q2 q3 q4 q5 p0 p1 p2 p3 p4 p5 o0 o1 o2 o3 o4 o5); go_simp; try with_reducible rfl)
    try simp only [Act.put, List.setIfInBounds_toArray, List.set_cons_zero, List.set_cons_succ]
    refine Go.Shr.wpAnyF_ready [27] (by kernel_rfl) (by simp) ?_
    refine Go.Shr.AllReadyF.cons 27 (o := { dst := some 90, op := Go.Op.call { callee := Go.Callee.value (Go.Operand.func 13), args := #[Go.Operand.tmp 87, Go.Operand.tmp 88, Go.Operand.tmp 89], argTypes := #[3, 37, 37] }, type := 37, pos := "more.go:49", after := #[{ on := 24, ground := Go.Ground.data }, { on := 25, ground := Go.Ground.data }, { on := 26, ground := Go.Ground.data }, { on := 23, ground := Go.Ground.chain }, { on := 23, ground := Go.Ground.guard }], guard := some (23, true) }) rfl (fun K hK => ?g2ro29) ?g2rm29
    case g2rm29 => exact Go.Shr.AllReadyF.nil
    go_simp; refine (J6.out _).mono ?_; rintro e w27 ⟨rfl, hb27⟩; dsimp only
    refine hK.out _ _ ?g2rs29 (fun hHeld => ?g2rt29)
    case g2rs29 => (try dsimp only); (first | exact ⟨R19.out.drew, R20.out.drew, R21.out.drew⟩ | exact ⟨hHeld.1.below hb4, hHeld.2.1.below hb4, hHeld.2.2.below hb4⟩ | exact ⟨hHeld.1.below hb6, hHeld.2.1.below hb6, hHeld.2.2.below hb6⟩ | exact ⟨hHeld.1.below hb12, hHeld.2.1.below hb12, hHeld.2.2.below hb12⟩ | exact ⟨hHeld.1.below hb13, hHeld.2.1.below hb13, hHeld.2.2.below hb13⟩ | exact ⟨hHeld.1.below hb14, hHeld.2.1.below hb14, hHeld.2.2.below hb14⟩ | exact ⟨hHeld.1.below hb19, hHeld.2.1.below hb19, hHeld.2.2.below hb19⟩ | exact ⟨hHeld.1.below hb21, hHeld.2.1.below hb21, hHeld.2.2.below hb21⟩ | exact ⟨hHeld.1.below hb27, hHeld.2.1.below hb27, hHeld.2.2.below hb27⟩ | exact ⟨hHeld.1.below hb29, hHeld.2.1.below hb29, hHeld.2.2.below hb29⟩)
    try dsimp only at hHeld
    clear hK K
    try simp only [Act.put, List.setIfInBounds_toArray, List.set_cons_zero, List.set_cons_succ]
    refine Go.Shr.wpAnyF_ready [29] (by kernel_rfl) (by simp) ?_
    refine Go.Shr.AllReadyF.cons 29 (o := { dst := some 92, op := Go.Op.call { callee := Go.Callee.value (Go.Operand.func 16), args := #[Go.Operand.tmp 90, Go.Operand.tmp 91], argTypes := #[37, 37] }, type := 4, pos := "more.go:49", after := #[{ on := 27, ground := Go.Ground.data }, { on := 28, ground := Go.Ground.data }, { on := 27, ground := Go.Ground.chain }, { on := 23, ground := Go.Ground.guard }], guard := some (23, true) }) rfl (fun K hK => ?g2ro30) ?g2rm30
    case g2rm30 => exact Go.Shr.AllReadyF.nil
    go_simp; refine (S3.out _).mono ?_; rintro e w29 ⟨rfl, hb29⟩; dsimp only
    refine hK.out _ _ ?g2rs30 (fun hHeld => ?g2rt30)
    case g2rs30 => (try dsimp only); (first | exact ⟨R19.out.drew, R20.out.drew, R21.out.drew⟩ | exact ⟨hHeld.1.below hb4, hHeld.2.1.below hb4, hHeld.2.2.below hb4⟩ | exact ⟨hHeld.1.below hb6, hHeld.2.1.below hb6, hHeld.2.2.below hb6⟩ | exact ⟨hHeld.1.below hb12, hHeld.2.1.below hb12, hHeld.2.2.below hb12⟩ | exact ⟨hHeld.1.below hb13, hHeld.2.1.below hb13, hHeld.2.2.below hb13⟩ | exact ⟨hHeld.1.below hb14, hHeld.2.1.below hb14, hHeld.2.2.below hb14⟩ | exact ⟨hHeld.1.below hb19, hHeld.2.1.below hb19, hHeld.2.2.below hb19⟩ | exact ⟨hHeld.1.below hb21, hHeld.2.1.below hb21, hHeld.2.2.below hb21⟩ | exact ⟨hHeld.1.below hb27, hHeld.2.1.below hb27, hHeld.2.2.below hb27⟩ | exact ⟨hHeld.1.below hb29, hHeld.2.1.below hb29, hHeld.2.2.below hb29⟩)
    try dsimp only at hHeld
    clear hK K
    try simp only [Act.put, List.setIfInBounds_toArray, List.set_cons_zero, List.set_cons_succ]
    refine Go.Shr.wpAnyF_take 30 (oi := { dst := some 93, op := Go.Op.pick (Go.Operand.tmp 86) (Go.Operand.tmp 92) (Go.Operand.const (Go.Value.bool false)), type := 4, pos := "more.go:49", after := #[{ on := 23, ground := Go.Ground.data }, { on := 29, ground := Go.Ground.data }], guard := none }) (v := ?g2rv31) rfl (by kernel_rfl) (fun _ _ _ h => h) (by assumption) (by rfl) ?g2ry31 ?g2rr31
    case g2ry31 => intro w hSw; (rename_i w2; obtain ⟨g1, g2, g3⟩ := hSw); (have q0 := g1.cell 0); (have q1 := g1.cell 1); (have q2 := g1.cell 2); (have q3 := g1.cell 3); (have q4 := g1.cell 4); (have q5 := g1.cell 5); (have p0 := g2.cell 0); (have p1 := g2.cell 1); (have p2 := g2.cell 2); (have p3 := g2.cell 3); (have p4 := g2.cell 4); (have p5 := g2.cell 5); (have o0 := g3.cell 0); (have o1 := g3.cell 1); (have o2 := g3.cell 2); (have o3 := g3.cell 3); (have o4 := g3.cell 4); (have o5 := g3.cell 5); (simp only [List.getElem?_toArray, List.getElem?_cons_zero, List.getElem?_cons_succ] at q0 q1 q2 q3 q4 q5 p0 p1 p2 p3 p4 p5 o0 o1 o2 o3 o4 o5); go_simp; try with_reducible rfl
    try simp only [Act.put, List.setIfInBounds_toArray, List.set_cons_zero, List.set_cons_succ]
    refine Go.Shr.wpAnyF_take 31 (oi := { dst := some 10, op := Go.Op.assign (Go.Operand.tmp 93), type := 4, pos := "more.go:49", after := #[{ on := 30, ground := Go.Ground.data }, { on := 29, ground := Go.Ground.chain }, { on := 0, ground := Go.Ground.phase }, { on := 1, ground := Go.Ground.phase }, { on := 2, ground := Go.Ground.phase }, { on := 3, ground := Go.Ground.phase }, { on := 4, ground := Go.Ground.phase }, { on := 5, ground := Go.Ground.phase }, { on := 6, ground := Go.Ground.phase }, { on := 7, ground := Go.Ground.phase }, { on := 8, ground := Go.Ground.phase }, { on := 9, ground := Go.Ground.phase }, { on := 10, ground := Go.Ground.phase }, { on := 11, ground := Go.Ground.phase }, { on := 12, ground := Go.Ground.phase }, { on := 13, ground := Go.Ground.phase }, { on := 14, ground := Go.Ground.phase }, { on := 15, ground := Go.Ground.phase }, { on := 16, ground := Go.Ground.phase }, { on := 17, ground := Go.Ground.phase }, { on := 18, ground := Go.Ground.phase }, { on := 19, ground := Go.Ground.phase }, { on := 20, ground := Go.Ground.phase }, { on := 21, ground := Go.Ground.phase }, { on := 22, ground := Go.Ground.phase }, { on := 23, ground := Go.Ground.phase }, { on := 24, ground := Go.Ground.phase }, { on := 25, ground := Go.Ground.phase }, { on := 26, ground := Go.Ground.phase }, { on := 27, ground := Go.Ground.phase }, { on := 28, ground := Go.Ground.phase }, { on := 29, ground := Go.Ground.phase }, { on := 30, ground := Go.Ground.phase }], guard := none }) (v := ?g2rv32) rfl (by kernel_rfl) (fun _ _ _ h => h) (by assumption) (by rfl) ?g2ry32 ?g2rr32
    case g2ry32 => intro w hSw; (rename_i w2; obtain ⟨g1, g2, g3⟩ := hSw); (have q0 := g1.cell 0); (have q1 := g1.cell 1); (have q2 := g1.cell 2); (have q3 := g1.cell 3); (have q4 := g1.cell 4); (have q5 := g1.cell 5); (have p0 := g2.cell 0); (have p1 := g2.cell 1); (have p2 := g2.cell 2); (have p3 := g2.cell 3); (have p4 := g2.cell 4); (have p5 := g2.cell 5); (have o0 := g3.cell 0); (have o1 := g3.cell 1); (have o2 := g3.cell 2); (have o3 := g3.cell 3); (have o4 := g3.cell 4); (have o5 := g3.cell 5); (simp only [List.getElem?_toArray, List.getElem?_cons_zero, List.getElem?_cons_succ] at q0 q1 q2 q3 q4 q5 p0 p1 p2 p3 p4 p5 o0 o1 o2 o3 o4 o5); go_simp; try with_reducible rfl
    try simp only [Act.put, List.setIfInBounds_toArray, List.set_cons_zero, List.set_cons_succ]
    refine Go.Shr.wpAnyF_done (by kernel_rfl) ?_
    go_wp2_with fail
    go_ret
    exact ⟨rfl, bt (bt (bt (bt (bt (bt (bt (bt (bt HB.out.drew hb4) hb6) hb12) hb13) hb14) hb19) hb21) hb27) hb29⟩
end Go.Proofs.Ytnmlngpkhlafgaa
