/-
  The walk of StatOf.
-/
import Derived.Test.YtnmlngpkhlafgaaJoins17
set_option linter.unusedSimpArgs false
namespace Go.Proofs.Ytnmlngpkhlafgaa
open Go.RowKit Go.Shr
theorem info_b : (Try.prog.info? 4).map (fun i => (i.zero, i.size, i.bytes)) = some (some (.bool false), 1, 1) := by kernel_rfl
theorem of17_plain {k : Int} {r : List Vl} {bs : List Bool} {n m nV nA nB : Nat} (hm : m ≤ n) (hn : r.length = n) (hV : (filtB r bs).length = nV) (hA : (filtB (r.take m) bs).length = nA) (hB : (filtB (r.drop m) (bs.drop m)).length = nB) (hg : ∀ x ∈ r, goodV k x)
    {s x y : St} (hs : s = ofS k ((n : Int) - nV) (filtB r bs)) (hx : x = ofS k ((m : Int) - nA) (filtB (r.take m) bs)) (hy : y = ofS k (((n - m : Nat) : Int) - nB) (filtB (r.drop m) (bs.drop m))) : joinS k x y = s ∧ joinS k y x = s := by
  have e1 : filtB r bs = filtB (r.take m) bs ++ filtB (r.drop m) (bs.drop m) := by
    have := filtB_append (r.drop m) (r.take m) bs
    rw [List.take_append_drop, List.length_take, show min m r.length = m by omega] at this
    exact this
  have e2 : ((n : Int) - nV) = ((m : Int) - nA) + (((n - m : Nat) : Int) - nB) := by
    rw [e1, List.length_append] at hV; omega
  have gx : goodS k x := hx ▸ goodS_of _ _ (fun v hv => hg v (List.mem_of_mem_take (filtB_mem _ _ hv)))
  have gy : goodS k y := hy ▸ goodS_of _ _ (fun v hv => hg v (List.mem_of_mem_drop (filtB_mem _ _ hv)))
  have h1 : joinS k x y = s := by
    rw [hs, e1, e2, ofS_append _ _ _ _ (fun v hv => hg v (List.mem_of_mem_take (filtB_mem _ _ hv))), hx, hy]
  exact ⟨h1, by rw [joinS_comm gy gx]; exact h1⟩
theorem vls_take (l : List Vl) (m : Nat) : (vls l).take (m * 2) = vls (l.take m) := by
  induction l generalizing m with
  | nil => simp [vls]
  | cons x l ih =>
    cases m with
    | zero => simp [vls]
    | succ m => rw [show (m + 1) * 2 = m * 2 + 1 + 1 by omega]; simp [vls, List.flatMap_cons] at ih ⊢; exact ih m
theorem vls_drop (l : List Vl) (m : Nat) : (vls l).drop (m * 2) = vls (l.drop m) := by
  induction l generalizing m with
  | nil => simp [vls]
  | cons x l ih =>
    cases m with
    | zero => simp [vls]
    | succ m => rw [show (m + 1) * 2 = m * 2 + 1 + 1 by omega]; simp [vls, List.flatMap_cons] at ih ⊢; exact ih m
theorem bools_drop (l : List Bool) (m : Nat) : (bools l).drop (m * 1) = bools (l.drop m) := by simp [bools, List.map_drop]
theorem drop_min (bs : List Bool) (m : Nat) : bs.drop (min m bs.length) = bs.drop m := by
  by_cases h : m ≤ bs.length
  · rw [Nat.min_eq_left h]
  · rw [Nat.min_eq_right (by omega), List.drop_length, List.drop_eq_nil_of_le (by omega)]
set_option maxHeartbeats 4000000 in
set_option maxRecDepth 100000 in
theorem law_of (kind : Int) (a1 : Option Addr) (n1 cap1 : Nat) (l1 : List Vl) (ab : Option Addr) (nb cb' : Nat) (bs : List Bool) (cut : Int) (w : World) (_ : (Lit.int .i64 kind).wf = true) (hl1 : Sl (fun b => b < w.heap.size) w 2 a1 n1 cap1 (vls l1)) (hbs : Sl (fun b => b < w.heap.size) w 1 ab nb cb' (bools bs)) (_ : (Lit.int .i64 cut).wf = true) :
    Calls Try.prog 3 #[.int .i64 kind, .slice a1 n1 cap1, .slice ab nb cb', .int .i64 cut] w fun e w' => e = .returned (.bool true) ∧ Below w.heap.size w w' := by
  have HL1 := Lib.hid hl1; have HBS := Lib.hid hbs
  have hnb : nb ≤ maxLen := Nat.le_trans hbs.le hbs.max
  have hblen : bs.length = nb := by have := hbs.len; simp only [bools, List.length_map] at this; omega
  unfold maxLen at hnb
  clear hl1 hbs
  obtain ⟨iv, hiv, hz0v, hz1v, hz2v⟩ := info_parts info_v
  obtain ⟨ib, hib, hz0b, hz1b, hz2b⟩ := info_parts info_b
  go_enter Try.func3, Try.ntmps3
  go_wp2_with fail
  refine (known_v _).mono ?_
  rintro e w1 ⟨rfl, hb1⟩
  have HB1 := Lib.hid hb1; clear hb1
  go_wp2_with fail
  refine (within_17 kind 4 w1 (by decide) (by decide)).mono ?_
  rintro e w2 ⟨rfl, rfl⟩
  have k1 := Int.emod_nonneg kind (show (4 : Int) ≠ 0 by decide)
  have k2 := Int.emod_lt_of_pos kind (show (0 : Int) < 4 by decide)
  have k3 : 1 ≤ 1 + kind % 4 := by omega
  have k4 : 1 + kind % 4 ≤ 4 := by omega
  clear k1 k2
  go_wp2_with fail
  generalize 1 + kind % 4 = k at *
  refine (all_v _ k3 k4 a1 n1 cap1 l1 _ (slb HL1.out HB1.out)).mono ?_
  rintro e w3 ⟨ar, n, cr, r, rfl, hm1, hr1, ho1, hb3⟩
  have hlen : r.length = n := by have := ho1.len; rw [vls_length] at this; omega
  have G := Lib.hid hr1
  have HB3 := Lib.hid (bt HB1.out hb3)
  have HS := Lib.hid (ho1.sl.mono (ok' := fun b => b < w3.heap.size) (fun k hk _ => hk) (by decide))
  replace HBS := Lib.hid (slb HBS.out HB3.out)
  clear hb3 ho1 hr1 HL1 HB1
  go_wp2_with fail
  refine (column_v ar n cr r ab nb cb' bs w3 HS.out hm1 HBS.out).mono ?_
  rintro e w4 ⟨aR, nR, cR, aD, cD, aV, nV, cV, rfl, hsD, hsV, hb4⟩
  have hVl : (filtB r bs).length = nV := by have := hsV.len; rw [vls_length] at this; omega
  have hnV : nV ≤ n := filtB_nlen hlen hVl
  have HB4 := Lib.hid (bt HB3.out hb4)
  replace HS := Lib.hid (slb HS.out hb4)
  replace HBS := Lib.hid (slb HBS.out hb4)
  have D0 := Lib.hid hsD
  have V0 := Lib.hid hsV
  clear hb4 hsD hsV HB3
  go_wp2_with fail
  obtain ⟨s, hs⟩ : ∃ s, s = ofS k ((n : Int) - nV) (filtB r bs) := ⟨_, rfl⟩
  have hb5 := ba (ba (b0 w4) (.cells #[.int .i64 0, .int .i64 0, .int .i64 1, .int .i64 k] 28)) (.cells #[.slice aR nR cR, .slice aD n cD, .slice aV nV cV] 31)
  have HB5 := Lib.hid (bt HB4.out hb5)
  have R11 := Lib.hid ((Rw.new w4 #[.int .i64 0, .int .i64 0, .int .i64 1, .int .i64 k] 28).alloc (.cells #[.slice aR nR cR, .slice aD n cD, .slice aV nV cV] 31))
  have R12 := Lib.hid (Rw.new' (b := w4.heap.size + 1) (cur := #[.slice aR nR cR, .slice aD n cD, .slice aV nV cV]) (t := 31) (w := (w4.alloc (.cells #[.int .i64 0, .int .i64 0, .int .i64 1, .int .i64 k] 28))) (by simp))
  replace HS := Lib.hid (slb HS.out hb5)
  replace HBS := Lib.hid (slb HBS.out hb5)
  replace D0 := Lib.hid (slb D0.out hb5)
  replace V0 := Lib.hid (slb V0.out hb5)
  refine (of_later k 0 0 1 aR aD aV nR cR n cD nV cV (filtB r bs) _ V0.out (by omega) hnV s hs _ (b0 _)).mono ?_
  rintro e w6 ⟨rfl, hb6⟩
  have HB6 := Lib.hid (bt HB5.out hb6)
  replace R11 := Lib.hid (R11.out.below hb6)
  replace R12 := Lib.hid (R12.out.below hb6)
  replace HS := Lib.hid (slb HS.out hb6)
  replace HBS := Lib.hid (slb HBS.out hb6)
  replace D0 := Lib.hid (slb D0.out hb6)
  replace V0 := Lib.hid (slb V0.out hb6)
  have HSS := Lib.hid hs
  clear hb5 hb6 HB5 HB4 hs
  go_wp2_with fail
  refine (within_17 cut ((n : Int) + 1) _ (by omega) (by omega)).mono ?_
  rintro e w7 ⟨rfl, rfl⟩
  have m1 := Int.emod_nonneg cut (show ((n : Int) + 1) ≠ 0 by omega)
  have m2 := Int.emod_lt_of_pos cut (show (0 : Int) < (n : Int) + 1 by omega)
  obtain ⟨m, hm⟩ : ∃ m : Nat, (m : Int) = cut % ((n : Int) + 1) := ⟨(cut % ((n : Int) + 1)).toNat, by omega⟩
  rw [← hm] at m1 m2 ⊢
  have hmn : m ≤ n := by omega
  clear m1 m2
  have HM := Lib.hid hm; clear hm
  obtain ⟨w8, hw8⟩ : ∃ w8, w8 = w6.alloc (.cells #[.int .i64 s.nulls, .bool s.has, .int .i64 s.mn.n, .string s.mn.s, .int .i64 s.mx.n, .string s.mx.s] 37) := ⟨_, rfl⟩
  have hb8 : Below w6.heap.size w6 w8 := Go.Shr.Below.ren hw8 (ba (b0 w6) _)
  have HB8 := Lib.hid (bt HB6.out hb8)
  replace R11 := Lib.hid (R11.out.below hb8)
  replace R12 := Lib.hid (R12.out.below hb8)
  have R13 := Lib.hid (Rw.ren hw8 (Rw.new w6 #[.int .i64 s.nulls, .bool s.has, .int .i64 s.mn.n, .string s.mn.s, .int .i64 s.mx.n, .string s.mx.s] 37))
  replace HS := Lib.hid (slb HS.out hb8)
  replace HBS := Lib.hid (slb HBS.out hb8)
  replace D0 := Lib.hid (slb D0.out hb8)
  replace V0 := Lib.hid (slb V0.out hb8)
  rw [← hw8]
  clear hb8 hw8 HB6
  obtain ⟨aA, hrunA, hsA⟩ := HS.out.upto (P := Try.prog) (t := 22) Try.underlying22 hiv hz1v .i64 (m : Int) (by omega) (by omega)
  rw [show ((m : Int)).toNat = m by omega, vls_take] at hsA
  rw [show ((m : Int)).toNat = m by omega] at hrunA
  have HSA := Lib.hid hsA; clear hsA
  go_wp2_with fail
  refine (column_v aA m cr (r.take m) ab nb cb' bs w8 HSA.out (by omega) HBS.out).mono ?_
  rintro e w9 ⟨aR1, nR1, cR1, aD1, cD1, aV1, nV1, cV1, rfl, hsD, hsV, hb9⟩
  have hVl1 : (filtB (r.take m) bs).length = nV1 := by have := hsV.len; rw [vls_length] at this; omega
  have hnV1 : nV1 ≤ m := filtB_nlen (n := m) (by rw [List.length_take]; omega) hVl1
  have HB9 := Lib.hid (bt HB8.out hb9)
  replace R11 := Lib.hid (R11.out.below hb9)
  replace R12 := Lib.hid (R12.out.below hb9)
  replace R13 := Lib.hid (R13.out.below hb9)
  replace HS := Lib.hid (slb HS.out hb9)
  replace HBS := Lib.hid (slb HBS.out hb9)
  replace D0 := Lib.hid (slb D0.out hb9)
  replace V0 := Lib.hid (slb V0.out hb9)
  have V1 := Lib.hid hsV
  clear hb9 hsD hsV HB8 HSA hrunA
  go_wp2_with fail
  obtain ⟨wb, hwb⟩ : ∃ wb, wb = ((w9.alloc (.cells #[.int .i64 0, .int .i64 0, .int .i64 1, .int .i64 0] 28)).alloc (.cells #[.slice aR1 nR1 cR1, .slice aD1 m cD1, .slice aV1 nV1 cV1] 31)) := ⟨_, rfl⟩
  have hbw : Below w9.heap.size w9 wb := Go.Shr.Below.ren hwb (ba (ba (b0 w9) _) _)
  have HB10 := Lib.hid (bt HB9.out hbw)
  replace R11 := Lib.hid (R11.out.below hbw)
  replace R12 := Lib.hid (R12.out.below hbw)
  replace R13 := Lib.hid (R13.out.below hbw)
  have R16 := Lib.hid (Rw.ren hwb (Rw.new' (b := w9.heap.size + 1) (cur := #[.slice aR1 nR1 cR1, .slice aD1 m cD1, .slice aV1 nV1 cV1]) (t := 31) (w := (w9.alloc (.cells #[.int .i64 0, .int .i64 0, .int .i64 1, .int .i64 0] 28))) (by simp)))
  replace HS := Lib.hid (slb HS.out hbw)
  replace HBS := Lib.hid (slb HBS.out hbw)
  replace D0 := Lib.hid (slb D0.out hbw)
  replace V0 := Lib.hid (slb V0.out hbw)
  replace V1 := Lib.hid (slb V1.out hbw)
  rw [← hwb]
  clear hbw hwb HB9
  generalize w4.heap.size + 1 = b12 at *
  generalize w4.heap.size = b11 at *
  generalize w6.heap.size = b13 at *
  generalize w9.heap.size + 1 = b16 at *
  obtain ⟨aB, hrunB, hsB⟩ := HS.out.from (P := Try.prog) (t := 22) Try.underlying22 hiv hz1v .i64 (m : Int) (by omega) (by omega)
  rw [show ((m : Int)).toNat = m by omega, vls_drop] at hsB
  rw [show ((m : Int)).toNat = m by omega] at hrunB
  obtain ⟨q, hq⟩ : ∃ q, q = min m nb := ⟨_, rfl⟩
  have hqi : (if nb < m then (nb : Int) else (m : Int)) = (q : Int) := by split <;> omega
  obtain ⟨aC, hrunC, hsC⟩ := HBS.out.from (P := Try.prog) (t := 23) Try.underlying23 hib hz1b .i64 (q : Int) (by omega) (by omega)
  rw [show ((q : Int)).toNat = q by omega, bools_drop, hq, ← hblen, drop_min, hblen, ← hq] at hsC
  rw [show ((q : Int)).toNat = q by omega] at hrunC
  have HSB := Lib.hid hsB; have HSC := Lib.hid hsC; clear hsB hsC hq
  have r11 := R11.out; have r12 := R12.out; have r13 := R13.out; have r16 := R16.out
  have hl11 := r11.lt; have hl12 := r12.lt; have hl13 := r13.lt; have hl16 := r16.lt
  clear R11 R12 R13 R16
  have hrl : (r.drop m).length = n - m := by rw [List.length_drop]; omega
  go_cut [17, 18] from 51 to 52 (fun v17 v18 wc => ∃ (b17 b18 : Nat) (aR2 aD2 aV2 : Option Addr) (nR2 cR2 cD2 nV2 cV2 : Nat), v17 = .pointer (some ⟨b17, 0, none⟩) ∧ v18 = .pointer (some ⟨b18, 0, none⟩) ∧
      Hid (Rw wc b18 #[.slice aR2 nR2 cR2, .slice aD2 (n - m) cD2, .slice aV2 nV2 cV2] 31) ∧ Hid (Sl (fun b => b < wc.heap.size) wc 2 aV2 nV2 cV2 (vls (filtB (r.drop m) (bs.drop m)))) ∧ Below wb.heap.size wb wc)
  case first =>
    have HB : Below wb.heap.size wb wb := b0 wb
    refine Go.Shr.wp_region_F (fun _ => True) [16] (by kernel_rfl) ?g3rgS (fun hHeld => ?g3rgR)
    case g3rgS => trivial
    try dsimp only at hHeld
    obtain ⟨W, hW⟩ : ∃ W, W = wb.drew := ⟨_, rfl⟩; rw [← hW]; (replace HB := Go.Shr.Below.ren hW (HB.drew)); clear hW
    refine Go.Shr.wpAnyF_take 0 (oi := { dst := some 55, op := Go.Op.move (Go.Operand.tmp 10), type := 22, pos := "law.go:51", after := #[], guard := none }) (v := ?g3rv1) rfl (by kernel_rfl) (fun _ _ _ h => h) (by assumption) (by rfl) ?g3ry1 ?g3rr1
    case g3ry1 => intro w hSw; skip; go_simp; try with_reducible rfl
    try simp only [Act.put, List.setIfInBounds_toArray, List.set_cons_zero, List.set_cons_succ]
    refine Go.Shr.wpAnyF_take 1 (oi := { dst := some 56, op := Go.Op.move (Go.Operand.tmp 14), type := 3, pos := "law.go:51", after := #[], guard := none }) (v := ?g3rv2) rfl (by kernel_rfl) (fun _ _ _ h => h) (by assumption) (by rfl) ?g3ry2 ?g3rr2
    case g3ry2 => intro w hSw; skip; go_simp; try with_reducible rfl
    try simp only [Act.put, List.setIfInBounds_toArray, List.set_cons_zero, List.set_cons_succ]
    refine Go.Shr.wpAnyF_take 2 (oi := { dst := some 57, op := Go.Op.slice 22 (Go.Operand.tmp 55) (some (Go.Operand.tmp 56)) none none, type := 22, pos := "law.go:51", after := #[{ on := 0, ground := Go.Ground.data }, { on := 1, ground := Go.Ground.data }], guard := none }) (v := ?g3rv3) rfl (by kernel_rfl) (fun _ _ _ h => h) (by assumption) (by rfl) ?g3ry3 ?g3rr3
    case g3ry3 => intro w hSw; skip; go_simp; try with_reducible rfl
    try simp only [Act.put, List.setIfInBounds_toArray, List.set_cons_zero, List.set_cons_succ]
    refine Go.Shr.wpAnyF_take 3 (oi := { dst := some 58, op := Go.Op.move (Go.Operand.tmp 2), type := 23, pos := "law.go:51", after := #[], guard := none }) (v := ?g3rv4) rfl (by kernel_rfl) (fun _ _ _ h => h) (by assumption) (by rfl) ?g3ry4 ?g3rr4
    case g3ry4 => intro w hSw; skip; go_simp; try with_reducible rfl
    try simp only [Act.put, List.setIfInBounds_toArray, List.set_cons_zero, List.set_cons_succ]
    refine Go.Shr.wpAnyF_take 4 (oi := { dst := some 59, op := Go.Op.move (Go.Operand.tmp 14), type := 3, pos := "law.go:51", after := #[], guard := none }) (v := ?g3rv5) rfl (by kernel_rfl) (fun _ _ _ h => h) (by assumption) (by rfl) ?g3ry5 ?g3rr5
    case g3ry5 => intro w hSw; skip; go_simp; try with_reducible rfl
    try simp only [Act.put, List.setIfInBounds_toArray, List.set_cons_zero, List.set_cons_succ]
    refine Go.Shr.wpAnyF_take 5 (oi := { dst := some 60, op := Go.Op.move (Go.Operand.tmp 2), type := 23, pos := "law.go:51", after := #[], guard := none }) (v := ?g3rv6) rfl (by kernel_rfl) (fun _ _ _ h => h) (by assumption) (by rfl) ?g3ry6 ?g3rr6
    case g3ry6 => intro w hSw; skip; go_simp; try with_reducible rfl
    try simp only [Act.put, List.setIfInBounds_toArray, List.set_cons_zero, List.set_cons_succ]
    refine Go.Shr.wpAnyF_take 6 (oi := { dst := some 61, op := Go.Op.call { callee := Go.Callee.builtin Go.Builtin.len, args := #[Go.Operand.tmp 60], argTypes := #[23] }, type := 3, pos := "law.go:51", after := #[{ on := 5, ground := Go.Ground.data }], guard := none }) (v := ?g3rv7) rfl (by kernel_rfl) (fun _ _ _ h => h) (by assumption) (by rfl) ?g3ry7 ?g3rr7
    case g3ry7 => intro w hSw; skip; go_simp; try with_reducible rfl
    try simp only [Act.put, List.setIfInBounds_toArray, List.set_cons_zero, List.set_cons_succ]
    refine Go.Shr.wpAnyF_take 7 (oi := { dst := some 62, op := Go.Op.call { callee := Go.Callee.builtin Go.Builtin.min, args := #[Go.Operand.tmp 59, Go.Operand.tmp 61], argTypes := #[3, 3] }, type := 3, pos := "law.go:51", after := #[{ on := 4, ground := Go.Ground.data }, { on := 6, ground := Go.Ground.data }], guard := none }) (v := ?g3rv8) rfl (by kernel_rfl) (fun _ _ _ h => h) (by assumption) (by rfl) ?g3ry8 ?g3rr8
    case g3ry8 => intro w hSw; skip; go_simp; try with_reducible rfl
    try simp only [Act.put, List.setIfInBounds_toArray, List.set_cons_zero, List.set_cons_succ]
    refine Go.Shr.wpAnyF_take 8 (oi := { dst := some 63, op := Go.Op.slice 23 (Go.Operand.tmp 58) (some (Go.Operand.tmp 62)) none none, type := 23, pos := "law.go:51", after := #[{ on := 3, ground := Go.Ground.data }, { on := 7, ground := Go.Ground.data }], guard := none }) (v := ?g3rv9) rfl (by kernel_rfl) (fun _ _ _ h => h) (by assumption) (by rfl) ?g3ry9 ?g3rr9
    case g3ry9 => intro w hSw; skip; go_simp; try with_reducible rfl
    try simp only [Act.put, List.setIfInBounds_toArray, List.set_cons_zero, List.set_cons_succ]
    refine Go.Shr.wpAnyF_ready [9, 13, 14] (by kernel_rfl) (by simp) ?_
    refine Go.Shr.AllReadyF.cons 9 (o := { dst := some 64, op := Go.Op.call { callee := Go.Callee.value (Go.Operand.func 11), args := #[Go.Operand.tmp 57, Go.Operand.tmp 63], argTypes := #[22, 23] }, type := 32, pos := "law.go:51", after := #[{ on := 2, ground := Go.Ground.data }, { on := 8, ground := Go.Ground.data }], guard := none }) rfl (fun K hK => ?g3ro10) ?g3rm10
    case g3ro10 =>
      go_simp; refine (column_v aB (n - m) (cr - m) (r.drop m) aC (nb - q) (cb' - q) (bs.drop m) _ (slb HSB.out HB) (by omega) (slb HSC.out HB)).mono ?_; rintro e w9 ⟨aR2, nR2, cR2, aD2, cD2, aV2, nV2, cV2, rfl, hsD2, hsV2, hb9⟩; clear hsD2; dsimp only; refine gen_w (fun W hW => ?_); (try replace r17 := Rw.ren hW (Rw.below r17 hb9)); (try replace r18 := Rw.ren hW (Rw.below r18 hb9)); (replace hsV2 := Go.Shr.Sl.ren hW hsV2); (replace HB := Go.Shr.Below.ren hW (bt HB hb9)); clear hW hb9
      refine hK.out _ _ ?g3rs10 (fun hHeld => ?g3rt10)
      case g3rs10 => trivial
      try dsimp only at hHeld
      clear hK K
      try simp only [Act.put, List.setIfInBounds_toArray, List.set_cons_zero, List.set_cons_succ]
      refine Go.Shr.wpAnyF_take 10 (oi := { dst := some 54, op := Go.Op.move (Go.Operand.tmp 64), type := 32, pos := "law.go:51", after := #[{ on := 9, ground := Go.Ground.data }], guard := none }) (v := ?g3rv11) rfl (by kernel_rfl) (fun _ _ _ h => h) (by assumption) (by rfl) ?g3ry11 ?g3rr11
      case g3ry11 => intro w hSw; skip; go_simp; try with_reducible rfl
      try simp only [Act.put, List.setIfInBounds_toArray, List.set_cons_zero, List.set_cons_succ]
      refine Go.Shr.wpAnyF_take 11 (oi := { dst := some 65, op := Go.Op.extract (Go.Operand.tmp 54) 0, type := 28, pos := "law.go:51", after := #[{ on := 10, ground := Go.Ground.data }], guard := none }) (v := ?g3rv12) rfl (by kernel_rfl) (fun _ _ _ h => h) (by assumption) (by rfl) ?g3ry12 ?g3rr12
      case g3ry12 => intro w hSw; skip; go_simp; try with_reducible rfl
      try simp only [Act.put, List.setIfInBounds_toArray, List.set_cons_zero, List.set_cons_succ]
      refine Go.Shr.wpAnyF_take 12 (oi := { dst := some 66, op := Go.Op.extract (Go.Operand.tmp 54) 1, type := 31, pos := "law.go:51", after := #[{ on := 10, ground := Go.Ground.data }, { on := 15, ground := Go.Ground.gcOnly Go.Departure.lateStores }], guard := none }) (v := ?g3rv13) rfl (by kernel_rfl) (fun _ _ _ h => h) (by assumption) (by rfl) ?g3ry13 ?g3rr13
      case g3ry13 => intro w hSw; skip; go_simp; try with_reducible rfl
      try simp only [Act.put, List.setIfInBounds_toArray, List.set_cons_zero, List.set_cons_succ]
      refine Go.Shr.wpAnyF_ready [13, 14] (by kernel_rfl) (by simp) ?_
      refine Go.Shr.AllReadyF.cons 13 (o := { dst := some 17, op := Go.Op.alloc 28, type := 0, pos := "law.go:51", after := #[], guard := none }) rfl (fun K hK => ?g3ro14) ?g3rm14
      case g3ro14 =>
        (try have hx13_r18 := r18.lt); (have hsz13 := HB.size); go_simp; refine gen_w (fun W hW => ?_); (have r17 := Rw.ren hW (Rw.fresh HB #[.int .i64 0, .int .i64 0, .int .i64 0, .int .i64 0] 28)); (try replace r18 := Rw.ren hW (Rw.alloc r18 _)); (try replace hsV2 := Go.Shr.Sl.ren hW (slb hsV2 (ba (b0 _) _))); (replace HB := Go.Shr.Below.ren hW (ba HB _)); clear hW
        refine hK.out _ _ ?g3rs14 (fun hHeld => ?g3rt14)
        case g3rs14 => trivial
        try dsimp only at hHeld
        clear hK K
        try simp only [Act.put, List.setIfInBounds_toArray, List.set_cons_zero, List.set_cons_succ]
        refine Go.Shr.wpAnyF_ready [14] (by kernel_rfl) (by simp) ?_
        refine Go.Shr.AllReadyF.cons 14 (o := { dst := some 18, op := Go.Op.alloc 31, type := 0, pos := "law.go:51", after := #[], guard := none }) rfl (fun K hK => ?g3ro15) ?g3rm15
        case g3rm15 => exact Go.Shr.AllReadyF.nil
        (try have hx14_r17 := r17.lt); (have hsz14 := HB.size); go_simp; refine gen_w (fun W hW => ?_); (have r18 := Rw.ren hW (Rw.fresh HB #[.slice none 0 0, .slice none 0 0, .slice none 0 0] 31)); (try replace r17 := Rw.ren hW (Rw.alloc r17 _)); (try replace hsV2 := Go.Shr.Sl.ren hW (slb hsV2 (ba (b0 _) _))); (replace HB := Go.Shr.Below.ren hW (ba HB _)); clear hW
        refine hK.out _ _ ?g3rs15 (fun hHeld => ?g3rt15)
        case g3rs15 => trivial
        try dsimp only at hHeld
        clear hK K
        try simp only [Act.put, List.setIfInBounds_toArray, List.set_cons_zero, List.set_cons_succ]
        refine Go.Shr.wpAnyF_ready [15] (by kernel_rfl) (by simp) ?_
        refine Go.Shr.AllReadyF.cons 15 (o := { dst := none, op := Go.Op.store 28 (Go.Operand.tmp 17) (Go.Operand.tmp 65), type := 0, pos := "law.go:51", after := #[{ on := 13, ground := Go.Ground.data }, { on := 11, ground := Go.Ground.data }, { on := 9, ground := Go.Ground.chain }, { on := 0, ground := Go.Ground.phase }, { on := 1, ground := Go.Ground.phase }, { on := 2, ground := Go.Ground.phase }, { on := 3, ground := Go.Ground.phase }, { on := 4, ground := Go.Ground.phase }, { on := 5, ground := Go.Ground.phase }, { on := 6, ground := Go.Ground.phase }, { on := 7, ground := Go.Ground.phase }, { on := 8, ground := Go.Ground.phase }, { on := 9, ground := Go.Ground.phase }, { on := 10, ground := Go.Ground.phase }, { on := 11, ground := Go.Ground.phase }, { on := 12, ground := Go.Ground.textOnly Go.Departure.lateStores }, { on := 13, ground := Go.Ground.phase }, { on := 14, ground := Go.Ground.phase }], guard := none }) rfl (fun K hK => ?g3ro16) ?g3rm16
        case g3rm16 => exact Go.Shr.AllReadyF.nil
        have HV := (hsV2.apart r17 1 (fun h0 => (by obtain ⟨hv0, hv1⟩ := vls_get (filtB (r.drop m) (bs.drop m)) 0 (by have := hsV2.len; rw [vls_length] at this; omega); exact ⟨_, by simpa using hv1, by simp⟩))).apart r18 1 (fun h0 => (by obtain ⟨hv0, hv1⟩ := vls_get (filtB (r.drop m) (bs.drop m)) 0 (by have := hsV2.len; rw [vls_length] at this; omega); exact ⟨_, by simpa using hv1, by simp⟩)); have HC := Chg.two r17 r18; (have q15_0 := r17.cell 0); (have q15_1 := r17.cell 1); (have q15_2 := r17.cell 2); (have q15_3 := r17.cell 3); (have qf15 := r17.frozen); (have ql15 := r17.lt); (simp only [List.getElem?_toArray, List.getElem?_cons_zero, List.getElem?_cons_succ] at q15_0 q15_1 q15_2 q15_3); go_simp; refine gen_w (fun W hW => ?_); (try replace r18 := Rw.ren hW (r18.other4 (by omega))); (replace r17 := Rw.ren hW (r17.set4)); (try replace HC := Go.Shr.Chg.ren hW (cset4 HC (by simp))); (replace HB := Go.Shr.Below.ren hW (bset4 HB (by omega))); clear hW qf15 ql15 q15_0 q15_1 q15_2 q15_3
        refine hK.out _ _ ?g3rs16 (fun hHeld => ?g3rt16)
        case g3rs16 => trivial
        try dsimp only at hHeld
        clear hK K
        try simp only [Act.put, List.setIfInBounds_toArray, List.set_cons_zero, List.set_cons_succ]
        refine Go.Shr.wpAnyF_ready [16] (by kernel_rfl) (by simp) ?_
        refine Go.Shr.AllReadyF.last 16 (o := { dst := none, op := Go.Op.store 31 (Go.Operand.tmp 18) (Go.Operand.tmp 66), type := 0, pos := "law.go:51", after := #[{ on := 14, ground := Go.Ground.data }, { on := 12, ground := Go.Ground.data }, { on := 15, ground := Go.Ground.chain }, { on := 0, ground := Go.Ground.phase }, { on := 1, ground := Go.Ground.phase }, { on := 2, ground := Go.Ground.phase }, { on := 3, ground := Go.Ground.phase }, { on := 4, ground := Go.Ground.phase }, { on := 5, ground := Go.Ground.phase }, { on := 6, ground := Go.Ground.phase }, { on := 7, ground := Go.Ground.phase }, { on := 8, ground := Go.Ground.phase }, { on := 9, ground := Go.Ground.phase }, { on := 10, ground := Go.Ground.phase }, { on := 11, ground := Go.Ground.phase }, { on := 12, ground := Go.Ground.phase }, { on := 13, ground := Go.Ground.phase }, { on := 14, ground := Go.Ground.phase }, { on := 15, ground := Go.Ground.phase }], guard := none }) rfl (by kernel_rfl) (fun K hK => ?g3ro17) ?g3rm17
        case g3rm17 => exact Go.Shr.AllReadyF.nil
        (have q16_0 := r18.cell 0); (have q16_1 := r18.cell 1); (have q16_2 := r18.cell 2); (have qf16 := r18.frozen); (have ql16 := r18.lt); (simp only [List.getElem?_toArray, List.getElem?_cons_zero, List.getElem?_cons_succ] at q16_0 q16_1 q16_2); go_simp; refine gen_w (fun W hW => ?_); (try replace r17 := Rw.ren hW (r17.other3 (by omega))); (replace r18 := Rw.ren hW (r18.set3)); (try replace HC := Go.Shr.Chg.ren hW (cset3 HC (by simp))); (replace HB := Go.Shr.Below.ren hW (bset3 HB (by omega))); clear hW qf16 ql16 q16_0 q16_1 q16_2
        refine hK.out _ _ ?_
        clear hK K
        try simp only [Act.put, List.setIfInBounds_toArray, List.set_cons_zero, List.set_cons_succ]
        refine Go.Shr.wpAnyF_done (by kernel_rfl) ?_
        go_wp2_with fail
        go_meet
        case rel => exact ⟨_, _, _, _, _, _, _, _, _, _, rfl, rfl, Lib.hid r18, Lib.hid (HV.chg' HC (fun k hk => ⟨hk.1.1, fun h => h.elim hk.1.2 hk.2⟩)), HB⟩
      case g3rm14 =>
      refine Go.Shr.AllReadyF.cons 14 (o := { dst := some 18, op := Go.Op.alloc 31, type := 0, pos := "law.go:51", after := #[], guard := none }) rfl (fun K hK => ?g3ro18) ?g3rm18
      case g3ro18 =>
        (try have hx14_r17 := r17.lt); (have hsz14 := HB.size); go_simp; refine gen_w (fun W hW => ?_); (have r18 := Rw.ren hW (Rw.fresh HB #[.slice none 0 0, .slice none 0 0, .slice none 0 0] 31)); (try replace r17 := Rw.ren hW (Rw.alloc r17 _)); (try replace hsV2 := Go.Shr.Sl.ren hW (slb hsV2 (ba (b0 _) _))); (replace HB := Go.Shr.Below.ren hW (ba HB _)); clear hW
        refine hK.out _ _ ?g3rs18 (fun hHeld => ?g3rt18)
        case g3rs18 => trivial
        try dsimp only at hHeld
        clear hK K
        try simp only [Act.put, List.setIfInBounds_toArray, List.set_cons_zero, List.set_cons_succ]
        refine Go.Shr.wpAnyF_ready [13] (by kernel_rfl) (by simp) ?_
        refine Go.Shr.AllReadyF.cons 13 (o := { dst := some 17, op := Go.Op.alloc 28, type := 0, pos := "law.go:51", after := #[], guard := none }) rfl (fun K hK => ?g3ro19) ?g3rm19
        case g3rm19 => exact Go.Shr.AllReadyF.nil
        (try have hx13_r18 := r18.lt); (have hsz13 := HB.size); go_simp; refine gen_w (fun W hW => ?_); (have r17 := Rw.ren hW (Rw.fresh HB #[.int .i64 0, .int .i64 0, .int .i64 0, .int .i64 0] 28)); (try replace r18 := Rw.ren hW (Rw.alloc r18 _)); (try replace hsV2 := Go.Shr.Sl.ren hW (slb hsV2 (ba (b0 _) _))); (replace HB := Go.Shr.Below.ren hW (ba HB _)); clear hW
        refine hK.out _ _ ?g3rs19 (fun hHeld => ?g3rt19)
        case g3rs19 => trivial
        try dsimp only at hHeld
        clear hK K
        try simp only [Act.put, List.setIfInBounds_toArray, List.set_cons_zero, List.set_cons_succ]
        refine Go.Shr.wpAnyF_ready [15] (by kernel_rfl) (by simp) ?_
        refine Go.Shr.AllReadyF.cons 15 (o := { dst := none, op := Go.Op.store 28 (Go.Operand.tmp 17) (Go.Operand.tmp 65), type := 0, pos := "law.go:51", after := #[{ on := 13, ground := Go.Ground.data }, { on := 11, ground := Go.Ground.data }, { on := 9, ground := Go.Ground.chain }, { on := 0, ground := Go.Ground.phase }, { on := 1, ground := Go.Ground.phase }, { on := 2, ground := Go.Ground.phase }, { on := 3, ground := Go.Ground.phase }, { on := 4, ground := Go.Ground.phase }, { on := 5, ground := Go.Ground.phase }, { on := 6, ground := Go.Ground.phase }, { on := 7, ground := Go.Ground.phase }, { on := 8, ground := Go.Ground.phase }, { on := 9, ground := Go.Ground.phase }, { on := 10, ground := Go.Ground.phase }, { on := 11, ground := Go.Ground.phase }, { on := 12, ground := Go.Ground.textOnly Go.Departure.lateStores }, { on := 13, ground := Go.Ground.phase }, { on := 14, ground := Go.Ground.phase }], guard := none }) rfl (fun K hK => ?g3ro20) ?g3rm20
        case g3rm20 => exact Go.Shr.AllReadyF.nil
        have HV := (hsV2.apart r17 1 (fun h0 => (by obtain ⟨hv0, hv1⟩ := vls_get (filtB (r.drop m) (bs.drop m)) 0 (by have := hsV2.len; rw [vls_length] at this; omega); exact ⟨_, by simpa using hv1, by simp⟩))).apart r18 1 (fun h0 => (by obtain ⟨hv0, hv1⟩ := vls_get (filtB (r.drop m) (bs.drop m)) 0 (by have := hsV2.len; rw [vls_length] at this; omega); exact ⟨_, by simpa using hv1, by simp⟩)); have HC := Chg.two r17 r18; (have q15_0 := r17.cell 0); (have q15_1 := r17.cell 1); (have q15_2 := r17.cell 2); (have q15_3 := r17.cell 3); (have qf15 := r17.frozen); (have ql15 := r17.lt); (simp only [List.getElem?_toArray, List.getElem?_cons_zero, List.getElem?_cons_succ] at q15_0 q15_1 q15_2 q15_3); go_simp; refine gen_w (fun W hW => ?_); (try replace r18 := Rw.ren hW (r18.other4 (by omega))); (replace r17 := Rw.ren hW (r17.set4)); (try replace HC := Go.Shr.Chg.ren hW (cset4 HC (by simp))); (replace HB := Go.Shr.Below.ren hW (bset4 HB (by omega))); clear hW qf15 ql15 q15_0 q15_1 q15_2 q15_3
        refine hK.out _ _ ?g3rs20 (fun hHeld => ?g3rt20)
        case g3rs20 => trivial
        try dsimp only at hHeld
        clear hK K
        try simp only [Act.put, List.setIfInBounds_toArray, List.set_cons_zero, List.set_cons_succ]
        refine Go.Shr.wpAnyF_ready [16] (by kernel_rfl) (by simp) ?_
        refine Go.Shr.AllReadyF.last 16 (o := { dst := none, op := Go.Op.store 31 (Go.Operand.tmp 18) (Go.Operand.tmp 66), type := 0, pos := "law.go:51", after := #[{ on := 14, ground := Go.Ground.data }, { on := 12, ground := Go.Ground.data }, { on := 15, ground := Go.Ground.chain }, { on := 0, ground := Go.Ground.phase }, { on := 1, ground := Go.Ground.phase }, { on := 2, ground := Go.Ground.phase }, { on := 3, ground := Go.Ground.phase }, { on := 4, ground := Go.Ground.phase }, { on := 5, ground := Go.Ground.phase }, { on := 6, ground := Go.Ground.phase }, { on := 7, ground := Go.Ground.phase }, { on := 8, ground := Go.Ground.phase }, { on := 9, ground := Go.Ground.phase }, { on := 10, ground := Go.Ground.phase }, { on := 11, ground := Go.Ground.phase }, { on := 12, ground := Go.Ground.phase }, { on := 13, ground := Go.Ground.phase }, { on := 14, ground := Go.Ground.phase }, { on := 15, ground := Go.Ground.phase }], guard := none }) rfl (by kernel_rfl) (fun K hK => ?g3ro21) ?g3rm21
        case g3rm21 => exact Go.Shr.AllReadyF.nil
        (have q16_0 := r18.cell 0); (have q16_1 := r18.cell 1); (have q16_2 := r18.cell 2); (have qf16 := r18.frozen); (have ql16 := r18.lt); (simp only [List.getElem?_toArray, List.getElem?_cons_zero, List.getElem?_cons_succ] at q16_0 q16_1 q16_2); go_simp; refine gen_w (fun W hW => ?_); (try replace r17 := Rw.ren hW (r17.other3 (by omega))); (replace r18 := Rw.ren hW (r18.set3)); (try replace HC := Go.Shr.Chg.ren hW (cset3 HC (by simp))); (replace HB := Go.Shr.Below.ren hW (bset3 HB (by omega))); clear hW qf16 ql16 q16_0 q16_1 q16_2
        refine hK.out _ _ ?_
        clear hK K
        try simp only [Act.put, List.setIfInBounds_toArray, List.set_cons_zero, List.set_cons_succ]
        refine Go.Shr.wpAnyF_done (by kernel_rfl) ?_
        go_wp2_with fail
        go_meet
        case rel => exact ⟨_, _, _, _, _, _, _, _, _, _, rfl, rfl, Lib.hid r18, Lib.hid (HV.chg' HC (fun k hk => ⟨hk.1.1, fun h => h.elim hk.1.2 hk.2⟩)), HB⟩
      case g3rm18 =>
      exact Go.Shr.AllReadyF.nil
    case g3rm10 =>
    refine Go.Shr.AllReadyF.cons 13 (o := { dst := some 17, op := Go.Op.alloc 28, type := 0, pos := "law.go:51", after := #[], guard := none }) rfl (fun K hK => ?g3ro22) ?g3rm22
    case g3ro22 =>
      (try have hx13_r18 := r18.lt); (have hsz13 := HB.size); go_simp; refine gen_w (fun W hW => ?_); (have r17 := Rw.ren hW (Rw.fresh HB #[.int .i64 0, .int .i64 0, .int .i64 0, .int .i64 0] 28)); (try replace r18 := Rw.ren hW (Rw.alloc r18 _)); (try replace hsV2 := Go.Shr.Sl.ren hW (slb hsV2 (ba (b0 _) _))); (replace HB := Go.Shr.Below.ren hW (ba HB _)); clear hW
      refine hK.out _ _ ?g3rs22 (fun hHeld => ?g3rt22)
      case g3rs22 => trivial
      try dsimp only at hHeld
      clear hK K
      try simp only [Act.put, List.setIfInBounds_toArray, List.set_cons_zero, List.set_cons_succ]
      refine Go.Shr.wpAnyF_ready [9, 14] (by kernel_rfl) (by simp) ?_
      refine Go.Shr.AllReadyF.cons 9 (o := { dst := some 64, op := Go.Op.call { callee := Go.Callee.value (Go.Operand.func 11), args := #[Go.Operand.tmp 57, Go.Operand.tmp 63], argTypes := #[22, 23] }, type := 32, pos := "law.go:51", after := #[{ on := 2, ground := Go.Ground.data }, { on := 8, ground := Go.Ground.data }], guard := none }) rfl (fun K hK => ?g3ro23) ?g3rm23
      case g3ro23 =>
        go_simp; refine (column_v aB (n - m) (cr - m) (r.drop m) aC (nb - q) (cb' - q) (bs.drop m) _ (slb HSB.out HB) (by omega) (slb HSC.out HB)).mono ?_; rintro e w9 ⟨aR2, nR2, cR2, aD2, cD2, aV2, nV2, cV2, rfl, hsD2, hsV2, hb9⟩; clear hsD2; dsimp only; refine gen_w (fun W hW => ?_); (try replace r17 := Rw.ren hW (Rw.below r17 hb9)); (try replace r18 := Rw.ren hW (Rw.below r18 hb9)); (replace hsV2 := Go.Shr.Sl.ren hW hsV2); (replace HB := Go.Shr.Below.ren hW (bt HB hb9)); clear hW hb9
        refine hK.out _ _ ?g3rs23 (fun hHeld => ?g3rt23)
        case g3rs23 => trivial
        try dsimp only at hHeld
        clear hK K
        try simp only [Act.put, List.setIfInBounds_toArray, List.set_cons_zero, List.set_cons_succ]
        refine Go.Shr.wpAnyF_take 10 (oi := { dst := some 54, op := Go.Op.move (Go.Operand.tmp 64), type := 32, pos := "law.go:51", after := #[{ on := 9, ground := Go.Ground.data }], guard := none }) (v := ?g3rv24) rfl (by kernel_rfl) (fun _ _ _ h => h) (by assumption) (by rfl) ?g3ry24 ?g3rr24
        case g3ry24 => intro w hSw; skip; go_simp; try with_reducible rfl
        try simp only [Act.put, List.setIfInBounds_toArray, List.set_cons_zero, List.set_cons_succ]
        refine Go.Shr.wpAnyF_take 11 (oi := { dst := some 65, op := Go.Op.extract (Go.Operand.tmp 54) 0, type := 28, pos := "law.go:51", after := #[{ on := 10, ground := Go.Ground.data }], guard := none }) (v := ?g3rv25) rfl (by kernel_rfl) (fun _ _ _ h => h) (by assumption) (by rfl) ?g3ry25 ?g3rr25
        case g3ry25 => intro w hSw; skip; go_simp; try with_reducible rfl
        try simp only [Act.put, List.setIfInBounds_toArray, List.set_cons_zero, List.set_cons_succ]
        refine Go.Shr.wpAnyF_take 12 (oi := { dst := some 66, op := Go.Op.extract (Go.Operand.tmp 54) 1, type := 31, pos := "law.go:51", after := #[{ on := 10, ground := Go.Ground.data }, { on := 15, ground := Go.Ground.gcOnly Go.Departure.lateStores }], guard := none }) (v := ?g3rv26) rfl (by kernel_rfl) (fun _ _ _ h => h) (by assumption) (by rfl) ?g3ry26 ?g3rr26
        case g3ry26 => intro w hSw; skip; go_simp; try with_reducible rfl
        try simp only [Act.put, List.setIfInBounds_toArray, List.set_cons_zero, List.set_cons_succ]
        refine Go.Shr.wpAnyF_ready [14] (by kernel_rfl) (by simp) ?_
        refine Go.Shr.AllReadyF.cons 14 (o := { dst := some 18, op := Go.Op.alloc 31, type := 0, pos := "law.go:51", after := #[], guard := none }) rfl (fun K hK => ?g3ro27) ?g3rm27
        case g3rm27 => exact Go.Shr.AllReadyF.nil
        (try have hx14_r17 := r17.lt); (have hsz14 := HB.size); go_simp; refine gen_w (fun W hW => ?_); (have r18 := Rw.ren hW (Rw.fresh HB #[.slice none 0 0, .slice none 0 0, .slice none 0 0] 31)); (try replace r17 := Rw.ren hW (Rw.alloc r17 _)); (try replace hsV2 := Go.Shr.Sl.ren hW (slb hsV2 (ba (b0 _) _))); (replace HB := Go.Shr.Below.ren hW (ba HB _)); clear hW
        refine hK.out _ _ ?g3rs27 (fun hHeld => ?g3rt27)
        case g3rs27 => trivial
        try dsimp only at hHeld
        clear hK K
        try simp only [Act.put, List.setIfInBounds_toArray, List.set_cons_zero, List.set_cons_succ]
        refine Go.Shr.wpAnyF_ready [15] (by kernel_rfl) (by simp) ?_
        refine Go.Shr.AllReadyF.cons 15 (o := { dst := none, op := Go.Op.store 28 (Go.Operand.tmp 17) (Go.Operand.tmp 65), type := 0, pos := "law.go:51", after := #[{ on := 13, ground := Go.Ground.data }, { on := 11, ground := Go.Ground.data }, { on := 9, ground := Go.Ground.chain }, { on := 0, ground := Go.Ground.phase }, { on := 1, ground := Go.Ground.phase }, { on := 2, ground := Go.Ground.phase }, { on := 3, ground := Go.Ground.phase }, { on := 4, ground := Go.Ground.phase }, { on := 5, ground := Go.Ground.phase }, { on := 6, ground := Go.Ground.phase }, { on := 7, ground := Go.Ground.phase }, { on := 8, ground := Go.Ground.phase }, { on := 9, ground := Go.Ground.phase }, { on := 10, ground := Go.Ground.phase }, { on := 11, ground := Go.Ground.phase }, { on := 12, ground := Go.Ground.textOnly Go.Departure.lateStores }, { on := 13, ground := Go.Ground.phase }, { on := 14, ground := Go.Ground.phase }], guard := none }) rfl (fun K hK => ?g3ro28) ?g3rm28
        case g3rm28 => exact Go.Shr.AllReadyF.nil
        have HV := (hsV2.apart r17 1 (fun h0 => (by obtain ⟨hv0, hv1⟩ := vls_get (filtB (r.drop m) (bs.drop m)) 0 (by have := hsV2.len; rw [vls_length] at this; omega); exact ⟨_, by simpa using hv1, by simp⟩))).apart r18 1 (fun h0 => (by obtain ⟨hv0, hv1⟩ := vls_get (filtB (r.drop m) (bs.drop m)) 0 (by have := hsV2.len; rw [vls_length] at this; omega); exact ⟨_, by simpa using hv1, by simp⟩)); have HC := Chg.two r17 r18; (have q15_0 := r17.cell 0); (have q15_1 := r17.cell 1); (have q15_2 := r17.cell 2); (have q15_3 := r17.cell 3); (have qf15 := r17.frozen); (have ql15 := r17.lt); (simp only [List.getElem?_toArray, List.getElem?_cons_zero, List.getElem?_cons_succ] at q15_0 q15_1 q15_2 q15_3); go_simp; refine gen_w (fun W hW => ?_); (try replace r18 := Rw.ren hW (r18.other4 (by omega))); (replace r17 := Rw.ren hW (r17.set4)); (try replace HC := Go.Shr.Chg.ren hW (cset4 HC (by simp))); (replace HB := Go.Shr.Below.ren hW (bset4 HB (by omega))); clear hW qf15 ql15 q15_0 q15_1 q15_2 q15_3
        refine hK.out _ _ ?g3rs28 (fun hHeld => ?g3rt28)
        case g3rs28 => trivial
        try dsimp only at hHeld
        clear hK K
        try simp only [Act.put, List.setIfInBounds_toArray, List.set_cons_zero, List.set_cons_succ]
        refine Go.Shr.wpAnyF_ready [16] (by kernel_rfl) (by simp) ?_
        refine Go.Shr.AllReadyF.last 16 (o := { dst := none, op := Go.Op.store 31 (Go.Operand.tmp 18) (Go.Operand.tmp 66), type := 0, pos := "law.go:51", after := #[{ on := 14, ground := Go.Ground.data }, { on := 12, ground := Go.Ground.data }, { on := 15, ground := Go.Ground.chain }, { on := 0, ground := Go.Ground.phase }, { on := 1, ground := Go.Ground.phase }, { on := 2, ground := Go.Ground.phase }, { on := 3, ground := Go.Ground.phase }, { on := 4, ground := Go.Ground.phase }, { on := 5, ground := Go.Ground.phase }, { on := 6, ground := Go.Ground.phase }, { on := 7, ground := Go.Ground.phase }, { on := 8, ground := Go.Ground.phase }, { on := 9, ground := Go.Ground.phase }, { on := 10, ground := Go.Ground.phase }, { on := 11, ground := Go.Ground.phase }, { on := 12, ground := Go.Ground.phase }, { on := 13, ground := Go.Ground.phase }, { on := 14, ground := Go.Ground.phase }, { on := 15, ground := Go.Ground.phase }], guard := none }) rfl (by kernel_rfl) (fun K hK => ?g3ro29) ?g3rm29
        case g3rm29 => exact Go.Shr.AllReadyF.nil
        (have q16_0 := r18.cell 0); (have q16_1 := r18.cell 1); (have q16_2 := r18.cell 2); (have qf16 := r18.frozen); (have ql16 := r18.lt); (simp only [List.getElem?_toArray, List.getElem?_cons_zero, List.getElem?_cons_succ] at q16_0 q16_1 q16_2); go_simp; refine gen_w (fun W hW => ?_); (try replace r17 := Rw.ren hW (r17.other3 (by omega))); (replace r18 := Rw.ren hW (r18.set3)); (try replace HC := Go.Shr.Chg.ren hW (cset3 HC (by simp))); (replace HB := Go.Shr.Below.ren hW (bset3 HB (by omega))); clear hW qf16 ql16 q16_0 q16_1 q16_2
        refine hK.out _ _ ?_
        clear hK K
        try simp only [Act.put, List.setIfInBounds_toArray, List.set_cons_zero, List.set_cons_succ]
        refine Go.Shr.wpAnyF_done (by kernel_rfl) ?_
        go_wp2_with fail
        go_meet
        case rel => exact ⟨_, _, _, _, _, _, _, _, _, _, rfl, rfl, Lib.hid r18, Lib.hid (HV.chg' HC (fun k hk => ⟨hk.1.1, fun h => h.elim hk.1.2 hk.2⟩)), HB⟩
      case g3rm23 =>
      refine Go.Shr.AllReadyF.cons 14 (o := { dst := some 18, op := Go.Op.alloc 31, type := 0, pos := "law.go:51", after := #[], guard := none }) rfl (fun K hK => ?g3ro30) ?g3rm30
      case g3ro30 =>
        (try have hx14_r17 := r17.lt); (have hsz14 := HB.size); go_simp; refine gen_w (fun W hW => ?_); (have r18 := Rw.ren hW (Rw.fresh HB #[.slice none 0 0, .slice none 0 0, .slice none 0 0] 31)); (try replace r17 := Rw.ren hW (Rw.alloc r17 _)); (try replace hsV2 := Go.Shr.Sl.ren hW (slb hsV2 (ba (b0 _) _))); (replace HB := Go.Shr.Below.ren hW (ba HB _)); clear hW
        refine hK.out _ _ ?g3rs30 (fun hHeld => ?g3rt30)
        case g3rs30 => trivial
        try dsimp only at hHeld
        clear hK K
        try simp only [Act.put, List.setIfInBounds_toArray, List.set_cons_zero, List.set_cons_succ]
        refine Go.Shr.wpAnyF_ready [9] (by kernel_rfl) (by simp) ?_
        refine Go.Shr.AllReadyF.cons 9 (o := { dst := some 64, op := Go.Op.call { callee := Go.Callee.value (Go.Operand.func 11), args := #[Go.Operand.tmp 57, Go.Operand.tmp 63], argTypes := #[22, 23] }, type := 32, pos := "law.go:51", after := #[{ on := 2, ground := Go.Ground.data }, { on := 8, ground := Go.Ground.data }], guard := none }) rfl (fun K hK => ?g3ro31) ?g3rm31
        case g3rm31 => exact Go.Shr.AllReadyF.nil
        go_simp; refine (column_v aB (n - m) (cr - m) (r.drop m) aC (nb - q) (cb' - q) (bs.drop m) _ (slb HSB.out HB) (by omega) (slb HSC.out HB)).mono ?_; rintro e w9 ⟨aR2, nR2, cR2, aD2, cD2, aV2, nV2, cV2, rfl, hsD2, hsV2, hb9⟩; clear hsD2; dsimp only; refine gen_w (fun W hW => ?_); (try replace r17 := Rw.ren hW (Rw.below r17 hb9)); (try replace r18 := Rw.ren hW (Rw.below r18 hb9)); (replace hsV2 := Go.Shr.Sl.ren hW hsV2); (replace HB := Go.Shr.Below.ren hW (bt HB hb9)); clear hW hb9
        refine hK.out _ _ ?g3rs31 (fun hHeld => ?g3rt31)
        case g3rs31 => trivial
        try dsimp only at hHeld
        clear hK K
        try simp only [Act.put, List.setIfInBounds_toArray, List.set_cons_zero, List.set_cons_succ]
        refine Go.Shr.wpAnyF_take 10 (oi := { dst := some 54, op := Go.Op.move (Go.Operand.tmp 64), type := 32, pos := "law.go:51", after := #[{ on := 9, ground := Go.Ground.data }], guard := none }) (v := ?g3rv32) rfl (by kernel_rfl) (fun _ _ _ h => h) (by assumption) (by rfl) ?g3ry32 ?g3rr32
        case g3ry32 => intro w hSw; skip; go_simp; try with_reducible rfl
        try simp only [Act.put, List.setIfInBounds_toArray, List.set_cons_zero, List.set_cons_succ]
        refine Go.Shr.wpAnyF_take 11 (oi := { dst := some 65, op := Go.Op.extract (Go.Operand.tmp 54) 0, type := 28, pos := "law.go:51", after := #[{ on := 10, ground := Go.Ground.data }], guard := none }) (v := ?g3rv33) rfl (by kernel_rfl) (fun _ _ _ h => h) (by assumption) (by rfl) ?g3ry33 ?g3rr33
        case g3ry33 => intro w hSw; skip; go_simp; try with_reducible rfl
        try simp only [Act.put, List.setIfInBounds_toArray, List.set_cons_zero, List.set_cons_succ]
        refine Go.Shr.wpAnyF_take 12 (oi := { dst := some 66, op := Go.Op.extract (Go.Operand.tmp 54) 1, type := 31, pos := "law.go:51", after := #[{ on := 10, ground := Go.Ground.data }, { on := 15, ground := Go.Ground.gcOnly Go.Departure.lateStores }], guard := none }) (v := ?g3rv34) rfl (by kernel_rfl) (fun _ _ _ h => h) (by assumption) (by rfl) ?g3ry34 ?g3rr34
        case g3ry34 => intro w hSw; skip; go_simp; try with_reducible rfl
        try simp only [Act.put, List.setIfInBounds_toArray, List.set_cons_zero, List.set_cons_succ]
        refine Go.Shr.wpAnyF_ready [15] (by kernel_rfl) (by simp) ?_
        refine Go.Shr.AllReadyF.cons 15 (o := { dst := none, op := Go.Op.store 28 (Go.Operand.tmp 17) (Go.Operand.tmp 65), type := 0, pos := "law.go:51", after := #[{ on := 13, ground := Go.Ground.data }, { on := 11, ground := Go.Ground.data }, { on := 9, ground := Go.Ground.chain }, { on := 0, ground := Go.Ground.phase }, { on := 1, ground := Go.Ground.phase }, { on := 2, ground := Go.Ground.phase }, { on := 3, ground := Go.Ground.phase }, { on := 4, ground := Go.Ground.phase }, { on := 5, ground := Go.Ground.phase }, { on := 6, ground := Go.Ground.phase }, { on := 7, ground := Go.Ground.phase }, { on := 8, ground := Go.Ground.phase }, { on := 9, ground := Go.Ground.phase }, { on := 10, ground := Go.Ground.phase }, { on := 11, ground := Go.Ground.phase }, { on := 12, ground := Go.Ground.textOnly Go.Departure.lateStores }, { on := 13, ground := Go.Ground.phase }, { on := 14, ground := Go.Ground.phase }], guard := none }) rfl (fun K hK => ?g3ro35) ?g3rm35
        case g3rm35 => exact Go.Shr.AllReadyF.nil
        have HV := (hsV2.apart r17 1 (fun h0 => (by obtain ⟨hv0, hv1⟩ := vls_get (filtB (r.drop m) (bs.drop m)) 0 (by have := hsV2.len; rw [vls_length] at this; omega); exact ⟨_, by simpa using hv1, by simp⟩))).apart r18 1 (fun h0 => (by obtain ⟨hv0, hv1⟩ := vls_get (filtB (r.drop m) (bs.drop m)) 0 (by have := hsV2.len; rw [vls_length] at this; omega); exact ⟨_, by simpa using hv1, by simp⟩)); have HC := Chg.two r17 r18; (have q15_0 := r17.cell 0); (have q15_1 := r17.cell 1); (have q15_2 := r17.cell 2); (have q15_3 := r17.cell 3); (have qf15 := r17.frozen); (have ql15 := r17.lt); (simp only [List.getElem?_toArray, List.getElem?_cons_zero, List.getElem?_cons_succ] at q15_0 q15_1 q15_2 q15_3); go_simp; refine gen_w (fun W hW => ?_); (try replace r18 := Rw.ren hW (r18.other4 (by omega))); (replace r17 := Rw.ren hW (r17.set4)); (try replace HC := Go.Shr.Chg.ren hW (cset4 HC (by simp))); (replace HB := Go.Shr.Below.ren hW (bset4 HB (by omega))); clear hW qf15 ql15 q15_0 q15_1 q15_2 q15_3
        refine hK.out _ _ ?g3rs35 (fun hHeld => ?g3rt35)
        case g3rs35 => trivial
        try dsimp only at hHeld
        clear hK K
        try simp only [Act.put, List.setIfInBounds_toArray, List.set_cons_zero, List.set_cons_succ]
        refine Go.Shr.wpAnyF_ready [16] (by kernel_rfl) (by simp) ?_
        refine Go.Shr.AllReadyF.last 16 (o := { dst := none, op := Go.Op.store 31 (Go.Operand.tmp 18) (Go.Operand.tmp 66), type := 0, pos := "law.go:51", after := #[{ on := 14, ground := Go.Ground.data }, { on := 12, ground := Go.Ground.data }, { on := 15, ground := Go.Ground.chain }, { on := 0, ground := Go.Ground.phase }, { on := 1, ground := Go.Ground.phase }, { on := 2, ground := Go.Ground.phase }, { on := 3, ground := Go.Ground.phase }, { on := 4, ground := Go.Ground.phase }, { on := 5, ground := Go.Ground.phase }, { on := 6, ground := Go.Ground.phase }, { on := 7, ground := Go.Ground.phase }, { on := 8, ground := Go.Ground.phase }, { on := 9, ground := Go.Ground.phase }, { on := 10, ground := Go.Ground.phase }, { on := 11, ground := Go.Ground.phase }, { on := 12, ground := Go.Ground.phase }, { on := 13, ground := Go.Ground.phase }, { on := 14, ground := Go.Ground.phase }, { on := 15, ground := Go.Ground.phase }], guard := none }) rfl (by kernel_rfl) (fun K hK => ?g3ro36) ?g3rm36
        case g3rm36 => exact Go.Shr.AllReadyF.nil
        (have q16_0 := r18.cell 0); (have q16_1 := r18.cell 1); (have q16_2 := r18.cell 2); (have qf16 := r18.frozen); (have ql16 := r18.lt); (simp only [List.getElem?_toArray, List.getElem?_cons_zero, List.getElem?_cons_succ] at q16_0 q16_1 q16_2); go_simp; refine gen_w (fun W hW => ?_); (try replace r17 := Rw.ren hW (r17.other3 (by omega))); (replace r18 := Rw.ren hW (r18.set3)); (try replace HC := Go.Shr.Chg.ren hW (cset3 HC (by simp))); (replace HB := Go.Shr.Below.ren hW (bset3 HB (by omega))); clear hW qf16 ql16 q16_0 q16_1 q16_2
        refine hK.out _ _ ?_
        clear hK K
        try simp only [Act.put, List.setIfInBounds_toArray, List.set_cons_zero, List.set_cons_succ]
        refine Go.Shr.wpAnyF_done (by kernel_rfl) ?_
        go_wp2_with fail
        go_meet
        case rel => exact ⟨_, _, _, _, _, _, _, _, _, _, rfl, rfl, Lib.hid r18, Lib.hid (HV.chg' HC (fun k hk => ⟨hk.1.1, fun h => h.elim hk.1.2 hk.2⟩)), HB⟩
      case g3rm30 =>
      exact Go.Shr.AllReadyF.nil
    case g3rm22 =>
    refine Go.Shr.AllReadyF.cons 14 (o := { dst := some 18, op := Go.Op.alloc 31, type := 0, pos := "law.go:51", after := #[], guard := none }) rfl (fun K hK => ?g3ro37) ?g3rm37
    case g3ro37 =>
      (try have hx14_r17 := r17.lt); (have hsz14 := HB.size); go_simp; refine gen_w (fun W hW => ?_); (have r18 := Rw.ren hW (Rw.fresh HB #[.slice none 0 0, .slice none 0 0, .slice none 0 0] 31)); (try replace r17 := Rw.ren hW (Rw.alloc r17 _)); (try replace hsV2 := Go.Shr.Sl.ren hW (slb hsV2 (ba (b0 _) _))); (replace HB := Go.Shr.Below.ren hW (ba HB _)); clear hW
      refine hK.out _ _ ?g3rs37 (fun hHeld => ?g3rt37)
      case g3rs37 => trivial
      try dsimp only at hHeld
      clear hK K
      try simp only [Act.put, List.setIfInBounds_toArray, List.set_cons_zero, List.set_cons_succ]
      refine Go.Shr.wpAnyF_ready [9, 13] (by kernel_rfl) (by simp) ?_
      refine Go.Shr.AllReadyF.cons 9 (o := { dst := some 64, op := Go.Op.call { callee := Go.Callee.value (Go.Operand.func 11), args := #[Go.Operand.tmp 57, Go.Operand.tmp 63], argTypes := #[22, 23] }, type := 32, pos := "law.go:51", after := #[{ on := 2, ground := Go.Ground.data }, { on := 8, ground := Go.Ground.data }], guard := none }) rfl (fun K hK => ?g3ro38) ?g3rm38
      case g3ro38 =>
        go_simp; refine (column_v aB (n - m) (cr - m) (r.drop m) aC (nb - q) (cb' - q) (bs.drop m) _ (slb HSB.out HB) (by omega) (slb HSC.out HB)).mono ?_; rintro e w9 ⟨aR2, nR2, cR2, aD2, cD2, aV2, nV2, cV2, rfl, hsD2, hsV2, hb9⟩; clear hsD2; dsimp only; refine gen_w (fun W hW => ?_); (try replace r17 := Rw.ren hW (Rw.below r17 hb9)); (try replace r18 := Rw.ren hW (Rw.below r18 hb9)); (replace hsV2 := Go.Shr.Sl.ren hW hsV2); (replace HB := Go.Shr.Below.ren hW (bt HB hb9)); clear hW hb9
        refine hK.out _ _ ?g3rs38 (fun hHeld => ?g3rt38)
        case g3rs38 => trivial
        try dsimp only at hHeld
        clear hK K
        try simp only [Act.put, List.setIfInBounds_toArray, List.set_cons_zero, List.set_cons_succ]
        refine Go.Shr.wpAnyF_take 10 (oi := { dst := some 54, op := Go.Op.move (Go.Operand.tmp 64), type := 32, pos := "law.go:51", after := #[{ on := 9, ground := Go.Ground.data }], guard := none }) (v := ?g3rv39) rfl (by kernel_rfl) (fun _ _ _ h => h) (by assumption) (by rfl) ?g3ry39 ?g3rr39
        case g3ry39 => intro w hSw; skip; go_simp; try with_reducible rfl
        try simp only [Act.put, List.setIfInBounds_toArray, List.set_cons_zero, List.set_cons_succ]
        refine Go.Shr.wpAnyF_take 11 (oi := { dst := some 65, op := Go.Op.extract (Go.Operand.tmp 54) 0, type := 28, pos := "law.go:51", after := #[{ on := 10, ground := Go.Ground.data }], guard := none }) (v := ?g3rv40) rfl (by kernel_rfl) (fun _ _ _ h => h) (by assumption) (by rfl) ?g3ry40 ?g3rr40
        case g3ry40 => intro w hSw; skip; go_simp; try with_reducible rfl
        try simp only [Act.put, List.setIfInBounds_toArray, List.set_cons_zero, List.set_cons_succ]
        refine Go.Shr.wpAnyF_take 12 (oi := { dst := some 66, op := Go.Op.extract (Go.Operand.tmp 54) 1, type := 31, pos := "law.go:51", after := #[{ on := 10, ground := Go.Ground.data }, { on := 15, ground := Go.Ground.gcOnly Go.Departure.lateStores }], guard := none }) (v := ?g3rv41) rfl (by kernel_rfl) (fun _ _ _ h => h) (by assumption) (by rfl) ?g3ry41 ?g3rr41
        case g3ry41 => intro w hSw; skip; go_simp; try with_reducible rfl
        try simp only [Act.put, List.setIfInBounds_toArray, List.set_cons_zero, List.set_cons_succ]
        refine Go.Shr.wpAnyF_ready [13] (by kernel_rfl) (by simp) ?_
        refine Go.Shr.AllReadyF.cons 13 (o := { dst := some 17, op := Go.Op.alloc 28, type := 0, pos := "law.go:51", after := #[], guard := none }) rfl (fun K hK => ?g3ro42) ?g3rm42
        case g3rm42 => exact Go.Shr.AllReadyF.nil
        (try have hx13_r18 := r18.lt); (have hsz13 := HB.size); go_simp; refine gen_w (fun W hW => ?_); (have r17 := Rw.ren hW (Rw.fresh HB #[.int .i64 0, .int .i64 0, .int .i64 0, .int .i64 0] 28)); (try replace r18 := Rw.ren hW (Rw.alloc r18 _)); (try replace hsV2 := Go.Shr.Sl.ren hW (slb hsV2 (ba (b0 _) _))); (replace HB := Go.Shr.Below.ren hW (ba HB _)); clear hW
        refine hK.out _ _ ?g3rs42 (fun hHeld => ?g3rt42)
        case g3rs42 => trivial
        try dsimp only at hHeld
        clear hK K
        try simp only [Act.put, List.setIfInBounds_toArray, List.set_cons_zero, List.set_cons_succ]
        refine Go.Shr.wpAnyF_ready [15] (by kernel_rfl) (by simp) ?_
        refine Go.Shr.AllReadyF.cons 15 (o := { dst := none, op := Go.Op.store 28 (Go.Operand.tmp 17) (Go.Operand.tmp 65), type := 0, pos := "law.go:51", after := #[{ on := 13, ground := Go.Ground.data }, { on := 11, ground := Go.Ground.data }, { on := 9, ground := Go.Ground.chain }, { on := 0, ground := Go.Ground.phase }, { on := 1, ground := Go.Ground.phase }, { on := 2, ground := Go.Ground.phase }, { on := 3, ground := Go.Ground.phase }, { on := 4, ground := Go.Ground.phase }, { on := 5, ground := Go.Ground.phase }, { on := 6, ground := Go.Ground.phase }, { on := 7, ground := Go.Ground.phase }, { on := 8, ground := Go.Ground.phase }, { on := 9, ground := Go.Ground.phase }, { on := 10, ground := Go.Ground.phase }, { on := 11, ground := Go.Ground.phase }, { on := 12, ground := Go.Ground.textOnly Go.Departure.lateStores }, { on := 13, ground := Go.Ground.phase }, { on := 14, ground := Go.Ground.phase }], guard := none }) rfl (fun K hK => ?g3ro43) ?g3rm43
        case g3rm43 => exact Go.Shr.AllReadyF.nil
        have HV := (hsV2.apart r17 1 (fun h0 => (by obtain ⟨hv0, hv1⟩ := vls_get (filtB (r.drop m) (bs.drop m)) 0 (by have := hsV2.len; rw [vls_length] at this; omega); exact ⟨_, by simpa using hv1, by simp⟩))).apart r18 1 (fun h0 => (by obtain ⟨hv0, hv1⟩ := vls_get (filtB (r.drop m) (bs.drop m)) 0 (by have := hsV2.len; rw [vls_length] at this; omega); exact ⟨_, by simpa using hv1, by simp⟩)); have HC := Chg.two r17 r18; (have q15_0 := r17.cell 0); (have q15_1 := r17.cell 1); (have q15_2 := r17.cell 2); (have q15_3 := r17.cell 3); (have qf15 := r17.frozen); (have ql15 := r17.lt); (simp only [List.getElem?_toArray, List.getElem?_cons_zero, List.getElem?_cons_succ] at q15_0 q15_1 q15_2 q15_3); go_simp; refine gen_w (fun W hW => ?_); (try replace r18 := Rw.ren hW (r18.other4 (by omega))); (replace r17 := Rw.ren hW (r17.set4)); (try replace HC := Go.Shr.Chg.ren hW (cset4 HC (by simp))); (replace HB := Go.Shr.Below.ren hW (bset4 HB (by omega))); clear hW qf15 ql15 q15_0 q15_1 q15_2 q15_3
        refine hK.out _ _ ?g3rs43 (fun hHeld => ?g3rt43)
        case g3rs43 => trivial
        try dsimp only at hHeld
        clear hK K
        try simp only [Act.put, List.setIfInBounds_toArray, List.set_cons_zero, List.set_cons_succ]
        refine Go.Shr.wpAnyF_ready [16] (by kernel_rfl) (by simp) ?_
        refine Go.Shr.AllReadyF.last 16 (o := { dst := none, op := Go.Op.store 31 (Go.Operand.tmp 18) (Go.Operand.tmp 66), type := 0, pos := "law.go:51", after := #[{ on := 14, ground := Go.Ground.data }, { on := 12, ground := Go.Ground.data }, { on := 15, ground := Go.Ground.chain }, { on := 0, ground := Go.Ground.phase }, { on := 1, ground := Go.Ground.phase }, { on := 2, ground := Go.Ground.phase }, { on := 3, ground := Go.Ground.phase }, { on := 4, ground := Go.Ground.phase }, { on := 5, ground := Go.Ground.phase }, { on := 6, ground := Go.Ground.phase }, { on := 7, ground := Go.Ground.phase }, { on := 8, ground := Go.Ground.phase }, { on := 9, ground := Go.Ground.phase }, { on := 10, ground := Go.Ground.phase }, { on := 11, ground := Go.Ground.phase }, { on := 12, ground := Go.Ground.phase }, { on := 13, ground := Go.Ground.phase }, { on := 14, ground := Go.Ground.phase }, { on := 15, ground := Go.Ground.phase }], guard := none }) rfl (by kernel_rfl) (fun K hK => ?g3ro44) ?g3rm44
        case g3rm44 => exact Go.Shr.AllReadyF.nil
        (have q16_0 := r18.cell 0); (have q16_1 := r18.cell 1); (have q16_2 := r18.cell 2); (have qf16 := r18.frozen); (have ql16 := r18.lt); (simp only [List.getElem?_toArray, List.getElem?_cons_zero, List.getElem?_cons_succ] at q16_0 q16_1 q16_2); go_simp; refine gen_w (fun W hW => ?_); (try replace r17 := Rw.ren hW (r17.other3 (by omega))); (replace r18 := Rw.ren hW (r18.set3)); (try replace HC := Go.Shr.Chg.ren hW (cset3 HC (by simp))); (replace HB := Go.Shr.Below.ren hW (bset3 HB (by omega))); clear hW qf16 ql16 q16_0 q16_1 q16_2
        refine hK.out _ _ ?_
        clear hK K
        try simp only [Act.put, List.setIfInBounds_toArray, List.set_cons_zero, List.set_cons_succ]
        refine Go.Shr.wpAnyF_done (by kernel_rfl) ?_
        go_wp2_with fail
        go_meet
        case rel => exact ⟨_, _, _, _, _, _, _, _, _, _, rfl, rfl, Lib.hid r18, Lib.hid (HV.chg' HC (fun k hk => ⟨hk.1.1, fun h => h.elim hk.1.2 hk.2⟩)), HB⟩
      case g3rm38 =>
      refine Go.Shr.AllReadyF.cons 13 (o := { dst := some 17, op := Go.Op.alloc 28, type := 0, pos := "law.go:51", after := #[], guard := none }) rfl (fun K hK => ?g3ro45) ?g3rm45
      case g3ro45 =>
        (try have hx13_r18 := r18.lt); (have hsz13 := HB.size); go_simp; refine gen_w (fun W hW => ?_); (have r17 := Rw.ren hW (Rw.fresh HB #[.int .i64 0, .int .i64 0, .int .i64 0, .int .i64 0] 28)); (try replace r18 := Rw.ren hW (Rw.alloc r18 _)); (try replace hsV2 := Go.Shr.Sl.ren hW (slb hsV2 (ba (b0 _) _))); (replace HB := Go.Shr.Below.ren hW (ba HB _)); clear hW
        refine hK.out _ _ ?g3rs45 (fun hHeld => ?g3rt45)
        case g3rs45 => trivial
        try dsimp only at hHeld
        clear hK K
        try simp only [Act.put, List.setIfInBounds_toArray, List.set_cons_zero, List.set_cons_succ]
        refine Go.Shr.wpAnyF_ready [9] (by kernel_rfl) (by simp) ?_
        refine Go.Shr.AllReadyF.cons 9 (o := { dst := some 64, op := Go.Op.call { callee := Go.Callee.value (Go.Operand.func 11), args := #[Go.Operand.tmp 57, Go.Operand.tmp 63], argTypes := #[22, 23] }, type := 32, pos := "law.go:51", after := #[{ on := 2, ground := Go.Ground.data }, { on := 8, ground := Go.Ground.data }], guard := none }) rfl (fun K hK => ?g3ro46) ?g3rm46
        case g3rm46 => exact Go.Shr.AllReadyF.nil
        go_simp; refine (column_v aB (n - m) (cr - m) (r.drop m) aC (nb - q) (cb' - q) (bs.drop m) _ (slb HSB.out HB) (by omega) (slb HSC.out HB)).mono ?_; rintro e w9 ⟨aR2, nR2, cR2, aD2, cD2, aV2, nV2, cV2, rfl, hsD2, hsV2, hb9⟩; clear hsD2; dsimp only; refine gen_w (fun W hW => ?_); (try replace r17 := Rw.ren hW (Rw.below r17 hb9)); (try replace r18 := Rw.ren hW (Rw.below r18 hb9)); (replace hsV2 := Go.Shr.Sl.ren hW hsV2); (replace HB := Go.Shr.Below.ren hW (bt HB hb9)); clear hW hb9
        refine hK.out _ _ ?g3rs46 (fun hHeld => ?g3rt46)
        case g3rs46 => trivial
        try dsimp only at hHeld
        clear hK K
        try simp only [Act.put, List.setIfInBounds_toArray, List.set_cons_zero, List.set_cons_succ]
        refine Go.Shr.wpAnyF_take 10 (oi := { dst := some 54, op := Go.Op.move (Go.Operand.tmp 64), type := 32, pos := "law.go:51", after := #[{ on := 9, ground := Go.Ground.data }], guard := none }) (v := ?g3rv47) rfl (by kernel_rfl) (fun _ _ _ h => h) (by assumption) (by rfl) ?g3ry47 ?g3rr47
        case g3ry47 => intro w hSw; skip; go_simp; try with_reducible rfl
        try simp only [Act.put, List.setIfInBounds_toArray, List.set_cons_zero, List.set_cons_succ]
        refine Go.Shr.wpAnyF_take 11 (oi := { dst := some 65, op := Go.Op.extract (Go.Operand.tmp 54) 0, type := 28, pos := "law.go:51", after := #[{ on := 10, ground := Go.Ground.data }], guard := none }) (v := ?g3rv48) rfl (by kernel_rfl) (fun _ _ _ h => h) (by assumption) (by rfl) ?g3ry48 ?g3rr48
        case g3ry48 => intro w hSw; skip; go_simp; try with_reducible rfl
        try simp only [Act.put, List.setIfInBounds_toArray, List.set_cons_zero, List.set_cons_succ]
        refine Go.Shr.wpAnyF_take 12 (oi := { dst := some 66, op := Go.Op.extract (Go.Operand.tmp 54) 1, type := 31, pos := "law.go:51", after := #[{ on := 10, ground := Go.Ground.data }, { on := 15, ground := Go.Ground.gcOnly Go.Departure.lateStores }], guard := none }) (v := ?g3rv49) rfl (by kernel_rfl) (fun _ _ _ h => h) (by assumption) (by rfl) ?g3ry49 ?g3rr49
        case g3ry49 => intro w hSw; skip; go_simp; try with_reducible rfl
        try simp only [Act.put, List.setIfInBounds_toArray, List.set_cons_zero, List.set_cons_succ]
        refine Go.Shr.wpAnyF_ready [15] (by kernel_rfl) (by simp) ?_
        refine Go.Shr.AllReadyF.cons 15 (o := { dst := none, op := Go.Op.store 28 (Go.Operand.tmp 17) (Go.Operand.tmp 65), type := 0, pos := "law.go:51", after := #[{ on := 13, ground := Go.Ground.data }, { on := 11, ground := Go.Ground.data }, { on := 9, ground := Go.Ground.chain }, { on := 0, ground := Go.Ground.phase }, { on := 1, ground := Go.Ground.phase }, { on := 2, ground := Go.Ground.phase }, { on := 3, ground := Go.Ground.phase }, { on := 4, ground := Go.Ground.phase }, { on := 5, ground := Go.Ground.phase }, { on := 6, ground := Go.Ground.phase }, { on := 7, ground := Go.Ground.phase }, { on := 8, ground := Go.Ground.phase }, { on := 9, ground := Go.Ground.phase }, { on := 10, ground := Go.Ground.phase }, { on := 11, ground := Go.Ground.phase }, { on := 12, ground := Go.Ground.textOnly Go.Departure.lateStores }, { on := 13, ground := Go.Ground.phase }, { on := 14, ground := Go.Ground.phase }], guard := none }) rfl (fun K hK => ?g3ro50) ?g3rm50
        case g3rm50 => exact Go.Shr.AllReadyF.nil
        have HV := (hsV2.apart r17 1 (fun h0 => (by obtain ⟨hv0, hv1⟩ := vls_get (filtB (r.drop m) (bs.drop m)) 0 (by have := hsV2.len; rw [vls_length] at this; omega); exact ⟨_, by simpa using hv1, by simp⟩))).apart r18 1 (fun h0 => (by obtain ⟨hv0, hv1⟩ := vls_get (filtB (r.drop m) (bs.drop m)) 0 (by have := hsV2.len; rw [vls_length] at this; omega); exact ⟨_, by simpa using hv1, by simp⟩)); have HC := Chg.two r17 r18; (have q15_0 := r17.cell 0); (have q15_1 := r17.cell 1); (have q15_2 := r17.cell 2); (have q15_3 := r17.cell 3); (have qf15 := r17.frozen); (have ql15 := r17.lt); (simp only [List.getElem?_toArray, List.getElem?_cons_zero, List.getElem?_cons_succ] at q15_0 q15_1 q15_2 q15_3); go_simp; refine gen_w (fun W hW => ?_); (try replace r18 := Rw.ren hW (r18.other4 (by omega))); (replace r17 := Rw.ren hW (r17.set4)); (try replace HC := Go.Shr.Chg.ren hW (cset4 HC (by simp))); (replace HB := Go.Shr.Below.ren hW (bset4 HB (by omega))); clear hW qf15 ql15 q15_0 q15_1 q15_2 q15_3
        refine hK.out _ _ ?g3rs50 (fun hHeld => ?g3rt50)
        case g3rs50 => trivial
        try dsimp only at hHeld
        clear hK K
        try simp only [Act.put, List.setIfInBounds_toArray, List.set_cons_zero, List.set_cons_succ]
        refine Go.Shr.wpAnyF_ready [16] (by kernel_rfl) (by simp) ?_
        refine Go.Shr.AllReadyF.last 16 (o := { dst := none, op := Go.Op.store 31 (Go.Operand.tmp 18) (Go.Operand.tmp 66), type := 0, pos := "law.go:51", after := #[{ on := 14, ground := Go.Ground.data }, { on := 12, ground := Go.Ground.data }, { on := 15, ground := Go.Ground.chain }, { on := 0, ground := Go.Ground.phase }, { on := 1, ground := Go.Ground.phase }, { on := 2, ground := Go.Ground.phase }, { on := 3, ground := Go.Ground.phase }, { on := 4, ground := Go.Ground.phase }, { on := 5, ground := Go.Ground.phase }, { on := 6, ground := Go.Ground.phase }, { on := 7, ground := Go.Ground.phase }, { on := 8, ground := Go.Ground.phase }, { on := 9, ground := Go.Ground.phase }, { on := 10, ground := Go.Ground.phase }, { on := 11, ground := Go.Ground.phase }, { on := 12, ground := Go.Ground.phase }, { on := 13, ground := Go.Ground.phase }, { on := 14, ground := Go.Ground.phase }, { on := 15, ground := Go.Ground.phase }], guard := none }) rfl (by kernel_rfl) (fun K hK => ?g3ro51) ?g3rm51
        case g3rm51 => exact Go.Shr.AllReadyF.nil
        (have q16_0 := r18.cell 0); (have q16_1 := r18.cell 1); (have q16_2 := r18.cell 2); (have qf16 := r18.frozen); (have ql16 := r18.lt); (simp only [List.getElem?_toArray, List.getElem?_cons_zero, List.getElem?_cons_succ] at q16_0 q16_1 q16_2); go_simp; refine gen_w (fun W hW => ?_); (try replace r17 := Rw.ren hW (r17.other3 (by omega))); (replace r18 := Rw.ren hW (r18.set3)); (try replace HC := Go.Shr.Chg.ren hW (cset3 HC (by simp))); (replace HB := Go.Shr.Below.ren hW (bset3 HB (by omega))); clear hW qf16 ql16 q16_0 q16_1 q16_2
        refine hK.out _ _ ?_
        clear hK K
        try simp only [Act.put, List.setIfInBounds_toArray, List.set_cons_zero, List.set_cons_succ]
        refine Go.Shr.wpAnyF_done (by kernel_rfl) ?_
        go_wp2_with fail
        go_meet
        case rel => exact ⟨_, _, _, _, _, _, _, _, _, _, rfl, rfl, Lib.hid r18, Lib.hid (HV.chg' HC (fun k hk => ⟨hk.1.1, fun h => h.elim hk.1.2 hk.2⟩)), HB⟩
      case g3rm45 =>
      exact Go.Shr.AllReadyF.nil
    case g3rm37 =>
    exact Go.Shr.AllReadyF.nil
  case rest =>
    obtain ⟨b17, b18, aR2, aD2, aV2, nR2, cR2, cD2, nV2, cV2, rfl, rfl, R18, V2, hbc⟩ := hcut
    have hVl2 : (filtB (r.drop m) (bs.drop m)).length = nV2 := by have := V2.out.len; rw [vls_length] at this; omega
    have hnV2 : nV2 ≤ n - m := filtB_nlen hrl hVl2
    obtain ⟨x, hx⟩ : ∃ x, x = ofS k ((m : Int) - nV1) (filtB (r.take m) bs) := ⟨_, rfl⟩
    obtain ⟨y, hy⟩ : ∃ y, y = ofS k (((n - m : Nat) : Int) - nV2) (filtB (r.drop m) (bs.drop m)) := ⟨_, rfl⟩
    obtain ⟨hxy, hyx⟩ := of17_plain hmn hlen hVl hVl1 hVl2 (fun v hv => (G.out v hv).1) HSS.out hx hy
    have hxn := ofS_nn hx (by omega) (by omega)
    have hyn := ofS_nn hy (by omega) (by omega)
    have HX := Lib.hid (of_later k 0 0 1 aR1 aD1 aV1 nR1 cR1 m cD1 nV1 cV1 (filtB (r.take m) bs) wc (slb V1.out hbc) (by omega) (by omega) x hx)
    have HY := Lib.hid (of_later k 0 0 1 aR2 aD2 aV2 nR2 cR2 (n - m) cD2 nV2 cV2 (filtB (r.drop m) (bs.drop m)) wc V2.out (by omega) (by omega) y hy)
    have hcn : ((cntN 1 (lvB r bs) : Nat) : Int) = (n : Int) - nV := by
      have := filtB_count r bs
      unfold cntN; omega
    have HRO : Hid (∀ W, Below wb.heap.size wb W → Calls Try.prog 15 #[.agg #[.int .i64 0, .int .i64 0, .int .i64 1, .int .i64 k], .agg #[.slice aR nR cR, .slice aD n cD, .slice aV nV cV]] W fun e w' => e = .returned (.agg #[.int .i64 s.nulls, .bool s.has, .int .i64 s.mn.n, .string s.mn.s, .int .i64 s.mx.n, .string s.mx.s]) ∧ Below W.heap.size W w') := Lib.hid (fun W hb => by
      have := rof_v k 0 0 1 aR aD aV nR cR n cD nV cV (filtB r bs) (lvB r bs) W (slb V0.out hb) (slb D0.out hb) (by omega) (by omega) (fun v hv => by have := (G.out v (filtB_mem _ _ hv)).2; omega)
      rw [hcn, ← HSS.out] at this
      exact this)
    have HJ1 : Hid (∀ W, Calls Try.prog 13 #[.int .i64 k, .agg #[.int .i64 x.nulls, .bool x.has, .int .i64 x.mn.n, .string x.mn.s, .int .i64 x.mx.n, .string x.mx.s], .agg #[.int .i64 y.nulls, .bool y.has, .int .i64 y.mn.n, .string y.mn.s, .int .i64 y.mx.n, .string y.mx.s]] W fun e w' => e = .returned (.agg #[.int .i64 s.nulls, .bool s.has, .int .i64 s.mn.n, .string s.mn.s, .int .i64 s.mx.n, .string s.mx.s]) ∧ Below W.heap.size W w') := Lib.hid (fun W => by have := join_s k x y W (by omega) (by omega); rw [hxy] at this; exact this)
    have HJ2 : Hid (∀ W, Calls Try.prog 13 #[.int .i64 k, .agg #[.int .i64 y.nulls, .bool y.has, .int .i64 y.mn.n, .string y.mn.s, .int .i64 y.mx.n, .string y.mx.s], .agg #[.int .i64 x.nulls, .bool x.has, .int .i64 x.mn.n, .string x.mn.s, .int .i64 x.mx.n, .string x.mx.s]] W fun e w' => e = .returned (.agg #[.int .i64 s.nulls, .bool s.has, .int .i64 s.mn.n, .string s.mn.s, .int .i64 s.mx.n, .string s.mx.s]) ∧ Below W.heap.size W w') := Lib.hid (fun W => by have := join_s k y x W (by omega) (by omega); rw [hyx] at this; exact this)
    have HSA : Hid (∀ W, Calls Try.prog 14 #[.agg #[.int .i64 s.nulls, .bool s.has, .int .i64 s.mn.n, .string s.mn.s, .int .i64 s.mx.n, .string s.mx.s], .agg #[.int .i64 s.nulls, .bool s.has, .int .i64 s.mn.n, .string s.mn.s, .int .i64 s.mx.n, .string s.mx.s]] W fun e w' => e = .returned (.bool true) ∧ Below W.heap.size W w') := Lib.hid (fun W => by have := rsame_v s s W; rwa [sameS_refl] at this)
    have HSB2 : Hid (∀ W, Calls Try.prog 16 #[.agg #[.int .i64 s.nulls, .bool s.has, .int .i64 s.mn.n, .string s.mn.s, .int .i64 s.mx.n, .string s.mx.s], .agg #[.int .i64 s.nulls, .bool s.has, .int .i64 s.mn.n, .string s.mn.s, .int .i64 s.mx.n, .string s.mx.s]] W fun e w' => e = .returned (.bool true) ∧ Below W.heap.size W w') := Lib.hid (fun W => by have := same_v s s W; rwa [sameS_refl] at this)
    have HB := Lib.hid (bt HB10.out hbc)
    have R11 := Lib.hid (r11.below hbc); have R12 := Lib.hid (r12.below hbc); have R13 := Lib.hid (r13.below hbc); have R16 := Lib.hid (r16.below hbc)
    have HBC := Lib.hid hbc
    clear hxy hyx hx hy hcn hbc r11 r12 r13 r16 hl11 hl12 hl13 hl16 hrunB hrunC hqi V1 V2 HSS G
    go_upto_region 11 with fail
    go_cut [19, 20] from 52 to 53 (fun v19 v20 wd => ∃ (b19 b20 : Nat), v19 = .pointer (some ⟨b19, 0, none⟩) ∧ v20 = .pointer (some ⟨b20, 0, none⟩) ∧ Hid (Rw wd b19 #[.int .i64 x.nulls, .bool x.has, .int .i64 x.mn.n, .string x.mn.s, .int .i64 x.mx.n, .string x.mx.s] 37) ∧ Hid (Rw wd b20 #[.int .i64 y.nulls, .bool y.has, .int .i64 y.mn.n, .string y.mn.s, .int .i64 y.mx.n, .string y.mx.s] 37) ∧ Below wc.heap.size wc wd)
    case first =>
      have hBw0 : Below wc.heap.size wc wc.drew := (b0 wc).drew
      refine Go.Shr.wp_region_K [8, 9] [67, 68, 69, 70, 71, 72, 19, 20] (fun w' => Rw w' b11 #[.int .i64 0, .int .i64 0, .int .i64 1, .int .i64 k] 28 ∧ Rw w' b16 #[.slice aR1 nR1 cR1, .slice aD1 m cD1, .slice aV1 nV1 cV1] 31 ∧ Rw w' b18 #[.slice aR2 nR2 cR2, .slice aD2 (n - m) cD2, .slice aV2 nV2 cV2] 31) [?g4cJ0, ?g4cJ1, ?g4cJ2, ?g4cJ3, ?g4cJ4, ?g4cJ5, Go.undef, Go.undef, Go.undef, Go.undef] (fun _ => none) (fun i => match i with | 6 => some (#[.int .i64 0, .bool false, .int .i64 0, .string ByteArray.empty, .int .i64 0, .string ByteArray.empty], 37) | 7 => some (#[.int .i64 0, .bool false, .int .i64 0, .string ByteArray.empty, .int .i64 0, .string ByteArray.empty], 37) | _ => none) (by kernel_rfl) (by kernel_rfl) (by simp) ?g4kS ?g4kT ?g4kC ?g4kO ?g4kA ?g4kE
      case g4kS => first | trivial | ((try dsimp only); (exact ⟨R11.out, R16.out, R18.out⟩))
      case g4kT => intro w w' hb h; first | trivial | ((try dsimp only at h ⊢); (exact ⟨h.1.below hb, h.2.1.below hb, h.2.2.below hb⟩))
      case g4kC => intro i p hp; cases hp
      case g4kO =>
        refine (show Go.Shr.AllO 10 _ from (Go.Shr.AllO.succ (Go.Shr.AllO.succ (Go.Shr.AllO.succ (Go.Shr.AllO.succ (Go.Shr.AllO.succ (Go.Shr.AllO.succ (Go.Shr.AllO.succ (Go.Shr.AllO.succ (Go.Shr.AllO.succ (Go.Shr.AllO.succ Go.Shr.AllO.zero ?g4kO0) ?g4kO1) ?g4kO2) ?g4kO3) ?g4kO4) ?g4kO5) ?g4kO6) ?g4kO7) ?g4kO8) ?g4kO9))
        case g4kO0 =>
          intro _ _
          refine Go.Shr.ObJ.mk (o := { dst := some 67, op := Go.Op.load 28 (Go.Operand.tmp 11), type := 28, pos := "law.go:52", after := #[], guard := none }) rfl ?_
          intro t w hSw hBw hdep G hG; try dsimp only at hSw
          refine hG.out ?_
          clear hG
          generalize hfr : Go.Shr.frOf _ _ t = fr
          simp only [Go.Shr.frOf, List.foldl_cons, List.foldl_nil, Act.put, List.setIfInBounds_toArray, List.set_cons_zero, List.set_cons_succ] at hfr
          subst hfr
          refine Go.Shr.obq (C := Go.Shr.CK _ _ _ _) (i := 0) (v := ?g4cJ0) (by rfl) ?g4kY0 (Go.Shr.CK_intro rfl rfl rfl)
          case g4kY0 => (obtain ⟨g1, g2, g3⟩ := hSw); (have q0 := g1.cell 0); (have q1 := g1.cell 1); (have q2 := g1.cell 2); (have q3 := g1.cell 3); (have q4 := g2.cell 0); (have q5 := g2.cell 1); (have q6 := g2.cell 2); (have q7 := g3.cell 0); (have q8 := g3.cell 1); (have q9 := g3.cell 2); (simp only [List.getElem?_toArray, List.getElem?_cons_zero, List.getElem?_cons_succ] at q0 q1 q2 q3 q4 q5 q6 q7 q8 q9); go_simp; try with_reducible rfl
        case g4kO1 =>
          intro _ _
          refine Go.Shr.ObJ.mk (o := { dst := some 68, op := Go.Op.load 31 (Go.Operand.tmp 16), type := 31, pos := "law.go:52", after := #[], guard := none }) rfl ?_
          intro t w hSw hBw hdep G hG; try dsimp only at hSw
          refine hG.out ?_
          clear hG
          generalize hfr : Go.Shr.frOf _ _ t = fr
          simp only [Go.Shr.frOf, List.foldl_cons, List.foldl_nil, Act.put, List.setIfInBounds_toArray, List.set_cons_zero, List.set_cons_succ] at hfr
          subst hfr
          refine Go.Shr.obq (C := Go.Shr.CK _ _ _ _) (i := 1) (v := ?g4cJ1) (by rfl) ?g4kY1 (Go.Shr.CK_intro rfl rfl rfl)
          case g4kY1 => (obtain ⟨g1, g2, g3⟩ := hSw); (have q0 := g1.cell 0); (have q1 := g1.cell 1); (have q2 := g1.cell 2); (have q3 := g1.cell 3); (have q4 := g2.cell 0); (have q5 := g2.cell 1); (have q6 := g2.cell 2); (have q7 := g3.cell 0); (have q8 := g3.cell 1); (have q9 := g3.cell 2); (simp only [List.getElem?_toArray, List.getElem?_cons_zero, List.getElem?_cons_succ] at q0 q1 q2 q3 q4 q5 q6 q7 q8 q9); go_simp; try with_reducible rfl
        case g4kO2 =>
          intro _ _
          refine Go.Shr.ObJ.mk (o := { dst := some 69, op := Go.Op.call { callee := Go.Callee.value (Go.Operand.func 12), args := #[Go.Operand.tmp 67, Go.Operand.tmp 68], argTypes := #[28, 31] }, type := 37, pos := "law.go:52", after := #[{ on := 0, ground := Go.Ground.data }, { on := 1, ground := Go.Ground.data }], guard := none }) rfl ?_
          intro t w hSw hBw hdep G hG; try dsimp only at hSw
          have ht67 : t 67 = _ := Go.Shr.CK_const (v := t 67) (hdep 0 (by kernel_rfl)) rfl rfl rfl
          have ht68 : t 68 = _ := Go.Shr.CK_const (v := t 68) (hdep 1 (by kernel_rfl)) rfl rfl rfl
          refine hG.out ?_
          clear hG
          generalize hfr : Go.Shr.frOf _ _ t = fr
          simp only [Go.Shr.frOf, List.foldl_cons, List.foldl_nil, Act.put, List.setIfInBounds_toArray, List.set_cons_zero, List.set_cons_succ, ht67, ht68] at hfr
          subst hfr
          clear ht67
          clear ht68
          refine Go.Shr.obc (C := Go.Shr.CK _ _ _ _) (i := 2) (by rfl) (fun K hK => ?_)
          ((obtain ⟨g1, g2, g3⟩ := hSw); (have q0 := g1.cell 0); (have q1 := g1.cell 1); (have q2 := g1.cell 2); (have q3 := g1.cell 3); (have q4 := g2.cell 0); (have q5 := g2.cell 1); (have q6 := g2.cell 2); (have q7 := g3.cell 0); (have q8 := g3.cell 1); (have q9 := g3.cell 2); (simp only [List.getElem?_toArray, List.getElem?_cons_zero, List.getElem?_cons_succ] at q0 q1 q2 q3 q4 q5 q6 q7 q8 q9)); go_simp; refine (HX.out _ (HBd hBw0 hBw)).mono ?_; rintro e w2 ⟨rfl, hb2⟩; dsimp only
          refine hK.out _ _ hb2 (Go.Shr.CK_intro rfl rfl ?g4kY2)
          case g4kY2 => simp only [List.getElem?_cons_succ, List.getElem?_cons_zero]; with_reducible rfl
        case g4kO3 =>
          intro _ _
          refine Go.Shr.ObJ.mk (o := { dst := some 70, op := Go.Op.load 28 (Go.Operand.tmp 11), type := 28, pos := "law.go:52", after := #[], guard := none }) rfl ?_
          intro t w hSw hBw hdep G hG; try dsimp only at hSw
          refine hG.out ?_
          clear hG
          generalize hfr : Go.Shr.frOf _ _ t = fr
          simp only [Go.Shr.frOf, List.foldl_cons, List.foldl_nil, Act.put, List.setIfInBounds_toArray, List.set_cons_zero, List.set_cons_succ] at hfr
          subst hfr
          refine Go.Shr.obq (C := Go.Shr.CK _ _ _ _) (i := 3) (v := ?g4cJ3) (by rfl) ?g4kY3 (Go.Shr.CK_intro rfl rfl rfl)
          case g4kY3 => (obtain ⟨g1, g2, g3⟩ := hSw); (have q0 := g1.cell 0); (have q1 := g1.cell 1); (have q2 := g1.cell 2); (have q3 := g1.cell 3); (have q4 := g2.cell 0); (have q5 := g2.cell 1); (have q6 := g2.cell 2); (have q7 := g3.cell 0); (have q8 := g3.cell 1); (have q9 := g3.cell 2); (simp only [List.getElem?_toArray, List.getElem?_cons_zero, List.getElem?_cons_succ] at q0 q1 q2 q3 q4 q5 q6 q7 q8 q9); go_simp; try with_reducible rfl
        case g4kO4 =>
          intro _ _
          refine Go.Shr.ObJ.mk (o := { dst := some 71, op := Go.Op.load 31 (Go.Operand.tmp 18), type := 31, pos := "law.go:52", after := #[], guard := none }) rfl ?_
          intro t w hSw hBw hdep G hG; try dsimp only at hSw
          refine hG.out ?_
          clear hG
          generalize hfr : Go.Shr.frOf _ _ t = fr
          simp only [Go.Shr.frOf, List.foldl_cons, List.foldl_nil, Act.put, List.setIfInBounds_toArray, List.set_cons_zero, List.set_cons_succ] at hfr
          subst hfr
          refine Go.Shr.obq (C := Go.Shr.CK _ _ _ _) (i := 4) (v := ?g4cJ4) (by rfl) ?g4kY4 (Go.Shr.CK_intro rfl rfl rfl)
          case g4kY4 => (obtain ⟨g1, g2, g3⟩ := hSw); (have q0 := g1.cell 0); (have q1 := g1.cell 1); (have q2 := g1.cell 2); (have q3 := g1.cell 3); (have q4 := g2.cell 0); (have q5 := g2.cell 1); (have q6 := g2.cell 2); (have q7 := g3.cell 0); (have q8 := g3.cell 1); (have q9 := g3.cell 2); (simp only [List.getElem?_toArray, List.getElem?_cons_zero, List.getElem?_cons_succ] at q0 q1 q2 q3 q4 q5 q6 q7 q8 q9); go_simp; try with_reducible rfl
        case g4kO5 =>
          intro _ _
          refine Go.Shr.ObJ.mk (o := { dst := some 72, op := Go.Op.call { callee := Go.Callee.value (Go.Operand.func 12), args := #[Go.Operand.tmp 70, Go.Operand.tmp 71], argTypes := #[28, 31] }, type := 37, pos := "law.go:52", after := #[{ on := 3, ground := Go.Ground.data }, { on := 4, ground := Go.Ground.data }, { on := 2, ground := Go.Ground.chain }], guard := none }) rfl ?_
          intro t w hSw hBw hdep G hG; try dsimp only at hSw
          have ht70 : t 70 = _ := Go.Shr.CK_const (v := t 70) (hdep 3 (by kernel_rfl)) rfl rfl rfl
          have ht71 : t 71 = _ := Go.Shr.CK_const (v := t 71) (hdep 4 (by kernel_rfl)) rfl rfl rfl
          refine hG.out ?_
          clear hG
          generalize hfr : Go.Shr.frOf _ _ t = fr
          simp only [Go.Shr.frOf, List.foldl_cons, List.foldl_nil, Act.put, List.setIfInBounds_toArray, List.set_cons_zero, List.set_cons_succ, ht70, ht71] at hfr
          subst hfr
          clear ht70
          clear ht71
          refine Go.Shr.obc (C := Go.Shr.CK _ _ _ _) (i := 5) (by rfl) (fun K hK => ?_)
          ((obtain ⟨g1, g2, g3⟩ := hSw); (have q0 := g1.cell 0); (have q1 := g1.cell 1); (have q2 := g1.cell 2); (have q3 := g1.cell 3); (have q4 := g2.cell 0); (have q5 := g2.cell 1); (have q6 := g2.cell 2); (have q7 := g3.cell 0); (have q8 := g3.cell 1); (have q9 := g3.cell 2); (simp only [List.getElem?_toArray, List.getElem?_cons_zero, List.getElem?_cons_succ] at q0 q1 q2 q3 q4 q5 q6 q7 q8 q9)); go_simp; refine (HY.out _ (HBd hBw0 hBw)).mono ?_; rintro e w5 ⟨rfl, hb5⟩; dsimp only
          refine hK.out _ _ hb5 (Go.Shr.CK_intro rfl rfl ?g4kY5)
          case g4kY5 => simp only [List.getElem?_cons_succ, List.getElem?_cons_zero]; with_reducible rfl
        case g4kO6 => exact fun _ h => absurd h (by simp)
        case g4kO7 => exact fun _ h => absurd h (by simp)
        case g4kO8 => exact fun h => absurd h (by decide)
        case g4kO9 => exact fun h => absurd h (by decide)
      case g4kA =>
        refine (show Go.Shr.AllO 10 _ from (Go.Shr.AllO.succ (Go.Shr.AllO.succ (Go.Shr.AllO.succ (Go.Shr.AllO.succ (Go.Shr.AllO.succ (Go.Shr.AllO.succ (Go.Shr.AllO.succ (Go.Shr.AllO.succ (Go.Shr.AllO.succ (Go.Shr.AllO.succ Go.Shr.AllO.zero ?g4kA0) ?g4kA1) ?g4kA2) ?g4kA3) ?g4kA4) ?g4kA5) ?g4kA6) ?g4kA7) ?g4kA8) ?g4kA9))
        case g4kA0 => intro z hz; cases hz
        case g4kA1 => intro z hz; cases hz
        case g4kA2 => intro z hz; cases hz
        case g4kA3 => intro z hz; cases hz
        case g4kA4 => intro z hz; cases hz
        case g4kA5 => intro z hz; cases hz
        case g4kA6 => intro z hz; cases hz; refine Go.Shr.obal (o := { dst := some 19, op := Go.Op.alloc 37, type := 0, pos := "law.go:52", after := #[], guard := none }) rfl rfl ?_; intro K a w hK; go_simp; exact hK
        case g4kA7 => intro z hz; cases hz; refine Go.Shr.obal (o := { dst := some 20, op := Go.Op.alloc 37, type := 0, pos := "law.go:52", after := #[], guard := none }) rfl rfl ?_; intro K a w hK; go_simp; exact hK
        case g4kA8 => intro z hz; cases hz
        case g4kA9 => intro z hz; cases hz
      case g4kE =>
        intro a w hJ G hG
        obtain ⟨t, rfl, hSw, HJB, hcJ, hdJ⟩ := hJ.open
        try dsimp only at hSw
        have ht67 : t 67 = _ := Go.Shr.CK_const (v := t 67) (hcJ 0 (by decide) (by decide)) rfl rfl rfl
        have ht68 : t 68 = _ := Go.Shr.CK_const (v := t 68) (hcJ 1 (by decide) (by decide)) rfl rfl rfl
        have ht69 : t 69 = _ := Go.Shr.CK_const (v := t 69) (hcJ 2 (by decide) (by decide)) rfl rfl rfl
        have ht70 : t 70 = _ := Go.Shr.CK_const (v := t 70) (hcJ 3 (by decide) (by decide)) rfl rfl rfl
        have ht71 : t 71 = _ := Go.Shr.CK_const (v := t 71) (hcJ 4 (by decide) (by decide)) rfl rfl rfl
        have ht72 : t 72 = _ := Go.Shr.CK_const (v := t 72) (hcJ 5 (by decide) (by decide)) rfl rfl rfl
        obtain ⟨b19, he19, hg19, r19⟩ := Go.Shr.CK_new (v := t 19) (hcJ 6 (by decide) (by decide)) rfl
        obtain ⟨b20, he20, hg20, r20⟩ := Go.Shr.CK_new (v := t 20) (hcJ 7 (by decide) (by decide)) rfl
        have hn19_20 : b19 ≠ b20 := fun h => hdJ 6 7 (by simp) (by simp) (by decide) (by decide) (by decide) (by decide) (by decide) (by show t 19 = t 20; rw [he19, he20, h])
        clear hcJ hdJ
        refine hG.out ?_
        clear hG G
        refine Go.Shr.wpAny_of_F (S := fun _ => True) (F := [8, 9]) _ _ _ _ ?_
        simp only [Go.Shr.frOf, List.foldl_cons, List.foldl_nil, Act.put, List.setIfInBounds_toArray, List.set_cons_zero, List.set_cons_succ, ht67, ht68, ht69, ht70, ht71, ht72, he19, he20]
        clear ht67 ht68 ht69 ht70 ht71 ht72 he19 he20
        have HB := HBd hBw0 HJB
        refine (show Go.Shr.wpAnyF _ _ _ _ _ _ 2 (Go.Shr.listF 10 [8, 9]) _ _ from ?_)
        have hHeld : True := trivial
        refine Go.Shr.wpAnyF_ready [8] (by kernel_rfl) (by simp) ?_
        refine Go.Shr.AllReadyF.last 8 (o := { dst := none, op := Go.Op.store 37 (Go.Operand.tmp 19) (Go.Operand.tmp 69), type := 0, pos := "law.go:52", after := #[{ on := 6, ground := Go.Ground.data }, { on := 2, ground := Go.Ground.data }, { on := 5, ground := Go.Ground.chain }, { on := 0, ground := Go.Ground.phase }, { on := 1, ground := Go.Ground.phase }, { on := 2, ground := Go.Ground.phase }, { on := 3, ground := Go.Ground.textOnly Go.Departure.lateStores }, { on := 4, ground := Go.Ground.textOnly Go.Departure.lateStores }, { on := 5, ground := Go.Ground.textOnly Go.Departure.lateStoresUnsure }, { on := 6, ground := Go.Ground.phase }, { on := 7, ground := Go.Ground.phase }], guard := none }) rfl (by kernel_rfl) (fun K hK => ?g4ro8) ?g4rm8
        case g4rm8 => exact Go.Shr.AllReadyF.nil
        (have q8_0 := r19.cell 0); (have q8_1 := r19.cell 1); (have q8_2 := r19.cell 2); (have q8_3 := r19.cell 3); (have q8_4 := r19.cell 4); (have q8_5 := r19.cell 5); (have qf8 := r19.frozen); (have ql8 := r19.lt); (simp only [List.getElem?_toArray, List.getElem?_cons_zero, List.getElem?_cons_succ] at q8_0 q8_1 q8_2 q8_3 q8_4 q8_5); go_simp; refine gen_w (fun W hW => ?_); (try replace r20 := Rw.ren hW (r20.other6 (by omega))); (replace r19 := Rw.ren hW (r19.set6)); (try replace HC := Go.Shr.Chg.ren hW (cset6 HC (by simp))); (replace HB := Go.Shr.Below.ren hW (bset6 HB (by omega))); clear hW qf8 ql8 q8_0 q8_1 q8_2 q8_3 q8_4 q8_5
        refine hK.out _ _ ?_
        clear hK K
        try simp only [Act.put, List.setIfInBounds_toArray, List.set_cons_zero, List.set_cons_succ]
        refine Go.Shr.wpAnyF_ready [9] (by kernel_rfl) (by simp) ?_
        refine Go.Shr.AllReadyF.last 9 (o := { dst := none, op := Go.Op.store 37 (Go.Operand.tmp 20) (Go.Operand.tmp 72), type := 0, pos := "law.go:52", after := #[{ on := 7, ground := Go.Ground.data }, { on := 5, ground := Go.Ground.data }, { on := 8, ground := Go.Ground.chain }, { on := 0, ground := Go.Ground.phase }, { on := 1, ground := Go.Ground.phase }, { on := 2, ground := Go.Ground.phase }, { on := 3, ground := Go.Ground.phase }, { on := 4, ground := Go.Ground.phase }, { on := 5, ground := Go.Ground.phase }, { on := 6, ground := Go.Ground.phase }, { on := 7, ground := Go.Ground.phase }, { on := 8, ground := Go.Ground.phase }], guard := none }) rfl (by kernel_rfl) (fun K hK => ?g4ro9) ?g4rm9
        case g4rm9 => exact Go.Shr.AllReadyF.nil
        (have q9_0 := r20.cell 0); (have q9_1 := r20.cell 1); (have q9_2 := r20.cell 2); (have q9_3 := r20.cell 3); (have q9_4 := r20.cell 4); (have q9_5 := r20.cell 5); (have qf9 := r20.frozen); (have ql9 := r20.lt); (simp only [List.getElem?_toArray, List.getElem?_cons_zero, List.getElem?_cons_succ] at q9_0 q9_1 q9_2 q9_3 q9_4 q9_5); go_simp; refine gen_w (fun W hW => ?_); (try replace r19 := Rw.ren hW (r19.other6 (by omega))); (replace r20 := Rw.ren hW (r20.set6)); (try replace HC := Go.Shr.Chg.ren hW (cset6 HC (by simp))); (replace HB := Go.Shr.Below.ren hW (bset6 HB (by omega))); clear hW qf9 ql9 q9_0 q9_1 q9_2 q9_3 q9_4 q9_5
        refine hK.out _ _ ?_
        clear hK K
        try simp only [Act.put, List.setIfInBounds_toArray, List.set_cons_zero, List.set_cons_succ]
        refine Go.Shr.wpAnyF_done (by kernel_rfl) ?_
        go_wp2_with fail
        go_meet
        case rel => exact ⟨_, _, rfl, rfl, Lib.hid r19, Lib.hid r20, HB⟩
    case rest =>
      obtain ⟨b19, b20, rfl, rfl, R19, R20, hbd⟩ := hcut
      have HBD := Lib.hid hbd
      have HB2 := Lib.hid (bt HB.out hbd)
      have HBC2 := Lib.hid (bt HBC.out hbd)
      replace R11 := Lib.hid (R11.out.below hbd); replace R12 := Lib.hid (R12.out.below hbd); replace R13 := Lib.hid (R13.out.below hbd)
      have d0 := R19.out.cell 0; have d1 := R19.out.cell 1; have d2 := R19.out.cell 2; have d3 := R19.out.cell 3; have d4 := R19.out.cell 4; have d5 := R19.out.cell 5
      have e0 := R20.out.cell 0; have e1 := R20.out.cell 1; have e2 := R20.out.cell 2; have e3 := R20.out.cell 3; have e4 := R20.out.cell 4; have e5 := R20.out.cell 5
      simp only [List.getElem?_toArray, List.getElem?_cons_zero, List.getElem?_cons_succ] at d0 d1 d2 d3 d4 d5 e0 e1 e2 e3 e4 e5
      clear hbd HB HBC HX HY
      go_wp2_with fail
      refine (HJ1.out _).mono ?_
      rintro e w12 ⟨rfl, hb12⟩
      have HB3 := Lib.hid (bt HB2.out hb12)
      have HBC3 := Lib.hid (bt HBC2.out hb12)
      replace R11 := Lib.hid (R11.out.below hb12); replace R12 := Lib.hid (R12.out.below hb12); replace R13 := Lib.hid (R13.out.below hb12); replace R19 := Lib.hid (R19.out.below hb12); replace R20 := Lib.hid (R20.out.below hb12)
      clear hb12 d0 d1 d2 d3 d4 d5 e0 e1 e2 e3 e4 e5
      go_upto_region 13 with fail
      obtain ⟨we, hwe⟩ : ∃ we, we = w12.alloc (.cells #[.int .i64 s.nulls, .bool s.has, .int .i64 s.mn.n, .string s.mn.s, .int .i64 s.mx.n, .string s.mx.s] 37) := ⟨_, rfl⟩
      have hbe : Below w12.heap.size w12 we := Go.Shr.Below.ren hwe (ba (b0 w12) _)
      have HBe := Lib.hid (bt HB3.out hbe)
      have HBCe := Lib.hid (bt HBC3.out hbe)
      replace R11 := Lib.hid (R11.out.below hbe)
      replace R12 := Lib.hid (R12.out.below hbe)
      replace R13 := Lib.hid (R13.out.below hbe)
      replace R19 := Lib.hid (R19.out.below hbe)
      replace R20 := Lib.hid (R20.out.below hbe)
      have R21 := Lib.hid (Rw.ren hwe (Rw.new w12 #[.int .i64 s.nulls, .bool s.has, .int .i64 s.mn.n, .string s.mn.s, .int .i64 s.mx.n, .string s.mx.s] 37))
      rw [← hwe]
      clear hbe hwe HB3 HBC3 HB2 HBC2 HBD
      generalize w12.heap.size = b21 at *
      refine Go.Shr.wp_region_F (fun w' => Rw w' b11 #[.int .i64 0, .int .i64 0, .int .i64 1, .int .i64 k] 28 ∧ Rw w' b12 #[.slice aR nR cR, .slice aD n cD, .slice aV nV cV] 31 ∧ Rw w' b13 #[.int .i64 s.nulls, .bool s.has, .int .i64 s.mn.n, .string s.mn.s, .int .i64 s.mx.n, .string s.mx.s] 37 ∧ Rw w' b19 #[.int .i64 x.nulls, .bool x.has, .int .i64 x.mn.n, .string x.mn.s, .int .i64 x.mx.n, .string x.mx.s] 37 ∧ Rw w' b20 #[.int .i64 y.nulls, .bool y.has, .int .i64 y.mn.n, .string y.mn.s, .int .i64 y.mx.n, .string y.mx.s] 37 ∧ Rw w' b21 #[.int .i64 s.nulls, .bool s.has, .int .i64 s.mn.n, .string s.mn.s, .int .i64 s.mx.n, .string s.mx.s] 37) [] (by kernel_rfl) ?g5rgS (fun hHeld => ?g5rgR)
      case g5rgS => (try dsimp only); (first | exact ⟨R11.out.drew, R12.out.drew, R13.out.drew, R19.out.drew, R20.out.drew, R21.out.drew⟩ | exact ⟨hHeld.1.below hb3, hHeld.2.1.below hb3, hHeld.2.2.1.below hb3, hHeld.2.2.2.1.below hb3, hHeld.2.2.2.2.1.below hb3, hHeld.2.2.2.2.2.below hb3⟩ | exact ⟨hHeld.1.below hb4, hHeld.2.1.below hb4, hHeld.2.2.1.below hb4, hHeld.2.2.2.1.below hb4, hHeld.2.2.2.2.1.below hb4, hHeld.2.2.2.2.2.below hb4⟩ | exact ⟨hHeld.1.below hb8, hHeld.2.1.below hb8, hHeld.2.2.1.below hb8, hHeld.2.2.2.1.below hb8, hHeld.2.2.2.2.1.below hb8, hHeld.2.2.2.2.2.below hb8⟩ | exact ⟨hHeld.1.below hb14, hHeld.2.1.below hb14, hHeld.2.2.1.below hb14, hHeld.2.2.2.1.below hb14, hHeld.2.2.2.2.1.below hb14, hHeld.2.2.2.2.2.below hb14⟩ | exact ⟨hHeld.1.below hb16, hHeld.2.1.below hb16, hHeld.2.2.1.below hb16, hHeld.2.2.2.1.below hb16, hHeld.2.2.2.2.1.below hb16, hHeld.2.2.2.2.2.below hb16⟩ | exact ⟨hHeld.1.below hb21, hHeld.2.1.below hb21, hHeld.2.2.1.below hb21, hHeld.2.2.2.1.below hb21, hHeld.2.2.2.2.1.below hb21, hHeld.2.2.2.2.2.below hb21⟩)
      try dsimp only at hHeld
      refine Go.Shr.wpAnyF_take 0 (oi := { dst := some 77, op := Go.Op.load 37 (Go.Operand.tmp 13), type := 37, pos := "law.go:54", after := #[], guard := none }) (v := ?g5rv1) rfl (by kernel_rfl) (fun _ _ _ h => h) (by assumption) (by rfl) ?g5ry1 ?g5rr1
      case g5ry1 => intro w hSw; (rename_i w2; obtain ⟨g1, g2, g3, g4, g5, g6⟩ := hSw); (have q0 := g1.cell 0); (have q1 := g1.cell 1); (have q2 := g1.cell 2); (have q3 := g1.cell 3); (have q4 := g2.cell 0); (have q5 := g2.cell 1); (have q6 := g2.cell 2); (have p0 := g3.cell 0); (have p1 := g3.cell 1); (have p2 := g3.cell 2); (have p3 := g3.cell 3); (have p4 := g3.cell 4); (have p5 := g3.cell 5); (have o0 := g4.cell 0); (have o1 := g4.cell 1); (have o2 := g4.cell 2); (have o3 := g4.cell 3); (have o4 := g4.cell 4); (have o5 := g4.cell 5); (have n0 := g5.cell 0); (have n1 := g5.cell 1); (have n2 := g5.cell 2); (have n3 := g5.cell 3); (have n4 := g5.cell 4); (have n5 := g5.cell 5); (have l0 := g6.cell 0); (have l1 := g6.cell 1); (have l2 := g6.cell 2); (have l3 := g6.cell 3); (have l4 := g6.cell 4); (have l5 := g6.cell 5); (simp only [List.getElem?_toArray, List.getElem?_cons_zero, List.getElem?_cons_succ] at q0 q1 q2 q3 q4 q5 q6 p0 p1 p2 p3 p4 p5 o0 o1 o2 o3 o4 o5 n0 n1 n2 n3 n4 n5 l0 l1 l2 l3 l4 l5); go_simp; try with_reducible rfl
      try simp only [Act.put, List.setIfInBounds_toArray, List.set_cons_zero, List.set_cons_succ]
      refine Go.Shr.wpAnyF_take 1 (oi := { dst := some 78, op := Go.Op.load 28 (Go.Operand.tmp 11), type := 28, pos := "law.go:54", after := #[], guard := none }) (v := ?g5rv2) rfl (by kernel_rfl) (fun _ _ _ h => h) (by assumption) (by rfl) ?g5ry2 ?g5rr2
      case g5ry2 => intro w hSw; (rename_i w2; obtain ⟨g1, g2, g3, g4, g5, g6⟩ := hSw); (have q0 := g1.cell 0); (have q1 := g1.cell 1); (have q2 := g1.cell 2); (have q3 := g1.cell 3); (have q4 := g2.cell 0); (have q5 := g2.cell 1); (have q6 := g2.cell 2); (have p0 := g3.cell 0); (have p1 := g3.cell 1); (have p2 := g3.cell 2); (have p3 := g3.cell 3); (have p4 := g3.cell 4); (have p5 := g3.cell 5); (have o0 := g4.cell 0); (have o1 := g4.cell 1); (have o2 := g4.cell 2); (have o3 := g4.cell 3); (have o4 := g4.cell 4); (have o5 := g4.cell 5); (have n0 := g5.cell 0); (have n1 := g5.cell 1); (have n2 := g5.cell 2); (have n3 := g5.cell 3); (have n4 := g5.cell 4); (have n5 := g5.cell 5); (have l0 := g6.cell 0); (have l1 := g6.cell 1); (have l2 := g6.cell 2); (have l3 := g6.cell 3); (have l4 := g6.cell 4); (have l5 := g6.cell 5); (simp only [List.getElem?_toArray, List.getElem?_cons_zero, List.getElem?_cons_succ] at q0 q1 q2 q3 q4 q5 q6 p0 p1 p2 p3 p4 p5 o0 o1 o2 o3 o4 o5 n0 n1 n2 n3 n4 n5 l0 l1 l2 l3 l4 l5); go_simp; try with_reducible rfl
      try simp only [Act.put, List.setIfInBounds_toArray, List.set_cons_zero, List.set_cons_succ]
      refine Go.Shr.wpAnyF_take 2 (oi := { dst := some 79, op := Go.Op.load 31 (Go.Operand.tmp 12), type := 31, pos := "law.go:54", after := #[], guard := none }) (v := ?g5rv3) rfl (by kernel_rfl) (fun _ _ _ h => h) (by assumption) (by rfl) ?g5ry3 ?g5rr3
      case g5ry3 => intro w hSw; (rename_i w2; obtain ⟨g1, g2, g3, g4, g5, g6⟩ := hSw); (have q0 := g1.cell 0); (have q1 := g1.cell 1); (have q2 := g1.cell 2); (have q3 := g1.cell 3); (have q4 := g2.cell 0); (have q5 := g2.cell 1); (have q6 := g2.cell 2); (have p0 := g3.cell 0); (have p1 := g3.cell 1); (have p2 := g3.cell 2); (have p3 := g3.cell 3); (have p4 := g3.cell 4); (have p5 := g3.cell 5); (have o0 := g4.cell 0); (have o1 := g4.cell 1); (have o2 := g4.cell 2); (have o3 := g4.cell 3); (have o4 := g4.cell 4); (have o5 := g4.cell 5); (have n0 := g5.cell 0); (have n1 := g5.cell 1); (have n2 := g5.cell 2); (have n3 := g5.cell 3); (have n4 := g5.cell 4); (have n5 := g5.cell 5); (have l0 := g6.cell 0); (have l1 := g6.cell 1); (have l2 := g6.cell 2); (have l3 := g6.cell 3); (have l4 := g6.cell 4); (have l5 := g6.cell 5); (simp only [List.getElem?_toArray, List.getElem?_cons_zero, List.getElem?_cons_succ] at q0 q1 q2 q3 q4 q5 q6 p0 p1 p2 p3 p4 p5 o0 o1 o2 o3 o4 o5 n0 n1 n2 n3 n4 n5 l0 l1 l2 l3 l4 l5); go_simp; try with_reducible rfl
      try simp only [Act.put, List.setIfInBounds_toArray, List.set_cons_zero, List.set_cons_succ]
      refine Go.Shr.wpAnyF_ready [3] (by kernel_rfl) (by simp) ?_
      refine Go.Shr.AllReadyF.cons 3 (o := { dst := some 80, op := Go.Op.call { callee := Go.Callee.value (Go.Operand.func 15), args := #[Go.Operand.tmp 78, Go.Operand.tmp 79], argTypes := #[28, 31] }, type := 37, pos := "law.go:54", after := #[{ on := 1, ground := Go.Ground.data }, { on := 2, ground := Go.Ground.data }], guard := none }) rfl (fun K hK => ?g5ro4) ?g5rm4
      case g5rm4 => exact Go.Shr.AllReadyF.nil
      go_simp; refine (HRO.out _ (HBCe.out.drew)).mono ?_; rintro e w3 ⟨rfl, hb3⟩; dsimp only
      refine hK.out _ _ ?g5rs4 (fun hHeld => ?g5rt4)
      case g5rs4 => (try dsimp only); (first | exact ⟨R11.out.drew, R12.out.drew, R13.out.drew, R19.out.drew, R20.out.drew, R21.out.drew⟩ | exact ⟨hHeld.1.below hb3, hHeld.2.1.below hb3, hHeld.2.2.1.below hb3, hHeld.2.2.2.1.below hb3, hHeld.2.2.2.2.1.below hb3, hHeld.2.2.2.2.2.below hb3⟩ | exact ⟨hHeld.1.below hb4, hHeld.2.1.below hb4, hHeld.2.2.1.below hb4, hHeld.2.2.2.1.below hb4, hHeld.2.2.2.2.1.below hb4, hHeld.2.2.2.2.2.below hb4⟩ | exact ⟨hHeld.1.below hb8, hHeld.2.1.below hb8, hHeld.2.2.1.below hb8, hHeld.2.2.2.1.below hb8, hHeld.2.2.2.2.1.below hb8, hHeld.2.2.2.2.2.below hb8⟩ | exact ⟨hHeld.1.below hb14, hHeld.2.1.below hb14, hHeld.2.2.1.below hb14, hHeld.2.2.2.1.below hb14, hHeld.2.2.2.2.1.below hb14, hHeld.2.2.2.2.2.below hb14⟩ | exact ⟨hHeld.1.below hb16, hHeld.2.1.below hb16, hHeld.2.2.1.below hb16, hHeld.2.2.2.1.below hb16, hHeld.2.2.2.2.1.below hb16, hHeld.2.2.2.2.2.below hb16⟩ | exact ⟨hHeld.1.below hb21, hHeld.2.1.below hb21, hHeld.2.2.1.below hb21, hHeld.2.2.2.1.below hb21, hHeld.2.2.2.2.1.below hb21, hHeld.2.2.2.2.2.below hb21⟩)
      try dsimp only at hHeld
      clear hK K
      try simp only [Act.put, List.setIfInBounds_toArray, List.set_cons_zero, List.set_cons_succ]
      refine Go.Shr.wpAnyF_ready [4] (by kernel_rfl) (by simp) ?_
      refine Go.Shr.AllReadyF.cons 4 (o := { dst := some 81, op := Go.Op.call { callee := Go.Callee.value (Go.Operand.func 14), args := #[Go.Operand.tmp 77, Go.Operand.tmp 80], argTypes := #[37, 37] }, type := 4, pos := "law.go:54", after := #[{ on := 0, ground := Go.Ground.data }, { on := 3, ground := Go.Ground.data }, { on := 3, ground := Go.Ground.chain }], guard := none }) rfl (fun K hK => ?g5ro5) ?g5rm5
      case g5rm5 => exact Go.Shr.AllReadyF.nil
      go_simp; refine (HSA.out _).mono ?_; rintro e w4 ⟨rfl, hb4⟩; dsimp only
      refine hK.out _ _ ?g5rs5 (fun hHeld => ?g5rt5)
      case g5rs5 => (try dsimp only); (first | exact ⟨R11.out.drew, R12.out.drew, R13.out.drew, R19.out.drew, R20.out.drew, R21.out.drew⟩ | exact ⟨hHeld.1.below hb3, hHeld.2.1.below hb3, hHeld.2.2.1.below hb3, hHeld.2.2.2.1.below hb3, hHeld.2.2.2.2.1.below hb3, hHeld.2.2.2.2.2.below hb3⟩ | exact ⟨hHeld.1.below hb4, hHeld.2.1.below hb4, hHeld.2.2.1.below hb4, hHeld.2.2.2.1.below hb4, hHeld.2.2.2.2.1.below hb4, hHeld.2.2.2.2.2.below hb4⟩ | exact ⟨hHeld.1.below hb8, hHeld.2.1.below hb8, hHeld.2.2.1.below hb8, hHeld.2.2.2.1.below hb8, hHeld.2.2.2.2.1.below hb8, hHeld.2.2.2.2.2.below hb8⟩ | exact ⟨hHeld.1.below hb14, hHeld.2.1.below hb14, hHeld.2.2.1.below hb14, hHeld.2.2.2.1.below hb14, hHeld.2.2.2.2.1.below hb14, hHeld.2.2.2.2.2.below hb14⟩ | exact ⟨hHeld.1.below hb16, hHeld.2.1.below hb16, hHeld.2.2.1.below hb16, hHeld.2.2.2.1.below hb16, hHeld.2.2.2.2.1.below hb16, hHeld.2.2.2.2.2.below hb16⟩ | exact ⟨hHeld.1.below hb21, hHeld.2.1.below hb21, hHeld.2.2.1.below hb21, hHeld.2.2.2.1.below hb21, hHeld.2.2.2.2.1.below hb21, hHeld.2.2.2.2.2.below hb21⟩)
      try dsimp only at hHeld
      clear hK K
      try simp only [Act.put, List.setIfInBounds_toArray, List.set_cons_zero, List.set_cons_succ]
      refine Go.Shr.wpAnyF_take 5 (oi := { dst := some 82, op := Go.Op.move (Go.Operand.tmp 81), type := 4, pos := "law.go:54", after := #[{ on := 4, ground := Go.Ground.data }, { on := 4, ground := Go.Ground.chain }], guard := none }) (v := ?g5rv6) rfl (by kernel_rfl) (fun _ _ _ h => h) (by assumption) (by rfl) ?g5ry6 ?g5rr6
      case g5ry6 => intro w hSw; (rename_i w2; obtain ⟨g1, g2, g3, g4, g5, g6⟩ := hSw); (have q0 := g1.cell 0); (have q1 := g1.cell 1); (have q2 := g1.cell 2); (have q3 := g1.cell 3); (have q4 := g2.cell 0); (have q5 := g2.cell 1); (have q6 := g2.cell 2); (have p0 := g3.cell 0); (have p1 := g3.cell 1); (have p2 := g3.cell 2); (have p3 := g3.cell 3); (have p4 := g3.cell 4); (have p5 := g3.cell 5); (have o0 := g4.cell 0); (have o1 := g4.cell 1); (have o2 := g4.cell 2); (have o3 := g4.cell 3); (have o4 := g4.cell 4); (have o5 := g4.cell 5); (have n0 := g5.cell 0); (have n1 := g5.cell 1); (have n2 := g5.cell 2); (have n3 := g5.cell 3); (have n4 := g5.cell 4); (have n5 := g5.cell 5); (have l0 := g6.cell 0); (have l1 := g6.cell 1); (have l2 := g6.cell 2); (have l3 := g6.cell 3); (have l4 := g6.cell 4); (have l5 := g6.cell 5); (simp only [List.getElem?_toArray, List.getElem?_cons_zero, List.getElem?_cons_succ] at q0 q1 q2 q3 q4 q5 q6 p0 p1 p2 p3 p4 p5 o0 o1 o2 o3 o4 o5 n0 n1 n2 n3 n4 n5 l0 l1 l2 l3 l4 l5); go_simp; try with_reducible rfl
      try simp only [Act.put, List.setIfInBounds_toArray, List.set_cons_zero, List.set_cons_succ]
      first
        | refine Go.Shr.wpAnyF_skip 6 (oi := { dst := some 83, op := Go.Op.load 37 (Go.Operand.tmp 21), type := 37, pos := "law.go:54", after := #[{ on := 5, ground := Go.Ground.guard }], guard := some (5, true) }) rfl (by kernel_rfl) (fun _ _ _ h => h) (by assumption) (by rfl) ?_
        | (refine Go.Shr.wpAnyF_take 6 (oi := { dst := some 83, op := Go.Op.load 37 (Go.Operand.tmp 21), type := 37, pos := "law.go:54", after := #[{ on := 5, ground := Go.Ground.guard }], guard := some (5, true) }) (v := ?g5rv7) rfl (by kernel_rfl) (fun _ _ _ h => h) (by assumption) (by rfl) ?g5ry7 ?g5rr7
           case g5ry7 => intro w hSw; (rename_i w2; obtain ⟨g1, g2, g3, g4, g5, g6⟩ := hSw); (have q0 := g1.cell 0); (have q1 := g1.cell 1); (have q2 := g1.cell 2); (have q3 := g1.cell 3); (have q4 := g2.cell 0); (have q5 := g2.cell 1); (have q6 := g2.cell 2); (have p0 := g3.cell 0); (have p1 := g3.cell 1); (have p2 := g3.cell 2); (have p3 := g3.cell 3); (have p4 := g3.cell 4); (have p5 := g3.cell 5); (have o0 := g4.cell 0); (have o1 := g4.cell 1); (have o2 := g4.cell 2); (have o3 := g4.cell 3); (have o4 := g4.cell 4); (have o5 := g4.cell 5); (have n0 := g5.cell 0); (have n1 := g5.cell 1); (have n2 := g5.cell 2); (have n3 := g5.cell 3); (have n4 := g5.cell 4); (have n5 := g5.cell 5); (have l0 := g6.cell 0); (have l1 := g6.cell 1); (have l2 := g6.cell 2); (have l3 := g6.cell 3); (have l4 := g6.cell 4); (have l5 := g6.cell 5); (simp only [List.getElem?_toArray, List.getElem?_cons_zero, List.getElem?_cons_succ] at q0 q1 q2 q3 q4 q5 q6 p0 p1 p2 p3 p4 p5 o0 o1 o2 o3 o4 o5 n0 n1 n2 n3 n4 n5 l0 l1 l2 l3 l4 l5); go_simp; try with_reducible rfl)
      try simp only [Act.put, List.setIfInBounds_toArray, List.set_cons_zero, List.set_cons_succ]
      first
        | refine Go.Shr.wpAnyF_skip 7 (oi := { dst := some 84, op := Go.Op.load 37 (Go.Operand.tmp 13), type := 37, pos := "law.go:54", after := #[{ on := 5, ground := Go.Ground.guard }], guard := some (5, true) }) rfl (by kernel_rfl) (fun _ _ _ h => h) (by assumption) (by rfl) ?_
        | (refine Go.Shr.wpAnyF_take 7 (oi := { dst := some 84, op := Go.Op.load 37 (Go.Operand.tmp 13), type := 37, pos := "law.go:54", after := #[{ on := 5, ground := Go.Ground.guard }], guard := some (5, true) }) (v := ?g5rv8) rfl (by kernel_rfl) (fun _ _ _ h => h) (by assumption) (by rfl) ?g5ry8 ?g5rr8
           case g5ry8 => intro w hSw; (rename_i w2; obtain ⟨g1, g2, g3, g4, g5, g6⟩ := hSw); (have q0 := g1.cell 0); (have q1 := g1.cell 1); (have q2 := g1.cell 2); (have q3 := g1.cell 3); (have q4 := g2.cell 0); (have q5 := g2.cell 1); (have q6 := g2.cell 2); (have p0 := g3.cell 0); (have p1 := g3.cell 1); (have p2 := g3.cell 2); (have p3 := g3.cell 3); (have p4 := g3.cell 4); (have p5 := g3.cell 5); (have o0 := g4.cell 0); (have o1 := g4.cell 1); (have o2 := g4.cell 2); (have o3 := g4.cell 3); (have o4 := g4.cell 4); (have o5 := g4.cell 5); (have n0 := g5.cell 0); (have n1 := g5.cell 1); (have n2 := g5.cell 2); (have n3 := g5.cell 3); (have n4 := g5.cell 4); (have n5 := g5.cell 5); (have l0 := g6.cell 0); (have l1 := g6.cell 1); (have l2 := g6.cell 2); (have l3 := g6.cell 3); (have l4 := g6.cell 4); (have l5 := g6.cell 5); (simp only [List.getElem?_toArray, List.getElem?_cons_zero, List.getElem?_cons_succ] at q0 q1 q2 q3 q4 q5 q6 p0 p1 p2 p3 p4 p5 o0 o1 o2 o3 o4 o5 n0 n1 n2 n3 n4 n5 l0 l1 l2 l3 l4 l5); go_simp; try with_reducible rfl)
      try simp only [Act.put, List.setIfInBounds_toArray, List.set_cons_zero, List.set_cons_succ]
      refine Go.Shr.wpAnyF_ready [8] (by kernel_rfl) (by simp) ?_
      refine Go.Shr.AllReadyF.cons 8 (o := { dst := some 85, op := Go.Op.call { callee := Go.Callee.value (Go.Operand.func 14), args := #[Go.Operand.tmp 83, Go.Operand.tmp 84], argTypes := #[37, 37] }, type := 4, pos := "law.go:54", after := #[{ on := 6, ground := Go.Ground.data }, { on := 7, ground := Go.Ground.data }, { on := 5, ground := Go.Ground.chain }, { on := 5, ground := Go.Ground.guard }], guard := some (5, true) }) rfl (fun K hK => ?g5ro9) ?g5rm9
      case g5rm9 => exact Go.Shr.AllReadyF.nil
      go_simp; refine (HSA.out _).mono ?_; rintro e w8 ⟨rfl, hb8⟩; dsimp only
      refine hK.out _ _ ?g5rs9 (fun hHeld => ?g5rt9)
      case g5rs9 => (try dsimp only); (first | exact ⟨R11.out.drew, R12.out.drew, R13.out.drew, R19.out.drew, R20.out.drew, R21.out.drew⟩ | exact ⟨hHeld.1.below hb3, hHeld.2.1.below hb3, hHeld.2.2.1.below hb3, hHeld.2.2.2.1.below hb3, hHeld.2.2.2.2.1.below hb3, hHeld.2.2.2.2.2.below hb3⟩ | exact ⟨hHeld.1.below hb4, hHeld.2.1.below hb4, hHeld.2.2.1.below hb4, hHeld.2.2.2.1.below hb4, hHeld.2.2.2.2.1.below hb4, hHeld.2.2.2.2.2.below hb4⟩ | exact ⟨hHeld.1.below hb8, hHeld.2.1.below hb8, hHeld.2.2.1.below hb8, hHeld.2.2.2.1.below hb8, hHeld.2.2.2.2.1.below hb8, hHeld.2.2.2.2.2.below hb8⟩ | exact ⟨hHeld.1.below hb14, hHeld.2.1.below hb14, hHeld.2.2.1.below hb14, hHeld.2.2.2.1.below hb14, hHeld.2.2.2.2.1.below hb14, hHeld.2.2.2.2.2.below hb14⟩ | exact ⟨hHeld.1.below hb16, hHeld.2.1.below hb16, hHeld.2.2.1.below hb16, hHeld.2.2.2.1.below hb16, hHeld.2.2.2.2.1.below hb16, hHeld.2.2.2.2.2.below hb16⟩ | exact ⟨hHeld.1.below hb21, hHeld.2.1.below hb21, hHeld.2.2.1.below hb21, hHeld.2.2.2.1.below hb21, hHeld.2.2.2.2.1.below hb21, hHeld.2.2.2.2.2.below hb21⟩)
      try dsimp only at hHeld
      clear hK K
      try simp only [Act.put, List.setIfInBounds_toArray, List.set_cons_zero, List.set_cons_succ]
      refine Go.Shr.wpAnyF_take 9 (oi := { dst := some 86, op := Go.Op.pick (Go.Operand.tmp 82) (Go.Operand.tmp 85) (Go.Operand.const (Go.Value.bool false)), type := 4, pos := "law.go:54", after := #[{ on := 5, ground := Go.Ground.data }, { on := 8, ground := Go.Ground.data }], guard := none }) (v := ?g5rv10) rfl (by kernel_rfl) (fun _ _ _ h => h) (by assumption) (by rfl) ?g5ry10 ?g5rr10
      case g5ry10 => intro w hSw; (rename_i w2; obtain ⟨g1, g2, g3, g4, g5, g6⟩ := hSw); (have q0 := g1.cell 0); (have q1 := g1.cell 1); (have q2 := g1.cell 2); (have q3 := g1.cell 3); (have q4 := g2.cell 0); (have q5 := g2.cell 1); (have q6 := g2.cell 2); (have p0 := g3.cell 0); (have p1 := g3.cell 1); (have p2 := g3.cell 2); (have p3 := g3.cell 3); (have p4 := g3.cell 4); (have p5 := g3.cell 5); (have o0 := g4.cell 0); (have o1 := g4.cell 1); (have o2 := g4.cell 2); (have o3 := g4.cell 3); (have o4 := g4.cell 4); (have o5 := g4.cell 5); (have n0 := g5.cell 0); (have n1 := g5.cell 1); (have n2 := g5.cell 2); (have n3 := g5.cell 3); (have n4 := g5.cell 4); (have n5 := g5.cell 5); (have l0 := g6.cell 0); (have l1 := g6.cell 1); (have l2 := g6.cell 2); (have l3 := g6.cell 3); (have l4 := g6.cell 4); (have l5 := g6.cell 5); (simp only [List.getElem?_toArray, List.getElem?_cons_zero, List.getElem?_cons_succ] at q0 q1 q2 q3 q4 q5 q6 p0 p1 p2 p3 p4 p5 o0 o1 o2 o3 o4 o5 n0 n1 n2 n3 n4 n5 l0 l1 l2 l3 l4 l5); go_simp; try with_reducible rfl
      try simp only [Act.put, List.setIfInBounds_toArray, List.set_cons_zero, List.set_cons_succ]
      refine Go.Shr.wpAnyF_take 10 (oi := { dst := some 87, op := Go.Op.move (Go.Operand.tmp 86), type := 4, pos := "law.go:54", after := #[{ on := 9, ground := Go.Ground.data }, { on := 8, ground := Go.Ground.chain }], guard := none }) (v := ?g5rv11) rfl (by kernel_rfl) (fun _ _ _ h => h) (by assumption) (by rfl) ?g5ry11 ?g5rr11
      case g5ry11 => intro w hSw; (rename_i w2; obtain ⟨g1, g2, g3, g4, g5, g6⟩ := hSw); (have q0 := g1.cell 0); (have q1 := g1.cell 1); (have q2 := g1.cell 2); (have q3 := g1.cell 3); (have q4 := g2.cell 0); (have q5 := g2.cell 1); (have q6 := g2.cell 2); (have p0 := g3.cell 0); (have p1 := g3.cell 1); (have p2 := g3.cell 2); (have p3 := g3.cell 3); (have p4 := g3.cell 4); (have p5 := g3.cell 5); (have o0 := g4.cell 0); (have o1 := g4.cell 1); (have o2 := g4.cell 2); (have o3 := g4.cell 3); (have o4 := g4.cell 4); (have o5 := g4.cell 5); (have n0 := g5.cell 0); (have n1 := g5.cell 1); (have n2 := g5.cell 2); (have n3 := g5.cell 3); (have n4 := g5.cell 4); (have n5 := g5.cell 5); (have l0 := g6.cell 0); (have l1 := g6.cell 1); (have l2 := g6.cell 2); (have l3 := g6.cell 3); (have l4 := g6.cell 4); (have l5 := g6.cell 5); (simp only [List.getElem?_toArray, List.getElem?_cons_zero, List.getElem?_cons_succ] at q0 q1 q2 q3 q4 q5 q6 p0 p1 p2 p3 p4 p5 o0 o1 o2 o3 o4 o5 n0 n1 n2 n3 n4 n5 l0 l1 l2 l3 l4 l5); go_simp; try with_reducible rfl
      try simp only [Act.put, List.setIfInBounds_toArray, List.set_cons_zero, List.set_cons_succ]
      first
        | refine Go.Shr.wpAnyF_skip 11 (oi := { dst := some 88, op := Go.Op.move (Go.Operand.tmp 9), type := 3, pos := "law.go:54", after := #[{ on := 10, ground := Go.Ground.guard }], guard := some (10, true) }) rfl (by kernel_rfl) (fun _ _ _ h => h) (by assumption) (by rfl) ?_
        | (refine Go.Shr.wpAnyF_take 11 (oi := { dst := some 88, op := Go.Op.move (Go.Operand.tmp 9), type := 3, pos := "law.go:54", after := #[{ on := 10, ground := Go.Ground.guard }], guard := some (10, true) }) (v := ?g5rv12) rfl (by kernel_rfl) (fun _ _ _ h => h) (by assumption) (by rfl) ?g5ry12 ?g5rr12
           case g5ry12 => intro w hSw; (rename_i w2; obtain ⟨g1, g2, g3, g4, g5, g6⟩ := hSw); (have q0 := g1.cell 0); (have q1 := g1.cell 1); (have q2 := g1.cell 2); (have q3 := g1.cell 3); (have q4 := g2.cell 0); (have q5 := g2.cell 1); (have q6 := g2.cell 2); (have p0 := g3.cell 0); (have p1 := g3.cell 1); (have p2 := g3.cell 2); (have p3 := g3.cell 3); (have p4 := g3.cell 4); (have p5 := g3.cell 5); (have o0 := g4.cell 0); (have o1 := g4.cell 1); (have o2 := g4.cell 2); (have o3 := g4.cell 3); (have o4 := g4.cell 4); (have o5 := g4.cell 5); (have n0 := g5.cell 0); (have n1 := g5.cell 1); (have n2 := g5.cell 2); (have n3 := g5.cell 3); (have n4 := g5.cell 4); (have n5 := g5.cell 5); (have l0 := g6.cell 0); (have l1 := g6.cell 1); (have l2 := g6.cell 2); (have l3 := g6.cell 3); (have l4 := g6.cell 4); (have l5 := g6.cell 5); (simp only [List.getElem?_toArray, List.getElem?_cons_zero, List.getElem?_cons_succ] at q0 q1 q2 q3 q4 q5 q6 p0 p1 p2 p3 p4 p5 o0 o1 o2 o3 o4 o5 n0 n1 n2 n3 n4 n5 l0 l1 l2 l3 l4 l5); go_simp; try with_reducible rfl)
      try simp only [Act.put, List.setIfInBounds_toArray, List.set_cons_zero, List.set_cons_succ]
      first
        | refine Go.Shr.wpAnyF_skip 12 (oi := { dst := some 89, op := Go.Op.load 37 (Go.Operand.tmp 20), type := 37, pos := "law.go:54", after := #[{ on := 10, ground := Go.Ground.guard }], guard := some (10, true) }) rfl (by kernel_rfl) (fun _ _ _ h => h) (by assumption) (by rfl) ?_
        | (refine Go.Shr.wpAnyF_take 12 (oi := { dst := some 89, op := Go.Op.load 37 (Go.Operand.tmp 20), type := 37, pos := "law.go:54", after := #[{ on := 10, ground := Go.Ground.guard }], guard := some (10, true) }) (v := ?g5rv13) rfl (by kernel_rfl) (fun _ _ _ h => h) (by assumption) (by rfl) ?g5ry13 ?g5rr13
           case g5ry13 => intro w hSw; (rename_i w2; obtain ⟨g1, g2, g3, g4, g5, g6⟩ := hSw); (have q0 := g1.cell 0); (have q1 := g1.cell 1); (have q2 := g1.cell 2); (have q3 := g1.cell 3); (have q4 := g2.cell 0); (have q5 := g2.cell 1); (have q6 := g2.cell 2); (have p0 := g3.cell 0); (have p1 := g3.cell 1); (have p2 := g3.cell 2); (have p3 := g3.cell 3); (have p4 := g3.cell 4); (have p5 := g3.cell 5); (have o0 := g4.cell 0); (have o1 := g4.cell 1); (have o2 := g4.cell 2); (have o3 := g4.cell 3); (have o4 := g4.cell 4); (have o5 := g4.cell 5); (have n0 := g5.cell 0); (have n1 := g5.cell 1); (have n2 := g5.cell 2); (have n3 := g5.cell 3); (have n4 := g5.cell 4); (have n5 := g5.cell 5); (have l0 := g6.cell 0); (have l1 := g6.cell 1); (have l2 := g6.cell 2); (have l3 := g6.cell 3); (have l4 := g6.cell 4); (have l5 := g6.cell 5); (simp only [List.getElem?_toArray, List.getElem?_cons_zero, List.getElem?_cons_succ] at q0 q1 q2 q3 q4 q5 q6 p0 p1 p2 p3 p4 p5 o0 o1 o2 o3 o4 o5 n0 n1 n2 n3 n4 n5 l0 l1 l2 l3 l4 l5); go_simp; try with_reducible rfl)
      try simp only [Act.put, List.setIfInBounds_toArray, List.set_cons_zero, List.set_cons_succ]
      first
        | refine Go.Shr.wpAnyF_skip 13 (oi := { dst := some 90, op := Go.Op.load 37 (Go.Operand.tmp 19), type := 37, pos := "law.go:54", after := #[{ on := 10, ground := Go.Ground.guard }], guard := some (10, true) }) rfl (by kernel_rfl) (fun _ _ _ h => h) (by assumption) (by rfl) ?_
        | (refine Go.Shr.wpAnyF_take 13 (oi := { dst := some 90, op := Go.Op.load 37 (Go.Operand.tmp 19), type := 37, pos := "law.go:54", after := #[{ on := 10, ground := Go.Ground.guard }], guard := some (10, true) }) (v := ?g5rv14) rfl (by kernel_rfl) (fun _ _ _ h => h) (by assumption) (by rfl) ?g5ry14 ?g5rr14
           case g5ry14 => intro w hSw; (rename_i w2; obtain ⟨g1, g2, g3, g4, g5, g6⟩ := hSw); (have q0 := g1.cell 0); (have q1 := g1.cell 1); (have q2 := g1.cell 2); (have q3 := g1.cell 3); (have q4 := g2.cell 0); (have q5 := g2.cell 1); (have q6 := g2.cell 2); (have p0 := g3.cell 0); (have p1 := g3.cell 1); (have p2 := g3.cell 2); (have p3 := g3.cell 3); (have p4 := g3.cell 4); (have p5 := g3.cell 5); (have o0 := g4.cell 0); (have o1 := g4.cell 1); (have o2 := g4.cell 2); (have o3 := g4.cell 3); (have o4 := g4.cell 4); (have o5 := g4.cell 5); (have n0 := g5.cell 0); (have n1 := g5.cell 1); (have n2 := g5.cell 2); (have n3 := g5.cell 3); (have n4 := g5.cell 4); (have n5 := g5.cell 5); (have l0 := g6.cell 0); (have l1 := g6.cell 1); (have l2 := g6.cell 2); (have l3 := g6.cell 3); (have l4 := g6.cell 4); (have l5 := g6.cell 5); (simp only [List.getElem?_toArray, List.getElem?_cons_zero, List.getElem?_cons_succ] at q0 q1 q2 q3 q4 q5 q6 p0 p1 p2 p3 p4 p5 o0 o1 o2 o3 o4 o5 n0 n1 n2 n3 n4 n5 l0 l1 l2 l3 l4 l5); go_simp; try with_reducible rfl)
      try simp only [Act.put, List.setIfInBounds_toArray, List.set_cons_zero, List.set_cons_succ]
      first
        | refine Go.Shr.wpAnyF_skip 15 (oi := { dst := some 92, op := Go.Op.load 37 (Go.Operand.tmp 13), type := 37, pos := "law.go:54", after := #[{ on := 10, ground := Go.Ground.guard }], guard := some (10, true) }) rfl (by kernel_rfl) (fun _ _ _ h => h) (by assumption) (by rfl) ?_
        | (refine Go.Shr.wpAnyF_take 15 (oi := { dst := some 92, op := Go.Op.load 37 (Go.Operand.tmp 13), type := 37, pos := "law.go:54", after := #[{ on := 10, ground := Go.Ground.guard }], guard := some (10, true) }) (v := ?g5rv15) rfl (by kernel_rfl) (fun _ _ _ h => h) (by assumption) (by rfl) ?g5ry15 ?g5rr15
           case g5ry15 => intro w hSw; (rename_i w2; obtain ⟨g1, g2, g3, g4, g5, g6⟩ := hSw); (have q0 := g1.cell 0); (have q1 := g1.cell 1); (have q2 := g1.cell 2); (have q3 := g1.cell 3); (have q4 := g2.cell 0); (have q5 := g2.cell 1); (have q6 := g2.cell 2); (have p0 := g3.cell 0); (have p1 := g3.cell 1); (have p2 := g3.cell 2); (have p3 := g3.cell 3); (have p4 := g3.cell 4); (have p5 := g3.cell 5); (have o0 := g4.cell 0); (have o1 := g4.cell 1); (have o2 := g4.cell 2); (have o3 := g4.cell 3); (have o4 := g4.cell 4); (have o5 := g4.cell 5); (have n0 := g5.cell 0); (have n1 := g5.cell 1); (have n2 := g5.cell 2); (have n3 := g5.cell 3); (have n4 := g5.cell 4); (have n5 := g5.cell 5); (have l0 := g6.cell 0); (have l1 := g6.cell 1); (have l2 := g6.cell 2); (have l3 := g6.cell 3); (have l4 := g6.cell 4); (have l5 := g6.cell 5); (simp only [List.getElem?_toArray, List.getElem?_cons_zero, List.getElem?_cons_succ] at q0 q1 q2 q3 q4 q5 q6 p0 p1 p2 p3 p4 p5 o0 o1 o2 o3 o4 o5 n0 n1 n2 n3 n4 n5 l0 l1 l2 l3 l4 l5); go_simp; try with_reducible rfl)
      try simp only [Act.put, List.setIfInBounds_toArray, List.set_cons_zero, List.set_cons_succ]
      refine Go.Shr.wpAnyF_ready [14] (by kernel_rfl) (by simp) ?_
      refine Go.Shr.AllReadyF.cons 14 (o := { dst := some 91, op := Go.Op.call { callee := Go.Callee.value (Go.Operand.func 13), args := #[Go.Operand.tmp 88, Go.Operand.tmp 89, Go.Operand.tmp 90], argTypes := #[3, 37, 37] }, type := 37, pos := "law.go:54", after := #[{ on := 11, ground := Go.Ground.data }, { on := 12, ground := Go.Ground.data }, { on := 13, ground := Go.Ground.data }, { on := 10, ground := Go.Ground.chain }, { on := 10, ground := Go.Ground.guard }], guard := some (10, true) }) rfl (fun K hK => ?g5ro16) ?g5rm16
      case g5rm16 => exact Go.Shr.AllReadyF.nil
      go_simp; refine (HJ2.out _).mono ?_; rintro e w14 ⟨rfl, hb14⟩; dsimp only
      refine hK.out _ _ ?g5rs16 (fun hHeld => ?g5rt16)
      case g5rs16 => (try dsimp only); (first | exact ⟨R11.out.drew, R12.out.drew, R13.out.drew, R19.out.drew, R20.out.drew, R21.out.drew⟩ | exact ⟨hHeld.1.below hb3, hHeld.2.1.below hb3, hHeld.2.2.1.below hb3, hHeld.2.2.2.1.below hb3, hHeld.2.2.2.2.1.below hb3, hHeld.2.2.2.2.2.below hb3⟩ | exact ⟨hHeld.1.below hb4, hHeld.2.1.below hb4, hHeld.2.2.1.below hb4, hHeld.2.2.2.1.below hb4, hHeld.2.2.2.2.1.below hb4, hHeld.2.2.2.2.2.below hb4⟩ | exact ⟨hHeld.1.below hb8, hHeld.2.1.below hb8, hHeld.2.2.1.below hb8, hHeld.2.2.2.1.below hb8, hHeld.2.2.2.2.1.below hb8, hHeld.2.2.2.2.2.below hb8⟩ | exact ⟨hHeld.1.below hb14, hHeld.2.1.below hb14, hHeld.2.2.1.below hb14, hHeld.2.2.2.1.below hb14, hHeld.2.2.2.2.1.below hb14, hHeld.2.2.2.2.2.below hb14⟩ | exact ⟨hHeld.1.below hb16, hHeld.2.1.below hb16, hHeld.2.2.1.below hb16, hHeld.2.2.2.1.below hb16, hHeld.2.2.2.2.1.below hb16, hHeld.2.2.2.2.2.below hb16⟩ | exact ⟨hHeld.1.below hb21, hHeld.2.1.below hb21, hHeld.2.2.1.below hb21, hHeld.2.2.2.1.below hb21, hHeld.2.2.2.2.1.below hb21, hHeld.2.2.2.2.2.below hb21⟩)
      try dsimp only at hHeld
      clear hK K
      try simp only [Act.put, List.setIfInBounds_toArray, List.set_cons_zero, List.set_cons_succ]
      refine Go.Shr.wpAnyF_ready [16] (by kernel_rfl) (by simp) ?_
      refine Go.Shr.AllReadyF.cons 16 (o := { dst := some 93, op := Go.Op.call { callee := Go.Callee.value (Go.Operand.func 14), args := #[Go.Operand.tmp 91, Go.Operand.tmp 92], argTypes := #[37, 37] }, type := 4, pos := "law.go:54", after := #[{ on := 14, ground := Go.Ground.data }, { on := 15, ground := Go.Ground.data }, { on := 14, ground := Go.Ground.chain }, { on := 10, ground := Go.Ground.guard }], guard := some (10, true) }) rfl (fun K hK => ?g5ro17) ?g5rm17
      case g5rm17 => exact Go.Shr.AllReadyF.nil
      go_simp; refine (HSA.out _).mono ?_; rintro e w16 ⟨rfl, hb16⟩; dsimp only
      refine hK.out _ _ ?g5rs17 (fun hHeld => ?g5rt17)
      case g5rs17 => (try dsimp only); (first | exact ⟨R11.out.drew, R12.out.drew, R13.out.drew, R19.out.drew, R20.out.drew, R21.out.drew⟩ | exact ⟨hHeld.1.below hb3, hHeld.2.1.below hb3, hHeld.2.2.1.below hb3, hHeld.2.2.2.1.below hb3, hHeld.2.2.2.2.1.below hb3, hHeld.2.2.2.2.2.below hb3⟩ | exact ⟨hHeld.1.below hb4, hHeld.2.1.below hb4, hHeld.2.2.1.below hb4, hHeld.2.2.2.1.below hb4, hHeld.2.2.2.2.1.below hb4, hHeld.2.2.2.2.2.below hb4⟩ | exact ⟨hHeld.1.below hb8, hHeld.2.1.below hb8, hHeld.2.2.1.below hb8, hHeld.2.2.2.1.below hb8, hHeld.2.2.2.2.1.below hb8, hHeld.2.2.2.2.2.below hb8⟩ | exact ⟨hHeld.1.below hb14, hHeld.2.1.below hb14, hHeld.2.2.1.below hb14, hHeld.2.2.2.1.below hb14, hHeld.2.2.2.2.1.below hb14, hHeld.2.2.2.2.2.below hb14⟩ | exact ⟨hHeld.1.below hb16, hHeld.2.1.below hb16, hHeld.2.2.1.below hb16, hHeld.2.2.2.1.below hb16, hHeld.2.2.2.2.1.below hb16, hHeld.2.2.2.2.2.below hb16⟩ | exact ⟨hHeld.1.below hb21, hHeld.2.1.below hb21, hHeld.2.2.1.below hb21, hHeld.2.2.2.1.below hb21, hHeld.2.2.2.2.1.below hb21, hHeld.2.2.2.2.2.below hb21⟩)
      try dsimp only at hHeld
      clear hK K
      try simp only [Act.put, List.setIfInBounds_toArray, List.set_cons_zero, List.set_cons_succ]
      refine Go.Shr.wpAnyF_take 17 (oi := { dst := some 94, op := Go.Op.pick (Go.Operand.tmp 87) (Go.Operand.tmp 93) (Go.Operand.const (Go.Value.bool false)), type := 4, pos := "law.go:54", after := #[{ on := 10, ground := Go.Ground.data }, { on := 16, ground := Go.Ground.data }], guard := none }) (v := ?g5rv18) rfl (by kernel_rfl) (fun _ _ _ h => h) (by assumption) (by rfl) ?g5ry18 ?g5rr18
      case g5ry18 => intro w hSw; (rename_i w2; obtain ⟨g1, g2, g3, g4, g5, g6⟩ := hSw); (have q0 := g1.cell 0); (have q1 := g1.cell 1); (have q2 := g1.cell 2); (have q3 := g1.cell 3); (have q4 := g2.cell 0); (have q5 := g2.cell 1); (have q6 := g2.cell 2); (have p0 := g3.cell 0); (have p1 := g3.cell 1); (have p2 := g3.cell 2); (have p3 := g3.cell 3); (have p4 := g3.cell 4); (have p5 := g3.cell 5); (have o0 := g4.cell 0); (have o1 := g4.cell 1); (have o2 := g4.cell 2); (have o3 := g4.cell 3); (have o4 := g4.cell 4); (have o5 := g4.cell 5); (have n0 := g5.cell 0); (have n1 := g5.cell 1); (have n2 := g5.cell 2); (have n3 := g5.cell 3); (have n4 := g5.cell 4); (have n5 := g5.cell 5); (have l0 := g6.cell 0); (have l1 := g6.cell 1); (have l2 := g6.cell 2); (have l3 := g6.cell 3); (have l4 := g6.cell 4); (have l5 := g6.cell 5); (simp only [List.getElem?_toArray, List.getElem?_cons_zero, List.getElem?_cons_succ] at q0 q1 q2 q3 q4 q5 q6 p0 p1 p2 p3 p4 p5 o0 o1 o2 o3 o4 o5 n0 n1 n2 n3 n4 n5 l0 l1 l2 l3 l4 l5); go_simp; try with_reducible rfl
      try simp only [Act.put, List.setIfInBounds_toArray, List.set_cons_zero, List.set_cons_succ]
      refine Go.Shr.wpAnyF_take 18 (oi := { dst := some 95, op := Go.Op.move (Go.Operand.tmp 94), type := 4, pos := "law.go:54", after := #[{ on := 17, ground := Go.Ground.data }, { on := 16, ground := Go.Ground.chain }], guard := none }) (v := ?g5rv19) rfl (by kernel_rfl) (fun _ _ _ h => h) (by assumption) (by rfl) ?g5ry19 ?g5rr19
      case g5ry19 => intro w hSw; (rename_i w2; obtain ⟨g1, g2, g3, g4, g5, g6⟩ := hSw); (have q0 := g1.cell 0); (have q1 := g1.cell 1); (have q2 := g1.cell 2); (have q3 := g1.cell 3); (have q4 := g2.cell 0); (have q5 := g2.cell 1); (have q6 := g2.cell 2); (have p0 := g3.cell 0); (have p1 := g3.cell 1); (have p2 := g3.cell 2); (have p3 := g3.cell 3); (have p4 := g3.cell 4); (have p5 := g3.cell 5); (have o0 := g4.cell 0); (have o1 := g4.cell 1); (have o2 := g4.cell 2); (have o3 := g4.cell 3); (have o4 := g4.cell 4); (have o5 := g4.cell 5); (have n0 := g5.cell 0); (have n1 := g5.cell 1); (have n2 := g5.cell 2); (have n3 := g5.cell 3); (have n4 := g5.cell 4); (have n5 := g5.cell 5); (have l0 := g6.cell 0); (have l1 := g6.cell 1); (have l2 := g6.cell 2); (have l3 := g6.cell 3); (have l4 := g6.cell 4); (have l5 := g6.cell 5); (simp only [List.getElem?_toArray, List.getElem?_cons_zero, List.getElem?_cons_succ] at q0 q1 q2 q3 q4 q5 q6 p0 p1 p2 p3 p4 p5 o0 o1 o2 o3 o4 o5 n0 n1 n2 n3 n4 n5 l0 l1 l2 l3 l4 l5); go_simp; try with_reducible rfl
      try simp only [Act.put, List.setIfInBounds_toArray, List.set_cons_zero, List.set_cons_succ]
      first
        | refine Go.Shr.wpAnyF_skip 19 (oi := { dst := some 96, op := Go.Op.load 37 (Go.Operand.tmp 13), type := 37, pos := "law.go:54", after := #[{ on := 18, ground := Go.Ground.guard }], guard := some (18, true) }) rfl (by kernel_rfl) (fun _ _ _ h => h) (by assumption) (by rfl) ?_
        | (refine Go.Shr.wpAnyF_take 19 (oi := { dst := some 96, op := Go.Op.load 37 (Go.Operand.tmp 13), type := 37, pos := "law.go:54", after := #[{ on := 18, ground := Go.Ground.guard }], guard := some (18, true) }) (v := ?g5rv20) rfl (by kernel_rfl) (fun _ _ _ h => h) (by assumption) (by rfl) ?g5ry20 ?g5rr20
           case g5ry20 => intro w hSw; (rename_i w2; obtain ⟨g1, g2, g3, g4, g5, g6⟩ := hSw); (have q0 := g1.cell 0); (have q1 := g1.cell 1); (have q2 := g1.cell 2); (have q3 := g1.cell 3); (have q4 := g2.cell 0); (have q5 := g2.cell 1); (have q6 := g2.cell 2); (have p0 := g3.cell 0); (have p1 := g3.cell 1); (have p2 := g3.cell 2); (have p3 := g3.cell 3); (have p4 := g3.cell 4); (have p5 := g3.cell 5); (have o0 := g4.cell 0); (have o1 := g4.cell 1); (have o2 := g4.cell 2); (have o3 := g4.cell 3); (have o4 := g4.cell 4); (have o5 := g4.cell 5); (have n0 := g5.cell 0); (have n1 := g5.cell 1); (have n2 := g5.cell 2); (have n3 := g5.cell 3); (have n4 := g5.cell 4); (have n5 := g5.cell 5); (have l0 := g6.cell 0); (have l1 := g6.cell 1); (have l2 := g6.cell 2); (have l3 := g6.cell 3); (have l4 := g6.cell 4); (have l5 := g6.cell 5); (simp only [List.getElem?_toArray, List.getElem?_cons_zero, List.getElem?_cons_succ] at q0 q1 q2 q3 q4 q5 q6 p0 p1 p2 p3 p4 p5 o0 o1 o2 o3 o4 o5 n0 n1 n2 n3 n4 n5 l0 l1 l2 l3 l4 l5); go_simp; try with_reducible rfl)
      try simp only [Act.put, List.setIfInBounds_toArray, List.set_cons_zero, List.set_cons_succ]
      first
        | refine Go.Shr.wpAnyF_skip 20 (oi := { dst := some 97, op := Go.Op.load 37 (Go.Operand.tmp 13), type := 37, pos := "law.go:54", after := #[{ on := 18, ground := Go.Ground.guard }], guard := some (18, true) }) rfl (by kernel_rfl) (fun _ _ _ h => h) (by assumption) (by rfl) ?_
        | (refine Go.Shr.wpAnyF_take 20 (oi := { dst := some 97, op := Go.Op.load 37 (Go.Operand.tmp 13), type := 37, pos := "law.go:54", after := #[{ on := 18, ground := Go.Ground.guard }], guard := some (18, true) }) (v := ?g5rv21) rfl (by kernel_rfl) (fun _ _ _ h => h) (by assumption) (by rfl) ?g5ry21 ?g5rr21
           case g5ry21 => intro w hSw; (rename_i w2; obtain ⟨g1, g2, g3, g4, g5, g6⟩ := hSw); (have q0 := g1.cell 0); (have q1 := g1.cell 1); (have q2 := g1.cell 2); (have q3 := g1.cell 3); (have q4 := g2.cell 0); (have q5 := g2.cell 1); (have q6 := g2.cell 2); (have p0 := g3.cell 0); (have p1 := g3.cell 1); (have p2 := g3.cell 2); (have p3 := g3.cell 3); (have p4 := g3.cell 4); (have p5 := g3.cell 5); (have o0 := g4.cell 0); (have o1 := g4.cell 1); (have o2 := g4.cell 2); (have o3 := g4.cell 3); (have o4 := g4.cell 4); (have o5 := g4.cell 5); (have n0 := g5.cell 0); (have n1 := g5.cell 1); (have n2 := g5.cell 2); (have n3 := g5.cell 3); (have n4 := g5.cell 4); (have n5 := g5.cell 5); (have l0 := g6.cell 0); (have l1 := g6.cell 1); (have l2 := g6.cell 2); (have l3 := g6.cell 3); (have l4 := g6.cell 4); (have l5 := g6.cell 5); (simp only [List.getElem?_toArray, List.getElem?_cons_zero, List.getElem?_cons_succ] at q0 q1 q2 q3 q4 q5 q6 p0 p1 p2 p3 p4 p5 o0 o1 o2 o3 o4 o5 n0 n1 n2 n3 n4 n5 l0 l1 l2 l3 l4 l5); go_simp; try with_reducible rfl)
      try simp only [Act.put, List.setIfInBounds_toArray, List.set_cons_zero, List.set_cons_succ]
      refine Go.Shr.wpAnyF_ready [21] (by kernel_rfl) (by simp) ?_
      refine Go.Shr.AllReadyF.cons 21 (o := { dst := some 98, op := Go.Op.call { callee := Go.Callee.value (Go.Operand.func 16), args := #[Go.Operand.tmp 96, Go.Operand.tmp 97], argTypes := #[37, 37] }, type := 4, pos := "law.go:54", after := #[{ on := 19, ground := Go.Ground.data }, { on := 20, ground := Go.Ground.data }, { on := 18, ground := Go.Ground.chain }, { on := 18, ground := Go.Ground.guard }], guard := some (18, true) }) rfl (fun K hK => ?g5ro22) ?g5rm22
      case g5rm22 => exact Go.Shr.AllReadyF.nil
      go_simp; refine (HSB2.out _).mono ?_; rintro e w21 ⟨rfl, hb21⟩; dsimp only
      refine hK.out _ _ ?g5rs22 (fun hHeld => ?g5rt22)
      case g5rs22 => (try dsimp only); (first | exact ⟨R11.out.drew, R12.out.drew, R13.out.drew, R19.out.drew, R20.out.drew, R21.out.drew⟩ | exact ⟨hHeld.1.below hb3, hHeld.2.1.below hb3, hHeld.2.2.1.below hb3, hHeld.2.2.2.1.below hb3, hHeld.2.2.2.2.1.below hb3, hHeld.2.2.2.2.2.below hb3⟩ | exact ⟨hHeld.1.below hb4, hHeld.2.1.below hb4, hHeld.2.2.1.below hb4, hHeld.2.2.2.1.below hb4, hHeld.2.2.2.2.1.below hb4, hHeld.2.2.2.2.2.below hb4⟩ | exact ⟨hHeld.1.below hb8, hHeld.2.1.below hb8, hHeld.2.2.1.below hb8, hHeld.2.2.2.1.below hb8, hHeld.2.2.2.2.1.below hb8, hHeld.2.2.2.2.2.below hb8⟩ | exact ⟨hHeld.1.below hb14, hHeld.2.1.below hb14, hHeld.2.2.1.below hb14, hHeld.2.2.2.1.below hb14, hHeld.2.2.2.2.1.below hb14, hHeld.2.2.2.2.2.below hb14⟩ | exact ⟨hHeld.1.below hb16, hHeld.2.1.below hb16, hHeld.2.2.1.below hb16, hHeld.2.2.2.1.below hb16, hHeld.2.2.2.2.1.below hb16, hHeld.2.2.2.2.2.below hb16⟩ | exact ⟨hHeld.1.below hb21, hHeld.2.1.below hb21, hHeld.2.2.1.below hb21, hHeld.2.2.2.1.below hb21, hHeld.2.2.2.2.1.below hb21, hHeld.2.2.2.2.2.below hb21⟩)
      try dsimp only at hHeld
      clear hK K
      try simp only [Act.put, List.setIfInBounds_toArray, List.set_cons_zero, List.set_cons_succ]
      refine Go.Shr.wpAnyF_take 22 (oi := { dst := some 99, op := Go.Op.pick (Go.Operand.tmp 95) (Go.Operand.tmp 98) (Go.Operand.const (Go.Value.bool false)), type := 4, pos := "law.go:54", after := #[{ on := 18, ground := Go.Ground.data }, { on := 21, ground := Go.Ground.data }], guard := none }) (v := ?g5rv23) rfl (by kernel_rfl) (fun _ _ _ h => h) (by assumption) (by rfl) ?g5ry23 ?g5rr23
      case g5ry23 => intro w hSw; (rename_i w2; obtain ⟨g1, g2, g3, g4, g5, g6⟩ := hSw); (have q0 := g1.cell 0); (have q1 := g1.cell 1); (have q2 := g1.cell 2); (have q3 := g1.cell 3); (have q4 := g2.cell 0); (have q5 := g2.cell 1); (have q6 := g2.cell 2); (have p0 := g3.cell 0); (have p1 := g3.cell 1); (have p2 := g3.cell 2); (have p3 := g3.cell 3); (have p4 := g3.cell 4); (have p5 := g3.cell 5); (have o0 := g4.cell 0); (have o1 := g4.cell 1); (have o2 := g4.cell 2); (have o3 := g4.cell 3); (have o4 := g4.cell 4); (have o5 := g4.cell 5); (have n0 := g5.cell 0); (have n1 := g5.cell 1); (have n2 := g5.cell 2); (have n3 := g5.cell 3); (have n4 := g5.cell 4); (have n5 := g5.cell 5); (have l0 := g6.cell 0); (have l1 := g6.cell 1); (have l2 := g6.cell 2); (have l3 := g6.cell 3); (have l4 := g6.cell 4); (have l5 := g6.cell 5); (simp only [List.getElem?_toArray, List.getElem?_cons_zero, List.getElem?_cons_succ] at q0 q1 q2 q3 q4 q5 q6 p0 p1 p2 p3 p4 p5 o0 o1 o2 o3 o4 o5 n0 n1 n2 n3 n4 n5 l0 l1 l2 l3 l4 l5); go_simp; try with_reducible rfl
      try simp only [Act.put, List.setIfInBounds_toArray, List.set_cons_zero, List.set_cons_succ]
      refine Go.Shr.wpAnyF_take 23 (oi := { dst := some 8, op := Go.Op.assign (Go.Operand.tmp 99), type := 4, pos := "law.go:54", after := #[{ on := 22, ground := Go.Ground.data }, { on := 21, ground := Go.Ground.chain }, { on := 0, ground := Go.Ground.phase }, { on := 1, ground := Go.Ground.phase }, { on := 2, ground := Go.Ground.phase }, { on := 3, ground := Go.Ground.phase }, { on := 4, ground := Go.Ground.phase }, { on := 5, ground := Go.Ground.phase }, { on := 6, ground := Go.Ground.phase }, { on := 7, ground := Go.Ground.phase }, { on := 8, ground := Go.Ground.phase }, { on := 9, ground := Go.Ground.phase }, { on := 10, ground := Go.Ground.phase }, { on := 11, ground := Go.Ground.phase }, { on := 12, ground := Go.Ground.phase }, { on := 13, ground := Go.Ground.phase }, { on := 14, ground := Go.Ground.phase }, { on := 15, ground := Go.Ground.phase }, { on := 16, ground := Go.Ground.phase }, { on := 17, ground := Go.Ground.phase }, { on := 18, ground := Go.Ground.phase }, { on := 19, ground := Go.Ground.phase }, { on := 20, ground := Go.Ground.phase }, { on := 21, ground := Go.Ground.phase }, { on := 22, ground := Go.Ground.phase }], guard := none }) (v := ?g5rv24) rfl (by kernel_rfl) (fun _ _ _ h => h) (by assumption) (by rfl) ?g5ry24 ?g5rr24
      case g5ry24 => intro w hSw; (rename_i w2; obtain ⟨g1, g2, g3, g4, g5, g6⟩ := hSw); (have q0 := g1.cell 0); (have q1 := g1.cell 1); (have q2 := g1.cell 2); (have q3 := g1.cell 3); (have q4 := g2.cell 0); (have q5 := g2.cell 1); (have q6 := g2.cell 2); (have p0 := g3.cell 0); (have p1 := g3.cell 1); (have p2 := g3.cell 2); (have p3 := g3.cell 3); (have p4 := g3.cell 4); (have p5 := g3.cell 5); (have o0 := g4.cell 0); (have o1 := g4.cell 1); (have o2 := g4.cell 2); (have o3 := g4.cell 3); (have o4 := g4.cell 4); (have o5 := g4.cell 5); (have n0 := g5.cell 0); (have n1 := g5.cell 1); (have n2 := g5.cell 2); (have n3 := g5.cell 3); (have n4 := g5.cell 4); (have n5 := g5.cell 5); (have l0 := g6.cell 0); (have l1 := g6.cell 1); (have l2 := g6.cell 2); (have l3 := g6.cell 3); (have l4 := g6.cell 4); (have l5 := g6.cell 5); (simp only [List.getElem?_toArray, List.getElem?_cons_zero, List.getElem?_cons_succ] at q0 q1 q2 q3 q4 q5 q6 p0 p1 p2 p3 p4 p5 o0 o1 o2 o3 o4 o5 n0 n1 n2 n3 n4 n5 l0 l1 l2 l3 l4 l5); go_simp; try with_reducible rfl
      try simp only [Act.put, List.setIfInBounds_toArray, List.set_cons_zero, List.set_cons_succ]
      refine Go.Shr.wpAnyF_done (by kernel_rfl) ?_
      go_wp2_with fail
      go_ret
      exact ⟨rfl, bt (bt (bt (bt (bt (bt HBe.out.drew hb3) hb4) hb8) hb14) hb16) hb21⟩
end Go.Proofs.Ytnmlngpkhlafgaa
