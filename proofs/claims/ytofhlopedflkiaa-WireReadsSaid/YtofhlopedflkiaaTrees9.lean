/-
  The walks of law 9's Trees, known.
-/
import Derived.Test.YtofhlopedflkiaaBytes9
import Derived.Test.YtofhlopedflkiaaSame8
set_option linter.unusedSimpArgs false
namespace Go.Proofs.Ytofhlopedflkiaa
open Go.RowKit Go.Shr
theorem sameL_take : ∀ (x y : List Tr) (j : Nat) (hx : j < x.length) (hy : j < y.length), sameL (x.take (j + 1)) (y.take (j + 1)) = (sameL (x.take j) (y.take j) && sameT x[j] y[j])
  | a :: x, b :: y, 0, _, _ => by simp [sameL]
  | a :: x, b :: y, j + 1, hx, hy => by
    have := sameL_take x y j (by simpa using hx) (by simpa using hy)
    simp only [List.take_succ_cons, sameL, this, List.getElem_cons_succ, Bool.and_assoc]
theorem sameL_refl (x : List Tr) : sameL x x = true := (sameL_iff x x).2 rfl
set_option maxHeartbeats 1000000 in
set_option maxRecDepth 100000 in
theorem trees_v (x y : List Tr) (xa : Option Addr) (xcap : Nat) (xs : List Value) (ya : Option Addr) (ycap : Nat) (ys : List Value) (w : World) (hx : Sl (fun b => b < w.heap.size) w 3 xa x.length xcap xs) (hxr : RowAt w x xs) (hy : Sl (fun b => b < w.heap.size) w 3 ya y.length ycap ys) (hyr : RowAt w y ys) :
    Calls Try.prog 16 #[.slice xa x.length xcap, .slice ya y.length ycap] w fun e w' => e = .returned (.bool (sameL x y)) ∧ Below w.heap.size w w' := by
  have hmx := Nat.le_trans hx.le hx.max
  have hmy := Nat.le_trans hy.le hy.max
  unfold maxLen at hmx hmy
  have HX := Lib.hid hx; have HY := Lib.hid hy; have HXR := Lib.hid (RowAt.g _ _ hxr); have HYR := Lib.hid (RowAt.g _ _ hyr)
  clear hx hy hxr hyr
  by_cases hl : x.length = y.length
  · have hlb : ((x.length : Int) != (y.length : Int)) = false := by simp [hl]
    have HL := Lib.hid hl
    clear hl
    go_enter Try.func16, Try.ntmps16
    go_wp2_with fail
    go_loopw [5] (fun iv wr => ∃ j : Nat, iv = .int .i64 (j : Int) ∧ j ≤ x.length ∧ Hid (sameL (x.take j) (y.take j) = true) ∧ Hid (Below w.heap.size w wr)) (fun iv _ => x.length - (intOf iv).toNat)
    case atStart => exact ⟨0, rfl, Nat.zero_le _, Lib.hid (by simp [sameL]), Lib.hid (b0 w)⟩
    case round =>
      clear hlb
      obtain ⟨j, rfl, hj, HE, HB⟩ := hrel
      by_cases hlt : j < x.length
      · have hlty : j < y.length := by have := HL.out; omega
        obtain ⟨xb, xoff, hxa, hxb, hxc⟩ := HX.out.pos (by omega)
        obtain ⟨yb, yoff, hya, hyb, hyc⟩ := HY.out.pos (by omega)
        obtain ⟨e0, e1, e2, u0, u1, u2, hte⟩ := HXR.out.get' j hlt
        obtain ⟨ta, tm, tcap, _, hcs2, hxm, _, _, _⟩ := hte.parts'
        simp at hcs2
        obtain ⟨rfl, rfl, rfl⟩ := hcs2
        subst hxm
        obtain ⟨e0, e1, e2, v0, v1, v2, htf⟩ := HYR.out.get' j hlty
        obtain ⟨ua, um, ucap, _, hcs2, hym, _, _, _⟩ := htf.parts'
        simp at hcs2
        obtain ⟨rfl, rfl, rfl⟩ := hcs2
        subst hym
        have x0 := cb HB.out (hxc _ _ u0); have x1 := cb HB.out (hxc _ _ u1); have x2 := cb HB.out (hxc _ _ u2)
        have y0 := cb HB.out (hyc _ _ v0); have y1 := cb HB.out (hyc _ _ v1); have y2 := cb HB.out (hyc _ _ v2)
        rw [← Nat.add_assoc] at x1 x2 y1 y2
        have HT := Lib.hid hte.at; have HU := Lib.hid htf.at
        have HTK := Lib.hid (sameL_take x y j hlt hlty)
        have HDROP : Hid (sameT x[j] y[j] = false → sameL x y = false) := Lib.hid (fun h => by
          cases hs : sameL x y with
          | false => rfl
          | true =>
            have := (sameL_iff x y).1 hs
            subst this
            rw [(sameT_iff _ _).2 rfl] at h
            cases h)
        generalize x[j] = t at *
        generalize y[j] = u at *
        clear hxc hyc u0 u1 u2 v0 v1 v2 hte htf
        have HXA := Lib.hid hxa; have HYA := Lib.hid hya
        subst hxa
        subst hya
        have HCC := Lib.hid (And.intro (And.intro x0 (And.intro x1 x2)) (And.intro y0 (And.intro y1 y2)))
        have hj0 : (0 : Int) ≤ (j : Int) := by omega
        have hjx : (j : Int) < (x.length : Int) := by omega
        have hjy : (j : Int) < (y.length : Int) := by omega
        clear x0 x1 x2 y0 y1 y2
        go_wp2_with fail
        refine Go.Shr.wp_region_F (fun w' => (w'.cell? ⟨xb, xoff + j * 3, none⟩ = some (.int .i64 t.n) ∧ w'.cell? ⟨xb, xoff + j * 3 + 1, none⟩ = some (.string t.s) ∧ w'.cell? ⟨xb, xoff + j * 3 + 2, none⟩ = some (.slice ta t.kids.length tcap)) ∧ (w'.cell? ⟨yb, yoff + j * 3, none⟩ = some (.int .i64 u.n) ∧ w'.cell? ⟨yb, yoff + j * 3 + 1, none⟩ = some (.string u.s) ∧ w'.cell? ⟨yb, yoff + j * 3 + 2, none⟩ = some (.slice ua u.kids.length ucap))) [] (by kernel_rfl) ?g3rgS (fun hHeld => ?g3rgR)
        case g3rgS => (try dsimp only); (first | exact HCC.out | exact ⟨⟨cb hb8 HCC.out.1.1, cb hb8 HCC.out.1.2.1, cb hb8 HCC.out.1.2.2⟩, cb hb8 HCC.out.2.1, cb hb8 HCC.out.2.2.1, cb hb8 HCC.out.2.2.2⟩)
        try dsimp only at hHeld
        refine Go.Shr.wpAnyF_take 0 (oi := { dst := some 17, op := Go.Op.move (Go.Operand.tmp 0), type := 28, pos := "law.go:34", after := #[], guard := none }) (v := ?g3rv1) rfl (by kernel_rfl) (fun _ _ _ h => h) (by assumption) (by rfl) ?g3ry1 ?g3rr1
        case g3ry1 => intro w hSw; obtain ⟨⟨s1, s2, s3⟩, s4, s5, s6⟩ := hSw; go_simp; try with_reducible rfl
        try simp only [Act.put, List.setIfInBounds_toArray, List.set_cons_zero, List.set_cons_succ]
        refine Go.Shr.wpAnyF_take 1 (oi := { dst := some 18, op := Go.Op.move (Go.Operand.tmp 5), type := 3, pos := "law.go:34", after := #[], guard := none }) (v := ?g3rv2) rfl (by kernel_rfl) (fun _ _ _ h => h) (by assumption) (by rfl) ?g3ry2 ?g3rr2
        case g3ry2 => intro w hSw; obtain ⟨⟨s1, s2, s3⟩, s4, s5, s6⟩ := hSw; go_simp; try with_reducible rfl
        try simp only [Act.put, List.setIfInBounds_toArray, List.set_cons_zero, List.set_cons_succ]
        refine Go.Shr.wpAnyF_take 2 (oi := { dst := some 19, op := Go.Op.indexAddr 28 (Go.Operand.tmp 17) (Go.Operand.tmp 18), type := 0, pos := "law.go:34", after := #[{ on := 0, ground := Go.Ground.data }, { on := 1, ground := Go.Ground.data }], guard := none }) (v := ?g3rv3) rfl (by kernel_rfl) (fun _ _ _ h => h) (by assumption) (by rfl) ?g3ry3 ?g3rr3
        case g3ry3 => intro w hSw; obtain ⟨⟨s1, s2, s3⟩, s4, s5, s6⟩ := hSw; go_simp; try with_reducible rfl
        try simp only [Act.put, List.setIfInBounds_toArray, List.set_cons_zero, List.set_cons_succ]
        refine Go.Shr.wpAnyF_take 3 (oi := { dst := some 20, op := Go.Op.load 35 (Go.Operand.tmp 19), type := 35, pos := "law.go:34", after := #[{ on := 2, ground := Go.Ground.data }], guard := none }) (v := ?g3rv4) rfl (by kernel_rfl) (fun _ _ _ h => h) (by assumption) (by rfl) ?g3ry4 ?g3rr4
        case g3ry4 => intro w hSw; obtain ⟨⟨s1, s2, s3⟩, s4, s5, s6⟩ := hSw; go_simp; try with_reducible rfl
        try simp only [Act.put, List.setIfInBounds_toArray, List.set_cons_zero, List.set_cons_succ]
        refine Go.Shr.wpAnyF_take 4 (oi := { dst := some 21, op := Go.Op.move (Go.Operand.tmp 1), type := 28, pos := "law.go:34", after := #[], guard := none }) (v := ?g3rv5) rfl (by kernel_rfl) (fun _ _ _ h => h) (by assumption) (by rfl) ?g3ry5 ?g3rr5
        case g3ry5 => intro w hSw; obtain ⟨⟨s1, s2, s3⟩, s4, s5, s6⟩ := hSw; go_simp; try with_reducible rfl
        try simp only [Act.put, List.setIfInBounds_toArray, List.set_cons_zero, List.set_cons_succ]
        refine Go.Shr.wpAnyF_take 5 (oi := { dst := some 22, op := Go.Op.move (Go.Operand.tmp 5), type := 3, pos := "law.go:34", after := #[], guard := none }) (v := ?g3rv6) rfl (by kernel_rfl) (fun _ _ _ h => h) (by assumption) (by rfl) ?g3ry6 ?g3rr6
        case g3ry6 => intro w hSw; obtain ⟨⟨s1, s2, s3⟩, s4, s5, s6⟩ := hSw; go_simp; try with_reducible rfl
        try simp only [Act.put, List.setIfInBounds_toArray, List.set_cons_zero, List.set_cons_succ]
        refine Go.Shr.wpAnyF_take 6 (oi := { dst := some 23, op := Go.Op.indexAddr 28 (Go.Operand.tmp 21) (Go.Operand.tmp 22), type := 0, pos := "law.go:34", after := #[{ on := 4, ground := Go.Ground.data }, { on := 5, ground := Go.Ground.data }], guard := none }) (v := ?g3rv7) rfl (by kernel_rfl) (fun _ _ _ h => h) (by assumption) (by rfl) ?g3ry7 ?g3rr7
        case g3ry7 => intro w hSw; obtain ⟨⟨s1, s2, s3⟩, s4, s5, s6⟩ := hSw; go_simp; try with_reducible rfl
        try simp only [Act.put, List.setIfInBounds_toArray, List.set_cons_zero, List.set_cons_succ]
        refine Go.Shr.wpAnyF_take 7 (oi := { dst := some 24, op := Go.Op.load 35 (Go.Operand.tmp 23), type := 35, pos := "law.go:34", after := #[{ on := 6, ground := Go.Ground.data }], guard := none }) (v := ?g3rv8) rfl (by kernel_rfl) (fun _ _ _ h => h) (by assumption) (by rfl) ?g3ry8 ?g3rr8
        case g3ry8 => intro w hSw; obtain ⟨⟨s1, s2, s3⟩, s4, s5, s6⟩ := hSw; go_simp; try with_reducible rfl
        try simp only [Act.put, List.setIfInBounds_toArray, List.set_cons_zero, List.set_cons_succ]
        refine Go.Shr.wpAnyF_ready [8] (by kernel_rfl) (by simp) ?_
        refine Go.Shr.AllReadyF.cons 8 (o := { dst := some 25, op := Go.Op.call { callee := Go.Callee.value (Go.Operand.func 22), args := #[Go.Operand.tmp 20, Go.Operand.tmp 24], argTypes := #[35, 35] }, type := 4, pos := "law.go:34", after := #[{ on := 3, ground := Go.Ground.data }, { on := 7, ground := Go.Ground.data }], guard := none }) rfl (fun K hK => ?g3ro9) ?g3rm9
        case g3rm9 => exact Go.Shr.AllReadyF.nil
        go_simp; refine (same_all (t.size + 1) t u (by omega) ta ua tcap ucap wr.drew (TrAt.below HB.out.drew _ _ HT.out) (TrAt.below HB.out.drew _ _ HU.out)).mono ?_; rintro e w8 ⟨rfl, hb8⟩; dsimp only
        refine hK.out _ _ ?g3rs9 (fun hHeld => ?g3rt9)
        case g3rs9 => (try dsimp only); (first | exact HCC.out | exact ⟨⟨cb hb8 HCC.out.1.1, cb hb8 HCC.out.1.2.1, cb hb8 HCC.out.1.2.2⟩, cb hb8 HCC.out.2.1, cb hb8 HCC.out.2.2.1, cb hb8 HCC.out.2.2.2⟩)
        try dsimp only at hHeld
        clear hK K
        try simp only [Act.put, List.setIfInBounds_toArray, List.set_cons_zero, List.set_cons_succ]
        refine Go.Shr.wpAnyF_take 9 (oi := { dst := some 26, op := Go.Op.unOp Go.UnOp.not 4 (Go.Operand.tmp 25), type := 4, pos := "law.go:34", after := #[{ on := 8, ground := Go.Ground.data }], guard := none }) (v := ?g3rv10) rfl (by kernel_rfl) (fun _ _ _ h => h) (by assumption) (by rfl) ?g3ry10 ?g3rr10
        case g3ry10 => intro w hSw; obtain ⟨⟨s1, s2, s3⟩, s4, s5, s6⟩ := hSw; go_simp; try with_reducible rfl
        try simp only [Act.put, List.setIfInBounds_toArray, List.set_cons_zero, List.set_cons_succ]
        refine Go.Shr.wpAnyF_done (by kernel_rfl) ?_
        clear hHeld
        have hb8' : Below wr.heap.size wr w8 := bt (b0 wr).drew hb8
        have HB8 := Lib.hid (bt HB.out hb8')
        clear hb8 hb8' HCC
        cases hst : sameT t u with
        | true =>
          have HE2 : Hid (sameL (x.take (j + 1)) (y.take (j + 1)) = true) := Lib.hid (by rw [HTK.out, HE.out, hst]; rfl)
          clear hst
          go_wp2_with fail
          go_roundw
          case rel => exact ⟨j + 1, by go_num, by omega, HE2, HB8⟩
          case measure => simp [intOf]; omega
        | false =>
          have HF := Lib.hid (HDROP.out hst)
          clear hst
          go_wp2_with fail
          go_ret
          exact ⟨by rw [HF.out]; rfl, HB8.out⟩
      · obtain rfl : j = x.length := by omega
        have HF : Hid (sameL x y = true) := Lib.hid (by
          have h := HE.out
          rw [List.take_length, List.take_of_length_le (by have := HL.out; omega)] at h
          exact h)
        go_wp2_with fail
        go_ret
        exact ⟨by rw [HF.out]; rfl, HB.out⟩
  · have hlb : ((x.length : Int) != (y.length : Int)) = true := by simp; omega
    have HF : Hid (sameL x y = false) := Lib.hid (by
      cases hs : sameL x y with
      | false => rfl
      | true => exact absurd (congrArg List.length ((sameL_iff x y).1 hs)) hl)
    clear hl
    go_enter Try.func16, Try.ntmps16
    go_wp2_with fail
    go_ret
    exact ⟨by rw [HF.out]; rfl, b0 w⟩
theorem encR_nil (sh : Sh) : encR sh [] = [0] := by simp [encR, vput_lt]
set_option maxHeartbeats 400000 in
theorem known9 (w : World) : Calls Try.prog 11 #[] w fun e w' => e = .returned (.bool true) ∧ Below w.heap.size w w' := by
  go_enter Try.func11, Try.ntmps11
  go_wp2_with fail
  refine (make5 none 0 0 [] w (Sl.nil _ _ _ _) (by simp)).mono ?_
  rintro e w1 ⟨a, cap, rfl, ho, hb1⟩
  have HSC := Lib.hid (Sl.mono (ok' := fun b => b < w1.heap.size) ho.sl (fun k hk _ => hk) (by decide))
  have HB1 := Lib.hid hb1
  clear ho hb1
  go_wp2_with fail
  refine (bytes_v (makeL []) (makeSh []) (make_sch []) a cap [] none 0 [] w1 HSC.out (Sl.nil _ _ _ _) (by simp [RowAt]) (by rw [encR_nil]; decide)).mono ?_
  rintro e w2 ⟨a', cap', rfl, ho, hb2⟩
  rw [encR_nil] at ho ⊢
  have HB2 := Lib.hid (bt HB1.out hb2)
  clear hb2
  obtain ⟨g, rfl, _, _, hc, _⟩ := ho.pos (by decide)
  have c0 := hc 0 _ (u8s_get [0] 0 (by decide))
  clear ho hc
  go_wp2_with fail
  go_ret
  exact ⟨rfl, HB2.out⟩
end Go.Proofs.Ytofhlopedflkiaa
