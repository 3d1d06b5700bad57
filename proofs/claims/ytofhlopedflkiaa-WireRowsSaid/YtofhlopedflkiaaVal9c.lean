/-
  The walk of wire's shape: value: groups.
-/
import Derived.Test.YtofhlopedflkiaaVal9
import Derived.Test.YtofhlopedflkiaaVal9a
set_option linter.unusedSimpArgs false
namespace Go.Proofs.Ytofhlopedflkiaa
open Go.RowKit Go.Shr
theorem encK_nil (ks : List Sh) : encK ks [] = [] := by cases ks <;> rfl
theorem ixL_at {l : List Fl} {K : Int → List Int} : ∀ (ks : List Sh) (o j : Nat) (h : j < ks.length), IxL l K o ks → ∃ p : Nat, (offs o ks)[j]? = some (p : Int) ∧ Ix l K p ks[j]
  | s :: r, o, 0, _, hi => by simp only [IxL] at hi; exact ⟨o, by simp [offs], hi.1⟩
  | s :: r, o, j + 1, h, hi => by
    simp only [IxL] at hi
    obtain ⟨p, h1, h2⟩ := ixL_at r (o + s.size) j (by simpa using h) hi.2
    exact ⟨p, by simpa [offs] using h1, by simpa using h2⟩
set_option maxHeartbeats 2000000 in
set_option maxRecDepth 100000 in
theorem value_w5 (B : Nat) (sa : Option Addr) (scap bk : Nat) (l : List Fl) (nm : ByteArray) (rp kd : Int) (ks : List Sh) (hlen : l.length ≤ 1000) (hA : ∀ s ∈ ks, AllW B sa scap bk l s) (c1 : kd ≠ 1) (c2 : kd ≠ 2) (c3 : kd ≠ 3) (c4 : kd ≠ 4) : ValW B sa scap bk l (.mk nm rp kd ks) := by
  intro i t ab nb cb bs ta tcap w hix hsh hT hob hbd
  obtain ⟨i0, hi0, hz0, hz1, hz2⟩ := info_parts info_u8
  simp only [Ix] at hix
  obtain ⟨hix1, hix2, hix3⟩ := hix
  obtain ⟨hil, hie⟩ := List.getElem?_eq_some_iff.1 hix1
  obtain ⟨_, _, f2, _⟩ := fls_get l i hil
  rw [hie] at f2
  dsimp only at f2
  obtain ⟨sb, soff, rfl, hsb, hsc⟩ := hsh.sl.pos (by omega)
  replace f2 := hsc _ _ f2
  rw [← Nat.add_assoc] at f2
  obtain ⟨ka, kc, k1, k2⟩ := hsh.kids i hil
  obtain ⟨_, _, _, xs, hcs, hm, hss, hsl, hkid⟩ := hT.parts'
  simp at hcs
  obtain ⟨rfl, rfl, rfl⟩ := hcs
  have hmx := Nat.le_trans hsl.le hsl.max
  have hssx := hss
  unfold maxLen at hmx hssx
  have hle := hsh.le
  have hbk := hsh.bk
  have hab := hob.lt
  have HNB := Lib.hid hob.len
  have HBD := Lib.hid hbd; have HSH := Lib.hid hsh; have HSL := Lib.hid hsl; have HKD := Lib.hid hkid; have HOB := Lib.hid hob; have HA := Lib.hid hA; have HIX := Lib.hid hix3; have HK2 := Lib.hid k2; have HIX2 := Lib.hid hix2
  have HSS := Lib.hid hss
  obtain ⟨wx, hwx⟩ : ∃ wx, wx = (w.alloc (.cells #[.slice (some ⟨sb, soff, none⟩) l.length scap, .slice (some ⟨bk, 0, none⟩) l.length l.length] 56)).alloc (.cells #[.int .i64 t.n, .string t.s, .slice ta t.kids.length tcap] 35) := ⟨_, rfl⟩
  have hbx : Below w.heap.size w wx := by rw [hwx]; exact ba (ba (b0 w) _) _
  have r4 : Rw wx w.heap.size #[.slice (some ⟨sb, soff, none⟩) l.length scap, .slice (some ⟨bk, 0, none⟩) l.length l.length] 56 := by rw [hwx]; exact (Rw.new w _ _).alloc _
  have r7 : Rw wx (w.heap.size + 1) #[.int .i64 t.n, .string t.s, .slice ta t.kids.length tcap] 35 := by rw [hwx]; exact Rw.new' (by simp)
  have hzx : wx.heap.size = w.heap.size + 2 := by rw [hwx]; simp
  replace f2 := Go.Shr.cb hbx f2
  replace k1 := Go.Shr.cb hbx k1
  have q0 : wx.cell? ⟨w.heap.size, 0, none⟩ = some (.slice (some ⟨sb, soff, none⟩) l.length scap) := r4.cell 0
  have q1 : wx.cell? ⟨w.heap.size, 1, none⟩ = some (.slice (some ⟨bk, 0, none⟩) l.length l.length) := r4.cell 1
  have p0 : wx.cell? ⟨w.heap.size + 1, 0, none⟩ = some (.int .i64 t.n) := r7.cell 0
  have p1 : wx.cell? ⟨w.heap.size + 1, 1, none⟩ = some (.string t.s) := r7.cell 1
  have p2 : wx.cell? ⟨w.heap.size + 1, 2, none⟩ = some (.slice ta t.kids.length tcap) := r7.cell 2
  have HBX := Lib.hid hbx; have HR4 := Lib.hid r4; have HR7 := Lib.hid r7
  have HOX := Lib.hid (hob.below hbx)
  have hi0' : (0 : Int) ≤ (i : Int) := by omega
  have hi1' : (i : Int) < (l.length : Int) := by omega
  clear hsc hix1 hix2 hix3 hie hsh hT hob hbd hA hsl hkid k2 hbx r4 r7 hss
  have hchg : ∀ W : World, Below wx.heap.size wx W → Chg (fun k => blk ab k ∧ B ≤ k) w W := fun W h => (Chg.ofBelow (bt HBX.out h)).mono (fun i hi h => by omega)
  have HCHG := Lib.hid hchg
  have HZX := Lib.hid hzx
  clear hchg hzx
  go_enter Try.func26, Try.ntmps26
  go_upto_region 1 with fail
  rw [← hwx]; clear hwx
  have HE : Hid (encT (.mk nm rp kd ks) t = encK ks t.kids) := Lib.hid (by rw [encT, if_neg c1, if_neg c2, if_neg c3, if_neg c4])
  have HL : Hid (nb + (encK ks t.kids).length ≤ 10000000000000) := Lib.hid (by have := HBD.out; rw [HE.out] at this; exact this)
  have b1 : (kd == 1) = false := beq_eq_false_iff_ne.2 c1
  have b2 : (kd == 2) = false := beq_eq_false_iff_ne.2 c2
  have b3 : (kd == 3) = false := beq_eq_false_iff_ne.2 c3
  have b4 : (kd == 4) = false := beq_eq_false_iff_ne.2 c4
  have hkl : (KF l i).length = ks.length := by rw [show KF l i = offs (i + 1) ks from HIX2.out, offs_len]
  have hKF : KF l i = offs (i + 1) ks := HIX2.out
  have K2 := HK2.out
  rw [hkl] at k1 K2
  rw [hKF] at K2
  have HK3 := Lib.hid K2
  have hksl : ks.length ≤ 1000 := by have := kidsOf_len (par l) (i : Int); rw [par_length] at this; have h2 : (KF l i).length = (kidsOf (par l) (i : Int)).length := rfl; omega
  clear c1 c2 c3 c4 hKF K2 hkl HBD
  have HC0 := Lib.hid (HCHG.out wx (b0 wx))
  go_wp2_with fail
  clear k1 f2 q0 q1 p0 p1 p2 b1 b2 b3 b4
  go_loopw [1, 56] (fun bv iv wr => ∃ (j : Nat) (a' : Option Addr) (n' cap' : Nat) (bs' : List UInt8), bv = .slice a' n' cap' ∧ iv = .int .i64 (j : Int) ∧ j ≤ ks.length ∧ Hid (OB B wr a' n' cap' bs') ∧ Hid (bs' ++ encK (ks.drop j) (t.kids.drop j) = bs ++ encK ks t.kids) ∧ Hid (Chg (fun k => blk ab k ∧ B ≤ k) w wr) ∧ Hid (∀ k, blk a' k → blk ab k ∨ w.heap.size + 2 ≤ k)
    ∧ Hid (Rw wr w.heap.size #[.slice (some ⟨sb, soff, none⟩) l.length scap, .slice (some ⟨bk, 0, none⟩) l.length l.length] 56) ∧ Hid (Rw wr (w.heap.size + 1) #[.int .i64 t.n, .string t.s, .slice ta t.kids.length tcap] 35)) (fun _ iv _ => ks.length - (intOf iv).toNat)
  case atStart => exact ⟨0, ab, nb, cb, bs, rfl, rfl, Nat.zero_le _, HOX, Lib.hid rfl, HC0, Lib.hid (fun k hk => .inl hk), HR4, HR7⟩
  case round =>
    clear HC0 HR4 HR7
    obtain ⟨j, ar, nr, cr, bs', rfl, rfl, hj, HO, HQ, HC, HN, R4, R7⟩ := hrel
    have hszr := HC.out.size
    have HLOW := Lib.hid (HC.out.lower hle)
    have HCAP : Hid (nr + (encK (ks.drop j) (t.kids.drop j)).length ≤ 10000000000000) := Lib.hid (by
      have h1 := congrArg List.length HQ.out
      have h2 := HL.out
      have h3 := HO.out.len
      have h4 := HNB.out
      simp only [List.length_append] at h1
      omega)
    by_cases hlt : j < ks.length
    · obtain ⟨jb, joff, hja, hjb, hjc⟩ := HK3.out.pos (by omega)
      have hol : j < (offs (i + 1) ks).length := by rw [offs_len]; exact hlt
      have g1 := (Chg.ofBelow HLOW.out).keep (hjc _ _ (ints_get (offs (i + 1) ks) j hol)) (by omega)
      obtain ⟨o, ho, hixo⟩ := ixL_at ks (i + 1) j hlt HIX.out
      have hoe : (offs (i + 1) ks)[j] = (o : Int) := by rw [List.getElem?_eq_getElem hol] at ho; exact Option.some.inj ho
      rw [hoe] at g1
      have p2 : wr.cell? ⟨w.heap.size + 1, 2, none⟩ = some (.slice ta t.kids.length tcap) := R7.out.cell 2
      have hmem : ks[j] ∈ ks := List.getElem_mem hlt
      have HAS := Lib.hid (HA.out _ hmem)
      have HDR : Hid (ks.drop j = ks[j] :: ks.drop (j + 1)) := Lib.hid (List.drop_eq_getElem_cons hlt)
      have HIXO := Lib.hid hixo
      generalize ks[j] = s at *
      subst hja
      clear hjc ho hoe hol hixo hmem
      by_cases hkl : j < t.kids.length
      · obtain ⟨xb, xoff, hxa, hxb, hxc⟩ := HSL.out.pos (by omega)
        obtain ⟨la, lcap, ys, g0, hys, hrow⟩ := HKD.out.get' j hkl
        have g0w := (Chg.ofBelow HLOW.out).keep (hxc _ _ g0) (by omega)
        have hmx2 := Nat.le_trans hys.le hys.max
        unfold maxLen at hmx2
        have HDK : Hid (t.kids.drop j = t.kids[j] :: t.kids.drop (j + 1)) := Lib.hid (List.drop_eq_getElem_cons hkl)
        generalize t.kids[j] = x at *
        have HENC : Hid (encK (ks.drop j) (t.kids.drop j) = encA s x ++ encK (ks.drop (j + 1)) (t.kids.drop (j + 1))) := Lib.hid (by rw [HDR.out, HDK.out, encK_cons])
        have HCAP2 : Hid (nr + (encA s x).length ≤ 10000000000000) := Lib.hid (by have := HCAP.out; rw [HENC.out, List.length_append] at this; omega)
        have HYS := Lib.hid hys; have HROW := Lib.hid hrow
        subst hxa
        have HG0 := Lib.hid g0w
        clear hxc g0 hys hrow
        go_wp2_with fail
        refine Go.Shr.wp_region_F (fun w' => Rw w' w.heap.size #[.slice (some ⟨sb, soff, none⟩) l.length scap, .slice (some ⟨bk, 0, none⟩) l.length l.length] 56 ∧ w'.cell? ⟨w.heap.size + 1, 2, none⟩ = some (.slice (some ⟨xb, xoff, none⟩) t.kids.length tcap) ∧ w'.cell? ⟨xb, xoff + j, none⟩ = some (.slice la x.length lcap)) [8, 9] (by kernel_rfl) ?g2rgS (fun hHeld => ?g2rgR)
        case g2rgS => (try dsimp only); (first | exact ⟨R4.out.drew, p2, HG0.out⟩ | exact hHeld | trivial)
        try dsimp only at hHeld
        refine Go.Shr.wpAnyF_take 0 (oi := { dst := some 66, op := Go.Op.load 56 (Go.Operand.tmp 4), type := 56, pos := "wire.go:50", after := #[], guard := none }) (v := ?g2rv1) rfl (by kernel_rfl) (fun _ _ _ h => h) (by assumption) (by rfl) ?g2ry1 ?g2rr1
        case g2ry1 => intro w hSw; (obtain ⟨s1, s2, s3⟩ := hSw); (have s4 := s1.cell 0); (have s5 := s1.cell 1); (simp only [List.getElem?_toArray, List.getElem?_cons_zero, List.getElem?_cons_succ] at s4 s5); go_simp; try with_reducible rfl
        try simp only [Act.put, List.setIfInBounds_toArray, List.set_cons_zero, List.set_cons_succ]
        refine Go.Shr.wpAnyF_take 1 (oi := { dst := some 67, op := Go.Op.move (Go.Operand.tmp 1), type := 30, pos := "wire.go:50", after := #[], guard := none }) (v := ?g2rv2) rfl (by kernel_rfl) (fun _ _ _ h => h) (by assumption) (by rfl) ?g2ry2 ?g2rr2
        case g2ry2 => intro w hSw; (obtain ⟨s1, s2, s3⟩ := hSw); (have s4 := s1.cell 0); (have s5 := s1.cell 1); (simp only [List.getElem?_toArray, List.getElem?_cons_zero, List.getElem?_cons_succ] at s4 s5); go_simp; try with_reducible rfl
        try simp only [Act.put, List.setIfInBounds_toArray, List.set_cons_zero, List.set_cons_succ]
        refine Go.Shr.wpAnyF_take 2 (oi := { dst := some 68, op := Go.Op.move (Go.Operand.tmp 10), type := 3, pos := "wire.go:50", after := #[], guard := none }) (v := ?g2rv3) rfl (by kernel_rfl) (fun _ _ _ h => h) (by assumption) (by rfl) ?g2ry3 ?g2rr3
        case g2ry3 => intro w hSw; (obtain ⟨s1, s2, s3⟩ := hSw); (have s4 := s1.cell 0); (have s5 := s1.cell 1); (simp only [List.getElem?_toArray, List.getElem?_cons_zero, List.getElem?_cons_succ] at s4 s5); go_simp; try with_reducible rfl
        try simp only [Act.put, List.setIfInBounds_toArray, List.set_cons_zero, List.set_cons_succ]
        refine Go.Shr.wpAnyF_take 3 (oi := { dst := some 69, op := Go.Op.fieldAddr 35 (Go.Operand.tmp 7) 2, type := 0, pos := "wire.go:50", after := #[], guard := none }) (v := ?g2rv4) rfl (by kernel_rfl) (fun _ _ _ h => h) (by assumption) (by rfl) ?g2ry4 ?g2rr4
        case g2ry4 => intro w hSw; (obtain ⟨s1, s2, s3⟩ := hSw); (have s4 := s1.cell 0); (have s5 := s1.cell 1); (simp only [List.getElem?_toArray, List.getElem?_cons_zero, List.getElem?_cons_succ] at s4 s5); go_simp; try with_reducible rfl
        try simp only [Act.put, List.setIfInBounds_toArray, List.set_cons_zero, List.set_cons_succ]
        refine Go.Shr.wpAnyF_take 4 (oi := { dst := some 70, op := Go.Op.load 33 (Go.Operand.tmp 69), type := 33, pos := "wire.go:50", after := #[{ on := 3, ground := Go.Ground.data }], guard := none }) (v := ?g2rv5) rfl (by kernel_rfl) (fun _ _ _ h => h) (by assumption) (by rfl) ?g2ry5 ?g2rr5
        case g2ry5 => intro w hSw; (obtain ⟨s1, s2, s3⟩ := hSw); (have s4 := s1.cell 0); (have s5 := s1.cell 1); (simp only [List.getElem?_toArray, List.getElem?_cons_zero, List.getElem?_cons_succ] at s4 s5); go_simp; try with_reducible rfl
        try simp only [Act.put, List.setIfInBounds_toArray, List.set_cons_zero, List.set_cons_succ]
        refine Go.Shr.wpAnyF_take 5 (oi := { dst := some 71, op := Go.Op.move (Go.Operand.tmp 9), type := 3, pos := "wire.go:50", after := #[], guard := none }) (v := ?g2rv6) rfl (by kernel_rfl) (fun _ _ _ h => h) (by assumption) (by rfl) ?g2ry6 ?g2rr6
        case g2ry6 => intro w hSw; (obtain ⟨s1, s2, s3⟩ := hSw); (have s4 := s1.cell 0); (have s5 := s1.cell 1); (simp only [List.getElem?_toArray, List.getElem?_cons_zero, List.getElem?_cons_succ] at s4 s5); go_simp; try with_reducible rfl
        try simp only [Act.put, List.setIfInBounds_toArray, List.set_cons_zero, List.set_cons_succ]
        refine Go.Shr.wpAnyF_take 6 (oi := { dst := some 72, op := Go.Op.indexAddr 33 (Go.Operand.tmp 70) (Go.Operand.tmp 71), type := 0, pos := "wire.go:50", after := #[{ on := 4, ground := Go.Ground.data }, { on := 5, ground := Go.Ground.data }], guard := none }) (v := ?g2rv7) rfl (by kernel_rfl) (fun _ _ _ h => h) (by assumption) (by rfl) ?g2ry7 ?g2rr7
        case g2ry7 => intro w hSw; (obtain ⟨s1, s2, s3⟩ := hSw); (have s4 := s1.cell 0); (have s5 := s1.cell 1); (simp only [List.getElem?_toArray, List.getElem?_cons_zero, List.getElem?_cons_succ] at s4 s5); go_simp; try with_reducible rfl
        try simp only [Act.put, List.setIfInBounds_toArray, List.set_cons_zero, List.set_cons_succ]
        refine Go.Shr.wpAnyF_take 7 (oi := { dst := some 73, op := Go.Op.load 28 (Go.Operand.tmp 72), type := 28, pos := "wire.go:50", after := #[{ on := 6, ground := Go.Ground.data }], guard := none }) (v := ?g2rv8) rfl (by kernel_rfl) (fun _ _ _ h => h) (by assumption) (by rfl) ?g2ry8 ?g2rr8
        case g2ry8 => intro w hSw; (obtain ⟨s1, s2, s3⟩ := hSw); (have s4 := s1.cell 0); (have s5 := s1.cell 1); (simp only [List.getElem?_toArray, List.getElem?_cons_zero, List.getElem?_cons_succ] at s4 s5); go_simp; try with_reducible rfl
        try simp only [Act.put, List.setIfInBounds_toArray, List.set_cons_zero, List.set_cons_succ]
        refine Go.Shr.wpAnyF_ready [8] (by kernel_rfl) (by simp) ?_
        refine Go.Shr.AllReadyF.last 8 (o := { dst := some 74, op := Go.Op.call { callee := Go.Callee.value (Go.Operand.func 42), args := #[Go.Operand.tmp 66, Go.Operand.tmp 67, Go.Operand.tmp 68, Go.Operand.tmp 73], argTypes := #[56, 30, 3, 28] }, type := 30, pos := "wire.go:50", after := #[{ on := 0, ground := Go.Ground.data }, { on := 1, ground := Go.Ground.data }, { on := 2, ground := Go.Ground.data }, { on := 7, ground := Go.Ground.data }], guard := none }) rfl (by kernel_rfl) (fun K hK => ?g2ro9) ?g2rm9
        case g2rm9 => exact Go.Shr.AllReadyF.nil
        go_simp; refine (HAS.out o x ar nr cr bs' la lcap ys wr.drew HIXO.out (HSH.out.keep (HLOW.out.drew)) (HYS.out.chg (Chg.ofBelow HLOW.out.drew) (fun k hk => by omega)) (HROW.out.go (Chg.ofBelow HLOW.out.drew) (fun b hb h => ⟨by omega, h⟩)) (HO.out.below (b0 wr).drew) HCAP2.out).mono ?_; rintro e w6 ⟨a6, n6, c6, rfl, ho6, hc6, hn6⟩; dsimp only
        refine hK.out _ _ ?_
        clear hK K
        try simp only [Act.put, List.setIfInBounds_toArray, List.set_cons_zero, List.set_cons_succ]
        refine Go.Shr.wpAnyF_ready [9] (by kernel_rfl) (by simp) ?_
        refine Go.Shr.AllReadyF.last 9 (o := { dst := some 1, op := Go.Op.assign (Go.Operand.tmp 74), type := 30, pos := "wire.go:50", after := #[{ on := 8, ground := Go.Ground.data }, { on := 8, ground := Go.Ground.chain }, { on := 0, ground := Go.Ground.phase }, { on := 1, ground := Go.Ground.phase }, { on := 2, ground := Go.Ground.phase }, { on := 3, ground := Go.Ground.phase }, { on := 4, ground := Go.Ground.phase }, { on := 5, ground := Go.Ground.phase }, { on := 6, ground := Go.Ground.phase }, { on := 7, ground := Go.Ground.phase }, { on := 8, ground := Go.Ground.phase }], guard := none }) rfl (by kernel_rfl) (fun K hK => ?g2ro10) ?g2rm10
        case g2rm10 => exact Go.Shr.AllReadyF.nil
        go_simp
        refine hK.out _ _ ?_
        clear hK K
        try simp only [Act.put, List.setIfInBounds_toArray, List.set_cons_zero, List.set_cons_succ]
        refine Go.Shr.wpAnyF_done (by kernel_rfl) ?_
        have hnn := HN.out
        have HO6 := Lib.hid ho6
        have HC6 : Hid (Chg (fun k => blk ab k ∧ B ≤ k) w w6) := Lib.hid (HC.out.drew.trans hc6 (fun i hi h => by
          rcases hnn i h.1 with h3 | h3
          · exact ⟨h3, h.2⟩
          · omega))
        have HN6 : Hid (∀ k, blk a6 k → blk ab k ∨ w.heap.size + 2 ≤ k) := Lib.hid (fun k hk => by
          rcases hn6 k hk with h3 | h3
          · exact hnn k h3
          · have h4 : wr.heap.size ≤ k := h3
            have := R7.out.lt; exact .inr (by omega))
        have HR46 := Lib.hid (R4.out.drew.chg hc6 (fun h => by
          rcases hnn _ h.1 with h3 | h3
          · have := hab _ h3; omega
          · omega))
        have HR76 := Lib.hid (R7.out.drew.chg hc6 (fun h => by
          rcases hnn _ h.1 with h3 | h3
          · have := hab _ h3; omega
          · omega))
        clear ho6 hc6 hn6 hnn p2 g1 g0w
        try clear hHeld
        go_wp2_with fail
        go_roundw
        case rel => exact ⟨j + 1, a6, n6, c6, _, rfl, by go_num, by omega, HO6, Lib.hid (by rw [List.append_assoc, ← HENC.out]; exact HQ.out), HC6, HN6, HR46, HR76⟩
        case measure => simp [intOf]; omega
      · have e1 : t.kids.drop j = [] := List.drop_eq_nil_of_le (by omega)
        have e2 : t.kids.drop (j + 1) = [] := List.drop_eq_nil_of_le (by omega)
        have HQ2 : Hid (bs' ++ encK (ks.drop (j + 1)) (t.kids.drop (j + 1)) = bs ++ encK ks t.kids) := Lib.hid (by rw [← HQ.out, e1, e2, encK_nil, encK_nil])
        have hkl' : ¬ (j : Int) < (t.kids.length : Int) := by omega
        clear e1 e2
        go_wp2_with fail
        go_roundw
        case rel => exact ⟨j + 1, ar, nr, cr, bs', rfl, by go_num, by omega, HO, HQ2, HC, HN, R4, R7⟩
        case measure => simp [intOf]; omega
    · obtain rfl : j = ks.length := by omega
      have HO2 : Hid (OB B wr ar nr cr (bs ++ encK ks t.kids)) := Lib.hid (by
        have h := HQ.out
        rw [List.drop_length, encK, List.append_nil] at h
        rw [← h]; exact HO.out)
      clear hlt
      go_wp2_with fail
      go_ret
      rw [HE.out]
      exact ⟨ar, nr, cr, rfl, HO2.out, HC.out, fun k hk => (HN.out k hk).imp id (fun h => by omega)⟩
end Go.Proofs.Ytofhlopedflkiaa
