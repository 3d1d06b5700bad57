/-
  The walks of the document's Put of cursor.
-/
import Derived.Test.YtofhlopedflkiaaVal9
import Derived.Test.YtofhlopedflkiaaRef3
import Derived.Test.YtofhlopedflkiaaMake8
set_option linter.unusedSimpArgs false
namespace Go.Proofs.Ytofhlopedflkiaa
open Go.RowKit Go.Shr
set_option maxHeartbeats 400000 in
set_option maxRecDepth 100000 in
theorem rcput_u8 (ok : Nat → Prop) (a : Option Addr) (n cap : Nat) (bs : List UInt8) (k v : Nat) (w : World) (h : Sl ok w 1 a n cap (u8s bs)) (hn : n ≤ 10000000000000) (hk : k ≤ 8) (_hv : v < 18446744073709551616) :
    Calls Try.prog 50 #[.slice a n cap, .int .i64 k, .int .u64 v] w fun e w' => ∃ a' cap', e = .returned (.slice a' (n + k) cap') ∧ Own w.heap.size w' 5 1 a' (n + k) cap' (u8s (bs ++ leN k v)) ∧ Below w.heap.size w w' := by
  obtain ⟨i0, hi, hz0, hz1, hz2⟩ := info_parts info_u8
  have hs := (h.alloc (.cells #[] 5)).src (P := Try.prog) (tx := 30) Try.underlying30 (u8s_one _)
  have HS := Lib.hid hs
  have HLEN := Lib.hid h.len
  clear hs h
  have hk8 : (k : Int) ≤ 8 := by omega
  go_enter Try.func50, Try.ntmps50
  go_wp2_with (at_builtin; refine wpList_append (B := w.heap.size) rfl _ _ _ _ rfl i0 (.int .u8 0) 1 Try.underlying30 hi hz0 hz1 hz2 rfl rfl (Own.bare _ _ _ _ _) _ rfl _ _ HS.out (by simp only [maxLen]; omega) (by omega) (by simp) ?_; intro a1 cap1 w1 hown1 hchg1 hnew1)
  have hb1 : Below w.heap.size w w1 := ((Below.refl _ _).alloc (Nat.le_refl _) _).trans (hchg1.below (by simp) (fun i hi ⟨_, h2⟩ => by omega))
  have HO1 : Hid (Own w.heap.size w1 5 1 a1 n cap1 (u8s bs)) := Lib.hid (by simpa using hown1)
  have HB1 := Lib.hid hb1
  clear hown1 hchg1 hnew1 hb1
  go_loopw [0, 7] (fun b0 v0 wr => ∃ (j : Nat) (ar : Option Addr) (capr : Nat), b0 = .slice ar (n + j) capr ∧ v0 = .int .i64 j ∧ j ≤ k ∧ Hid (Own w.heap.size wr 5 1 ar (n + j) capr (u8s (bs ++ leN j v))) ∧ Hid (Below w.heap.size w wr)) (fun _ v0 _ => k - (intOf v0).toNat)
  case atStart => exact ⟨0, a1, cap1, by simp, rfl, Nat.zero_le _, Lib.hid (by simpa [leN] using HO1.out), HB1⟩
  case round =>
    clear HO1 HB1
    obtain ⟨j, ar, capr, rfl, rfl, hj, HO, HB⟩ := hrel
    have HAH := Lib.hid HO.out.alloc
    have hszr := HB.out.size
    by_cases hlt : j < k
    · go_wp2_with (at_builtin; refine wpList_append (B := w.heap.size) rfl _ _ _ _ rfl i0 (.int .u8 0) 1 Try.underlying30 hi hz0 hz1 hz2 rfl rfl (HAH.out _) _ rfl _ _ (src_one Try.underlying30 wr _ _ rfl) (by simp only [maxLen]; omega) (by omega) (by simp; omega) ?_; intro a' cap' w' hown hchg hnew)
      go_roundw
      case rel =>
        have e : (v : Int) / 2 ^ (8 * j) % 256 = ((v / 256 ^ j % 256 : Nat) : Int) := by
          have h256 : (256 : Nat) ^ j = 2 ^ (8 * j) := by rw [Nat.pow_mul]
          rw [h256]; simp
        refine ⟨j + 1, a', cap', rfl, by go_num, by omega, Lib.hid ?_, Lib.hid ?_⟩
        · rw [e] at hown
          rw [leN_snoc, ← List.append_assoc, ← u8s_snoc _ _ (Nat.mod_lt _ (by decide))]
          exact hown
        · exact (HB.out.alloc HB.out.size _).trans (hchg.below (by simp; omega) (fun i hi ⟨_, h2⟩ => by omega))
      case measure => simp [intOf]; omega
    · obtain rfl : j = k := by omega
      clear hlt
      go_wp2_with fail
      go_ret
      exact ⟨ar, capr, rfl, HO.out, HB.out⟩
/-- What the document's put appends of a shape. -/
def PutW (B : Nat) (sa : Option Addr) (scap : Nat) (pa : Option Addr) (pcap : Nat) (l : List Fl) (s : Sh) : Prop :=
  ∀ (i : Nat) (t : Tr) (ab : Option Addr) (nb cb : Nat) (bs : List UInt8) (ta : Option Addr) (tcap : Nat) (w : World), Ix l (KF l) i s → B ≤ w.heap.size → Sl (fun b => b < B) w 4 sa l.length scap (fls l) → Sl (fun b => b < B) w 1 pa l.length pcap (ints (par l)) →
    TrG (fun b => b < B) w t [.int .i64 t.n, .string t.s, .slice ta t.kids.length tcap] → okT s t → OB B w ab nb cb bs → nb + (encT s t).length ≤ 10000000000000 →
    Calls Try.prog 34 #[.slice ab nb cb, .slice sa l.length scap, .slice pa l.length pcap, .int .i64 i, .agg #[.int .i64 t.n, .string t.s, .slice ta t.kids.length tcap]] w (EncQ B ab bs (encT s t) w)
set_option maxHeartbeats 2000000 in
set_option maxRecDepth 100000 in
theorem put_leaf (B : Nat) (sa : Option Addr) (scap : Nat) (pa : Option Addr) (pcap : Nat) (l : List Fl) (nm : ByteArray) (rp kd : Int) (ks : List Sh) (hkd : kd = 1 ∨ kd = 2 ∨ kd = 3 ∨ kd = 4) : PutW B sa scap pa pcap l (.mk nm rp kd ks) := by
  intro i t ab nb cbp bs ta tcap w hix hle hsl hpl hT hok hob hbd
  obtain ⟨i0, hi0, hz0, hz1, hz2⟩ := info_parts info_u8
  simp only [Ix] at hix
  obtain ⟨hix1, hix2, hix3⟩ := hix
  obtain ⟨hil, hie⟩ := List.getElem?_eq_some_iff.1 hix1
  obtain ⟨_, _, f2, _⟩ := fls_get l i hil
  rw [hie] at f2
  dsimp only at f2
  obtain ⟨sb, soff, rfl, hsb, hsc⟩ := hsl.pos (by omega)
  replace f2 := hsc _ _ f2
  rw [← Nat.add_assoc] at f2
  obtain ⟨_, _, _, xs, hcs, hm, hss, hkl, hkid⟩ := hT.parts'
  simp at hcs
  obtain ⟨rfl, rfl, rfl⟩ := hcs
  have hmx := Nat.le_trans hkl.le hkl.max
  unfold maxLen at hmx
  have hab := hob.lt
  have HNB := Lib.hid hob.len
  have HBD := Lib.hid hbd; have HOK := Lib.hid hok
  obtain ⟨wx, hwx⟩ : ∃ wx, wx = w.alloc (.cells #[.int .i64 t.n, .string t.s, .slice ta t.kids.length tcap] 35) := ⟨_, rfl⟩
  have hbx : Below w.heap.size w wx := by rw [hwx]; exact ba (b0 w) _
  have r9 : Rw wx w.heap.size #[.int .i64 t.n, .string t.s, .slice ta t.kids.length tcap] 35 := by rw [hwx]; exact Rw.new w _ _
  have hzx : wx.heap.size = w.heap.size + 1 := by rw [hwx]; simp
  replace f2 := cb hbx f2
  have p0 : wx.cell? ⟨w.heap.size, 0, none⟩ = some (.int .i64 t.n) := r9.cell 0
  have p1 : wx.cell? ⟨w.heap.size, 1, none⟩ = some (.string t.s) := r9.cell 1
  have p2 : wx.cell? ⟨w.heap.size, 2, none⟩ = some (.slice ta t.kids.length tcap) := r9.cell 2
  have HBX := Lib.hid hbx; have HR9 := Lib.hid r9; have HSS := Lib.hid hss; have HKL := Lib.hid hkl; have HKD := Lib.hid hkid; have HSL := Lib.hid hsl; have HPL := Lib.hid hpl
  have HIX2 := Lib.hid hix2; have HIX3 := Lib.hid hix3; have HSC := Lib.hid hsc
  have HOX := Lib.hid (hob.below hbx)
  have hi0' : (0 : Int) ≤ (i : Int) := by omega
  have hi1' : (i : Int) < (l.length : Int) := by omega
  have HZX := Lib.hid hzx
  have HCHG := Lib.hid (fun W (h : Below wx.heap.size wx W) => show Chg (fun k => blk ab k ∧ B ≤ k) w W from (Chg.ofBelow (bt hbx h)).mono (fun i hi h => by omega))
  clear hsc hix1 hix2 hix3 hie hsl hpl hT hob hbd hkl hkid hbx r9 hss hzx hok
  go_enter Try.func34, Try.ntmps34
  go_upto_region 1 with fail
  rw [← hwx]; clear hwx
  rcases hkd with rfl | rfl | rfl | rfl
  · have HE : Hid (encT (.mk nm rp 1 ks) t = leN 1 (u64 t.n)) := Lib.hid (by rw [encT, if_pos rfl])
    have HL : Hid (nb + 1 ≤ 10000000000000) := Lib.hid (by have := HBD.out; rw [HE.out, leN_len] at this; exact this)
    have hul := u64_lt t.n
    go_wp2_with fail
    rw [wrap_u t.n]
    refine (rcput_u8 _ ab nb cbp bs 1 (u64 t.n) wx HOX.out.own.sl (by have := HL.out; omega) (by omega) hul).mono ?_
    rintro e w5 ⟨a5, cap5, rfl, ho5, hb5⟩
    have HO5 := Lib.hid ho5; have HB5 := Lib.hid hb5
    clear ho5 hb5
    go_wp2_with fail
    go_ret
    rw [HE.out]
    refine ⟨a5, nb + 1, cap5, rfl, OB.of HO5.out (by have := HZX.out; omega) (by omega), HCHG.out _ HB5.out, fun k hk => .inr ?_⟩
    have := (HO5.out.blt' (by omega) hk).1; have := HZX.out; omega
  · have HE : Hid (encT (.mk nm rp 2 ks) t = leN 4 (u64 t.n)) := Lib.hid (by rw [encT, if_neg (by decide), if_pos rfl])
    have HL : Hid (nb + 4 ≤ 10000000000000) := Lib.hid (by have := HBD.out; rw [HE.out, leN_len] at this; exact this)
    have hul := u64_lt t.n
    go_wp2_with fail
    rw [wrap_u t.n]
    refine (rcput_u8 _ ab nb cbp bs 4 (u64 t.n) wx HOX.out.own.sl (by have := HL.out; omega) (by omega) hul).mono ?_
    rintro e w5 ⟨a5, cap5, rfl, ho5, hb5⟩
    have HO5 := Lib.hid ho5; have HB5 := Lib.hid hb5
    clear ho5 hb5
    go_wp2_with fail
    go_ret
    rw [HE.out]
    refine ⟨a5, nb + 4, cap5, rfl, OB.of HO5.out (by have := HZX.out; omega) (by omega), HCHG.out _ HB5.out, fun k hk => .inr ?_⟩
    have := (HO5.out.blt' (by omega) hk).1; have := HZX.out; omega
  · have HE : Hid (encT (.mk nm rp 3 ks) t = leN 8 (u64 t.n)) := Lib.hid (by rw [encT, if_neg (by decide), if_neg (by decide), if_pos rfl])
    have HL : Hid (nb + 8 ≤ 10000000000000) := Lib.hid (by have := HBD.out; rw [HE.out, leN_len] at this; exact this)
    have hul := u64_lt t.n
    go_wp2_with fail
    rw [wrap_u t.n]
    refine (rcput_u8 _ ab nb cbp bs 8 (u64 t.n) wx HOX.out.own.sl (by have := HL.out; omega) (by omega) hul).mono ?_
    rintro e w5 ⟨a5, cap5, rfl, ho5, hb5⟩
    have HO5 := Lib.hid ho5; have HB5 := Lib.hid hb5
    clear ho5 hb5
    go_wp2_with fail
    go_ret
    rw [HE.out]
    refine ⟨a5, nb + 8, cap5, rfl, OB.of HO5.out (by have := HZX.out; omega) (by omega), HCHG.out _ HB5.out, fun k hk => .inr ?_⟩
    have := (HO5.out.blt' (by omega) hk).1; have := HZX.out; omega
  · have HE : Hid (encT (.mk nm rp 4 ks) t = vput t.s.size ++ t.s.toList) := Lib.hid (by rw [encT, if_neg (by decide), if_neg (by decide), if_neg (by decide), if_pos rfl])
    have HL : Hid (nb + ((vput t.s.size).length + t.s.size) ≤ 10000000000000) := Lib.hid (by have := HBD.out; rw [HE.out, List.length_append, str_len'] at this; exact this)
    have HP1 := Lib.hid p1
    have hssx := HSS.out
    unfold maxLen at hssx
    have HWZ : Hid (IntKind.u64.wrap (t.s.size : Int) = ((t.s.size : Nat) : Int)) := Lib.hid (by rw [wrap_u]; unfold u64; omega)
    go_wp2_with fail
    refine Go.Shr.wp_region_F (fun w' => w'.cell? ⟨w.heap.size, 1, none⟩ = some (.string t.s)) [9] (by kernel_rfl) ?g1rgS (fun hHeld => ?g1rgR)
    case g1rgS => (try dsimp only); (first | exact HP1.out | exact hHeld | exact cb hb5 HP1.out | exact (hc6.keep (cb hb5 HP1.out) (fun h => by have h9 : wx.heap.size ≤ w.heap.size := (ho5.blt' (by omega) h.1).1; have := HZX.out; omega)))
    try dsimp only at hHeld
    refine Go.Shr.wpAnyF_take 0 (oi := { dst := some 43, op := Go.Op.move (Go.Operand.tmp 0), type := 30, pos := "ref.go:29", after := #[], guard := none }) (v := ?g1rv1) rfl (by kernel_rfl) (fun _ _ _ h => h) (by assumption) (by rfl) ?g1ry1 ?g1rr1
    case g1ry1 => intro w hSw; have s1 := hSw; go_simp; try with_reducible rfl
    try simp only [Act.put, List.setIfInBounds_toArray, List.set_cons_zero, List.set_cons_succ]
    refine Go.Shr.wpAnyF_take 1 (oi := { dst := some 44, op := Go.Op.fieldAddr 35 (Go.Operand.tmp 9) 1, type := 0, pos := "ref.go:29", after := #[], guard := none }) (v := ?g1rv2) rfl (by kernel_rfl) (fun _ _ _ h => h) (by assumption) (by rfl) ?g1ry2 ?g1rr2
    case g1ry2 => intro w hSw; have s1 := hSw; go_simp; try with_reducible rfl
    try simp only [Act.put, List.setIfInBounds_toArray, List.set_cons_zero, List.set_cons_succ]
    refine Go.Shr.wpAnyF_take 2 (oi := { dst := some 45, op := Go.Op.load 9 (Go.Operand.tmp 44), type := 9, pos := "ref.go:29", after := #[{ on := 1, ground := Go.Ground.data }], guard := none }) (v := ?g1rv3) rfl (by kernel_rfl) (fun _ _ _ h => h) (by assumption) (by rfl) ?g1ry3 ?g1rr3
    case g1ry3 => intro w hSw; have s1 := hSw; go_simp; try with_reducible rfl
    try simp only [Act.put, List.setIfInBounds_toArray, List.set_cons_zero, List.set_cons_succ]
    refine Go.Shr.wpAnyF_take 3 (oi := { dst := some 46, op := Go.Op.call { callee := Go.Callee.builtin Go.Builtin.len, args := #[Go.Operand.tmp 45], argTypes := #[9] }, type := 3, pos := "ref.go:29", after := #[{ on := 2, ground := Go.Ground.data }], guard := none }) (v := ?g1rv4) rfl (by kernel_rfl) (fun _ _ _ h => h) (by assumption) (by rfl) ?g1ry4 ?g1rr4
    case g1ry4 => intro w hSw; have s1 := hSw; go_simp; try with_reducible rfl
    try simp only [Act.put, List.setIfInBounds_toArray, List.set_cons_zero, List.set_cons_succ]
    refine Go.Shr.wpAnyF_take 4 (oi := { dst := some 47, op := Go.Op.convert 3 59 (Go.Operand.tmp 46), type := 59, pos := "ref.go:29", after := #[{ on := 3, ground := Go.Ground.data }], guard := none }) (v := ?g1rv5) rfl (by kernel_rfl) (fun _ _ _ h => h) (by assumption) (by rfl) ?g1ry5 ?g1rr5
    case g1ry5 => intro w hSw; have s1 := hSw; go_simp; try with_reducible rfl
    try simp only [Act.put, List.setIfInBounds_toArray, List.set_cons_zero, List.set_cons_succ]
    refine Go.Shr.wpAnyF_take 6 (oi := { dst := some 49, op := Go.Op.fieldAddr 35 (Go.Operand.tmp 9) 1, type := 0, pos := "ref.go:29", after := #[], guard := none }) (v := ?g1rv6) rfl (by kernel_rfl) (fun _ _ _ h => h) (by assumption) (by rfl) ?g1ry6 ?g1rr6
    case g1ry6 => intro w hSw; have s1 := hSw; go_simp; try with_reducible rfl
    try simp only [Act.put, List.setIfInBounds_toArray, List.set_cons_zero, List.set_cons_succ]
    refine Go.Shr.wpAnyF_take 7 (oi := { dst := some 50, op := Go.Op.load 9 (Go.Operand.tmp 49), type := 9, pos := "ref.go:29", after := #[{ on := 6, ground := Go.Ground.data }], guard := none }) (v := ?g1rv7) rfl (by kernel_rfl) (fun _ _ _ h => h) (by assumption) (by rfl) ?g1ry7 ?g1rr7
    case g1ry7 => intro w hSw; have s1 := hSw; go_simp; try with_reducible rfl
    try simp only [Act.put, List.setIfInBounds_toArray, List.set_cons_zero, List.set_cons_succ]
    refine Go.Shr.wpAnyF_ready [5] (by kernel_rfl) (by simp) ?_
    refine Go.Shr.AllReadyF.cons 5 (o := { dst := some 48, op := Go.Op.call { callee := Go.Callee.value (Go.Operand.func 33), args := #[Go.Operand.tmp 43, Go.Operand.tmp 47], argTypes := #[30, 59] }, type := 30, pos := "ref.go:29", after := #[{ on := 0, ground := Go.Ground.data }, { on := 4, ground := Go.Ground.data }], guard := none }) rfl (fun K hK => ?g1ro8) ?g1rm8
    case g1rm8 => exact Go.Shr.AllReadyF.nil
    go_simp; (try rw [HWZ.out]); refine (rput_u8 _ ab nb cbp bs t.s.size wx.drew HOX.out.own.drew.sl (by have := HL.out; omega) (by omega)).mono ?_; rintro e w5 ⟨a5, n5, cap5, rfl, ho5, hb5⟩; (have hn5 : n5 = bs.length + (vput t.s.size).length := by have := ho5.len; simpa using this.symm); (have hp5 := vput_pos t.s.size); subst hn5; dsimp only
    refine hK.out _ _ ?g1rs8 (fun hHeld => ?g1rt8)
    case g1rs8 => (try dsimp only); (first | exact HP1.out | exact hHeld | exact cb hb5 HP1.out | exact (hc6.keep (cb hb5 HP1.out) (fun h => by have h9 : wx.heap.size ≤ w.heap.size := (ho5.blt' (by omega) h.1).1; have := HZX.out; omega)))
    try dsimp only at hHeld
    clear hK K
    try simp only [Act.put, List.setIfInBounds_toArray, List.set_cons_zero, List.set_cons_succ]
    refine Go.Shr.wpAnyF_ready [8] (by kernel_rfl) (by simp) ?_
    refine Go.Shr.AllReadyF.cons 8 (o := { dst := some 51, op := Go.Op.call { callee := Go.Callee.builtin Go.Builtin.append, args := #[Go.Operand.tmp 48, Go.Operand.tmp 50], argTypes := #[30, 9] }, type := 30, pos := "ref.go:29", after := #[{ on := 5, ground := Go.Ground.data }, { on := 7, ground := Go.Ground.data }, { on := 5, ground := Go.Ground.chain }], guard := none }) rfl (fun K hK => ?g1ro9) ?g1rm9
    case g1rm9 => exact Go.Shr.AllReadyF.nil
    (refine step_append (B := wx.heap.size) rfl _ _ _ _ rfl i0 (.int .u8 0) 1 Try.underlying30 hi0 hz0 hz1 hz2 rfl rfl ho5 _ rfl _ _ (Src.ofString _ Try.underlying9 t.s) (by have := HL.out; have := HNB.out; simp only [maxLen]; omega) (by have := HL.out; have := HNB.out; omega) hb5.size ?_; intro a6 cap6 w6 ho6 hc6 hn6)
    refine hK.out _ _ ?g1rs9 (fun hHeld => ?g1rt9)
    case g1rs9 => (try dsimp only); (first | exact HP1.out | exact hHeld | exact cb hb5 HP1.out | exact (hc6.keep (cb hb5 HP1.out) (fun h => by have h9 : wx.heap.size ≤ w.heap.size := (ho5.blt' (by omega) h.1).1; have := HZX.out; omega)))
    try dsimp only at hHeld
    clear hK K
    try simp only [Act.put, List.setIfInBounds_toArray, List.set_cons_zero, List.set_cons_succ]
    refine Go.Shr.wpAnyF_ready [9] (by kernel_rfl) (by simp) ?_
    refine Go.Shr.AllReadyF.last 9 (o := { dst := some 10, op := Go.Op.assign (Go.Operand.tmp 51), type := 30, pos := "ref.go:29", after := #[{ on := 8, ground := Go.Ground.data }, { on := 8, ground := Go.Ground.chain }, { on := 0, ground := Go.Ground.phase }, { on := 1, ground := Go.Ground.phase }, { on := 2, ground := Go.Ground.phase }, { on := 3, ground := Go.Ground.phase }, { on := 4, ground := Go.Ground.phase }, { on := 5, ground := Go.Ground.phase }, { on := 6, ground := Go.Ground.phase }, { on := 7, ground := Go.Ground.phase }, { on := 8, ground := Go.Ground.phase }], guard := none }) rfl (by kernel_rfl) (fun K hK => ?g1ro10) ?g1rm10
    case g1rm10 => exact Go.Shr.AllReadyF.nil
    go_simp
    refine hK.out _ _ ?_
    clear hK K
    try simp only [Act.put, List.setIfInBounds_toArray, List.set_cons_zero, List.set_cons_succ]
    refine Go.Shr.wpAnyF_done (by kernel_rfl) ?_
    go_wp2_with fail
    go_ret
    rw [HE.out]
    rw [cells_u8s, ← u8s_append] at ho6
    have hzx := HZX.out
    have hb5' : Below wx.heap.size wx w5 := bt (b0 wx).drew hb5
    have hn5B : ∀ k, blk a5 k → wx.heap.size ≤ k := fun k hk => (ho5.blt' (by omega) hk).1
    refine ⟨a6, bs.length + (vput t.s.size).length + t.s.size, cap6, rfl, OB.of (B := B) (W := wx.heap.size) (by rw [List.append_assoc] at ho6; exact ho6) (by omega) (by omega), (HCHG.out _ hb5').trans hc6 (fun i hi h => by have := hn5B i h.1; omega), fun k hk => .inr ?_⟩
    rcases hn6 k hk with h | h
    · have := hn5B k h; omega
    · have := hb5'.size; omega
set_option maxHeartbeats 4000000 in
set_option maxRecDepth 100000 in
theorem put_grp (B : Nat) (sa : Option Addr) (scap : Nat) (pa : Option Addr) (pcap : Nat) (l : List Fl) (nm : ByteArray) (rp kd : Int) (ks : List Sh) (hk1 : kd ≠ 1) (hk2 : kd ≠ 2) (hk3 : kd ≠ 3) (hk4 : kd ≠ 4) (hll : l.length ≤ 1000) (hA : ∀ s ∈ ks, PutW B sa scap pa pcap l s) : PutW B sa scap pa pcap l (.mk nm rp kd ks) := by
  intro i t ab nb cbp bs ta tcap w hix hle hsl hpl hT hok hob hbd
  obtain ⟨i0, hi0, hz0, hz1, hz2⟩ := info_parts info_u8
  simp only [Ix] at hix
  obtain ⟨hix1, hix2, hix3⟩ := hix
  obtain ⟨hil, hie⟩ := List.getElem?_eq_some_iff.1 hix1
  obtain ⟨_, _, f2, _⟩ := fls_get l i hil
  rw [hie] at f2
  dsimp only at f2
  obtain ⟨sb, soff, rfl, hsb, hsc⟩ := hsl.pos (by omega)
  replace f2 := hsc _ _ f2
  rw [← Nat.add_assoc] at f2
  obtain ⟨_, _, _, xs, hcs, hm, hss, hkl, hkid⟩ := hT.parts'
  simp at hcs
  obtain ⟨rfl, rfl, rfl⟩ := hcs
  have hmx := Nat.le_trans hkl.le hkl.max
  unfold maxLen at hmx
  have hab := hob.lt
  have HNB := Lib.hid hob.len
  have HBD := Lib.hid hbd; have HOK := Lib.hid hok
  obtain ⟨wx, hwx⟩ : ∃ wx, wx = w.alloc (.cells #[.int .i64 t.n, .string t.s, .slice ta t.kids.length tcap] 35) := ⟨_, rfl⟩
  have hbx : Below w.heap.size w wx := by rw [hwx]; exact ba (b0 w) _
  have r9 : Rw wx w.heap.size #[.int .i64 t.n, .string t.s, .slice ta t.kids.length tcap] 35 := by rw [hwx]; exact Rw.new w _ _
  have hzx : wx.heap.size = w.heap.size + 1 := by rw [hwx]; simp
  replace f2 := cb hbx f2
  have p0 : wx.cell? ⟨w.heap.size, 0, none⟩ = some (.int .i64 t.n) := r9.cell 0
  have p1 : wx.cell? ⟨w.heap.size, 1, none⟩ = some (.string t.s) := r9.cell 1
  have p2 : wx.cell? ⟨w.heap.size, 2, none⟩ = some (.slice ta t.kids.length tcap) := r9.cell 2
  have HBX := Lib.hid hbx; have HR9 := Lib.hid r9; have HSS := Lib.hid hss; have HKL := Lib.hid hkl; have HKD := Lib.hid hkid; have HSL := Lib.hid hsl; have HPL := Lib.hid hpl
  have HIX2 := Lib.hid hix2; have HIX3 := Lib.hid hix3; have HSC := Lib.hid hsc
  have HOX := Lib.hid (hob.below hbx)
  have hi0' : (0 : Int) ≤ (i : Int) := by omega
  have hi1' : (i : Int) < (l.length : Int) := by omega
  have HZX := Lib.hid hzx
  have HCHG := Lib.hid (fun W (h : Below wx.heap.size wx W) => show Chg (fun k => blk ab k ∧ B ≤ k) w W from (Chg.ofBelow (bt hbx h)).mono (fun i hi h => by omega))
  clear hsc hix1 hix2 hix3 hie hsl hpl hT hob hbd hkl hkid hbx r9 hss hzx hok
  go_enter Try.func34, Try.ntmps34
  go_upto_region 1 with fail
  rw [← hwx]; clear hwx
  have b1 : (kd == 1) = false := beq_eq_false_iff_ne.2 hk1
  have b2 : (kd == 2) = false := beq_eq_false_iff_ne.2 hk2
  have b3 : (kd == 3) = false := beq_eq_false_iff_ne.2 hk3
  have b4 : (kd == 4) = false := beq_eq_false_iff_ne.2 hk4
  have HE : Hid (encT (.mk nm rp kd ks) t = encK ks t.kids) := Lib.hid (by rw [encT, if_neg hk1, if_neg hk2, if_neg hk3, if_neg hk4])
  have HL : Hid (nb + (encK ks t.kids).length ≤ 10000000000000) := Lib.hid (by have := HBD.out; rw [HE.out] at this; exact this)
  have HOKK : Hid (okK ks t.kids) := Lib.hid (by have h := HOK.out; rw [okT, if_neg hk1, if_neg hk2, if_neg hk3, if_neg hk4] at h; exact h.2.2)
  have hP : (par l).length = l.length := par_length l
  have hPb := fun j hj => par_bd l j hj
  generalize hPd : par l = P at *
  have HPD := Lib.hid hPd
  have HPB := Lib.hid hPb; have HP := Lib.hid hP
  have hR0 : Hid (rest P i (i + 1) = offs (i + 1) ks) := Lib.hid (by
    rw [rest_start (fun j hj => (HPB.out j hj).2), ← kidsOf_kf, ← HPD.out]; exact HIX2.out)
  have HA := Lib.hid hA
  have HC0 := Lib.hid (HCHG.out wx (b0 wx))
  clear hA hPd hPb hP hk1 hk2 hk3 hk4 HBD HOK
  go_wp2_with fail
  clear f2 p0 p1 p2 b1 b2 b3 b4
  go_loopw [0, 11, 12] (fun bv nv iv wr => ∃ (j : Nat) (todo : List Sh) (kk : List (List Tr)) (d o : Nat) (a' : Option Addr) (n' cap' : Nat) (bs' : List UInt8), bv = .slice a' n' cap' ∧ nv = .int .i64 (d : Int) ∧ iv = .int .i64 (j : Int) ∧ j ≤ l.length ∧ d ≤ j ∧ Hid (t.kids.drop d = kk) ∧ Hid (rest P i j = offs o todo) ∧ Hid (IxL l (KF l) o todo) ∧ Hid (∀ s ∈ todo, s ∈ ks) ∧ Hid (okK todo kk) ∧ Hid (OB B wr a' n' cap' bs') ∧ Hid (bs' ++ encK todo kk = bs ++ encK ks t.kids) ∧ Hid (Chg (fun k => blk ab k ∧ B ≤ k) w wr) ∧ Hid (∀ k, blk a' k → blk ab k ∨ w.heap.size + 1 ≤ k) ∧ Hid (Rw wr w.heap.size #[.int .i64 t.n, .string t.s, .slice ta t.kids.length tcap] 35)) (fun _ _ iv _ => l.length - (intOf iv).toNat)
  case atStart => exact ⟨i + 1, ks, t.kids, 0, i + 1, ab, nb, cbp, bs, rfl, rfl, by go_num, hil, Nat.zero_le _, Lib.hid rfl, hR0, HIX3, Lib.hid (fun s hs => hs), HOKK, HOX, Lib.hid rfl, HC0, Lib.hid (fun k hk => .inl hk), HR9⟩
  case round =>
    clear HC0 hR0 HIX2 HOX HR9
    obtain ⟨j, todo, kk, d, o, ar, nr, cr, bs', rfl, rfl, rfl, hj, hdj, HK, HRE, HIX, HTD, HOKT, HO, HQ, HC, HN, R9⟩ := hrel
    obtain ⟨wo, rfl⟩ : ∃ wo : World, wo = wr := ⟨_, rfl⟩
    have hszr := HC.out.size
    have HNR := Lib.hid HO.out.len
    have HLOW := Lib.hid (HC.out.lower hle)
    have HCAP : Hid (nr + (encK todo kk).length ≤ 10000000000000) := Lib.hid (by
      have h1 := congrArg List.length HQ.out
      have h2 := HL.out
      have h3 := HO.out.len
      have h4 := HNB.out
      simp only [List.length_append] at h1
      omega)
    have p2 : wo.cell? ⟨w.heap.size, 2, none⟩ = some (.slice ta t.kids.length tcap) := R9.out.cell 2
    by_cases hlt : j < l.length
    · have hjP : j < P.length := by rw [HP.out]; exact hlt
      obtain ⟨pb, poff, hpa, hpb, hpc⟩ := HPL.out.pos (by omega)
      have c0 := (Chg.ofBelow HLOW.out).keep (hpc _ _ (ints_get P j hjP)) (by omega)
      have hbd := HPB.out j hjP
      by_cases hp : P[j] = (i : Int)
      · have hry := rest_yes hjP hp
        rw [HRE.out] at hry
        obtain ⟨s, q, hq, hjo, hre2⟩ := offs_cons hry
        have hjo' : j = o := by omega
        subst hjo'
        subst hq
        obtain ⟨hix, hixr⟩ := ixL_mem s q HIX.out rfl
        obtain ⟨x, xr, hkk⟩ : ∃ x xr, kk = x :: xr := by
          cases kk with
          | nil => have h := HOKT.out; rw [okK] at h; exact h.elim
          | cons x xr => exact ⟨x, xr, rfl⟩
        subst hkk
        have hokt := HOKT.out
        rw [okK] at hokt
        have hdl : d < t.kids.length := by
          have h := congrArg List.length HK.out
          simp at h; omega
        have hkd := List.drop_eq_getElem_cons hdl
        rw [HK.out] at hkd
        injection hkd with hkx hkr
        obtain ⟨kb, koff, hka, hkb, hkc⟩ := HKL.out.pos (by omega)
        obtain ⟨la, lcap, ys, g0, hys, hrow⟩ := HKD.out.get' d hdl
        have g0w := (Chg.ofBelow HLOW.out).keep (hkc _ _ g0) (by omega)
        rw [← hkx] at g0w hys hrow
        have hmx2 := Nat.le_trans hys.le hys.max
        unfold maxLen at hmx2
        obtain ⟨hjl, hrep, _⟩ := hix.at
        have f1 := (fls_get l j hjl).2.1
        rw [hrep] at f1
        have f1w : wo.cell? ⟨sb, soff + (j * 4 + 1), none⟩ = some (.int .i64 s.rep) := (Chg.ofBelow HLOW.out).keep (HSC.out _ _ f1) (by omega)
        rw [← Nat.add_assoc] at f1w
        have HAS := Lib.hid (HA.out s (HTD.out s (by simp)))
        have HOKX := Lib.hid hokt.2.1
        have HENC : Hid (encK (s :: q) (x :: xr) = encA s x ++ encK q xr) := Lib.hid (encK_cons s q x xr)
        have HEA : Hid (encA s x = markB s.rep x.length ++ x.flatMap (encT s)) := Lib.hid rfl
        have hcapx : nr + ((markB s.rep x.length).length + (x.flatMap (encT s)).length) ≤ 10000000000000 := by
          have h := HCAP.out
          rw [HENC.out, HEA.out] at h
          simp only [List.length_append] at h
          omega
        have HYS := Lib.hid hys; have HROW := Lib.hid hrow; have HIXS := Lib.hid hix; have HIXR := Lib.hid hixr; have HRE2 := Lib.hid hre2
        have HKR : Hid (t.kids.drop (d + 1) = xr) := Lib.hid hkr.symm
        have HOKR := Lib.hid hokt.2.2
        have HTDR : Hid (∀ u ∈ q, u ∈ ks) := Lib.hid (fun u hu => HTD.out u (by simp [hu]))
        rw [hp] at c0
        subst hka
        subst hpa
        have HAB := Lib.hid hab
        have hj0 : (0 : Int) ≤ (j : Int) := by omega
        have hjl' : (j : Int) < (l.length : Int) := by omega
        have hd0 : (0 : Int) ≤ (d : Int) := by omega
        have hdl' : (d : Int) < (t.kids.length : Int) := by omega
        clear hpc hry hix hixr hre2 hokt hkx hkr hkc g0 hys hrow f1 hrep hbd hp hjo HRE HIX HOKT HK HTD
        have key : ∀ {W : World}, Hid (Below B w W) → True := fun _ => trivial
        clear key
        by_cases h1 : s.rep = 1
        case' pos =>
          have HMB : Hid (markB s.rep x.length = [UInt8.ofNat (x.length % 256)]) := Lib.hid (by simp [markB, h1])
          have hn1 : nr + 1 ≤ 10000000000000 := by rw [HMB.out] at hcapx; simp at hcapx; omega
          rw [h1] at f1w
          have HCX := Lib.hid hcapx
          clear hcapx h1
          go_upto_region 21 with (first | (at_builtin; refine wpList_append (B := B) rfl _ _ _ _ rfl i0 (.int .u8 0) 1 Try.underlying30 hi0 hz0 hz1 hz2 rfl rfl (HO.out.own.alloc _) _ rfl _ _ (src_one Try.underlying30 wo _ _ rfl) (by simp only [maxLen]; omega) (by omega) (by simp; omega) ?_; intro a5 c5 w5 ho5 hc5 hn5; (have HO5 := Lib.hid ho5); (have HC5 := Lib.hid hc5); (have HN5 := Lib.hid hn5); (have f1w5 := hc5.keep (cb (ba (b0 wo) _) f1w) (fun h => by omega)); clear ho5 hc5 hn5) | fail)
          have HO2 : Hid (OB B w5 a5 (nr + 1) c5 (bs' ++ markB s.rep x.length)) := Lib.hid (OB.of (by rw [HMB.out, ← u8s_snoc _ _ (Nat.mod_lt _ (by decide))]; exact HO5.out) (Nat.le_refl _) (by omega))
          have HC2 : Hid (Chg (fun k => blk ab k ∧ B ≤ k) w w5) := Lib.hid ((HC.out.trans (Chg.ofBelow (ba (b0 wo) _)) (fun i hi h => by omega)).trans HC5.out (fun i hi h => by
            rcases HN.out i h.1 with h3 | h3
            · exact ⟨h3, h.2.1⟩
            · omega))
          have HN2 : Hid (∀ k, blk a5 k → blk ab k ∨ w.heap.size + 1 ≤ k) := Lib.hid (fun k hk => by
            rcases HN5.out k hk with h | h
            · exact HN.out k h
            · have := R9.out.lt; simp at h; exact .inr (by omega))
          have R92 : Hid (Rw w5 w.heap.size #[.int .i64 t.n, .string t.s, .slice (some ⟨kb, koff, none⟩) t.kids.length tcap] 35) := Lib.hid ((R9.out.alloc _).chg HC5.out (fun h => by
            rcases HN.out _ h.1 with h3 | h3
            · have := HAB.out _ h3; omega
            · omega))
          clear HO5 HC5 HN5 f1w5 HMB hn1
        case' neg =>
          by_cases h2 : s.rep = 2
          case' pos =>
            have HMB : Hid (markB s.rep x.length = vput x.length) := Lib.hid (by simp [markB, h2])
            have hn1 : nr + (vput x.length).length ≤ 10000000000000 := by rw [HMB.out] at hcapx; omega
            rw [h2] at f1w
            have HCX := Lib.hid hcapx
            clear hcapx h1 h2
            go_upto_region 20 with fail
            go_wp2_with fail
            refine (rput_u8 _ ar nr cr bs' x.length wo HO.out.own.sl (by omega) (by omega)).mono ?_
            rintro e w5 ⟨a5, n5, c5, rfl, ho5, hb5⟩
            have hn5 : n5 = bs'.length + (vput x.length).length := by have := ho5.len; simpa using this.symm
            have hp5 := vput_pos x.length
            subst hn5
            have HO5 := Lib.hid ho5; have HB5 := Lib.hid hb5
            clear ho5 hb5
            go_upto_region 21 with fail
            have HO2 : Hid (OB B w5 a5 _ c5 (bs' ++ markB s.rep x.length)) := Lib.hid (OB.of (by rw [HMB.out]; exact HO5.out) (by have := HLOW.out.size; omega) (by omega))
            have HC2 : Hid (Chg (fun k => blk ab k ∧ B ≤ k) w w5) := Lib.hid (HC.out.trans (Chg.ofBelow HB5.out) (fun i hi h => by omega))
            have HN2 : Hid (∀ k, blk a5 k → blk ab k ∨ w.heap.size + 1 ≤ k) := Lib.hid (fun k hk => .inr (by
            have := (HO5.out.blt' (by omega) hk).1
            have := R9.out.lt
            omega))
            have R92 : Hid (Rw w5 w.heap.size #[.int .i64 t.n, .string t.s, .slice (some ⟨kb, koff, none⟩) t.kids.length tcap] 35) := Lib.hid (R9.out.below HB5.out)
            clear HO5 HB5 HMB hn1 hp5
          case' neg =>
            have HMB : Hid (markB s.rep x.length = []) := Lib.hid (by simp [markB, h1, h2])
            have d1 : (s.rep == 1) = false := beq_eq_false_iff_ne.2 h1
            have d2 : (s.rep == 2) = false := beq_eq_false_iff_ne.2 h2
            have HCX := Lib.hid hcapx
            clear hcapx h1 h2
            go_upto_region 21 with fail
            have HO2 : Hid (OB B wo ar nr cr (bs' ++ markB s.rep x.length)) := Lib.hid (by rw [HMB.out, List.append_nil]; exact HO.out)
            have HC2 : Hid (Chg (fun k => blk ab k ∧ B ≤ k) w wo) := Lib.hid (HC.out)
            have HN2 : Hid (∀ k, blk ar k → blk ab k ∨ w.heap.size + 1 ≤ k) := Lib.hid (HN.out)
            have R92 : Hid (Rw wo w.heap.size #[.int .i64 t.n, .string t.s, .slice (some ⟨kb, koff, none⟩) t.kids.length tcap] 35) := Lib.hid (R9.out)
            clear HMB d1 d2
        all_goals
          clear HO HC HN R9 p2 c0 g0w f1w
          go_wp2_with fail
          go_loopw [0, 14] (fun bv iv wr => ∃ (m : Nat) (a' : Option Addr) (n' cap' : Nat), bv = .slice a' n' cap' ∧ iv = .int .i64 (m : Int) ∧ m ≤ x.length ∧ Hid (OB B wr a' n' cap' (bs' ++ markB s.rep x.length ++ (x.take m).flatMap (encT s))) ∧ Hid (Chg (fun k => blk ab k ∧ B ≤ k) w wr) ∧ Hid (∀ k, blk a' k → blk ab k ∨ w.heap.size + 1 ≤ k) ∧ Hid (Rw wr w.heap.size #[.int .i64 t.n, .string t.s, .slice (some ⟨kb, koff, none⟩) t.kids.length tcap] 35)) (fun _ iv _ => x.length - (intOf iv).toNat)
          case atStart => exact ⟨0, _, _, _, rfl, rfl, Nat.zero_le _, Lib.hid (by simpa using HO2.out), HC2, HN2, R92⟩
          case round =>
            clear HO2 HC2 HN2 R92
            obtain ⟨m, am, nm', cm, rfl, rfl, hm, HO, HC, HN, R9⟩ := hrel
            have hnm := HO.out.len
            rw [List.length_append, List.length_append] at hnm
            have hnr := HNR.out
            have hcx := HCX.out
            have hfl := flat_le (encT s) x m
            have HLOWM := Lib.hid (HC.out.lower hle)
            have hszm := HC.out.size
            by_cases hml : m < x.length
            · obtain ⟨xb, xoff, hxa, hxb, hxc⟩ := HYS.out.pos (by omega)
              obtain ⟨e0, e1, e2, u0, u1, u2, hte⟩ := HROW.out.get' m hml
              obtain ⟨tb, tm, tc2, _, hcs2, hxm, _, _, _⟩ := hte.parts'
              simp at hcs2
              obtain ⟨rfl, rfl, rfl⟩ := hcs2
              subst hxm
              have v0 := (Chg.ofBelow HLOWM.out).keep (hxc _ _ u0) (by omega)
              have v1 := (Chg.ofBelow HLOWM.out).keep (hxc _ _ u1) (by omega)
              have v2 := (Chg.ofBelow HLOWM.out).keep (hxc _ _ u2) (by omega)
              rw [← Nat.add_assoc] at v1 v2
              have HTK := Lib.hid (flat_take (encT s) x m hml)
              have hfl2 := flat_le (encT s) x (m + 1)
              rw [HTK.out, List.length_append] at hfl2
              have HT := Lib.hid hte
              have HOKM := Lib.hid (HOKX.out x[m] (List.getElem_mem hml))
              have HCAPM : Hid (nm' + (encT s x[m]).length ≤ 10000000000000) := Lib.hid (by omega)
              generalize x[m] = tt at *
              clear hxc u0 u1 u2 hte hnm hfl hfl2 hnr hcx
              subst hxa
              go_wp2_with fail
              refine (HAS.out j tt am nm' cm _ tb tc2 wr HIXS.out (by have := HLOWM.out.size; omega) (HSL.out.chg (Chg.ofBelow HLOWM.out) (fun k hk => by omega)) (by rw [HPD.out]; exact HPL.out.chg (Chg.ofBelow HLOWM.out) (fun k hk => by omega)) (HT.out.go (Chg.ofBelow HLOWM.out) (fun b hb h => ⟨by omega, h⟩)) HOKM.out HO.out HCAPM.out).mono ?_
              rintro e w6 ⟨a6, n6, c6, rfl, ho6, hc6, hn6⟩
              have HO6 := Lib.hid ho6
              have hnn := HN.out
              have HC6 : Hid (Chg (fun k => blk ab k ∧ B ≤ k) w w6) := Lib.hid (HC.out.trans hc6 (fun i hi h => by
                rcases hnn i h.1 with h3 | h3
                · exact ⟨h3, h.2⟩
                · omega))
              have HN6 : Hid (∀ k, blk a6 k → blk ab k ∨ w.heap.size + 1 ≤ k) := Lib.hid (fun k hk => by
                rcases hn6 k hk with h3 | h3
                · exact hnn k h3
                · have := R9.out.lt; exact .inr (by omega))
              have HR6 := Lib.hid (R9.out.chg hc6 (fun h => by
                rcases hnn _ h.1 with h3 | h3
                · have := HAB.out _ h3; omega
                · omega))
              clear ho6 hc6 hn6 v0 v1 v2 hnn
              go_wp2_with fail
              go_roundw
              case rel => exact ⟨m + 1, a6, n6, c6, rfl, by go_num, by omega, Lib.hid (by rw [HTK.out, ← List.append_assoc]; exact HO6.out), HC6, HN6, HR6⟩
              case measure => simp [intOf]; omega
            · obtain rfl : m = x.length := by omega
              have HO2 : Hid (OB B wr am nm' cm (bs' ++ encA s x)) := Lib.hid (by
                have h := HO.out
                rw [List.take_length, List.append_assoc, ← HEA.out] at h
                exact h)
              clear HO hml hnm hfl
              go_wp2_with fail
              go_roundw
              case rel => exact ⟨j + 1, q, xr, d + 1, j + s.size, am, nm', cm, bs' ++ encA s x, rfl, by go_num, by go_num, by omega, by omega, HKR, HRE2, HIXR, HTDR, HOKR, HO2, Lib.hid (by rw [List.append_assoc, ← HENC.out]; exact HQ.out), HC, HN, R9⟩
              case measure => simp [intOf]; omega
      · have hrn := rest_no hjP hp
        have HRE2 : Hid (rest P i (j + 1) = offs o todo) := Lib.hid (hrn ▸ HRE.out)
        have d1 : (P[j] != (i : Int)) = true := by simpa using hp
        subst hpa
        have hj0 : (0 : Int) ≤ (j : Int) := by omega
        have hjl' : (j : Int) < (l.length : Int) := by omega
        clear hpc hrn hp p2
        generalize P[j] = pj at *
        go_wp2_with fail
        go_roundw
        case rel => exact ⟨j + 1, todo, kk, d, o, ar, nr, cr, bs', rfl, by go_num, by go_num, by omega, by omega, HK, HRE2, HIX, HTD, HOKT, HO, HQ, HC, HN, R9⟩
        case measure => simp [intOf]; omega
    · obtain rfl : j = l.length := by omega
      have hre := HRE.out
      rw [rest_end (by rw [HP.out]; exact Nat.le_refl _)] at hre
      have htd := offs_nil hre.symm
      subst htd
      have HO2 : Hid (OB B wo ar nr cr (bs ++ encK ks t.kids)) := Lib.hid (by
        have h := HQ.out
        rw [encK, List.append_nil] at h
        rw [← h]; exact HO.out)
      clear hre HO HQ hlt p2
      go_wp2_with fail
      go_ret
      rw [HE.out]
      exact ⟨ar, nr, cr, rfl, HO2.out, HC.out, fun k hk => (HN.out k hk).imp id (fun h => by omega)⟩
end Go.Proofs.Ytofhlopedflkiaa
