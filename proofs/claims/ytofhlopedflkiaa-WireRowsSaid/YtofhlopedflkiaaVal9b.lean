/-
  The walk of wire's shape: value: texts.
-/
import Derived.Test.YtofhlopedflkiaaVal9
import Derived.Test.YtofhlopedflkiaaVal9a
set_option linter.unusedSimpArgs false
namespace Go.Proofs.Ytofhlopedflkiaa
open Go.RowKit Go.Shr
set_option maxHeartbeats 2000000 in
set_option maxRecDepth 100000 in
theorem value_w4 (B : Nat) (sa : Option Addr) (scap bk : Nat) (l : List Fl) (nm : ByteArray) (rp kd : Int) (ks : List Sh) (hlen : l.length ≤ 1000) (hA : ∀ s ∈ ks, AllW B sa scap bk l s) (c1 : kd ≠ 1) (c2 : kd ≠ 2) (c3 : kd ≠ 3) (c4 : kd = 4) : ValW B sa scap bk l (.mk nm rp kd ks) := by
  intro i t ab nb cb bs ta tcap w hix hsh hT hob hbd
  obtain ⟨i0, hi0, hz0, hz1, hz2⟩ := info_parts info_u8
  simp only [Ix] at hix
  obtain ⟨hix1, hix2, hix3⟩ := hix
  obtain ⟨hil, hie⟩ := List.getElem?_eq_some_iff.1 hix1
  obtain ⟨_, _, f2, _⟩ := fls_get l i hil
  rw [hie] at f2
  dsimp only at f2
  obtain ⟨sb, soff, rfl, hsb, hsc⟩ := hsh.sl.pos (by omega)
  replace f2 := hsc _ _ f2
  rw [← Nat.add_assoc] at f2
  obtain ⟨ka, kc, k1, k2⟩ := hsh.kids i hil
  obtain ⟨_, _, _, xs, hcs, hm, hss, hsl, hkid⟩ := hT.parts'
  simp at hcs
  obtain ⟨rfl, rfl, rfl⟩ := hcs
  have hmx := Nat.le_trans hsl.le hsl.max
  have hssx := hss
  unfold maxLen at hmx hssx
  have hle := hsh.le
  have hbk := hsh.bk
  have hab := hob.lt
  have HNB := Lib.hid hob.len
  have HBD := Lib.hid hbd; have HSH := Lib.hid hsh; have HSL := Lib.hid hsl; have HKD := Lib.hid hkid; have HOB := Lib.hid hob; have HA := Lib.hid hA; have HIX := Lib.hid hix3; have HK2 := Lib.hid k2; have HIX2 := Lib.hid hix2
  have HSS := Lib.hid hss
  obtain ⟨wx, hwx⟩ : ∃ wx, wx = (w.alloc (.cells #[.slice (some ⟨sb, soff, none⟩) l.length scap, .slice (some ⟨bk, 0, none⟩) l.length l.length] 56)).alloc (.cells #[.int .i64 t.n, .string t.s, .slice ta t.kids.length tcap] 35) := ⟨_, rfl⟩
  have hbx : Below w.heap.size w wx := by rw [hwx]; exact ba (ba (b0 w) _) _
  have r4 : Rw wx w.heap.size #[.slice (some ⟨sb, soff, none⟩) l.length scap, .slice (some ⟨bk, 0, none⟩) l.length l.length] 56 := by rw [hwx]; exact (Rw.new w _ _).alloc _
  have r7 : Rw wx (w.heap.size + 1) #[.int .i64 t.n, .string t.s, .slice ta t.kids.length tcap] 35 := by rw [hwx]; exact Rw.new' (by simp)
  have hzx : wx.heap.size = w.heap.size + 2 := by rw [hwx]; simp
  replace f2 := Go.Shr.cb hbx f2
  replace k1 := Go.Shr.cb hbx k1
  have q0 : wx.cell? ⟨w.heap.size, 0, none⟩ = some (.slice (some ⟨sb, soff, none⟩) l.length scap) := r4.cell 0
  have q1 : wx.cell? ⟨w.heap.size, 1, none⟩ = some (.slice (some ⟨bk, 0, none⟩) l.length l.length) := r4.cell 1
  have p0 : wx.cell? ⟨w.heap.size + 1, 0, none⟩ = some (.int .i64 t.n) := r7.cell 0
  have p1 : wx.cell? ⟨w.heap.size + 1, 1, none⟩ = some (.string t.s) := r7.cell 1
  have p2 : wx.cell? ⟨w.heap.size + 1, 2, none⟩ = some (.slice ta t.kids.length tcap) := r7.cell 2
  have HBX := Lib.hid hbx; have HR4 := Lib.hid r4; have HR7 := Lib.hid r7
  have HOX := Lib.hid (hob.below hbx)
  have hi0' : (0 : Int) ≤ (i : Int) := by omega
  have hi1' : (i : Int) < (l.length : Int) := by omega
  clear hsc hix1 hix2 hix3 hie hsh hT hob hbd hA hsl hkid k2 hbx r4 r7 hss
  have hchg : ∀ W : World, Below wx.heap.size wx W → Chg (fun k => blk ab k ∧ B ≤ k) w W := fun W h => (Chg.ofBelow (bt HBX.out h)).mono (fun i hi h => by omega)
  have HCHG := Lib.hid hchg
  have HZX := Lib.hid hzx
  clear hchg hzx
  go_enter Try.func26, Try.ntmps26
  go_upto_region 1 with fail
  rw [← hwx]; clear hwx
  have HE : Hid (encT (.mk nm rp kd ks) t = vput t.s.size ++ t.s.toList) := Lib.hid (by rw [encT, if_neg c1, if_neg c2, if_neg c3, if_pos c4])
  have HL : Hid (nb + ((vput t.s.size).length + t.s.size) ≤ 10000000000000) := Lib.hid (by have := HBD.out; rw [HE.out, List.length_append, str_len'] at this; exact this)
  subst c4
  clear c1 c2 c3
  have HP1 := Lib.hid p1
  have HWZ : Hid (IntKind.u64.wrap (t.s.size : Int) = ((t.s.size : Nat) : Int)) := Lib.hid (by rw [wrap_u]; unfold u64; omega)
  go_wp2_with fail
  refine Go.Shr.wp_region_F (fun w' => w'.cell? ⟨w.heap.size + 1, 1, none⟩ = some (.string t.s)) [9] (by kernel_rfl) ?g1rgS (fun hHeld => ?g1rgR)
  case g1rgS => (try dsimp only); (first | exact HP1.out | exact hHeld | exact Go.Shr.cb hb5 HP1.out | exact (hc6.keep (Go.Shr.cb hb5 HP1.out) (fun h => by have h9 : wx.heap.size ≤ w.heap.size + 1 := (ho5.blt' (by omega) h.1).1; have := HZX.out; omega)))
  try dsimp only at hHeld
  refine Go.Shr.wpAnyF_take 0 (oi := { dst := some 41, op := Go.Op.move (Go.Operand.tmp 1), type := 30, pos := "wire.go:46", after := #[], guard := none }) (v := ?g1rv1) rfl (by kernel_rfl) (fun _ _ _ h => h) (by assumption) (by rfl) ?g1ry1 ?g1rr1
  case g1ry1 => intro w hSw; have s1 := hSw; go_simp; try with_reducible rfl
  try simp only [Act.put, List.setIfInBounds_toArray, List.set_cons_zero, List.set_cons_succ]
  refine Go.Shr.wpAnyF_take 1 (oi := { dst := some 42, op := Go.Op.fieldAddr 35 (Go.Operand.tmp 7) 1, type := 0, pos := "wire.go:46", after := #[], guard := none }) (v := ?g1rv2) rfl (by kernel_rfl) (fun _ _ _ h => h) (by assumption) (by rfl) ?g1ry2 ?g1rr2
  case g1ry2 => intro w hSw; have s1 := hSw; go_simp; try with_reducible rfl
  try simp only [Act.put, List.setIfInBounds_toArray, List.set_cons_zero, List.set_cons_succ]
  refine Go.Shr.wpAnyF_take 2 (oi := { dst := some 43, op := Go.Op.load 9 (Go.Operand.tmp 42), type := 9, pos := "wire.go:46", after := #[{ on := 1, ground := Go.Ground.data }], guard := none }) (v := ?g1rv3) rfl (by kernel_rfl) (fun _ _ _ h => h) (by assumption) (by rfl) ?g1ry3 ?g1rr3
  case g1ry3 => intro w hSw; have s1 := hSw; go_simp; try with_reducible rfl
  try simp only [Act.put, List.setIfInBounds_toArray, List.set_cons_zero, List.set_cons_succ]
  refine Go.Shr.wpAnyF_take 3 (oi := { dst := some 44, op := Go.Op.call { callee := Go.Callee.builtin Go.Builtin.len, args := #[Go.Operand.tmp 43], argTypes := #[9] }, type := 3, pos := "wire.go:46", after := #[{ on := 2, ground := Go.Ground.data }], guard := none }) (v := ?g1rv4) rfl (by kernel_rfl) (fun _ _ _ h => h) (by assumption) (by rfl) ?g1ry4 ?g1rr4
  case g1ry4 => intro w hSw; have s1 := hSw; go_simp; try with_reducible rfl
  try simp only [Act.put, List.setIfInBounds_toArray, List.set_cons_zero, List.set_cons_succ]
  refine Go.Shr.wpAnyF_take 4 (oi := { dst := some 45, op := Go.Op.convert 3 59 (Go.Operand.tmp 44), type := 59, pos := "wire.go:46", after := #[{ on := 3, ground := Go.Ground.data }], guard := none }) (v := ?g1rv5) rfl (by kernel_rfl) (fun _ _ _ h => h) (by assumption) (by rfl) ?g1ry5 ?g1rr5
  case g1ry5 => intro w hSw; have s1 := hSw; go_simp; try with_reducible rfl
  try simp only [Act.put, List.setIfInBounds_toArray, List.set_cons_zero, List.set_cons_succ]
  refine Go.Shr.wpAnyF_take 6 (oi := { dst := some 47, op := Go.Op.fieldAddr 35 (Go.Operand.tmp 7) 1, type := 0, pos := "wire.go:46", after := #[], guard := none }) (v := ?g1rv6) rfl (by kernel_rfl) (fun _ _ _ h => h) (by assumption) (by rfl) ?g1ry6 ?g1rr6
  case g1ry6 => intro w hSw; have s1 := hSw; go_simp; try with_reducible rfl
  try simp only [Act.put, List.setIfInBounds_toArray, List.set_cons_zero, List.set_cons_succ]
  refine Go.Shr.wpAnyF_take 7 (oi := { dst := some 48, op := Go.Op.load 9 (Go.Operand.tmp 47), type := 9, pos := "wire.go:46", after := #[{ on := 6, ground := Go.Ground.data }], guard := none }) (v := ?g1rv7) rfl (by kernel_rfl) (fun _ _ _ h => h) (by assumption) (by rfl) ?g1ry7 ?g1rr7
  case g1ry7 => intro w hSw; have s1 := hSw; go_simp; try with_reducible rfl
  try simp only [Act.put, List.setIfInBounds_toArray, List.set_cons_zero, List.set_cons_succ]
  refine Go.Shr.wpAnyF_ready [5] (by kernel_rfl) (by simp) ?_
  refine Go.Shr.AllReadyF.cons 5 (o := { dst := some 46, op := Go.Op.call { callee := Go.Callee.value (Go.Operand.func 25), args := #[Go.Operand.tmp 41, Go.Operand.tmp 45], argTypes := #[30, 59] }, type := 30, pos := "wire.go:46", after := #[{ on := 0, ground := Go.Ground.data }, { on := 4, ground := Go.Ground.data }], guard := none }) rfl (fun K hK => ?g1ro8) ?g1rm8
  case g1rm8 => exact Go.Shr.AllReadyF.nil
  go_simp; rw [HWZ.out]; refine (put_u8 _ ab nb cb bs t.s.size wx.drew HOX.out.own.drew.sl (by have := HL.out; omega) (by omega)).mono ?_; rintro e w5 ⟨a5, n5, cap5, rfl, ho5, hb5⟩; (have hn5 : n5 = bs.length + (vput t.s.size).length := by have := ho5.len; simpa using this.symm); (have hp5 := vput_pos t.s.size); subst hn5; dsimp only
  refine hK.out _ _ ?g1rs8 (fun hHeld => ?g1rt8)
  case g1rs8 => (try dsimp only); (first | exact HP1.out | exact hHeld | exact Go.Shr.cb hb5 HP1.out | exact (hc6.keep (Go.Shr.cb hb5 HP1.out) (fun h => by have h9 : wx.heap.size ≤ w.heap.size + 1 := (ho5.blt' (by omega) h.1).1; have := HZX.out; omega)))
  try dsimp only at hHeld
  clear hK K
  try simp only [Act.put, List.setIfInBounds_toArray, List.set_cons_zero, List.set_cons_succ]
  refine Go.Shr.wpAnyF_ready [8] (by kernel_rfl) (by simp) ?_
  refine Go.Shr.AllReadyF.cons 8 (o := { dst := some 49, op := Go.Op.call { callee := Go.Callee.builtin Go.Builtin.append, args := #[Go.Operand.tmp 46, Go.Operand.tmp 48], argTypes := #[30, 9] }, type := 30, pos := "wire.go:46", after := #[{ on := 5, ground := Go.Ground.data }, { on := 7, ground := Go.Ground.data }, { on := 5, ground := Go.Ground.chain }], guard := none }) rfl (fun K hK => ?g1ro9) ?g1rm9
  case g1rm9 => exact Go.Shr.AllReadyF.nil
  (refine step_append (B := wx.heap.size) rfl _ _ _ _ rfl i0 (.int .u8 0) 1 Try.underlying30 hi0 hz0 hz1 hz2 rfl rfl ho5 _ rfl _ _ (Src.ofString _ Try.underlying9 t.s) (by have := HL.out; have := HNB.out; simp only [maxLen]; omega) (by have := HL.out; have := HNB.out; omega) hb5.size ?_; intro a6 cap6 w6 ho6 hc6 hn6)
  refine hK.out _ _ ?g1rs9 (fun hHeld => ?g1rt9)
  case g1rs9 => (try dsimp only); (first | exact HP1.out | exact hHeld | exact Go.Shr.cb hb5 HP1.out | exact (hc6.keep (Go.Shr.cb hb5 HP1.out) (fun h => by have h9 : wx.heap.size ≤ w.heap.size + 1 := (ho5.blt' (by omega) h.1).1; have := HZX.out; omega)))
  try dsimp only at hHeld
  clear hK K
  try simp only [Act.put, List.setIfInBounds_toArray, List.set_cons_zero, List.set_cons_succ]
  refine Go.Shr.wpAnyF_ready [9] (by kernel_rfl) (by simp) ?_
  refine Go.Shr.AllReadyF.last 9 (o := { dst := some 8, op := Go.Op.assign (Go.Operand.tmp 49), type := 30, pos := "wire.go:46", after := #[{ on := 8, ground := Go.Ground.data }, { on := 8, ground := Go.Ground.chain }, { on := 0, ground := Go.Ground.phase }, { on := 1, ground := Go.Ground.phase }, { on := 2, ground := Go.Ground.phase }, { on := 3, ground := Go.Ground.phase }, { on := 4, ground := Go.Ground.phase }, { on := 5, ground := Go.Ground.phase }, { on := 6, ground := Go.Ground.phase }, { on := 7, ground := Go.Ground.phase }, { on := 8, ground := Go.Ground.phase }], guard := none }) rfl (by kernel_rfl) (fun K hK => ?g1ro10) ?g1rm10
  case g1rm10 => exact Go.Shr.AllReadyF.nil
  go_simp
  refine hK.out _ _ ?_
  clear hK K
  try simp only [Act.put, List.setIfInBounds_toArray, List.set_cons_zero, List.set_cons_succ]
  refine Go.Shr.wpAnyF_done (by kernel_rfl) ?_
  go_wp2_with fail
  go_ret
  rw [HE.out]
  rw [cells_u8s, ← u8s_append] at ho6
  have hzx := HZX.out
  have hb5' : Below wx.heap.size wx w5 := bt (b0 wx).drew hb5
  have hn5B : ∀ k, blk a5 k → wx.heap.size ≤ k := fun k hk => (ho5.blt' (by omega) hk).1
  refine ⟨a6, bs.length + (vput t.s.size).length + t.s.size, cap6, rfl, OB.of (B := B) (W := wx.heap.size) (by rw [List.append_assoc] at ho6; exact ho6) (by omega) (by omega), (HCHG.out _ hb5').trans hc6 (fun i hi h => by have := hn5B i h.1; omega), fun k hk => .inr ?_⟩
  rcases hn6 k hk with h | h
  · have := hn5B k h; omega
  · have := hb5'.size; omega
end Go.Proofs.Ytofhlopedflkiaa
