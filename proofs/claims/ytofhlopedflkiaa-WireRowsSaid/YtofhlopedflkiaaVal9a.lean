/-
  The walk of wire's shape: value: numbers.
-/
import Derived.Test.YtofhlopedflkiaaVal9
set_option linter.unusedSimpArgs false
namespace Go.Proofs.Ytofhlopedflkiaa
open Go.RowKit Go.Shr
theorem wrap_u (n : Int) : IntKind.u64.wrap n = (u64 n : Int) := by
  have : IntKind.u64.wrap n = n % 18446744073709551616 := by simp [IntKind.wrap, IntKind.bits, IntKind.signed]
  rw [this]; unfold u64; omega
theorem cells_u8s (s : ByteArray) : byteCells s = u8s s.toList := by simp [byteCells, u8s, ByteArray.toList_eq]
set_option maxHeartbeats 2000000 in
set_option maxRecDepth 100000 in
theorem value_w1 (B : Nat) (sa : Option Addr) (scap bk : Nat) (l : List Fl) (nm : ByteArray) (rp kd : Int) (ks : List Sh) (hlen : l.length ≤ 1000) (hA : ∀ s ∈ ks, AllW B sa scap bk l s) (c1 : kd = 1) : ValW B sa scap bk l (.mk nm rp kd ks) := by
  intro i t ab nb cb bs ta tcap w hix hsh hT hob hbd
  obtain ⟨i0, hi0, hz0, hz1, hz2⟩ := info_parts info_u8
  simp only [Ix] at hix
  obtain ⟨hix1, hix2, hix3⟩ := hix
  obtain ⟨hil, hie⟩ := List.getElem?_eq_some_iff.1 hix1
  obtain ⟨_, _, f2, _⟩ := fls_get l i hil
  rw [hie] at f2
  dsimp only at f2
  obtain ⟨sb, soff, rfl, hsb, hsc⟩ := hsh.sl.pos (by omega)
  replace f2 := hsc _ _ f2
  rw [← Nat.add_assoc] at f2
  obtain ⟨ka, kc, k1, k2⟩ := hsh.kids i hil
  obtain ⟨_, _, _, xs, hcs, hm, hss, hsl, hkid⟩ := hT.parts'
  simp at hcs
  obtain ⟨rfl, rfl, rfl⟩ := hcs
  have hmx := Nat.le_trans hsl.le hsl.max
  have hssx := hss
  unfold maxLen at hmx hssx
  have hle := hsh.le
  have hbk := hsh.bk
  have hab := hob.lt
  have HNB := Lib.hid hob.len
  have HBD := Lib.hid hbd; have HSH := Lib.hid hsh; have HSL := Lib.hid hsl; have HKD := Lib.hid hkid; have HOB := Lib.hid hob; have HA := Lib.hid hA; have HIX := Lib.hid hix3; have HK2 := Lib.hid k2; have HIX2 := Lib.hid hix2
  have HSS := Lib.hid hss
  obtain ⟨wx, hwx⟩ : ∃ wx, wx = (w.alloc (.cells #[.slice (some ⟨sb, soff, none⟩) l.length scap, .slice (some ⟨bk, 0, none⟩) l.length l.length] 56)).alloc (.cells #[.int .i64 t.n, .string t.s, .slice ta t.kids.length tcap] 35) := ⟨_, rfl⟩
  have hbx : Below w.heap.size w wx := by rw [hwx]; exact ba (ba (b0 w) _) _
  have r4 : Rw wx w.heap.size #[.slice (some ⟨sb, soff, none⟩) l.length scap, .slice (some ⟨bk, 0, none⟩) l.length l.length] 56 := by rw [hwx]; exact (Rw.new w _ _).alloc _
  have r7 : Rw wx (w.heap.size + 1) #[.int .i64 t.n, .string t.s, .slice ta t.kids.length tcap] 35 := by rw [hwx]; exact Rw.new' (by simp)
  have hzx : wx.heap.size = w.heap.size + 2 := by rw [hwx]; simp
  replace f2 := Go.Shr.cb hbx f2
  replace k1 := Go.Shr.cb hbx k1
  have q0 : wx.cell? ⟨w.heap.size, 0, none⟩ = some (.slice (some ⟨sb, soff, none⟩) l.length scap) := r4.cell 0
  have q1 : wx.cell? ⟨w.heap.size, 1, none⟩ = some (.slice (some ⟨bk, 0, none⟩) l.length l.length) := r4.cell 1
  have p0 : wx.cell? ⟨w.heap.size + 1, 0, none⟩ = some (.int .i64 t.n) := r7.cell 0
  have p1 : wx.cell? ⟨w.heap.size + 1, 1, none⟩ = some (.string t.s) := r7.cell 1
  have p2 : wx.cell? ⟨w.heap.size + 1, 2, none⟩ = some (.slice ta t.kids.length tcap) := r7.cell 2
  have HBX := Lib.hid hbx; have HR4 := Lib.hid r4; have HR7 := Lib.hid r7
  have HOX := Lib.hid (hob.below hbx)
  have hi0' : (0 : Int) ≤ (i : Int) := by omega
  have hi1' : (i : Int) < (l.length : Int) := by omega
  clear hsc hix1 hix2 hix3 hie hsh hT hob hbd hA hsl hkid k2 hbx r4 r7 hss
  have hchg : ∀ W : World, Below wx.heap.size wx W → Chg (fun k => blk ab k ∧ B ≤ k) w W := fun W h => (Chg.ofBelow (bt HBX.out h)).mono (fun i hi h => by omega)
  have HCHG := Lib.hid hchg
  have HZX := Lib.hid hzx
  clear hchg hzx
  go_enter Try.func26, Try.ntmps26
  go_upto_region 1 with fail
  rw [← hwx]; clear hwx
  have HE : Hid (encT (.mk nm rp kd ks) t = leN 1 (u64 t.n)) := Lib.hid (by rw [encT, if_pos c1])
  have HL : Hid (nb + 1 ≤ 10000000000000) := Lib.hid (by have := HBD.out; rw [HE.out, leN_len] at this; exact this)
  subst c1
  go_wp2_with (first | (at_builtin; (have hl := HL.out); refine wpList_append (B := B) rfl _ _ _ _ rfl i0 (.int .u8 0) 1 Try.underlying30 hi0 hz0 hz1 hz2 rfl rfl (HOX.out.own.alloc _) _ rfl _ _ (src_one Try.underlying30 wx _ _ rfl) (by simp only [maxLen]; omega) (by omega) (by have := HZX.out; simp; omega) ?_; intro a5 cap5 w5 ho5 hc5 hn5) | fail)
  have hzx := HZX.out
  go_ret
  rw [HE.out]
  have e : (t.n % 256) = ((u64 t.n % 256 : Nat) : Int) := by unfold u64; omega
  rw [e, u8s_snoc _ _ (Nat.mod_lt _ (by decide))] at ho5
  refine ⟨a5, nb + 1, cap5, rfl, OB.of (by simpa [leN] using ho5) (Nat.le_refl _) (by omega), ((HCHG.out _ (ba (b0 wx) _))).trans hc5 (fun i hi h => ⟨h.1, h.2.1⟩), fun k hk => ?_⟩
  rcases hn5 k hk with h | h
  · exact .inl h
  · simp at h; exact .inr (by omega)
set_option maxHeartbeats 2000000 in
set_option maxRecDepth 100000 in
theorem value_w2 (B : Nat) (sa : Option Addr) (scap bk : Nat) (l : List Fl) (nm : ByteArray) (rp kd : Int) (ks : List Sh) (hlen : l.length ≤ 1000) (hA : ∀ s ∈ ks, AllW B sa scap bk l s) (c1 : kd ≠ 1) (c2 : kd = 2) : ValW B sa scap bk l (.mk nm rp kd ks) := by
  intro i t ab nb cb bs ta tcap w hix hsh hT hob hbd
  obtain ⟨i0, hi0, hz0, hz1, hz2⟩ := info_parts info_u8
  simp only [Ix] at hix
  obtain ⟨hix1, hix2, hix3⟩ := hix
  obtain ⟨hil, hie⟩ := List.getElem?_eq_some_iff.1 hix1
  obtain ⟨_, _, f2, _⟩ := fls_get l i hil
  rw [hie] at f2
  dsimp only at f2
  obtain ⟨sb, soff, rfl, hsb, hsc⟩ := hsh.sl.pos (by omega)
  replace f2 := hsc _ _ f2
  rw [← Nat.add_assoc] at f2
  obtain ⟨ka, kc, k1, k2⟩ := hsh.kids i hil
  obtain ⟨_, _, _, xs, hcs, hm, hss, hsl, hkid⟩ := hT.parts'
  simp at hcs
  obtain ⟨rfl, rfl, rfl⟩ := hcs
  have hmx := Nat.le_trans hsl.le hsl.max
  have hssx := hss
  unfold maxLen at hmx hssx
  have hle := hsh.le
  have hbk := hsh.bk
  have hab := hob.lt
  have HNB := Lib.hid hob.len
  have HBD := Lib.hid hbd; have HSH := Lib.hid hsh; have HSL := Lib.hid hsl; have HKD := Lib.hid hkid; have HOB := Lib.hid hob; have HA := Lib.hid hA; have HIX := Lib.hid hix3; have HK2 := Lib.hid k2; have HIX2 := Lib.hid hix2
  have HSS := Lib.hid hss
  obtain ⟨wx, hwx⟩ : ∃ wx, wx = (w.alloc (.cells #[.slice (some ⟨sb, soff, none⟩) l.length scap, .slice (some ⟨bk, 0, none⟩) l.length l.length] 56)).alloc (.cells #[.int .i64 t.n, .string t.s, .slice ta t.kids.length tcap] 35) := ⟨_, rfl⟩
  have hbx : Below w.heap.size w wx := by rw [hwx]; exact ba (ba (b0 w) _) _
  have r4 : Rw wx w.heap.size #[.slice (some ⟨sb, soff, none⟩) l.length scap, .slice (some ⟨bk, 0, none⟩) l.length l.length] 56 := by rw [hwx]; exact (Rw.new w _ _).alloc _
  have r7 : Rw wx (w.heap.size + 1) #[.int .i64 t.n, .string t.s, .slice ta t.kids.length tcap] 35 := by rw [hwx]; exact Rw.new' (by simp)
  have hzx : wx.heap.size = w.heap.size + 2 := by rw [hwx]; simp
  replace f2 := Go.Shr.cb hbx f2
  replace k1 := Go.Shr.cb hbx k1
  have q0 : wx.cell? ⟨w.heap.size, 0, none⟩ = some (.slice (some ⟨sb, soff, none⟩) l.length scap) := r4.cell 0
  have q1 : wx.cell? ⟨w.heap.size, 1, none⟩ = some (.slice (some ⟨bk, 0, none⟩) l.length l.length) := r4.cell 1
  have p0 : wx.cell? ⟨w.heap.size + 1, 0, none⟩ = some (.int .i64 t.n) := r7.cell 0
  have p1 : wx.cell? ⟨w.heap.size + 1, 1, none⟩ = some (.string t.s) := r7.cell 1
  have p2 : wx.cell? ⟨w.heap.size + 1, 2, none⟩ = some (.slice ta t.kids.length tcap) := r7.cell 2
  have HBX := Lib.hid hbx; have HR4 := Lib.hid r4; have HR7 := Lib.hid r7
  have HOX := Lib.hid (hob.below hbx)
  have hi0' : (0 : Int) ≤ (i : Int) := by omega
  have hi1' : (i : Int) < (l.length : Int) := by omega
  clear hsc hix1 hix2 hix3 hie hsh hT hob hbd hA hsl hkid k2 hbx r4 r7 hss
  have hchg : ∀ W : World, Below wx.heap.size wx W → Chg (fun k => blk ab k ∧ B ≤ k) w W := fun W h => (Chg.ofBelow (bt HBX.out h)).mono (fun i hi h => by omega)
  have HCHG := Lib.hid hchg
  have HZX := Lib.hid hzx
  clear hchg hzx
  go_enter Try.func26, Try.ntmps26
  go_upto_region 1 with fail
  rw [← hwx]; clear hwx
  have HE : Hid (encT (.mk nm rp kd ks) t = leN 4 (u64 t.n)) := Lib.hid (by rw [encT, if_neg c1, if_pos c2])
  have HL : Hid (nb + 4 ≤ 10000000000000) := Lib.hid (by have := HBD.out; rw [HE.out, leN_len] at this; exact this)
  subst c2
  clear c1
  have hul := u64_lt t.n
  go_wp2_with fail
  rw [wrap_u t.n]
  refine (cput_u8 _ ab nb cb bs 4 (u64 t.n) wx HOX.out.own.sl (by have := HL.out; omega) (by omega) hul).mono ?_
  rintro e w5 ⟨a5, cap5, rfl, ho5, hb5⟩
  have HO5 := Lib.hid ho5; have HB5 := Lib.hid hb5
  clear ho5 hb5
  go_wp2_with fail
  go_ret
  rw [HE.out]
  refine ⟨a5, nb + 4, cap5, rfl, OB.of HO5.out (by have := HZX.out; omega) (by omega), HCHG.out _ HB5.out, fun k hk => .inr ?_⟩
  have := (HO5.out.blt' (by omega) hk).1; have := HZX.out; omega
set_option maxHeartbeats 2000000 in
set_option maxRecDepth 100000 in
theorem value_w3 (B : Nat) (sa : Option Addr) (scap bk : Nat) (l : List Fl) (nm : ByteArray) (rp kd : Int) (ks : List Sh) (hlen : l.length ≤ 1000) (hA : ∀ s ∈ ks, AllW B sa scap bk l s) (c1 : kd ≠ 1) (c2 : kd ≠ 2) (c3 : kd = 3) : ValW B sa scap bk l (.mk nm rp kd ks) := by
  intro i t ab nb cb bs ta tcap w hix hsh hT hob hbd
  obtain ⟨i0, hi0, hz0, hz1, hz2⟩ := info_parts info_u8
  simp only [Ix] at hix
  obtain ⟨hix1, hix2, hix3⟩ := hix
  obtain ⟨hil, hie⟩ := List.getElem?_eq_some_iff.1 hix1
  obtain ⟨_, _, f2, _⟩ := fls_get l i hil
  rw [hie] at f2
  dsimp only at f2
  obtain ⟨sb, soff, rfl, hsb, hsc⟩ := hsh.sl.pos (by omega)
  replace f2 := hsc _ _ f2
  rw [← Nat.add_assoc] at f2
  obtain ⟨ka, kc, k1, k2⟩ := hsh.kids i hil
  obtain ⟨_, _, _, xs, hcs, hm, hss, hsl, hkid⟩ := hT.parts'
  simp at hcs
  obtain ⟨rfl, rfl, rfl⟩ := hcs
  have hmx := Nat.le_trans hsl.le hsl.max
  have hssx := hss
  unfold maxLen at hmx hssx
  have hle := hsh.le
  have hbk := hsh.bk
  have hab := hob.lt
  have HNB := Lib.hid hob.len
  have HBD := Lib.hid hbd; have HSH := Lib.hid hsh; have HSL := Lib.hid hsl; have HKD := Lib.hid hkid; have HOB := Lib.hid hob; have HA := Lib.hid hA; have HIX := Lib.hid hix3; have HK2 := Lib.hid k2; have HIX2 := Lib.hid hix2
  have HSS := Lib.hid hss
  obtain ⟨wx, hwx⟩ : ∃ wx, wx = (w.alloc (.cells #[.slice (some ⟨sb, soff, none⟩) l.length scap, .slice (some ⟨bk, 0, none⟩) l.length l.length] 56)).alloc (.cells #[.int .i64 t.n, .string t.s, .slice ta t.kids.length tcap] 35) := ⟨_, rfl⟩
  have hbx : Below w.heap.size w wx := by rw [hwx]; exact ba (ba (b0 w) _) _
  have r4 : Rw wx w.heap.size #[.slice (some ⟨sb, soff, none⟩) l.length scap, .slice (some ⟨bk, 0, none⟩) l.length l.length] 56 := by rw [hwx]; exact (Rw.new w _ _).alloc _
  have r7 : Rw wx (w.heap.size + 1) #[.int .i64 t.n, .string t.s, .slice ta t.kids.length tcap] 35 := by rw [hwx]; exact Rw.new' (by simp)
  have hzx : wx.heap.size = w.heap.size + 2 := by rw [hwx]; simp
  replace f2 := Go.Shr.cb hbx f2
  replace k1 := Go.Shr.cb hbx k1
  have q0 : wx.cell? ⟨w.heap.size, 0, none⟩ = some (.slice (some ⟨sb, soff, none⟩) l.length scap) := r4.cell 0
  have q1 : wx.cell? ⟨w.heap.size, 1, none⟩ = some (.slice (some ⟨bk, 0, none⟩) l.length l.length) := r4.cell 1
  have p0 : wx.cell? ⟨w.heap.size + 1, 0, none⟩ = some (.int .i64 t.n) := r7.cell 0
  have p1 : wx.cell? ⟨w.heap.size + 1, 1, none⟩ = some (.string t.s) := r7.cell 1
  have p2 : wx.cell? ⟨w.heap.size + 1, 2, none⟩ = some (.slice ta t.kids.length tcap) := r7.cell 2
  have HBX := Lib.hid hbx; have HR4 := Lib.hid r4; have HR7 := Lib.hid r7
  have HOX := Lib.hid (hob.below hbx)
  have hi0' : (0 : Int) ≤ (i : Int) := by omega
  have hi1' : (i : Int) < (l.length : Int) := by omega
  clear hsc hix1 hix2 hix3 hie hsh hT hob hbd hA hsl hkid k2 hbx r4 r7 hss
  have hchg : ∀ W : World, Below wx.heap.size wx W → Chg (fun k => blk ab k ∧ B ≤ k) w W := fun W h => (Chg.ofBelow (bt HBX.out h)).mono (fun i hi h => by omega)
  have HCHG := Lib.hid hchg
  have HZX := Lib.hid hzx
  clear hchg hzx
  go_enter Try.func26, Try.ntmps26
  go_upto_region 1 with fail
  rw [← hwx]; clear hwx
  have HE : Hid (encT (.mk nm rp kd ks) t = leN 8 (u64 t.n)) := Lib.hid (by rw [encT, if_neg c1, if_neg c2, if_pos c3])
  have HL : Hid (nb + 8 ≤ 10000000000000) := Lib.hid (by have := HBD.out; rw [HE.out, leN_len] at this; exact this)
  subst c3
  clear c1 c2
  have hul := u64_lt t.n
  go_wp2_with fail
  rw [wrap_u t.n]
  refine (cput_u8 _ ab nb cb bs 8 (u64 t.n) wx HOX.out.own.sl (by have := HL.out; omega) (by omega) hul).mono ?_
  rintro e w5 ⟨a5, cap5, rfl, ho5, hb5⟩
  have HO5 := Lib.hid ho5; have HB5 := Lib.hid hb5
  clear ho5 hb5
  go_wp2_with fail
  go_ret
  rw [HE.out]
  refine ⟨a5, nb + 8, cap5, rfl, OB.of HO5.out (by have := HZX.out; omega) (by omega), HCHG.out _ HB5.out, fun k hk => .inr ?_⟩
  have := (HO5.out.blt' (by omega) hk).1; have := HZX.out; omega
end Go.Proofs.Ytofhlopedflkiaa
