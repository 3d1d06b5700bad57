/-
  The walks of wire's shape: mark, all, value. The walk of wire's shape: value: numbers. The walk of wire's shape: value: texts. The walk of wire's shape: value: groups. The walk of wire's shape: value, whatever the shape is.
-/
import Derived.Test.YtofhlopedflkiaaEnc9
import Derived.Test.YtofhlopedflkiaaSchG
import Derived.Test.YtofhlopedflkiaaRegJ
import Derived.Deep.CutRange
import Derived.Deep.CutBlock
set_option linter.unusedSimpArgs false
namespace Go.Proofs.Ytofhlopedflkiaa
open Go.RowKit Go.Shr
def markN (rep : Int) : Int := if rep = 1 then 63 else if rep = 2 then 42 else 49
theorem mark_v (B : Nat) (sa : Option Addr) (scap bk : Nat) (l : List Fl) (i : Nat) (w : World) (h : Shp B w sa scap bk l) (hi : i < l.length) :
    Calls Try.prog 60 #[.agg #[.slice sa l.length scap, .slice (some ⟨bk, 0, none⟩) l.length l.length], .int .i64 i] w fun e w' => e = .returned (.int .i32 (markN l[i].rep)) ∧ Below w.heap.size w w' := by
  obtain ⟨sb, soff, rfl, hsb, hsc⟩ := h.sl.pos (by omega)
  obtain ⟨_, f1, _, _⟩ := fls_get l i hi
  replace f1 := hsc _ _ f1
  rw [← Nat.add_assoc] at f1
  have hle := h.le
  have hmx := Nat.le_trans h.sl.le h.sl.max
  unfold maxLen at hmx
  obtain ⟨wx, hwx⟩ : ∃ wx, wx = w.alloc (.cells #[.slice (some ⟨sb, soff, none⟩) l.length scap, .slice (some ⟨bk, 0, none⟩) l.length l.length] 56) := ⟨_, rfl⟩
  have hbx : Below w.heap.size w wx := by rw [hwx]; exact ba (b0 w) _
  have q0 : wx.cell? ⟨w.heap.size, 0, none⟩ = some (.slice (some ⟨sb, soff, none⟩) l.length scap) := by rw [hwx]; exact (Rw.new w #[.slice (some ⟨sb, soff, none⟩) l.length scap, .slice (some ⟨bk, 0, none⟩) l.length l.length] 56).cell 0
  replace f1 := cb hbx f1
  generalize l[i].rep = rp at *
  clear hsc h
  have hi0 : (0 : Int) ≤ (i : Int) := by omega
  have hi1 : (i : Int) < (l.length : Int) := by omega
  by_cases h1 : rp = 1
  · subst h1
    go_enter Try.func60, Try.ntmps60
    go_upto_region 1 with fail
    rw [← hwx]; clear hwx
    go_wp2_with fail
    go_ret
    exact ⟨by simp [markN], hbx⟩
  · by_cases h2 : rp = 2
    · subst h2
      go_enter Try.func60, Try.ntmps60
      go_upto_region 1 with fail
      rw [← hwx]; clear hwx
      go_wp2_with fail
      go_ret
      exact ⟨by simp [markN], hbx⟩
    · have hm : Hid (markN rp = 49) := Lib.hid (by simp [markN, h1, h2])
      have b1 : (rp == 1) = false := beq_eq_false_iff_ne.2 h1
      have b2 : (rp == 2) = false := beq_eq_false_iff_ne.2 h2
      clear h1 h2
      go_enter Try.func60, Try.ntmps60
      go_upto_region 1 with fail
      rw [← hwx]; clear hwx
      go_wp2_with fail
      go_ret
      exact ⟨by rw [hm.out]; rfl, hbx⟩
/-- What value, all append of a shape. -/
def ValW (B : Nat) (sa : Option Addr) (scap bk : Nat) (l : List Fl) (s : Sh) : Prop :=
  ∀ (i : Nat) (t : Tr) (ab : Option Addr) (nb cb : Nat) (bs : List UInt8) (ta : Option Addr) (tcap : Nat) (w : World), Ix l (KF l) i s → Shp B w sa scap bk l →
    TrG (fun b => b < B) w t [.int .i64 t.n, .string t.s, .slice ta t.kids.length tcap] → OB B w ab nb cb bs → nb + (encT s t).length ≤ 10000000000000 →
    Calls Try.prog 26 #[.agg #[.slice sa l.length scap, .slice (some ⟨bk, 0, none⟩) l.length l.length], .slice ab nb cb, .int .i64 i, .agg #[.int .i64 t.n, .string t.s, .slice ta t.kids.length tcap]] w (EncQ B ab bs (encT s t) w)
def AllW (B : Nat) (sa : Option Addr) (scap bk : Nat) (l : List Fl) (s : Sh) : Prop :=
  ∀ (i : Nat) (x : List Tr) (ab : Option Addr) (nb cb : Nat) (bs : List UInt8) (xa : Option Addr) (xcap : Nat) (ys : List Value) (w : World), Ix l (KF l) i s → Shp B w sa scap bk l →
    Sl (fun b => b < B) w 3 xa x.length xcap ys → RowG (fun b => b < B) w x ys → OB B w ab nb cb bs → nb + (encA s x).length ≤ 10000000000000 →
    Calls Try.prog 42 #[.agg #[.slice sa l.length scap, .slice (some ⟨bk, 0, none⟩) l.length l.length], .slice ab nb cb, .int .i64 i, .slice xa x.length xcap] w (EncQ B ab bs (encA s x) w)
theorem Ix.at {l : List Fl} {K : Int → List Int} {i : Nat} {s : Sh} (h : Ix l K i s) : ∃ hi : i < l.length, l[i].rep = s.rep ∧ l[i].kind = s.kind := by
  obtain ⟨nm, rp, kd, ks⟩ := s
  simp only [Ix] at h
  obtain ⟨h1, h2⟩ := List.getElem?_eq_some_iff.1 h.1
  exact ⟨h1, by rw [h2]; rfl, by rw [h2]; rfl⟩
theorem flat_take (f : Tr → List UInt8) (x : List Tr) (j : Nat) (h : j < x.length) : (x.take (j + 1)).flatMap f = (x.take j).flatMap f ++ f x[j] := by
  rw [List.take_succ_eq_append_getElem h, List.flatMap_append]; simp
theorem flat_le (f : Tr → List UInt8) (x : List Tr) (j : Nat) : ((x.take j).flatMap f).length ≤ (x.flatMap f).length := by
  have h : x.flatMap f = (x.take j).flatMap f ++ (x.drop j).flatMap f := by rw [← List.flatMap_append, List.take_append_drop]
  rw [h, List.length_append]; omega
set_option maxHeartbeats 1000000 in
set_option maxRecDepth 100000 in
theorem all_w (B : Nat) (sa : Option Addr) (scap bk : Nat) (l : List Fl) (s : Sh) (hV : ValW B sa scap bk l s) : AllW B sa scap bk l s := by
  intro i x ab nb cb bs xa xcap ys w hix hsh hsl hrow hob hbd
  obtain ⟨i0, hi0, hz0, hz1, hz2⟩ := info_parts info_u8
  obtain ⟨hil, hrep, _⟩ := hix.at
  have hmx := Nat.le_trans hsl.le hsl.max
  unfold maxLen at hmx
  have hmk := fun W (h : Shp B W sa scap bk l) => mark_v B sa scap bk l i W h hil
  rw [hrep] at hmk
  have HMK := Lib.hid hmk; have HSH := Lib.hid hsh; have HSL := Lib.hid hsl; have HROW := Lib.hid hrow; have HOB := Lib.hid hob; have HV := Lib.hid hV; have HIX := Lib.hid hix
  have hle := hsh.le
  have hab := hob.lt
  have hnb := hob.len
  have HNB := Lib.hid hnb
  have HBD := Lib.hid hbd
  have hm0 : nb + (markB s.rep x.length).length ≤ 10000000000000 := by rw [encA, List.length_append] at hbd; omega
  clear hmk hsh hsl hrow hob hV hix hrep hbd hnb
  go_enter Try.func42, Try.ntmps42
  go_upto_region 1 with fail
  obtain ⟨wx, hwx⟩ : ∃ wx, wx = w.alloc (.cells #[.slice sa l.length scap, .slice (some ⟨bk, 0, none⟩) l.length l.length] 56) := ⟨_, rfl⟩
  have hbx : Below w.heap.size w wx := by rw [hwx]; exact ba (b0 w) _
  have hrx : Rw wx w.heap.size #[.slice sa l.length scap, .slice (some ⟨bk, 0, none⟩) l.length l.length] 56 := by rw [hwx]; exact Rw.new w _ _
  have hzx : wx.heap.size = w.heap.size + 1 := by rw [hwx]; simp
  rw [← hwx]; clear hwx
  have HBX := Lib.hid hbx
  have HSX := Lib.hid (HSH.out.keep (hbx.mono hle))
  have q0 : wx.cell? ⟨w.heap.size, 0, none⟩ = some (.slice sa l.length scap) := hrx.cell 0
  have q1 : wx.cell? ⟨w.heap.size, 1, none⟩ = some (.slice (some ⟨bk, 0, none⟩) l.length l.length) := hrx.cell 1
  have HRX := Lib.hid hrx
  clear hbx hrx
  go_wp2_with fail
  refine (HMK.out wx HSX.out).mono ?_
  rintro e w1 ⟨rfl, hb1⟩
  have HB1 := Lib.hid (bt HBX.out hb1)
  have HR1 := Lib.hid (HRX.out.below hb1)
  have HS1 := Lib.hid (HSX.out.keep (hb1.mono (by omega)))
  have HO1 := Lib.hid (HOB.out.below HB1.out)
  have hz1' : w.heap.size + 1 ≤ w1.heap.size := by have := hb1.size; omega
  clear hb1 q0 q1 HSX HRX HBX
  go_upto_block 0 with fail
  go_cut [1] from 13 to 28 (fun bv wd => ∃ (a' : Option Addr) (n' cap' : Nat), bv = .slice a' n' cap' ∧ Hid (OB B wd a' n' cap' (bs ++ markB s.rep x.length)) ∧ Hid (Chg (fun k => blk ab k ∧ B ≤ k) w wd) ∧ Hid (∀ k, blk a' k → blk ab k ∨ w.heap.size + 1 ≤ k) ∧ Hid (Rw wd w.heap.size #[.slice sa l.length scap, .slice (some ⟨bk, 0, none⟩) l.length l.length] 56))
  case first =>
    by_cases h1 : s.rep = 1
    · have hmn : markN s.rep = 63 := by simp [markN, h1]
      have hmb : Hid (markB s.rep x.length = [UInt8.ofNat (x.length % 256)]) := Lib.hid (by simp [markB, h1])
      rw [hmn]
      clear hmn h1
      have hl1 : nb + 1 ≤ 10000000000000 := by rw [hmb.out] at hm0; simpa using hm0
      go_wp2_with (first | (at_builtin; refine wpList_append (B := B) rfl _ _ _ _ rfl i0 (.int .u8 0) 1 Try.underlying30 hi0 hz0 hz1 hz2 rfl rfl (HO1.out.own.alloc _) _ rfl _ _ (src_one Try.underlying30 w1 _ _ rfl) (by simp only [maxLen]; omega) (by omega) (by have := HS1.out.le; simp; omega) ?_; intro a5 cap5 w5 ho5 hc5 hn5) | fail)
      go_meet
      case rel =>
        have hc : Chg (fun k => blk ab k ∧ B ≤ k) w w5 := ((Chg.ofBelow HB1.out).mono (fun i hi h => by omega) |>.alloc _).trans hc5 (fun i hi h => ⟨h.1, h.2.1⟩)
        refine ⟨a5, nb + 1, cap5, rfl, Lib.hid (OB.of (by rw [hmb.out, ← u8s_snoc _ _ (by omega)]; exact ho5) (Nat.le_refl _) (by omega)), Lib.hid hc, Lib.hid (fun k hk => ?_), Lib.hid ((HR1.out.alloc _).chg hc5 (fun h => by have := hab _ h.1; omega))⟩
        rcases hn5 k hk with h | h
        · exact .inl h
        · refine .inr ?_
          simp at h; omega
    · by_cases h2 : s.rep = 2
      · have hmn : markN s.rep = 42 := by simp [markN, h2]
        have hmb : Hid (markB s.rep x.length = vput x.length) := Lib.hid (by simp [markB, h2])
        rw [hmn]
        clear hmn h1 h2
        have hl1 : nb + (vput x.length).length ≤ 10000000000000 := by rw [hmb.out] at hm0; exact hm0
        go_wp2_with fail
        refine (put_u8 _ ab nb cb bs x.length w1 HO1.out.own.sl (by omega) (by omega)).mono ?_
        rintro e w5 ⟨a5, n5, cap5, rfl, ho5, hb5⟩
        have hn5 : n5 = bs.length + (vput x.length).length := by have := ho5.len; simpa using this.symm
        have hp5 := vput_pos x.length
        subst hn5
        have HO5 := Lib.hid ho5; have HB5 := Lib.hid hb5
        clear ho5 hb5
        go_wp2_with fail
        go_meet
        case rel =>
          refine ⟨a5, _, cap5, rfl, Lib.hid (OB.of (by rw [hmb.out]; exact HO5.out) HS1.out.le (by omega)), Lib.hid ((Chg.ofBelow (bt HB1.out HB5.out)).mono (fun i hi h => by omega)), Lib.hid (fun k hk => .inr ?_), Lib.hid (HR1.out.below HB5.out)⟩
          have := (HO5.out.blt' (by omega) hk).1
          omega
      · have hmn : Hid (markN s.rep = 49) := Lib.hid (by simp [markN, h1, h2])
        have hmb : Hid (markB s.rep x.length = []) := Lib.hid (by simp [markB, h1, h2])
        rw [hmn.out]
        clear h1 h2
        go_wp2_with fail
        go_meet
        case rel => exact ⟨ab, nb, cb, rfl, Lib.hid (by rw [hmb.out, List.append_nil]; exact HO1.out), Lib.hid ((Chg.ofBelow HB1.out).mono (fun i hi h => by omega)), Lib.hid (fun k hk => .inl hk), HR1⟩
  case rest =>
    obtain ⟨ar, nr, cr, rfl, HO, HC, HN, HR⟩ := hcut
    have HE : Hid (encA s x = markB s.rep x.length ++ x.flatMap (encT s)) := Lib.hid rfl
    have hbdx : nb + ((markB s.rep x.length).length + (x.flatMap (encT s)).length) ≤ 10000000000000 := by have := HBD.out; rw [HE.out, List.length_append] at this; exact this
    clear HO1 HR1 HS1 HB1 HMK hm0
    go_wp2_with fail
    go_loopw [1, 31] (fun bv iv wr => ∃ (j : Nat) (a' : Option Addr) (n' cap' : Nat), bv = .slice a' n' cap' ∧ iv = .int .i64 (j : Int) ∧ j ≤ x.length ∧ Hid (OB B wr a' n' cap' (bs ++ markB s.rep x.length ++ (x.take j).flatMap (encT s))) ∧ Hid (Chg (fun k => blk ab k ∧ B ≤ k) w wr) ∧ Hid (∀ k, blk a' k → blk ab k ∨ w.heap.size + 1 ≤ k) ∧ Hid (Rw wr w.heap.size #[.slice sa l.length scap, .slice (some ⟨bk, 0, none⟩) l.length l.length] 56)) (fun _ iv _ => x.length - (intOf iv).toNat)
    case atStart => exact ⟨0, ar, nr, cr, rfl, rfl, Nat.zero_le _, Lib.hid (by simpa using HO.out), HC, HN, HR⟩
    case round =>
      clear HO HC HN HR
      obtain ⟨j, ar, nr, cr, rfl, rfl, hj, HO, HC, HN, HR⟩ := hrel
      have hnr := HO.out.len
      rw [List.length_append, List.length_append] at hnr
      have hfl := flat_le (encT s) x j
      have q0 : wr.cell? ⟨w.heap.size, 0, none⟩ = some (.slice sa l.length scap) := HR.out.cell 0
      have q1 : wr.cell? ⟨w.heap.size, 1, none⟩ = some (.slice (some ⟨bk, 0, none⟩) l.length l.length) := HR.out.cell 1
      have hlow : Below B w wr := HC.out.lower hle
      have HLOW := Lib.hid hlow
      have hszr := HC.out.size
      clear hlow
      by_cases hlt : j < x.length
      · obtain ⟨xb, xoff, hxa, hxb, hxc⟩ := HSL.out.pos (by omega)
        obtain ⟨e0, e1, e2, u0, u1, u2, hte⟩ := HROW.out.get' j hlt
        obtain ⟨ta, tm, tcap, _, hcs2, hxm, _, _, _⟩ := hte.parts'
        simp at hcs2
        obtain ⟨rfl, rfl, rfl⟩ := hcs2
        subst hxm
        have v0 := (Chg.ofBelow HLOW.out).keep (hxc _ _ u0) (by omega)
        have v1 := (Chg.ofBelow HLOW.out).keep (hxc _ _ u1) (by omega)
        have v2 := (Chg.ofBelow HLOW.out).keep (hxc _ _ u2) (by omega)
        rw [← Nat.add_assoc] at v1 v2
        have HTK := Lib.hid (flat_take (encT s) x j hlt)
        have hfl2 := flat_le (encT s) x (j + 1)
        rw [HTK.out, List.length_append] at hfl2
        have HT := Lib.hid hte
        have HCAP : Hid (nr + (encT s x[j]).length ≤ 10000000000000) := Lib.hid (by have := HNB.out; omega)
        generalize x[j] = t at *
        clear hxc u0 u1 u2 hte hnr hfl hfl2
        subst hxa
        have q0a : (wr.alloc (.cells #[.int .i64 t.n, .string t.s, .slice ta t.kids.length tcap] 35)).cell? ⟨w.heap.size, 0, none⟩ = some (.slice sa l.length scap) := Go.Shr.cb (ba (b0 wr) _) q0
        have q1a : (wr.alloc (.cells #[.int .i64 t.n, .string t.s, .slice ta t.kids.length tcap] 35)).cell? ⟨w.heap.size, 1, none⟩ = some (.slice (some ⟨bk, 0, none⟩) l.length l.length) := Go.Shr.cb (ba (b0 wr) _) q1
        go_wp2_with fail
        clear q0a q1a
        refine cgen (fun w5 hw5 => ?_)
        have hb5 : Below wr.heap.size wr w5 := by rw [hw5]; exact ba (b0 wr) _
        clear hw5
        have hz5 := hb5.size
        have hb25 : Below B w w5 := HLOW.out.trans (hb5.mono (by omega))
        refine (HV.out i t ar nr cr _ ta tcap w5 HIX.out (HSH.out.keep hb25) (HT.out.go (Chg.ofBelow hb25) (fun b hb h => ⟨by omega, h⟩)) (HO.out.below hb5) HCAP.out).mono ?_
        rintro e w6 ⟨a6, n6, c6, rfl, ho6, hc6, hn6⟩
        have HO6 := Lib.hid ho6
        have hnn := HN.out
        have HC6 : Hid (Chg (fun k => blk ab k ∧ B ≤ k) w w6) := Lib.hid ((HC.out.trans ((Chg.ofBelow hb5)) (fun i hi h => by omega)).trans hc6 (fun i hi h => by
          rcases hnn i h.1 with h3 | h3
          · exact ⟨h3, h.2⟩
          · omega))
        have HN6 : Hid (∀ k, blk a6 k → blk ab k ∨ w.heap.size + 1 ≤ k) := Lib.hid (fun k hk => by
          rcases hn6 k hk with h3 | h3
          · exact hnn k h3
          · have := HR.out.lt; exact .inr (by omega))
        have HR6 := Lib.hid ((HR.out.below hb5).chg hc6 (fun h => by
          rcases hnn _ h.1 with h3 | h3
          · have := hab _ h3; omega
          · omega))
        clear ho6 hc6 hn6 hb5 hb25 q0 q1 v0 v1 v2 hnn
        go_wp2_with fail
        go_roundw
        case rel => exact ⟨j + 1, a6, n6, c6, rfl, by go_num, by omega, Lib.hid (by rw [HTK.out, ← List.append_assoc]; exact HO6.out), HC6, HN6, HR6⟩
        case measure => simp [intOf]; omega
      · obtain rfl : j = x.length := by omega
        have he : bs ++ markB s.rep x.length ++ (x.take x.length).flatMap (encT s) = bs ++ encA s x := by rw [List.take_length, HE.out, List.append_assoc]
        have HO2 : Hid (OB B wr ar nr cr (bs ++ encA s x)) := Lib.hid (he ▸ HO.out)
        clear he HO hlt hnr hfl q0 q1
        go_wp2_with fail
        go_ret
        exact ⟨ar, nr, cr, rfl, HO2.out, HC.out, fun k hk => (HN.out k hk).imp id (fun h => by omega)⟩
end Go.Proofs.Ytofhlopedflkiaa
namespace Go.Proofs.Ytofhlopedflkiaa
open Go.RowKit Go.Shr
theorem wrap_u (n : Int) : IntKind.u64.wrap n = (u64 n : Int) := by
  have : IntKind.u64.wrap n = n % 18446744073709551616 := by simp [IntKind.wrap, IntKind.bits, IntKind.signed]
  rw [this]; unfold u64; omega
theorem cells_u8s (s : ByteArray) : byteCells s = u8s s.toList := by simp [byteCells, u8s, ByteArray.toList_eq]
set_option maxHeartbeats 2000000 in
set_option maxRecDepth 100000 in
theorem value_w1 (B : Nat) (sa : Option Addr) (scap bk : Nat) (l : List Fl) (nm : ByteArray) (rp kd : Int) (ks : List Sh) (hlen : l.length ≤ 1000) (hA : ∀ s ∈ ks, AllW B sa scap bk l s) (c1 : kd = 1) : ValW B sa scap bk l (.mk nm rp kd ks) := by
  intro i t ab nb cb bs ta tcap w hix hsh hT hob hbd
  obtain ⟨i0, hi0, hz0, hz1, hz2⟩ := info_parts info_u8
  simp only [Ix] at hix
  obtain ⟨hix1, hix2, hix3⟩ := hix
  obtain ⟨hil, hie⟩ := List.getElem?_eq_some_iff.1 hix1
  obtain ⟨_, _, f2, _⟩ := fls_get l i hil
  rw [hie] at f2
  dsimp only at f2
  obtain ⟨sb, soff, rfl, hsb, hsc⟩ := hsh.sl.pos (by omega)
  replace f2 := hsc _ _ f2
  rw [← Nat.add_assoc] at f2
  obtain ⟨ka, kc, k1, k2⟩ := hsh.kids i hil
  obtain ⟨_, _, _, xs, hcs, hm, hss, hsl, hkid⟩ := hT.parts'
  simp at hcs
  obtain ⟨rfl, rfl, rfl⟩ := hcs
  have hmx := Nat.le_trans hsl.le hsl.max
  have hssx := hss
  unfold maxLen at hmx hssx
  have hle := hsh.le
  have hbk := hsh.bk
  have hab := hob.lt
  have HNB := Lib.hid hob.len
  have HBD := Lib.hid hbd; have HSH := Lib.hid hsh; have HSL := Lib.hid hsl; have HKD := Lib.hid hkid; have HOB := Lib.hid hob; have HA := Lib.hid hA; have HIX := Lib.hid hix3; have HK2 := Lib.hid k2; have HIX2 := Lib.hid hix2
  have HSS := Lib.hid hss
  obtain ⟨wx, hwx⟩ : ∃ wx, wx = (w.alloc (.cells #[.slice (some ⟨sb, soff, none⟩) l.length scap, .slice (some ⟨bk, 0, none⟩) l.length l.length] 56)).alloc (.cells #[.int .i64 t.n, .string t.s, .slice ta t.kids.length tcap] 35) := ⟨_, rfl⟩
  have hbx : Below w.heap.size w wx := by rw [hwx]; exact ba (ba (b0 w) _) _
  have r4 : Rw wx w.heap.size #[.slice (some ⟨sb, soff, none⟩) l.length scap, .slice (some ⟨bk, 0, none⟩) l.length l.length] 56 := by rw [hwx]; exact (Rw.new w _ _).alloc _
  have r7 : Rw wx (w.heap.size + 1) #[.int .i64 t.n, .string t.s, .slice ta t.kids.length tcap] 35 := by rw [hwx]; exact Rw.new' (by simp)
  have hzx : wx.heap.size = w.heap.size + 2 := by rw [hwx]; simp
  replace f2 := Go.Shr.cb hbx f2
  replace k1 := Go.Shr.cb hbx k1
  have q0 : wx.cell? ⟨w.heap.size, 0, none⟩ = some (.slice (some ⟨sb, soff, none⟩) l.length scap) := r4.cell 0
  have q1 : wx.cell? ⟨w.heap.size, 1, none⟩ = some (.slice (some ⟨bk, 0, none⟩) l.length l.length) := r4.cell 1
  have p0 : wx.cell? ⟨w.heap.size + 1, 0, none⟩ = some (.int .i64 t.n) := r7.cell 0
  have p1 : wx.cell? ⟨w.heap.size + 1, 1, none⟩ = some (.string t.s) := r7.cell 1
  have p2 : wx.cell? ⟨w.heap.size + 1, 2, none⟩ = some (.slice ta t.kids.length tcap) := r7.cell 2
  have HBX := Lib.hid hbx; have HR4 := Lib.hid r4; have HR7 := Lib.hid r7
  have HOX := Lib.hid (hob.below hbx)
  have hi0' : (0 : Int) ≤ (i : Int) := by omega
  have hi1' : (i : Int) < (l.length : Int) := by omega
  clear hsc hix1 hix2 hix3 hie hsh hT hob hbd hA hsl hkid k2 hbx r4 r7 hss
  have hchg : ∀ W : World, Below wx.heap.size wx W → Chg (fun k => blk ab k ∧ B ≤ k) w W := fun W h => (Chg.ofBelow (bt HBX.out h)).mono (fun i hi h => by omega)
  have HCHG := Lib.hid hchg
  have HZX := Lib.hid hzx
  clear hchg hzx
  go_enter Try.func26, Try.ntmps26
  go_upto_region 1 with fail
  rw [← hwx]; clear hwx
  have HE : Hid (encT (.mk nm rp kd ks) t = leN 1 (u64 t.n)) := Lib.hid (by rw [encT, if_pos c1])
  have HL : Hid (nb + 1 ≤ 10000000000000) := Lib.hid (by have := HBD.out; rw [HE.out, leN_len] at this; exact this)
  subst c1
  go_wp2_with (first | (at_builtin; (have hl := HL.out); refine wpList_append (B := B) rfl _ _ _ _ rfl i0 (.int .u8 0) 1 Try.underlying30 hi0 hz0 hz1 hz2 rfl rfl (HOX.out.own.alloc _) _ rfl _ _ (src_one Try.underlying30 wx _ _ rfl) (by simp only [maxLen]; omega) (by omega) (by have := HZX.out; simp; omega) ?_; intro a5 cap5 w5 ho5 hc5 hn5) | fail)
  have hzx := HZX.out
  go_ret
  rw [HE.out]
  have e : (t.n % 256) = ((u64 t.n % 256 : Nat) : Int) := by unfold u64; omega
  rw [e, u8s_snoc _ _ (Nat.mod_lt _ (by decide))] at ho5
  refine ⟨a5, nb + 1, cap5, rfl, OB.of (by simpa [leN] using ho5) (Nat.le_refl _) (by omega), ((HCHG.out _ (ba (b0 wx) _))).trans hc5 (fun i hi h => ⟨h.1, h.2.1⟩), fun k hk => ?_⟩
  rcases hn5 k hk with h | h
  · exact .inl h
  · simp at h; exact .inr (by omega)
set_option maxHeartbeats 2000000 in
set_option maxRecDepth 100000 in
theorem value_w2 (B : Nat) (sa : Option Addr) (scap bk : Nat) (l : List Fl) (nm : ByteArray) (rp kd : Int) (ks : List Sh) (hlen : l.length ≤ 1000) (hA : ∀ s ∈ ks, AllW B sa scap bk l s) (c1 : kd ≠ 1) (c2 : kd = 2) : ValW B sa scap bk l (.mk nm rp kd ks) := by
  intro i t ab nb cb bs ta tcap w hix hsh hT hob hbd
  obtain ⟨i0, hi0, hz0, hz1, hz2⟩ := info_parts info_u8
  simp only [Ix] at hix
  obtain ⟨hix1, hix2, hix3⟩ := hix
  obtain ⟨hil, hie⟩ := List.getElem?_eq_some_iff.1 hix1
  obtain ⟨_, _, f2, _⟩ := fls_get l i hil
  rw [hie] at f2
  dsimp only at f2
  obtain ⟨sb, soff, rfl, hsb, hsc⟩ := hsh.sl.pos (by omega)
  replace f2 := hsc _ _ f2
  rw [← Nat.add_assoc] at f2
  obtain ⟨ka, kc, k1, k2⟩ := hsh.kids i hil
  obtain ⟨_, _, _, xs, hcs, hm, hss, hsl, hkid⟩ := hT.parts'
  simp at hcs
  obtain ⟨rfl, rfl, rfl⟩ := hcs
  have hmx := Nat.le_trans hsl.le hsl.max
  have hssx := hss
  unfold maxLen at hmx hssx
  have hle := hsh.le
  have hbk := hsh.bk
  have hab := hob.lt
  have HNB := Lib.hid hob.len
  have HBD := Lib.hid hbd; have HSH := Lib.hid hsh; have HSL := Lib.hid hsl; have HKD := Lib.hid hkid; have HOB := Lib.hid hob; have HA := Lib.hid hA; have HIX := Lib.hid hix3; have HK2 := Lib.hid k2; have HIX2 := Lib.hid hix2
  have HSS := Lib.hid hss
  obtain ⟨wx, hwx⟩ : ∃ wx, wx = (w.alloc (.cells #[.slice (some ⟨sb, soff, none⟩) l.length scap, .slice (some ⟨bk, 0, none⟩) l.length l.length] 56)).alloc (.cells #[.int .i64 t.n, .string t.s, .slice ta t.kids.length tcap] 35) := ⟨_, rfl⟩
  have hbx : Below w.heap.size w wx := by rw [hwx]; exact ba (ba (b0 w) _) _
  have r4 : Rw wx w.heap.size #[.slice (some ⟨sb, soff, none⟩) l.length scap, .slice (some ⟨bk, 0, none⟩) l.length l.length] 56 := by rw [hwx]; exact (Rw.new w _ _).alloc _
  have r7 : Rw wx (w.heap.size + 1) #[.int .i64 t.n, .string t.s, .slice ta t.kids.length tcap] 35 := by rw [hwx]; exact Rw.new' (by simp)
  have hzx : wx.heap.size = w.heap.size + 2 := by rw [hwx]; simp
  replace f2 := Go.Shr.cb hbx f2
  replace k1 := Go.Shr.cb hbx k1
  have q0 : wx.cell? ⟨w.heap.size, 0, none⟩ = some (.slice (some ⟨sb, soff, none⟩) l.length scap) := r4.cell 0
  have q1 : wx.cell? ⟨w.heap.size, 1, none⟩ = some (.slice (some ⟨bk, 0, none⟩) l.length l.length) := r4.cell 1
  have p0 : wx.cell? ⟨w.heap.size + 1, 0, none⟩ = some (.int .i64 t.n) := r7.cell 0
  have p1 : wx.cell? ⟨w.heap.size + 1, 1, none⟩ = some (.string t.s) := r7.cell 1
  have p2 : wx.cell? ⟨w.heap.size + 1, 2, none⟩ = some (.slice ta t.kids.length tcap) := r7.cell 2
  have HBX := Lib.hid hbx; have HR4 := Lib.hid r4; have HR7 := Lib.hid r7
  have HOX := Lib.hid (hob.below hbx)
  have hi0' : (0 : Int) ≤ (i : Int) := by omega
  have hi1' : (i : Int) < (l.length : Int) := by omega
  clear hsc hix1 hix2 hix3 hie hsh hT hob hbd hA hsl hkid k2 hbx r4 r7 hss
  have hchg : ∀ W : World, Below wx.heap.size wx W → Chg (fun k => blk ab k ∧ B ≤ k) w W := fun W h => (Chg.ofBelow (bt HBX.out h)).mono (fun i hi h => by omega)
  have HCHG := Lib.hid hchg
  have HZX := Lib.hid hzx
  clear hchg hzx
  go_enter Try.func26, Try.ntmps26
  go_upto_region 1 with fail
  rw [← hwx]; clear hwx
  have HE : Hid (encT (.mk nm rp kd ks) t = leN 4 (u64 t.n)) := Lib.hid (by rw [encT, if_neg c1, if_pos c2])
  have HL : Hid (nb + 4 ≤ 10000000000000) := Lib.hid (by have := HBD.out; rw [HE.out, leN_len] at this; exact this)
  subst c2
  clear c1
  have hul := u64_lt t.n
  go_wp2_with fail
  rw [wrap_u t.n]
  refine (cput_u8 _ ab nb cb bs 4 (u64 t.n) wx HOX.out.own.sl (by have := HL.out; omega) (by omega) hul).mono ?_
  rintro e w5 ⟨a5, cap5, rfl, ho5, hb5⟩
  have HO5 := Lib.hid ho5; have HB5 := Lib.hid hb5
  clear ho5 hb5
  go_wp2_with fail
  go_ret
  rw [HE.out]
  refine ⟨a5, nb + 4, cap5, rfl, OB.of HO5.out (by have := HZX.out; omega) (by omega), HCHG.out _ HB5.out, fun k hk => .inr ?_⟩
  have := (HO5.out.blt' (by omega) hk).1; have := HZX.out; omega
set_option maxHeartbeats 2000000 in
set_option maxRecDepth 100000 in
theorem value_w3 (B : Nat) (sa : Option Addr) (scap bk : Nat) (l : List Fl) (nm : ByteArray) (rp kd : Int) (ks : List Sh) (hlen : l.length ≤ 1000) (hA : ∀ s ∈ ks, AllW B sa scap bk l s) (c1 : kd ≠ 1) (c2 : kd ≠ 2) (c3 : kd = 3) : ValW B sa scap bk l (.mk nm rp kd ks) := by
  intro i t ab nb cb bs ta tcap w hix hsh hT hob hbd
  obtain ⟨i0, hi0, hz0, hz1, hz2⟩ := info_parts info_u8
  simp only [Ix] at hix
  obtain ⟨hix1, hix2, hix3⟩ := hix
  obtain ⟨hil, hie⟩ := List.getElem?_eq_some_iff.1 hix1
  obtain ⟨_, _, f2, _⟩ := fls_get l i hil
  rw [hie] at f2
  dsimp only at f2
  obtain ⟨sb, soff, rfl, hsb, hsc⟩ := hsh.sl.pos (by omega)
  replace f2 := hsc _ _ f2
  rw [← Nat.add_assoc] at f2
  obtain ⟨ka, kc, k1, k2⟩ := hsh.kids i hil
  obtain ⟨_, _, _, xs, hcs, hm, hss, hsl, hkid⟩ := hT.parts'
  simp at hcs
  obtain ⟨rfl, rfl, rfl⟩ := hcs
  have hmx := Nat.le_trans hsl.le hsl.max
  have hssx := hss
  unfold maxLen at hmx hssx
  have hle := hsh.le
  have hbk := hsh.bk
  have hab := hob.lt
  have HNB := Lib.hid hob.len
  have HBD := Lib.hid hbd; have HSH := Lib.hid hsh; have HSL := Lib.hid hsl; have HKD := Lib.hid hkid; have HOB := Lib.hid hob; have HA := Lib.hid hA; have HIX := Lib.hid hix3; have HK2 := Lib.hid k2; have HIX2 := Lib.hid hix2
  have HSS := Lib.hid hss
  obtain ⟨wx, hwx⟩ : ∃ wx, wx = (w.alloc (.cells #[.slice (some ⟨sb, soff, none⟩) l.length scap, .slice (some ⟨bk, 0, none⟩) l.length l.length] 56)).alloc (.cells #[.int .i64 t.n, .string t.s, .slice ta t.kids.length tcap] 35) := ⟨_, rfl⟩
  have hbx : Below w.heap.size w wx := by rw [hwx]; exact ba (ba (b0 w) _) _
  have r4 : Rw wx w.heap.size #[.slice (some ⟨sb, soff, none⟩) l.length scap, .slice (some ⟨bk, 0, none⟩) l.length l.length] 56 := by rw [hwx]; exact (Rw.new w _ _).alloc _
  have r7 : Rw wx (w.heap.size + 1) #[.int .i64 t.n, .string t.s, .slice ta t.kids.length tcap] 35 := by rw [hwx]; exact Rw.new' (by simp)
  have hzx : wx.heap.size = w.heap.size + 2 := by rw [hwx]; simp
  replace f2 := Go.Shr.cb hbx f2
  replace k1 := Go.Shr.cb hbx k1
  have q0 : wx.cell? ⟨w.heap.size, 0, none⟩ = some (.slice (some ⟨sb, soff, none⟩) l.length scap) := r4.cell 0
  have q1 : wx.cell? ⟨w.heap.size, 1, none⟩ = some (.slice (some ⟨bk, 0, none⟩) l.length l.length) := r4.cell 1
  have p0 : wx.cell? ⟨w.heap.size + 1, 0, none⟩ = some (.int .i64 t.n) := r7.cell 0
  have p1 : wx.cell? ⟨w.heap.size + 1, 1, none⟩ = some (.string t.s) := r7.cell 1
  have p2 : wx.cell? ⟨w.heap.size + 1, 2, none⟩ = some (.slice ta t.kids.length tcap) := r7.cell 2
  have HBX := Lib.hid hbx; have HR4 := Lib.hid r4; have HR7 := Lib.hid r7
  have HOX := Lib.hid (hob.below hbx)
  have hi0' : (0 : Int) ≤ (i : Int) := by omega
  have hi1' : (i : Int) < (l.length : Int) := by omega
  clear hsc hix1 hix2 hix3 hie hsh hT hob hbd hA hsl hkid k2 hbx r4 r7 hss
  have hchg : ∀ W : World, Below wx.heap.size wx W → Chg (fun k => blk ab k ∧ B ≤ k) w W := fun W h => (Chg.ofBelow (bt HBX.out h)).mono (fun i hi h => by omega)
  have HCHG := Lib.hid hchg
  have HZX := Lib.hid hzx
  clear hchg hzx
  go_enter Try.func26, Try.ntmps26
  go_upto_region 1 with fail
  rw [← hwx]; clear hwx
  have HE : Hid (encT (.mk nm rp kd ks) t = leN 8 (u64 t.n)) := Lib.hid (by rw [encT, if_neg c1, if_neg c2, if_pos c3])
  have HL : Hid (nb + 8 ≤ 10000000000000) := Lib.hid (by have := HBD.out; rw [HE.out, leN_len] at this; exact this)
  subst c3
  clear c1 c2
  have hul := u64_lt t.n
  go_wp2_with fail
  rw [wrap_u t.n]
  refine (cput_u8 _ ab nb cb bs 8 (u64 t.n) wx HOX.out.own.sl (by have := HL.out; omega) (by omega) hul).mono ?_
  rintro e w5 ⟨a5, cap5, rfl, ho5, hb5⟩
  have HO5 := Lib.hid ho5; have HB5 := Lib.hid hb5
  clear ho5 hb5
  go_wp2_with fail
  go_ret
  rw [HE.out]
  refine ⟨a5, nb + 8, cap5, rfl, OB.of HO5.out (by have := HZX.out; omega) (by omega), HCHG.out _ HB5.out, fun k hk => .inr ?_⟩
  have := (HO5.out.blt' (by omega) hk).1; have := HZX.out; omega
end Go.Proofs.Ytofhlopedflkiaa
namespace Go.Proofs.Ytofhlopedflkiaa
open Go.RowKit Go.Shr
set_option maxHeartbeats 2000000 in
set_option maxRecDepth 100000 in
theorem value_w4 (B : Nat) (sa : Option Addr) (scap bk : Nat) (l : List Fl) (nm : ByteArray) (rp kd : Int) (ks : List Sh) (hlen : l.length ≤ 1000) (hA : ∀ s ∈ ks, AllW B sa scap bk l s) (c1 : kd ≠ 1) (c2 : kd ≠ 2) (c3 : kd ≠ 3) (c4 : kd = 4) : ValW B sa scap bk l (.mk nm rp kd ks) := by
  intro i t ab nb cb bs ta tcap w hix hsh hT hob hbd
  obtain ⟨i0, hi0, hz0, hz1, hz2⟩ := info_parts info_u8
  simp only [Ix] at hix
  obtain ⟨hix1, hix2, hix3⟩ := hix
  obtain ⟨hil, hie⟩ := List.getElem?_eq_some_iff.1 hix1
  obtain ⟨_, _, f2, _⟩ := fls_get l i hil
  rw [hie] at f2
  dsimp only at f2
  obtain ⟨sb, soff, rfl, hsb, hsc⟩ := hsh.sl.pos (by omega)
  replace f2 := hsc _ _ f2
  rw [← Nat.add_assoc] at f2
  obtain ⟨ka, kc, k1, k2⟩ := hsh.kids i hil
  obtain ⟨_, _, _, xs, hcs, hm, hss, hsl, hkid⟩ := hT.parts'
  simp at hcs
  obtain ⟨rfl, rfl, rfl⟩ := hcs
  have hmx := Nat.le_trans hsl.le hsl.max
  have hssx := hss
  unfold maxLen at hmx hssx
  have hle := hsh.le
  have hbk := hsh.bk
  have hab := hob.lt
  have HNB := Lib.hid hob.len
  have HBD := Lib.hid hbd; have HSH := Lib.hid hsh; have HSL := Lib.hid hsl; have HKD := Lib.hid hkid; have HOB := Lib.hid hob; have HA := Lib.hid hA; have HIX := Lib.hid hix3; have HK2 := Lib.hid k2; have HIX2 := Lib.hid hix2
  have HSS := Lib.hid hss
  obtain ⟨wx, hwx⟩ : ∃ wx, wx = (w.alloc (.cells #[.slice (some ⟨sb, soff, none⟩) l.length scap, .slice (some ⟨bk, 0, none⟩) l.length l.length] 56)).alloc (.cells #[.int .i64 t.n, .string t.s, .slice ta t.kids.length tcap] 35) := ⟨_, rfl⟩
  have hbx : Below w.heap.size w wx := by rw [hwx]; exact ba (ba (b0 w) _) _
  have r4 : Rw wx w.heap.size #[.slice (some ⟨sb, soff, none⟩) l.length scap, .slice (some ⟨bk, 0, none⟩) l.length l.length] 56 := by rw [hwx]; exact (Rw.new w _ _).alloc _
  have r7 : Rw wx (w.heap.size + 1) #[.int .i64 t.n, .string t.s, .slice ta t.kids.length tcap] 35 := by rw [hwx]; exact Rw.new' (by simp)
  have hzx : wx.heap.size = w.heap.size + 2 := by rw [hwx]; simp
  replace f2 := Go.Shr.cb hbx f2
  replace k1 := Go.Shr.cb hbx k1
  have q0 : wx.cell? ⟨w.heap.size, 0, none⟩ = some (.slice (some ⟨sb, soff, none⟩) l.length scap) := r4.cell 0
  have q1 : wx.cell? ⟨w.heap.size, 1, none⟩ = some (.slice (some ⟨bk, 0, none⟩) l.length l.length) := r4.cell 1
  have p0 : wx.cell? ⟨w.heap.size + 1, 0, none⟩ = some (.int .i64 t.n) := r7.cell 0
  have p1 : wx.cell? ⟨w.heap.size + 1, 1, none⟩ = some (.string t.s) := r7.cell 1
  have p2 : wx.cell? ⟨w.heap.size + 1, 2, none⟩ = some (.slice ta t.kids.length tcap) := r7.cell 2
  have HBX := Lib.hid hbx; have HR4 := Lib.hid r4; have HR7 := Lib.hid r7
  have HOX := Lib.hid (hob.below hbx)
  have hi0' : (0 : Int) ≤ (i : Int) := by omega
  have hi1' : (i : Int) < (l.length : Int) := by omega
  clear hsc hix1 hix2 hix3 hie hsh hT hob hbd hA hsl hkid k2 hbx r4 r7 hss
  have hchg : ∀ W : World, Below wx.heap.size wx W → Chg (fun k => blk ab k ∧ B ≤ k) w W := fun W h => (Chg.ofBelow (bt HBX.out h)).mono (fun i hi h => by omega)
  have HCHG := Lib.hid hchg
  have HZX := Lib.hid hzx
  clear hchg hzx
  go_enter Try.func26, Try.ntmps26
  go_upto_region 1 with fail
  rw [← hwx]; clear hwx
  have HE : Hid (encT (.mk nm rp kd ks) t = vput t.s.size ++ t.s.toList) := Lib.hid (by rw [encT, if_neg c1, if_neg c2, if_neg c3, if_pos c4])
  have HL : Hid (nb + ((vput t.s.size).length + t.s.size) ≤ 10000000000000) := Lib.hid (by have := HBD.out; rw [HE.out, List.length_append, str_len'] at this; exact this)
  subst c4
  clear c1 c2 c3
  have HP1 := Lib.hid p1
  have HWZ : Hid (IntKind.u64.wrap (t.s.size : Int) = ((t.s.size : Nat) : Int)) := Lib.hid (by rw [wrap_u]; unfold u64; omega)
  go_wp2_with fail
  refine Go.Shr.wp_region_F (fun w' => w'.cell? ⟨w.heap.size + 1, 1, none⟩ = some (.string t.s)) [9] (by kernel_rfl) ?g1rgS (fun hHeld => ?g1rgR)
  case g1rgS => (try dsimp only); (first | exact HP1.out | exact hHeld | exact Go.Shr.cb hb5 HP1.out | exact (hc6.keep (Go.Shr.cb hb5 HP1.out) (fun h => by have h9 : wx.heap.size ≤ w.heap.size + 1 := (ho5.blt' (by omega) h.1).1; have := HZX.out; omega)))
  try dsimp only at hHeld
  refine Go.Shr.wpAnyF_take 0 (oi := { dst := some 41, op := Go.Op.move (Go.Operand.tmp 1), type := 30, pos := "wire.go:46", after := #[], guard := none }) (v := ?g1rv1) rfl (by kernel_rfl) (fun _ _ _ h => h) (by assumption) (by rfl) ?g1ry1 ?g1rr1
  case g1ry1 => intro w hSw; have s1 := hSw; go_simp; try with_reducible rfl
  try simp only [Act.put, List.setIfInBounds_toArray, List.set_cons_zero, List.set_cons_succ]
  refine Go.Shr.wpAnyF_take 1 (oi := { dst := some 42, op := Go.Op.fieldAddr 35 (Go.Operand.tmp 7) 1, type := 0, pos := "wire.go:46", after := #[], guard := none }) (v := ?g1rv2) rfl (by kernel_rfl) (fun _ _ _ h => h) (by assumption) (by rfl) ?g1ry2 ?g1rr2
  case g1ry2 => intro w hSw; have s1 := hSw; go_simp; try with_reducible rfl
  try simp only [Act.put, List.setIfInBounds_toArray, List.set_cons_zero, List.set_cons_succ]
  refine Go.Shr.wpAnyF_take 2 (oi := { dst := some 43, op := Go.Op.load 9 (Go.Operand.tmp 42), type := 9, pos := "wire.go:46", after := #[{ on := 1, ground := Go.Ground.data }], guard := none }) (v := ?g1rv3) rfl (by kernel_rfl) (fun _ _ _ h => h) (by assumption) (by rfl) ?g1ry3 ?g1rr3
  case g1ry3 => intro w hSw; have s1 := hSw; go_simp; try with_reducible rfl
  try simp only [Act.put, List.setIfInBounds_toArray, List.set_cons_zero, List.set_cons_succ]
  refine Go.Shr.wpAnyF_take 3 (oi := { dst := some 44, op := Go.Op.call { callee := Go.Callee.builtin Go.Builtin.len, args := #[Go.Operand.tmp 43], argTypes := #[9] }, type := 3, pos := "wire.go:46", after := #[{ on := 2, ground := Go.Ground.data }], guard := none }) (v := ?g1rv4) rfl (by kernel_rfl) (fun _ _ _ h => h) (by assumption) (by rfl) ?g1ry4 ?g1rr4
  case g1ry4 => intro w hSw; have s1 := hSw; go_simp; try with_reducible rfl
  try simp only [Act.put, List.setIfInBounds_toArray, List.set_cons_zero, List.set_cons_succ]
  refine Go.Shr.wpAnyF_take 4 (oi := { dst := some 45, op := Go.Op.convert 3 59 (Go.Operand.tmp 44), type := 59, pos := "wire.go:46", after := #[{ on := 3, ground := Go.Ground.data }], guard := none }) (v := ?g1rv5) rfl (by kernel_rfl) (fun _ _ _ h => h) (by assumption) (by rfl) ?g1ry5 ?g1rr5
  case g1ry5 => intro w hSw; have s1 := hSw; go_simp; try with_reducible rfl
  try simp only [Act.put, List.setIfInBounds_toArray, List.set_cons_zero, List.set_cons_succ]
  refine Go.Shr.wpAnyF_take 6 (oi := { dst := some 47, op := Go.Op.fieldAddr 35 (Go.Operand.tmp 7) 1, type := 0, pos := "wire.go:46", after := #[], guard := none }) (v := ?g1rv6) rfl (by kernel_rfl) (fun _ _ _ h => h) (by assumption) (by rfl) ?g1ry6 ?g1rr6
  case g1ry6 => intro w hSw; have s1 := hSw; go_simp; try with_reducible rfl
  try simp only [Act.put, List.setIfInBounds_toArray, List.set_cons_zero, List.set_cons_succ]
  refine Go.Shr.wpAnyF_take 7 (oi := { dst := some 48, op := Go.Op.load 9 (Go.Operand.tmp 47), type := 9, pos := "wire.go:46", after := #[{ on := 6, ground := Go.Ground.data }], guard := none }) (v := ?g1rv7) rfl (by kernel_rfl) (fun _ _ _ h => h) (by assumption) (by rfl) ?g1ry7 ?g1rr7
  case g1ry7 => intro w hSw; have s1 := hSw; go_simp; try with_reducible rfl
  try simp only [Act.put, List.setIfInBounds_toArray, List.set_cons_zero, List.set_cons_succ]
  refine Go.Shr.wpAnyF_ready [5] (by kernel_rfl) (by simp) ?_
  refine Go.Shr.AllReadyF.cons 5 (o := { dst := some 46, op := Go.Op.call { callee := Go.Callee.value (Go.Operand.func 25), args := #[Go.Operand.tmp 41, Go.Operand.tmp 45], argTypes := #[30, 59] }, type := 30, pos := "wire.go:46", after := #[{ on := 0, ground := Go.Ground.data }, { on := 4, ground := Go.Ground.data }], guard := none }) rfl (fun K hK => ?g1ro8) ?g1rm8
  case g1rm8 => exact Go.Shr.AllReadyF.nil
  go_simp; rw [HWZ.out]; refine (put_u8 _ ab nb cb bs t.s.size wx.drew HOX.out.own.drew.sl (by have := HL.out; omega) (by omega)).mono ?_; rintro e w5 ⟨a5, n5, cap5, rfl, ho5, hb5⟩; (have hn5 : n5 = bs.length + (vput t.s.size).length := by have := ho5.len; simpa using this.symm); (have hp5 := vput_pos t.s.size); subst hn5; dsimp only
  refine hK.out _ _ ?g1rs8 (fun hHeld => ?g1rt8)
  case g1rs8 => (try dsimp only); (first | exact HP1.out | exact hHeld | exact Go.Shr.cb hb5 HP1.out | exact (hc6.keep (Go.Shr.cb hb5 HP1.out) (fun h => by have h9 : wx.heap.size ≤ w.heap.size + 1 := (ho5.blt' (by omega) h.1).1; have := HZX.out; omega)))
  try dsimp only at hHeld
  clear hK K
  try simp only [Act.put, List.setIfInBounds_toArray, List.set_cons_zero, List.set_cons_succ]
  refine Go.Shr.wpAnyF_ready [8] (by kernel_rfl) (by simp) ?_
  refine Go.Shr.AllReadyF.cons 8 (o := { dst := some 49, op := Go.Op.call { callee := Go.Callee.builtin Go.Builtin.append, args := #[Go.Operand.tmp 46, Go.Operand.tmp 48], argTypes := #[30, 9] }, type := 30, pos := "wire.go:46", after := #[{ on := 5, ground := Go.Ground.data }, { on := 7, ground := Go.Ground.data }, { on := 5, ground := Go.Ground.chain }], guard := none }) rfl (fun K hK => ?g1ro9) ?g1rm9
  case g1rm9 => exact Go.Shr.AllReadyF.nil
  (refine step_append (B := wx.heap.size) rfl _ _ _ _ rfl i0 (.int .u8 0) 1 Try.underlying30 hi0 hz0 hz1 hz2 rfl rfl ho5 _ rfl _ _ (Src.ofString _ Try.underlying9 t.s) (by have := HL.out; have := HNB.out; simp only [maxLen]; omega) (by have := HL.out; have := HNB.out; omega) hb5.size ?_; intro a6 cap6 w6 ho6 hc6 hn6)
  refine hK.out _ _ ?g1rs9 (fun hHeld => ?g1rt9)
  case g1rs9 => (try dsimp only); (first | exact HP1.out | exact hHeld | exact Go.Shr.cb hb5 HP1.out | exact (hc6.keep (Go.Shr.cb hb5 HP1.out) (fun h => by have h9 : wx.heap.size ≤ w.heap.size + 1 := (ho5.blt' (by omega) h.1).1; have := HZX.out; omega)))
  try dsimp only at hHeld
  clear hK K
  try simp only [Act.put, List.setIfInBounds_toArray, List.set_cons_zero, List.set_cons_succ]
  refine Go.Shr.wpAnyF_ready [9] (by kernel_rfl) (by simp) ?_
  refine Go.Shr.AllReadyF.last 9 (o := { dst := some 8, op := Go.Op.assign (Go.Operand.tmp 49), type := 30, pos := "wire.go:46", after := #[{ on := 8, ground := Go.Ground.data }, { on := 8, ground := Go.Ground.chain }, { on := 0, ground := Go.Ground.phase }, { on := 1, ground := Go.Ground.phase }, { on := 2, ground := Go.Ground.phase }, { on := 3, ground := Go.Ground.phase }, { on := 4, ground := Go.Ground.phase }, { on := 5, ground := Go.Ground.phase }, { on := 6, ground := Go.Ground.phase }, { on := 7, ground := Go.Ground.phase }, { on := 8, ground := Go.Ground.phase }], guard := none }) rfl (by kernel_rfl) (fun K hK => ?g1ro10) ?g1rm10
  case g1rm10 => exact Go.Shr.AllReadyF.nil
  go_simp
  refine hK.out _ _ ?_
  clear hK K
  try simp only [Act.put, List.setIfInBounds_toArray, List.set_cons_zero, List.set_cons_succ]
  refine Go.Shr.wpAnyF_done (by kernel_rfl) ?_
  go_wp2_with fail
  go_ret
  rw [HE.out]
  rw [cells_u8s, ← u8s_append] at ho6
  have hzx := HZX.out
  have hb5' : Below wx.heap.size wx w5 := bt (b0 wx).drew hb5
  have hn5B : ∀ k, blk a5 k → wx.heap.size ≤ k := fun k hk => (ho5.blt' (by omega) hk).1
  refine ⟨a6, bs.length + (vput t.s.size).length + t.s.size, cap6, rfl, OB.of (B := B) (W := wx.heap.size) (by rw [List.append_assoc] at ho6; exact ho6) (by omega) (by omega), (HCHG.out _ hb5').trans hc6 (fun i hi h => by have := hn5B i h.1; omega), fun k hk => .inr ?_⟩
  rcases hn6 k hk with h | h
  · have := hn5B k h; omega
  · have := hb5'.size; omega
end Go.Proofs.Ytofhlopedflkiaa
namespace Go.Proofs.Ytofhlopedflkiaa
open Go.RowKit Go.Shr
theorem encK_nil (ks : List Sh) : encK ks [] = [] := by cases ks <;> rfl
theorem ixL_at {l : List Fl} {K : Int → List Int} : ∀ (ks : List Sh) (o j : Nat) (h : j < ks.length), IxL l K o ks → ∃ p : Nat, (offs o ks)[j]? = some (p : Int) ∧ Ix l K p ks[j]
  | s :: r, o, 0, _, hi => by simp only [IxL] at hi; exact ⟨o, by simp [offs], hi.1⟩
  | s :: r, o, j + 1, h, hi => by
    simp only [IxL] at hi
    obtain ⟨p, h1, h2⟩ := ixL_at r (o + s.size) j (by simpa using h) hi.2
    exact ⟨p, by simpa [offs] using h1, by simpa using h2⟩
set_option maxHeartbeats 2000000 in
set_option maxRecDepth 100000 in
theorem value_w5 (B : Nat) (sa : Option Addr) (scap bk : Nat) (l : List Fl) (nm : ByteArray) (rp kd : Int) (ks : List Sh) (hlen : l.length ≤ 1000) (hA : ∀ s ∈ ks, AllW B sa scap bk l s) (c1 : kd ≠ 1) (c2 : kd ≠ 2) (c3 : kd ≠ 3) (c4 : kd ≠ 4) : ValW B sa scap bk l (.mk nm rp kd ks) := by
  intro i t ab nb cb bs ta tcap w hix hsh hT hob hbd
  obtain ⟨i0, hi0, hz0, hz1, hz2⟩ := info_parts info_u8
  simp only [Ix] at hix
  obtain ⟨hix1, hix2, hix3⟩ := hix
  obtain ⟨hil, hie⟩ := List.getElem?_eq_some_iff.1 hix1
  obtain ⟨_, _, f2, _⟩ := fls_get l i hil
  rw [hie] at f2
  dsimp only at f2
  obtain ⟨sb, soff, rfl, hsb, hsc⟩ := hsh.sl.pos (by omega)
  replace f2 := hsc _ _ f2
  rw [← Nat.add_assoc] at f2
  obtain ⟨ka, kc, k1, k2⟩ := hsh.kids i hil
  obtain ⟨_, _, _, xs, hcs, hm, hss, hsl, hkid⟩ := hT.parts'
  simp at hcs
  obtain ⟨rfl, rfl, rfl⟩ := hcs
  have hmx := Nat.le_trans hsl.le hsl.max
  have hssx := hss
  unfold maxLen at hmx hssx
  have hle := hsh.le
  have hbk := hsh.bk
  have hab := hob.lt
  have HNB := Lib.hid hob.len
  have HBD := Lib.hid hbd; have HSH := Lib.hid hsh; have HSL := Lib.hid hsl; have HKD := Lib.hid hkid; have HOB := Lib.hid hob; have HA := Lib.hid hA; have HIX := Lib.hid hix3; have HK2 := Lib.hid k2; have HIX2 := Lib.hid hix2
  have HSS := Lib.hid hss
  obtain ⟨wx, hwx⟩ : ∃ wx, wx = (w.alloc (.cells #[.slice (some ⟨sb, soff, none⟩) l.length scap, .slice (some ⟨bk, 0, none⟩) l.length l.length] 56)).alloc (.cells #[.int .i64 t.n, .string t.s, .slice ta t.kids.length tcap] 35) := ⟨_, rfl⟩
  have hbx : Below w.heap.size w wx := by rw [hwx]; exact ba (ba (b0 w) _) _
  have r4 : Rw wx w.heap.size #[.slice (some ⟨sb, soff, none⟩) l.length scap, .slice (some ⟨bk, 0, none⟩) l.length l.length] 56 := by rw [hwx]; exact (Rw.new w _ _).alloc _
  have r7 : Rw wx (w.heap.size + 1) #[.int .i64 t.n, .string t.s, .slice ta t.kids.length tcap] 35 := by rw [hwx]; exact Rw.new' (by simp)
  have hzx : wx.heap.size = w.heap.size + 2 := by rw [hwx]; simp
  replace f2 := Go.Shr.cb hbx f2
  replace k1 := Go.Shr.cb hbx k1
  have q0 : wx.cell? ⟨w.heap.size, 0, none⟩ = some (.slice (some ⟨sb, soff, none⟩) l.length scap) := r4.cell 0
  have q1 : wx.cell? ⟨w.heap.size, 1, none⟩ = some (.slice (some ⟨bk, 0, none⟩) l.length l.length) := r4.cell 1
  have p0 : wx.cell? ⟨w.heap.size + 1, 0, none⟩ = some (.int .i64 t.n) := r7.cell 0
  have p1 : wx.cell? ⟨w.heap.size + 1, 1, none⟩ = some (.string t.s) := r7.cell 1
  have p2 : wx.cell? ⟨w.heap.size + 1, 2, none⟩ = some (.slice ta t.kids.length tcap) := r7.cell 2
  have HBX := Lib.hid hbx; have HR4 := Lib.hid r4; have HR7 := Lib.hid r7
  have HOX := Lib.hid (hob.below hbx)
  have hi0' : (0 : Int) ≤ (i : Int) := by omega
  have hi1' : (i : Int) < (l.length : Int) := by omega
  clear hsc hix1 hix2 hix3 hie hsh hT hob hbd hA hsl hkid k2 hbx r4 r7 hss
  have hchg : ∀ W : World, Below wx.heap.size wx W → Chg (fun k => blk ab k ∧ B ≤ k) w W := fun W h => (Chg.ofBelow (bt HBX.out h)).mono (fun i hi h => by omega)
  have HCHG := Lib.hid hchg
  have HZX := Lib.hid hzx
  clear hchg hzx
  go_enter Try.func26, Try.ntmps26
  go_upto_region 1 with fail
  rw [← hwx]; clear hwx
  have HE : Hid (encT (.mk nm rp kd ks) t = encK ks t.kids) := Lib.hid (by rw [encT, if_neg c1, if_neg c2, if_neg c3, if_neg c4])
  have HL : Hid (nb + (encK ks t.kids).length ≤ 10000000000000) := Lib.hid (by have := HBD.out; rw [HE.out] at this; exact this)
  have b1 : (kd == 1) = false := beq_eq_false_iff_ne.2 c1
  have b2 : (kd == 2) = false := beq_eq_false_iff_ne.2 c2
  have b3 : (kd == 3) = false := beq_eq_false_iff_ne.2 c3
  have b4 : (kd == 4) = false := beq_eq_false_iff_ne.2 c4
  have hkl : (KF l i).length = ks.length := by rw [show KF l i = offs (i + 1) ks from HIX2.out, offs_len]
  have hKF : KF l i = offs (i + 1) ks := HIX2.out
  have K2 := HK2.out
  rw [hkl] at k1 K2
  rw [hKF] at K2
  have HK3 := Lib.hid K2
  have hksl : ks.length ≤ 1000 := by have := kidsOf_len (par l) (i : Int); rw [par_length] at this; have h2 : (KF l i).length = (kidsOf (par l) (i : Int)).length := rfl; omega
  clear c1 c2 c3 c4 hKF K2 hkl HBD
  have HC0 := Lib.hid (HCHG.out wx (b0 wx))
  go_wp2_with fail
  clear k1 f2 q0 q1 p0 p1 p2 b1 b2 b3 b4
  go_loopw [1, 56] (fun bv iv wr => ∃ (j : Nat) (a' : Option Addr) (n' cap' : Nat) (bs' : List UInt8), bv = .slice a' n' cap' ∧ iv = .int .i64 (j : Int) ∧ j ≤ ks.length ∧ Hid (OB B wr a' n' cap' bs') ∧ Hid (bs' ++ encK (ks.drop j) (t.kids.drop j) = bs ++ encK ks t.kids) ∧ Hid (Chg (fun k => blk ab k ∧ B ≤ k) w wr) ∧ Hid (∀ k, blk a' k → blk ab k ∨ w.heap.size + 2 ≤ k)
    ∧ Hid (Rw wr w.heap.size #[.slice (some ⟨sb, soff, none⟩) l.length scap, .slice (some ⟨bk, 0, none⟩) l.length l.length] 56) ∧ Hid (Rw wr (w.heap.size + 1) #[.int .i64 t.n, .string t.s, .slice ta t.kids.length tcap] 35)) (fun _ iv _ => ks.length - (intOf iv).toNat)
  case atStart => exact ⟨0, ab, nb, cb, bs, rfl, rfl, Nat.zero_le _, HOX, Lib.hid rfl, HC0, Lib.hid (fun k hk => .inl hk), HR4, HR7⟩
  case round =>
    clear HC0 HR4 HR7
    obtain ⟨j, ar, nr, cr, bs', rfl, rfl, hj, HO, HQ, HC, HN, R4, R7⟩ := hrel
    have hszr := HC.out.size
    have HLOW := Lib.hid (HC.out.lower hle)
    have HCAP : Hid (nr + (encK (ks.drop j) (t.kids.drop j)).length ≤ 10000000000000) := Lib.hid (by
      have h1 := congrArg List.length HQ.out
      have h2 := HL.out
      have h3 := HO.out.len
      have h4 := HNB.out
      simp only [List.length_append] at h1
      omega)
    by_cases hlt : j < ks.length
    · obtain ⟨jb, joff, hja, hjb, hjc⟩ := HK3.out.pos (by omega)
      have hol : j < (offs (i + 1) ks).length := by rw [offs_len]; exact hlt
      have g1 := (Chg.ofBelow HLOW.out).keep (hjc _ _ (ints_get (offs (i + 1) ks) j hol)) (by omega)
      obtain ⟨o, ho, hixo⟩ := ixL_at ks (i + 1) j hlt HIX.out
      have hoe : (offs (i + 1) ks)[j] = (o : Int) := by rw [List.getElem?_eq_getElem hol] at ho; exact Option.some.inj ho
      rw [hoe] at g1
      have p2 : wr.cell? ⟨w.heap.size + 1, 2, none⟩ = some (.slice ta t.kids.length tcap) := R7.out.cell 2
      have hmem : ks[j] ∈ ks := List.getElem_mem hlt
      have HAS := Lib.hid (HA.out _ hmem)
      have HDR : Hid (ks.drop j = ks[j] :: ks.drop (j + 1)) := Lib.hid (List.drop_eq_getElem_cons hlt)
      have HIXO := Lib.hid hixo
      generalize ks[j] = s at *
      subst hja
      clear hjc ho hoe hol hixo hmem
      by_cases hkl : j < t.kids.length
      · obtain ⟨xb, xoff, hxa, hxb, hxc⟩ := HSL.out.pos (by omega)
        obtain ⟨la, lcap, ys, g0, hys, hrow⟩ := HKD.out.get' j hkl
        have g0w := (Chg.ofBelow HLOW.out).keep (hxc _ _ g0) (by omega)
        have hmx2 := Nat.le_trans hys.le hys.max
        unfold maxLen at hmx2
        have HDK : Hid (t.kids.drop j = t.kids[j] :: t.kids.drop (j + 1)) := Lib.hid (List.drop_eq_getElem_cons hkl)
        generalize t.kids[j] = x at *
        have HENC : Hid (encK (ks.drop j) (t.kids.drop j) = encA s x ++ encK (ks.drop (j + 1)) (t.kids.drop (j + 1))) := Lib.hid (by rw [HDR.out, HDK.out, encK_cons])
        have HCAP2 : Hid (nr + (encA s x).length ≤ 10000000000000) := Lib.hid (by have := HCAP.out; rw [HENC.out, List.length_append] at this; omega)
        have HYS := Lib.hid hys; have HROW := Lib.hid hrow
        subst hxa
        have HG0 := Lib.hid g0w
        clear hxc g0 hys hrow
        go_wp2_with fail
        refine Go.Shr.wp_region_F (fun w' => Rw w' w.heap.size #[.slice (some ⟨sb, soff, none⟩) l.length scap, .slice (some ⟨bk, 0, none⟩) l.length l.length] 56 ∧ w'.cell? ⟨w.heap.size + 1, 2, none⟩ = some (.slice (some ⟨xb, xoff, none⟩) t.kids.length tcap) ∧ w'.cell? ⟨xb, xoff + j, none⟩ = some (.slice la x.length lcap)) [8, 9] (by kernel_rfl) ?g2rgS (fun hHeld => ?g2rgR)
        case g2rgS => (try dsimp only); (first | exact ⟨R4.out.drew, p2, HG0.out⟩ | exact hHeld | trivial)
        try dsimp only at hHeld
        refine Go.Shr.wpAnyF_take 0 (oi := { dst := some 66, op := Go.Op.load 56 (Go.Operand.tmp 4), type := 56, pos := "wire.go:50", after := #[], guard := none }) (v := ?g2rv1) rfl (by kernel_rfl) (fun _ _ _ h => h) (by assumption) (by rfl) ?g2ry1 ?g2rr1
        case g2ry1 => intro w hSw; (obtain ⟨s1, s2, s3⟩ := hSw); (have s4 := s1.cell 0); (have s5 := s1.cell 1); (simp only [List.getElem?_toArray, List.getElem?_cons_zero, List.getElem?_cons_succ] at s4 s5); go_simp; try with_reducible rfl
        try simp only [Act.put, List.setIfInBounds_toArray, List.set_cons_zero, List.set_cons_succ]
        refine Go.Shr.wpAnyF_take 1 (oi := { dst := some 67, op := Go.Op.move (Go.Operand.tmp 1), type := 30, pos := "wire.go:50", after := #[], guard := none }) (v := ?g2rv2) rfl (by kernel_rfl) (fun _ _ _ h => h) (by assumption) (by rfl) ?g2ry2 ?g2rr2
        case g2ry2 => intro w hSw; (obtain ⟨s1, s2, s3⟩ := hSw); (have s4 := s1.cell 0); (have s5 := s1.cell 1); (simp only [List.getElem?_toArray, List.getElem?_cons_zero, List.getElem?_cons_succ] at s4 s5); go_simp; try with_reducible rfl
        try simp only [Act.put, List.setIfInBounds_toArray, List.set_cons_zero, List.set_cons_succ]
        refine Go.Shr.wpAnyF_take 2 (oi := { dst := some 68, op := Go.Op.move (Go.Operand.tmp 10), type := 3, pos := "wire.go:50", after := #[], guard := none }) (v := ?g2rv3) rfl (by kernel_rfl) (fun _ _ _ h => h) (by assumption) (by rfl) ?g2ry3 ?g2rr3
        case g2ry3 => intro w hSw; (obtain ⟨s1, s2, s3⟩ := hSw); (have s4 := s1.cell 0); (have s5 := s1.cell 1); (simp only [List.getElem?_toArray, List.getElem?_cons_zero, List.getElem?_cons_succ] at s4 s5); go_simp; try with_reducible rfl
        try simp only [Act.put, List.setIfInBounds_toArray, List.set_cons_zero, List.set_cons_succ]
        refine Go.Shr.wpAnyF_take 3 (oi := { dst := some 69, op := Go.Op.fieldAddr 35 (Go.Operand.tmp 7) 2, type := 0, pos := "wire.go:50", after := #[], guard := none }) (v := ?g2rv4) rfl (by kernel_rfl) (fun _ _ _ h => h) (by assumption) (by rfl) ?g2ry4 ?g2rr4
        case g2ry4 => intro w hSw; (obtain ⟨s1, s2, s3⟩ := hSw); (have s4 := s1.cell 0); (have s5 := s1.cell 1); (simp only [List.getElem?_toArray, List.getElem?_cons_zero, List.getElem?_cons_succ] at s4 s5); go_simp; try with_reducible rfl
        try simp only [Act.put, List.setIfInBounds_toArray, List.set_cons_zero, List.set_cons_succ]
        refine Go.Shr.wpAnyF_take 4 (oi := { dst := some 70, op := Go.Op.load 33 (Go.Operand.tmp 69), type := 33, pos := "wire.go:50", after := #[{ on := 3, ground := Go.Ground.data }], guard := none }) (v := ?g2rv5) rfl (by kernel_rfl) (fun _ _ _ h => h) (by assumption) (by rfl) ?g2ry5 ?g2rr5
        case g2ry5 => intro w hSw; (obtain ⟨s1, s2, s3⟩ := hSw); (have s4 := s1.cell 0); (have s5 := s1.cell 1); (simp only [List.getElem?_toArray, List.getElem?_cons_zero, List.getElem?_cons_succ] at s4 s5); go_simp; try with_reducible rfl
        try simp only [Act.put, List.setIfInBounds_toArray, List.set_cons_zero, List.set_cons_succ]
        refine Go.Shr.wpAnyF_take 5 (oi := { dst := some 71, op := Go.Op.move (Go.Operand.tmp 9), type := 3, pos := "wire.go:50", after := #[], guard := none }) (v := ?g2rv6) rfl (by kernel_rfl) (fun _ _ _ h => h) (by assumption) (by rfl) ?g2ry6 ?g2rr6
        case g2ry6 => intro w hSw; (obtain ⟨s1, s2, s3⟩ := hSw); (have s4 := s1.cell 0); (have s5 := s1.cell 1); (simp only [List.getElem?_toArray, List.getElem?_cons_zero, List.getElem?_cons_succ] at s4 s5); go_simp; try with_reducible rfl
        try simp only [Act.put, List.setIfInBounds_toArray, List.set_cons_zero, List.set_cons_succ]
        refine Go.Shr.wpAnyF_take 6 (oi := { dst := some 72, op := Go.Op.indexAddr 33 (Go.Operand.tmp 70) (Go.Operand.tmp 71), type := 0, pos := "wire.go:50", after := #[{ on := 4, ground := Go.Ground.data }, { on := 5, ground := Go.Ground.data }], guard := none }) (v := ?g2rv7) rfl (by kernel_rfl) (fun _ _ _ h => h) (by assumption) (by rfl) ?g2ry7 ?g2rr7
        case g2ry7 => intro w hSw; (obtain ⟨s1, s2, s3⟩ := hSw); (have s4 := s1.cell 0); (have s5 := s1.cell 1); (simp only [List.getElem?_toArray, List.getElem?_cons_zero, List.getElem?_cons_succ] at s4 s5); go_simp; try with_reducible rfl
        try simp only [Act.put, List.setIfInBounds_toArray, List.set_cons_zero, List.set_cons_succ]
        refine Go.Shr.wpAnyF_take 7 (oi := { dst := some 73, op := Go.Op.load 28 (Go.Operand.tmp 72), type := 28, pos := "wire.go:50", after := #[{ on := 6, ground := Go.Ground.data }], guard := none }) (v := ?g2rv8) rfl (by kernel_rfl) (fun _ _ _ h => h) (by assumption) (by rfl) ?g2ry8 ?g2rr8
        case g2ry8 => intro w hSw; (obtain ⟨s1, s2, s3⟩ := hSw); (have s4 := s1.cell 0); (have s5 := s1.cell 1); (simp only [List.getElem?_toArray, List.getElem?_cons_zero, List.getElem?_cons_succ] at s4 s5); go_simp; try with_reducible rfl
        try simp only [Act.put, List.setIfInBounds_toArray, List.set_cons_zero, List.set_cons_succ]
        refine Go.Shr.wpAnyF_ready [8] (by kernel_rfl) (by simp) ?_
        refine Go.Shr.AllReadyF.last 8 (o := { dst := some 74, op := Go.Op.call { callee := Go.Callee.value (Go.Operand.func 42), args := #[Go.Operand.tmp 66, Go.Operand.tmp 67, Go.Operand.tmp 68, Go.Operand.tmp 73], argTypes := #[56, 30, 3, 28] }, type := 30, pos := "wire.go:50", after := #[{ on := 0, ground := Go.Ground.data }, { on := 1, ground := Go.Ground.data }, { on := 2, ground := Go.Ground.data }, { on := 7, ground := Go.Ground.data }], guard := none }) rfl (by kernel_rfl) (fun K hK => ?g2ro9) ?g2rm9
        case g2rm9 => exact Go.Shr.AllReadyF.nil
        go_simp; refine (HAS.out o x ar nr cr bs' la lcap ys wr.drew HIXO.out (HSH.out.keep (HLOW.out.drew)) (HYS.out.chg (Chg.ofBelow HLOW.out.drew) (fun k hk => by omega)) (HROW.out.go (Chg.ofBelow HLOW.out.drew) (fun b hb h => ⟨by omega, h⟩)) (HO.out.below (b0 wr).drew) HCAP2.out).mono ?_; rintro e w6 ⟨a6, n6, c6, rfl, ho6, hc6, hn6⟩; dsimp only
        refine hK.out _ _ ?_
        clear hK K
        try simp only [Act.put, List.setIfInBounds_toArray, List.set_cons_zero, List.set_cons_succ]
        refine Go.Shr.wpAnyF_ready [9] (by kernel_rfl) (by simp) ?_
        refine Go.Shr.AllReadyF.last 9 (o := { dst := some 1, op := Go.Op.assign (Go.Operand.tmp 74), type := 30, pos := "wire.go:50", after := #[{ on := 8, ground := Go.Ground.data }, { on := 8, ground := Go.Ground.chain }, { on := 0, ground := Go.Ground.phase }, { on := 1, ground := Go.Ground.phase }, { on := 2, ground := Go.Ground.phase }, { on := 3, ground := Go.Ground.phase }, { on := 4, ground := Go.Ground.phase }, { on := 5, ground := Go.Ground.phase }, { on := 6, ground := Go.Ground.phase }, { on := 7, ground := Go.Ground.phase }, { on := 8, ground := Go.Ground.phase }], guard := none }) rfl (by kernel_rfl) (fun K hK => ?g2ro10) ?g2rm10
        case g2rm10 => exact Go.Shr.AllReadyF.nil
        go_simp
        refine hK.out _ _ ?_
        clear hK K
        try simp only [Act.put, List.setIfInBounds_toArray, List.set_cons_zero, List.set_cons_succ]
        refine Go.Shr.wpAnyF_done (by kernel_rfl) ?_
        have hnn := HN.out
        have HO6 := Lib.hid ho6
        have HC6 : Hid (Chg (fun k => blk ab k ∧ B ≤ k) w w6) := Lib.hid (HC.out.drew.trans hc6 (fun i hi h => by
          rcases hnn i h.1 with h3 | h3
          · exact ⟨h3, h.2⟩
          · omega))
        have HN6 : Hid (∀ k, blk a6 k → blk ab k ∨ w.heap.size + 2 ≤ k) := Lib.hid (fun k hk => by
          rcases hn6 k hk with h3 | h3
          · exact hnn k h3
          · have h4 : wr.heap.size ≤ k := h3
            have := R7.out.lt; exact .inr (by omega))
        have HR46 := Lib.hid (R4.out.drew.chg hc6 (fun h => by
          rcases hnn _ h.1 with h3 | h3
          · have := hab _ h3; omega
          · omega))
        have HR76 := Lib.hid (R7.out.drew.chg hc6 (fun h => by
          rcases hnn _ h.1 with h3 | h3
          · have := hab _ h3; omega
          · omega))
        clear ho6 hc6 hn6 hnn p2 g1 g0w
        try clear hHeld
        go_wp2_with fail
        go_roundw
        case rel => exact ⟨j + 1, a6, n6, c6, _, rfl, by go_num, by omega, HO6, Lib.hid (by rw [List.append_assoc, ← HENC.out]; exact HQ.out), HC6, HN6, HR46, HR76⟩
        case measure => simp [intOf]; omega
      · have e1 : t.kids.drop j = [] := List.drop_eq_nil_of_le (by omega)
        have e2 : t.kids.drop (j + 1) = [] := List.drop_eq_nil_of_le (by omega)
        have HQ2 : Hid (bs' ++ encK (ks.drop (j + 1)) (t.kids.drop (j + 1)) = bs ++ encK ks t.kids) := Lib.hid (by rw [← HQ.out, e1, e2, encK_nil, encK_nil])
        have hkl' : ¬ (j : Int) < (t.kids.length : Int) := by omega
        clear e1 e2
        go_wp2_with fail
        go_roundw
        case rel => exact ⟨j + 1, ar, nr, cr, bs', rfl, by go_num, by omega, HO, HQ2, HC, HN, R4, R7⟩
        case measure => simp [intOf]; omega
    · obtain rfl : j = ks.length := by omega
      have HO2 : Hid (OB B wr ar nr cr (bs ++ encK ks t.kids)) := Lib.hid (by
        have h := HQ.out
        rw [List.drop_length, encK, List.append_nil] at h
        rw [← h]; exact HO.out)
      clear hlt
      go_wp2_with fail
      go_ret
      rw [HE.out]
      exact ⟨ar, nr, cr, rfl, HO2.out, HC.out, fun k hk => (HN.out k hk).imp id (fun h => by omega)⟩
end Go.Proofs.Ytofhlopedflkiaa
namespace Go.Proofs.Ytofhlopedflkiaa
open Go.RowKit Go.Shr
theorem sh_mem : ∀ {ks : List Sh} {s : Sh}, s ∈ ks → s.size ≤ shSizes ks
  | x :: q, s, h => by
    rcases List.mem_cons.1 h with rfl | h
    · simp [shSizes]
    · have := sh_mem h; simp only [shSizes]; omega
theorem val_w (B : Nat) (sa : Option Addr) (scap bk : Nat) (l : List Fl) (hlen : l.length ≤ 1000) : ∀ (N : Nat) (s : Sh), s.size ≤ N → ValW B sa scap bk l s
  | 0, .mk _ _ _ _, h => by simp [Sh.size] at h
  | N + 1, .mk nm rp kd ks, h => by
    have hA : ∀ s ∈ ks, AllW B sa scap bk l s := fun s hs => all_w B sa scap bk l s (val_w B sa scap bk l hlen N s (by have := sh_mem hs; simp only [Sh.size] at h; omega))
    by_cases c1 : kd = 1
    · exact value_w1 B sa scap bk l nm rp kd ks hlen hA c1
    by_cases c2 : kd = 2
    · exact value_w2 B sa scap bk l nm rp kd ks hlen hA c1 c2
    by_cases c3 : kd = 3
    · exact value_w3 B sa scap bk l nm rp kd ks hlen hA c1 c2 c3
    by_cases c4 : kd = 4
    · exact value_w4 B sa scap bk l nm rp kd ks hlen hA c1 c2 c3 c4
    exact value_w5 B sa scap bk l nm rp kd ks hlen hA c1 c2 c3 c4
end Go.Proofs.Ytofhlopedflkiaa
