/-
  The walks of wire's shape: mark, all, value.
-/
import Derived.Test.YtofhlopedflkiaaEnc9
import Derived.Test.YtofhlopedflkiaaSchG
import Derived.Test.YtofhlopedflkiaaRegJ
import Derived.Deep.CutRange
import Derived.Deep.CutBlock
set_option linter.unusedSimpArgs false
namespace Go.Proofs.Ytofhlopedflkiaa
open Go.RowKit Go.Shr
def markN (rep : Int) : Int := if rep = 1 then 63 else if rep = 2 then 42 else 49
theorem mark_v (B : Nat) (sa : Option Addr) (scap bk : Nat) (l : List Fl) (i : Nat) (w : World) (h : Shp B w sa scap bk l) (hi : i < l.length) :
    Calls Try.prog 60 #[.agg #[.slice sa l.length scap, .slice (some ⟨bk, 0, none⟩) l.length l.length], .int .i64 i] w fun e w' => e = .returned (.int .i32 (markN l[i].rep)) ∧ Below w.heap.size w w' := by
  obtain ⟨sb, soff, rfl, hsb, hsc⟩ := h.sl.pos (by omega)
  obtain ⟨_, f1, _, _⟩ := fls_get l i hi
  replace f1 := hsc _ _ f1
  rw [← Nat.add_assoc] at f1
  have hle := h.le
  have hmx := Nat.le_trans h.sl.le h.sl.max
  unfold maxLen at hmx
  obtain ⟨wx, hwx⟩ : ∃ wx, wx = w.alloc (.cells #[.slice (some ⟨sb, soff, none⟩) l.length scap, .slice (some ⟨bk, 0, none⟩) l.length l.length] 56) := ⟨_, rfl⟩
  have hbx : Below w.heap.size w wx := by rw [hwx]; exact ba (b0 w) _
  have q0 : wx.cell? ⟨w.heap.size, 0, none⟩ = some (.slice (some ⟨sb, soff, none⟩) l.length scap) := by rw [hwx]; exact (Rw.new w #[.slice (some ⟨sb, soff, none⟩) l.length scap, .slice (some ⟨bk, 0, none⟩) l.length l.length] 56).cell 0
  replace f1 := cb hbx f1
  generalize l[i].rep = rp at *
  clear hsc h
  have hi0 : (0 : Int) ≤ (i : Int) := by omega
  have hi1 : (i : Int) < (l.length : Int) := by omega
  by_cases h1 : rp = 1
  · subst h1
    go_enter Try.func60, Try.ntmps60
    go_upto_region 1 with fail
    rw [← hwx]; clear hwx
    go_wp2_with fail
    go_ret
    exact ⟨by simp [markN], hbx⟩
  · by_cases h2 : rp = 2
    · subst h2
      go_enter Try.func60, Try.ntmps60
      go_upto_region 1 with fail
      rw [← hwx]; clear hwx
      go_wp2_with fail
      go_ret
      exact ⟨by simp [markN], hbx⟩
    · have hm : Hid (markN rp = 49) := Lib.hid (by simp [markN, h1, h2])
      have b1 : (rp == 1) = false := beq_eq_false_iff_ne.2 h1
      have b2 : (rp == 2) = false := beq_eq_false_iff_ne.2 h2
      clear h1 h2
      go_enter Try.func60, Try.ntmps60
      go_upto_region 1 with fail
      rw [← hwx]; clear hwx
      go_wp2_with fail
      go_ret
      exact ⟨by rw [hm.out]; rfl, hbx⟩
/-- What value, all append of a shape. -/
def ValW (B : Nat) (sa : Option Addr) (scap bk : Nat) (l : List Fl) (s : Sh) : Prop :=
  ∀ (i : Nat) (t : Tr) (ab : Option Addr) (nb cb : Nat) (bs : List UInt8) (ta : Option Addr) (tcap : Nat) (w : World), Ix l (KF l) i s → Shp B w sa scap bk l →
    TrG (fun b => b < B) w t [.int .i64 t.n, .string t.s, .slice ta t.kids.length tcap] → OB B w ab nb cb bs → nb + (encT s t).length ≤ 10000000000000 →
    Calls Try.prog 26 #[.agg #[.slice sa l.length scap, .slice (some ⟨bk, 0, none⟩) l.length l.length], .slice ab nb cb, .int .i64 i, .agg #[.int .i64 t.n, .string t.s, .slice ta t.kids.length tcap]] w (EncQ B ab bs (encT s t) w)
def AllW (B : Nat) (sa : Option Addr) (scap bk : Nat) (l : List Fl) (s : Sh) : Prop :=
  ∀ (i : Nat) (x : List Tr) (ab : Option Addr) (nb cb : Nat) (bs : List UInt8) (xa : Option Addr) (xcap : Nat) (ys : List Value) (w : World), Ix l (KF l) i s → Shp B w sa scap bk l →
    Sl (fun b => b < B) w 3 xa x.length xcap ys → RowG (fun b => b < B) w x ys → OB B w ab nb cb bs → nb + (encA s x).length ≤ 10000000000000 →
    Calls Try.prog 42 #[.agg #[.slice sa l.length scap, .slice (some ⟨bk, 0, none⟩) l.length l.length], .slice ab nb cb, .int .i64 i, .slice xa x.length xcap] w (EncQ B ab bs (encA s x) w)
theorem Ix.at {l : List Fl} {K : Int → List Int} {i : Nat} {s : Sh} (h : Ix l K i s) : ∃ hi : i < l.length, l[i].rep = s.rep ∧ l[i].kind = s.kind := by
  obtain ⟨nm, rp, kd, ks⟩ := s
  simp only [Ix] at h
  obtain ⟨h1, h2⟩ := List.getElem?_eq_some_iff.1 h.1
  exact ⟨h1, by rw [h2]; rfl, by rw [h2]; rfl⟩
theorem flat_take (f : Tr → List UInt8) (x : List Tr) (j : Nat) (h : j < x.length) : (x.take (j + 1)).flatMap f = (x.take j).flatMap f ++ f x[j] := by
  rw [List.take_succ_eq_append_getElem h, List.flatMap_append]; simp
theorem flat_le (f : Tr → List UInt8) (x : List Tr) (j : Nat) : ((x.take j).flatMap f).length ≤ (x.flatMap f).length := by
  have h : x.flatMap f = (x.take j).flatMap f ++ (x.drop j).flatMap f := by rw [← List.flatMap_append, List.take_append_drop]
  rw [h, List.length_append]; omega
set_option maxHeartbeats 1000000 in
set_option maxRecDepth 100000 in
theorem all_w (B : Nat) (sa : Option Addr) (scap bk : Nat) (l : List Fl) (s : Sh) (hV : ValW B sa scap bk l s) : AllW B sa scap bk l s := by
  intro i x ab nb cb bs xa xcap ys w hix hsh hsl hrow hob hbd
  obtain ⟨i0, hi0, hz0, hz1, hz2⟩ := info_parts info_u8
  obtain ⟨hil, hrep, _⟩ := hix.at
  have hmx := Nat.le_trans hsl.le hsl.max
  unfold maxLen at hmx
  have hmk := fun W (h : Shp B W sa scap bk l) => mark_v B sa scap bk l i W h hil
  rw [hrep] at hmk
  have HMK := Lib.hid hmk; have HSH := Lib.hid hsh; have HSL := Lib.hid hsl; have HROW := Lib.hid hrow; have HOB := Lib.hid hob; have HV := Lib.hid hV; have HIX := Lib.hid hix
  have hle := hsh.le
  have hab := hob.lt
  have hnb := hob.len
  have HNB := Lib.hid hnb
  have HBD := Lib.hid hbd
  have hm0 : nb + (markB s.rep x.length).length ≤ 10000000000000 := by rw [encA, List.length_append] at hbd; omega
  clear hmk hsh hsl hrow hob hV hix hrep hbd hnb
  go_enter Try.func42, Try.ntmps42
  go_upto_region 1 with fail
  obtain ⟨wx, hwx⟩ : ∃ wx, wx = w.alloc (.cells #[.slice sa l.length scap, .slice (some ⟨bk, 0, none⟩) l.length l.length] 56) := ⟨_, rfl⟩
  have hbx : Below w.heap.size w wx := by rw [hwx]; exact ba (b0 w) _
  have hrx : Rw wx w.heap.size #[.slice sa l.length scap, .slice (some ⟨bk, 0, none⟩) l.length l.length] 56 := by rw [hwx]; exact Rw.new w _ _
  have hzx : wx.heap.size = w.heap.size + 1 := by rw [hwx]; simp
  rw [← hwx]; clear hwx
  have HBX := Lib.hid hbx
  have HSX := Lib.hid (HSH.out.keep (hbx.mono hle))
  have q0 : wx.cell? ⟨w.heap.size, 0, none⟩ = some (.slice sa l.length scap) := hrx.cell 0
  have q1 : wx.cell? ⟨w.heap.size, 1, none⟩ = some (.slice (some ⟨bk, 0, none⟩) l.length l.length) := hrx.cell 1
  have HRX := Lib.hid hrx
  clear hbx hrx
  go_wp2_with fail
  refine (HMK.out wx HSX.out).mono ?_
  rintro e w1 ⟨rfl, hb1⟩
  have HB1 := Lib.hid (bt HBX.out hb1)
  have HR1 := Lib.hid (HRX.out.below hb1)
  have HS1 := Lib.hid (HSX.out.keep (hb1.mono (by omega)))
  have HO1 := Lib.hid (HOB.out.below HB1.out)
  have hz1' : w.heap.size + 1 ≤ w1.heap.size := by have := hb1.size; omega
  clear hb1 q0 q1 HSX HRX HBX
  go_upto_block 0 with fail
  go_cut [1] from 13 to 28 (fun bv wd => ∃ (a' : Option Addr) (n' cap' : Nat), bv = .slice a' n' cap' ∧ Hid (OB B wd a' n' cap' (bs ++ markB s.rep x.length)) ∧ Hid (Chg (fun k => blk ab k ∧ B ≤ k) w wd) ∧ Hid (∀ k, blk a' k → blk ab k ∨ w.heap.size + 1 ≤ k) ∧ Hid (Rw wd w.heap.size #[.slice sa l.length scap, .slice (some ⟨bk, 0, none⟩) l.length l.length] 56))
  case first =>
    by_cases h1 : s.rep = 1
    · have hmn : markN s.rep = 63 := by simp [markN, h1]
      have hmb : Hid (markB s.rep x.length = [UInt8.ofNat (x.length % 256)]) := Lib.hid (by simp [markB, h1])
      rw [hmn]
      clear hmn h1
      have hl1 : nb + 1 ≤ 10000000000000 := by rw [hmb.out] at hm0; simpa using hm0
      go_wp2_with (first | (at_builtin; refine wpList_append (B := B) rfl _ _ _ _ rfl i0 (.int .u8 0) 1 Try.underlying30 hi0 hz0 hz1 hz2 rfl rfl (HO1.out.own.alloc _) _ rfl _ _ (src_one Try.underlying30 w1 _ _ rfl) (by simp only [maxLen]; omega) (by omega) (by have := HS1.out.le; simp; omega) ?_; intro a5 cap5 w5 ho5 hc5 hn5) | fail)
      go_meet
      case rel =>
        have hc : Chg (fun k => blk ab k ∧ B ≤ k) w w5 := ((Chg.ofBelow HB1.out).mono (fun i hi h => by omega) |>.alloc _).trans hc5 (fun i hi h => ⟨h.1, h.2.1⟩)
        refine ⟨a5, nb + 1, cap5, rfl, Lib.hid (OB.of (by rw [hmb.out, ← u8s_snoc _ _ (by omega)]; exact ho5) (Nat.le_refl _) (by omega)), Lib.hid hc, Lib.hid (fun k hk => ?_), Lib.hid ((HR1.out.alloc _).chg hc5 (fun h => by have := hab _ h.1; omega))⟩
        rcases hn5 k hk with h | h
        · exact .inl h
        · refine .inr ?_
          simp at h; omega
    · by_cases h2 : s.rep = 2
      · have hmn : markN s.rep = 42 := by simp [markN, h2]
        have hmb : Hid (markB s.rep x.length = vput x.length) := Lib.hid (by simp [markB, h2])
        rw [hmn]
        clear hmn h1 h2
        have hl1 : nb + (vput x.length).length ≤ 10000000000000 := by rw [hmb.out] at hm0; exact hm0
        go_wp2_with fail
        refine (put_u8 _ ab nb cb bs x.length w1 HO1.out.own.sl (by omega) (by omega)).mono ?_
        rintro e w5 ⟨a5, n5, cap5, rfl, ho5, hb5⟩
        have hn5 : n5 = bs.length + (vput x.length).length := by have := ho5.len; simpa using this.symm
        have hp5 := vput_pos x.length
        subst hn5
        have HO5 := Lib.hid ho5; have HB5 := Lib.hid hb5
        clear ho5 hb5
        go_wp2_with fail
        go_meet
        case rel =>
          refine ⟨a5, _, cap5, rfl, Lib.hid (OB.of (by rw [hmb.out]; exact HO5.out) HS1.out.le (by omega)), Lib.hid ((Chg.ofBelow (bt HB1.out HB5.out)).mono (fun i hi h => by omega)), Lib.hid (fun k hk => .inr ?_), Lib.hid (HR1.out.below HB5.out)⟩
          have := (HO5.out.blt' (by omega) hk).1
          omega
      · have hmn : Hid (markN s.rep = 49) := Lib.hid (by simp [markN, h1, h2])
        have hmb : Hid (markB s.rep x.length = []) := Lib.hid (by simp [markB, h1, h2])
        rw [hmn.out]
        clear h1 h2
        go_wp2_with fail
        go_meet
        case rel => exact ⟨ab, nb, cb, rfl, Lib.hid (by rw [hmb.out, List.append_nil]; exact HO1.out), Lib.hid ((Chg.ofBelow HB1.out).mono (fun i hi h => by omega)), Lib.hid (fun k hk => .inl hk), HR1⟩
  case rest =>
    obtain ⟨ar, nr, cr, rfl, HO, HC, HN, HR⟩ := hcut
    have HE : Hid (encA s x = markB s.rep x.length ++ x.flatMap (encT s)) := Lib.hid rfl
    have hbdx : nb + ((markB s.rep x.length).length + (x.flatMap (encT s)).length) ≤ 10000000000000 := by have := HBD.out; rw [HE.out, List.length_append] at this; exact this
    clear HO1 HR1 HS1 HB1 HMK hm0
    go_wp2_with fail
    go_loopw [1, 31] (fun bv iv wr => ∃ (j : Nat) (a' : Option Addr) (n' cap' : Nat), bv = .slice a' n' cap' ∧ iv = .int .i64 (j : Int) ∧ j ≤ x.length ∧ Hid (OB B wr a' n' cap' (bs ++ markB s.rep x.length ++ (x.take j).flatMap (encT s))) ∧ Hid (Chg (fun k => blk ab k ∧ B ≤ k) w wr) ∧ Hid (∀ k, blk a' k → blk ab k ∨ w.heap.size + 1 ≤ k) ∧ Hid (Rw wr w.heap.size #[.slice sa l.length scap, .slice (some ⟨bk, 0, none⟩) l.length l.length] 56)) (fun _ iv _ => x.length - (intOf iv).toNat)
    case atStart => exact ⟨0, ar, nr, cr, rfl, rfl, Nat.zero_le _, Lib.hid (by simpa using HO.out), HC, HN, HR⟩
    case round =>
      clear HO HC HN HR
      obtain ⟨j, ar, nr, cr, rfl, rfl, hj, HO, HC, HN, HR⟩ := hrel
      have hnr := HO.out.len
      rw [List.length_append, List.length_append] at hnr
      have hfl := flat_le (encT s) x j
      have q0 : wr.cell? ⟨w.heap.size, 0, none⟩ = some (.slice sa l.length scap) := HR.out.cell 0
      have q1 : wr.cell? ⟨w.heap.size, 1, none⟩ = some (.slice (some ⟨bk, 0, none⟩) l.length l.length) := HR.out.cell 1
      have hlow : Below B w wr := HC.out.lower hle
      have HLOW := Lib.hid hlow
      have hszr := HC.out.size
      clear hlow
      by_cases hlt : j < x.length
      · obtain ⟨xb, xoff, hxa, hxb, hxc⟩ := HSL.out.pos (by omega)
        obtain ⟨e0, e1, e2, u0, u1, u2, hte⟩ := HROW.out.get' j hlt
        obtain ⟨ta, tm, tcap, _, hcs2, hxm, _, _, _⟩ := hte.parts'
        simp at hcs2
        obtain ⟨rfl, rfl, rfl⟩ := hcs2
        subst hxm
        have v0 := (Chg.ofBelow HLOW.out).keep (hxc _ _ u0) (by omega)
        have v1 := (Chg.ofBelow HLOW.out).keep (hxc _ _ u1) (by omega)
        have v2 := (Chg.ofBelow HLOW.out).keep (hxc _ _ u2) (by omega)
        rw [← Nat.add_assoc] at v1 v2
        have HTK := Lib.hid (flat_take (encT s) x j hlt)
        have hfl2 := flat_le (encT s) x (j + 1)
        rw [HTK.out, List.length_append] at hfl2
        have HT := Lib.hid hte
        have HCAP : Hid (nr + (encT s x[j]).length ≤ 10000000000000) := Lib.hid (by have := HNB.out; omega)
        generalize x[j] = t at *
        clear hxc u0 u1 u2 hte hnr hfl hfl2
        subst hxa
        have q0a : (wr.alloc (.cells #[.int .i64 t.n, .string t.s, .slice ta t.kids.length tcap] 35)).cell? ⟨w.heap.size, 0, none⟩ = some (.slice sa l.length scap) := Go.Shr.cb (ba (b0 wr) _) q0
        have q1a : (wr.alloc (.cells #[.int .i64 t.n, .string t.s, .slice ta t.kids.length tcap] 35)).cell? ⟨w.heap.size, 1, none⟩ = some (.slice (some ⟨bk, 0, none⟩) l.length l.length) := Go.Shr.cb (ba (b0 wr) _) q1
        go_wp2_with fail
        clear q0a q1a
        refine cgen (fun w5 hw5 => ?_)
        have hb5 : Below wr.heap.size wr w5 := by rw [hw5]; exact ba (b0 wr) _
        clear hw5
        have hz5 := hb5.size
        have hb25 : Below B w w5 := HLOW.out.trans (hb5.mono (by omega))
        refine (HV.out i t ar nr cr _ ta tcap w5 HIX.out (HSH.out.keep hb25) (HT.out.go (Chg.ofBelow hb25) (fun b hb h => ⟨by omega, h⟩)) (HO.out.below hb5) HCAP.out).mono ?_
        rintro e w6 ⟨a6, n6, c6, rfl, ho6, hc6, hn6⟩
        have HO6 := Lib.hid ho6
        have hnn := HN.out
        have HC6 : Hid (Chg (fun k => blk ab k ∧ B ≤ k) w w6) := Lib.hid ((HC.out.trans ((Chg.ofBelow hb5)) (fun i hi h => by omega)).trans hc6 (fun i hi h => by
          rcases hnn i h.1 with h3 | h3
          · exact ⟨h3, h.2⟩
          · omega))
        have HN6 : Hid (∀ k, blk a6 k → blk ab k ∨ w.heap.size + 1 ≤ k) := Lib.hid (fun k hk => by
          rcases hn6 k hk with h3 | h3
          · exact hnn k h3
          · have := HR.out.lt; exact .inr (by omega))
        have HR6 := Lib.hid ((HR.out.below hb5).chg hc6 (fun h => by
          rcases hnn _ h.1 with h3 | h3
          · have := hab _ h3; omega
          · omega))
        clear ho6 hc6 hn6 hb5 hb25 q0 q1 v0 v1 v2 hnn
        go_wp2_with fail
        go_roundw
        case rel => exact ⟨j + 1, a6, n6, c6, rfl, by go_num, by omega, Lib.hid (by rw [HTK.out, ← List.append_assoc]; exact HO6.out), HC6, HN6, HR6⟩
        case measure => simp [intOf]; omega
      · obtain rfl : j = x.length := by omega
        have he : bs ++ markB s.rep x.length ++ (x.take x.length).flatMap (encT s) = bs ++ encA s x := by rw [List.take_length, HE.out, List.append_assoc]
        have HO2 : Hid (OB B wr ar nr cr (bs ++ encA s x)) := Lib.hid (he ▸ HO.out)
        clear he HO hlt hnr hfl q0 q1
        go_wp2_with fail
        go_ret
        exact ⟨ar, nr, cr, rfl, HO2.out, HC.out, fun k hk => (HN.out k hk).imp id (fun h => by omega)⟩
end Go.Proofs.Ytofhlopedflkiaa
