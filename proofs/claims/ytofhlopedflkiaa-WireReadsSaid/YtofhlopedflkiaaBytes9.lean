/-
  The walk of wire.Bytes.
-/
import Derived.Test.YtofhlopedflkiaaVal9
import Derived.Test.YtofhlopedflkiaaOf9
set_option linter.unusedSimpArgs false
namespace Go.Proofs.Ytofhlopedflkiaa
open Go.RowKit Go.Shr
set_option maxHeartbeats 1000000 in
set_option maxRecDepth 100000 in
theorem bytes_v (l : List Fl) (sh : Sh) (hS : Sch l sh) (sa : Option Addr) (scap : Nat) (x : List Tr) (xa : Option Addr) (xcap : Nat) (ys : List Value) (w : World) (hs : Sl (fun b => b < w.heap.size) w 4 sa l.length scap (fls l))
    (hsl : Sl (fun b => b < w.heap.size) w 3 xa x.length xcap ys) (hrow : RowAt w x ys) (hbd : (encR sh x).length ≤ 10000000000000) :
    Calls Try.prog 14 #[.slice sa l.length scap, .slice xa x.length xcap] w fun e w' => ∃ a' cap', e = .returned (.slice a' (encR sh x).length cap') ∧ Own w.heap.size w' 5 1 a' (encR sh x).length cap' (u8s (encR sh x)) ∧ Below w.heap.size w w' := by
  have hmx := Nat.le_trans hsl.le hsl.max
  unfold maxLen at hmx
  have hll : l.length ≤ 1000 := by rw [hS.len]; exact hS.size
  have hlp : 0 < l.length := hS.wf.pos
  have HS := Lib.hid hs; have HSL := Lib.hid hsl; have HROW := Lib.hid (RowAt.g _ _ hrow); have HSC := Lib.hid hS
  have HBD := Lib.hid hbd
  have hvl : (vput x.length).length ≤ 10 := vput_len 9 _ (by omega)
  clear hs hsl hrow hS hbd
  go_enter Try.func14, Try.ntmps14
  go_wp2_with fail
  refine (of_v sa l.length scap l w HS.out hll HSC.out.kids).mono ?_
  rintro e w1 ⟨bk, rfl, hbk, hkids, hb1⟩
  have HB1 := Lib.hid hb1; have HK1 := Lib.hid hkids
  clear hb1 hkids
  go_wp2_with fail
  refine cgen (fun w2 hw2 => ?_)
  have hb2 : Below w1.heap.size w1 w2 := by rw [hw2]; exact ba (b0 w1) _
  have r5 : Rw w2 w1.heap.size #[.slice sa l.length scap, .slice (some ⟨bk, 0, none⟩) l.length l.length] 56 := by rw [hw2]; exact Rw.new w1 _ _
  clear hw2
  have hk2 := HK1.out.below hb2
  have hz2 := hb2.size
  have hz1 := HB1.out.size
  have hsh : Shp w2.heap.size w2 sa scap bk l := ⟨slb (slb HS.out HB1.out) hb2, hk2, by omega, Nat.le_refl _⟩
  have HSH := Lib.hid hsh; have HB2 := Lib.hid (bt HB1.out hb2); have HR5 := Lib.hid r5
  have h5lt := r5.lt
  have HSL2 := Lib.hid (Sl.go (ok' := fun b => b < w2.heap.size) (Chg.ofBelow HB2.out) (fun b hb h => ⟨by omega, by have := HB2.out.size; omega⟩) HSL.out (by decide))
  have HROW2 := Lib.hid (RowG.go (ok' := fun b => b < w2.heap.size) (Chg.ofBelow HB2.out) (fun b hb h => ⟨by omega, by have := HB2.out.size; omega⟩) HROW.out)
  clear hb2 r5 hk2 hsh HK1
  refine (put_u8 (fun _ => False) none 0 0 [] x.length w2 (Sl.nil _ _ _ _) (by omega) (by omega)).mono ?_
  rintro e w3 ⟨a3, n3, c3, rfl, ho3, hb3⟩
  have hn3 : n3 = (vput x.length).length := by have := ho3.len; simpa using this.symm
  have hp3 := vput_pos x.length
  subst hn3
  have ob3 : OB w2.heap.size w3 a3 (vput x.length).length c3 (vput x.length) := OB.of (by simpa using ho3) (Nat.le_refl _) (by omega)
  have HO3 := Lib.hid ob3; have HB3 := Lib.hid hb3
  have HIX : Hid (Ix l (KF l) 0 sh) := Lib.hid HSC.out.ix
  have HE : Hid (encR sh x = vput x.length ++ x.flatMap (encT sh)) := Lib.hid rfl
  have hbdx : (vput x.length).length + (x.flatMap (encT sh)).length ≤ 10000000000000 := by have := HBD.out; rw [HE.out, List.length_append] at this; exact this
  clear ho3 hb3 ob3 hp3
  go_wp2_with fail
  go_loopw [6, 17] (fun bv iv wr => ∃ (j : Nat) (a' : Option Addr) (n' cap' : Nat), bv = .slice a' n' cap' ∧ iv = .int .i64 (j : Int) ∧ j ≤ x.length ∧ Hid (OB w2.heap.size wr a' n' cap' (vput x.length ++ (x.take j).flatMap (encT sh))) ∧ Hid (Below w2.heap.size w2 wr)) (fun _ iv _ => x.length - (intOf iv).toNat)
  case atStart => exact ⟨0, a3, _, c3, rfl, rfl, Nat.zero_le _, Lib.hid (by simpa using HO3.out), HB3⟩
  case round =>
    clear HO3 HB3
    obtain ⟨j, ar, nr, cr, rfl, rfl, hj, HO, HB⟩ := hrel
    have hnr := HO.out.len
    rw [List.length_append] at hnr
    have hfl := flat_le (encT sh) x j
    have hr5 := HR5.out.chg (Chg.ofBelow HB.out) (by omega)
    have q0 : wr.cell? ⟨w1.heap.size, 0, none⟩ = some (.slice sa l.length scap) := hr5.cell 0
    have q1 : wr.cell? ⟨w1.heap.size, 1, none⟩ = some (.slice (some ⟨bk, 0, none⟩) l.length l.length) := hr5.cell 1
    by_cases hlt : j < x.length
    · obtain ⟨xb, xoff, hxa, hxb, hxc⟩ := HSL2.out.pos (by omega)
      obtain ⟨e0, e1, e2, u0, u1, u2, hte⟩ := HROW2.out.get' j hlt
      obtain ⟨ta, tm, tcap, _, hcs2, hxm, _, _, _⟩ := hte.parts'
      simp at hcs2
      obtain ⟨rfl, rfl, rfl⟩ := hcs2
      subst hxm
      have v0 := (Chg.ofBelow HB.out).keep (hxc _ _ u0) (by omega)
      have v1 := (Chg.ofBelow HB.out).keep (hxc _ _ u1) (by omega)
      have v2 := (Chg.ofBelow HB.out).keep (hxc _ _ u2) (by omega)
      rw [← Nat.add_assoc] at v1 v2
      have HTK := Lib.hid (flat_take (encT sh) x j hlt)
      have hfl2 := flat_le (encT sh) x (j + 1)
      rw [HTK.out, List.length_append] at hfl2
      have HT := Lib.hid hte
      have HCAP : Hid (nr + (encT sh x[j]).length ≤ 10000000000000) := Lib.hid (by omega)
      generalize x[j] = t at *
      clear hxc u0 u1 u2 hte hr5 hnr hfl hfl2
      have HXA := Lib.hid hxa
      subst hxa
      have hl0 : (0 : Int) < (l.length : Int) := by omega
      have q0a : (wr.alloc (.cells #[.int .i64 t.n, .string t.s, .slice ta t.kids.length tcap] 35)).cell? ⟨w1.heap.size, 0, none⟩ = some (.slice sa l.length scap) := cb (ba (b0 wr) _) q0
      have q1a : (wr.alloc (.cells #[.int .i64 t.n, .string t.s, .slice ta t.kids.length tcap] 35)).cell? ⟨w1.heap.size, 1, none⟩ = some (.slice (some ⟨bk, 0, none⟩) l.length l.length) := cb (ba (b0 wr) _) q1
      go_wp2_with fail
      clear q0a q1a
      refine cgen (fun w5 hw5 => ?_)
      have hb5 : Below wr.heap.size wr w5 := by rw [hw5]; exact ba (b0 wr) _
      clear hw5
      have hb25 : Below w2.heap.size w2 w5 := bt HB.out hb5
      have hval : ValW w2.heap.size sa scap bk l sh := val_w _ sa scap bk l hll 1000 sh HSC.out.size
      refine (hval 0 t ar nr cr _ ta tcap w5 HIX.out (HSH.out.keep hb25) (HT.out.go (Chg.ofBelow hb25) (fun b hb h => ⟨by omega, h⟩)) (HO.out.below hb5) HCAP.out).mono ?_
      rintro e w6 ⟨a6, n6, c6, rfl, ho6, hc6, hn6⟩
      have HO6 := Lib.hid ho6
      have HB6 := Lib.hid (hb25.trans (hc6.lower hb25.size))
      clear ho6 hc6 hn6 hb5 hb25 q0 q1 v0 v1 v2
      go_wp2_with fail
      go_roundw
      case rel => exact ⟨j + 1, a6, n6, c6, rfl, by go_num, by omega, Lib.hid (by rw [HTK.out, ← List.append_assoc]; exact HO6.out), HB6⟩
      case measure => simp [intOf]; omega
    · obtain rfl : j = x.length := by omega
      have he : vput x.length ++ (x.take x.length).flatMap (encT sh) = encR sh x := by rw [List.take_length, HE.out]
      have HO2 : Hid (OB w2.heap.size wr ar nr cr (encR sh x)) := Lib.hid (he ▸ HO.out)
      have hlen := HO2.out.len
      clear he HO hlt hnr hfl hr5 q0 q1
      subst hlen
      go_wp2_with fail
      refine (clone_u8 _ ar (encR sh x).length cr _ wr HO2.out.own.sl (u8s_one _) (by have := HBD.out; omega)).mono ?_
      rintro e w6 ⟨a6, c6, rfl, ho6, hb6⟩
      have HO6 := Lib.hid (ho6.mono (show w.heap.size ≤ wr.heap.size by have := HB.out.size; have := HB2.out.size; omega))
      have HB6 := Lib.hid (bt (bt HB2.out HB.out) hb6)
      clear ho6 hb6
      go_wp2_with fail
      go_ret
      exact ⟨a6, c6, rfl, HO6.out, HB6.out⟩
end Go.Proofs.Ytofhlopedflkiaa
