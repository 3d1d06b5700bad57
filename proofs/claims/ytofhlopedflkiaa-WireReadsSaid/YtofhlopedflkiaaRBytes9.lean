/-
  The walk of the document's Bytes of wire.
-/
import Derived.Test.YtofhlopedflkiaaRPut9
import Derived.Test.YtofhlopedflkiaaBytes9
set_option linter.unusedSimpArgs false
namespace Go.Proofs.Ytofhlopedflkiaa
open Go.RowKit Go.Shr
theorem put_all (B : Nat) (sa : Option Addr) (scap : Nat) (pa : Option Addr) (pcap : Nat) (l : List Fl) (hlen : l.length ≤ 1000) : ∀ (N : Nat) (s : Sh), s.size ≤ N → PutW B sa scap pa pcap l s
  | 0, .mk _ _ _ _, h => by simp [Sh.size] at h
  | N + 1, .mk nm rp kd ks, h => by
    have hA : ∀ s ∈ ks, PutW B sa scap pa pcap l s := fun s hs => put_all B sa scap pa pcap l hlen N s (by have := sh_mem hs; simp only [Sh.size] at h; omega)
    by_cases c1 : kd = 1
    · exact put_leaf B sa scap pa pcap l nm rp kd ks (.inl c1)
    by_cases c2 : kd = 2
    · exact put_leaf B sa scap pa pcap l nm rp kd ks (.inr (.inl c2))
    by_cases c3 : kd = 3
    · exact put_leaf B sa scap pa pcap l nm rp kd ks (.inr (.inr (.inl c3)))
    by_cases c4 : kd = 4
    · exact put_leaf B sa scap pa pcap l nm rp kd ks (.inr (.inr (.inr c4)))
    exact put_grp B sa scap pa pcap l nm rp kd ks c1 c2 c3 c4 hlen hA
set_option maxHeartbeats 1000000 in
set_option maxRecDepth 100000 in
theorem rbytes_v (l : List Fl) (sh : Sh) (hS : Sch l sh) (sa : Option Addr) (scap : Nat) (x : List Tr) (xa : Option Addr) (xcap : Nat) (ys : List Value) (w : World) (hs : Sl (fun b => b < w.heap.size) w 4 sa l.length scap (fls l))
    (hsl : Sl (fun b => b < w.heap.size) w 3 xa x.length xcap ys) (hrow : RowAt w x ys) (hok : ∀ t ∈ x, okT sh t) (hbd : (encR sh x).length ≤ 10000000000000) :
    Calls Try.prog 18 #[.slice sa l.length scap, .slice xa x.length xcap] w fun e w' => ∃ a' cap', e = .returned (.slice a' (encR sh x).length cap') ∧ Own w.heap.size w' 5 1 a' (encR sh x).length cap' (u8s (encR sh x)) ∧ Below w.heap.size w w' := by
  have hmx := Nat.le_trans hsl.le hsl.max
  unfold maxLen at hmx
  have hll : l.length ≤ 1000 := by rw [hS.len]; exact hS.size
  have HS := Lib.hid hs; have HSL := Lib.hid hsl; have HROW := Lib.hid (RowAt.g _ _ hrow); have HSC := Lib.hid hS; have HOK := Lib.hid hok
  have HBD := Lib.hid hbd
  have hvl : (vput x.length).length ≤ 10 := vput_len 9 _ (by omega)
  clear hs hsl hrow hS hbd hok
  go_enter Try.func18, Try.ntmps18
  go_wp2_with fail
  refine (refpar_v sa l.length scap l w HS.out hll HSC.out.kids).mono ?_
  rintro e w2 ⟨pa, pcap, rfl, hpp, hb2⟩
  have hz2 := hb2.size
  have HB2 := Lib.hid hb2
  have HP2 := Lib.hid hpp
  clear hb2 hpp
  have HSL2 := Lib.hid (Sl.go (ok' := fun b => b < w2.heap.size) (Chg.ofBelow HB2.out) (fun b hb h => ⟨by omega, by have := HB2.out.size; omega⟩) HSL.out (by decide))
  have HROW2 := Lib.hid (RowG.go (ok' := fun b => b < w2.heap.size) (Chg.ofBelow HB2.out) (fun b hb h => ⟨by omega, by have := HB2.out.size; omega⟩) HROW.out)
  have HS2 := Lib.hid (slb HS.out HB2.out)
  have HPS2 : Hid (Sl (fun b => b < w2.heap.size) w2 1 pa l.length pcap (ints (par l))) := Lib.hid (Sl.mono (ok' := fun b => b < w2.heap.size) HP2.out.own.sl (fun k hk _ => hk) (by decide))
  go_wp2_with fail
  refine (rput_u8 (fun _ => False) none 0 0 [] x.length w2 (Sl.nil _ _ _ _) (by omega) (by omega)).mono ?_
  rintro e w3 ⟨a3, n3, c3, rfl, ho3, hb3⟩
  have hn3 : n3 = (vput x.length).length := by have := ho3.len; simpa using this.symm
  have hp3 := vput_pos x.length
  subst hn3
  have ob3 : OB w2.heap.size w3 a3 (vput x.length).length c3 (vput x.length) := OB.of (by simpa using ho3) (Nat.le_refl _) (by omega)
  have HO3 := Lib.hid ob3; have HB3 := Lib.hid hb3
  have HIX : Hid (Ix l (KF l) 0 sh) := Lib.hid HSC.out.ix
  have HE : Hid (encR sh x = vput x.length ++ x.flatMap (encT sh)) := Lib.hid rfl
  have hbdx : (vput x.length).length + (x.flatMap (encT sh)).length ≤ 10000000000000 := by have := HBD.out; rw [HE.out, List.length_append] at this; exact this
  clear ho3 hb3 ob3 hp3
  go_wp2_with fail
  go_loopw [6, 7] (fun bv iv wr => ∃ (j : Nat) (a' : Option Addr) (n' cap' : Nat), bv = .slice a' n' cap' ∧ iv = .int .i64 (j : Int) ∧ j ≤ x.length ∧ Hid (OB w2.heap.size wr a' n' cap' (vput x.length ++ (x.take j).flatMap (encT sh))) ∧ Hid (Below w2.heap.size w2 wr)) (fun _ iv _ => x.length - (intOf iv).toNat)
  case atStart => exact ⟨0, a3, _, c3, rfl, rfl, Nat.zero_le _, Lib.hid (by simpa using HO3.out), HB3⟩
  case round =>
    clear HO3 HB3
    obtain ⟨j, ar, nr, cr, rfl, rfl, hj, HO, HB⟩ := hrel
    have hnr := HO.out.len
    rw [List.length_append] at hnr
    have hfl := flat_le (encT sh) x j
    by_cases hlt : j < x.length
    · obtain ⟨xb, xoff, hxa, hxb, hxc⟩ := HSL2.out.pos (by omega)
      obtain ⟨e0, e1, e2, u0, u1, u2, hte⟩ := HROW2.out.get' j hlt
      obtain ⟨ta, tm, tcap, _, hcs2, hxm, _, _, _⟩ := hte.parts'
      simp at hcs2
      obtain ⟨rfl, rfl, rfl⟩ := hcs2
      subst hxm
      have v0 := (Chg.ofBelow HB.out).keep (hxc _ _ u0) (by omega)
      have v1 := (Chg.ofBelow HB.out).keep (hxc _ _ u1) (by omega)
      have v2 := (Chg.ofBelow HB.out).keep (hxc _ _ u2) (by omega)
      rw [← Nat.add_assoc] at v1 v2
      have HTK := Lib.hid (flat_take (encT sh) x j hlt)
      have hfl2 := flat_le (encT sh) x (j + 1)
      rw [HTK.out, List.length_append] at hfl2
      have HT := Lib.hid hte
      have HOKM := Lib.hid (HOK.out x[j] (List.getElem_mem hlt))
      have HCAP : Hid (nr + (encT sh x[j]).length ≤ 10000000000000) := Lib.hid (by omega)
      generalize x[j] = t at *
      clear hxc u0 u1 u2 hte hnr hfl hfl2
      have HXA := Lib.hid hxa
      subst hxa
      go_wp2_with fail
      have hval : PutW w2.heap.size sa scap pa pcap l sh := put_all _ sa scap pa pcap l hll 1000 sh HSC.out.size
      refine (hval 0 t ar nr cr _ ta tcap wr HIX.out HB.out.size (HS2.out.chg (Chg.ofBelow HB.out) (fun k hk => by omega)) (HPS2.out.chg (Chg.ofBelow HB.out) (fun k hk => by omega)) (HT.out.go (Chg.ofBelow HB.out) (fun b hb h => ⟨by omega, h⟩)) HOKM.out HO.out HCAP.out).mono ?_
      rintro e w6 ⟨a6, n6, c6, rfl, ho6, hc6, hn6⟩
      have HO6 := Lib.hid ho6
      have HB6 := Lib.hid (HB.out.trans (hc6.lower HB.out.size))
      clear ho6 hc6 hn6 v0 v1 v2
      go_wp2_with fail
      go_roundw
      case rel => exact ⟨j + 1, a6, n6, c6, rfl, by go_num, by omega, Lib.hid (by rw [HTK.out, ← List.append_assoc]; exact HO6.out), HB6⟩
      case measure => simp [intOf]; omega
    · obtain rfl : j = x.length := by omega
      have he : vput x.length ++ (x.take x.length).flatMap (encT sh) = encR sh x := by rw [List.take_length, HE.out]
      have HO2 : Hid (OB w2.heap.size wr ar nr cr (encR sh x)) := Lib.hid (he ▸ HO.out)
      have hlen := HO2.out.len
      clear he HO hlt hnr hfl
      subst hlen
      go_wp2_with fail
      go_ret
      exact ⟨ar, cr, rfl, HO2.out.own.mono hz2, bt HB2.out HB.out⟩
end Go.Proofs.Ytofhlopedflkiaa
