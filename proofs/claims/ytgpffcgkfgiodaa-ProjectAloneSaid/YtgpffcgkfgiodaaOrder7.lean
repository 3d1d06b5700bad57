/-
  The walk of ProjectOrder.
-/
import Derived.Test.YtgpffcgkfgiodaaLaw7B
import Derived.Deep.CutRange
set_option linter.unusedSimpArgs false
namespace Go.Proofs.Ytgpffcgkfgiodaa
open Go.RowKit Go.Shr
theorem pathsOf_allA {l : List Fl} (h2 : 2 ≤ l.length) (zs : List Int) : ∀ p ∈ pathsOf l zs, isA l p.data.toList l.length = true := by
  intro p hp
  obtain ⟨z, _, rfl⟩ := List.mem_map.1 hp
  have hm1 := Int.emod_nonneg z (show ((l.length : Int) - 1) ≠ 0 by omega)
  have hm2 := Int.emod_lt_of_pos z (show (0 : Int) < (l.length : Int) - 1 by omega)
  exact isA_iff.2 ⟨_, by omega, by omega, rfl⟩
theorem pathsOf_size {l : List Fl} {W : Nat → List UInt8} (h : Wy l W) (h2 : 2 ≤ l.length) (zs : List Int) : ∀ p ∈ pathsOf l zs, p.size ≤ maxLen := by
  intro p hp
  obtain ⟨z, _, rfl⟩ := List.mem_map.1 hp
  have hm1 := Int.emod_nonneg z (show ((l.length : Int) - 1) ≠ 0 by omega)
  have hm2 := Int.emod_lt_of_pos z (show (0 : Int) < (l.length : Int) - 1 by omega)
  exact Nat.le_trans (h.own_size _ (by omega) (by omega)) (by decide)
theorem KW_mem {ps qs : List ByteArray} (h : ∀ p, p ∈ ps ↔ p ∈ qs) (x : List UInt8) : KW ps x = KW qs x := by
  have he : ps.isEmpty = qs.isEmpty := by
    rw [Bool.eq_iff_iff, List.isEmpty_iff, List.isEmpty_iff, List.eq_nil_iff_forall_not_mem, List.eq_nil_iff_forall_not_mem]
    exact forall_congr' fun p => not_congr (h p)
  unfold KW kp
  rw [he]
  congr 1
  rw [Bool.eq_iff_iff, List.any_eq_true, List.any_eq_true]
  refine exists_congr fun p => and_congr_left fun _ => ?_
  unfold byts
  rw [List.mem_map, List.mem_map]
  exact exists_congr fun q => and_congr_left fun _ => h q
/-- The same paths, turned. -/
def turned (l : List ByteArray) (q : Nat) : List ByteArray := (List.range l.length).map fun i => l.getD ((i + q) % l.length) ⟨#[]⟩
theorem turned_len (l : List ByteArray) (q : Nat) : (turned l q).length = l.length := by simp [turned]
theorem turned_mem {l : List ByteArray} {q : Nat} {p : ByteArray} (h : p ∈ turned l q) : p ∈ l := by
  simp only [turned, List.mem_map, List.mem_range] at h
  obtain ⟨i, hi, rfl⟩ := h
  have : (i + q) % l.length < l.length := Nat.mod_lt _ (by omega)
  rw [List.getD_eq_getElem?_getD, List.getElem?_eq_getElem this]
  exact List.getElem_mem this
set_option maxHeartbeats 1000000 in
theorem law_order (a0 : Option Addr) (n0 c0 : Nat) (z0 : List Int) (a1 : Option Addr) (n1 c1 : Nat) (z1 : List Int) (by' : Int) (w : World) (h0 : Sl (fun b => b < w.heap.size) w 1 a0 n0 c0 (ints z0)) (w0 : ∀ z ∈ z0, (Lit.int .i64 z).wf = true) (h1 : Sl (fun b => b < w.heap.size) w 1 a1 n1 c1 (ints z1)) (_ : ∀ z ∈ z1, (Lit.int .i64 z).wf = true) (_ : (Lit.int .i64 by').wf = true) :
    Calls Try.prog 5 #[.slice a0 n0 c0, .slice a1 n1 c1, .int .i64 by'] w fun e w' => e = .returned (.bool true) ∧ Below w.heap.size w w' := by
  obtain ⟨it, hit, hz0t, hz1t, hz2t⟩ := info_parts info_s
  have hn1 : z1.length = n1 := by have := h1.len; rw [ints_length] at this; omega
  subst hn1
  have H0 := Lib.hid h0; have H1 := Lib.hid h1; have W0 := Lib.hid w0
  clear h0 h1 w0
  go_enter Try.func5, Try.ntmps5
  go_wp2_with fail
  refine ((known7 w).mono ?_)
  rintro e w1 ⟨rfl, hb1⟩
  have HB1 := Lib.hid hb1
  clear hb1
  go_wp2_with fail
  refine ((make5 a0 n0 c0 z0 w1 (slb H0.out HB1.out) W0.out).mono ?_)
  rintro e w2 ⟨aS, cS, rfl, hs, hb2⟩
  have HWY := Lib.hid (make_wy z0)
  have HSC := Lib.hid (make_sch z0)
  have h2 := make_two z0
  have hl14 := (make_len z0).2
  have HS := Lib.hid (hs.sl.mono (ok' := fun b => b < w2.heap.size) (fun k hk _ => hk) (by decide))
  have HB2 := Lib.hid (bt HB1.out hb2)
  clear hs hb2
  generalize makeL z0 = l at *
  generalize wayAt (makeSh z0) = W at *
  go_wp2_with fail
  refine ((paths_v HWY.out HSC.out.kids h2 aS a1 cS c1 z1 w2 HS.out (slb H1.out HB2.out)).mono ?_)
  rintro e w3 ⟨aA, cA, rfl, hA, hb3⟩
  have HS3 := Lib.hid (slb HS.out hb3)
  have HA := Lib.hid (hA.sl.mono (ok' := fun b => b < w3.heap.size) (fun k hk _ => hk) (by decide))
  have HB3 := Lib.hid (bt HB2.out hb3)
  have HALL := Lib.hid (pathsOf_allA h2 z1)
  have HPS := Lib.hid (pathsOf_size HWY.out h2 z1)
  have hp4 : (pathsOf l z1).length ≤ 4 := by rw [pathsOf_len]; omega
  clear hA hb3
  generalize pathsOf l z1 = ps at *
  by_cases hps : ps.length = 0
  · have hb : ((ps.length : Int) == 0) = true := beq_iff_eq.2 (by omega)
    clear hps
    go_wp2_with fail
    go_ret
    exact ⟨rfl, HB3.out⟩
  · have hb : ((ps.length : Int) == 0) = false := beq_eq_false_iff_ne.2 (by omega)
    have hpos : 0 < ps.length := by omega
    clear hps
    have hq1 := Int.emod_nonneg by' (show (ps.length : Int) ≠ 0 by omega)
    have hq2 := Int.emod_lt_of_pos by' (show (0 : Int) < (ps.length : Int) by omega)
    obtain ⟨q, hq⟩ : ∃ q : Nat, by' % (ps.length : Int) = (q : Int) := ⟨(by' % (ps.length : Int)).toNat, by omega⟩
    have HQ := Lib.hid hq
    rw [hq] at hq1 hq2
    clear hq
    go_upto_block 0 with fail
    go_cut [9, 10] from 27 to 47 (fun vo _ wc => ∃ aO cO, vo = .slice aO ps.length cO ∧ Hid (Own w3.heap.size wc 9 1 aO ps.length cO (strs (turned ps q))) ∧ Hid (Below w3.heap.size w3 wc))
    case first =>
      go_wp2_with fail
      go_loopw [9, 10] (fun vo iv wr => ∃ (j : Nat) (aO : Option Addr) (cO : Nat), vo = .slice aO j cO ∧ iv = .int .i64 (j : Int) ∧ j ≤ ps.length ∧ Hid (Own w3.heap.size wr 9 1 aO j cO (strs ((turned ps q).take j))) ∧ Hid (Below w3.heap.size w3 wr)) (fun _ iv _ => ps.length - (intOf iv).toNat)
      case atStart => exact ⟨0, none, 0, rfl, rfl, Nat.zero_le _, Lib.hid (Own.nil _ _ _ _), Lib.hid (b0 w3)⟩
      case round =>
        obtain ⟨j, aO, cO, rfl, rfl, hj, HO, HB⟩ := hrel
        have hszr := HB.out.size
        by_cases hlt : j < ps.length
        · go_wp2_with fail
          refine ((within_7 by' _ wr (by omega) (by omega)).mono ?_)
          rintro e w4 ⟨rfl, rfl⟩
          rw [HQ.out]
          have hrl : (j + q) % ps.length < ps.length := Nat.mod_lt _ hpos
          have hre : ((j : Int) + (q : Int)) % (ps.length : Int) = (((j + q) % ps.length : Nat) : Int) := by simp
          obtain ⟨ab, ao, rfl, hab, hac⟩ := HA.out.pos (by omega)
          have p0 := cb HB.out (hac _ _ (strs_get ps _ hrl))
          have HT : Hid ((turned ps q).take (j + 1) = (turned ps q).take j ++ [ps[(j + q) % ps.length]]) := Lib.hid (by
            rw [List.take_succ_eq_append_getElem (by rw [turned_len]; exact hlt)]
            simp [turned, hrl])
          generalize ps[(j + q) % ps.length] = o at *
          generalize (j + q) % ps.length = r at *
          clear hac
          have tok1 : True := trivial
          go_wp2_with (first | (at_builtin; have _t := tok1; clear tok1; clear _t; refine wpList_append (B := w3.heap.size) rfl _ _ _ _ rfl it (.string ByteArray.empty) 16 Try.underlying37 hit hz0t hz1t hz2t rfl rfl (HO.out.alloc _) _ rfl _ _ (src_built (e' := 9) Try.underlying37 wr #[.string o] 9 1 1 rfl (by simp [Value.oneCell'])) (by simp only [maxLen]; omega) (by omega) (by first | omega | (simp; omega) | simp) ?_; intro a5 cap5 w5 ho5 hc5 hn5); (have HO5 := Lib.hid ho5); (have HC5 := Lib.hid hc5); clear ho5 hc5 hn5)
          go_roundw
          case rel => exact ⟨j + 1, a5, cap5, rfl, by go_num, by omega, Lib.hid (by rw [HT.out]; have := HO5.out; simp only [strs, List.map_append] at this ⊢; exact this), Lib.hid (Chg.bt (ba HB.out _) HC5.out (fun i hi h => by have := h.2.1; omega))⟩
          case measure => simp [intOf]; omega
        · obtain rfl : j = ps.length := by omega
          go_wp2_with fail
          go_meet
          case rel => exact ⟨aO, cO, rfl, Lib.hid (by have := HO.out; rw [List.take_of_length_le (by rw [turned_len]; exact Nat.le_refl _)] at this; exact this), HB⟩
    case rest =>
      obtain ⟨aO, cO, rfl, HO, HB⟩ := hcut
      have hszc := HB.out.size
      have HAC := Lib.hid (slb HA.out HB.out)
      have tok1 : True := trivial
      go_upto_region 13 with (first | (at_builtin; have _t := tok1; clear tok1; clear _t; refine wpList_append (B := w3.heap.size) rfl _ _ _ _ rfl it (.string ByteArray.empty) 16 Try.underlying37 hit hz0t hz1t hz2t rfl rfl (HO.out) _ rfl _ _ (HAC.out.src (P := Try.prog) (tx := 37) Try.underlying37 (strs_one _)) (by simp only [maxLen]; omega) (by omega) (by first | omega | (simp; omega) | simp) ?_; intro a5 cap5 w5 ho5 hc5 hn5); (have HO5 := Lib.hid ho5); (have HC5 := Lib.hid hc5); clear ho5 hc5 hn5)
      have hb5 : Below w3.heap.size w3 w5 := Chg.bt HB.out HC5.out (fun i hi h => by have := h.2.1; omega)
      have HB5 := Lib.hid (bt HB3.out hb5)
      have HSL5 : Hid (Sl (fun b => b < w5.heap.size) w5 1 a5 (turned ps q ++ ps).length cap5 (strs (turned ps q ++ ps))) := Lib.hid (by
        have := HO5.out.sl.mono (ok' := fun b => b < w5.heap.size) (fun k hk _ => hk) (by decide)
        rw [List.length_append, turned_len]
        simpa [strs] using this)
      have HA5 := Lib.hid (slb HA.out hb5)
      have HS5 := Lib.hid (slb HS3.out hb5)
      have HLE : Hid (ps.length + ps.length = (turned ps q ++ ps).length) := Lib.hid (by rw [List.length_append, turned_len])
      have HALLB : Hid (allA l (turned ps q ++ ps)) := Lib.hid (fun p hp => by
        rcases List.mem_append.1 hp with h | h
        · exact HALL.out p (turned_mem h)
        · exact HALL.out p h)
      have HPSB : Hid (∀ p ∈ turned ps q ++ ps, p.size ≤ maxLen) := Lib.hid (fun p hp => by
        rcases List.mem_append.1 hp with h | h
        · exact HPS.out p (turned_mem h)
        · exact HPS.out p h)
      have HKW : Hid (∀ x, KW ps x = KW (turned ps q ++ ps) x) := Lib.hid (KW_mem (fun p => ⟨fun h => List.mem_append.2 (.inr h), fun h => by
        rcases List.mem_append.1 h with h | h
        · exact turned_mem h
        · exact h⟩))
      have hbl : (turned ps q ++ ps).length ≤ 1000 := by rw [← HLE.out]; omega
      rw [HLE.out]
      generalize turned ps q ++ ps = qs at *
      clear hb5 HO HC5 HO5 HB
      go_wp2_with fail
      refine ((res_p HWY.out HSC.out.kids aS aA cS cA ps w5 (by omega) HS5.out HA5.out HPS.out).mono ?_)
      rintro e w6 ⟨hb6, ⟨_, ak, ck, ap, cp, rfl, hk6, hp6⟩ | ⟨hna, _⟩⟩
      rotate_left
      · exact absurd HALL.out hna
      have HK6 := Lib.hid (hk6.sl.mono (ok' := fun b => b < w6.heap.size) (fun k hk _ => hk) (by decide))
      have HP6 := Lib.hid (hp6.sl.mono (ok' := fun b => b < w6.heap.size) (fun k hk _ => hk) (by decide))
      have HB6 := Lib.hid (bt HB5.out hb6)
      have HS6 := Lib.hid (slb HS5.out hb6)
      have HQ6 := Lib.hid (slb HSL5.out hb6)
      clear hk6 hp6 hb6
      go_wp2_with fail
      refine ((res_p HWY.out HSC.out.kids aS a5 cS cap5 qs w6 hbl HS6.out HQ6.out HPSB.out).mono ?_)
      rintro e w7 ⟨hb7, ⟨_, ak2, ck2, ap2, cp2, rfl, hk7, hp7⟩ | ⟨hna, _⟩⟩
      rotate_left
      · exact absurd HALLB.out hna
      have hfe : (fun k => KW qs (W k)) = fun k => KW ps (W k) := by funext k; exact (HKW.out _).symm
      rw [hfe] at hk7 hp7 ⊢
      have HK7 := Lib.hid (hk7.sl.mono (ok' := fun b => b < w7.heap.size) (fun k hk _ => hk) (by decide))
      have HP7 := Lib.hid (hp7.sl.mono (ok' := fun b => b < w7.heap.size) (fun k hk _ => hk) (by decide))
      have HB7 := Lib.hid (bt HB6.out hb7)
      have HK67 := Lib.hid (slb HK6.out hb7)
      have HP67 := Lib.hid (slb HP6.out hb7)
      clear hk7 hp7 hb7 hfe
      go_wp2_with fail
      refine ((bools_v ak ak2 l.length ck ck2 _ _ w7 (fun _ _ => rfl) HK67.out HK7.out).mono ?_)
      rintro e w8 ⟨rfl, hb8⟩
      have HP8 := Lib.hid (slb HP67.out hb8)
      have HQ8 := Lib.hid (slb HP7.out hb8)
      have HB8 := Lib.hid (bt HB7.out hb8)
      clear hb8
      go_wp2_with fail
      refine ((same5_v ap ap2 cp cp2 _ w8 HP8.out HQ8.out).mono ?_)
      rintro e w9 ⟨rfl, hb9⟩
      have HB9 := Lib.hid (bt HB8.out hb9)
      clear hb9
      go_wp2_with fail
      go_ret
      exact ⟨rfl, HB9.out⟩
end Go.Proofs.Ytgpffcgkfgiodaa
