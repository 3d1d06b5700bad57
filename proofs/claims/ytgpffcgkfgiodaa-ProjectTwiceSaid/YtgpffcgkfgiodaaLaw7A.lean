/-
  The walks of law 7's small functions.
-/
import Derived.Test.YtgpffcgkfgiodaaWyM
import Derived.Test.YtgpffcgkfgiodaaW8
import Derived.Deep.CutRange
set_option linter.unusedSimpArgs false
namespace Go.Proofs.Ytgpffcgkfgiodaa
open Go.RowKit Go.Shr
theorem Rw.sl' {w : World} {b : Nat} {cur : Array Value} {t : TypeId} (h : Rw w b cur t) (n size : Nat) (hn : cur.size = n * size) (hm : n ≤ maxLen) : Sl (fun b => b < w.heap.size) w size (some ⟨b, 0, none⟩) n n cur.toList :=
  ⟨by simpa using hn, Nat.le_refl _, hm, .inr ⟨b, 0, rfl, h.lt, fun j u hj => by rw [Nat.zero_add, h.cell]; simpa using hj⟩⟩
theorem ret_sl {a : Option Addr} {n m c : Nat} (h : n = m) : Ending.returned (.slice a n c) = .returned (.slice a m c) := by rw [h]
theorem info_s : (Try.prog.info? 9).map (fun i => (i.zero, i.size, i.bytes)) = some (some (.string ByteArray.empty), 1, 16) := by kernel_rfl
theorem strs_one (l : List ByteArray) : ∀ u ∈ strs l, u.oneCell' = true := by
  intro u hu
  simp only [strs, List.mem_map] at hu
  obtain ⟨d, _, rfl⟩ := hu
  rfl
theorem within_7 (a n : Int) (w : World) (hn : 0 < n) (hn2 : n ≤ 1000000) : Calls Try.prog 13 #[.int .i64 a, .int .i64 n] w fun e w' => e = .returned (.int .i64 (a % n)) ∧ w = w' := by
  have h1 := Int.tmod_lt_of_pos a hn
  have h3 : -n < a.tmod n := by
    have := Int.lt_tmod_of_pos a hn
    omega
  have H := Lib.hid (tmod_fix a n hn)
  go_enter Try.func13, Try.ntmps13
  go_wp2
  · go_ret
    exact ⟨ret_i (H.out.1 (by assumption)), rfl⟩
  · go_ret
    exact ⟨ret_i (H.out.2 (by assumption)), rfl⟩
def noneS : ByteArray := ⟨#[110, 111, 110, 101]⟩
theorem none_not {l : List Fl} {W : Nat → List UInt8} (h : Wy l W) : ¬ allA l [noneS] := by
  intro ha
  obtain ⟨i, h0, hi, e⟩ := isA_iff.1 (ha noneS (by simp))
  rw [h.own h0 hi] at e
  have h1 := inter_len _ (h.ne h0 hi)
  have h2 : noneS.data.toList.length = 4 := rfl
  rw [← e] at h2
  omega
set_option maxHeartbeats 400000 in
theorem known7 (w : World) : Calls Try.prog 10 #[] w fun e w' => e = .returned (.bool true) ∧ Below w.heap.size w w' := by
  go_enter Try.func10, Try.ntmps10
  go_wp2_with fail
  refine ((make5 none 0 0 [] w (Sl.nil _ _ _ _) (by simp)).mono ?_)
  rintro e w1 ⟨a1, c1, rfl, ho, hb⟩
  have HO := Lib.hid (ho.sl); have HB := Lib.hid hb
  clear ho hb
  go_wp2_with fail
  refine cgen (fun w2 hw2 => ?_)
  have hb2 : Below w1.heap.size w1 w2 := by rw [hw2]; exact ba (b0 w1) _
  have r2 : Rw w2 w1.heap.size #[.string noneS] 9 := by rw [hw2]; exact Rw.new w1 _ _
  clear hw2
  have hs2 := Rw.sl' r2 1 1 rfl (by decide)
  have HS2 : Hid (Sl (fun b => b < w2.heap.size) w2 1 (some ⟨w1.heap.size, 0, none⟩) 1 1 (strs [noneS])) := Lib.hid hs2
  have HB2 := Lib.hid (bt HB.out hb2)
  have HO2 := Lib.hid (slb (HO.out.mono (ok' := fun b => b < w1.heap.size) (fun k hk _ => hk) (by decide)) hb2)
  clear hb2 r2 hs2
  refine ((res_p (make_wy []) (make_sch []).kids a1 (some ⟨w1.heap.size, 0, none⟩) c1 1 [noneS] w2 (by decide) HO2.out HS2.out (by intro p hp; rw [List.mem_singleton.1 hp]; decide)).mono ?_)
  rintro e w3 ⟨hb3, ⟨ha, _⟩ | ⟨_, rfl⟩⟩
  · exact absurd ha (none_not (make_wy []))
  · have HB3 := Lib.hid (bt HB2.out hb3)
    clear hb3
    go_wp2_with fail
    go_ret
    exact ⟨rfl, HB3.out⟩
/-- Some of a schema's paths, by numbers. -/
def pathsOf (l : List Fl) (zs : List Int) : List ByteArray := (zs.take 4).map fun z => ownS l (1 + (z % ((l.length : Int) - 1)).toNat)
theorem pathsOf_len (l : List Fl) (zs : List Int) : (pathsOf l zs).length = min 4 zs.length := by simp [pathsOf]
set_option maxHeartbeats 1000000 in
theorem paths_v {l : List Fl} {W : Nat → List UInt8} (h : Wy l W) (hkid : ∀ x ∈ l, x.kids ≤ 1000) (h2 : 2 ≤ l.length) (sa na : Option Addr) (sc nc : Nat) (ns : List Int) (w : World)
    (hs : Sl (fun b => b < w.heap.size) w 4 sa l.length sc (fls l)) (hn : Sl (fun b => b < w.heap.size) w 1 na ns.length nc (ints ns)) :
    Calls Try.prog 17 #[.slice sa l.length sc, .slice na ns.length nc] w fun e w' => ∃ a c, e = .returned (.slice a (pathsOf l ns).length c) ∧ Own w.heap.size w' 9 1 a (pathsOf l ns).length c (strs (pathsOf l ns)) ∧ Below w.heap.size w w' := by
  obtain ⟨it, hit, hz0t, hz1t, hz2t⟩ := info_parts info_s
  have hnl := Nat.le_trans hn.le hn.max
  unfold maxLen at hnl
  have hll := h.len
  have HS := Lib.hid hs; have HN := Lib.hid hn; have HK := Lib.hid hkid; have HW := Lib.hid h
  clear hs hn hkid h
  go_enter Try.func17, Try.ntmps17
  go_wp2_with fail
  go_loopw [5, 6] (fun ov iv wr => ∃ (j : Nat) (aO : Option Addr) (cO : Nat), ov = .slice aO j cO ∧ iv = .int .i64 (j : Int) ∧ j ≤ 4 ∧ j ≤ ns.length ∧ Hid (Own w.heap.size wr 9 1 aO j cO (strs ((pathsOf l ns).take j))) ∧ Hid (Below w.heap.size w wr)) (fun _ iv _ => ns.length - (intOf iv).toNat)
  case atStart => exact ⟨0, none, 0, rfl, rfl, by omega, by omega, Lib.hid (Own.nil _ _ _ _), Lib.hid (b0 w)⟩
  case round =>
    obtain ⟨j, aO, cO, rfl, rfl, hj4, hjn, HO, HB⟩ := hrel
    have hszr := HB.out.size
    by_cases hlt : j < 4 ∧ j < ns.length
    · obtain ⟨hl1, hl2⟩ := hlt
      obtain ⟨nb, no, rfl, hnb, hnc⟩ := HN.out.pos (by omega)
      have q0 := cb HB.out (hnc _ _ (ints_get ns j hl2))
      have hjl : j < (pathsOf l ns).length := by rw [pathsOf_len]; omega
      have hge : (pathsOf l ns)[j] = ownS l (1 + (ns[j] % ((l.length : Int) - 1)).toNat) := by simp [pathsOf]
      have HT : Hid ((pathsOf l ns).take (j + 1) = (pathsOf l ns).take j ++ [ownS l (1 + (ns[j] % ((l.length : Int) - 1)).toNat)]) := Lib.hid (by rw [List.take_succ_eq_append_getElem hjl, hge])
      have hm1 := Int.emod_nonneg ns[j] (show ((l.length : Int) - 1) ≠ 0 by omega)
      have hm2 := Int.emod_lt_of_pos ns[j] (show (0 : Int) < (l.length : Int) - 1 by omega)
      generalize ns[j] = z at *
      clear hnc hge hjl
      go_wp2_with fail
      refine ((within_7 z _ wr (by omega) (by omega)).mono ?_)
      rintro e w1 ⟨rfl, rfl⟩
      obtain ⟨q, hq⟩ : ∃ q : Nat, z % ((l.length : Int) - 1) = (q : Int) := ⟨(z % ((l.length : Int) - 1)).toNat, by omega⟩
      rw [hq] at HT hm1 hm2 ⊢
      clear hq
      have HT2 : Hid ((pathsOf l ns).take (j + 1) = (pathsOf l ns).take j ++ [ownS l (1 + q)]) := Lib.hid (by rw [HT.out]; simp)
      clear HT
      go_wp2_with fail
      refine ((rpath_v sa sc l (1 + q) wr (slb HS.out HB.out) hll HK.out HW.out.name_size (by omega) (by omega)).mono ?_)
      rintro e w2 ⟨rfl, hb2⟩
      have HO2 := Lib.hid (HO.out.below hb2)
      have HB2 := Lib.hid (bt HB.out hb2)
      have hsz2 := hb2.size
      clear hb2 q0
      generalize ownS l (1 + q) = o at *
      have tok1 : True := trivial
      go_wp2_with (first | (at_builtin; have _t := tok1; clear tok1; clear _t; refine wpList_append (B := w.heap.size) rfl _ _ _ _ rfl it (.string ByteArray.empty) 16 Try.underlying37 hit hz0t hz1t hz2t rfl rfl (HO2.out.alloc _) _ rfl _ _ (src_built (e' := 9) Try.underlying37 w2 #[.string o] 9 1 1 rfl (by simp [Value.oneCell'])) (by simp only [maxLen]; omega) (by omega) (by first | omega | (simp; omega) | simp) ?_; intro a5 cap5 w5 ho5 hc5 hn5); (have HO5 := Lib.hid ho5); (have HC5 := Lib.hid hc5); clear ho5 hc5 hn5)
      go_roundw
      case rel => exact ⟨j + 1, a5, cap5, rfl, by go_num, by omega, by omega, Lib.hid (by rw [HT2.out]; have := HO5.out; simp only [strs, List.map_append] at this ⊢; exact this), Lib.hid (Chg.bt (ba HB2.out _) HC5.out (fun i hi h => by have := h.2.1; omega))⟩
      case measure => simp [intOf]; omega
    · have hje : j = (pathsOf l ns).length := by rw [pathsOf_len]; omega
      have HE : Hid ((pathsOf l ns).take j = pathsOf l ns) := Lib.hid (by rw [hje, List.take_length])
      have HJ := Lib.hid hje
      clear hje
      by_cases h4 : j < ns.length
      · have h5 : ¬ j < 4 := by omega
        clear hlt
        go_wp2_with fail
        go_ret
        exact ⟨aO, cO, ret_sl HJ.out, HJ.out ▸ HE.out ▸ HO.out, HB.out⟩
      · clear hlt
        go_wp2_with fail
        go_ret
        exact ⟨aO, cO, ret_sl HJ.out, HJ.out ▸ HE.out ▸ HO.out, HB.out⟩
end Go.Proofs.Ytgpffcgkfgiodaa
