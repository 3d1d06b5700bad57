/-
  The walks of law 7's small functions. The walks of bools, of the document's Same.
-/
import Derived.Test.YtgpffcgkfgiodaaWyM
import Derived.Test.YtgpffcgkfgiodaaW8
import Derived.Deep.CutRange
set_option linter.unusedSimpArgs false
namespace Go.Proofs.Ytgpffcgkfgiodaa
open Go.RowKit Go.Shr
theorem Rw.sl' {w : World} {b : Nat} {cur : Array Value} {t : TypeId} (h : Rw w b cur t) (n size : Nat) (hn : cur.size = n * size) (hm : n ≤ maxLen) : Sl (fun b => b < w.heap.size) w size (some ⟨b, 0, none⟩) n n cur.toList :=
  ⟨by simpa using hn, Nat.le_refl _, hm, .inr ⟨b, 0, rfl, h.lt, fun j u hj => by rw [Nat.zero_add, h.cell]; simpa using hj⟩⟩
theorem ret_sl {a : Option Addr} {n m c : Nat} (h : n = m) : Ending.returned (.slice a n c) = .returned (.slice a m c) := by rw [h]
theorem info_s : (Try.prog.info? 9).map (fun i => (i.zero, i.size, i.bytes)) = some (some (.string ByteArray.empty), 1, 16) := by kernel_rfl
theorem strs_one (l : List ByteArray) : ∀ u ∈ strs l, u.oneCell' = true := by
  intro u hu
  simp only [strs, List.mem_map] at hu
  obtain ⟨d, _, rfl⟩ := hu
  rfl
theorem within_7 (a n : Int) (w : World) (hn : 0 < n) (hn2 : n ≤ 1000000) : Calls Try.prog 13 #[.int .i64 a, .int .i64 n] w fun e w' => e = .returned (.int .i64 (a % n)) ∧ w = w' := by
  have h1 := Int.tmod_lt_of_pos a hn
  have h3 : -n < a.tmod n := by
    have := Int.lt_tmod_of_pos a hn
    omega
  have H := Lib.hid (tmod_fix a n hn)
  go_enter Try.func13, Try.ntmps13
  go_wp2
  · go_ret
    exact ⟨ret_i (H.out.1 (by assumption)), rfl⟩
  · go_ret
    exact ⟨ret_i (H.out.2 (by assumption)), rfl⟩
def noneS : ByteArray := ⟨#[110, 111, 110, 101]⟩
theorem none_not {l : List Fl} {W : Nat → List UInt8} (h : Wy l W) : ¬ allA l [noneS] := by
  intro ha
  obtain ⟨i, h0, hi, e⟩ := isA_iff.1 (ha noneS (by simp))
  rw [h.own h0 hi] at e
  have h1 := inter_len _ (h.ne h0 hi)
  have h2 : noneS.data.toList.length = 4 := rfl
  rw [← e] at h2
  omega
set_option maxHeartbeats 400000 in
theorem known7 (w : World) : Calls Try.prog 10 #[] w fun e w' => e = .returned (.bool true) ∧ Below w.heap.size w w' := by
  go_enter Try.func10, Try.ntmps10
  go_wp2_with fail
  refine ((make5 none 0 0 [] w (Sl.nil _ _ _ _) (by simp)).mono ?_)
  rintro e w1 ⟨a1, c1, rfl, ho, hb⟩
  have HO := Lib.hid (ho.sl); have HB := Lib.hid hb
  clear ho hb
  go_wp2_with fail
  refine cgen (fun w2 hw2 => ?_)
  have hb2 : Below w1.heap.size w1 w2 := by rw [hw2]; exact ba (b0 w1) _
  have r2 : Rw w2 w1.heap.size #[.string noneS] 9 := by rw [hw2]; exact Rw.new w1 _ _
  clear hw2
  have hs2 := Rw.sl' r2 1 1 rfl (by decide)
  have HS2 : Hid (Sl (fun b => b < w2.heap.size) w2 1 (some ⟨w1.heap.size, 0, none⟩) 1 1 (strs [noneS])) := Lib.hid hs2
  have HB2 := Lib.hid (bt HB.out hb2)
  have HO2 := Lib.hid (slb (HO.out.mono (ok' := fun b => b < w1.heap.size) (fun k hk _ => hk) (by decide)) hb2)
  clear hb2 r2 hs2
  refine ((res_p (make_wy []) (make_sch []).kids a1 (some ⟨w1.heap.size, 0, none⟩) c1 1 [noneS] w2 (by decide) HO2.out HS2.out (by intro p hp; rw [List.mem_singleton.1 hp]; decide)).mono ?_)
  rintro e w3 ⟨hb3, ⟨ha, _⟩ | ⟨_, rfl⟩⟩
  · exact absurd ha (none_not (make_wy []))
  · have HB3 := Lib.hid (bt HB2.out hb3)
    clear hb3
    go_wp2_with fail
    go_ret
    exact ⟨rfl, HB3.out⟩
/-- Some of a schema's paths, by numbers. -/
def pathsOf (l : List Fl) (zs : List Int) : List ByteArray := (zs.take 4).map fun z => ownS l (1 + (z % ((l.length : Int) - 1)).toNat)
theorem pathsOf_len (l : List Fl) (zs : List Int) : (pathsOf l zs).length = min 4 zs.length := by simp [pathsOf]
set_option maxHeartbeats 1000000 in
theorem paths_v {l : List Fl} {W : Nat → List UInt8} (h : Wy l W) (hkid : ∀ x ∈ l, x.kids ≤ 1000) (h2 : 2 ≤ l.length) (sa na : Option Addr) (sc nc : Nat) (ns : List Int) (w : World)
    (hs : Sl (fun b => b < w.heap.size) w 4 sa l.length sc (fls l)) (hn : Sl (fun b => b < w.heap.size) w 1 na ns.length nc (ints ns)) :
    Calls Try.prog 17 #[.slice sa l.length sc, .slice na ns.length nc] w fun e w' => ∃ a c, e = .returned (.slice a (pathsOf l ns).length c) ∧ Own w.heap.size w' 9 1 a (pathsOf l ns).length c (strs (pathsOf l ns)) ∧ Below w.heap.size w w' := by
  obtain ⟨it, hit, hz0t, hz1t, hz2t⟩ := info_parts info_s
  have hnl := Nat.le_trans hn.le hn.max
  unfold maxLen at hnl
  have hll := h.len
  have HS := Lib.hid hs; have HN := Lib.hid hn; have HK := Lib.hid hkid; have HW := Lib.hid h
  clear hs hn hkid h
  go_enter Try.func17, Try.ntmps17
  go_wp2_with fail
  go_loopw [5, 6] (fun ov iv wr => ∃ (j : Nat) (aO : Option Addr) (cO : Nat), ov = .slice aO j cO ∧ iv = .int .i64 (j : Int) ∧ j ≤ 4 ∧ j ≤ ns.length ∧ Hid (Own w.heap.size wr 9 1 aO j cO (strs ((pathsOf l ns).take j))) ∧ Hid (Below w.heap.size w wr)) (fun _ iv _ => ns.length - (intOf iv).toNat)
  case atStart => exact ⟨0, none, 0, rfl, rfl, by omega, by omega, Lib.hid (Own.nil _ _ _ _), Lib.hid (b0 w)⟩
  case round =>
    obtain ⟨j, aO, cO, rfl, rfl, hj4, hjn, HO, HB⟩ := hrel
    have hszr := HB.out.size
    by_cases hlt : j < 4 ∧ j < ns.length
    · obtain ⟨hl1, hl2⟩ := hlt
      obtain ⟨nb, no, rfl, hnb, hnc⟩ := HN.out.pos (by omega)
      have q0 := cb HB.out (hnc _ _ (ints_get ns j hl2))
      have hjl : j < (pathsOf l ns).length := by rw [pathsOf_len]; omega
      have hge : (pathsOf l ns)[j] = ownS l (1 + (ns[j] % ((l.length : Int) - 1)).toNat) := by simp [pathsOf]
      have HT : Hid ((pathsOf l ns).take (j + 1) = (pathsOf l ns).take j ++ [ownS l (1 + (ns[j] % ((l.length : Int) - 1)).toNat)]) := Lib.hid (by rw [List.take_succ_eq_append_getElem hjl, hge])
      have hm1 := Int.emod_nonneg ns[j] (show ((l.length : Int) - 1) ≠ 0 by omega)
      have hm2 := Int.emod_lt_of_pos ns[j] (show (0 : Int) < (l.length : Int) - 1 by omega)
      generalize ns[j] = z at *
      clear hnc hge hjl
      go_wp2_with fail
      refine ((within_7 z _ wr (by omega) (by omega)).mono ?_)
      rintro e w1 ⟨rfl, rfl⟩
      obtain ⟨q, hq⟩ : ∃ q : Nat, z % ((l.length : Int) - 1) = (q : Int) := ⟨(z % ((l.length : Int) - 1)).toNat, by omega⟩
      rw [hq] at HT hm1 hm2 ⊢
      clear hq
      have HT2 : Hid ((pathsOf l ns).take (j + 1) = (pathsOf l ns).take j ++ [ownS l (1 + q)]) := Lib.hid (by rw [HT.out]; simp)
      clear HT
      go_wp2_with fail
      refine ((rpath_v sa sc l (1 + q) wr (slb HS.out HB.out) hll HK.out HW.out.name_size (by omega) (by omega)).mono ?_)
      rintro e w2 ⟨rfl, hb2⟩
      have HO2 := Lib.hid (HO.out.below hb2)
      have HB2 := Lib.hid (bt HB.out hb2)
      have hsz2 := hb2.size
      clear hb2 q0
      generalize ownS l (1 + q) = o at *
      have tok1 : True := trivial
      go_wp2_with (first | (at_builtin; have _t := tok1; clear tok1; clear _t; refine wpList_append (B := w.heap.size) rfl _ _ _ _ rfl it (.string ByteArray.empty) 16 Try.underlying37 hit hz0t hz1t hz2t rfl rfl (HO2.out.alloc _) _ rfl _ _ (src_built (e' := 9) Try.underlying37 w2 #[.string o] 9 1 1 rfl (by simp [Value.oneCell'])) (by simp only [maxLen]; omega) (by omega) (by first | omega | (simp; omega) | simp) ?_; intro a5 cap5 w5 ho5 hc5 hn5); (have HO5 := Lib.hid ho5); (have HC5 := Lib.hid hc5); clear ho5 hc5 hn5)
      go_roundw
      case rel => exact ⟨j + 1, a5, cap5, rfl, by go_num, by omega, by omega, Lib.hid (by rw [HT2.out]; have := HO5.out; simp only [strs, List.map_append] at this ⊢; exact this), Lib.hid (Chg.bt (ba HB2.out _) HC5.out (fun i hi h => by have := h.2.1; omega))⟩
      case measure => simp [intOf]; omega
    · have hje : j = (pathsOf l ns).length := by rw [pathsOf_len]; omega
      have HE : Hid ((pathsOf l ns).take j = pathsOf l ns) := Lib.hid (by rw [hje, List.take_length])
      have HJ := Lib.hid hje
      clear hje
      by_cases h4 : j < ns.length
      · have h5 : ¬ j < 4 := by omega
        clear hlt
        go_wp2_with fail
        go_ret
        exact ⟨aO, cO, ret_sl HJ.out, HJ.out ▸ HE.out ▸ HO.out, HB.out⟩
      · clear hlt
        go_wp2_with fail
        go_ret
        exact ⟨aO, cO, ret_sl HJ.out, HJ.out ▸ HE.out ▸ HO.out, HB.out⟩
end Go.Proofs.Ytgpffcgkfgiodaa
namespace Go.Proofs.Ytgpffcgkfgiodaa
open Go.RowKit Go.Shr
set_option maxHeartbeats 400000 in
theorem bools_v (a b : Option Addr) (n ca cb' : Nat) (f g : Nat → Bool) (w : World) (hf : ∀ k, k < n → f k = g k) (ha : Sl (fun b => b < w.heap.size) w 1 a n ca (bls f n)) (hb : Sl (fun b => b < w.heap.size) w 1 b n cb' (bls g n)) :
    Calls Try.prog 18 #[.slice a n ca, .slice b n cb'] w fun e w' => e = .returned (.bool true) ∧ Below w.heap.size w w' := by
  have hnl := Nat.le_trans ha.le ha.max
  unfold maxLen at hnl
  have HA := Lib.hid ha; have HB := Lib.hid hb; have HF := Lib.hid hf
  clear ha hb hf
  go_enter Try.func18, Try.ntmps18
  go_wp2_with fail
  go_loopw [5] (fun iv wr => ∃ i : Nat, iv = .int .i64 (i : Int) ∧ i ≤ n ∧ Hid (Below w.heap.size w wr)) (fun iv _ => n - (intOf iv).toNat)
  case atStart => exact ⟨0, rfl, Nat.zero_le _, Lib.hid (b0 w)⟩
  case round =>
    obtain ⟨i, rfl, hi, HBE⟩ := hrel
    by_cases hlt : i < n
    · obtain ⟨ab, ao, rfl, hab, hac⟩ := HA.out.pos (by omega)
      obtain ⟨bb, bo, rfl, hbb, hbc⟩ := HB.out.pos (by omega)
      have p0 := cb HBE.out (hac _ _ (bls_get f hlt))
      have q0 := cb HBE.out (hbc _ _ (bls_get g hlt))
      rw [← HF.out i hlt] at q0
      generalize f i = v at *
      have HPQ := Lib.hid (And.intro p0 q0)
      have hbd := HBE.out.drew
      clear hac hbc
      go_wp2_with fail
      refine Go.Shr.wp_region_F (fun w' => w'.cell? ⟨ab, ao + i, none⟩ = some (.bool v) ∧ w'.cell? ⟨bb, bo + i, none⟩ = some (.bool v)) [] (by kernel_rfl) ?g3rgS (fun hHeld => ?g3rgR)
      case g3rgS => (try dsimp only); (exact HPQ.out)
      try dsimp only at hHeld
      refine Go.Shr.wpAnyF_take 0 (oi := { dst := some 17, op := Go.Op.move (Go.Operand.tmp 0), type := 32, pos := "law.go:44", after := #[], guard := none }) (v := ?g3rv1) rfl (by kernel_rfl) (fun _ _ _ h => h) (by assumption) (by rfl) ?g3ry1 ?g3rr1
      case g3ry1 => intro w hSw; obtain ⟨s1, s2⟩ := hSw; go_simp; try with_reducible rfl
      try simp only [Act.put, List.setIfInBounds_toArray, List.set_cons_zero, List.set_cons_succ]
      refine Go.Shr.wpAnyF_take 1 (oi := { dst := some 18, op := Go.Op.move (Go.Operand.tmp 5), type := 3, pos := "law.go:44", after := #[], guard := none }) (v := ?g3rv2) rfl (by kernel_rfl) (fun _ _ _ h => h) (by assumption) (by rfl) ?g3ry2 ?g3rr2
      case g3ry2 => intro w hSw; obtain ⟨s1, s2⟩ := hSw; go_simp; try with_reducible rfl
      try simp only [Act.put, List.setIfInBounds_toArray, List.set_cons_zero, List.set_cons_succ]
      refine Go.Shr.wpAnyF_take 2 (oi := { dst := some 19, op := Go.Op.indexAddr 32 (Go.Operand.tmp 17) (Go.Operand.tmp 18), type := 0, pos := "law.go:44", after := #[{ on := 0, ground := Go.Ground.data }, { on := 1, ground := Go.Ground.data }], guard := none }) (v := ?g3rv3) rfl (by kernel_rfl) (fun _ _ _ h => h) (by assumption) (by rfl) ?g3ry3 ?g3rr3
      case g3ry3 => intro w hSw; obtain ⟨s1, s2⟩ := hSw; go_simp; try with_reducible rfl
      try simp only [Act.put, List.setIfInBounds_toArray, List.set_cons_zero, List.set_cons_succ]
      refine Go.Shr.wpAnyF_take 3 (oi := { dst := some 20, op := Go.Op.load 4 (Go.Operand.tmp 19), type := 4, pos := "law.go:44", after := #[{ on := 2, ground := Go.Ground.data }], guard := none }) (v := ?g3rv4) rfl (by kernel_rfl) (fun _ _ _ h => h) (by assumption) (by rfl) ?g3ry4 ?g3rr4
      case g3ry4 => intro w hSw; obtain ⟨s1, s2⟩ := hSw; go_simp; try with_reducible rfl
      try simp only [Act.put, List.setIfInBounds_toArray, List.set_cons_zero, List.set_cons_succ]
      refine Go.Shr.wpAnyF_take 4 (oi := { dst := some 21, op := Go.Op.move (Go.Operand.tmp 1), type := 32, pos := "law.go:44", after := #[], guard := none }) (v := ?g3rv5) rfl (by kernel_rfl) (fun _ _ _ h => h) (by assumption) (by rfl) ?g3ry5 ?g3rr5
      case g3ry5 => intro w hSw; obtain ⟨s1, s2⟩ := hSw; go_simp; try with_reducible rfl
      try simp only [Act.put, List.setIfInBounds_toArray, List.set_cons_zero, List.set_cons_succ]
      refine Go.Shr.wpAnyF_take 5 (oi := { dst := some 22, op := Go.Op.move (Go.Operand.tmp 5), type := 3, pos := "law.go:44", after := #[], guard := none }) (v := ?g3rv6) rfl (by kernel_rfl) (fun _ _ _ h => h) (by assumption) (by rfl) ?g3ry6 ?g3rr6
      case g3ry6 => intro w hSw; obtain ⟨s1, s2⟩ := hSw; go_simp; try with_reducible rfl
      try simp only [Act.put, List.setIfInBounds_toArray, List.set_cons_zero, List.set_cons_succ]
      refine Go.Shr.wpAnyF_take 6 (oi := { dst := some 23, op := Go.Op.indexAddr 32 (Go.Operand.tmp 21) (Go.Operand.tmp 22), type := 0, pos := "law.go:44", after := #[{ on := 4, ground := Go.Ground.data }, { on := 5, ground := Go.Ground.data }], guard := none }) (v := ?g3rv7) rfl (by kernel_rfl) (fun _ _ _ h => h) (by assumption) (by rfl) ?g3ry7 ?g3rr7
      case g3ry7 => intro w hSw; obtain ⟨s1, s2⟩ := hSw; go_simp; try with_reducible rfl
      try simp only [Act.put, List.setIfInBounds_toArray, List.set_cons_zero, List.set_cons_succ]
      refine Go.Shr.wpAnyF_take 7 (oi := { dst := some 24, op := Go.Op.load 4 (Go.Operand.tmp 23), type := 4, pos := "law.go:44", after := #[{ on := 6, ground := Go.Ground.data }], guard := none }) (v := ?g3rv8) rfl (by kernel_rfl) (fun _ _ _ h => h) (by assumption) (by rfl) ?g3ry8 ?g3rr8
      case g3ry8 => intro w hSw; obtain ⟨s1, s2⟩ := hSw; go_simp; try with_reducible rfl
      try simp only [Act.put, List.setIfInBounds_toArray, List.set_cons_zero, List.set_cons_succ]
      refine Go.Shr.wpAnyF_take 8 (oi := { dst := some 25, op := Go.Op.binOp Go.BinOp.neq 4 (Go.Operand.tmp 20) (Go.Operand.tmp 24) 4, type := 4, pos := "law.go:44", after := #[{ on := 3, ground := Go.Ground.data }, { on := 7, ground := Go.Ground.data }], guard := none }) (v := ?g3rv9) rfl (by kernel_rfl) (fun _ _ _ h => h) (by assumption) (by rfl) ?g3ry9 ?g3rr9
      case g3ry9 => intro w hSw; obtain ⟨s1, s2⟩ := hSw; go_simp; (try simp only [bne_self_eq_false, beq_self_eq_true, Bool.not_true]); (try with_reducible rfl)
      try simp only [Act.put, List.setIfInBounds_toArray, List.set_cons_zero, List.set_cons_succ]
      refine Go.Shr.wpAnyF_done (by kernel_rfl) ?_
      go_wp2_with fail
      go_roundw
      case rel => exact ⟨i + 1, by go_num, by omega, Lib.hid hbd⟩
      case measure => simp [intOf]; omega
    · obtain rfl : i = n := by omega
      go_wp2_with fail
      go_ret
      exact ⟨rfl, HBE.out⟩
set_option maxHeartbeats 400000 in
theorem same5_v (a b : Option Addr) (ca cb' : Nat) (l : List Fl) (w : World) (ha : Sl (fun b => b < w.heap.size) w 4 a l.length ca (fls l)) (hb : Sl (fun b => b < w.heap.size) w 4 b l.length cb' (fls l)) :
    Calls Try.prog 19 #[.slice a l.length ca, .slice b l.length cb'] w fun e w' => e = .returned (.bool true) ∧ Below w.heap.size w w' := by
  have hnl := Nat.le_trans ha.le ha.max
  unfold maxLen at hnl
  have HA := Lib.hid ha; have HB := Lib.hid hb
  clear ha hb
  go_enter Try.func19, Try.ntmps19
  go_wp2_with fail
  go_loopw [5] (fun iv wr => ∃ i : Nat, iv = .int .i64 (i : Int) ∧ i ≤ l.length ∧ Hid (Below w.heap.size w wr)) (fun iv _ => l.length - (intOf iv).toNat)
  case atStart => exact ⟨0, rfl, Nat.zero_le _, Lib.hid (b0 w)⟩
  case round =>
    obtain ⟨i, rfl, hi, HBE⟩ := hrel
    by_cases hlt : i < l.length
    · obtain ⟨ab, ao, rfl, hab, hac⟩ := HA.out.pos (by omega)
      obtain ⟨bb, bo, rfl, hbb, hbc⟩ := HB.out.pos (by omega)
      obtain ⟨f0, f1, f2, f3⟩ := fls_get l i hlt
      have a0 := cb HBE.out (hac _ _ f0); have a1 := cb HBE.out (hac _ _ f1); have a2 := cb HBE.out (hac _ _ f2); have a3 := cb HBE.out (hac _ _ f3)
      have b0' := cb HBE.out (hbc _ _ f0); have b1 := cb HBE.out (hbc _ _ f1); have b2 := cb HBE.out (hbc _ _ f2); have b3 := cb HBE.out (hbc _ _ f3)
      rw [← Nat.add_assoc] at a1 a2 a3 b1 b2 b3
      generalize l[i] = x at *
      obtain ⟨nm, rp, kd, kk⟩ := x
      dsimp only at a0 a1 a2 a3 b0' b1 b2 b3
      have HA1 := Lib.hid (And.intro a0 (And.intro a1 (And.intro a2 a3)))
      have HA2 := Lib.hid (And.intro b0' (And.intro b1 (And.intro b2 b3)))
      have hbd := HBE.out.drew
      clear hac hbc f0 f1 f2 f3
      go_wp2_with fail
      refine Go.Shr.wp_region_F (fun w' => (w'.cell? ⟨ab, ao + i * 4, none⟩ = some (.string nm) ∧ w'.cell? ⟨ab, ao + i * 4 + 1, none⟩ = some (.int .i64 rp) ∧ w'.cell? ⟨ab, ao + i * 4 + 2, none⟩ = some (.int .i64 kd) ∧ w'.cell? ⟨ab, ao + i * 4 + 3, none⟩ = some (.int .i64 kk)) ∧ (w'.cell? ⟨bb, bo + i * 4, none⟩ = some (.string nm) ∧ w'.cell? ⟨bb, bo + i * 4 + 1, none⟩ = some (.int .i64 rp) ∧ w'.cell? ⟨bb, bo + i * 4 + 2, none⟩ = some (.int .i64 kd) ∧ w'.cell? ⟨bb, bo + i * 4 + 3, none⟩ = some (.int .i64 kk))) [] (by kernel_rfl) ?g4rgS (fun hHeld => ?g4rgR)
      case g4rgS => (try dsimp only); (exact ⟨HA1.out, HA2.out⟩)
      try dsimp only at hHeld
      refine Go.Shr.wpAnyF_take 0 (oi := { dst := some 17, op := Go.Op.move (Go.Operand.tmp 0), type := 25, pos := "ref.go:204", after := #[], guard := none }) (v := ?g4rv1) rfl (by kernel_rfl) (fun _ _ _ h => h) (by assumption) (by rfl) ?g4ry1 ?g4rr1
      case g4ry1 => intro w hSw; obtain ⟨⟨s1, s2, s3, s4⟩, s5, s6, s7, s8⟩ := hSw; go_simp; try with_reducible rfl
      try simp only [Act.put, List.setIfInBounds_toArray, List.set_cons_zero, List.set_cons_succ]
      refine Go.Shr.wpAnyF_take 1 (oi := { dst := some 18, op := Go.Op.move (Go.Operand.tmp 5), type := 3, pos := "ref.go:204", after := #[], guard := none }) (v := ?g4rv2) rfl (by kernel_rfl) (fun _ _ _ h => h) (by assumption) (by rfl) ?g4ry2 ?g4rr2
      case g4ry2 => intro w hSw; obtain ⟨⟨s1, s2, s3, s4⟩, s5, s6, s7, s8⟩ := hSw; go_simp; try with_reducible rfl
      try simp only [Act.put, List.setIfInBounds_toArray, List.set_cons_zero, List.set_cons_succ]
      refine Go.Shr.wpAnyF_take 2 (oi := { dst := some 19, op := Go.Op.indexAddr 25 (Go.Operand.tmp 17) (Go.Operand.tmp 18), type := 0, pos := "ref.go:204", after := #[{ on := 0, ground := Go.Ground.data }, { on := 1, ground := Go.Ground.data }], guard := none }) (v := ?g4rv3) rfl (by kernel_rfl) (fun _ _ _ h => h) (by assumption) (by rfl) ?g4ry3 ?g4rr3
      case g4ry3 => intro w hSw; obtain ⟨⟨s1, s2, s3, s4⟩, s5, s6, s7, s8⟩ := hSw; go_simp; try with_reducible rfl
      try simp only [Act.put, List.setIfInBounds_toArray, List.set_cons_zero, List.set_cons_succ]
      refine Go.Shr.wpAnyF_take 3 (oi := { dst := some 20, op := Go.Op.load 40 (Go.Operand.tmp 19), type := 40, pos := "ref.go:204", after := #[{ on := 2, ground := Go.Ground.data }], guard := none }) (v := ?g4rv4) rfl (by kernel_rfl) (fun _ _ _ h => h) (by assumption) (by rfl) ?g4ry4 ?g4rr4
      case g4ry4 => intro w hSw; obtain ⟨⟨s1, s2, s3, s4⟩, s5, s6, s7, s8⟩ := hSw; go_simp; try with_reducible rfl
      try simp only [Act.put, List.setIfInBounds_toArray, List.set_cons_zero, List.set_cons_succ]
      refine Go.Shr.wpAnyF_take 4 (oi := { dst := some 21, op := Go.Op.move (Go.Operand.tmp 1), type := 25, pos := "ref.go:204", after := #[], guard := none }) (v := ?g4rv5) rfl (by kernel_rfl) (fun _ _ _ h => h) (by assumption) (by rfl) ?g4ry5 ?g4rr5
      case g4ry5 => intro w hSw; obtain ⟨⟨s1, s2, s3, s4⟩, s5, s6, s7, s8⟩ := hSw; go_simp; try with_reducible rfl
      try simp only [Act.put, List.setIfInBounds_toArray, List.set_cons_zero, List.set_cons_succ]
      refine Go.Shr.wpAnyF_take 5 (oi := { dst := some 22, op := Go.Op.move (Go.Operand.tmp 5), type := 3, pos := "ref.go:204", after := #[], guard := none }) (v := ?g4rv6) rfl (by kernel_rfl) (fun _ _ _ h => h) (by assumption) (by rfl) ?g4ry6 ?g4rr6
      case g4ry6 => intro w hSw; obtain ⟨⟨s1, s2, s3, s4⟩, s5, s6, s7, s8⟩ := hSw; go_simp; try with_reducible rfl
      try simp only [Act.put, List.setIfInBounds_toArray, List.set_cons_zero, List.set_cons_succ]
      refine Go.Shr.wpAnyF_take 6 (oi := { dst := some 23, op := Go.Op.indexAddr 25 (Go.Operand.tmp 21) (Go.Operand.tmp 22), type := 0, pos := "ref.go:204", after := #[{ on := 4, ground := Go.Ground.data }, { on := 5, ground := Go.Ground.data }], guard := none }) (v := ?g4rv7) rfl (by kernel_rfl) (fun _ _ _ h => h) (by assumption) (by rfl) ?g4ry7 ?g4rr7
      case g4ry7 => intro w hSw; obtain ⟨⟨s1, s2, s3, s4⟩, s5, s6, s7, s8⟩ := hSw; go_simp; try with_reducible rfl
      try simp only [Act.put, List.setIfInBounds_toArray, List.set_cons_zero, List.set_cons_succ]
      refine Go.Shr.wpAnyF_take 7 (oi := { dst := some 24, op := Go.Op.load 40 (Go.Operand.tmp 23), type := 40, pos := "ref.go:204", after := #[{ on := 6, ground := Go.Ground.data }], guard := none }) (v := ?g4rv8) rfl (by kernel_rfl) (fun _ _ _ h => h) (by assumption) (by rfl) ?g4ry8 ?g4rr8
      case g4ry8 => intro w hSw; obtain ⟨⟨s1, s2, s3, s4⟩, s5, s6, s7, s8⟩ := hSw; go_simp; try with_reducible rfl
      try simp only [Act.put, List.setIfInBounds_toArray, List.set_cons_zero, List.set_cons_succ]
      refine Go.Shr.wpAnyF_take 8 (oi := { dst := some 25, op := Go.Op.binOp Go.BinOp.neq 40 (Go.Operand.tmp 20) (Go.Operand.tmp 24) 40, type := 4, pos := "ref.go:204", after := #[{ on := 3, ground := Go.Ground.data }, { on := 7, ground := Go.Ground.data }], guard := none }) (v := ?g4rv9) rfl (by kernel_rfl) (fun _ _ _ h => h) (by assumption) (by rfl) ?g4ry9 ?g4rr9
      case g4ry9 => intro w hSw; obtain ⟨⟨s1, s2, s3, s4⟩, s5, s6, s7, s8⟩ := hSw; go_simp; try with_reducible rfl
      try simp only [Act.put, List.setIfInBounds_toArray, List.set_cons_zero, List.set_cons_succ]
      refine Go.Shr.wpAnyF_done (by kernel_rfl) ?_
      go_wp2_with fail
      go_roundw
      case rel => exact ⟨i + 1, by go_num, by omega, Lib.hid hbd⟩
      case measure => simp [intOf]; omega
    · obtain rfl : i = l.length := by omega
      go_wp2_with fail
      go_ret
      exact ⟨rfl, HBE.out⟩
end Go.Proofs.Ytgpffcgkfgiodaa
