/-
  The walk of WireRows.
-/
import Derived.Test.YtofhlopedflkiaaTrees9
import Derived.Test.YtofhlopedflkiaaDecP
import Derived.Test.YtofhlopedflkiaaMany9
set_option linter.unusedSimpArgs false
namespace Go.Proofs.Ytofhlopedflkiaa
open Go.RowKit Go.Shr
theorem flat_many {f : Tr → List UInt8} {C : Nat} : ∀ (x : List Tr), (∀ t ∈ x, (f t).length ≤ C) → (x.flatMap f).length ≤ x.length * C
  | [], _ => by simp
  | t :: r, h => by
    have h1 := h t List.mem_cons_self
    have h2 := flat_many r (fun y hy => h y (List.mem_cons_of_mem _ hy))
    simp only [List.flatMap_cons, List.length_append, List.length_cons, Nat.add_mul, Nat.one_mul]; omega
theorem many_ok {zz : List (List Int)} (hwf : ∀ z ∈ zz, ∀ v ∈ z, (Lit.int .i64 v).wf = true) (sh : Sh) : ∀ t ∈ manyT sh zz, okT sh t := by
  intro t ht
  obtain ⟨z, hz, rfl⟩ := List.mem_map.1 ht
  exact ok_make (hwf z (List.mem_of_mem_take hz)) sh
theorem many_le {ns : List Int} {zz : List (List Int)} (hwf : ∀ z ∈ zz, ∀ v ∈ z, (Lit.int .i64 v).wf = true) : ∀ t ∈ manyT (makeSh ns) zz, (encT (makeSh ns) t).length ≤ 420000000000 := by
  intro t ht
  obtain ⟨z, hz, rfl⟩ := List.mem_map.1 ht
  exact encT_make (hwf z (List.mem_of_mem_take hz))
theorem many_enc {ns : List Int} {zz : List (List Int)} (hwf : ∀ z ∈ zz, ∀ v ∈ z, (Lit.int .i64 v).wf = true) : (encR (makeSh ns) (manyT (makeSh ns) zz)).length ≤ 10000000000000 := by
  have h1 := flat_many _ (many_le (ns := ns) hwf)
  have h2 := manyT_len (makeSh ns) zz
  have h3 := vput_len 9 (manyT (makeSh ns) zz).length (by omega)
  have h4 : (manyT (makeSh ns) zz).length * 420000000000 ≤ 16 * 420000000000 := Nat.mul_le_mul_right _ h2
  rw [encR, List.length_append]; omega
theorem one_rw9 {w : World} {t : Tr} {a : Option Addr} {cap : Nat} (h : TrAt w t [.int .i64 t.n, .string t.s, .slice a t.kids.length cap]) : RowAt w [t] [.int .i64 t.n, .string t.s, .slice a t.kids.length cap] := by
  simp only [RowAt]
  exact ⟨_, _, _, [], rfl, h, rfl⟩
theorem row_one {ok : Nat → Prop} {w : World} : ∀ {l : List Tr} {ys : List Value} (_ : RowG ok w l ys) (k : Nat) (hk : k < l.length),
    ∃ c0 c1 c2, (ys.drop (k * 3)).take 3 = [c0, c1, c2] ∧ TrG ok w l[k] [c0, c1, c2]
  | t :: r, ys, h, 0, _ => by
    simp only [RowG] at h
    obtain ⟨c0, c1, c2, yr, rfl, h2, _⟩ := h
    exact ⟨c0, c1, c2, rfl, h2⟩
  | t :: r, ys, h, k + 1, hk => by
    simp only [RowG] at h
    obtain ⟨c0, c1, c2, yr, rfl, _, h3⟩ := h
    rw [show (k + 1) * 3 = k * 3 + 1 + 1 + 1 by omega]
    simpa using row_one h3 k (by simpa using hk)
set_option maxHeartbeats 2000000 in
set_option maxRecDepth 100000 in
theorem law_wrows (a0 : Option Addr) (n0 c0 : Nat) (z0 : List Int) (a1 : Option Addr) (n1 c1 : Nat) (zz : List (List Int)) (xs1 : List Value) (w : World) (h0 : Sl (fun b => b < w.heap.size) w 1 a0 n0 c0 (ints z0)) (w0 : ∀ z ∈ z0, (Lit.int .i64 z).wf = true) (h1 : Sl (fun b => b < w.heap.size) w 1 a1 n1 c1 xs1) (h1r : IRows w zz xs1) (w1 : ∀ z ∈ zz, ∀ v ∈ z, (Lit.int .i64 v).wf = true) :
    Calls Try.prog 3 #[.slice a0 n0 c0, .slice a1 n1 c1] w fun e w' => e = .returned (.bool true) ∧ Below w.heap.size w w' := by
  obtain ⟨i0, hi0, hz0, hz1, hz2⟩ := info_parts info_u8
  obtain ⟨it, hit, hz0t, hz1t, hz2t⟩ := info_parts info_tr
  have H0 := Lib.hid h0; have H1 := Lib.hid h1; have HR := Lib.hid h1r; have W0 := Lib.hid w0; have W1 := Lib.hid w1
  clear h0 h1 h1r w0 w1
  go_enter Try.func3, Try.ntmps3
  go_wp2_with fail
  refine (known9 _).mono ?_
  rintro e w1 ⟨rfl, hb1⟩
  have HB1 := Lib.hid hb1; clear hb1
  go_wp2_with fail
  refine (make5 a0 n0 c0 z0 w1 (slb H0.out HB1.out) W0.out).mono ?_
  rintro e w2 ⟨a, cap, rfl, ho, hb2⟩
  have HSC := Lib.hid (Sl.mono (ok' := fun b => b < w2.heap.size) ho.sl (fun k hk _ => hk) (by decide))
  have HB2 := Lib.hid (bt HB1.out hb2)
  clear ho hb2
  go_wp2_with fail
  refine (many_v (makeL z0) (makeSh z0) (make_sch z0) a cap a1 n1 c1 zz xs1 w2 HSC.out (slb H1.out HB2.out) (HR.out.below HB2.out) W1.out).mono ?_
  rintro e w3 ⟨al, cl, ys, rfl, hsl, hrow, hb3⟩
  have HB3 := Lib.hid (bt HB2.out hb3); have HSC3 := Lib.hid (slb HSC.out hb3)
  have HSL := Lib.hid (hsl.mono (ok' := fun b => b < w3.heap.size) (fun k hk _ => hk) (by decide))
  have HROW := Lib.hid hrow.at
  have HOKS := Lib.hid (many_ok W1.out (makeSh z0)); have HLE := Lib.hid (many_le (ns := z0) W1.out); have HENC := Lib.hid (many_enc (ns := z0) W1.out)
  have hx16 := manyT_len (makeSh z0) zz
  have HSCH := Lib.hid (make_sch z0)
  generalize manyT (makeSh z0) zz = x at *
  generalize makeL z0 = L at *
  generalize makeSh z0 = sh at *
  clear hsl hrow hb3 HB2 HSC HB1 H0 H1 HR W0 W1
  have HFL := Lib.hid (fun j => Nat.le_trans (flat_le (encT sh) x j) (flat_many x HLE.out))
  have hx64 : x.length < 128 := by omega
  go_wp2_with fail
  have e256 : (x.length : Int) % 256 = (x.length : Int) := by omega
  try rw [e256]
  clear e256
  obtain ⟨w4, hw4⟩ : ∃ w4, w4 = w3.alloc (.cells #[.int .u8 (x.length : Int)] 5) := ⟨_, rfl⟩
  have hb4 : Below w3.heap.size w3 w4 := by rw [hw4]; exact ba (b0 w3) _
  have hob : OB w3.heap.size w4 (some ⟨w3.heap.size, 0, none⟩) 1 1 [UInt8.ofNat x.length] := by
    rw [hw4]
    have h := Own.new (B := w3.heap.size) (e := 5) (size := 1) w3 #[.int .u8 (x.length : Int)] 1 (Nat.le_refl _) (by decide) rfl
    have e : u8s [UInt8.ofNat x.length] = [.int .u8 (x.length : Int)] := by simp [u8s]; omega
    exact ⟨by rw [e]; exact h, fun k hk => by obtain ⟨_, _, e⟩ := hk; cases e; simp⟩
  rw [← hw4]
  clear hw4
  have HB4 := Lib.hid hb4; have HO4 := Lib.hid hob
  clear hb4 hob
  go_loopw [7, 8] (fun bv iv wr => ∃ (j : Nat) (aW : Option Addr) (nW cW : Nat), bv = .slice aW nW cW ∧ iv = .int .i64 (j : Int) ∧ j ≤ x.length ∧ Hid (OB w3.heap.size wr aW nW cW ([UInt8.ofNat x.length] ++ (x.take j).flatMap (encT sh))) ∧ Hid (Below w3.heap.size w3 wr)) (fun _ iv _ => x.length - (intOf iv).toNat)
  case atStart => exact ⟨0, _, 1, 1, rfl, rfl, Nat.zero_le _, Lib.hid (by simpa using HO4.out), HB4⟩
  case round =>
    clear HO4 HB4
    obtain ⟨j, aW, nW, cW, rfl, rfl, hj, HO, HB⟩ := hrel
    have hszr := HB.out.size
    have hslr := (HSL.out.chg (Chg.ofBelow HB.out) (fun k hk => by omega)).mono (ok' := fun b => b < wr.heap.size) (fun k hk _ => hk) (by decide)
    by_cases hlt : j < x.length
    · obtain ⟨aS, hrS, hslS⟩ := Sl.part (P := Try.prog) (t := 28) Try.underlying28 hit hz1t hslr .i64 .i64 (j : Int) ((j : Int) + 1) (by omega) (by omega) (by omega)
      obtain ⟨c0', c1', c2', hys, hte⟩ := row_one (RowAt.g _ _ HROW.out) j hlt
      have e1 : ((j : Int) + 1).toNat - (j : Int).toNat = 1 := by omega
      rw [e1] at hrS hslS
      rw [Int.toNat_natCast] at hrS hslS
      rw [show 1 * 3 = 3 from rfl, hys] at hslS
      obtain ⟨ta, tm, tcap, _, hcs2, hxm, _, _, _⟩ := hte.parts'
      simp at hcs2
      obtain ⟨rfl, rfl, rfl⟩ := hcs2
      subst hxm
      have HTK := Lib.hid (flat_take (encT sh) x j hlt)
      have HT := Lib.hid hte.at; have HSS := Lib.hid hslS
      have HE1 := Lib.hid (HLE.out x[j] (List.getElem_mem hlt))
      have HCAP : Hid (nW + (encT sh x[j]).length ≤ 10000000000000) := Lib.hid (by
        have h1 := HO.out.len
        have h2 := HFL.out (j + 1)
        rw [HTK.out] at h2
        have h3 : x.length * 420000000000 ≤ 16 * 420000000000 := Nat.mul_le_mul_right _ hx16
        simp only [List.length_append, List.length_singleton] at h1 h2
        omega)
      have HP : Hid (0 < nW) := Lib.hid (by have h1 := HO.out.len; simp at h1; omega)
      generalize x[j] = t at *
      clear hys hte hslS hslr e1
      go_wp2_with fail
      refine (bytes_v L sh HSCH.out a cap [t] aS (cl - j) _ wr (slb HSC3.out HB.out) HSS.out (one_rw9 (TrAt.below HB.out _ _ HT.out)) (by rw [encR_one, List.length_cons]; have := HE1.out; omega)).mono ?_
      rintro e w5 ⟨a5, c5, rfl, ho5, hb5⟩
      rw [encR_one, List.length_cons] at ho5 ⊢
      have ho5s := ho5.sl.mono (ok' := fun b => b < w5.heap.size) (fun k hk _ => hk) (by decide)
      obtain ⟨g5, rfl, _, hg5, hc5, _⟩ := ho5.pos (by omega)
      have q0 := hc5 0 _ (u8s_get (1 :: encT sh t) 0 (by simp))
      have q0' : w5.cell? ⟨g5, 0, none⟩ = some (.int .u8 1) := q0
      have hcx := Nat.le_trans ho5.le ho5.max
      unfold maxLen at hcx
      obtain ⟨a6, hr6, hs6⟩ := Sl.from (P := Try.prog) (t := 30) Try.underlying30 hi0 hz1 ho5s .i64 1 (by omega) (by omega)
      have e1 : (1 : Int).toNat = 1 := rfl
      rw [e1, Nat.add_sub_cancel] at hr6 hs6
      have hs6' : Sl (fun b => b < w5.heap.size) w5 1 a6 (encT sh t).length (c5 - 1) (u8s (encT sh t)) := by simpa [u8s] using hs6
      have HS6 := Lib.hid hs6'
      have HO5 := Lib.hid (HO.out.below hb5)
      have HB5 := Lib.hid (HB.out.trans (hb5.mono hszr))
      generalize (encT sh t) = E at *
      have hE0 : ¬ ((E.length + 1 : Nat) : Int) < 1 := by omega
      clear q0 hc5 ho5 ho5s hs6 hs6' hb5 e1 HSS hrS
      go_wp2_with (first
        | (at_builtin; (have hcp := HCAP.out); (have hpp := HP.out); refine wpList_append (B := w3.heap.size) rfl _ _ _ _ rfl i0 (.int .u8 0) 1 Try.underlying30 hi0 hz0 hz1 hz2 rfl rfl HO5.out.own _ rfl _ _ (HS6.out.src (P := Try.prog) (tx := 30) Try.underlying30 (u8s_one _)) (by simp only [maxLen]; omega) (by omega) (by have := HB5.out.size; omega) ?_; intro a7 cap7 w7 ho7 hc7 hn7)
        | fail)
      rw [← u8s_append] at ho7
      have hb7 : Below w3.heap.size w3 w7 := HB5.out.trans (hc7.below HB5.out.size (fun i hi h => by omega))
      have ob7 : OB w3.heap.size w7 a7 (nW + E.length) cap7 ([UInt8.ofNat x.length] ++ (x.take (j + 1)).flatMap (encT sh)) := ⟨by rw [HTK.out, ← List.append_assoc]; exact ho7, fun k hk => (ho7.blt' (by omega) hk).2⟩
      have HB7 := Lib.hid hb7; have HO7 := Lib.hid ob7
      clear ho7 hc7 hn7 hb7 ob7 hcp hpp
      go_wp2_with fail
      go_roundw
      case rel => exact ⟨j + 1, a7, _, cap7, rfl, by go_num, by omega, HO7, HB7⟩
      case measure => simp [intOf]; omega
    · obtain rfl : j = x.length := by omega
      have HW : Hid ([UInt8.ofNat x.length] ++ (x.take x.length).flatMap (encT sh) = encR sh x) := Lib.hid (by rw [List.take_length, encR, vput_lt hx64])
      have ho := HO.out
      rw [HW.out] at ho
      have hnl := ho.len
      subst hnl
      have HO2 := Lib.hid ho
      have hq := ho.own.sl.mono (ok' := fun b => b < wr.heap.size) (fun k hk _ => hk) (by decide)
      have HSLR := Lib.hid hslr
      have HROWR := Lib.hid (RowAt.g _ _ HROW.out)
      clear ho hlt hslr HO
      go_wp2_with fail
      have HB' := b0 wr
      refine Go.Shr.wp_region_F (fun w' => Sl (fun b => b < w'.heap.size) w' 1 aW (encR sh x).length cW (u8s (encR sh x))) [7] (by kernel_rfl) ?g4rgS (fun hHeld => ?g4rgR)
      case g4rgS => (try dsimp only); (first | exact hq | exact hq.drew)
      try dsimp only at hHeld
      obtain ⟨W, hW⟩ : ∃ W, W = wr.drew := ⟨_, rfl⟩; rw [← hW] at hHeld ⊢; (replace hq := Go.Shr.Sl.ren hW hq.drew); (replace HB' := Go.Shr.Below.ren hW HB'.drew); clear hW
      refine Go.Shr.wpAnyF_take 0 (oi := { dst := some 47, op := Go.Op.move (Go.Operand.tmp 5), type := 26, pos := "more.go:43", after := #[], guard := none }) (v := ?g4rv1) rfl (by kernel_rfl) (fun _ _ _ h => h) (by assumption) (by rfl) ?g4ry1 ?g4rr1
      case g4ry1 => intro w hSw; (have cv1 := hSw.toString (P := Try.prog) Try.underlying30 Try.underlying5 Try.underlying9); go_simp; try with_reducible rfl
      try simp only [Act.put, List.setIfInBounds_toArray, List.set_cons_zero, List.set_cons_succ]
      refine Go.Shr.wpAnyF_take 1 (oi := { dst := some 48, op := Go.Op.move (Go.Operand.tmp 6), type := 28, pos := "more.go:43", after := #[], guard := none }) (v := ?g4rv2) rfl (by kernel_rfl) (fun _ _ _ h => h) (by assumption) (by rfl) ?g4ry2 ?g4rr2
      case g4ry2 => intro w hSw; (have cv1 := hSw.toString (P := Try.prog) Try.underlying30 Try.underlying5 Try.underlying9); go_simp; try with_reducible rfl
      try simp only [Act.put, List.setIfInBounds_toArray, List.set_cons_zero, List.set_cons_succ]
      refine Go.Shr.wpAnyF_take 4 (oi := { dst := some 51, op := Go.Op.move (Go.Operand.tmp 7), type := 30, pos := "more.go:43", after := #[], guard := none }) (v := ?g4rv3) rfl (by kernel_rfl) (fun _ _ _ h => h) (by assumption) (by rfl) ?g4ry3 ?g4rr3
      case g4ry3 => intro w hSw; (have cv1 := hSw.toString (P := Try.prog) Try.underlying30 Try.underlying5 Try.underlying9); go_simp; try with_reducible rfl
      try simp only [Act.put, List.setIfInBounds_toArray, List.set_cons_zero, List.set_cons_succ]
      refine Go.Shr.wpAnyF_take 5 (oi := { dst := some 52, op := Go.Op.convert 30 9 (Go.Operand.tmp 51), type := 9, pos := "more.go:43", after := #[{ on := 4, ground := Go.Ground.data }], guard := none }) (v := ?g4rv4) rfl (by kernel_rfl) (fun _ _ _ h => h) (by assumption) (by rfl) ?g4ry4 ?g4rr4
      case g4ry4 => intro w hSw; (have cv1 := hSw.toString (P := Try.prog) Try.underlying30 Try.underlying5 Try.underlying9); go_simp; try with_reducible rfl
      try simp only [Act.put, List.setIfInBounds_toArray, List.set_cons_zero, List.set_cons_succ]
      refine Go.Shr.wpAnyF_ready [2] (by kernel_rfl) (by simp) ?_
      refine Go.Shr.AllReadyF.cons 2 (o := { dst := some 49, op := Go.Op.call { callee := Go.Callee.value (Go.Operand.func 14), args := #[Go.Operand.tmp 47, Go.Operand.tmp 48], argTypes := #[26, 28] }, type := 30, pos := "more.go:43", after := #[{ on := 0, ground := Go.Ground.data }, { on := 1, ground := Go.Ground.data }], guard := none }) rfl (fun K hK => ?g4ro5) ?g4rm5
      case g4rm5 => exact Go.Shr.AllReadyF.nil
      go_simp; refine (bytes_v L sh HSCH.out a cap x al cl ys W (slb HSC3.out (HB.out.trans (HB'.mono hszr))) (slb HSLR.out HB') (RowAt.below (HB.out.trans (HB'.mono hszr)) _ _ HROW.out) HENC.out).mono ?_; rintro e W3 ⟨a3, c3, rfl, ho3, hb3⟩; dsimp only; refine gen_w (fun W hW => ?_); (have hp := Go.Shr.Sl.ren hW (ho3.sl.mono (ok' := fun b => b < W3.heap.size) (fun k hk _ => hk) (by decide))); (replace hq := Go.Shr.Sl.ren hW (slb hq hb3)); (replace HB' := Go.Shr.Below.ren hW (bt HB' hb3)); clear hW hb3 ho3
      refine hK.out _ _ ?g4rs5 (fun hHeld => ?g4rt5)
      case g4rs5 => (try dsimp only); (first | exact hq | exact hq.drew)
      try dsimp only at hHeld
      clear hK K
      try simp only [Act.put, List.setIfInBounds_toArray, List.set_cons_zero, List.set_cons_succ]
      refine Go.Shr.wpAnyF_ready [3] (by kernel_rfl) (by simp) ?_
      refine Go.Shr.AllReadyF.cons 3 (o := { dst := some 50, op := Go.Op.convert 30 9 (Go.Operand.tmp 49), type := 9, pos := "more.go:43", after := #[{ on := 2, ground := Go.Ground.data }], guard := none }) rfl (fun K hK => ?g4ro6) ?g4rm6
      case g4rm6 => exact Go.Shr.AllReadyF.nil
      (have cv2 := hp.toString (P := Try.prog) Try.underlying30 Try.underlying5 Try.underlying9); go_simp; clear cv2
      refine hK.out _ _ ?g4rs6 (fun hHeld => ?g4rt6)
      case g4rs6 => (try dsimp only); (first | exact hq | exact hq.drew)
      try dsimp only at hHeld
      clear hK K
      try simp only [Act.put, List.setIfInBounds_toArray, List.set_cons_zero, List.set_cons_succ]
      refine Go.Shr.wpAnyF_take 6 (oi := { dst := some 53, op := Go.Op.binOp Go.BinOp.eql 9 (Go.Operand.tmp 50) (Go.Operand.tmp 52) 9, type := 4, pos := "more.go:43", after := #[{ on := 3, ground := Go.Ground.data }, { on := 5, ground := Go.Ground.data }], guard := none }) (v := ?g4rv7) rfl (by kernel_rfl) (fun _ _ _ h => h) (by assumption) (by rfl) ?g4ry7 ?g4rr7
      case g4ry7 => intro w hSw; (have cv1 := hSw.toString (P := Try.prog) Try.underlying30 Try.underlying5 Try.underlying9); go_simp; try with_reducible rfl
      try simp only [Act.put, List.setIfInBounds_toArray, List.set_cons_zero, List.set_cons_succ]
      refine Go.Shr.wpAnyF_ready [7] (by kernel_rfl) (by simp) ?_
      refine Go.Shr.AllReadyF.last 7 (o := { dst := some 4, op := Go.Op.assign (Go.Operand.tmp 53), type := 4, pos := "more.go:43", after := #[{ on := 6, ground := Go.Ground.data }, { on := 2, ground := Go.Ground.chain }, { on := 0, ground := Go.Ground.phase }, { on := 1, ground := Go.Ground.phase }, { on := 2, ground := Go.Ground.phase }, { on := 3, ground := Go.Ground.phase }, { on := 4, ground := Go.Ground.phase }, { on := 5, ground := Go.Ground.phase }, { on := 6, ground := Go.Ground.phase }], guard := none }) rfl (by kernel_rfl) (fun K hK => ?g4ro8) ?g4rm8
      case g4rm8 => exact Go.Shr.AllReadyF.nil
      go_simp
      refine hK.out _ _ ?_
      clear hK K
      try simp only [Act.put, List.setIfInBounds_toArray, List.set_cons_zero, List.set_cons_succ]
      refine Go.Shr.wpAnyF_done (by kernel_rfl) ?_
      go_wp2_with fail
      refine bodyPost_ret (v := .bool true) (by simp [results, Try.results3, go_sem]) rfl ?_
      exact ⟨rfl, bt HB3.out (HB.out.trans (HB'.mono hszr))⟩
end Go.Proofs.Ytofhlopedflkiaa
