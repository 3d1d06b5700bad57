/-
  The walk of ProjectGroups.
-/
import Derived.Test.YtgpffcgkfgiodaaLaw7B
import Derived.Deep.CutRange
set_option linter.unusedSimpArgs false
namespace Go.Proofs.Ytgpffcgkfgiodaa
open Go.RowKit Go.Shr
theorem Wy.isA_own {l : List Fl} {f : Nat} (h0 : 0 < f) (hf : f < l.length) : allA l [ownS l f] := by
  intro p hp
  rw [List.mem_singleton.1 hp]
  exact isA_iff.2 ⟨f, h0, hf, rfl⟩
theorem Wy.atR_own {l : List Fl} {W : Nat → List UInt8} (h : Wy l W) {f : Nat} (h0 : 0 < f) (hf : f < l.length) : atR l (ownS l f).data.toList l.length = f := by
  have h1 := atR_iff (l := l) (p := (ownS l f).data.toList) (n := l.length)
  have h2 := h1.1.2 (isA_iff.2 ⟨f, h0, hf, rfl⟩)
  obtain ⟨h3, h4⟩ := h1.2 h2
  exact h.own_inj h2 h3 h0 hf h4
theorem Wy.KW_one {l : List Fl} {W : Nat → List UInt8} (h : Wy l W) {f : Nat} (h0 : 0 < f) (hf : f < l.length) {i : Nat} (hi : i < l.length) : KW [ownS l f] (W i) = (decide (f ∈ Go.Shr.chain (par l) i) || decide (i ∈ Go.Shr.chain (par l) f)) := by
  rw [← h.kpR_eq (Wy.isA_own h0 hf) i hi]
  simp [kpR, Go.Proofs.Ytgpffcgkfgiodaa.keepR, byts, h.atR_own h0 hf]
set_option maxHeartbeats 1000000 in
set_option maxRecDepth 100000 in
theorem law_groups (a0 : Option Addr) (n0 c0 : Nat) (z0 : List Int) (which : Int) (w : World) (h0 : Sl (fun b => b < w.heap.size) w 1 a0 n0 c0 (ints z0)) (w0 : ∀ z ∈ z0, (Lit.int .i64 z).wf = true) (_ : (Lit.int .i64 which).wf = true) :
    Calls Try.prog 4 #[.slice a0 n0 c0, .int .i64 which] w fun e w' => e = .returned (.bool true) ∧ Below w.heap.size w w' := by
  have H0 := Lib.hid h0; have W0 := Lib.hid w0
  clear h0 w0
  go_enter Try.func4, Try.ntmps4
  go_wp2_with fail
  refine ((known7 w).mono ?_)
  rintro e w1 ⟨rfl, hb1⟩
  have HB1 := Lib.hid hb1
  clear hb1
  go_wp2_with fail
  refine ((make5 a0 n0 c0 z0 w1 (slb H0.out HB1.out) W0.out).mono ?_)
  rintro e w2 ⟨aS, cS, rfl, hs, hb2⟩
  have HWY := Lib.hid (make_wy z0)
  have HSC := Lib.hid (make_sch z0)
  have h2 := make_two z0
  have hl14 := (make_len z0).2
  have HS := Lib.hid (hs.sl.mono (ok' := fun b => b < w2.heap.size) (fun k hk _ => hk) (by decide))
  have HB2 := Lib.hid (bt HB1.out hb2)
  clear hs hb2
  generalize makeL z0 = l at *
  generalize wayAt (makeSh z0) = W at *
  go_wp2_with fail
  refine ((within_7 which _ w2 (by omega) (by omega)).mono ?_)
  rintro e w3 ⟨rfl, rfl⟩
  have hq1 := Int.emod_nonneg which (show (l.length : Int) ≠ 0 by omega)
  have hq2 := Int.emod_lt_of_pos which (show (0 : Int) < (l.length : Int) by omega)
  obtain ⟨f, hf⟩ : ∃ q : Nat, which % (l.length : Int) = (q : Int) := ⟨(which % (l.length : Int)).toNat, by omega⟩
  rw [hf] at hq1 hq2 ⊢
  clear hf
  by_cases hf0 : f = 0
  · subst hf0
    go_wp2_with fail
    go_ret
    exact ⟨rfl, HB2.out⟩
  · have hfb : ((f : Int) == 0) = false := beq_eq_false_iff_ne.2 (by omega)
    have hfp : 0 < f := by omega
    have hfl : f < l.length := by omega
    clear hf0
    go_wp2_with fail
    refine ((rpath_v aS cS l f w2 HS.out (by omega) HSC.out.kids HWY.out.name_size hfp hfl).mono ?_)
    rintro e w3 ⟨rfl, hb3⟩
    have HKO := Lib.hid (fun i (hi : i < l.length) => HWY.out.KW_one hfp hfl hi)
    have HAL := Lib.hid (Wy.isA_own hfp hfl)
    have HOZ := Lib.hid (HWY.out.own_size f hfp hfl)
    have HB3 := Lib.hid (bt HB2.out hb3)
    have HS3 := Lib.hid (slb HS.out hb3)
    clear hb3
    generalize ownS l f = o at *
    go_wp2_with fail
    refine cgen (fun w4 hw4 => ?_)
    have hb4 : Below w3.heap.size w3 w4 := by rw [hw4]; exact ba (b0 w3) _
    have r4 : Rw w4 w3.heap.size #[.string o] 9 := by rw [hw4]; exact Rw.new w3 _ _
    clear hw4
    have HS4 : Hid (Sl (fun b => b < w4.heap.size) w4 1 (some ⟨w3.heap.size, 0, none⟩) 1 1 (strs [o])) := Lib.hid (Rw.sl' r4 1 1 rfl (by decide))
    have HB4 := Lib.hid (bt HB3.out hb4)
    have HSS4 := Lib.hid (slb HS3.out hb4)
    clear hb4 r4
    refine ((res_p HWY.out HSC.out.kids aS (some ⟨w3.heap.size, 0, none⟩) cS 1 [o] w4 (by simp) HSS4.out HS4.out (by intro p hp; rw [List.mem_singleton.1 hp]; exact Nat.le_trans HOZ.out (by decide))).mono ?_)
    rintro e w5 ⟨hb5, ⟨_, ak, ck, ap, cp, rfl, hk5, hp5⟩ | ⟨hna, _⟩⟩
    rotate_left
    · exact absurd HAL.out hna
    have HK5 := Lib.hid (hk5.sl.mono (ok' := fun b => b < w5.heap.size) (fun k hk _ => hk) (by decide))
    have HB5 := Lib.hid (bt HB4.out hb5)
    have HS5 := Lib.hid (slb HSS4.out hb5)
    clear hk5 hp5 hb5
    go_wp2_with fail
    refine ((refpar_v aS l.length cS l w5 HS5.out (by omega) HSC.out.kids).mono ?_)
    rintro e w6 ⟨aP, cP, rfl, hp6, hb6⟩
    have HP6 := Lib.hid (hp6.own.sl.mono (ok' := fun b => b < w6.heap.size) (fun k hk _ => hk) (by decide))
    have HB6 := Lib.hid (bt HB5.out hb6)
    have HK6 := Lib.hid (slb HK5.out hb6)
    have HPL := Lib.hid (par_length l)
    clear hp6 hb6
    obtain ⟨pb, po, rfl, hpb, hpc⟩ := HP6.out.pos (by omega)
    obtain ⟨kb, ko, rfl, hkb, hkc⟩ := HK6.out.pos (by omega)
    have HPC := Lib.hid hpc; have HKC := Lib.hid hkc
    clear hpc hkc
    go_wp2_with fail
    go_loop [11] (fun iv => ∃ i : Nat, iv = .int .i64 (i : Int) ∧ i ≤ l.length) (fun iv => l.length - (intOf iv).toNat)
    case atStart => exact ⟨0, rfl, Nat.zero_le _⟩
    case round =>
      obtain ⟨i, rfl, hi⟩ := hrel
      by_cases hil : i < l.length
      · have kc := HKC.out _ _ (bls_get (fun k => KW [o] (W k)) hil)
        have HKI := Lib.hid (HKO.out i hil)
        generalize KW [o] (W i) = kv at *
        go_wp2_with fail
        go_loop [12, 13] (fun bv zv => ∃ (b : Bool) (z : Int), bv = .bool b ∧ zv = .int .i64 z ∧ -1 ≤ z ∧ z < (l.length : Int) ∧ Hid ((b || decide (f ∈ chainI (par l) z)) = decide (f ∈ Go.Shr.chain (par l) i))) (fun _ zv => (intOf zv + 1).toNat)
        case atStart => exact ⟨false, _, rfl, rfl, by omega, by omega, Lib.hid (by rw [chainI_nat]; rfl)⟩
        case round =>
          obtain ⟨b, z, rfl, rfl, hz1, hz2, HX⟩ := hrel
          by_cases hz : z < 0
          · have HE : Hid (b = decide (f ∈ Go.Shr.chain (par l) i)) := Lib.hid (by rw [← HX.out, chainI_neg _ hz]; simp)
            clear HX
            go_wp2_with fail
            go_loop [12, 14] (fun bv zv => ∃ (b2 : Bool) (z : Int), bv = .bool b2 ∧ zv = .int .i64 z ∧ -1 ≤ z ∧ z < (l.length : Int) ∧ Hid ((b2 || decide (i ∈ chainI (par l) z)) = kv)) (fun _ zv => (intOf zv + 1).toNat)
            case atStart => exact ⟨b, _, rfl, rfl, by omega, by omega, Lib.hid (by rw [chainI_nat, HE.out, HKI.out])⟩
            case round =>
              clear hz1 hz2 hz
              obtain ⟨b2, z2, rfl, rfl, hz1, hz2, HX⟩ := hrel
              by_cases hz : z2 < 0
              · have he : b2 = kv := by rw [← HX.out, chainI_neg _ hz]; simp
                subst he
                have hbb : (b2 != b2) = false := by simp
                clear HX
                go_wp2_with fail
                go_round
                case rel => exact ⟨i + 1, by go_num, by omega⟩
                case measure => simp [intOf]; omega
              · obtain ⟨k, rfl⟩ : ∃ k : Nat, z2 = k := ⟨z2.toNat, by omega⟩
                have hk : k < l.length := by omega
                have hki : k < (par l).length := by rw [HPL.out]; exact hk
                have q0 := HPC.out _ _ (ints_get (par l) k hki)
                have hqb := par_bd l k hki
                have HX2 : Hid ((b2 || ((k : Int) == (i : Int)) || decide (i ∈ chainI (par l) (par l)[k])) = kv) := Lib.hid (by
                  rw [← HX.out, chainI_nat, chain_eq (fun j hj => par_bd l j hj) hki, Bool.or_assoc]
                  congr 1
                  rw [Bool.eq_iff_iff]
                  simp only [List.mem_cons, decide_eq_true_eq, Bool.or_eq_true, beq_iff_eq]
                  exact or_congr_left ⟨fun h => by omega, fun h => by omega⟩)
                generalize (par l)[k] = q at *
                clear HX
                cases b2
                · go_wp2_with fail
                  go_round
                  case rel => exact ⟨_, q, rfl, rfl, by omega, by omega, Lib.hid (by rw [← HX2.out]; simp)⟩
                  case measure => simp [intOf]; omega
                · go_wp2_with fail
                  go_round
                  case rel => exact ⟨_, q, rfl, rfl, by omega, by omega, Lib.hid (by rw [← HX2.out]; simp)⟩
                  case measure => simp [intOf]; omega
          · obtain ⟨k, rfl⟩ : ∃ k : Nat, z = k := ⟨z.toNat, by omega⟩
            have hk : k < l.length := by omega
            have hki : k < (par l).length := by rw [HPL.out]; exact hk
            have q0 := HPC.out _ _ (ints_get (par l) k hki)
            have hqb := par_bd l k hki
            have HX2 : Hid ((b || ((k : Int) == (f : Int)) || decide (f ∈ chainI (par l) (par l)[k])) = decide (f ∈ Go.Shr.chain (par l) i)) := Lib.hid (by
              rw [← HX.out, chainI_nat, chain_eq (fun j hj => par_bd l j hj) hki, Bool.or_assoc]
              congr 1
              rw [Bool.eq_iff_iff]
              simp only [List.mem_cons, decide_eq_true_eq, Bool.or_eq_true, beq_iff_eq]
              exact or_congr_left ⟨fun h => by omega, fun h => by omega⟩)
            generalize (par l)[k] = q at *
            clear HX
            cases b
            · go_wp2_with fail
              go_round
              case rel => exact ⟨_, q, rfl, rfl, by omega, by omega, Lib.hid (by rw [← HX2.out]; simp)⟩
              case measure => simp [intOf]; omega
            · go_wp2_with fail
              go_round
              case rel => exact ⟨_, q, rfl, rfl, by omega, by omega, Lib.hid (by rw [← HX2.out]; simp)⟩
              case measure => simp [intOf]; omega
      · obtain rfl : i = l.length := by omega
        go_wp2_with fail
        go_ret
        exact ⟨rfl, HB6.out⟩
end Go.Proofs.Ytgpffcgkfgiodaa
