/-
  The walks of VarintZigs and VarintSmall.
-/
import Derived.Test.YtklimbadankdkaaKnown3
namespace Go.Proofs.Ytklimbadankdkaa
open Go.RowKit Go.Shr
theorem wf_i64 {z : Int} (h : (Lit.int .i64 z).wf = true) : -9223372036854775808 ≤ z ∧ z ≤ 9223372036854775807 := by
  simp [Lit.wf, IntKind.min, IntKind.max, IntKind.bits, IntKind.signed] at h; omega
theorem wf_u64 {z : Int} (h : (Lit.int .u64 z).wf = true) : 0 ≤ z ∧ z < 18446744073709551616 := by
  simp [Lit.wf, IntKind.min, IntKind.max, IntKind.bits, IntKind.signed] at h; omega
theorem wf_u8 {z : Int} (h : (Lit.int .u8 z).wf = true) : 0 ≤ z ∧ z < 256 := by
  simp [Lit.wf, IntKind.min, IntKind.max, IntKind.bits, IntKind.signed] at h; omega
theorem zig_nonneg (v : Int) (h : 0 ≤ v) : ((zig v : Nat) : Int) = 2 * v := by unfold zig; rw [if_pos h]; omega
theorem zig_neg (v : Int) (h : v < 0) : ((zig v : Nat) : Int) = 2 * (0 - v) - 1 := by unfold zig; rw [if_neg (by omega)]; omega
set_option maxHeartbeats 400000 in
theorem law_zigs (v u : Int) (w : World) (hv : (Lit.int .i64 v).wf = true) (hu : (Lit.int .u64 u).wf = true) : Calls Try.prog 4 #[.int .i64 v, .int .u64 u] w fun e w' => e = .returned (.bool true) ∧ Below w.heap.size w w' := by
  have HV := Lib.hid (wf_i64 hv)
  have HU := Lib.hid (wf_u64 hu)
  clear hv hu
  obtain ⟨n, rfl⟩ := Int.eq_ofNat_of_zero_le HU.out.1
  have HN : Hid (n < 18446744073709551616) := Lib.hid (by have := HU.out; omega)
  clear HU
  have hz1 := zag_zig v
  have hz2 := zig_zag n
  have HZ : Hid (zig v < 18446744073709551616) := Lib.hid (zig_lt v HV.out)
  have HG : Hid (-9223372036854775808 ≤ zag n ∧ zag n ≤ 9223372036854775807) := Lib.hid (zag_in n HN.out)
  have HZ1 := Lib.hid hz1; have HZ2 := Lib.hid hz2; clear hz1 hz2
  have HP := Lib.hid (fun h => zig_nonneg v h)
  have HM := Lib.hid (fun h => zig_neg v h)
  generalize hzv : zig v = Z at *
  have HZV := Lib.hid hzv; clear hzv
  go_enter Try.func4, Try.ntmps4
  go_wp2_with fail
  refine (known_any w).mono ?_
  rintro e w1 ⟨rfl, hb1⟩
  go_wp2_with fail
  refine (zig_i v w1 HV).mono ?_
  rintro e w2 ⟨rfl, rfl⟩
  rw [HZV.out]
  go_wp2_with fail
  refine (rzig_i v w1 HV).mono ?_
  rintro e w2 ⟨rfl, rfl⟩
  rw [HZV.out]
  go_wp2_with fail
  refine (zag_u n w1 HN).mono ?_
  rintro e w2 ⟨rfl, rfl⟩
  go_wp2_with fail
  refine (rzag_u n w1 HN).mono ?_
  rintro e w2 ⟨rfl, rfl⟩
  go_wp2_with fail
  refine (zag_u Z w1 HZ).mono ?_
  rintro e w2 ⟨rfl, rfl⟩
  rw [HZ1.out]
  go_wp2_with fail
  refine (zag_u n w1 HN).mono ?_
  rintro e w2 ⟨rfl, rfl⟩
  go_wp2_with fail
  refine (zig_i (zag n) w1 HG).mono ?_
  rintro e w2 ⟨rfl, rfl⟩
  rw [HZ2.out]
  by_cases h0 : 0 ≤ v
  · by_cases h1 : v < 4611686018427387904
    · have e1 : IntKind.u64.wrap v = v := by rw [IntKind.wrap_u64]; omega
      have e2 : IntKind.u64.wrap (2 * v) = 2 * v := by rw [IntKind.wrap_u64]; omega
      have e3 := HP.out h0
      go_wp2
      go_ret
      exact ⟨rfl, hb1⟩
    · go_wp2
      go_ret
      exact ⟨rfl, hb1⟩
  · by_cases h1 : -4611686018427387904 < v
    · have e3 : ((Z : Int) == 2 * -v - 1) = true := beq_iff_eq.2 (by have := HM.out (by omega); omega)
      go_wp2
      go_ret
      exact ⟨rfl, hb1⟩
    · go_wp2
      go_ret
      exact ⟨rfl, hb1⟩
set_option maxHeartbeats 400000 in
theorem law_small (n : Int) (w : World) (_ : (Lit.int .i64 n).wf = true) : Calls Try.prog 5 #[.int .i64 n] w fun e w' => e = .returned (.bool true) ∧ Below w.heap.size w w' := by
  obtain ⟨m, hm⟩ : ∃ m : Nat, n % 64 = (m : Int) := ⟨(n % 64).toNat, by omega⟩
  have hm64 : m < 64 := by omega
  have HM := Lib.hid hm; clear hm
  have hz1 : zig (m : Int) = 2 * m := by unfold zig; rw [if_pos (by omega)]; omega
  have hz2 : zig (-1 - (m : Int)) = 2 * m + 1 := by unfold zig; rw [if_neg (by omega)]; omega
  have hz3 : (vput (2 * (m : Int)).toNat).length = 1 := by rw [vput_lt (by omega)]; rfl
  have hz4 : (vput (2 * (m : Int) + 1).toNat).length = 1 := by rw [vput_lt (by omega)]; rfl
  have hz5 : zag (zig (-9223372036854775808)) = -9223372036854775808 := zag_zig _
  have HZ1 := Lib.hid hz1; have HZ2 := Lib.hid hz2; have HZ3 := Lib.hid hz3; have HZ4 := Lib.hid hz4; have HZ5 := Lib.hid hz5
  have HZ6 : Hid (zig (-9223372036854775808) < 18446744073709551616) := Lib.hid (zig_lt _ (by omega))
  generalize hZ : zig (-9223372036854775808) = Z at *
  have HZE := Lib.hid hZ; clear hZ
  clear hz1 hz2 hz3 hz4 hz5
  go_enter Try.func5, Try.ntmps5
  go_wp2_with fail
  refine (known_any w).mono ?_
  rintro e w1 ⟨rfl, hb1⟩
  go_wp2_with fail
  refine (within_i n 64 w1 (by decide) (by decide)).mono ?_
  rintro e w2 ⟨rfl, rfl⟩
  rw [HM.out]
  go_wp2_with fail
  refine (zig_i m w1 (Lib.hid (by omega))).mono ?_
  rintro e w2 ⟨rfl, rfl⟩
  rw [HZ1.out]
  go_wp2_with fail
  refine (put_nil (2 * (m : Int)) w1 (by omega) (Lib.hid (by omega))).mono ?_
  rintro e w2 ⟨a2, cap2, rfl, hown2, hb2⟩
  rw [HZ3.out]; clear hown2
  go_wp2_with fail
  refine (zig_i (-1 - (m : Int)) w2 (Lib.hid (by omega))).mono ?_
  rintro e w3 ⟨rfl, rfl⟩
  rw [HZ2.out]
  go_wp2_with fail
  refine (put_nil (2 * (m : Int) + 1) w2 (by omega) (Lib.hid (by omega))).mono ?_
  rintro e w3 ⟨a3, cap3, rfl, hown3, hb3⟩
  rw [HZ4.out]; clear hown3
  go_wp2_with fail
  refine (zig_i (-1 - (m : Int)) w3 (Lib.hid (by omega))).mono ?_
  rintro e w4 ⟨rfl, rfl⟩
  rw [HZ2.out]
  go_wp2_with fail
  refine (zig_i m w3 (Lib.hid (by omega))).mono ?_
  rintro e w4 ⟨rfl, rfl⟩
  rw [HZ1.out]
  go_wp2_with fail
  refine (zig_i (-9223372036854775808) w3 (Lib.hid (by omega))).mono ?_
  rintro e w4 ⟨rfl, rfl⟩
  rw [HZE.out]
  go_wp2_with fail
  refine (zag_u Z w3 HZ6).mono ?_
  rintro e w4 ⟨rfl, rfl⟩
  rw [HZ5.out]
  go_wp2
  go_ret
  exact ⟨rfl, (hb1.trans (hb2.mono hb1.size)).trans (hb3.mono (Nat.le_trans hb1.size hb2.size))⟩
end Go.Proofs.Ytklimbadankdkaa
