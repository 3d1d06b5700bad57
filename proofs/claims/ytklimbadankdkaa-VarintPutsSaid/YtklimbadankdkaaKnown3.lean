/-
  shredderlaw3.known; Put of nil.
-/
import Derived.Test.YtklimbadankdkaaRef3
import Derived.Test.YtklimbadankdkaaZig
namespace Go.Proofs.Ytklimbadankdkaa
open Go.RowKit Go.Shr
theorem put_nil (x : Int) (w : World) (h0 : 0 ≤ x) (hx : Hid (x < 18446744073709551616)) :
    Calls Try.prog 12 #[.slice none 0 0, .int .u64 x] w fun e w' => ∃ a' cap', e = .returned (.slice a' (vput x.toNat).length cap') ∧ Hid (Own w.heap.size w' 5 1 a' (vput x.toNat).length cap' (u8s (vput x.toNat))) ∧ Below w.heap.size w w' := by
  obtain ⟨n, rfl⟩ := Int.eq_ofNat_of_zero_le h0
  refine (put_u8 (fun _ => False) none 0 0 [] n w (Sl.nil _ _ _ _) (by omega) (by have := hx.out; omega)).mono ?_
  rintro e w' ⟨a', n', cap', rfl, hown, hb⟩
  have hl := hown.len
  simp only [List.nil_append, u8s_length, Nat.mul_one] at hl
  subst hl
  exact ⟨a', cap', rfl, Lib.hid hown, hb⟩
set_option maxHeartbeats 400000 in
theorem known_any (w : World) : Calls Try.prog 10 #[] w fun e w' => e = .returned (.bool true) ∧ Below w.heap.size w w' := by
  have hv : vput (300 : Int).toNat = [172, 2] := by
    show vput 300 = _
    rw [vput_ge (by decide), vput_lt (by decide)]; rfl
  have HV := Lib.hid hv; clear hv
  go_enter Try.func10, Try.ntmps10
  go_wp2_with fail
  refine (put_nil 300 w (by decide) (Lib.hid (by decide))).mono ?_
  rintro e w1 ⟨a1, cap1, rfl, hown, hb⟩
  rw [HV.out] at hown ⊢
  obtain ⟨g, rfl, _, hg, hc, _⟩ := hown.out.pos (by decide)
  have h0 := hc 0 _ rfl
  have h1 := hc 1 _ rfl
  clear hc hown
  go_wp2
  go_ret
  exact ⟨rfl, hb⟩
set_option maxHeartbeats 400000 in
theorem law_sizes (k : Int) (w : World) (_ : (Lit.int .i64 k).wf = true) : Calls Try.prog 3 #[.int .i64 k] w fun e w' => e = .returned (.bool true) ∧ Below w.heap.size w w' := by
  go_enter Try.func3, Try.ntmps3
  go_wp2_with fail
  refine (known_any w).mono ?_
  rintro e w1 ⟨rfl, hb1⟩
  go_wp2_with fail
  refine (within_i k 64 w1 (by decide) (by decide)).mono ?_
  rintro e w2 ⟨rfl, rfl⟩
  obtain ⟨m, hm⟩ : ∃ m : Nat, k % 64 = (m : Int) := ⟨(k % 64).toNat, by omega⟩
  have hm64 : m < 64 := by omega
  rw [hm]; clear hm
  have L1 := vput_two m
  have L2 := vput_two_less m
  have hN : 2 ^ m < 18446744073709551616 := Nat.lt_of_lt_of_le (Nat.pow_lt_pow_right (by decide) hm64) (by decide)
  have hN1 : 1 ≤ 2 ^ m := Nat.pow_pos (by decide)
  have hw : IntKind.u64.wrap (2 ^ m) = ((2 ^ m : Nat) : Int) := by
    rw [IntKind.wrap_u64, show (2 : Int) ^ m = ((2 ^ m : Nat) : Int) by simp]; omega
  generalize 2 ^ m = N at *
  have HL1 := Lib.hid L1; have HL2 := Lib.hid L2; have HN := Lib.hid hN; clear L1 L2 hN
  have e2 : (((m + 6) / 7 : Nat) : Int) = ((m : Int) + 6) / 7 := by omega
  have e1 : (((1 + m / 7 : Nat)) : Int) = 1 + (m : Int) / 7 := by omega
  go_wp2_with fail
  refine (put_nil N w1 (by omega) (Lib.hid (by have := HN.out; omega))).mono ?_
  rintro e w2 ⟨a2, cap2, rfl, hown2, hb2⟩
  rw [Int.toNat_natCast, HL1.out]
  go_wp2_with fail
  rw [show IntKind.u64.wrap ((N : Int) - 1) = ((N - 1 : Nat) : Int) by rw [IntKind.wrap_u64]; have := HN.out; omega]
  refine (put_nil ((N - 1 : Nat) : Int) w2 (by omega) (Lib.hid (by have := HN.out; omega))).mono ?_
  rintro e w3 ⟨a3, cap3, rfl, hown3, hb3⟩
  rw [Int.toNat_natCast, HL2.out]
  clear hown2 hown3
  have hbb : Below w.heap.size w w3 := (hb1.trans (hb2.mono hb1.size)).trans (hb3.mono (Nat.le_trans hb1.size hb2.size))
  have HBB := Lib.hid hbb; clear hbb hb1 hb2 hb3
  have hv0 : vput (0 : Int).toNat = [0] := by show vput 0 = _; rw [vput_lt (by decide)]; rfl
  have HV0 := Lib.hid hv0; clear hv0
  by_cases hq : (m + 6) / 7 ≤ 1
  all_goals
    first | rw [Nat.max_eq_left hq] | rw [Nat.max_eq_right (by omega : 1 ≤ (m + 6) / 7)]
    go_wp2_with fail
    refine (put_nil 0 w3 (by decide) (Lib.hid (by decide))).mono ?_
    rintro e w4 ⟨a4, cap4, rfl, hown4, hb4⟩
    rw [HV0.out]
    clear hown4
    go_wp2
    go_ret
    exact ⟨rfl, HBB.out.trans (hb4.mono HBB.out.size)⟩
end Go.Proofs.Ytklimbadankdkaa
