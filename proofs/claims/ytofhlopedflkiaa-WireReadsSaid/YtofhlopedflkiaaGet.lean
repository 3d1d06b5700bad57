/-
  varint.Get, shredderref3.Get.
-/
import Derived.Test.YtofhlopedflkiaaClone
import Derived.Test.YtofhlopedflkiaaPlain
namespace Go.Proofs.Ytofhlopedflkiaa
open Go.RowKit Go.Shr
set_option maxHeartbeats 400000 in
set_option maxRecDepth 100000 in
theorem get_u8 (ok : Nat → Prop) (a : Option Addr) (n cap : Nat) (bs : List UInt8) (w : World) (h : Sl ok w 1 a n cap (u8s bs)) (hn : n ≤ 10000000000000) :
    Calls Try.prog 46 #[.slice a n cap] w fun e w' => e = .returned (.tuple #[.int .u64 (vget bs).1, .int .i64 (vget bs).2.1, .int .i64 (vget bs).2.2]) ∧ w = w' := by
  have hl : bs.length = n := by have := h.len; simpa using this
  have HL := Lib.hid hl; clear hl
  have H := Lib.hid h; clear h
  go_enter Try.func46, Try.ntmps46
  go_wp2
  go_loop [2, 9] (fun v i => ∃ (k acc : Nat), v = .int .u64 acc ∧ i = .int .i64 k ∧ k ≤ n ∧ k ≤ 9 ∧ Hid (acc < 128 ^ k ∧ vget bs = vgetFrom k acc (bs.drop k)))
    (fun _ i => n - (intOf i).toNat)
  case atStart => exact ⟨0, 0, rfl, rfl, Nat.zero_le _, Nat.zero_le _, Lib.hid ⟨by simp, by simp [vget]⟩⟩
  case round =>
    obtain ⟨k, acc, rfl, rfl, hk, hk9, HA⟩ := hrel
    by_cases hlt : k < n
    · obtain ⟨b, off, rfl, _, hc⟩ := H.out.pos (by omega)
      have hkl : k < bs.length := by rw [HL.out]; exact hlt
      have hcell := hc k _ (u8s_get bs k hkl)
      have HX : Hid (bs.drop k = bs[k] :: bs.drop (k + 1)) := Lib.hid (List.drop_eq_getElem_cons hkl)
      generalize bs[k] = x at *
      clear hc
      have HD : Hid (bs.drop k = x :: bs.drop (k + 1)) := HX
      have hx := x.toNat_lt
      by_cases hbig : k = 9 ∧ 1 < x.toNat
      · have HF : Hid (vget bs = (0, 0, 14)) := by
          show _ = _
          rw [HA.out.2, HD.out, vgetFrom, if_pos hbig]
        obtain ⟨rfl, h1⟩ := hbig
        go_wp2
        go_ret3
        rw [HF.out]; exact ⟨rfl, rfl⟩
      · have hS : (x.toNat % 128) * 128 ^ k < 18446744073709551616 := by
          by_cases h9 : k = 9
          · have : x.toNat % 128 ≤ 1 := by omega
            subst h9; have := Nat.mul_le_mul_right (128 ^ 9) this; omega
          · have h8 : (128 : Nat) ^ k ≤ 128 ^ 8 := Nat.pow_le_pow_right (by decide) (by omega)
            have := Nat.mul_le_mul (show x.toNat % 128 ≤ 127 by omega) h8
            omega
        have ho := or_add (y := x.toNat % 128) HA.out.1 (by omega) (by omega) (by omega)
        have hw := shl_wrap x.toNat k hS
        have HB := Lib.hid (or_lt HA.out.1 hk9 (show x.toNat % 128 < 128 by omega))
        clear hS
        generalize hSd : (x.toNat % 128) * 128 ^ k = S at *
        generalize hTd : acc + S = T at *
        have HS := Lib.hid hSd; have HT := Lib.hid hTd; clear hSd hTd
        by_cases hend : x.toNat < 128
        · by_cases hz : x.toNat = 0 ∧ 0 < k
          · have HF : Hid (vget bs = (0, 0, 10)) := by
              show _ = _
              rw [HA.out.2, HD.out, vgetFrom, if_neg hbig, if_pos hend, if_pos hz]
            obtain ⟨h0, h1⟩ := hz
            have H9 := Lib.hid hbig; clear hbig hw ho HS
            obtain rfl : x = 0 := UInt8.toNat_inj.1 (by simpa using h0)
            go_wp2
            all_goals
              go_ret3
              rw [HF.out]; exact ⟨rfl, rfl⟩
          · have HF : Hid (vget bs = (T, k + 1, 0)) := by
              show _ = _
              rw [HA.out.2, HD.out, vgetFrom, if_neg hbig, if_pos hend, if_neg hz, ← HT.out, ← HS.out, Nat.mod_eq_of_lt hend]
            have H9 := Lib.hid hbig; clear hbig
            have HZ := Lib.hid hz; clear hz
            by_cases h0 : k < 1
            · have h9 : ((k : Int) == 9) = false := beq_eq_false_iff_ne.2 (by omega)
              obtain ⟨b0, hb0⟩ : ∃ b0, ((x.toNat : Int) == 0) = b0 := ⟨_, rfl⟩
              rcases b0 with _ | _
              all_goals
                go_wp2
                go_ret3
                rw [HF.out]; exact ⟨by simp, rfl⟩
            · have hpos : 1 ≤ x.toNat := by have := HZ.out; omega
              by_cases h9 : k = 9
              · have h9b : ((k : Int) == 9) = true := beq_iff_eq.2 (by omega)
                have hle : x.toNat ≤ 1 := by have := H9.out; omega
                have H9e := Lib.hid h9; clear h9
                go_wp2
                go_ret3
                rw [HF.out]; exact ⟨by simp, rfl⟩
              · have h9b : ((k : Int) == 9) = false := beq_eq_false_iff_ne.2 (by omega)
                go_wp2
                go_ret3
                rw [HF.out]; exact ⟨by simp, rfl⟩
        · have h9 : k < 9 := by omega
          have H9 := Lib.hid hbig; clear hbig
          have h9b : ((k : Int) == 9) = false := beq_eq_false_iff_ne.2 (by omega)
          have hend2 : 128 ≤ x.toNat := by omega
          go_wp2
          go_round
          case rel => exact ⟨k + 1, T, rfl, by go_num, by omega, by omega, Lib.hid ⟨HB.out, by rw [HA.out.2, HD.out, vgetFrom, if_neg H9.out, if_neg hend, HS.out, HT.out]⟩⟩
          case measure => simp [intOf]; omega
    · go_wp2
      go_ret3
      rw [HA.out.2, List.drop_eq_nil_of_le (by rw [HL.out]; omega)]
      exact ⟨rfl, rfl⟩
end Go.Proofs.Ytofhlopedflkiaa
