/-
  The walk of VarintRows.
-/
import Derived.Test.YtklimbadankdkaaZigs3
import Derived.Test.YtklimbadankdkaaFrame
namespace Go.Proofs.Ytklimbadankdkaa
open Go.RowKit Go.Shr
set_option maxHeartbeats 800000 in
theorem law_rows (a : Option Addr) (n cap : Nat) (zs : List Int) (w : World) (hl : Sl (fun b => b < w.heap.size) w 1 a n cap (intk .u64 zs)) (hz : ∀ z ∈ zs, (Lit.int .u64 z).wf = true) :
    Calls Try.prog 8 #[.slice a n cap] w fun e w' => e = .returned (.bool true) ∧ Below w.heap.size w w' := by
  obtain ⟨i0, hi, hz0, hz1, hz2⟩ := info_parts info_u8
  have hmax := hl.max
  have hle := hl.le
  unfold maxLen at hmax
  have HL := Lib.hid hl; clear hl
  obtain ⟨vs, rfl, hvlt⟩ := nats_of hz
  have HVL := Lib.hid hvlt; clear hvlt hz
  have hlen : vs.length = n := by have := HL.out.len; simpa [intk] using this
  have HN := Lib.hid hlen; clear hlen
  obtain ⟨M, hM⟩ : ∃ M, min n 30 = M := ⟨_, rfl⟩
  have hM1 : M ≤ n := by omega
  have hM2 : M ≤ 30 := by omega
  have hM3 : n ≤ 30 → n ≤ M := by omega
  have hM4 : 30 < n → 30 ≤ M := by omega
  clear hM
  have hcell : ∀ k (hk : k < vs.length), ∃ b off, a = some ⟨b, off, none⟩ ∧ w.cell? ⟨b, off + k, none⟩ = some (.int .u64 ((vs[k] : Nat) : Int)) := fun k hk => by
    obtain ⟨b, off, h1, _, h3⟩ := HL.out.pos (by have := HN.out; omega)
    exact ⟨b, off, h1, h3 k _ (nats_get vs k hk)⟩
  have HC := Lib.hid hcell; clear hcell
  by_cases hmin : n ≤ 30
  all_goals
    go_enter Try.func8, Try.ntmps8
    go_wp2_with fail
    refine (known_any w).mono ?_
    rintro e w1 ⟨rfl, hb1⟩
    go_wp2_with fail
    go_loopw [3, 5] (fun bv i wr => ∃ (k : Nat) (ar : Option Addr) (nr capr : Nat), bv = .slice ar nr capr ∧ i = .int .i64 k ∧ k ≤ M ∧ Hid (Sl (fun b => b < wr.heap.size) wr 1 ar nr capr (u8s (vputs (vs.take k)))) ∧ Below w.heap.size w wr)
      (fun _ i _ => M - (intOf i).toNat)
    case atStart => exact ⟨0, none, 0, 0, rfl, rfl, Nat.zero_le _, Lib.hid (Sl.nil _ _ _ _), hb1⟩
    case round =>
      obtain ⟨k, ar, nr, capr, rfl, rfl, hk, HS, hb⟩ := hrel
      have hnr : nr ≤ 300 := by
        have h1 := HS.out.len
        have h2 := vputs_len (vs.take k) (fun v hv => HVL.out v (List.mem_of_mem_take hv))
        simp only [u8s_length, List.length_take] at h1 h2
        omega
      by_cases hlt : k < M
      · have hkl : k < vs.length := by rw [HN.out]; omega
        obtain ⟨b, off, rfl, hc⟩ := HC.out k hkl
        have hc2 : wr.cell? ⟨b, off + k, none⟩ = some (.int .u64 ((vs[k] : Nat) : Int)) := (hb.cell (p := ⟨b, off + k, none⟩) (World.block_lt_of_cell? w ⟨b, off + k, none⟩ hc)).trans hc
        have HV : Hid (vs[k] < 18446744073709551616) := Lib.hid (HVL.out _ (List.getElem_mem hkl))
        have HT : Hid (vputs (vs.take (k + 1)) = vputs (vs.take k) ++ vput vs[k]) := Lib.hid (by rw [List.take_succ_eq_append_getElem hkl, vputs_snoc])
        generalize vs[k] = v at *
        clear hc
        go_wp2_with fail
        refine (put_u8 _ ar nr capr _ v wr HS.out (by omega) HV.out).mono ?_
        rintro e w3 ⟨a3, n3, cap3, rfl, hown, hb3⟩
        rw [← HT.out] at hown
        have HO := Lib.hid (hown.sl.mono (ok' := fun b => b < w3.heap.size) (fun _ h _ => h) (by decide))
        clear hown
        go_wp2
        go_roundw
        case rel => exact ⟨k + 1, a3, n3, cap3, rfl, by go_num, by omega, HO, hb.trans (hb3.mono hb.size)⟩
        case measure => simp [intOf]; omega
      · obtain rfl : k = M := by omega
        first
          | have hdec : decide (k < n) = false := decide_eq_false (by omega)
          | have hdec : decide ((k : Int) < 30) = false := decide_eq_false (by omega)
        go_wp2_with fail
        go_loop [3, 6] (fun bv i => ∃ (j : Nat) (ar : Option Addr) (nr capr : Nat), bv = .slice ar nr capr ∧ i = .int .i64 j ∧ j ≤ k ∧ Hid (Sl (fun b => b < wr.heap.size) wr 1 ar nr capr (u8s (vputs ((vs.take k).drop j)))))
          (fun _ i => k - (intOf i).toNat)
        case atStart => exact ⟨0, ar, nr, capr, rfl, rfl, Nat.zero_le _, HS⟩
        case round =>
          clear HS hnr
          obtain ⟨j, ar, nr, capr, rfl, rfl, hj, HS⟩ := hrel
          have hnr : nr ≤ 300 := by
            have h1 := HS.out.len
            have h2 := vputs_len ((vs.take k).drop j) (fun v hv => HVL.out v (List.mem_of_mem_take (List.mem_of_mem_drop hv)))
            simp only [u8s_length, List.length_take, List.length_drop] at h1 h2
            omega
          by_cases hlt : j < k
          · have hkl : j < vs.length := by rw [HN.out]; omega
            obtain ⟨b, off, rfl, hc⟩ := HC.out j hkl
            have hc2 : wr.cell? ⟨b, off + j, none⟩ = some (.int .u64 ((vs[j] : Nat) : Int)) := (hb.cell (p := ⟨b, off + j, none⟩) (World.block_lt_of_cell? w ⟨b, off + j, none⟩ hc)).trans hc
            have HV : Hid (vs[j] < 18446744073709551616) := Lib.hid (HVL.out _ (List.getElem_mem hkl))
            have HT : Hid (vputs ((vs.take k).drop j) = vput vs[j] ++ vputs ((vs.take k).drop (j + 1))) := Lib.hid (by
              have e : (vs.take k).drop j = vs[j] :: (vs.take k).drop (j + 1) := by
                rw [List.drop_eq_getElem_cons (by rw [List.length_take]; omega), List.getElem_take]
              rw [e]; rfl)
            generalize vs[j] = v at *
            clear hc
            have HG : Hid (vget (vputs ((vs.take k).drop j)) = (v, (vput v).length, 0)) := Lib.hid (by rw [HT.out, vget_vput _ _ HV.out])
            have hle2 : (vput v).length ≤ nr := by
              have h1 := HS.out.len
              rw [HT.out] at h1
              simp only [u8s_length, List.length_append] at h1
              omega
            obtain ⟨a4, hrun, hsl⟩ := HS.out.from (P := Try.prog) (t := 26) Try.underlying26 hi hz1 .i64 ((vput v).length : Int) (by omega) (by omega)
            rw [HT.out, u8s_append, Int.toNat_natCast, Nat.mul_one, List.drop_left' (by simp)] at hsl
            have HSL := Lib.hid hsl; clear hsl
            go_wp2_with fail
            refine (get_u8 _ ar nr capr _ wr HS.out (by omega)).mono ?_
            rintro e w3 ⟨rfl, rfl⟩
            rw [HG.out]
            go_wp2
            go_round
            case rel => exact ⟨j + 1, a4, _, _, rfl, by go_num, by omega, HSL⟩
            case measure => simp [intOf]; omega
          · obtain rfl : j = k := by omega
            have h0 : nr = 0 := by
              have h1 := HS.out.len
              rw [List.drop_eq_nil_of_le (by rw [List.length_take]; omega)] at h1
              simpa [vputs] using h1.symm
            subst h0
            go_wp2
            go_ret
            exact ⟨rfl, hb⟩
end Go.Proofs.Ytklimbadankdkaa
