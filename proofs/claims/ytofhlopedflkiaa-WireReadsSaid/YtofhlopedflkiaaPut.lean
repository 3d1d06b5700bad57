/-
  varint.Put, shredderref3.Put.
-/
import Derived.Test.YtofhlopedflkiaaClone
import Derived.Test.YtofhlopedflkiaaPlain
namespace Go.Proofs.Ytofhlopedflkiaa
open Go.RowKit Go.Shr
set_option maxHeartbeats 400000 in
set_option maxRecDepth 100000 in
theorem put_u8 (ok : Nat → Prop) (a : Option Addr) (n cap : Nat) (bs : List UInt8) (v : Nat) (w : World) (h : Sl ok w 1 a n cap (u8s bs)) (hn : n ≤ 10000000000000) (hv : v < 18446744073709551616) :
    Calls Try.prog 25 #[.slice a n cap, .int .u64 v] w fun e w' => ∃ a' n' cap', e = .returned (.slice a' n' cap') ∧ Own w.heap.size w' 5 1 a' n' cap' (u8s (bs ++ vput v)) ∧ Below w.heap.size w w' := by
  obtain ⟨i0, hi, hz0, hz1, hz2⟩ := info_parts info_u8
  have H := Lib.hid h; clear h; have HV := Lib.hid hv; clear hv
  go_enter Try.func25, Try.ntmps25
  go_wp2
  refine wp_gotoloop 0 (fun a' wr => ∃ (x : Nat) (ar : Option Addr) (nr capr : Nat) (ds : List UInt8) (u0 u2 u3 u4 u6 u7 u8 u9 u10 u11 u12 u13 u14 u15 u16 u17 u18 u19 u20 u21 u22 u23 : Value), a' = { tmps := #[u0, .int .u64 x, u2, u3, u4, .slice ar nr capr, u6, u7, u8, u9, u10, u11, u12, u13, u14, u15, u16, u17, u18, u19, u20, u21, u22, u23], defers := [] } ∧ Hid (ds ++ vput x = bs ++ vput v) ∧ Hid (x < 18446744073709551616) ∧ Hid (Own w.heap.size wr 5 1 ar nr capr (u8s ds)) ∧ Below w.heap.size w wr)
    (fun a' _ => (intOf (a'.tmps.getD 1 undef)).toNat) rfl ?pass ?first
  case first =>
    intro hp; have HP := Lib.hid hp; clear hp
    apply wp_seq_k; intro K hK; have HK := Lib.hid hK; clear hK
    go_wp2_with (go_at_call 27; refine (clone_u8 ok a n cap _ _ H.out (u8s_one _) (by omega)).mono ?_; rintro e w1 ⟨a1, cap1, rfl, hown, hb⟩)
    apply HK.out
    refine wp_label_seq (HP.out _ _ ⟨v, a1, n, cap1, bs, _, _, _, _, _, _, _, _, _, _, _, _, _, _, _, _, _, _, _, _, _, _, rfl, Lib.hid rfl, HV, Lib.hid hown, hb⟩)
  case pass =>
    rintro a' wr ⟨x, ar, nr, capr, ds, u0, u2, u3, u4, u6, u7, u8, u9, u10, u11, u12, u13, u14, u15, u16, u17, u18, u19, u20, u21, u22, u23, rfl, hds, hx, HO, hb⟩
    have hnr : nr ≤ 10000000000010 := by
      have h1 := congrArg List.length hds.out
      have h2 := HO.out.len
      have h3 := H.out.len
      have h4 := vput_len 9 v (by have := HV.out; omega)
      simp only [List.length_append, u8s_length] at h1 h2 h3
      omega
    have HA := HO.out.alloc
    have HAH := Lib.hid HA; clear HA
    by_cases hlt : x < 128
    · go_wp2_with (first
        | (at_builtin; go_must (refine wpList_append (B := w.heap.size) rfl _ _ _ _ rfl i0 (.int .u8 0) 1 Try.underlying30 hi hz0 hz1 hz2 rfl rfl (HAH.out _) _ rfl _ _ (src_one Try.underlying30 wr _ _ rfl) (by simp only [maxLen]; omega) (by omega) (by have := hb.size; simp; omega) ?_); intro a' cap' w' hown hchg hnew)
        | (go_at_call 27; refine (clone_u8 _ a' (nr + 1) cap' _ _ hown.sl ?h1 ?h2).mono ?_))
      case h1 => rw [u8s_snoc _ _ (by omega)]; exact u8s_one _
      case h2 => omega
      rintro e w2 ⟨a2, cap2, rfl, hown2, hb2⟩
      go_wp2
      simp only [Exit.jump]
      go_ret
      refine ⟨a2, nr + 1, cap2, rfl, ?_, ?_⟩
      · rw [← hds.out, vput_last _ hlt, ← u8s_snoc _ _ (by omega)]
        have h1 : w.heap.size ≤ w'.heap.size := Nat.le_trans hb.size (Nat.le_trans (by simp) hchg.size)
        exact hown2.mono h1
      · refine ((hb.alloc hb.size _).trans (hchg.below ?_ ?_)).trans (hb2.mono ?_)
        · have := hb.size; simp; omega
        · rintro i hi ⟨_, h2⟩; omega
        · exact Nat.le_trans hb.size (Nat.le_trans (by simp) hchg.size)
    · have ho := or128 x
      go_wp2_with (first
        | (at_builtin; go_must (refine wpList_append (B := w.heap.size) rfl _ _ _ _ rfl i0 (.int .u8 0) 1 Try.underlying30 hi hz0 hz1 hz2 rfl rfl (HAH.out _) _ rfl _ _ (src_one Try.underlying30 wr _ _ rfl) (by simp only [maxLen]; omega) (by omega) (by have := hb.size; simp; omega) ?_); intro a' cap' w' hown hchg hnew))
      go_step3
      refine ⟨rfl, ⟨x / 128, a', nr + 1, cap', ds ++ [UInt8.ofNat (x % 128 + 128)], _, _, _, _, _, _, _, _, _, _, _, _, _, _, _, _, _, _, _, _, _, _, by congr 1, Lib.hid ?_, Lib.hid (by have := hx.out; omega), Lib.hid ?_, ?_⟩, ?_⟩
      · rw [← vput_step _ (by omega)]; exact hds.out
      · rw [← u8s_snoc _ _ (by omega)]; exact hown
      · exact (hb.alloc hb.size _).trans (hchg.below (by have := hb.size; simp; omega) (fun i hi ⟨_, h2⟩ => by omega))
      · simp [intOf]; omega
end Go.Proofs.Ytofhlopedflkiaa
