/-
  The walk of WireFronts.
-/
import Derived.Test.YtofhlopedflkiaaDecP
import Derived.Test.YtofhlopedflkiaaParse9
import Derived.Test.YtofhlopedflkiaaWRows9
set_option linter.unusedSimpArgs false
namespace Go.Proofs.Ytofhlopedflkiaa
open Go.RowKit Go.Shr
theorem many_enc7 {ns : List Int} {zz : List (List Int)} (hwf : ∀ z ∈ zz, ∀ v ∈ z, (Lit.int .i64 v).wf = true) : (encR (makeSh ns) (manyT (makeSh ns) zz)).length ≤ 7000000000000 := by
  have h1 := flat_many _ (many_le (ns := ns) hwf)
  have h2 := manyT_len (makeSh ns) zz
  have h3 := vput_len 9 (manyT (makeSh ns) zz).length (by omega)
  have h4 : (manyT (makeSh ns) zz).length * 420000000000 ≤ 16 * 420000000000 := Nat.mul_le_mul_right _ h2
  rw [encR, List.length_append]; omega
theorem within_9 (a n : Int) (w : World) (hn : 0 < n) (hn2 : n ≤ 100000000000000) : Calls Try.prog 19 #[.int .i64 a, .int .i64 n] w fun e w' => e = .returned (.int .i64 (a % n)) ∧ w = w' := by
  have h1 := Int.tmod_lt_of_pos a hn
  have h3 : -n < a.tmod n := by
    have := Int.lt_tmod_of_pos a hn
    omega
  have H := Lib.hid (tmod_fix a n hn)
  go_enter Try.func19, Try.ntmps19
  go_wp2
  · go_ret
    exact ⟨ret_i (H.out.1 (by assumption)), rfl⟩
  · go_ret
    exact ⟨ret_i (H.out.2 (by assumption)), rfl⟩
set_option maxHeartbeats 2000000 in
set_option maxRecDepth 100000 in
theorem law_fronts (a0 : Option Addr) (n0 c0 : Nat) (z0 : List Int) (a1 : Option Addr) (n1 c1 : Nat) (zz : List (List Int)) (xs1 : List Value) (at' : Int) (a3 : Option Addr) (n3 c3 : Nat) (more : List UInt8) (w : World) (h0 : Sl (fun b => b < w.heap.size) w 1 a0 n0 c0 (ints z0)) (w0 : ∀ z ∈ z0, (Lit.int .i64 z).wf = true) (h1 : Sl (fun b => b < w.heap.size) w 1 a1 n1 c1 xs1) (h1r : IRows w zz xs1) (w1 : ∀ z ∈ zz, ∀ v ∈ z, (Lit.int .i64 v).wf = true)
    (_ : (Lit.int .i64 at').wf = true) (h3 : Sl (fun b => b < w.heap.size) w 1 a3 n3 c3 (u8s more)) :
    Calls Try.prog 9 #[.slice a0 n0 c0, .slice a1 n1 c1, .int .i64 at', .slice a3 n3 c3] w fun e w' => e = .returned (.bool true) ∧ Below w.heap.size w w' := by
  obtain ⟨i0, hi0, hz0, hz1, hz2⟩ := info_parts info_u8
  have hn3 : n3 = more.length := by have := h3.len; simpa using this.symm
  subst hn3
  have hmx3 := Nat.le_trans h3.le h3.max
  unfold maxLen at hmx3
  have H0 := Lib.hid h0; have H1 := Lib.hid h1; have HR := Lib.hid h1r; have W0 := Lib.hid w0; have W1 := Lib.hid w1; have H3 := Lib.hid h3
  clear h0 h1 h1r w0 w1 h3
  go_enter Try.func9, Try.ntmps9
  go_wp2_with fail
  refine (known9 _).mono ?_
  rintro e w1 ⟨rfl, hb1⟩
  have HB1 := Lib.hid hb1; clear hb1
  by_cases hm0 : more.length = 0
  · rw [hm0]
    go_wp2_with fail
    go_ret
    exact ⟨rfl, HB1.out⟩
  have hm0b : ((more.length : Int) == 0) = false := beq_eq_false_iff_ne.2 (by omega)
  by_cases hm50 : 50 < more.length
  · have hm50' : (50 : Int) < (more.length : Int) := by omega
    go_wp2_with fail
    go_ret
    exact ⟨rfl, HB1.out⟩
  have hm50' : ¬ (50 : Int) < (more.length : Int) := by omega
  have hm50'' : more.length ≤ 50 := by omega
  have HMP : Hid (0 < more.length) := Lib.hid (by omega)
  clear hm50 hm0
  go_wp2_with fail
  clear hm0b hm50'
  refine (make5 a0 n0 c0 z0 w1 (slb H0.out HB1.out) W0.out).mono ?_
  rintro e w2 ⟨a, cap, rfl, ho, hb2⟩
  have HSC := Lib.hid (Sl.mono (ok' := fun b => b < w2.heap.size) ho.sl (fun k hk _ => hk) (by decide))
  have HB2 := Lib.hid (bt HB1.out hb2)
  clear ho hb2
  go_wp2_with fail
  refine (many_v (makeL z0) (makeSh z0) (make_sch z0) a cap a1 n1 c1 zz xs1 w2 HSC.out (slb H1.out HB2.out) (HR.out.below HB2.out) W1.out).mono ?_
  rintro e w3 ⟨al, cl, ys, rfl, hsl, hrow, hb3⟩
  have HB3 := Lib.hid (bt HB2.out hb3); have HSC3 := Lib.hid (slb HSC.out hb3)
  have HSL := Lib.hid (hsl.mono (ok' := fun b => b < w3.heap.size) (fun k hk _ => hk) (by decide))
  have HROW := Lib.hid hrow.at
  have HOKS := Lib.hid (many_ok W1.out (makeSh z0)); have HENC := Lib.hid (many_enc7 (ns := z0) W1.out)
  have hx16 := manyT_len (makeSh z0) zz
  have HSCH := Lib.hid (make_sch z0)
  generalize manyT (makeSh z0) zz = x at *
  generalize makeL z0 = L at *
  generalize makeSh z0 = sh at *
  clear hsl hrow hb3 HB2 HSC HB1 H0 H1 HR W0 W1
  go_wp2_with fail
  refine (bytes_v L sh HSCH.out a cap x al cl ys w3 HSC3.out HSL.out HROW.out (Nat.le_trans HENC.out (by decide))).mono ?_
  rintro e w4 ⟨a4, c4, rfl, ho4, hb4⟩
  have HB4 := Lib.hid (bt HB3.out hb4); have HSC4 := Lib.hid (slb HSC3.out hb4)
  have hs4 := ho4.sl.mono (ok' := fun b => b < w4.heap.size) (fun k hk _ => hk) (by decide)
  have HFR := Lib.hid (fun m => decR_front sh x m (by omega) HOKS.out); have HMO := Lib.hid (decR_more sh x more (by omega) HOKS.out HMP.out)
  have hep : 0 < (encR sh x).length := by have := vput_pos x.length; unfold encR; rw [List.length_append]; omega
  have hel := HENC.out
  generalize hEd : encR sh x = E at *
  have hep' : (0 : Int) < (E.length : Int) := by omega
  obtain ⟨m, hm⟩ : ∃ m : Nat, at' % (E.length : Int) = (m : Int) := ⟨(at' % (E.length : Int)).toNat, by have := Int.emod_nonneg at' (show (E.length : Int) ≠ 0 by omega); omega⟩
  have hml : m < E.length := by have := Int.emod_lt_of_pos at' hep'; omega
  obtain ⟨a5, hr5, hs5⟩ := Sl.upto (P := Try.prog) (t := 30) Try.underlying30 hi0 hz1 hs4 .i64 (m : Int) (by omega) (by omega)
  rw [Int.toNat_natCast] at hr5 hs5
  rw [Nat.mul_one, show (u8s E).take m = u8s (E.take m) by simp [u8s]] at hs5
  have hl5 : (E.take m).length = m := by simp; omega
  have HS4 := Lib.hid hs4; have HS5 := Lib.hid hs5; have HM := Lib.hid hm; have HL5 := Lib.hid hl5
  have HF := Lib.hid (HFR.out m hml)
  clear ho4 hb4 hs4 hs5 HROW HSL HB3 HSC3 HFR hEd hm hl5
  go_wp2_with fail
  refine (within_9 at' (E.length : Int) w4 hep' (by omega)).mono ?_
  rintro e w5 ⟨rfl, rfl⟩
  rw [HM.out]
  go_wp2_with fail
  have hpv := parse_v L sh HSCH.out a cap a5 c4 (E.take m) w4 HSC4.out (by rw [HL5.out]; exact HS5.out) (by rw [HL5.out]; omega)
  rw [HL5.out] at hpv
  refine hpv.mono ?_
  rintro e w6 ⟨y, a6, c6, ys6, e6, rfl, hs6, hr6, hp6, hb6⟩
  rw [HF.out] at hp6
  obtain ⟨rfl, _, rfl⟩ := hp6
  have HB6 := Lib.hid (bt HB4.out hb6); have HSC6 := Lib.hid (slb HSC4.out hb6); have HS6 := Lib.hid (slb HS4.out hb6)
  clear hs6 hr6 hb6 hpv hr5 HS5
  have SRC1 := Lib.hid (((HS6.out.alloc (.cells #[] 5)).src (P := Try.prog) (tx := 30) Try.underlying30 (u8s_one _)))
  have HB36 := Lib.hid HB6.out
  have H36 := Lib.hid (slb H3.out HB6.out)
  go_wp2_with (first
    | (at_builtin; refine wpList_append (B := 0) rfl _ _ _ _ rfl i0 (.int .u8 0) 1 Try.underlying30 hi0 hz0 hz1 hz2 rfl rfl HO7.out _ rfl _ _ SRC2.out (by simp only [maxLen]; omega) (by omega) (Nat.zero_le _) ?_; intro a8 c8 w8 ho8 hc8 hn8)
    | (at_builtin; refine wpList_fresh (B := 0) rfl _ _ _ _ rfl i0 (.int .u8 0) 1 Try.underlying30 hi0 hz0 hz1 hz2 rfl rfl _ rfl _ _ SRC1.out (by simp only [maxLen]; omega) (by omega) (Nat.zero_le _) ?_; intro a7 c7 w7 ho7 hb7 hn7; (have HO7 := Lib.hid ho7); (have hb67 : Below w6.heap.size w6 w7 := bt (ba (b0 w6) _) hb7); (have HB67 := Lib.hid hb67); (have HN7 := Lib.hid hn7); (have SRC2 := Lib.hid ((slb H36.out hb67).src (P := Try.prog) (tx := 30) Try.underlying30 (u8s_one _))); clear ho7 hb7 hn7 hb67)
    | fail)
  have hn7' : ∀ k, blk a7 k → w6.heap.size ≤ k := fun k hk => by
    rcases HN7.out k hk with ⟨_, _, e⟩ | h
    · cases e; exact Nat.le_refl _
    · simp at h; omega
  have hb8 : Below w6.heap.size w6 w8 := Chg.bt HB67.out hc8 (fun i hi h => by have := hn7' i h.1; omega)
  have hs8 : Sl (fun b => b < w8.heap.size) w8 1 a8 (E ++ more).length c8 (u8s (E ++ more)) := by
    rw [List.length_append, u8s_append]; exact ho8.sl.mono (fun k hk _ => hk) (by decide)
  have HS8 := Lib.hid hs8; have HB8 := Lib.hid hb8
  have hem : (E ++ more).length = E.length + more.length := List.length_append
  have HEM := Lib.hid hem
  clear ho8 hc8 hn8 hn7' hb8 hs8 hem SRC1 SRC2
  have hpv := parse_v L sh HSCH.out a cap a8 c8 (E ++ more) w8 (slb HSC6.out HB8.out) HS8.out (by rw [HEM.out]; omega)
  rw [HEM.out] at hpv
  refine hpv.mono ?_
  rintro e w9 ⟨y, a9, c9, ys9, e9, rfl, hs9, hr9, hp9, hb9⟩
  rw [HMO.out] at hp9
  obtain ⟨rfl, _, rfl⟩ := hp9
  have HB9 := Lib.hid (bt (bt HB6.out HB8.out) hb9)
  clear hs9 hr9 hb9 hpv
  go_wp2_with fail
  go_ret
  exact ⟨rfl, HB9.out⟩
end Go.Proofs.Ytofhlopedflkiaa
