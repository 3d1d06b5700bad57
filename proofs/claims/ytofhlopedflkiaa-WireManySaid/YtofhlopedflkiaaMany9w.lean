/-
  The walk of WireMany.
-/
import Derived.Test.YtofhlopedflkiaaBad9
set_option linter.unusedSimpArgs false
namespace Go.Proofs.Ytofhlopedflkiaa
open Go.RowKit Go.Shr
theorem decX_zeros {f : List UInt8 → Rd Tr} {t : Tr} (h : ∀ r, f (0 :: r) = .ok (t, r)) : ∀ (n : Nat) (r : List UInt8), decX f n (List.replicate n 0 ++ r) = .ok (List.replicate n t, r)
  | 0, r => rfl
  | n + 1, r => by
    rw [List.replicate_succ, List.cons_append, decX, h]
    dsimp only
    rw [decX_zeros h n r]
    rfl
theorem vget_two' (N : Nat) (h1 : 128 ≤ N) (h2 : N < 256) (r : List UInt8) : vget (UInt8.ofNat (N % 128 + 128) :: 1 :: r) = (N, 2, 0) := by
  have e : (UInt8.ofNat (N % 128 + 128)).toNat = N % 128 + 128 := by simp; omega
  have e1 : (1 : UInt8).toNat = 1 := rfl
  rw [vget, vgetFrom, e, if_neg (by omega), if_neg (by omega), vgetFrom, e1, if_neg (by omega), if_pos (by omega), if_neg (by omega)]
  have : 0 + (N % 128 + 128) % 128 * 128 ^ 0 + 1 * 128 ^ (0 + 1) = N := by omega
  rw [this]
theorem many_opt (N : Nat) (h1 : 128 ≤ N) (h2 : N < 256) : decR (oneSh 1 1) (UInt8.ofNat (N % 128 + 128) :: 1 :: List.replicate N 0) = if N ≤ 200 then .ok (List.replicate N (.mk 0 ⟨#[]⟩ [[]])) else .error 4 := by
  have hf : ∀ r, decT (oneSh 1 1) (0 :: r) = .ok (.mk 0 ⟨#[]⟩ [[]], r) := fun r => by
    simp [oneSh, decT, decK, rdCnt, Sh.rep, rdBit, decX, rdMap]
  unfold decR rdNum
  rw [vget_two' N h1 h2]
  by_cases h : N ≤ 200
  · rw [if_pos h, if_neg (fun h => h rfl), if_neg (by dsimp only; omega)]
    have := decX_zeros hf N []
    rw [List.append_nil] at this
    simp [this]
  · rw [if_neg h, if_neg (fun h => h rfl), if_pos (by dsimp only; omega)]
theorem many_rep (M : Nat) (h2 : M < 128) : decR (oneSh 2 1) (1 :: UInt8.ofNat M :: List.replicate M 0) = if M ≤ 50 then .ok [.mk 0 ⟨#[]⟩ [List.replicate M (.mk 0 ⟨#[]⟩ [])]] else .error 4 := by
  have hf : ∀ r, decT (.mk ⟨#[97]⟩ 2 1 []) (0 :: r) = .ok (.mk 0 ⟨#[]⟩ [], r) := fun r => by
    simp [decT, rdBit, rdMap]
  have h1 : rdNum 200 4 (1 :: UInt8.ofNat M :: List.replicate M 0) = .ok (1, UInt8.ofNat M :: List.replicate M 0) := rfl
  unfold decR
  rw [h1]
  have hc : rdCnt 2 (UInt8.ofNat M :: List.replicate M 0) = if M ≤ 50 then .ok (M, List.replicate M 0) else .error 4 := by
    rw [rdCnt, if_neg (by decide), if_pos rfl]
    unfold rdNum
    rw [vget_small M h2]
    by_cases h : M ≤ 50
    · rw [if_pos h, if_neg (fun h => h rfl), if_neg (by dsimp only; omega)]; rfl
    · rw [if_neg h, if_neg (fun h => h rfl), if_pos (by dsimp only; omega)]
  have hz := decX_zeros hf M []
  rw [List.append_nil] at hz
  by_cases h : M ≤ 50
  · rw [if_pos h] at hc ⊢
    have hk : decK [.mk ⟨#[97]⟩ 2 1 []] (UInt8.ofNat M :: List.replicate M 0) = .ok ([List.replicate M (.mk 0 ⟨#[]⟩ [])], []) := by
      rw [decK]
      simp only [Sh.rep]
      rw [hc]
      dsimp only
      rw [hz]
      rfl
    have ht : decT (oneSh 2 1) (UInt8.ofNat M :: List.replicate M 0) = .ok (.mk 0 ⟨#[]⟩ [List.replicate M (.mk 0 ⟨#[]⟩ [])], []) := by
      rw [oneSh, decT, if_neg (by decide), if_neg (by decide), if_neg (by decide), if_neg (by decide), hk]; rfl
    simp [decX, ht]
  · rw [if_neg h] at hc ⊢
    have hk : decK [.mk ⟨#[97]⟩ 2 1 []] (UInt8.ofNat M :: List.replicate M 0) = .error 4 := by
      rw [decK]
      simp only [Sh.rep]
      rw [hc]
    have ht : decT (oneSh 2 1) (UInt8.ofNat M :: List.replicate M 0) = .error 4 := by
      rw [oneSh, decT, if_neg (by decide), if_neg (by decide), if_neg (by decide), if_neg (by decide), hk]; rfl
    simp [decX, ht]
set_option maxHeartbeats 2000000 in
set_option maxRecDepth 100000 in
theorem law_many9 (n m : Int) (w : World) (_ : (Lit.int .i64 n).wf = true) (_ : (Lit.int .i64 m).wf = true) :
    Calls Try.prog 8 #[.int .i64 n, .int .i64 m] w fun e w' => e = .returned (.bool true) ∧ Below w.heap.size w w' := by
  obtain ⟨i0, hi0, hz0, hz1, hz2⟩ := info_parts info_u8
  go_enter Try.func8, Try.ntmps8
  go_wp2_with fail
  refine (known9 _).mono ?_
  rintro e w1 ⟨rfl, hb1⟩
  have HB1 := Lib.hid hb1; clear hb1
  go_wp2_with fail
  refine (within_9b n 10 w1 (by decide) (by decide)).mono ?_
  rintro e w2 ⟨rfl, rfl⟩
  obtain ⟨k, hk⟩ : ∃ k : Nat, n % 10 = (k : Int) := ⟨(n % 10).toNat, by omega⟩
  have hk2 : k < 10 := by omega
  rw [hk]
  clear hk
  go_wp2_with fail
  refine (within_9b m 9 w1 (by decide) (by decide)).mono ?_
  rintro e w2 ⟨rfl, rfl⟩
  obtain ⟨q, hq⟩ : ∃ q : Nat, m % 9 = (q : Int) := ⟨(m % 9).toNat, by omega⟩
  have hq2 : q < 9 := by omega
  rw [hq]
  clear hq
  obtain ⟨N, hN⟩ : ∃ N : Nat, N = 195 + k := ⟨_, rfl⟩
  obtain ⟨M, hM⟩ : ∃ M : Nat, M = 46 + q := ⟨_, rfl⟩
  have hN1 : 195 ≤ N := by omega
  have hN2 : N < 205 := by omega
  have hM1 : 46 ≤ M := by omega
  have hM2 : M < 55 := by omega
  have eN : IntKind.i64.wrap (195 + (k : Int)) = (N : Int) := by rw [IntKind.wrap_i64]; omega
  have eM : IntKind.i64.wrap (46 + (q : Int)) = (M : Int) := by rw [IntKind.wrap_i64]; omega
  have eN' : (195 + (k : Int)) = (N : Int) := by omega
  have eM' : (46 + (q : Int)) = (M : Int) := by omega
  clear hN hM
  go_upto_region 4 with fail
  try rw [eN']
  try rw [eM']
  clear eN eM eN' eM' hk2 hq2
  have ho := or128 N
  rw [Int.emod_eq_of_lt (by omega) (by omega)] at ho
  have hsh : (N : Int) / 128 = 1 := by omega
  go_upto_region 5 with fail
  obtain ⟨wF, hwF⟩ : ∃ wF, wF = w1.alloc (.cells #[.string ⟨#[109]⟩, .int .i64 0, .int .i64 0, .int .i64 1, .string ⟨#[97]⟩, .int .i64 1, .int .i64 1, .int .i64 0] 49) := ⟨_, rfl⟩
  have hbF : Below w1.heap.size w1 wF := by rw [hwF]; exact ba (b0 w1) _
  have HR5 := Lib.hid (show Rw wF w1.heap.size #[.string ⟨#[109]⟩, .int .i64 0, .int .i64 0, .int .i64 1, .string ⟨#[97]⟩, .int .i64 1, .int .i64 1, .int .i64 0] 49 by rw [hwF]; exact Rw.new w1 _ _)
  rw [← hwF]
  clear hwF
  have HOW := Lib.hid (Own.new (B := 0) (e := 5) (size := 1) wF #[.int .u8 ((N : Int) % 128 + 128), .int .u8 1] 2 (Nat.zero_le _) (by decide) rfl)
  have HBX := Lib.hid (ba hbF (.cells #[.int .u8 ((N : Int) % 128 + 128), .int .u8 1] 5))
  clear hbF
  go_wp2_with (first
    | (at_builtin; refine wpList_zeros (B := 0) rfl _ _ _ _ rfl i0 (.int .u8 0) Try.underlying30 Try.underlying3 hi0 hz0 rfl hz1 hz2 rfl HOW.out (by decide) N (by omega) (by omega) rfl (Nat.zero_le _) ?_; intro a5 c5 w5 ho5 hb5)
    | fail)
  have eb : #[Value.int .u8 ((N : Int) % 128 + 128), .int .u8 1].toList ++ List.replicate N (Value.int .u8 0) = u8s (UInt8.ofNat (N % 128 + 128) :: 1 :: List.replicate N 0) := by simp [u8s]; omega
  rw [eb] at ho5
  have hbw : Below w1.heap.size w1 w5 := bt HBX.out hb5
  have hl5 : (UInt8.ofNat (N % 128 + 128) :: 1 :: List.replicate N (0 : UInt8)).length = 2 + N := by simp; omega
  have sb := ho5.sl.mono (ok' := fun b => b < w5.heap.size) (fun k hk _ => hk) (by decide)
  have s5 : Sl (fun k => k < w5.heap.size) w5 4 (some ⟨w1.heap.size, 0, none⟩) 2 2 _ := row_sl ((HR5.out.alloc (.cells #[.int .u8 ((N : Int) % 128 + 128), .int .u8 1] 5)).below hb5) 2 4 rfl (by decide)
  have hpv := parse_v (oneFl 1 1) (oneSh 1 1) (one_sch 1 1 (by decide) (by decide) (by decide) (by decide)) (some ⟨w1.heap.size, 0, none⟩) 2 a5 c5 (UInt8.ofNat (N % 128 + 128) :: 1 :: List.replicate N 0) w5 s5 (by rw [hl5]; exact sb) (by rw [hl5]; omega)
  rw [hl5] at hpv
  refine hpv.mono ?_
  rintro e w6 ⟨x, a6, c6, ys, e6, rfl, _, _, hp, hb6⟩
  rw [many_opt N (by omega) (by omega)] at hp
  have hx : Hid ((N ≤ 200 ∧ e6 = 0 ∧ x.length = N) ∨ (200 < N ∧ e6 = 4 ∧ x.length = 0)) := Lib.hid (by
    by_cases h : N ≤ 200
    · rw [if_pos h] at hp
      obtain ⟨rfl, rfl⟩ := hp
      exact .inl ⟨h, rfl, by simp⟩
    · rw [if_neg h] at hp
      obtain ⟨rfl, _, rfl⟩ := hp
      exact .inr ⟨by omega, rfl, rfl⟩)
  have HB6 := Lib.hid (bt (bt HB1.out hbw) hb6)
  generalize x.length = X at *
  clear hb6 sb eb hbw hpv ho5 hb5 hl5 s5 HOW HR5 HBX hp ho hsh HB1
  generalize w1.heap.size = T at *
  go_upto_region 7 with fail
  obtain ⟨wG, hwF⟩ : ∃ wF, wF = w6.alloc (.cells #[.string ⟨#[109]⟩, .int .i64 0, .int .i64 0, .int .i64 1, .string ⟨#[97]⟩, .int .i64 2, .int .i64 1, .int .i64 0] 49) := ⟨_, rfl⟩
  have hbF : Below w6.heap.size w6 wG := by rw [hwF]; exact ba (b0 w6) _
  have HR8 := Lib.hid (show Rw wG w6.heap.size #[.string ⟨#[109]⟩, .int .i64 0, .int .i64 0, .int .i64 1, .string ⟨#[97]⟩, .int .i64 2, .int .i64 1, .int .i64 0] 49 by rw [hwF]; exact Rw.new w6 _ _)
  rw [← hwF]
  clear hwF
  have HOW := Lib.hid (Own.new (B := 0) (e := 5) (size := 1) wG #[.int .u8 1, .int .u8 (M : Int)] 2 (Nat.zero_le _) (by decide) rfl)
  have HBX := Lib.hid (ba hbF (.cells #[.int .u8 1, .int .u8 (M : Int)] 5))
  clear hbF
  go_wp2_with (first
    | (at_builtin; refine wpList_zeros (B := 0) rfl _ _ _ _ rfl i0 (.int .u8 0) Try.underlying30 Try.underlying3 hi0 hz0 rfl hz1 hz2 rfl HOW.out (by decide) M (by omega) (by omega) rfl (Nat.zero_le _) ?_; intro a5 c5 w7 ho5 hb5)
    | fail)
  have eb : #[Value.int .u8 1, .int .u8 (M : Int)].toList ++ List.replicate M (Value.int .u8 0) = u8s (1 :: UInt8.ofNat M :: List.replicate M 0) := by simp [u8s]; omega
  rw [eb] at ho5
  have hbw : Below w6.heap.size w6 w7 := bt HBX.out hb5
  have hl5 : (1 :: UInt8.ofNat M :: List.replicate M (0 : UInt8)).length = 2 + M := by simp; omega
  have sb := ho5.sl.mono (ok' := fun b => b < w7.heap.size) (fun k hk _ => hk) (by decide)
  have s8 : Sl (fun k => k < w7.heap.size) w7 4 (some ⟨w6.heap.size, 0, none⟩) 2 2 _ := row_sl ((HR8.out.alloc (.cells #[.int .u8 1, .int .u8 (M : Int)] 5)).below hb5) 2 4 rfl (by decide)
  have hpv := parse_v (oneFl 2 1) (oneSh 2 1) (one_sch 2 1 (by decide) (by decide) (by decide) (by decide)) (some ⟨w6.heap.size, 0, none⟩) 2 a5 c5 (1 :: UInt8.ofNat M :: List.replicate M 0) w7 s8 (by rw [hl5]; exact sb) (by rw [hl5]; omega)
  rw [hl5] at hpv
  refine hpv.mono ?_
  rintro e w8 ⟨y, a8, c8, zs, e8, rfl, hys, hyr, hp, hb8⟩
  rw [many_rep M (by omega)] at hp
  have HB8 := Lib.hid (bt (bt HB6.out hbw) hb8)
  have HYS := Lib.hid hys; have HYR := Lib.hid hyr
  clear hb8 sb eb hbw hpv ho5 hb5 hl5 s8 HOW HR8 HBX HB6 hys hyr
  generalize w6.heap.size = T2 at *
  by_cases hm50 : M ≤ 50
  · rw [if_pos hm50] at hp
    obtain ⟨rfl, rfl⟩ := hp
    have hm50' : (M : Int) ≤ 50 := by omega
    obtain ⟨g, goff, rfl, _, hgc⟩ := HYS.out.pos (by simp)
    have hyr := HYR.out
    simp only [RowG, TrG, KidG] at hyr
    obtain ⟨d0, d1, d2, yr, rfl, ⟨aK, mK, cK, xsK, hcs, _, hsK, aL, mL, cL, yL, xr, rfl, hmL, _, _, rfl⟩, rfl⟩ := hyr
    simp at hcs
    obtain ⟨rfl, rfl, rfl⟩ := hcs
    have hmK : mK = 1 := by have := hsK.len; simpa using this.symm
    subst hmK
    obtain ⟨gK, koff, rfl, _, hkc⟩ := hsK.pos (by decide)
    have z2 := hgc 2 _ rfl
    have zk := hkc 0 _ rfl
    rw [Nat.add_zero] at zk
    have hmL' : mL = M := by rw [hmL]; simp
    subst hmL'
    clear hgc hkc hsK hmL hm50
    rcases hx.out with ⟨h1, rfl, rfl⟩ | ⟨h1, rfl, rfl⟩
    · have h1' : (X : Int) ≤ 200 := by omega
      clear h1
      go_wp2_with fail
      go_ret
      exact ⟨rfl, HB8.out⟩
    · have h1' : ¬ (N : Int) ≤ 200 := by omega
      have h1'' : (200 : Int) < (N : Int) := by omega
      clear h1
      go_wp2_with fail
      go_ret
      exact ⟨rfl, HB8.out⟩
  · rw [if_neg hm50] at hp
    obtain ⟨rfl, _, rfl⟩ := hp
    have hm50' : ¬ (M : Int) ≤ 50 := by omega
    have hm50'' : (50 : Int) < (M : Int) := by omega
    clear hm50
    rcases hx.out with ⟨h1, rfl, rfl⟩ | ⟨h1, rfl, rfl⟩
    · have h1' : (X : Int) ≤ 200 := by omega
      clear h1
      go_wp2_with fail
      go_ret
      exact ⟨rfl, HB8.out⟩
    · have h1' : ¬ (N : Int) ≤ 200 := by omega
      have h1'' : (200 : Int) < (N : Int) := by omega
      clear h1
      go_wp2_with fail
      go_ret
      exact ⟨rfl, HB8.out⟩
end Go.Proofs.Ytofhlopedflkiaa
