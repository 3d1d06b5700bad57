/-
  The walk of ShredMany.
-/
import Derived.Test.YtibhcibcfommeaaManyW14
import Derived.Test.YtibhcibcfommeaaWith14
set_option linter.unusedSimpArgs false
namespace Go.Proofs.Ytibhcibcfommeaa
open Go.RowKit Go.Shr
theorem fls_two14 : fls twoL14 = #[Value.string ⟨#[109]⟩, .int .i64 0, .int .i64 0, .int .i64 1, .string ⟨#[97]⟩, .int .i64 2, .int .i64 1, .int .i64 0].toList := rfl
/-- What is told of so many records of so many values. -/
def ManyQ (n k : Nat) (w : World) (e : Ending) (w' : World) : Prop :=
  Below w.heap.size w w' ∧ ((200 < n ∨ 4000 < n * k) ∧ e = .returned (.tuple #[.slice none 0 0, .int .i64 4]) ∨
    (n ≤ 200 ∧ n * k ≤ 4000) ∧ ∃ bc a2 c2, e = .returned (.tuple #[.slice (some ⟨bc, 0, none⟩) 1 1, .int .i64 0]) ∧ w'.cell? ⟨bc, 2, none⟩ = some (.slice a2 (n * k) c2))
theorem colsMany {n k : Nat} (hk : 0 < k) (hk5 : k ≤ 50) (sa ra : Option Addr) (rc : Nat) (ys : List Value) (w : World) (hs : Sl (fun b => b < w.heap.size) w 4 sa 2 2 (fls twoL14))
    (hr : Sl (fun b => b < w.heap.size) w 3 ra n rc ys) (hrow : RowG (fun b => b < w.heap.size) w (kRows n k) ys) :
    Calls Try.prog 16 #[.slice sa 2 2, .slice ra n rc] w (ManyQ n k w) := by
  have hl : (kRows n k).length = n := by simp [kRows]
  have h := Cols_v two_sch14 two_wy14 two_rep14 (kRows n k) sa ra 2 rc ys w hs (by rw [hl]; exact hr) hrow
  rw [hl] at h
  refine h.mono ?_
  rintro e w2 ⟨hb, ⟨hne, rfl⟩ | ⟨hz, B, bc, cur, aa, cc, rfl, hbc, hct⟩⟩
  · refine ⟨hb, .inl ?_⟩
    rw [kRows_colsE n hk hk5] at hne ⊢
    by_cases h1 : 200 < n
    · rw [if_pos h1]; exact ⟨.inl h1, rfl⟩
    · rw [if_neg h1] at hne ⊢
      by_cases h2 : 4000 < n * k
      · rw [if_pos h2]; exact ⟨.inr h2, rfl⟩
      · rw [if_neg h2] at hne; exact absurd rfl hne
  · refine ⟨hb, .inr ?_⟩
    rw [kRows_colsE n hk hk5] at hz
    rw [two_leafs14] at hct ⊢
    have e2 := hct.cell2 (k := 0) (by decide)
    have hv : (celV (rowsC (([1] : List Nat).getD 0 0) twoSh14 (kRows n k))).length = n * k := kRows_vals n hk
    rw [hv] at e2
    refine ⟨?_, bc, _, _, rfl, e2⟩
    by_cases h1 : 200 < n
    · rw [if_pos h1] at hz; cases hz
    · rw [if_neg h1] at hz
      by_cases h2 : 4000 < n * k
      · rw [if_pos h2] at hz; cases hz
      · omega
set_option maxHeartbeats 2000000 in
set_option maxRecDepth 100000 in
theorem law_many14 (x0 x1 : Int) (w : World) (_ : (Lit.int .i64 x0).wf = true) (_ : (Lit.int .i64 x1).wf = true) :
    Calls Try.prog 7 #[.int .i64 x0, .int .i64 x1] w fun e w' => e = .returned (.bool true) ∧ Below w.heap.size w w' := by
  go_enter Try.func7, Try.ntmps7
  go_wp2_with fail
  refine (known14 _).mono ?_
  rintro e w1 ⟨rfl, hb1⟩
  have HB1 := Lib.hid hb1; clear hb1
  go_wp2_with fail
  refine (within_14 x0 6 w1 (by decide) (by decide)).mono ?_
  rintro e w2 ⟨rfl, rfl⟩
  obtain ⟨k, hk⟩ : ∃ k : Nat, x0 % 6 = (k : Int) := ⟨(x0 % 6).toNat, by omega⟩
  have hk2 : k < 6 := by omega
  rw [hk]
  clear hk
  go_wp2_with fail
  refine (within_14 x1 5 w1 (by decide) (by decide)).mono ?_
  rintro e w2 ⟨rfl, rfl⟩
  obtain ⟨q, hq⟩ : ∃ q : Nat, x1 % 5 = (q : Int) := ⟨(x1 % 5).toNat, by omega⟩
  have hq2 : q < 5 := by omega
  rw [hq]
  clear hq
  obtain ⟨N, hN⟩ : ∃ N : Nat, N = 197 + k := ⟨_, rfl⟩
  obtain ⟨M, hM⟩ : ∃ M : Nat, M = 78 + q := ⟨_, rfl⟩
  have hN1 : 197 ≤ N := by omega
  have hN2 : N < 203 := by omega
  have hM1 : 78 ≤ M := by omega
  have hM2 : M < 83 := by omega
  have eN : IntKind.i64.wrap (197 + (k : Int)) = (N : Int) := by rw [IntKind.wrap_i64]; omega
  have eM : IntKind.i64.wrap (78 + (q : Int)) = (M : Int) := by rw [IntKind.wrap_i64]; omega
  have eN' : (197 + (k : Int)) = (N : Int) := by omega
  have eM' : (78 + (q : Int)) = (M : Int) := by omega
  clear hN hM
  go_upto_region 4 with fail
  try rw [eN']
  try rw [eM']
  clear eN eM eN' eM' hk2 hq2
  go_upto_region 5 with fail
  obtain ⟨wF, hwF⟩ : ∃ wF, wF = w1.alloc (.cells #[.string ⟨#[109]⟩, .int .i64 0, .int .i64 0, .int .i64 1, .string ⟨#[97]⟩, .int .i64 2, .int .i64 1, .int .i64 0] 51) := ⟨_, rfl⟩
  have hbF : Below w1.heap.size w1 wF := by rw [hwF]; exact ba (b0 w1) _
  have hR5 : Rw wF w1.heap.size #[.string ⟨#[109]⟩, .int .i64 0, .int .i64 0, .int .i64 1, .string ⟨#[97]⟩, .int .i64 2, .int .i64 1, .int .i64 0] 51 := by rw [hwF]; exact Rw.new w1 _ _
  rw [← hwF]
  clear hwF
  have hS := Rw.sl hR5 2 4 rfl (by decide)
  rw [← fls_two14] at hS
  have HS := Lib.hid hS; have HBF := Lib.hid (bt HB1.out hbF)
  clear hS hR5 hbF
  obtain ⟨b5, hb5⟩ : ∃ b, b = w1.heap.size := ⟨_, rfl⟩
  rw [← hb5] at HS ⊢
  clear hb5
  go_wp2_with fail
  refine (manyw_v N 1 (by omega) (by decide) wF).mono ?_
  rintro e w3 ⟨a3, c3, ys3, rfl, hs3, hr3, hb3⟩
  have HB3 := Lib.hid (bt HBF.out hb3); have HS3 := Lib.hid (slb HS.out hb3)
  have HSL := Lib.hid (hs3.mono (ok' := fun b => b < w3.heap.size) (fun k hk _ => hk) (by decide))
  have HROW := Lib.hid (RowAt.g _ _ hr3.at)
  clear hs3 hr3 hb3 HS HBF HB1
  go_wp2_with fail
  refine (colsMany (n := N) (k := 1) (by decide) (by decide) (some ⟨b5, 0, none⟩) a3 c3 ys3 w3 HS3.out HSL.out HROW.out).mono ?_
  rintro e w4 ⟨hb4, hq⟩
  have HB4 := Lib.hid (bt HB3.out hb4); have HS4 := Lib.hid (slb HS3.out hb4)
  obtain ⟨r6, e7, he, HE⟩ : ∃ (r6 : Value) (e7 : Int), e = .returned (.tuple #[r6, .int .i64 e7]) ∧ Hid (200 < N ∧ e7 = 4 ∨ N ≤ 200 ∧ e7 = 0) := by
    rcases hq with ⟨h, rfl⟩ | ⟨h, bc, a2, c2, rfl, _⟩
    · exact ⟨_, _, rfl, Lib.hid (.inl ⟨by omega, rfl⟩)⟩
    · exact ⟨_, _, rfl, Lib.hid (.inr ⟨h.1, rfl⟩)⟩
  subst he
  clear hq hb4 HSL HROW HS3 HB3
  go_wp2_with fail
  refine (manyw_v M 50 (by omega) (by decide) w4).mono ?_
  rintro e w5 ⟨a5, c5, ys5, rfl, hs5, hr5, hb5⟩
  have HB5 := Lib.hid (bt HB4.out hb5); have HS5 := Lib.hid (slb HS4.out hb5)
  have HSL := Lib.hid (hs5.mono (ok' := fun b => b < w5.heap.size) (fun k hk _ => hk) (by decide))
  have HROW := Lib.hid (RowAt.g _ _ hr5.at)
  clear hs5 hr5 hb5 HS4 HB4
  go_wp2_with fail
  refine (colsMany (n := M) (k := 50) (by decide) (by decide) (some ⟨b5, 0, none⟩) a5 c5 ys5 w5 HS5.out HSL.out HROW.out).mono ?_
  rintro e w6 ⟨hb6, hq⟩
  have HB6 := Lib.hid (bt HB5.out hb6)
  clear hb6 HSL HROW HS5 HB5
  rcases hq with ⟨h, rfl⟩ | ⟨h, bc, a2, c2, rfl, hcell⟩
  · have hm8 : 80 < M := by omega
    clear h
    rcases HE.out with ⟨h7, rfl⟩ | ⟨h7, rfl⟩
    · go_wp2_with fail
      go_ret
      exact ⟨rfl, HB6.out⟩
    · go_wp2_with fail
      go_ret
      exact ⟨rfl, HB6.out⟩
  · have hm8 : M ≤ 80 := by omega
    have hcell' : w6.cell? ⟨bc, 2, none⟩ = some (.slice a2 (M * 50) c2) := hcell
    clear h hcell
    rcases HE.out with ⟨h7, rfl⟩ | ⟨h7, rfl⟩
    · go_wp2_with fail
      go_ret
      exact ⟨rfl, HB6.out⟩
    · go_wp2_with fail
      go_ret
      exact ⟨rfl, HB6.out⟩
end Go.Proofs.Ytibhcibcfommeaa
