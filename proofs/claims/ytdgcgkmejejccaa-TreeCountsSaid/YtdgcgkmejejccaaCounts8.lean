/-
  The walk of TreeCounts.
-/
import Derived.Test.YtdgcgkmejejccaaWithin8
set_option linter.unusedSimpArgs false
namespace Go.Proofs.Ytdgcgkmejejccaa
open Go.RowKit Go.Shr
theorem info_t : (Try.prog.info? 25).map (fun i => (i.zero, i.size, i.bytes)) = some (some (.agg #[.int .i64 0, .string ByteArray.empty, .slice none 0 0]), 3, 48) := by kernel_rfl
def zT : Tr := .mk 0 ByteArray.empty []
theorem row_zT (w : World) : ∀ m : Nat, RowAt w (List.replicate m zT) (List.replicate m [Value.int .i64 0, .string ByteArray.empty, .slice none 0 0]).flatten
  | 0 => by simp [RowAt]
  | m + 1 => by
    rw [List.replicate_succ, List.replicate_succ, List.flatten_cons]
    simp only [RowAt]
    refine ⟨_, _, _, _, rfl, ?_, row_zT w m⟩
    simp only [zT, TrAt, KidAt]
    exact ⟨none, 0, 0, [], rfl, by decide, Sl.nil _ _ _ _, rfl⟩
theorem fit_zT (r : Int) : ∀ m : Nat, fitX (oneL r 3) (KF (oneL r 3)) (List.replicate m zT) 1 = 0
  | 0 => by simp [fitX]
  | m + 1 => by
    rw [List.replicate_succ]
    have h : fitT (oneL r 3) (KF (oneL r 3)) zT 1 = 0 := by
      rw [fitT_eq]
      have he : ByteArray.empty.toList = [] := by rw [ByteArray.toList_eq]; rfl
      simp [flAt, oneL, leafT, zT, Tr.n, Tr.s, Tr.kids, he]
    simp only [fitX, h, ne_eq, not_true_eq_false, if_false]
    exact fit_zT r m
set_option maxHeartbeats 1000000 in
theorem law_counts (rep n : Int) (w : World) (_ : (Lit.int .i64 rep).wf = true) (_ : (Lit.int .i64 n).wf = true) :
    Calls Try.prog 4 #[.int .i64 rep, .int .i64 n] w fun e w' => e = .returned (.bool true) ∧ Below w.heap.size w w' := by
  go_enter Try.func4, Try.ntmps4
  go_wp2_with fail
  refine (known8 _).mono ?_
  rintro e w1 ⟨rfl, hb1⟩
  have HB1 := Lib.hid hb1; clear hb1
  go_wp2_with fail
  refine (within_8 rep 3 w1 (by decide) (by decide)).mono ?_
  rintro e w2 ⟨rfl, rfl⟩
  go_wp2_with fail
  refine (within_8 n 53 w1 (by decide) (by decide)).mono ?_
  rintro e w2 ⟨rfl, rfl⟩
  have r1 := Int.emod_nonneg rep (show (3 : Int) ≠ 0 by decide)
  have r2 := Int.emod_lt_of_pos rep (show (0 : Int) < 3 by decide)
  have n1 := Int.emod_nonneg n (show (53 : Int) ≠ 0 by decide)
  have n2 := Int.emod_lt_of_pos n (show (0 : Int) < 53 by decide)
  generalize rep % 3 = r at *
  obtain ⟨m, hm⟩ : ∃ m : Nat, n % 53 = (m : Int) := ⟨(n % 53).toNat, by omega⟩
  rw [hm] at n1 n2 ⊢
  have HM := Lib.hid hm; clear hm
  obtain ⟨it, hit, hz0t, hz1t, hz2t⟩ := info_parts info_t
  have hmk : ∀ w, (Instr.makeSlice 40 (.int .i64 (m : Int)) (.int .i64 (m : Int))).run Try.prog w = .ok (.slice (some ⟨w.heap.size, 0, none⟩) m m) (w.alloc (.cells (madeCells #[.int .i64 0, .string ByteArray.empty, .slice none 0 0] (m * 3)) 25)) := fun w => by
    have h := run_make (P := Try.prog) w 40 25 it _ Try.underlying40 hit hz0t .i64 .i64 (m : Int) (m : Int) n1 (Int.le_refl _) (by rw [hz2t]; omega) (by omega)
    rw [hz1t] at h
    simp only [Int.toNat_natCast] at h
    exact h
  go_wp2_with fail
  have rA := Rw.new w1 #[.string ⟨#[109]⟩, .int .i64 0, .int .i64 0, .int .i64 1, .string ⟨#[97]⟩, .int .i64 r, .int .i64 3, .int .i64 0] 39
  have hbA := ba (b0 w1) (.cells #[.string ⟨#[109]⟩, .int .i64 0, .int .i64 0, .int .i64 1, .string ⟨#[97]⟩, .int .i64 r, .int .i64 3, .int .i64 0] 39)
  have hzA : (w1.alloc (.cells #[.string ⟨#[109]⟩, .int .i64 0, .int .i64 0, .int .i64 1, .string ⟨#[97]⟩, .int .i64 r, .int .i64 3, .int .i64 0] 39)).heap.size = w1.heap.size + 1 := by simp
  generalize w1.alloc (.cells #[.string ⟨#[109]⟩, .int .i64 0, .int .i64 0, .int .i64 1, .string ⟨#[97]⟩, .int .i64 r, .int .i64 3, .int .i64 0] 39) = wA at rA hbA hzA ⊢
  have rB : Rw (wA.alloc (.cells (madeCells #[.int .i64 0, .string ByteArray.empty, .slice none 0 0] (m * 3)) 25)) (w1.heap.size + 1) (madeCells #[.int .i64 0, .string ByteArray.empty, .slice none 0 0] (m * 3)) 25 := Rw.new' hzA
  have hbB := ba (b0 wA) (.cells (madeCells #[.int .i64 0, .string ByteArray.empty, .slice none 0 0] (m * 3)) 25)
  have hzB : (wA.alloc (.cells (madeCells #[.int .i64 0, .string ByteArray.empty, .slice none 0 0] (m * 3)) 25)).heap.size = w1.heap.size + 1 + 1 := by simp [hzA]
  generalize wA.alloc (.cells (madeCells #[.int .i64 0, .string ByteArray.empty, .slice none 0 0] (m * 3)) 25) = wB at rB hbB hzB ⊢
  have rC : Rw (wB.alloc (.cells #[.slice (some ⟨w1.heap.size + 1, 0, none⟩) m m] 40)) (w1.heap.size + 1 + 1) #[.slice (some ⟨w1.heap.size + 1, 0, none⟩) m m] 40 := Rw.new' hzB
  have hbC := ba (b0 wB) (.cells #[.slice (some ⟨w1.heap.size + 1, 0, none⟩) m m] 40)
  generalize wB.alloc (.cells #[.slice (some ⟨w1.heap.size + 1, 0, none⟩) m m] 40) = wC at rC hbC ⊢
  have hS : Sl (fun b => b < wC.heap.size) wC 4 (some ⟨w1.heap.size, 0, none⟩) 2 2 (fls (oneL r 3)) := Rw.sl ((rA.below hbB).below hbC) 2 4 rfl (by decide)
  have hX : Sl (fun b => b < wC.heap.size) wC 3 (some ⟨w1.heap.size + 1, 0, none⟩) m m (List.replicate m [Value.int .i64 0, .string ByteArray.empty, .slice none 0 0]).flatten := by
    have h := Rw.sl (rB.below hbC) m 3 (by simp [size_madeCells]) (by simp only [maxLen]; omega)
    have e := made_rep #[.int .i64 0, .string ByteArray.empty, .slice none 0 0] (by decide) m
    rw [← e]; exact h
  have hT : TrAt wC (.mk 0 ⟨#[]⟩ [List.replicate m zT]) [.int .i64 0, .string ⟨#[]⟩, .slice (some ⟨w1.heap.size + 1 + 1, 0, none⟩) 1 1] := by
    simp only [TrAt, KidAt]
    exact ⟨_, 1, 1, _, rfl, by decide, Rw.sl rC 1 1 rfl (by decide), _, m, m, _, [], rfl, by simp, hX, row_zT wC m, rfl⟩
  have hfit := Fits_v (oneL r 3) (oneL_wf r 3 (by decide) (by decide)) (.mk 0 ⟨#[]⟩ [List.replicate m zT]) _ 2 2 _ 1 wC hS hT
  have hE : fitT (oneL r 3) (KF (oneL r 3)) (.mk 0 ⟨#[]⟩ [List.replicate m zT]) 0 = repT r m := by
    rw [oneL_fit, fitA, List.length_replicate, fit_zT]
    have : (flAt (oneL r 3) 1).rep = r := rfl
    rw [this]; split
    · rfl
    · rename_i h; exact (Decidable.not_not.1 h).symm
  rw [hE] at hfit
  have HBC := Lib.hid (bt (bt (bt HB1.out hbA) hbB) hbC)
  clear hS hX hT hE rA rB rC hbA hbB hbC hmk
  refine hfit.mono ?_
  rintro e w3 ⟨rfl, hb3⟩
  have HB3 := Lib.hid (bt HBC.out hb3)
  clear hb3 hfit
  have hr : r = 0 ∨ r = 1 ∨ r = 2 := by omega
  have hm0 : m = 0 ∨ m = 1 ∨ (1 < m ∧ m ≤ 50) ∨ 50 < m := by omega
  rcases hr with rfl | rfl | rfl <;> rcases hm0 with rfl | rfl | ⟨h1, h2⟩ | h1
  all_goals
    first
      | rw [show repT 0 m = 13 from by unfold repT; rw [if_pos (by omega)]]
      | rw [show repT 1 m = 13 from by unfold repT; rw [if_pos (by omega)]]
      | rw [show repT 2 m = 0 from by unfold repT; rw [if_neg (by omega), if_neg (by omega)]]
      | rw [show repT 2 m = 4 from by unfold repT; rw [if_neg (by omega), if_pos (by omega)]]
      | simp only [repT]
    (try have hx1 : ((m : Int) == 1) = false := beq_eq_false_iff_ne.2 (by omega))
    (try have hx0 : ((m : Int) == 0) = false := beq_eq_false_iff_ne.2 (by omega))
    go_wp2_with fail
    go_ret
    exact ⟨rfl, HB3.out⟩
end Go.Proofs.Ytdgcgkmejejccaa
