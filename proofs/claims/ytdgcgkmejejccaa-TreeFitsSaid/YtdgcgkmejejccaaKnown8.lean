/-
  The walk of chapter 8's example.
-/
import Derived.Test.YtdgcgkmejejccaaTree3
set_option linter.unusedSimpArgs false
namespace Go.Proofs.Ytdgcgkmejejccaa
open Go.RowKit Go.Shr
theorem Rw.sl {w : World} {b : Nat} {cur : Array Value} {t : TypeId} (h : Rw w b cur t) (n size : Nat) (hn : cur.size = n * size) (hm : n ≤ maxLen) : Sl (fun b => b < w.heap.size) w size (some ⟨b, 0, none⟩) n n cur.toList :=
  ⟨by simpa using hn, Nat.le_refl _, hm, .inr ⟨b, 0, rfl, h.lt, fun j u hj => by rw [Nat.zero_add, h.cell]; simpa using hj⟩⟩
def knownL : List Fl := [⟨⟨#[109]⟩, 0, 0, 1⟩, ⟨⟨#[97]⟩, 1, 1, 0⟩]
theorem kidsOf_two {p : Int} : kidsOf [p, 0] 0 = (if p = 0 then [0] else []) ++ [1] := by
  have h := kidsOf_snoc [p] 0 0
  have h2 := kidsOf_snoc [] p 0
  simp only [List.nil_append, kidsOf_nil] at h2
  rw [show [p, 0] = [p] ++ [0] from rfl, h, h2]
  simp
theorem knownL_wf : Wf knownL := ⟨by decide, by decide, by simp [knownL], by simp [knownL]⟩
theorem knownL_par : par knownL = [-1, 0] := by simp [par, knownL, parF, parS, popS, nextS]
theorem known_ok : fitT knownL (KF knownL) (.mk 0 ByteArray.empty [[]]) 0 = 0 ∧ fitT knownL (KF knownL) (.mk 0 ByteArray.empty []) 0 = 13 := by
  have hk : KF knownL 0 = [1] := by unfold KF; rw [knownL_par, kidsOf_two]; rfl
  have he : ByteArray.empty.toList = [] := by rw [ByteArray.toList_eq]; rfl
  constructor
  · rw [fitT_eq, hk]; simp [Tr.n, Tr.s, Tr.kids, he, flAt, knownL, fitK, fitX, repT]
  · rw [fitT_eq, hk]; simp [Tr.n, Tr.s, Tr.kids, he, flAt, knownL]
theorem fls_known : fls knownL = #[Value.string ⟨#[109]⟩, .int .i64 0, .int .i64 0, .int .i64 1, .string ⟨#[97]⟩, .int .i64 1, .int .i64 1, .int .i64 0].toList := rfl
theorem known_a (w : World) (a : Option Addr) (b : Option Addr) (hs : Sl (fun b => b < w.heap.size) w 4 a 2 2 (fls knownL)) (hT : TrAt w (.mk 0 ByteArray.empty [[]]) [.int .i64 0, .string ByteArray.empty, .slice b 1 1]) :
    Calls Try.prog 14 #[.slice a 2 2, .agg #[.int .i64 0, .string ByteArray.empty, .slice b 1 1]] w fun e w' => e = .returned (.int .i64 0) ∧ Below w.heap.size w w' := by
  have h := Fits_v knownL knownL_wf (.mk 0 ByteArray.empty [[]]) a 2 2 b 1 w hs hT
  rw [known_ok.1] at h
  exact h
theorem known_b (w : World) (a : Option Addr) (hs : Sl (fun b => b < w.heap.size) w 4 a 2 2 (fls knownL)) :
    Calls Try.prog 14 #[.slice a 2 2, .agg #[.int .i64 0, .string ByteArray.empty, .slice none 0 0]] w fun e w' => e = .returned (.int .i64 13) ∧ Below w.heap.size w w' := by
  have h := Fits_v knownL knownL_wf (.mk 0 ByteArray.empty []) a 2 2 none 0 w hs (by simp only [TrAt, KidAt]; exact ⟨none, 0, 0, [], rfl, by decide, Sl.nil _ _ _ _, rfl⟩)
  rw [known_ok.2] at h
  exact h
set_option maxHeartbeats 400000 in
theorem known8 (w : World) : Calls Try.prog 10 #[] w fun e w' => e = .returned (.bool true) ∧ Below w.heap.size w w' := by
  go_enter Try.func10, Try.ntmps10
  go_wp2_with fail
  have r1 := Rw.new w #[.string ⟨#[109]⟩, .int .i64 0, .int .i64 0, .int .i64 1, .string ⟨#[97]⟩, .int .i64 1, .int .i64 1, .int .i64 0] 39
  have hb1 := ba (b0 w) (.cells #[.string ⟨#[109]⟩, .int .i64 0, .int .i64 0, .int .i64 1, .string ⟨#[97]⟩, .int .i64 1, .int .i64 1, .int .i64 0] 39)
  have hz1 : (w.alloc (.cells #[.string ⟨#[109]⟩, .int .i64 0, .int .i64 0, .int .i64 1, .string ⟨#[97]⟩, .int .i64 1, .int .i64 1, .int .i64 0] 39)).heap.size = w.heap.size + 1 := by simp
  generalize w.alloc (.cells #[.string ⟨#[109]⟩, .int .i64 0, .int .i64 0, .int .i64 1, .string ⟨#[97]⟩, .int .i64 1, .int .i64 1, .int .i64 0] 39) = w1 at r1 hb1 hz1 ⊢
  have r2 : Rw (w1.alloc (.cells #[.slice none 0 0] 40)) (w.heap.size + 1) #[.slice none 0 0] 40 := Rw.new' hz1
  have hb2 := ba (b0 w1) (.cells #[.slice none 0 0] 40)
  generalize w1.alloc (.cells #[.slice none 0 0] 40) = w2 at r2 hb2 ⊢
  have hS := Rw.sl (r1.below hb2) 2 4 rfl (by decide)
  rw [← fls_known] at hS
  have hT : TrAt w2 (.mk 0 ByteArray.empty [[]]) [.int .i64 0, .string ByteArray.empty, .slice (some ⟨w.heap.size + 1, 0, none⟩) 1 1] := by
    simp only [TrAt]
    refine ⟨_, 1, 1, [.slice none 0 0], rfl, by decide, Rw.sl r2 1 1 rfl (by decide), ?_⟩
    simp only [KidAt, RowAt]
    exact ⟨none, 0, 0, [], [], rfl, rfl, Sl.nil _ _ _ _, rfl, rfl⟩
  refine (known_a w2 _ _ hS hT).mono ?_
  rintro e w3 ⟨rfl, hb3⟩
  have HS3 := Lib.hid (slb hS hb3)
  have HB3 := Lib.hid (bt (bt hb1 hb2) hb3)
  clear hb1 hb2 hb3 hS hT r1 r2
  go_wp2_with fail
  refine (known_b w3 _ HS3.out).mono ?_
  rintro e w4 ⟨rfl, hb4⟩
  have HB4 := Lib.hid (bt HB3.out hb4)
  clear hb4
  go_wp2_with fail
  go_ret
  exact ⟨rfl, HB4.out⟩
end Go.Proofs.Ytdgcgkmejejccaa
