/-
  The walks of within, Good, All (law 11).
-/
import Derived.Test.YtnmlngpkhlafgaaStat3
set_option linter.unusedSimpArgs false
namespace Go.Proofs.Ytnmlngpkhlafgaa
open Go.RowKit Go.Shr
theorem within11 (a : Int) (w : World) : Calls Try.prog 23 #[.int .i64 a, .int .i64 2] w fun e w' => (∃ r : Int, e = .returned (.int .i64 r)) ∧ w = w' := by
  go_enter Try.func23, Try.ntmps23
  go_wp2
  all_goals go_ret
  all_goals exact ⟨⟨_, rfl⟩, rfl⟩
theorem good_v (k : Int) (h1 : 1 ≤ k) (h4 : k ≤ 4) (n : Int) (s : ByteArray) (w : World) : Calls Try.prog 18 #[.int .i64 k, .agg #[.int .i64 n, .string s]] w fun e w' => (∃ (zn : Int) (zs : ByteArray), e = .returned (.agg #[.int .i64 zn, .string zs]) ∧ goodV k ⟨zn, zs⟩ ∧ zs.size ≤ 100) ∧ Below w.heap.size w w' := by
  have hk : k = 1 ∨ k = 2 ∨ k = 3 ∨ k = 4 := by omega
  rcases hk with rfl | rfl | rfl | rfl
  · go_enter Try.func18, Try.ntmps18
    go_wp2_with fail
    refine (within11 _ _).mono ?_
    rintro e w' ⟨⟨r, rfl⟩, rfl⟩
    go_wp2_with fail
    exact bodyPost_ret (v := .agg #[.int .i64 r, .string ByteArray.empty]) (by simp [results, Try.results18, go_sem]; rfl) rfl ⟨⟨r, ByteArray.empty, rfl, by simp [goodV], Nat.zero_le _⟩, by repeat (first | with_reducible exact Below.refl _ _ | refine ba ?_ _ | refine Below.setCell ?_ (by first | omega | (simp; done) | (simp; omega)) _)⟩
  · go_enter Try.func18, Try.ntmps18
    go_wp2_with fail
    exact bodyPost_ret (v := .agg #[.int .i64 (wrap64 (wrap32 n)), .string ByteArray.empty]) (by simp [results, Try.results18, go_sem]; rfl) rfl ⟨⟨_, ByteArray.empty, rfl, by simp [goodV], Nat.zero_le _⟩, by repeat (first | with_reducible exact Below.refl _ _ | refine ba ?_ _ | refine Below.setCell ?_ (by first | omega | (simp; done) | (simp; omega)) _)⟩
  · go_enter Try.func18, Try.ntmps18
    go_wp2_with fail
    exact bodyPost_ret (v := .agg #[.int .i64 (n), .string ByteArray.empty]) (by simp [results, Try.results18, go_sem]; rfl) rfl ⟨⟨_, ByteArray.empty, rfl, by simp [goodV], Nat.zero_le _⟩, by repeat (first | with_reducible exact Below.refl _ _ | refine ba ?_ _ | refine Below.setCell ?_ (by first | omega | (simp; done) | (simp; omega)) _)⟩
  · by_cases hs : s.size ≤ 100
    · have hm : min s.size 100 = s.size := by omega
      go_enter Try.func18, Try.ntmps18
      go_wp2_with fail
      exact bodyPost_ret (v := .agg #[.int .i64 0, .string s]) (by simp [results, Try.results18, go_sem]) rfl ⟨⟨0, s, rfl, by simp [goodV], hs⟩, by repeat (first | with_reducible exact Below.refl _ _ | refine ba ?_ _ | refine Below.setCell ?_ (by first | omega | (simp; done) | (simp; omega)) _)⟩
    · have hm : 100 ≤ s.size := by omega
      go_enter Try.func18, Try.ntmps18
      go_wp2_with fail
      exact bodyPost_ret (v := .agg #[.int .i64 0, .string (s.extract 0 100)]) (by simp [results, Try.results18, go_sem]) rfl ⟨⟨0, s.extract 0 100, rfl, by simp [goodV], by simp [ByteArray.size_extract]; omega⟩, by repeat (first | with_reducible exact Below.refl _ _ | refine ba ?_ _ | refine Below.setCell ?_ (by first | omega | (simp; done) | (simp; omega)) _)⟩
theorem vls_wf (l : List Vl) : ∀ u ∈ vls l, u.oneCell' = true := by
  intro u hu
  simp only [vls, List.mem_flatMap] at hu
  obtain ⟨x, _, hx⟩ := hu
  simp at hx
  rcases hx with rfl | rfl <;> rfl
theorem all_v (k : Int) (h1 : 1 ≤ k) (h4 : k ≤ 4) (a : Option Addr) (n cap : Nat) (l : List Vl) (w : World) (hl : Sl (fun b => b < w.heap.size) w 2 a n cap (vls l)) :
    Calls Try.prog 10 #[.int .i64 k, .slice a n cap] w fun e w' => ∃ a' n' cap' r, e = .returned (.slice a' n' cap') ∧ n' ≤ 60 ∧ (∀ x ∈ r, goodV k x ∧ x.s.size ≤ 100) ∧ Own w.heap.size w' 35 2 a' n' cap' (vls r) ∧ Below w.heap.size w w' := by
  obtain ⟨iv, hiv, hz0v, hz1v, hz2v⟩ := info_parts info_v
  have hlen : l.length = n := by have := hl.len; rw [vls_length] at this; omega
  have hmax := hl.max
  have hle := hl.le
  unfold maxLen at hmax
  obtain ⟨M, hM⟩ : ∃ M, min n 60 = M := ⟨_, rfl⟩
  have hM1 : M ≤ n := by omega
  have hM2 : M ≤ 60 := by omega
  have hM3 : n ≤ 60 → n ≤ M := by omega
  have hM4 : 60 < n → 60 ≤ M := by omega
  clear hM
  have hcell : ∀ j, j < n → ∃ b off x y, a = some ⟨b, off, none⟩ ∧ w.cell? ⟨b, off + j * 2, none⟩ = some (.int .i64 x) ∧ w.cell? ⟨b, off + j * 2 + 1, none⟩ = some (.string y) := fun j hj => by
    obtain ⟨b, off, h1, _, h3⟩ := hl.pos (by omega)
    have := vls_get l j (by omega)
    exact ⟨b, off, _, _, h1, h3 _ _ this.1, by rw [Nat.add_assoc]; exact h3 _ _ this.2⟩
  have HC := Lib.hid hcell; clear hcell
  have HL := Lib.hid hl; clear hl
  by_cases hmin : n ≤ 60
  all_goals
    go_enter Try.func10, Try.ntmps10
    go_wp2_with fail
    go_loopw [5, 6] (fun bv i wr => ∃ (j : Nat) (ar : Option Addr) (capr : Nat) (r : List Vl), bv = .slice ar j capr ∧ i = .int .i64 j ∧ j ≤ M ∧ Hid (∀ x ∈ r, goodV k x ∧ x.s.size ≤ 100) ∧ Hid (Own w.heap.size wr 35 2 ar j capr (vls r)) ∧ Below w.heap.size w wr)
      (fun _ i _ => M - (intOf i).toNat)
    case atStart => exact ⟨0, none, 0, [], rfl, rfl, Nat.zero_le _, Lib.hid (by simp), Lib.hid (Own.nil _ _ _ _), Below.refl _ _⟩
    case round =>
      obtain ⟨j, ar, capr, r, rfl, rfl, hj, HG, HO, hb⟩ := hrel
      by_cases hlt : j < M
      · obtain ⟨b, off, x, y, rfl, hc1, hc2⟩ := HC.out j (by omega)
        have hc3 : wr.cell? ⟨b, off + j * 2, none⟩ = some (.int .i64 x) := (hb.cell (p := ⟨b, off + j * 2, none⟩) (World.block_lt_of_cell? w ⟨b, off + j * 2, none⟩ hc1)).trans hc1
        have hc4 : wr.cell? ⟨b, off + j * 2 + 1, none⟩ = some (.string y) := (hb.cell (p := ⟨b, off + j * 2 + 1, none⟩) (World.block_lt_of_cell? w ⟨b, off + j * 2 + 1, none⟩ hc2)).trans hc2
        clear hc1 hc2
        have hsz0 := hb.size
        go_wp2_with fail
        refine (good_v k h1 h4 x y wr).mono ?_
        rintro e w3 ⟨⟨zn, zs, rfl, hz1, hz2⟩, hb3⟩
        have hsz3 := hb3.size
        have HO3 : Hid (Own w.heap.size (w3.alloc (.cells #[.int .i64 zn, .string zs] 35)) 35 2 ar j capr (vls r)) := Lib.hid ((HO.out.below hb3).alloc _)
        have HB3 : Hid (Below w.heap.size w (w3.alloc (.cells #[.int .i64 zn, .string zs] 35))) := Lib.hid (ba (bt hb hb3) _)
        have HG2 : Hid (∀ x ∈ r ++ [⟨zn, zs⟩], goodV k x ∧ x.s.size ≤ 100) := Lib.hid (by
          intro x hx
          rcases List.mem_append.1 hx with hx | hx
          · exact HG.out x hx
          · rw [List.mem_singleton] at hx; subst hx; exact ⟨hz1, hz2⟩)
        clear hb hb3 hz1 hz2 HO HG
        have tok1 : True := trivial
        go_wp2_with (first | (at_builtin; have _t := tok1; clear tok1; clear _t; refine wpList_append (B := w.heap.size) rfl _ _ _ _ rfl iv (.agg #[.int .i64 0, .string ByteArray.empty]) 24 Try.underlying22 hiv hz0v hz1v hz2v rfl rfl (HO3.out) _ rfl _ _ (src_built (e' := 35) Try.underlying22 w3 #[.int .i64 zn, .string zs] 35 1 2 rfl (by simp [Value.oneCell'])) (by simp only [maxLen]; omega) (by omega) (by first | omega | (simp; omega) | simp) ?_; intro a5 cap5 w5 ho5 hc5 hn5))
        have HO5 := Lib.hid ho5; clear ho5
        go_roundw
        case rel => exact ⟨j + 1, a5, cap5, r ++ [⟨zn, zs⟩], rfl, by go_num, by omega, HG2, Lib.hid (by rw [vls_snoc]; exact HO5.out), Chg.bt HB3.out hc5 (fun i hi h => by omega)⟩
        case measure => simp [intOf]; omega
      · obtain rfl : j = M := by omega
        first
          | have hdec : decide (j < n) = false := decide_eq_false (by omega)
          | have hdec : decide ((j : Int) < 60) = false := decide_eq_false (by omega)
        go_wp2
        go_ret
        exact ⟨_, _, _, r, rfl, by omega, HG.out, HO.out, hb⟩
end Go.Proofs.Ytnmlngpkhlafgaa
