/-
  The walks of tree.Size, of the document's Size.
-/
import Derived.Test.YtdgcgkmejejccaaLit8
import Derived.Test.YtdgcgkmejejccaaTrG
set_option linter.unusedSimpArgs false
namespace Go.Proofs.Ytdgcgkmejejccaa
open Go.RowKit Go.Shr
theorem sizeLL_append : ∀ (a b : List (List Tr)), sizeLL (a ++ b) = sizeLL a + sizeLL b
  | [], b => by simp [sizeLL]
  | l :: a, b => by simp [sizeLL, sizeLL_append a b]; omega
theorem sizeL_append : ∀ (a b : List Tr), sizeL (a ++ b) = sizeL a + sizeL b
  | [], b => by simp [sizeL]
  | l :: a, b => by simp [sizeL, sizeL_append a b]; omega
theorem sizeLL_take (ks : List (List Tr)) (j : Nat) (h : j < ks.length) : sizeLL (ks.take (j + 1)) = sizeLL (ks.take j) + sizeL ks[j] := by
  rw [List.take_succ_eq_append_getElem h, sizeLL_append]; simp [sizeLL]
theorem sizeL_take (l : List Tr) (j : Nat) (h : j < l.length) : sizeL (l.take (j + 1)) = sizeL (l.take j) + l[j].size := by
  rw [List.take_succ_eq_append_getElem h, sizeL_append]; simp [sizeL]
theorem sizeLL_le (ks : List (List Tr)) (j : Nat) : sizeLL (ks.take j) ≤ sizeLL ks := by
  have h := sizeLL_append (ks.take j) (ks.drop j)
  rw [List.take_append_drop] at h; omega
theorem sizeL_le (ks : List Tr) (j : Nat) : sizeL (ks.take j) ≤ sizeL ks := by
  have h := sizeL_append (ks.take j) (ks.drop j)
  rw [List.take_append_drop] at h; omega
theorem trsize_eq (t : Tr) : t.size = 1 + sizeLL t.kids := by cases t; rfl
theorem ret_n {a : Int} {b : Int} (h : a = b) : Ending.returned (.int .i64 a) = .returned (.int .i64 b) := by rw [h]
/-- What a tree's size is reckoned to be. -/
def SizeTo (f : FuncId) (N : Nat) : Prop := ∀ (t : Tr), t.size < N → t.size ≤ 1000000000000 → ∀ (a : Option Addr) (cap : Nat) (w : World), TrAt w t [.int .i64 t.n, .string t.s, .slice a t.kids.length cap] →
  Calls Try.prog f #[.agg #[.int .i64 t.n, .string t.s, .slice a t.kids.length cap]] w fun e w' => e = .returned (.int .i64 (t.size : Int)) ∧ Below w.heap.size w w'
set_option maxHeartbeats 4000000 in
set_option maxRecDepth 100000 in
theorem size_step (N : Nat) (IH : SizeTo 18 N) : SizeTo 18 (N + 1) := by
  intro t hN hB a cap w hT
  obtain ⟨a0, m0, cap0, xs, hcs, hm, hs, hsl, hk⟩ := hT.parts
  simp at hcs
  obtain ⟨rfl, rfl, rfl⟩ := hcs
  have hmx := Nat.le_trans hsl.le hsl.max
  unfold maxLen at hmx
  have hsz := trsize_eq t
  have HSL := Lib.hid hsl; have HK := Lib.hid hk; have HIH := Lib.hid IH; have HSZ := Lib.hid hsz
  have hle : sizeLL t.kids ≤ 1000000000000 := by omega
  clear hsl hk IH hT hm
  go_enter Try.func18, Try.ntmps18
  go_wp2_with fail
  go_loopw [3, 11] (fun nv iv wr => ∃ j : Nat, nv = .int .i64 (1 + (sizeLL (t.kids.take j) : Int)) ∧ iv = .int .i64 (j : Int) ∧ j ≤ t.kids.length ∧ Hid (Below w.heap.size w wr)) (fun _ iv _ => t.kids.length - (intOf iv).toNat)
  case atStart => exact ⟨0, by simp [sizeLL], rfl, Nat.zero_le _, Lib.hid (ba (b0 w) _)⟩
  case round =>
    obtain ⟨j, rfl, rfl, hj, HB⟩ := hrel
    have hl1 := sizeLL_le t.kids j
    by_cases hlt : j < t.kids.length
    · obtain ⟨xb, xoff, rfl, hxb, hxc⟩ := HSL.out.pos (by omega)
      obtain ⟨la, lcap, ys, g0, hys, hrow⟩ := HK.out.get j hlt
      replace g0 := cb HB.out (hxc _ _ g0)
      have HTK := Lib.hid (sizeLL_take t.kids j hlt)
      have hl2 := sizeLL_le t.kids (j + 1)
      rw [HTK.out] at hl2
      have hmem : ∀ y ∈ t.kids[j], y.size < N := fun y hy => by have := kid_size (List.getElem_mem hlt) hy; omega
      have hmx2 := Nat.le_trans hys.le hys.max
      unfold maxLen at hmx2
      generalize t.kids[j] = l at *
      have HYS := Lib.hid hys; have HROW := Lib.hid hrow; have HMEM := Lib.hid hmem
      clear hxc hys hrow hmem
      obtain ⟨S0, hS0⟩ : ∃ S0 : Nat, S0 = sizeLL (t.kids.take j) := ⟨_, rfl⟩
      rw [← hS0] at hl1 hl2 ⊢
      have HS0 := Lib.hid hS0; clear hS0
      go_wp2_with fail
      obtain ⟨wo, rfl⟩ : ∃ wo : World, wo = wr := ⟨_, rfl⟩
      go_loopw [3, 17] (fun nv iv wr => ∃ k : Nat, nv = .int .i64 (1 + (S0 : Int) + (sizeL (l.take k) : Int)) ∧ iv = .int .i64 (k : Int) ∧ k ≤ l.length ∧ Hid (Below w.heap.size w wr)) (fun _ iv _ => l.length - (intOf iv).toNat)
      case atStart => exact ⟨0, by simp [sizeL], rfl, Nat.zero_le _, HB⟩
      case round =>
        clear g0
        obtain ⟨k, rfl, rfl, hk, HB2⟩ := hrel
        have hk1 := sizeL_le l k
        by_cases hkl : k < l.length
        · obtain ⟨yb, yoff, rfl, hyb, hyc⟩ := HYS.out.pos (by omega)
          obtain ⟨ka, _, kcap, kxs, g0, g1, g2, rfl, hks, hsl, hkid⟩ := HROW.out.get k hkl
          have hTk : TrAt w l[k] [.int .i64 l[k].n, .string l[k].s, .slice ka l[k].kids.length kcap] := TrAt.mk' hks hsl hkid
          replace g0 := cb HB2.out (hyc _ _ g0); replace g1 := cb HB2.out (hyc _ _ g1); replace g2 := cb HB2.out (hyc _ _ g2)
          rw [← Nat.add_assoc] at g1 g2
          have HTL := Lib.hid (sizeL_take l k hkl)
          have hk2 := sizeL_le l (k + 1)
          rw [HTL.out] at hk2
          have hsz3 : l[k].size < N := HMEM.out _ (List.getElem_mem hkl)
          have HT := Lib.hid hTk
          generalize l[k] = x at *
          clear hyc hks hsl hkid hTk
          go_wp2_with fail
          refine cgen (fun wx hwx => ?_)
          have hbx : Below w.heap.size w wx := by rw [hwx]; exact ba HB2.out _
          clear hwx
          refine (HIH.out x hsz3 (by omega) ka kcap wx (TrAt.below hbx _ _ HT.out)).mono ?_
          rintro e w2 ⟨rfl, hb2⟩
          have HB3 := Lib.hid (bt hbx hb2)
          clear hb2 hbx
          go_wp2_with fail
          go_roundw
          case rel => exact ⟨k + 1, by rw [HTL.out]; congr 1; omega, by go_num, by omega, HB3⟩
          case measure => simp [intOf]; omega
        · obtain rfl : k = l.length := by omega
          have e1 : l.take l.length = l := List.take_length
          rw [e1]
          clear e1 hk1
          go_wp2_with fail
          go_roundw
          case rel => exact ⟨j + 1, by rw [HTK.out, HS0.out]; congr 1; omega, by go_num, by omega, HB2⟩
          case measure => simp [intOf]; omega
    · obtain rfl : j = t.kids.length := by omega
      have e1 : t.kids.take t.kids.length = t.kids := List.take_length
      rw [e1]
      clear e1
      go_wp2_with fail
      go_ret
      exact ⟨ret_n (by rw [HSZ.out]; omega), HB.out⟩
set_option maxHeartbeats 4000000 in
set_option maxRecDepth 100000 in
theorem rsize_step (N : Nat) (IH : SizeTo 19 N) : SizeTo 19 (N + 1) := by
  intro t hN hB a cap w hT
  obtain ⟨a0, m0, cap0, xs, hcs, hm, hs, hsl, hk⟩ := hT.parts
  simp at hcs
  obtain ⟨rfl, rfl, rfl⟩ := hcs
  have hmx := Nat.le_trans hsl.le hsl.max
  unfold maxLen at hmx
  have hsz := trsize_eq t
  have HSL := Lib.hid hsl; have HK := Lib.hid hk; have HIH := Lib.hid IH; have HSZ := Lib.hid hsz
  have hle : sizeLL t.kids ≤ 1000000000000 := by omega
  clear hsl hk IH hT hm
  go_enter Try.func19, Try.ntmps19
  go_wp2_with fail
  go_loopw [3, 4] (fun nv iv wr => ∃ j : Nat, nv = .int .i64 (1 + (sizeLL (t.kids.take j) : Int)) ∧ iv = .int .i64 (j : Int) ∧ j ≤ t.kids.length ∧ Hid (Below w.heap.size w wr) ∧ Hid (Rw wr w.heap.size #[.int .i64 t.n, .string t.s, .slice a t.kids.length cap] 25)) (fun _ iv _ => t.kids.length - (intOf iv).toNat)
  case atStart => exact ⟨0, by simp [sizeLL], rfl, Nat.zero_le _, Lib.hid (ba (b0 w) _), Lib.hid (Rw.new w _ _)⟩
  case round =>
    obtain ⟨j, rfl, rfl, hj, HB, HBX⟩ := hrel
    have z2 : wr.cell? ⟨w.heap.size, 2, none⟩ = some (.slice a t.kids.length cap) := HBX.out.cell 2
    have hl1 := sizeLL_le t.kids j
    by_cases hlt : j < t.kids.length
    · obtain ⟨xb, xoff, rfl, hxb, hxc⟩ := HSL.out.pos (by omega)
      obtain ⟨la, lcap, ys, g0, hys, hrow⟩ := HK.out.get j hlt
      have g0w := hxc _ _ g0
      replace g0 := cb HB.out g0w
      have HTK := Lib.hid (sizeLL_take t.kids j hlt)
      have hl2 := sizeLL_le t.kids (j + 1)
      rw [HTK.out] at hl2
      have hmem : ∀ y ∈ t.kids[j], y.size < N := fun y hy => by have := kid_size (List.getElem_mem hlt) hy; omega
      have hmx2 := Nat.le_trans hys.le hys.max
      unfold maxLen at hmx2
      generalize t.kids[j] = l at *
      have HG0 := Lib.hid g0w
      clear g0w
      have HYS := Lib.hid hys; have HROW := Lib.hid hrow; have HMEM := Lib.hid hmem
      clear hxc hys hrow hmem
      obtain ⟨S0, hS0⟩ : ∃ S0 : Nat, S0 = sizeLL (t.kids.take j) := ⟨_, rfl⟩
      rw [← hS0] at hl1 hl2 ⊢
      have HS0 := Lib.hid hS0; clear hS0
      go_wp2_with fail
      obtain ⟨wo, rfl⟩ : ∃ wo : World, wo = wr := ⟨_, rfl⟩
      go_loopw [3, 5] (fun nv iv wr => ∃ k : Nat, nv = .int .i64 (1 + (S0 : Int) + (sizeL (l.take k) : Int)) ∧ iv = .int .i64 (k : Int) ∧ k ≤ l.length ∧ Hid (Below w.heap.size w wr) ∧ Hid (Rw wr w.heap.size #[.int .i64 t.n, .string t.s, .slice (some ⟨xb, xoff, none⟩) t.kids.length cap] 25)) (fun _ iv _ => l.length - (intOf iv).toNat)
      case atStart => exact ⟨0, by simp [sizeL], rfl, Nat.zero_le _, HB, HBX⟩
      case round =>
        clear g0 z2
        obtain ⟨k, rfl, rfl, hk, HB2, HBX2⟩ := hrel
        have z2 : wr.cell? ⟨w.heap.size, 2, none⟩ = some (.slice (some ⟨xb, xoff, none⟩) t.kids.length cap) := HBX2.out.cell 2
        have G0 := cb HB2.out HG0.out
        have hk1 := sizeL_le l k
        by_cases hkl : k < l.length
        · obtain ⟨yb, yoff, rfl, hyb, hyc⟩ := HYS.out.pos (by omega)
          obtain ⟨ka, _, kcap, kxs, g0, g1, g2, rfl, hks, hsl, hkid⟩ := HROW.out.get k hkl
          have hTk : TrAt w l[k] [.int .i64 l[k].n, .string l[k].s, .slice ka l[k].kids.length kcap] := TrAt.mk' hks hsl hkid
          replace g0 := cb HB2.out (hyc _ _ g0); replace g1 := cb HB2.out (hyc _ _ g1); replace g2 := cb HB2.out (hyc _ _ g2)
          rw [← Nat.add_assoc] at g1 g2
          have HTL := Lib.hid (sizeL_take l k hkl)
          have hk2 := sizeL_le l (k + 1)
          rw [HTL.out] at hk2
          have hsz3 : l[k].size < N := HMEM.out _ (List.getElem_mem hkl)
          have HT := Lib.hid hTk
          generalize l[k] = x at *
          clear hyc hks hsl hkid hTk
          go_wp2_with fail
          refine (HIH.out x hsz3 (by omega) ka kcap wr (TrAt.below HB2.out _ _ HT.out)).mono ?_
          rintro e w2 ⟨rfl, hb2⟩
          have HB3 := Lib.hid (bt HB2.out hb2)
          have HBX3 := Lib.hid (HBX2.out.below hb2)
          clear hb2
          go_wp2_with fail
          go_roundw
          case rel => exact ⟨k + 1, by rw [HTL.out]; congr 1; omega, by go_num, by omega, HB3, HBX3⟩
          case measure => simp [intOf]; omega
        · obtain rfl : k = l.length := by omega
          have e1 : l.take l.length = l := List.take_length
          rw [e1]
          clear e1 hk1
          go_wp2_with fail
          go_roundw
          case rel => exact ⟨j + 1, by rw [HTK.out, HS0.out]; congr 1; omega, by go_num, by omega, HB2, HBX2⟩
          case measure => simp [intOf]; omega
    · obtain rfl : j = t.kids.length := by omega
      have e1 : t.kids.take t.kids.length = t.kids := List.take_length
      rw [e1]
      clear e1
      go_wp2_with fail
      go_ret
      exact ⟨ret_n (by rw [HSZ.out]; omega), HB.out⟩
theorem size_all : ∀ N, SizeTo 18 N
  | 0 => fun _ h => absurd h (Nat.not_lt_zero _)
  | N + 1 => size_step N (size_all N)
theorem rsize_all : ∀ N, SizeTo 19 N
  | 0 => fun _ h => absurd h (Nat.not_lt_zero _)
  | N + 1 => rsize_step N (rsize_all N)
end Go.Proofs.Ytdgcgkmejejccaa
