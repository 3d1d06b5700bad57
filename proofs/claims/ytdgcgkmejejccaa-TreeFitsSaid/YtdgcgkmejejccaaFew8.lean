/-
  The walks of deep, of Few: they answer, whatever the tree is.
-/
import Derived.Test.YtdgcgkmejejccaaSize8
set_option linter.unusedSimpArgs false
namespace Go.Proofs.Ytdgcgkmejejccaa
open Go.RowKit Go.Shr
def DeepTo (N : Nat) : Prop := ∀ (t : Tr) (a : Option Addr) (cap : Nat) (w : World), TrAt w t [.int .i64 t.n, .string t.s, .slice a t.kids.length cap] →
  Calls Try.prog 23 #[.agg #[.int .i64 t.n, .string t.s, .slice a t.kids.length cap], .int .i64 (N : Int)] w fun e w' => (∃ z, e = .returned (.int .i64 z)) ∧ Below w.heap.size w w'
set_option maxHeartbeats 4000000 in
set_option maxRecDepth 100000 in
theorem deep_zero : DeepTo 0 := by
  intro t a cap w hT
  go_enter Try.func23, Try.ntmps23
  go_wp2_with fail
  go_ret
  exact ⟨⟨_, rfl⟩, ba (b0 w) _⟩
set_option maxHeartbeats 4000000 in
set_option maxRecDepth 100000 in
theorem deep_step (N : Nat) (hN : N ≤ 12) (IH : DeepTo N) : DeepTo (N + 1) := by
  intro t a cap w hT
  obtain ⟨a0, m0, cap0, xs, hcs, hm, hs, hsl, hk⟩ := hT.parts
  simp at hcs
  obtain ⟨rfl, rfl, rfl⟩ := hcs
  have hmx := Nat.le_trans hsl.le hsl.max
  unfold maxLen at hmx
  have hN0 : ((N + 1 : Nat) : Int) ≠ 0 := by omega
  have hNb : (((N + 1 : Nat) : Int) == 0) = false := beq_eq_false_iff_ne.2 hN0
  have HSL := Lib.hid hsl; have HK := Lib.hid hk; have HIH := Lib.hid IH
  have hNs : IntKind.i64.wrap (((N + 1 : Nat) : Int) - 1) = (N : Int) := by rw [IntKind.wrap_i64]; omega
  have HNS := Lib.hid hNs
  generalize hM : ((N + 1 : Nat) : Int) = M at *
  clear hsl hk IH hT hm hM hNs hs
  by_cases hss : 150 < t.s.size
  · have hss' : (150 : Int) < (t.s.size : Int) := by omega
    go_enter Try.func23, Try.ntmps23
    go_wp2_with fail
    go_ret
    exact ⟨⟨_, rfl⟩, ba (b0 w) _⟩
  have hss' : ¬ (150 : Int) < (t.s.size : Int) := by omega
  go_enter Try.func23, Try.ntmps23
  go_wp2_with fail
  clear hss hss' hN0 hNb
  go_loopw [5, 6] (fun nv iv wr => ∃ (j : Nat) (z : Int), nv = .int .i64 z ∧ iv = .int .i64 (j : Int) ∧ j ≤ t.kids.length ∧ Hid (Below w.heap.size w wr) ∧ Hid (Rw wr w.heap.size #[.int .i64 t.n, .string t.s, .slice a t.kids.length cap] 25)) (fun _ iv _ => t.kids.length - (intOf iv).toNat)
  case atStart => exact ⟨0, 1, rfl, rfl, Nat.zero_le _, Lib.hid (ba (b0 w) _), Lib.hid (Rw.new w _ _)⟩
  case round =>
    obtain ⟨j, z, rfl, rfl, hj, HB, HBX⟩ := hrel
    have z2 : wr.cell? ⟨w.heap.size, 2, none⟩ = some (.slice a t.kids.length cap) := HBX.out.cell 2
    by_cases hlt : j < t.kids.length
    · obtain ⟨xb, xoff, rfl, hxb, hxc⟩ := HSL.out.pos (by omega)
      obtain ⟨la, lcap, ys, g0, hys, hrow⟩ := HK.out.get j hlt
      have g0w := hxc _ _ g0
      replace g0 := cb HB.out g0w
      have hmx2 := Nat.le_trans hys.le hys.max
      unfold maxLen at hmx2
      generalize t.kids[j] = l at *
      have HG0 := Lib.hid g0w
      clear g0w
      have HYS := Lib.hid hys; have HROW := Lib.hid hrow
      clear hxc hys hrow
      go_wp2_with fail
      obtain ⟨wo, rfl⟩ : ∃ wo : World, wo = wr := ⟨_, rfl⟩
      go_loopw [5, 7] (fun nv iv wr => ∃ (k : Nat) (z : Int), nv = .int .i64 z ∧ iv = .int .i64 (k : Int) ∧ k ≤ l.length ∧ Hid (Below w.heap.size w wr) ∧ Hid (Rw wr w.heap.size #[.int .i64 t.n, .string t.s, .slice (some ⟨xb, xoff, none⟩) t.kids.length cap] 25)) (fun _ iv _ => l.length - (intOf iv).toNat)
      case atStart => exact ⟨0, z, rfl, rfl, Nat.zero_le _, HB, HBX⟩
      case round =>
        clear g0 z2
        obtain ⟨k, z, rfl, rfl, hk, HB2, HBX2⟩ := hrel
        have z2 : wr.cell? ⟨w.heap.size, 2, none⟩ = some (.slice (some ⟨xb, xoff, none⟩) t.kids.length cap) := HBX2.out.cell 2
        have G0 := cb HB2.out HG0.out
        by_cases hkl : k < l.length
        · obtain ⟨yb, yoff, rfl, hyb, hyc⟩ := HYS.out.pos (by omega)
          obtain ⟨ka, _, kcap, kxs, g0, g1, g2, rfl, hks, hsl, hkid⟩ := HROW.out.get k hkl
          have hTk : TrAt w l[k] [.int .i64 l[k].n, .string l[k].s, .slice ka l[k].kids.length kcap] := TrAt.mk' hks hsl hkid
          replace g0 := cb HB2.out (hyc _ _ g0); replace g1 := cb HB2.out (hyc _ _ g1); replace g2 := cb HB2.out (hyc _ _ g2)
          rw [← Nat.add_assoc] at g1 g2
          have HT := Lib.hid hTk
          have hNs := HNS.out
          generalize l[k] = x at *
          clear hyc hks hsl hkid hTk
          go_wp2_with fail
          refine (HIH.out x ka kcap wr (TrAt.below HB2.out _ _ HT.out)).mono ?_
          rintro e w2 ⟨⟨zz, rfl⟩, hb2⟩
          have HB3 := Lib.hid (bt HB2.out hb2)
          have HBX3 := Lib.hid (HBX2.out.below hb2)
          clear hb2 hNs
          go_wp2_with fail
          go_roundw
          case rel => exact ⟨k + 1, _, rfl, by go_num, by omega, HB3, HBX3⟩
          case measure => simp [intOf]; omega
        · obtain rfl : k = l.length := by omega
          go_wp2_with fail
          go_roundw
          case rel => exact ⟨j + 1, _, rfl, by go_num, by omega, HB2, HBX2⟩
          case measure => simp [intOf]; omega
    · obtain rfl : j = t.kids.length := by omega
      go_wp2_with fail
      go_ret
      exact ⟨⟨_, rfl⟩, HB.out⟩
theorem deep_all : ∀ N, N ≤ 13 → DeepTo N
  | 0, _ => deep_zero
  | N + 1, h => deep_step N (by omega) (deep_all N (by omega))
theorem few_v (t : Tr) (a : Option Addr) (cap : Nat) (w : World) (hT : TrAt w t [.int .i64 t.n, .string t.s, .slice a t.kids.length cap]) :
    Calls Try.prog 11 #[.agg #[.int .i64 t.n, .string t.s, .slice a t.kids.length cap]] w fun e w' => (∃ b, e = .returned (.bool b)) ∧ Below w.heap.size w w' := by
  have HT := Lib.hid hT; clear hT
  go_enter Try.func11, Try.ntmps11
  go_wp2_with fail
  refine cgen (fun wx hwx => ?_)
  have hbx : Below w.heap.size w wx := by rw [hwx]; exact ba (b0 w) _
  clear hwx
  refine (deep_all 12 (by decide) t a cap wx (TrAt.below hbx _ _ HT.out)).mono ?_
  rintro e w2 ⟨⟨z, rfl⟩, hb2⟩
  have HB := Lib.hid (bt hbx hb2)
  clear hbx hb2
  go_wp2_with fail
  go_ret
  exact ⟨⟨_, rfl⟩, HB.out⟩
end Go.Proofs.Ytdgcgkmejejccaa
