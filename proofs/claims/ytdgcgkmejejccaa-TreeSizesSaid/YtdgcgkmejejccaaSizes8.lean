/-
  The walk of TreeSizes.
-/
import Derived.Test.YtdgcgkmejejccaaSize8
import Derived.Test.YtdgcgkmejejccaaMkBd
set_option linter.unusedSimpArgs false
namespace Go.Proofs.Ytdgcgkmejejccaa
open Go.RowKit Go.Shr
set_option maxHeartbeats 4000000 in
set_option maxRecDepth 100000 in
theorem law_sizes (a0 : Option Addr) (n0 c0 : Nat) (z0 : List Int) (a1 : Option Addr) (n1 c1 : Nat) (z1 : List Int) (w : World) (h0 : Sl (fun b => b < w.heap.size) w 1 a0 n0 c0 (ints z0)) (w0 : ∀ z ∈ z0, (Lit.int .i64 z).wf = true) (h1 : Sl (fun b => b < w.heap.size) w 1 a1 n1 c1 (ints z1)) (w1 : ∀ z ∈ z1, (Lit.int .i64 z).wf = true) :
    Calls Try.prog 7 #[.slice a0 n0 c0, .slice a1 n1 c1] w fun e w' => e = .returned (.bool true) ∧ Below w.heap.size w w' := by
  have H0 := Lib.hid h0; have H1 := Lib.hid h1; have W0 := Lib.hid w0; have W1 := Lib.hid w1
  clear h0 h1 w0 w1
  go_enter Try.func7, Try.ntmps7
  go_wp2_with fail
  refine (known8 _).mono ?_
  rintro e w1 ⟨rfl, hb1⟩
  have HB1 := Lib.hid hb1; clear hb1
  go_wp2_with fail
  refine (make5 a0 n0 c0 z0 w1 (slb H0.out HB1.out) W0.out).mono ?_
  rintro e w2 ⟨a, cap, rfl, ho, hb2⟩
  have HSC := Lib.hid (Sl.mono (ok' := fun b => b < w2.heap.size) ho.sl (fun k hk _ => hk) (by decide))
  have HB2 := Lib.hid (bt HB1.out hb2)
  clear ho hb2
  go_wp2_with fail
  refine (make8 a cap (makeL z0) (makeSh z0) a1 n1 c1 z1 w2 (make_sch z0) HSC.out (slb H1.out HB2.out) W1.out).mono ?_
  rintro e w3 ⟨at', m, tcap, rfl, ht, hb3⟩
  have hsz := makeT_size z0 z1
  generalize makeT (makeSh z0) z1 = t at *
  have hta := ht.at
  obtain ⟨_, _, _, xs, hcs, hm, hss, hsl, hk⟩ := hta.parts
  simp at hcs
  obtain ⟨rfl, rfl, rfl⟩ := hcs
  subst hm
  have HB3 := Lib.hid (bt HB2.out hb3)
  have HT := Lib.hid hta
  have hmx := Nat.le_trans hsl.le hsl.max
  unfold maxLen at hmx
  have HSL := Lib.hid hsl; have HK := Lib.hid hk
  clear ht hb3 hta hsl hk
  go_wp2_with fail
  obtain ⟨wB, hwB⟩ : ∃ wB, wB = w3.alloc (.cells #[.int .i64 t.n, .string t.s, .slice at' t.kids.length tcap] 25) := ⟨_, rfl⟩
  have hb4 : Below w3.heap.size w3 wB := by rw [hwB]; exact ba (b0 w3) _
  have rB : Rw wB w3.heap.size #[.int .i64 t.n, .string t.s, .slice at' t.kids.length tcap] 25 := by rw [hwB]; exact Rw.new w3 _ _
  rw [← hwB]
  clear hwB
  have HB4 := Lib.hid hb4; have RB := Lib.hid rB
  clear hb4 rB
  have HSZ := Lib.hid (trsize_eq t)
  have hle : sizeLL t.kids ≤ 1000000000 := by have := HSZ.out; omega
  obtain ⟨T, hT⟩ : ∃ T, w3.heap.size = T := ⟨_, rfl⟩
  rw [hT] at RB HB4 ⊢
  have HTT := Lib.hid hT; clear hT
  go_loopw [6, 7] (fun nv iv wr => ∃ j : Nat, nv = .int .i64 (1 + (sizeLL (t.kids.take j) : Int)) ∧ iv = .int .i64 (j : Int) ∧ j ≤ t.kids.length ∧ Hid (Below T w3 wr) ∧ Hid (Rw wr T #[.int .i64 t.n, .string t.s, .slice at' t.kids.length tcap] 25)) (fun _ iv _ => t.kids.length - (intOf iv).toNat)
  case atStart => exact ⟨0, by simp [sizeLL], rfl, Nat.zero_le _, HB4, RB⟩
  case round =>
    clear RB
    obtain ⟨j, rfl, rfl, hj, HB, HBX⟩ := hrel
    have hbw : Below w3.heap.size w3 wr := by rw [HTT.out]; exact HB.out
    have HBW := Lib.hid hbw; clear hbw
    have z0 : wr.cell? ⟨T, 0, none⟩ = some (.int .i64 t.n) := HBX.out.cell 0
    have z1 : wr.cell? ⟨T, 1, none⟩ = some (.string t.s) := HBX.out.cell 1
    have z2 : wr.cell? ⟨T, 2, none⟩ = some (.slice at' t.kids.length tcap) := HBX.out.cell 2
    have hl1 := sizeLL_le t.kids j
    by_cases hlt : j < t.kids.length
    · obtain ⟨xb, xoff, rfl, hxb, hxc⟩ := HSL.out.pos (by omega)
      obtain ⟨la, lcap, ys, g0, hys, hrow⟩ := HK.out.get j hlt
      have g0w := hxc _ _ g0
      replace g0 := cb HBW.out g0w
      have HTK := Lib.hid (sizeLL_take t.kids j hlt)
      have hl2 := sizeLL_le t.kids (j + 1)
      rw [HTK.out] at hl2
      have hmx2 := Nat.le_trans hys.le hys.max
      unfold maxLen at hmx2
      generalize t.kids[j] = l at *
      have HG0 := Lib.hid g0w
      have HYS := Lib.hid hys; have HROW := Lib.hid hrow
      clear hxc hys hrow g0w
      obtain ⟨S0, hS0⟩ : ∃ S0 : Nat, S0 = sizeLL (t.kids.take j) := ⟨_, rfl⟩
      rw [← hS0] at hl1 hl2 ⊢
      have HS0 := Lib.hid hS0; clear hS0
      go_wp2_with fail
      obtain ⟨wo, rfl⟩ : ∃ wo : World, wo = wr := ⟨_, rfl⟩
      go_loopw [6, 8] (fun nv iv wr => ∃ k : Nat, nv = .int .i64 (1 + (S0 : Int) + (sizeL (l.take k) : Int)) ∧ iv = .int .i64 (k : Int) ∧ k ≤ l.length ∧ Hid (Below T w3 wr) ∧ Hid (Rw wr T #[.int .i64 t.n, .string t.s, .slice (some ⟨xb, xoff, none⟩) t.kids.length tcap] 25)) (fun _ iv _ => l.length - (intOf iv).toNat)
      case atStart => exact ⟨0, by simp [sizeL], rfl, Nat.zero_le _, HB, HBX⟩
      case round =>
        clear g0 z0 z1 z2
        obtain ⟨k, rfl, rfl, hk, HB2, HBX2⟩ := hrel
        have hbw2 : Below w3.heap.size w3 wr := by rw [HTT.out]; exact HB2.out
        have HBW2 := Lib.hid hbw2; clear hbw2
        have z2 : wr.cell? ⟨T, 2, none⟩ = some (.slice (some ⟨xb, xoff, none⟩) t.kids.length tcap) := HBX2.out.cell 2
        have G0 := cb HBW2.out HG0.out
        have hk1 := sizeL_le l k
        by_cases hkl : k < l.length
        · obtain ⟨yb, yoff, rfl, hyb, hyc⟩ := HYS.out.pos (by omega)
          obtain ⟨ka, _, kcap, kxs, g0, g1, g2, rfl, hks, hsl, hkid⟩ := HROW.out.get k hkl
          have hTk : TrAt w3 l[k] [.int .i64 l[k].n, .string l[k].s, .slice ka l[k].kids.length kcap] := TrAt.mk' hks hsl hkid
          replace g0 := cb HBW2.out (hyc _ _ g0); replace g1 := cb HBW2.out (hyc _ _ g1); replace g2 := cb HBW2.out (hyc _ _ g2)
          rw [← Nat.add_assoc] at g1 g2
          have HTL := Lib.hid (sizeL_take l k hkl)
          have hk2 := sizeL_le l (k + 1)
          rw [HTL.out] at hk2
          have HT2 := Lib.hid hTk
          generalize l[k] = x at *
          clear hyc hks hsl hkid hTk
          go_wp2_with fail
          refine (size_all (x.size + 1) x (by omega) (by omega) ka kcap wr (TrAt.below HBW2.out _ _ HT2.out)).mono ?_
          rintro e w4 ⟨rfl, hb5⟩
          have HB3' := Lib.hid (HB2.out.trans (hb5.mono (by have := HBX2.out.lt; omega)))
          have HBX3 := Lib.hid (HBX2.out.below hb5)
          clear hb5
          go_wp2_with fail
          go_roundw
          case rel => exact ⟨k + 1, by rw [HTL.out]; congr 1; omega, by go_num, by omega, HB3', HBX3⟩
          case measure => simp [intOf]; omega
        · obtain rfl : k = l.length := by omega
          have e1 : l.take l.length = l := List.take_length
          rw [e1]
          clear e1 hk1
          go_wp2_with fail
          go_roundw
          case rel => exact ⟨j + 1, by rw [HTK.out, HS0.out]; congr 1; omega, by go_num, by omega, HB2, HBX2⟩
          case measure => simp [intOf]; omega
    · obtain rfl : j = t.kids.length := by omega
      have e1 : t.kids.take t.kids.length = t.kids := List.take_length
      rw [e1]
      clear e1
      go_wp2_with fail
      refine (size_all (t.size + 1) t (by omega) (by omega) at' tcap wr (TrAt.below HBW.out _ _ HT.out)).mono ?_
      rintro e w4 ⟨rfl, hb5⟩
      have HB5 := Lib.hid (bt (HBW.out) hb5)
      have HBX5 := Lib.hid (HBX.out.below hb5)
      have s0 : w4.cell? ⟨T, 0, none⟩ = some (.int .i64 t.n) := HBX5.out.cell 0
      have s1 : w4.cell? ⟨T, 1, none⟩ = some (.string t.s) := HBX5.out.cell 1
      have s2 : w4.cell? ⟨T, 2, none⟩ = some (.slice at' t.kids.length tcap) := HBX5.out.cell 2
      have hsum : (t.size : Int) = 1 + (sizeLL t.kids : Int) := by have := HSZ.out; omega
      have heq : (((t.size : Int)) == (1 + (sizeLL t.kids : Int))) = true := beq_iff_eq.2 hsum
      have HSUM := Lib.hid hsum
      clear hb5 z0 z1 z2 hsum
      go_wp2_with fail
      have hz : TrAt w4 (.mk 0 ⟨#[]⟩ []) [.int .i64 0, .string ⟨#[]⟩, .slice none 0 0] := TrAt.leaf' (by decide)
      have hz1 : (Tr.mk 0 ⟨#[]⟩ []).size = 1 := by simp [Tr.size, sizeLL]
      refine (size_all 2 (.mk 0 ⟨#[]⟩ []) (by omega) (by omega) none 0 w4 hz).mono ?_
      rintro e w5 ⟨rfl, hb6⟩
      rw [hz1]
      have HB6 := Lib.hid (bt HB5.out hb6)
      have HBX6 := Lib.hid (HBX5.out.below hb6)
      have u0 : w5.cell? ⟨T, 0, none⟩ = some (.int .i64 t.n) := HBX6.out.cell 0
      have u1 : w5.cell? ⟨T, 1, none⟩ = some (.string t.s) := HBX6.out.cell 1
      have u2 : w5.cell? ⟨T, 2, none⟩ = some (.slice at' t.kids.length tcap) := HBX6.out.cell 2
      clear hb6 hz hz1 s0 s1 s2
      go_wp2_with fail
      refine (rsize_all (t.size + 1) t (by omega) (by omega) at' tcap w5 (TrAt.below HB6.out _ _ HT.out)).mono ?_
      rintro e w6 ⟨rfl, hb7⟩
      have HB7 := Lib.hid (bt (bt HB3.out HB6.out) hb7)
      clear hb7 u0 u1 u2 heq
      have heq2 : ((1 + (sizeLL t.kids : Int)) == ((t.size : Int))) = true := beq_iff_eq.2 HSUM.out.symm
      go_wp2_with fail
      go_ret
      exact ⟨rfl, HB7.out⟩
end Go.Proofs.Ytdgcgkmejejccaa
