import Derived.Test.YtjbkjfefjhbolaakRefL16
import Derived.Test.YtjbkjfefjhbolaakTq16
import Derived.Test.YtjbkjfefjhbolaakKnown16
import Derived.Test.YtjbkjfefjhbolaakWith16
set_option linter.all false
open List renaming foldl_cons → zLP, foldl_nil → zLQ, mem_of_mem_take → zLT, mem_or_eq_of_mem_set → zLV, getElem?_eq_getElem → zLW, getElem_mem → zLX, getElem_of_mem → zLY, length_append → zLZ
open And renaming intro → zLR
open Int renaming emod_lt_of_pos → zLS, emod_nonneg → zLU
namespace Go.Proofs.Ytjbkjfefjhbolaa
open Go.RowKit Go.Shr
theorem HdG.set {ok : Nat → Prop} {w : World} {c : Cl} {a0 a1 a2 : Option Addr} {c0 c1 c2 : Nat} (h : zBi ok w c a0 c0 a1 c1 a2 c2) : ∀ {L : List Cl} {xs : List Value} (n : Nat), HdG ok w L xs → n < L.length → HdG ok w (L.set n c) (((xs.set (n * 3) (.slice a0 c.r.length c0)).set (n * 3 + 1) (.slice a1 c.d.length c1)).set (n * 3 + 2) (.slice a2 c.v.length c2))
  | x :: L, xs, 0, h1, _ => by
    obtain ⟨b0, e0, b1, e1, b2, e2, xr, rfl, h2, h3⟩ := h1
    exact ⟨a0, c0, a1, c1, a2, c2, xr, rfl, h, h3⟩
  | x :: L, xs, n + 1, h1, hn => by
    obtain ⟨b0, e0, b1, e1, b2, e2, xr, rfl, h2, h3⟩ := h1
    rw [show (n + 1) * 3 = n * 3 + 1 + 1 + 1 by omega]
    exact ⟨b0, e0, b1, e1, b2, e2, _, rfl, h2, HdG.set h n h3 (by simpa using hn)⟩
def zKN (l : List Fl) (sh : Sh) (L : List Cl) (n er : Int) (x : List Tr) : Prop := ((n < 0 ∨ 200 < n ∨ L.length ≠ (zG l l.length).length) → er = 1 ∧ x = []) ∧ (¬ (n < 0 ∨ 200 < n ∨ L.length ≠ (zG l l.length).length) → (er = 0 ∧ jA l sh L n x ∧ ∀ x0, jA l sh L n x0 → x0 = x) ∨ (er = 10 ∧ x = [] ∧ ∀ x0, ¬ jA l sh L n x0))
theorem zLa {l : List Fl} {sh : Sh} {L : List Cl} {n : Int} {er fr : Int} {x y : List Tr} (h : zKN l sh L n er x) (k : zKN l sh L n fr y) : er = fr ∧ x = y := by
  obtain ⟨h1, h2⟩ := h; obtain ⟨k1, k2⟩ := k
  by_cases hA : n < 0 ∨ 200 < n ∨ L.length ≠ (zG l l.length).length
  · obtain ⟨e1, e2⟩ := h1 hA; obtain ⟨f1, f2⟩ := k1 hA
    exact ⟨by rw [e1, f1], by rw [e2, f2]⟩
  · rcases h2 hA with ⟨e1, g1, u1⟩ | ⟨e1, g1, u1⟩ <;> rcases k2 hA with ⟨e2, g2, u2⟩ | ⟨e2, g2, u2⟩
    · exact ⟨by rw [e1, e2], u2 x g1⟩
    · exact absurd g1 (u2 x)
    · exact absurd g2 (u1 y)
    · exact ⟨by rw [e1, e2], by rw [g1, g2]⟩
theorem zKc {l : List Fl} {sh : Sh} {L : List Cl} {n : Int} {x : List Tr} (h : jA l sh L n x) : ∀ X ∈ L, X.d.length ≤ 4000 := by
  intro X hX
  obtain ⟨k, hk, rfl⟩ := zLY hX
  have hm : zBk (zG l l.length) sh x = false := by
    have h1 := h.1
    unfold yM at h1
    by_cases hmc : zBk (zG l l.length) sh x = true
    · rw [if_pos hmc] at h1
      split at h1
      · omega
      · split at h1
        · rename_i hne
          exact absurd h1 hne
        · omega
    · exact Bool.eq_false_iff.2 hmc
  have hkl : k < (zG l l.length).length := by rw [← h.len]; exact hk
  rw [h.col k hk]
  have h2 := List.any_eq_false.1 hm _ (zLX (l := zG l l.length) (n := k) hkl)
  have he : (zG l l.length).getD k 0 = (zG l l.length)[k] := by simp [List.getD, hkl]
  rw [he]
  simp at h2
  simp [clC]
  omega
set_option maxHeartbeats 40000000 in
set_option maxRecDepth 100000 in
theorem zIb (a0 : Option Addr) (n0 c0 : Nat) (z0 : List Int) (a1 : Option Addr) (n1 c1 : Nat) (zz : List (List Int)) (xs1 : List Value) (ra : Option Addr) (rn rc : Nat) (RL : List Cl) (rx : List Value) (n which att by' : Int) (w : World) (h0 : Sl (fun b => b < w.heap.size) w 1 a0 n0 c0 (zQ z0)) (w0 : ∀ z ∈ z0, (Lit.int .i64 z).wf = true) (h1 : Sl (fun b => b < w.heap.size) w 1 a1 n1 c1 xs1) (h1r : zEa w zz xs1) (w1 : ∀ z ∈ zz, ∀ v ∈ z, (Lit.int .i64 v).wf = true) (h2 : xE w ra rn rc RL rx)
    (w3 : (Lit.int .i64 n).wf = true) (w4 : (Lit.int .i64 which).wf = true) (w5 : (Lit.int .i64 att).wf = true) (w6 : (Lit.int .i64 by').wf = true) :
    Calls Try.prog 4 #[.slice a0 n0 c0, .slice a1 n1 c1, .slice ra rn rc, .int .i64 n, .int .i64 which, .int .i64 att, .int .i64 by'] w fun e w' => e = .returned (.bool true) ∧ Below w.heap.size w w' := by
  obtain ⟨ii, hii, hz0i, hz1i, hz2i⟩ := info_parts jR
  obtain ⟨iv, hiv, hz0v, hz1v, hz2v⟩ := info_parts zCl
  obtain ⟨ic, hic, hz0c, hz1c, hz2c⟩ := info_parts zCD
  obtain rfl := h2.n
  have H0 := zH h0; have W0 := zH w0; have H1 := zH h1; have HR := zH h1r; have W1 := zH w1; have H2 := zH h2
  clear h0 w0 h1 h1r w1 h2 w3 w4 w5 w6
  go_enter Try.func4, Try.ntmps4
  go_wp2_with fail
  refine (zJ6 _).mono ?_
  rintro e w1 ⟨rfl, hb1⟩
  have HB1 := zH hb1; clear hb1
  go_wp2_with fail
  refine (zKe ra RL.length rc RL rx w1 (H2.out.below HB1.out)).mono ?_
  rintro e w2 ⟨b, rfl, hfew, rfl⟩
  cases b with
  | false =>
    clear hfew
    go_wp2_with fail
    go_ret
    exact ⟨rfl, HB1.out⟩
  | true =>
  obtain ⟨hl15, hfe⟩ := hfew (by first | rfl | trivial)
  have HFE := zH hfe
  clear hfew hfe
  go_wp2_with fail
  refine (zLs a0 n0 c0 z0 w2 (slb H0.out HB1.out) W0.out).mono ?_
  rintro e w3 ⟨a, cap, rfl, ho, hb2⟩
  have HSC := zH (Sl.mono (ok' := fun b => b < w3.heap.size) ho.sl (fun k hk _ => hk) (by decide))
  have HB2 := zH (bt HB1.out hb2)
  clear ho hb2
  go_wp2_with fail
  refine (zKW (qT z0) (jQ z0) (zCf z0) a cap a1 n1 c1 zz xs1 w3 HSC.out (slb H1.out HB2.out) (HR.out.below HB2.out) W1.out).mono ?_
  rintro e w4 ⟨al, cl, ys, rfl, hsl, hrow, hb3⟩
  have HB3 := zH (bt HB2.out hb3); have HSC3 := zH (slb HSC.out hb3)
  have HSL := zH (hsl.mono (ok' := fun b => b < w4.heap.size) (fun k hk _ => hk) (by decide))
  have HROW := zH (yN.g _ _ hrow.at)
  have hx16 := zH9 (jQ z0) zz
  have HSCH := zH (zCf z0)
  have HZ := zH (zGO (zCf z0) (zF6 z0) (zH8 W1.out (jQ z0)) (zJ0 z0 zz) hx16)
  have HWY := zH (zJ2 z0); have HRP := zH (zIV z0); have HR0 := zH (zAy z0).2.2.1; have HH := zH (zF6 z0)
  have hl14 := (zDN z0).2
  generalize zBV (jQ z0) zz = x at *
  generalize qT z0 = l at *
  generalize jQ z0 = sh at *
  clear hsl hrow hb3 HB2 HSC HB1 H0 H1 HR W0 W1
  go_wp2_with fail
  refine (zHI HSCH.out HH.out HR0.out HRP.out x a al cap cl ys w4 HSC3.out HSL.out HROW.out).mono ?_
  intro e w5 hq
  obtain ⟨ca, cn, cc, xs, rfl, hcol, hb4⟩ := CQ.ofR hq
  have HG := zH (zIa HZ.out)
  have HB5 := zH (bt HB3.out hb4); have HSC5 := zH (slb HSC3.out hb4); have HCOL := zH hcol
  have hcn := hcol.n
  have HLM := zH (show (xL l sh x).length = (zG l l.length).length by rw [xL, if_pos HZ.out, zAb])
  have hpos := HSCH.out.leafs_pos
  have hmx := zBD HSCH.out
  rw [← HLM.out] at hpos hmx
  have HRD : Hid (∀ X ∈ xL l sh x, X.r.length = X.d.length ∧ X.v.length ≤ X.d.length) := zH (fun X hX => by
    obtain ⟨k, hk, rfl⟩ := zLY hX
    rw [HG.out.col k hk]
    refine ⟨by simp [clC], ?_⟩
    simp only [clC, List.length_map, zV]
    exact List.length_filterMap_le _ _)
  have HD4 := zH (zKc HG.out)
  have HDL := zH HG.out.dlen; have HVL := zH (HG.out.slen HSCH.out)
  generalize xL l sh x = CL at *
  subst hcn
  have HB4S := zH hb4
  clear hq hcol hb4 HB3 HSC3 HSL HROW HZ HG
  have hdz : ¬ (8 : Int) = 0 := by decide
  go_wp2_with fail
  refine (qE _ CL.length w5 (by omega) (by omega)).mono ?_
  rintro e w6 ⟨rfl, rfl⟩
  obtain ⟨K, hK⟩ : ∃ K : Nat, (K : Int) = wrap64 (att.tdiv 8) % (CL.length : Int) := ⟨(wrap64 (att.tdiv 8) % (CL.length : Int)).toNat, by have := zLU (wrap64 (att.tdiv 8)) (show (CL.length : Int) ≠ 0 by omega); omega⟩
  have hKl : K < CL.length := by have := zLS (wrap64 (att.tdiv 8)) (show (0 : Int) < (CL.length : Int) by omega); omega
  rw [← hK]
  have hK1 : (K : Int) < (CL.length : Int) := by omega
  clear hK
  obtain ⟨cb, co, e0, f0, e1, f1, e2, f2, rfl, x0, x1, x2, hcl⟩ := HCOL.out.get K hKl
  have hX := zLX hKl
  have hrd := HRD.out _ hX
  have hdl := HDL.out _ hX
  have hd4 := HD4.out _ hX
  have HVX := zH (HVL.out _ hX)
  obtain ⟨X, hXE⟩ : ∃ X, X = CL[K] := ⟨_, rfl⟩
  rw [← hXE] at x0 x1 x2 hcl hrd hdl hd4 HVX
  have hvl := Nat.le_trans hcl.v.le hcl.v.max
  unfold maxLen at hvl
  have HCL := zH hcl; have HXE := zH hXE
  obtain ⟨hrd, hvd⟩ := hrd
  have hvm : X.v.length ≤ 1000000 := by omega
  obtain ⟨r, d, v⟩ := X
  dsimp only at x0 x1 x2 hrd hdl hd4 hvl hvm hvd
  have HZ := zH (zLR x0 (zLR x1 x2))
  have hrl : r.length ≤ 1000000 := by omega
  have HRD2 := zH hrd
  have HD5 := zH hd4
  clear hd4 HD4
  clear hvd hvl
  clear hcl hXE x0 x1 x2 hX hrd
  go_upto_region 9 with fail
  go_cut [20] from 53 to 74 (fun v20 wc => ∃ (U : Nat) (aR : Option Addr) (cR : Nat) (aD : Option Addr) (cD : Nat) (aV : Option Addr) (cV : Nat), v20 = .pointer (some ⟨U, 0, none⟩) ∧ Hid (QX w5.heap.size U aR cR aD cD aV cV r d v wc) ∧ Hid (Below w5.heap.size w5 wc))
  case first =>
    have HCR := zH HCL.out.r; have HCD := zH HCL.out.d; have HCV := zH HCL.out.v
    refine zB4 [23] [53, 54, 55, 56, 57, 58, 59, 60, 61, 62, 63, 64, 65, 66, 67, 68, 69, 70, 71, 72, 73, 74, 20] (fun w' => (w'.cell? ⟨cb, co + K * 3, none⟩ = some (.slice e0 r.length f0) ∧ w'.cell? ⟨cb, co + K * 3 + 1, none⟩ = some (.slice e1 d.length f1) ∧ w'.cell? ⟨cb, co + K * 3 + 2, none⟩ = some (.slice e2 v.length f2)) ∧ Sl (fun b => b < w'.heap.size) w' 1 e0 r.length f0 (zQ r) ∧ Sl (fun b => b < w'.heap.size) w' 1 e1 d.length f1 (zQ d) ∧ Sl (fun b => b < w'.heap.size) w' 2 e2 v.length f2 (vcs v)) [Go.undef, ?g74cJ1, ?g74cJ2, ?g74cJ3, ?g74cJ4, ?g74cJ5, Go.undef, Go.undef, ?g74cJ8, ?g74cJ9, ?g74cJ10, ?g74cJ11, ?g74cJ12, Go.undef, Go.undef, ?g74cJ15, ?g74cJ16, ?g74cJ17, ?g74cJ18, ?g74cJ19, Go.undef, Go.undef, Go.undef, Go.undef] (fun i => match i with | 0 => some (fun u w' => ∃ b, u = .slice (some ⟨b, 0, none⟩) 0 0 ∧ w5.heap.size ≤ b ∧ Rw w' b #[] 3) | 7 => some (fun u w' => ∃ b, u = .slice (some ⟨b, 0, none⟩) 0 0 ∧ w5.heap.size ≤ b ∧ Rw w' b #[] 3) | 14 => some (fun u w' => ∃ b, u = .slice (some ⟨b, 0, none⟩) 0 0 ∧ w5.heap.size ≤ b ∧ Rw w' b #[] 44) | 6 => some (fun u w' => ∃ a9 c9, u = .slice a9 r.length c9 ∧ Own w5.heap.size w' 3 1 a9 r.length c9 (zQ r) ∧ Bt w5.heap.size w' 3 a9) | 13 => some (fun u w' => ∃ a9 c9, u = .slice a9 d.length c9 ∧ Own w5.heap.size w' 3 1 a9 d.length c9 (zQ d) ∧ Bt w5.heap.size w' 3 a9) | 20 => some (fun u w' => ∃ a9 c9, u = .slice a9 v.length c9 ∧ Own w5.heap.size w' 44 2 a9 v.length c9 (vcs v) ∧ Bt w5.heap.size w' 44 a9) | 21 => some (fun u w' => ∃ aR cR aD cD aV cV, u = .agg #[.slice aR r.length cR, .slice aD d.length cD, .slice aV v.length cV] ∧ Q9 w5.heap.size r d v aR cR aD cD aV cV w') | _ => none) (fun i => match i with | 22 => some (#[.slice none 0 0, .slice none 0 0, .slice none 0 0], 42) | _ => none) (fun i => match i with | 13 => some (6, fun x y => 0 < d.length → ∀ a n c a' n' c', x = .slice a n c → y = .slice a' n' c' → ∀ k, blk a k → ¬ blk a' k) | _ => none) (by kernel_rfl) (by kernel_rfl) (by simp) ?g74kS ?g74kT ?g74kC ?g74kU ?g74kW ?g74kO ?g74kA ?g74kE
    case g74kU => intro i d p hp; (try dsimp only at hp); split at hp <;> first | (cases hp; exact ⟨by kernel_rfl, by decide, by decide, by decide⟩) | cases hp
    case g74kW => intro i hp; (try dsimp only at hp ⊢); split at hp <;> first | rfl | cases hp
    case g74kS => first | trivial | ((try dsimp only); (exact ⟨HZ.out, HCR.out, HCD.out, HCV.out⟩))
    case g74kT => intro w w' hb h; first | trivial | ((try dsimp only at h ⊢); (exact ⟨⟨Go.Shr.cb hb h.1.1, Go.Shr.cb hb h.1.2.1, Go.Shr.cb hb h.1.2.2⟩, slb h.2.1 hb, slb h.2.2.1 hb, slb h.2.2.2 hb⟩))
    case g74kC => intro i p hp v w w' hb h; (try dsimp only at hp); split at hp <;> first | (cases hp; (try dsimp only at h ⊢); (first | (obtain ⟨b, h1, h2, h3⟩ := h; exact ⟨b, h1, h2, h3.below hb⟩) | (obtain ⟨a7, c7, h1, h2, h3⟩ := h; exact ⟨a7, c7, h1, h2.below hb, h3.below hb⟩) | (obtain ⟨aR, cR, aD, cD, aV, cV, h1, h2⟩ := h; exact ⟨aR, cR, aD, cD, aV, cV, h1, h2.below hb⟩))) | cases hp
    case g74kO =>
      refine (show zY 24 _ from (zY.succ (zY.succ (zY.succ (zY.succ (zY.succ (zY.succ (zY.succ (zY.succ (zY.succ (zY.succ (zY.succ (zY.succ (zY.succ (zY.succ (zY.succ (zY.succ (zY.succ (zY.succ (zY.succ (zY.succ (zY.succ (zY.succ (zY.succ (zY.succ zY.zero ?g74kO0) ?g74kO1) ?g74kO2) ?g74kO3) ?g74kO4) ?g74kO5) ?g74kO6) ?g74kO7) ?g74kO8) ?g74kO9) ?g74kO10) ?g74kO11) ?g74kO12) ?g74kO13) ?g74kO14) ?g74kO15) ?g74kO16) ?g74kO17) ?g74kO18) ?g74kO19) ?g74kO20) ?g74kO21) (fun _ h => absurd h (by simp))) (fun h => absurd h (by decide))))
      case g74kO1 | g74kO2 | g74kO8 | g74kO9 | g74kO15 | g74kO16 | g74kO3 | g74kO10 | g74kO17 | g74kO4 | g74kO11 | g74kO18 | g74kO5 | g74kO12 | g74kO19 =>
        refine fun _ _ => ObR.q rfl rfl rfl rfl rfl (fun t w hSw hBw hdep fr hfr => ?_)
        try dsimp only at hSw
        simp only [jF, zLP, zLQ, pD] at hfr
        try rw [show t 54 = _ from zJ (hdep 1 (by decide +kernel)) rfl rfl rfl] at hfr
        try rw [show t 55 = _ from zJ (hdep 2 (by decide +kernel)) rfl rfl rfl] at hfr
        try rw [show t 56 = _ from zJ (hdep 3 (by decide +kernel)) rfl rfl rfl] at hfr
        try rw [show t 57 = _ from zJ (hdep 4 (by decide +kernel)) rfl rfl rfl] at hfr
        try rw [show t 61 = _ from zJ (hdep 8 (by decide +kernel)) rfl rfl rfl] at hfr
        try rw [show t 62 = _ from zJ (hdep 9 (by decide +kernel)) rfl rfl rfl] at hfr
        try rw [show t 63 = _ from zJ (hdep 10 (by decide +kernel)) rfl rfl rfl] at hfr
        try rw [show t 64 = _ from zJ (hdep 11 (by decide +kernel)) rfl rfl rfl] at hfr
        try rw [show t 68 = _ from zJ (hdep 15 (by decide +kernel)) rfl rfl rfl] at hfr
        try rw [show t 69 = _ from zJ (hdep 16 (by decide +kernel)) rfl rfl rfl] at hfr
        try rw [show t 70 = _ from zJ (hdep 17 (by decide +kernel)) rfl rfl rfl] at hfr
        try rw [show t 71 = _ from zJ (hdep 18 (by decide +kernel)) rfl rfl rfl] at hfr
        subst hfr
        refine ⟨rfl, ?_⟩
        obtain ⟨⟨s0, s1, s2⟩, g1, g2, g3⟩ := hSw; go_simp; try with_reducible rfl
      case g74kO0 =>
        refine fun _ _ => ObR.j rfl rfl (fun t w hSw hBw hdep fr hfr => ?_)
        try dsimp only at hSw
        simp only [jF, zLP, zLQ, pD] at hfr
        subst hfr
        refine obc (C := CK _ _ _ _) (i := 0) (by rfl) (fun K hK => ?_)
        (obtain ⟨⟨s0, s1, s2⟩, g1, g2, g3⟩ := hSw); go_simp; refine hK.out _ _ (ba (b0 _) _) (jJ rfl rfl ⟨_, rfl, hBw.size, Rw.new _ _ _⟩)
      case g74kO6 =>
        refine fun _ _ => ObR.j rfl rfl (fun t w hSw hBw hdep fr hfr => ?_)
        try dsimp only at hSw
        have hx0 := xZ (v := t 53) (hdep 0 (by kernel_rfl)) rfl rfl; try dsimp only at hx0
        obtain ⟨q0, hq0, hl0, hm0⟩ := hx0
        simp only [jF, zLP, zLQ, pD] at hfr
        rw [show t 58 = _ from zJ (hdep 5 (by kernel_rfl)) rfl rfl rfl] at hfr
        rw [hq0] at hfr
        subst hfr
        clear hq0
        refine obc (C := CK _ _ _ _) (i := 6) (by rfl) (fun K hK => ?_)
        (obtain ⟨⟨s0, s1, s2⟩, g1, g2, g3⟩ := hSw); refine zCr (B := w5.heap.size) _ _ _ _ rfl ii (.int .i64 0) 8 Try.underlying22 hii hz0i hz1i hz2i rfl rfl _ rfl _ _ (g1.src (P := Try.prog) Try.underlying22 (zDP _)) (by simp only [maxLen]; omega) (by omega) hBw.size hl0 hm0 (by decide) ?_; intro a9 c9 w9 ho9 hb9 ht9 hn9; exact hK.out _ _ hb9 (jJ rfl rfl ⟨a9, c9, rfl, ho9, ht9⟩)
      case g74kO7 =>
        refine fun _ _ => ObR.j rfl rfl (fun t w hSw hBw hdep fr hfr => ?_)
        try dsimp only at hSw
        simp only [jF, zLP, zLQ, pD] at hfr
        subst hfr
        refine obc (C := CK _ _ _ _) (i := 7) (by rfl) (fun K hK => ?_)
        (obtain ⟨⟨s0, s1, s2⟩, g1, g2, g3⟩ := hSw); go_simp; refine hK.out _ _ (ba (b0 _) _) (jJ rfl rfl ⟨_, rfl, hBw.size, Rw.new _ _ _⟩)
      case g74kO13 =>
        refine fun _ _ => ObR.mk (jB rfl) rfl ?_
        intro t w hSw hBw hdep G hG; try dsimp only at hSw
        have hx7 := xZ (v := t 60) (hdep 7 (by kernel_rfl)) rfl rfl; try dsimp only at hx7
        obtain ⟨q7, hq7, hl7, hm7⟩ := hx7
        refine hG.out ?_
        clear hG
        generalize hfr : jF _ _ t = fr
        simp only [jF, zLP, zLQ, pD] at hfr
        rw [show t 65 = _ from zJ (hdep 12 (by kernel_rfl)) rfl rfl rfl] at hfr
        rw [hq7] at hfr
        subst hfr
        clear hq7
        refine Go.Shr.zLL (C := CK _ _ _ _) (i := 13) (by rfl) (fun K hK => ?_)
        (obtain ⟨⟨s0, s1, s2⟩, g1, g2, g3⟩ := hSw); refine zCr (B := w5.heap.size) _ _ _ _ rfl ii (.int .i64 0) 8 Try.underlying22 hii hz0i hz1i hz2i rfl rfl _ rfl _ _ (g2.src (P := Try.prog) Try.underlying22 (zDP _)) (by simp only [maxLen]; omega) (by omega) hBw.size hl7 hm7 (by decide) ?_; intro a9 c9 w9 ho9 hb9 ht9 hn9; refine hK.out _ _ hb9 (jJ rfl rfl ⟨a9, c9, rfl, ho9, ht9⟩) ?_; intro hpos x n c y n' c' hx hy k hk hk'; (have hx6 := xZ (p := fun u w' => ∃ a9 c9, u = .slice a9 r.length c9 ∧ Own w5.heap.size w' 3 1 a9 r.length c9 (zQ r) ∧ Bt w5.heap.size w' 3 a9) (v := t 59) (hdep 6 (by kernel_rfl)) rfl rfl); (obtain ⟨a8, c8, hq8, _, ht8⟩ := hx6); (have hx' : t 59 = _ := hx); (rw [hq8] at hx'); (injection hx' with hx1 _ _); (injection hy with hy1 _ _); subst hx1; subst hy1; (have h1 := ht8.lt hk); (have h2 := hn9 hpos k hk'); omega
      case g74kO14 =>
        refine fun _ _ => ObR.j rfl rfl (fun t w hSw hBw hdep fr hfr => ?_)
        try dsimp only at hSw
        simp only [jF, zLP, zLQ, pD] at hfr
        subst hfr
        refine obc (C := CK _ _ _ _) (i := 14) (by rfl) (fun K hK => ?_)
        (obtain ⟨⟨s0, s1, s2⟩, g1, g2, g3⟩ := hSw); go_simp; refine hK.out _ _ (ba (b0 _) _) (jJ rfl rfl ⟨_, rfl, hBw.size, Rw.new _ _ _⟩)
      case g74kO20 =>
        refine fun _ _ => ObR.j rfl rfl (fun t w hSw hBw hdep fr hfr => ?_)
        try dsimp only at hSw
        have hx14 := xZ (v := t 67) (hdep 14 (by kernel_rfl)) rfl rfl; try dsimp only at hx14
        obtain ⟨q14, hq14, hl14, hm14⟩ := hx14
        simp only [jF, zLP, zLQ, pD] at hfr
        rw [show t 72 = _ from zJ (hdep 19 (by kernel_rfl)) rfl rfl rfl] at hfr
        rw [hq14] at hfr
        subst hfr
        clear hq14
        refine obc (C := CK _ _ _ _) (i := 20) (by rfl) (fun K hK => ?_)
        (obtain ⟨⟨s0, s1, s2⟩, g1, g2, g3⟩ := hSw); refine zCr (B := w5.heap.size) _ _ _ _ rfl iv (.agg #[.int .i64 0, .string ByteArray.empty]) 24 Try.underlying40 hiv hz0v hz1v hz2v rfl rfl _ rfl _ _ (g3.src (P := Try.prog) Try.underlying40 (zG9 _)) (by simp only [maxLen]; omega) (by omega) hBw.size hl14 hm14 (by decide) ?_; intro a9 c9 w9 ho9 hb9 ht9 hn9; exact hK.out _ _ hb9 (jJ rfl rfl ⟨a9, c9, rfl, ho9, ht9⟩)
      case g74kO21 =>
        refine fun _ _ => ObR.mk0 (jB rfl) rfl ?_
        intro t w hSw hBw hdep hrd G hG; try dsimp only at hSw
        have hr13 := hrd 13 _ _ (by kernel_rfl) rfl; try dsimp only at hr13
        rw [show yJ _ 6 = 59 from rfl, show yJ _ 13 = 66 from rfl] at hr13
        have hx6 := xZ (v := t 59) (hdep 6 (by kernel_rfl)) rfl rfl; try dsimp only at hx6
        obtain ⟨aR, cR, hq6, ho6, ht6⟩ := hx6
        have hx13 := xZ (v := t 66) (hdep 13 (by kernel_rfl)) rfl rfl; try dsimp only at hx13
        obtain ⟨aD, cD, hq13, ho13, ht13⟩ := hx13
        have hx20 := xZ (v := t 73) (hdep 20 (by kernel_rfl)) rfl rfl; try dsimp only at hx20
        obtain ⟨aV, cV, hq20, ho20, ht20⟩ := hx20
        simp only [hq6, hq13, hq20] at hr13
        refine hG.out ?_
        clear hG
        generalize hfr : jF _ _ t = fr
        simp only [jF, zLP, zLQ, pD] at hfr
        rw [hq6, hq13, hq20] at hfr
        subst hfr
        clear hq6 hq13 hq20
        refine obq (C := CK _ _ _ _) (i := 21) (v := ?g74kV21) (by rfl) ?g74kY21 (jJ rfl rfl ?g74kZ21)
        case g74kY21 => obtain ⟨⟨s0, s1, s2⟩, g1, g2, g3⟩ := hSw; go_simp; try with_reducible rfl
        case g74kZ21 => exact ⟨aR, cR, aD, cD, aV, cV, rfl, ho6, ho13, ho20, ht6, ht13, ht20, fun hp k h1 h2 => hr13 hp _ _ _ _ _ _ rfl rfl k h1 h2⟩
    case g74kA =>
      refine (show zY 24 _ from (zY.succ (zY.succ (zY.succ (zY.succ (zY.succ (zY.succ (zY.succ (zY.succ (zY.succ (zY.succ (zY.succ (zY.succ (zY.succ (zY.succ (zY.succ (zY.succ (zY.succ (zY.succ (zY.succ (zY.succ (zY.succ (zY.succ (zY.succ (zY.succ zY.zero (fun z hz => by cases hz)) (fun z hz => by cases hz)) (fun z hz => by cases hz)) (fun z hz => by cases hz)) (fun z hz => by cases hz)) (fun z hz => by cases hz)) (fun z hz => by cases hz)) (fun z hz => by cases hz)) (fun z hz => by cases hz)) (fun z hz => by cases hz)) (fun z hz => by cases hz)) (fun z hz => by cases hz)) (fun z hz => by cases hz)) (fun z hz => by cases hz)) (fun z hz => by cases hz)) (fun z hz => by cases hz)) (fun z hz => by cases hz)) (fun z hz => by cases hz)) (fun z hz => by cases hz)) (fun z hz => by cases hz)) (fun z hz => by cases hz)) (fun z hz => by cases hz)) ?g74kA22) (fun z hz => by cases hz)))
      case g74kA22 => intro z hz; cases hz; refine Go.Shr.zLB (o := ⟨some 20, .alloc 42, 0, "law.go:72", #[], none⟩) rfl rfl ?_; intro K a w hK; go_simp; exact hK
    case g74kE =>
      intro a w hJ G hG
      obtain ⟨t, rfl, hSw, HJB, hcJ, hdJ, hrJ⟩ := hJ.open
      try dsimp only at hSw
      refine hG.out ?_
      clear hG G
      generalize hfr : jF _ _ t = fr
      simp only [jF, zLP, zLQ, pD] at hfr
      have hx0 := xZ (v := t 53) (hcJ 0 (by decide) (by decide)) rfl rfl; try dsimp only at hx0
      obtain ⟨q0, hq0, hl0, hm0⟩ := hx0
      rw [show t 54 = _ from zJ (hcJ 1 (by decide) (by decide)) rfl rfl rfl] at hfr
      rw [show t 55 = _ from zJ (hcJ 2 (by decide) (by decide)) rfl rfl rfl] at hfr
      rw [show t 56 = _ from zJ (hcJ 3 (by decide) (by decide)) rfl rfl rfl] at hfr
      rw [show t 57 = _ from zJ (hcJ 4 (by decide) (by decide)) rfl rfl rfl] at hfr
      rw [show t 58 = _ from zJ (hcJ 5 (by decide) (by decide)) rfl rfl rfl] at hfr
      have hx6 := xZ (v := t 59) (hcJ 6 (by decide) (by decide)) rfl rfl; try dsimp only at hx6
      obtain ⟨aR, cR, hq6, ho6, ht6⟩ := hx6
      have hx7 := xZ (v := t 60) (hcJ 7 (by decide) (by decide)) rfl rfl; try dsimp only at hx7
      obtain ⟨q7, hq7, hl7, hm7⟩ := hx7
      rw [show t 61 = _ from zJ (hcJ 8 (by decide) (by decide)) rfl rfl rfl] at hfr
      rw [show t 62 = _ from zJ (hcJ 9 (by decide) (by decide)) rfl rfl rfl] at hfr
      rw [show t 63 = _ from zJ (hcJ 10 (by decide) (by decide)) rfl rfl rfl] at hfr
      rw [show t 64 = _ from zJ (hcJ 11 (by decide) (by decide)) rfl rfl rfl] at hfr
      rw [show t 65 = _ from zJ (hcJ 12 (by decide) (by decide)) rfl rfl rfl] at hfr
      have hx13 := xZ (v := t 66) (hcJ 13 (by decide) (by decide)) rfl rfl; try dsimp only at hx13
      obtain ⟨aD, cD, hq13, ho13, ht13⟩ := hx13
      have hx14 := xZ (v := t 67) (hcJ 14 (by decide) (by decide)) rfl rfl; try dsimp only at hx14
      obtain ⟨q14, hq14, hl14, hm14⟩ := hx14
      rw [show t 68 = _ from zJ (hcJ 15 (by decide) (by decide)) rfl rfl rfl] at hfr
      rw [show t 69 = _ from zJ (hcJ 16 (by decide) (by decide)) rfl rfl rfl] at hfr
      rw [show t 70 = _ from zJ (hcJ 17 (by decide) (by decide)) rfl rfl rfl] at hfr
      rw [show t 71 = _ from zJ (hcJ 18 (by decide) (by decide)) rfl rfl rfl] at hfr
      rw [show t 72 = _ from zJ (hcJ 19 (by decide) (by decide)) rfl rfl rfl] at hfr
      have hx20 := xZ (v := t 73) (hcJ 20 (by decide) (by decide)) rfl rfl; try dsimp only at hx20
      obtain ⟨aV, cV, hq20, ho20, ht20⟩ := hx20
      have hx21 := xZ (v := t 74) (hcJ 21 (by decide) (by decide)) rfl rfl; try dsimp only at hx21
      obtain ⟨aR, cR, aD, cD, aV, cV, hq21, HQ9⟩ := hx21
      obtain ⟨b20, he20, hg20, r20⟩ := zJE (v := t 20) (hcJ 22 (by decide) (by decide)) rfl
      rw [hq0, hq6, hq7, hq13, hq14, hq20, hq21, he20] at hfr
      subst hfr
      clear hcJ hdJ hrJ hq0 hq6 hq7 hq13 hq14 hq20 hq21 he20
      refine zA4 (S := fun _ => True) (F := [23]) _ _ _ _ ?_
      have HB : Below w5.heap.size w5 w := bt (b0 w5).drew HJB
      refine (show xM _ _ _ _ _ _ 1 (Go.Shr.zAs 24 [23]) _ _ from ?_)
      have hHeld : True := trivial
      refine zB [23] (by kernel_rfl) (by simp) ?_
      refine zA.last 23 (jB rfl) (by kernel_rfl) (fun K hK => ?g74ro23) ?g74rm23
      case g74rm23 => exact zA.nil
      (have qf := r20.frozen); (have ql := r20.lt); (have z0 := r20.cell 0); (have z1 := r20.cell 1); (have z2 := r20.cell 2); (simp only [pG] at z0 z1 z2); go_simp; clear z0 z1 z2 qf ql
      refine hK.out _ _ ?_
      clear hK K
      try simp only [pD]
      refine zE (by kernel_rfl) ?_
      have HQ := zH (HQ9.qx r20 rfl hg20)
      have HBQ := zH (((HB.setCell (p := ⟨b20, 0, none⟩) hg20 (.slice aR r.length cR)).setCell (p := ⟨b20, 1, none⟩) hg20 (.slice aD d.length cD)).setCell (p := ⟨b20, 2, none⟩) hg20 (.slice aV v.length cV))
      go_wp2_with fail
      go_meet
      case rel => exact ⟨b20, aR, cR, aD, cD, aV, cV, rfl, HQ, HBQ⟩
  case rest =>
    obtain ⟨U, aR, cR, aD, cD, aV, cV, rfl, HQ, HB6⟩ := hcut
    obtain ⟨wo, hwo⟩ : ∃ wo : World, wo = wc := ⟨_, rfl⟩
    subst hwo
    have z0 := HQ.out.row.cell 0; have z1 := HQ.out.row.cell 1; have z2 := HQ.out.row.cell 2
    simp only [pG] at z0 z1 z2
    go_upto_if 78 with fail
    go_cut [21] from 78 to 84 (fun v21 wc => ∃ I : Nat, v21 = .int .i64 (I : Int) ∧ (0 < r.length → I < r.length) ∧ Hid (Below wo.heap.size wo wc))
    case first =>
      by_cases hr0 : (0 : Int) < (r.length : Int)
      · go_wp2_with fail
        refine (qE _ r.length wo (by omega) (by omega)).mono ?_
        rintro e w6 ⟨rfl, rfl⟩
        have hI0 := zLU att (show (r.length : Int) ≠ 0 by omega)
        have hI1 := zLS att hr0
        go_wp2_with fail
        go_meet
        case rel => exact ⟨(att % (r.length : Int)).toNat, by rw [Int.toNat_of_nonneg hI0], by omega, zH (b0 _)⟩
      · go_wp2_with fail
        go_meet
        case rel => exact ⟨0, rfl, by omega, zH (b0 _)⟩
    case rest =>
      obtain ⟨I, rfl, hI, HBI⟩ := hcut
      obtain ⟨wi, hwi⟩ : ∃ wi : World, wi = wc := ⟨_, rfl⟩
      subst hwi
      have HQI := zH (HQ.out.below HBI.out)
      have HB7 := zH (bt HB6.out HBI.out)
      clear HQ z0 z1 z2
      go_wp2_with fail
      refine (qE which 9 wi (by decide) (by decide)).mono ?_
      rintro e w6 ⟨rfl, rfl⟩
      generalize which % 9 = wv
      go_upto_block 0 with fail
      have z0 := HQI.out.row.cell 0; have z1 := HQI.out.row.cell 1; have z2 := HQI.out.row.cell 2
      simp only [pG] at z0 z1 z2
      have qf := HQI.out.row.frozen; have ql := HQI.out.row.lt
      go_cut [] from 86 to 237 (fun wc => ∃ X : Cl, Hid (QD U X wc) ∧ Hid (X.d.length ≤ 1000000 ∧ ∀ u ∈ X.v, u.s.size ≤ maxLen) ∧ Hid (Below w5.heap.size w5 wc))
      case first =>
        as_aux_lemma =>
        go_upto_if 86 with fail
        by_cases hr0 : r.length = 0
        · have hq : ((r.length : Int) == 0) = true := by rw [hr0]; rfl
          have HD0 : Hid (d.length = 0) := zH (by have := HRD2.out; omega)
          have nR := HQI.out.q.tR.box HQI.out.row (by decide)
          clear hr0
          go_wp2_with (at_builtin; refine zI (B := w5.heap.size) rfl _ _ _ _ rfl ii (.int .i64 0) 8 Try.underlying22 hii hz0i hz1i hz2i rfl rfl ((HQI.out.q.below (ba (b0 wi) (.cells #[.int .i64 by'] 3))).oR) _ rfl _ _ (yP (P := Try.prog) (tx := 22) Try.underlying22 (Rw.new wi #[.int .i64 by'] 3) 1 1 rfl (by simp [Value.oneCell'])) (by simp only [maxLen]; omega) (by omega) (by have := HB7.out.size; simp; omega) ?_; intro a9 c9 W9 ho9 hc9 hn9; (have row9 := (HQI.out.row.alloc (.cells #[.int .i64 by'] 3)).chg hc9 (fun e => nR e.1)); (have y0 := row9.cell 0); (simp only [pG] at y0); (have qf9 := row9.frozen); (have ql9 := row9.lt))
          go_meet
          case rel =>
            refine ⟨⟨r ++ [by'], d, v⟩, zH (Q9.app0 (HQI.out.q.below (ba (b0 wi) (.cells #[.int .i64 by'] 3))) HD0.out ho9 hc9 (HQI.out.row.alloc _)), zH ⟨hdl, HVX.out⟩, zH ?_⟩
            exact (Chg.bt (bt HB7.out (ba (b0 wi) _)) hc9 (fun i hi h => by have := h.2.1; omega)).setCell (p := ⟨U, 0, none⟩) HQI.out.ge _
        have hq : ((r.length : Int) == 0) = false := beq_eq_false_iff_ne.2 (by omega)
        have hIl := hI (by omega)
        have hId : I < d.length := by have := HRD2.out; omega
        have HDP : Hid (0 < d.length) := zH (by omega)
        go_upto_if 97 with fail
        clear hq
        by_cases h0 : wv = 0
        · subst h0
          obtain ⟨g, rfl, hgB, hgl, hgc, hgf⟩ := HQI.out.q.oR.pos (by omega)
          have y0 := hgc I _ (zO r I (by omega))
          obtain ⟨x, hx⟩ : ∃ x, x = r[I]'(by omega) := ⟨_, rfl⟩
          rw [← hx] at y0
          have HZR := zH (zLR z0 y0)
          have HGB := zH hgB
          clear hx hgc hgB hr0 qf ql
          go_upto_region 17 with fail
          have hgf := hgf I
          refine zF (fun w' => w'.cell? ⟨U, 0, none⟩ = some (.slice (some ⟨g, 0, none⟩) r.length cR) ∧ w'.cell? ⟨g, I, none⟩ = some (.int .i64 x)) [12, 13] (by decide +kernel) ?g75rgS (fun hHeld => ?g75rgR)
          case g75rgS => (try dsimp only); (exact HZR.out)
          try dsimp only at hHeld
          repeat' first
            | exact zA.nil
            | refine zB (fuel := 4) [9] (by decide +kernel) (by simp) ?_
            | refine zB (fuel := 1) [12] (by decide +kernel) (by simp) ?_
            | refine zB (fuel := 0) [13] (by decide +kernel) (by simp) ?_
            | (refine zD [0, 1, 2, 3, 4, 5, 6, 7, 8] 5 (by decide +kernel) (fun _ _ _ _ _ h => h) (by assumption) ?_; (iterate 9 ((apply YA.take rfl (by rfl); case hy => rintro w ⟨s0, s1⟩; go_simp; try with_reducible rfl); try simp only [pD])); refine YA.nil ?_)
            | (refine zD [10, 11] 2 (by decide +kernel) (fun _ _ _ _ _ h => h) (by assumption) ?_; (iterate 2 ((apply YA.take rfl (by rfl); case hy => rintro w ⟨s0, s1⟩; go_simp; try with_reducible rfl); try simp only [pD])); refine YA.nil ?_)
            | (refine zA.con 9 rfl (fun K hK => ?_) ?_; (go_simp; refine (qE _ _ _ (by omega) (by omega)).mono ?_; rintro e w' ⟨rfl, rfl⟩; dsimp only); (refine hK.out _ _ ?_ (fun hHeld => ?_); focus ((try dsimp only); (exact HZR.out))); try dsimp only at hHeld; clear hK K; try simp only [pD])
            | (refine zA.lst 12 rfl (by decide +kernel) (fun K hK => ?_) ?_; (go_simp); refine hK.out _ _ ?_; clear hK K; try simp only [pD])
            | (refine zA.lst 13 rfl (by decide +kernel) (fun K hK => ?_) ?_; (go_simp); refine hK.out _ _ ?_; clear hK K; try simp only [pD])
            | (refine zE (by decide +kernel) ?_
               clear z0 z1 z2 y0 hgf hgl hHeld
               go_wp2_with fail
               go_meet
               case rel => exact ⟨⟨r.set I _, d, v⟩, zH ((HQI.out.setR HDP.out rfl I _).below (b0 _).drew).qd, zH ⟨by simpa using hdl, HVX.out⟩, zH ((HB7.out.setCell (p := ⟨g, I, none⟩) HGB.out _).drew)⟩)
        have q0 : (wv == 0) = false := beq_eq_false_iff_ne.2 h0
        go_upto_if 113 with fail
        clear q0 h0
        by_cases h0 : wv = 1
        · subst h0
          obtain ⟨g, rfl, hgB, hgl, hgc, hgf⟩ := HQI.out.q.oD.pos (by omega)
          have y0 := hgc I _ (zO d I (by omega))
          obtain ⟨x, hx⟩ : ∃ x, x = d[I]'(by omega) := ⟨_, rfl⟩
          rw [← hx] at y0
          have HZR := zH (zLR z1 y0)
          have HGB := zH hgB
          clear hx hgc hgB hr0 qf ql
          go_upto_region 19 with fail
          have hgf := hgf I
          refine zF (fun w' => w'.cell? ⟨U, 1, none⟩ = some (.slice (some ⟨g, 0, none⟩) d.length cD) ∧ w'.cell? ⟨g, I, none⟩ = some (.int .i64 x)) [12, 13] (by decide +kernel) ?g76rgS (fun hHeld => ?g76rgR)
          case g76rgS => (try dsimp only); (exact HZR.out)
          try dsimp only at hHeld
          repeat' first
            | exact zA.nil
            | refine zB (fuel := 4) [9] (by decide +kernel) (by simp) ?_
            | refine zB (fuel := 1) [12] (by decide +kernel) (by simp) ?_
            | refine zB (fuel := 0) [13] (by decide +kernel) (by simp) ?_
            | (refine zD [0, 1, 2, 3, 4, 5, 6, 7, 8] 5 (by decide +kernel) (fun _ _ _ _ _ h => h) (by assumption) ?_; (iterate 9 ((apply YA.take rfl (by rfl); case hy => rintro w ⟨s0, s1⟩; go_simp; try with_reducible rfl); try simp only [pD])); refine YA.nil ?_)
            | (refine zD [10, 11] 2 (by decide +kernel) (fun _ _ _ _ _ h => h) (by assumption) ?_; (iterate 2 ((apply YA.take rfl (by rfl); case hy => rintro w ⟨s0, s1⟩; go_simp; try with_reducible rfl); try simp only [pD])); refine YA.nil ?_)
            | (refine zA.con 9 rfl (fun K hK => ?_) ?_; (go_simp; refine (qE _ _ _ (by omega) (by omega)).mono ?_; rintro e w' ⟨rfl, rfl⟩; dsimp only); (refine hK.out _ _ ?_ (fun hHeld => ?_); focus ((try dsimp only); (exact HZR.out))); try dsimp only at hHeld; clear hK K; try simp only [pD])
            | (refine zA.lst 12 rfl (by decide +kernel) (fun K hK => ?_) ?_; (go_simp); refine hK.out _ _ ?_; clear hK K; try simp only [pD])
            | (refine zA.lst 13 rfl (by decide +kernel) (fun K hK => ?_) ?_; (go_simp); refine hK.out _ _ ?_; clear hK K; try simp only [pD])
            | (refine zE (by decide +kernel) ?_
               clear z0 z1 z2 y0 hgf hgl hHeld
               go_wp2_with fail
               go_meet
               case rel => exact ⟨⟨r, d.set I _, v⟩, zH ((HQI.out.setD HDP.out rfl I _).below (b0 _).drew).qd, zH ⟨by simpa using hdl, HVX.out⟩, zH ((HB7.out.setCell (p := ⟨g, I, none⟩) HGB.out _).drew)⟩)
        have q0 : (wv == 1) = false := beq_eq_false_iff_ne.2 h0
        go_upto_if 129 with fail
        clear q0 h0
        by_cases h0 : wv = 2
        · subst h0
          obtain ⟨g, rfl, hgB, hgl, hgc, hgf⟩ := HQI.out.q.oR.pos (by omega)
          obtain ⟨g1, rfl, hgB1, hgl1, hgc1, hgf1⟩ := HQI.out.q.oD.pos (by omega)
          have hcR := HQI.out.q.oR.le; have hcD := HQI.out.q.oD.le
          have hmR := HQI.out.q.oR.max; have hmD := HQI.out.q.oD.max
          unfold maxLen at hmR hmD
          have hIcR : I ≤ cR := by omega
          have hIcD : I ≤ cD := by omega
          clear hgc hgc1 hgf hgf1 hgB hgB1
          go_upto_region 21 with fail
          have d0 : wi.drew.cell? ⟨U, 0, none⟩ = some (.slice (some ⟨g, 0, none⟩) r.length cR) := z0
          have d1 : wi.drew.cell? ⟨U, 1, none⟩ = some (.slice (some ⟨g1, 0, none⟩) d.length cD) := z1
          refine zF (fun _ => True) [] (by decide +kernel) ?g77rgS (fun hHeld => ?g77rgR)
          case g77rgS => trivial
          try dsimp only at hHeld
          repeat' first
            | exact zA.nil
            | refine zB (fuel := 7) [1, 5] (by decide +kernel) (by simp) ?_
            | refine zB (fuel := 5) [5] (by decide +kernel) (by simp) ?_
            | refine zB (fuel := 5) [1] (by decide +kernel) (by simp) ?_
            | refine zB (fuel := 2) [9] (by decide +kernel) (by simp) ?_
            | refine zB (fuel := 0) [11] (by decide +kernel) (by simp) ?_
            | (refine zD [0, 2, 4, 6] 8 (by decide +kernel) (fun _ _ _ _ _ h => h) (by assumption) ?_; (iterate 4 ((apply YA.take rfl (by rfl); case hy => intro w hSw; go_simp; try with_reducible rfl); try simp only [pD])); refine YA.nil ?_)
            | (refine zD [3] 6 (by decide +kernel) (fun _ _ _ _ _ h => h) (by assumption) ?_; (iterate 1 ((apply YA.take rfl (by rfl); case hy => intro w hSw; go_simp; try with_reducible rfl); try simp only [pD])); refine YA.nil ?_)
            | (refine zD [7] 6 (by decide +kernel) (fun _ _ _ _ _ h => h) (by assumption) ?_; (iterate 1 ((apply YA.take rfl (by rfl); case hy => intro w hSw; go_simp; try with_reducible rfl); try simp only [pD])); refine YA.nil ?_)
            | (refine zD [7, 8] 3 (by decide +kernel) (fun _ _ _ _ _ h => h) (by assumption) ?_; (iterate 2 ((apply YA.take rfl (by rfl); case hy => intro w hSw; go_simp; try with_reducible rfl); try simp only [pD])); refine YA.nil ?_)
            | (refine zD [3, 8] 3 (by decide +kernel) (fun _ _ _ _ _ h => h) (by assumption) ?_; (iterate 2 ((apply YA.take rfl (by rfl); case hy => intro w hSw; go_simp; try with_reducible rfl); try simp only [pD])); refine YA.nil ?_)
            | (refine zD [10] 1 (by decide +kernel) (fun _ _ _ _ _ h => h) (by assumption) ?_; (iterate 1 ((apply YA.take rfl (by rfl); case hy => intro w hSw; go_simp; try with_reducible rfl); try simp only [pD])); refine YA.nil ?_)
            | (refine zA.con 1 rfl (fun K hK => ?_) ?_; (go_simp); (refine hK.out _ _ (by trivial) (fun hHeld => ?_)); try dsimp only at hHeld; clear hK K; try simp only [pD])
            | (refine zA.con 5 rfl (fun K hK => ?_) ?_; (go_simp); (refine hK.out _ _ (by trivial) (fun hHeld => ?_)); try dsimp only at hHeld; clear hK K; try simp only [pD])
            | (refine zA.con 9 rfl (fun K hK => ?_) ?_; (go_simp); (refine hK.out _ _ (by trivial) (fun hHeld => ?_)); try dsimp only at hHeld; clear hK K; try simp only [pD])
            | (refine zA.con 11 rfl (fun K hK => ?_) ?_; (go_simp); (refine hK.out _ _ (by trivial) (fun hHeld => ?_)); try dsimp only at hHeld; clear hK K; try simp only [pD])
            | (refine zE (by decide +kernel) ?_
               clear z0 z1 z2 d0 d1 qf ql hgl hgl1 hHeld
               go_wp2_with fail
               go_meet
               case rel => exact ⟨⟨r.take I, d.take I, v⟩, zH ((HQI.out.cut2 (by omega) (by omega)).below (b0 _).drew), zH ⟨by simp; omega, HVX.out⟩, zH (((HB7.out.setCell (p := ⟨U, 0, none⟩) HQI.out.ge _).setCell (p := ⟨U, 1, none⟩) HQI.out.ge _).drew)⟩)
        have q0 : (wv == 2) = false := beq_eq_false_iff_ne.2 h0
        go_upto_if 142 with fail
        clear q0 h0
        by_cases h0 : wv = 3
        · subst h0
          have h3z : ¬ (3 : Int) = 0 := by decide
          have HZR := zH (zLR z0 z1)
          have HQ0 := zH (zLR HQI.out.q HQI.out.row)
          clear qf ql
          go_upto_region 23 with fail
          refine zF (fun w' => w'.cell? ⟨U, 0, none⟩ = some (.slice aR r.length cR) ∧ w'.cell? ⟨U, 1, none⟩ = some (.slice aD d.length cD)) [14, 15, 16] (by decide +kernel) ?g78rgS (fun hHeld => ?g78rgR)
          case g78rgS => (try dsimp only); (first | exact HZR.out | exact ⟨row.cell 0, row.cell 1⟩)
          try dsimp only at hHeld
          obtain ⟨W, hW⟩ : ∃ W, W = wi.drew := ⟨_, rfl⟩; rw [← hW] at hHeld ⊢; (have hBW : Below w5.heap.size w5 W := by rw [hW]; exact HB7.out.drew); (have T : Q9 w5.heap.size r d v aR cR aD cD aV cV W := by rw [hW]; exact HQ0.out.1.below (b0 wi).drew); (have row : Rw W U #[.slice aR r.length cR, .slice aD d.length cD, .slice aV v.length cV] 42 := by rw [hW]; exact HQ0.out.2.drew); clear hW
          repeat' first
            | exact zA.nil
            | refine zB (fuel := 9) [3] (by decide +kernel) (by simp) ?_
            | refine zB (fuel := 8) [4] (by decide +kernel) (by simp) ?_
            | refine zB (fuel := 7) [5] (by decide +kernel) (by simp) ?_
            | refine zB (fuel := 5) [10] (by decide +kernel) (by simp) ?_
            | refine zB (fuel := 4) [11] (by decide +kernel) (by simp) ?_
            | refine zB (fuel := 3) [12] (by decide +kernel) (by simp) ?_
            | refine zB (fuel := 2) [14] (by decide +kernel) (by simp) ?_
            | refine zB (fuel := 1) [15] (by decide +kernel) (by simp) ?_
            | refine zB (fuel := 0) [16] (by decide +kernel) (by simp) ?_
            | (refine zD [0, 1, 2, 6, 7, 8, 9] 10 (by decide +kernel) (fun _ _ _ _ _ h => h) (by assumption) ?_; (iterate 7 ((apply YA.take rfl (by rfl); case hy => rintro w ⟨s0, s1⟩; go_simp; try with_reducible rfl); try simp only [pD])); refine YA.nil ?_)
            | (refine zD [13] 6 (by decide +kernel) (fun _ _ _ _ _ h => h) (by assumption) ?_; (iterate 1 ((apply YA.take rfl (by rfl); case hy => rintro w ⟨s0, s1⟩; go_simp; try with_reducible rfl); try simp only [pD])); refine YA.nil ?_)
            | (refine zA.con 3 rfl (fun K hK => ?_) ?_; (go_simp; refine (qE _ _ _ (by omega) (by omega)).mono ?_; rintro e w' ⟨rfl, rfl⟩; dsimp only); (refine hK.out _ _ ?_ (fun hHeld => ?_); focus ((try dsimp only); (first | exact HZR.out | exact ⟨row.cell 0, row.cell 1⟩))); try dsimp only at hHeld; clear hK K; try simp only [pD])
            | (refine zA.con 4 rfl (fun K hK => ?_) ?_; (go_simp; refine xN (fun Y hY => ?_); (have hb : Below W.heap.size W Y := by rw [hY]; exact ba (b0 W) _); (have rn4 := Rw.ren hY (Rw.new W _ _)); (replace T := T.below hb); (replace row := row.below hb); (replace hBW := bt hBW hb); clear hb hY); (refine hK.out _ _ ?_ (fun hHeld => ?_); focus ((try dsimp only); (first | exact HZR.out | exact ⟨row.cell 0, row.cell 1⟩))); try dsimp only at hHeld; clear hK K; try simp only [pD])
            | (refine zA.con 5 rfl (fun K hK => ?_) ?_; ((refine zN (B := w5.heap.size) rfl _ _ _ _ rfl ii (.int .i64 0) 8 Try.underlying22 hii hz0i hz1i hz2i rfl rfl T.oR _ rfl 1 _ (yP (P := Try.prog) (tx := 22) Try.underlying22 rn4 1 1 rfl (by simp [Value.oneCell'])) (by simp only [maxLen]; omega) (by omega) hBW.size ?_; intro a9 c9 W9 ho9 hc9 hn9); (have n9 := T.tR.box row (by decide)); (replace T := T.appR HDP.out ho9 hc9 hn9); (replace row := row.chg hc9 (fun h => n9 h.1)); (replace hBW := Chg.bt hBW hc9 (fun k hk h => by have := h.2.1; omega)); clear ho9 hc9 hn9 rn4 n9); (refine hK.out _ _ ?_ (fun hHeld => ?_); focus ((try dsimp only); (first | exact HZR.out | exact ⟨row.cell 0, row.cell 1⟩))); try dsimp only at hHeld; clear hK K; try simp only [pD])
            | (refine zA.con 10 rfl (fun K hK => ?_) ?_; (go_simp; refine (qE _ _ _ (by omega) (by omega)).mono ?_; rintro e w' ⟨rfl, rfl⟩; dsimp only); (refine hK.out _ _ ?_ (fun hHeld => ?_); focus ((try dsimp only); (first | exact HZR.out | exact ⟨row.cell 0, row.cell 1⟩))); try dsimp only at hHeld; clear hK K; try simp only [pD])
            | (refine zA.con 11 rfl (fun K hK => ?_) ?_; (go_simp; refine xN (fun Y hY => ?_); (have hb : Below W9.heap.size W9 Y := by rw [hY]; exact ba (b0 W9) _); (have rn11 := Rw.ren hY (Rw.new W9 _ _)); (replace T := T.below hb); (replace row := row.below hb); (replace hBW := bt hBW hb); clear hb hY); (refine hK.out _ _ ?_ (fun hHeld => ?_); focus ((try dsimp only); (first | exact HZR.out | exact ⟨row.cell 0, row.cell 1⟩))); try dsimp only at hHeld; clear hK K; try simp only [pD])
            | (refine zA.con 12 rfl (fun K hK => ?_) ?_; ((refine zN (B := w5.heap.size) rfl _ _ _ _ rfl ii (.int .i64 0) 8 Try.underlying22 hii hz0i hz1i hz2i rfl rfl T.oD _ rfl 1 _ (yP (P := Try.prog) (tx := 22) Try.underlying22 rn11 1 1 rfl (by simp [Value.oneCell'])) (by simp only [maxLen]; omega) (by omega) hBW.size ?_; intro a16 c16 W16 ho16 hc16 hn16); (have n16 := T.tD.box row (by decide)); (replace T := T.appD HDP.out ho16 hc16 hn16); (replace row := row.chg hc16 (fun h => n16 h.1)); (replace hBW := Chg.bt hBW hc16 (fun k hk h => by have := h.2.1; omega)); clear ho16 hc16 hn16 rn11 n16); (refine hK.out _ _ ?_ (fun hHeld => ?_); focus ((try dsimp only); (first | exact HZR.out | exact ⟨row.cell 0, row.cell 1⟩))); try dsimp only at hHeld; clear hK K; try simp only [pD])
            | (refine zA.lst 14 rfl (by decide +kernel) (fun K hK => ?_) ?_; ((have qf := row.frozen); (have ql := row.lt); (have qc := row.cell 0); (have qd := row.cell 1); go_simp); refine hK.out _ _ ?_; clear hK K; try simp only [pD])
            | (refine zA.lst 15 rfl (by decide +kernel) (fun K hK => ?_) ?_; (go_simp); refine hK.out _ _ ?_; clear hK K; try simp only [pD])
            | (refine zA.lst 16 rfl (by decide +kernel) (fun K hK => ?_) ?_; (go_simp); refine hK.out _ _ ?_; clear hK K; try simp only [pD])
            | (refine zE (by decide +kernel) ?_
               have HT := zH T; have HR9 := zH row; have HBX := zH hBW
               clear T row hBW qf ql qc qd hHeld z0 z1 z2
               go_wp2_with fail
               go_meet
               case rel =>
                 refine ⟨⟨r ++ [_], d ++ [_], v⟩, zH (QX.qd ⟨?_, ((HT.out.u HR9.out 0 _).u (HR9.out.set 0 _) 1 _), HQI.out.ge⟩), zH ⟨?_, HVX.out⟩, zH ((HBX.out.setCell (p := ⟨U, 0, none⟩) HQI.out.ge _).setCell (p := ⟨U, 1, none⟩) HQI.out.ge _)⟩
                 · simp only [zLZ, List.length_cons, List.length_nil, Nat.zero_add]
                   exact (HR9.out.set 0 _).set 1 _
                 · have := HD5.out
                   simp only [zLZ, List.length_cons, List.length_nil]
                   omega)
        have q0 : (wv == 3) = false := beq_eq_false_iff_ne.2 h0
        go_upto_if 160 with fail
        clear q0 h0
        by_cases h0 : wv = 4
        · subst h0
          have nV := HQI.out.q.tV.box HQI.out.row (by decide)
          go_wp2_with (at_builtin; refine zI (B := w5.heap.size) rfl _ _ _ _ rfl iv (.agg #[.int .i64 0, .string ByteArray.empty]) 24 Try.underlying40 hiv hz0v hz1v hz2v rfl rfl ((HQI.out.q.below (ba (b0 wi) (.cells #[.int .i64 by', .string ByteArray.empty] 44))).oV) _ rfl _ _ (yP (P := Try.prog) (tx := 40) Try.underlying40 (Rw.new wi #[.int .i64 by', .string ByteArray.empty] 44) 1 2 rfl (by simp [Value.oneCell'])) (by simp only [maxLen]; omega) (by omega) (by have := HB7.out.size; simp; omega) ?_; intro a9 c9 W9 ho9 hc9 hn9; (have row9 := (HQI.out.row.alloc (.cells #[.int .i64 by', .string ByteArray.empty] 44)).chg hc9 (fun e => nV e.1)); (have y2 := row9.cell 2); (simp only [pG] at y2); (have qf9 := row9.frozen); (have ql9 := row9.lt))
          go_meet
          case rel =>
            have q9 := Q9.appV (x := ⟨by', ByteArray.empty⟩) (HQI.out.q.below (ba (b0 wi) (.cells #[.int .i64 by', .string ByteArray.empty] 44))) ho9 hc9
            have e1 : (v ++ [(⟨by', ByteArray.empty⟩ : Vc)]).length = v.length + 1 := by simp
            refine ⟨⟨r, d, v ++ [⟨by', ByteArray.empty⟩]⟩, zH (QX.qd ⟨by rw [e1]; exact row9.set 2 _, q9.u row9 2 _, HQI.out.ge⟩), zH ⟨hdl, fun u hu => ?_⟩, zH ?_⟩
            · rcases List.mem_append.1 hu with h | h
              · exact HVX.out u h
              · rw [List.mem_singleton.1 h]; simp
            · exact (Chg.bt (bt HB7.out (ba (b0 wi) _)) hc9 (fun i hi h => by have := h.2.1; omega)).setCell (p := ⟨U, 2, none⟩) HQI.out.ge _
        have q0 : (wv == 4) = false := beq_eq_false_iff_ne.2 h0
        go_upto_region 26 with fail
        clear q0 h0
        by_cases h0 : wv = 5
        · subst h0
          by_cases hv0 : (0 : Int) < (v.length : Int)
          · obtain ⟨g, rfl, hgB, hgl, hgc, hgf⟩ := HQI.out.q.oV.pos (by omega)
            have hcV := HQI.out.q.oV.le
            have hlc : v.length - 1 ≤ cV := by omega
            have hl1 : (v.length : Int) - 1 = ((v.length - 1 : Nat) : Int) := by omega
            have HM1 := zH (show v.length - 1 ≤ v.length by omega)
            clear hgB hgl hgc hgf
            go_wp2_with fail
            go_meet
            case rel => exact ⟨⟨r, d, v.take (v.length - 1)⟩, zH (HQI.out.cutV HM1.out), zH ⟨hdl, fun u hu => HVX.out u (zLT hu)⟩, zH (HB7.out.setCell (p := ⟨U, 2, none⟩) HQI.out.ge _)⟩
          · go_wp2_with fail
            go_meet
            case rel => exact ⟨⟨r, d, v⟩, zH HQI.out.qd, zH ⟨hdl, HVX.out⟩, HB7⟩
        have q0 : (wv == 5) = false := beq_eq_false_iff_ne.2 h0
        go_upto_region 28 with fail
        clear q0 h0
        by_cases h0 : wv = 6
        · subst h0
          by_cases hv0 : (0 : Int) < (v.length : Int)
          · obtain ⟨g, rfl, hgB, hgl, hgc, hgf⟩ := HQI.out.q.oV.pos (by omega)
            obtain ⟨J, hJ⟩ : ∃ J : Nat, (J : Int) = att % (v.length : Int) := ⟨(att % (v.length : Int)).toNat, by have := zLU att (show (v.length : Int) ≠ 0 by omega); omega⟩
            have hJl : J < v.length := by have := zLS att hv0; omega
            have y0 := hgc _ _ (qL v J hJl).1
            have HGB := zH hgB; have HJ := zH hJ
            have HZR := zH z2
            have hgf := hgf (J * 2)
            have hJ1 : (J : Int) < (v.length : Int) := by omega
            have HJL := zH hJl
            clear hgB hgc hJ
            go_upto_region 29 with fail
            refine zF (fun w' => w'.cell? ⟨U, 2, none⟩ = some (.slice (some ⟨g, 0, none⟩) v.length cV)) [8, 9, 10] (by decide +kernel) ?g79rgS (fun hHeld => ?g79rgR)
            case g79rgS => (try dsimp only); (exact HZR.out)
            try dsimp only at hHeld
            repeat' first
              | exact zA.nil
              | refine zB (fuel := 3) [6] (by decide +kernel) (by simp) ?_
              | refine zB (fuel := 2) [8] (by decide +kernel) (by simp) ?_
              | refine zB (fuel := 1) [9] (by decide +kernel) (by simp) ?_
              | refine zB (fuel := 0) [10] (by decide +kernel) (by simp) ?_
              | (refine zD [0, 1, 2, 3, 4, 5, 7] 4 (by decide +kernel) (fun _ _ _ _ _ h => h) (by assumption) ?_; (iterate 7 ((apply YA.take rfl (by rfl); case hy => intro w hSw; go_simp; try with_reducible rfl); try simp only [pD])); refine YA.nil ?_)
              | (refine zA.con 6 rfl (fun K hK => ?_) ?_; (go_simp; refine (qE _ v.length _ (by omega) (by omega)).mono ?_; rintro e w' ⟨rfl, rfl⟩; dsimp only; rw [← HJ.out]); (refine hK.out _ _ ?_ (fun hHeld => ?_); focus ((try dsimp only); (exact HZR.out))); try dsimp only at hHeld; clear hK K; try simp only [pD])
              | (refine zA.lst 8 rfl (by decide +kernel) (fun K hK => ?_) ?_; (go_simp); refine hK.out _ _ ?_; clear hK K; try simp only [pD])
              | (refine zA.lst 9 rfl (by decide +kernel) (fun K hK => ?_) ?_; (go_simp); refine hK.out _ _ ?_; clear hK K; try simp only [pD])
              | (refine zA.lst 10 rfl (by decide +kernel) (fun K hK => ?_) ?_; (go_simp); refine hK.out _ _ ?_; clear hK K; try simp only [pD])
              | (refine zE (by decide +kernel) ?_
                 clear z0 z1 z2 y0 hgf hgl qf ql hHeld
                 go_wp2_with fail
                 go_meet
                 case rel => exact ⟨⟨r, d, v.set J ⟨by', (v[J]'HJL.out).s⟩⟩, zH ((HQI.out.setV rfl (J * 2) _ (by simp) (zFN _ _ _ _ (fun x hx => by rw [zLW HJL.out] at hx; cases hx; rfl))).below (b0 _).drew).qd, zH ⟨hdl, zF4 HVX.out (show (v[J]'HJL.out).s.size ≤ maxLen from HVX.out _ (zLX HJL.out))⟩, zH ((HB7.out.setCell (p := ⟨g, J * 2, none⟩) HGB.out _).drew)⟩)
          · go_wp2_with fail
            go_meet
            case rel => exact ⟨⟨r, d, v⟩, zH HQI.out.qd, zH ⟨hdl, HVX.out⟩, HB7⟩
        have q0 : (wv == 6) = false := beq_eq_false_iff_ne.2 h0
        go_upto_if 206 with fail
        clear q0 h0
        by_cases h0 : wv = 7
        · subst h0
          obtain ⟨g, rfl, hgB, hgl, hgc, hgf⟩ := HQI.out.q.oR.pos (by omega)
          obtain ⟨g1, rfl, hgB1, hgl1, hgc1, hgf1⟩ := HQI.out.q.oD.pos (by omega)
          have y0 := hgc I _ (zO r I (by omega))
          have y1 := hgc1 I _ (zO d I (by omega))
          have hne : g ≠ g1 := fun e => HQI.out.q.rd HDP.out g ⟨_, _, rfl⟩ ⟨_, _, by rw [e]⟩
          have hgU : U ≠ g := fun e => HQI.out.q.tR.box HQI.out.row (by decide) (by rw [e]; exact ⟨_, _, rfl⟩)
          have hgU1 : U ≠ g1 := fun e => HQI.out.q.tD.box HQI.out.row (by decide) (by rw [e]; exact ⟨_, _, rfl⟩)
          have HGB := zH (zLR hgB hgB1)
          clear hgc hgc1 hgB hgB1
          go_upto_region 31 with fail
          have hf0 := hgf I; have hf1 := hgf1 I
          have d0 : wi.drew.cell? ⟨U, 0, none⟩ = some (.slice (some ⟨g, 0, none⟩) r.length cR) := z0
          have d1 : wi.drew.cell? ⟨U, 1, none⟩ = some (.slice (some ⟨g1, 0, none⟩) d.length cD) := z1
          refine zF (fun _ => True) [] (by decide +kernel) ?g80rgS (fun hHeld => ?g80rgR)
          case g80rgS => trivial
          try dsimp only at hHeld
          repeat' first
            | exact zA.nil
            | refine zB (fuel := 5) [1, 4] (by decide +kernel) (by simp) ?_
            | refine zB (fuel := 4) [1] (by decide +kernel) (by simp) ?_
            | refine zB (fuel := 3) [4, 9] (by decide +kernel) (by simp) ?_
            | refine zB (fuel := 2) [9] (by decide +kernel) (by simp) ?_
            | refine zB (fuel := 2) [4] (by decide +kernel) (by simp) ?_
            | refine zB (fuel := 0) [11] (by decide +kernel) (by simp) ?_
            | (refine zD [0, 2, 3, 5, 6, 7] 6 (by decide +kernel) (fun _ _ _ _ _ h => h) (by assumption) ?_; (iterate 6 ((apply YA.take rfl (by rfl); case hy => intro w hSw; go_simp; try with_reducible rfl); try simp only [pD])); refine YA.nil ?_)
            | (refine zD [8] 4 (by decide +kernel) (fun _ _ _ _ _ h => h) (by assumption) ?_; (iterate 1 ((apply YA.take rfl (by rfl); case hy => intro w hSw; go_simp; try with_reducible rfl); try simp only [pD])); refine YA.nil ?_)
            | (refine zD [8] 3 (by decide +kernel) (fun _ _ _ _ _ h => h) (by assumption) ?_; (iterate 1 ((apply YA.take rfl (by rfl); case hy => intro w hSw; go_simp; try with_reducible rfl); try simp only [pD])); refine YA.nil ?_)
            | (refine zD [10] 1 (by decide +kernel) (fun _ _ _ _ _ h => h) (by assumption) ?_; (iterate 1 ((apply YA.take rfl (by rfl); case hy => intro w hSw; go_simp; try with_reducible rfl); try simp only [pD])); refine YA.nil ?_)
            | (refine zA.con 1 rfl (fun K hK => ?_) ?_; (go_simp); (refine hK.out _ _ (by trivial) (fun hHeld => ?_)); try dsimp only at hHeld; clear hK K; try simp only [pD])
            | (refine zA.con 4 rfl (fun K hK => ?_) ?_; (go_simp); (refine hK.out _ _ (by trivial) (fun hHeld => ?_)); try dsimp only at hHeld; clear hK K; try simp only [pD])
            | (refine zA.con 9 rfl (fun K hK => ?_) ?_; (go_simp); (refine hK.out _ _ (by trivial) (fun hHeld => ?_)); try dsimp only at hHeld; clear hK K; try simp only [pD])
            | (refine zA.con 11 rfl (fun K hK => ?_) ?_; (go_simp); (refine hK.out _ _ (by trivial) (fun hHeld => ?_)); try dsimp only at hHeld; clear hK K; try simp only [pD])
            | (refine zE (by decide +kernel) ?_
               clear z0 z1 z2 d0 d1 y0 y1 qf ql hgl hgl1 hgf hgf1 hf0 hf1 hHeld
               go_wp2_with fail
               go_meet
               case rel => exact ⟨⟨r.set I _, d.set I _, v⟩, zH ((((HQI.out.setR HDP.out rfl I _).setD HDP.out rfl I _)).below (b0 _).drew).qd, zH ⟨by simpa using hdl, HVX.out⟩, zH (((HB7.out.setCell (p := ⟨g, I, none⟩) HGB.out.1 _).setCell (p := ⟨g1, I, none⟩) HGB.out.2 _).drew)⟩)
        have q0 : (wv == 7) = false := beq_eq_false_iff_ne.2 h0
        go_upto_region 32 with fail
        clear q0 h0
        by_cases h0 : wv = 8
        · subst h0
          by_cases hv0 : (0 : Int) < (v.length : Int)
          · obtain ⟨g, rfl, hgB, hgl, hgc, hgf⟩ := HQI.out.q.oV.pos (by omega)
            obtain ⟨J, hJ⟩ : ∃ J : Nat, (J : Int) = att % (v.length : Int) := ⟨(att % (v.length : Int)).toNat, by have := zLU att (show (v.length : Int) ≠ 0 by omega); omega⟩
            have hJl : J < v.length := by have := zLS att hv0; omega
            have y0 := hgc _ _ (qL v J hJl).2
            have HGB := zH hgB; have HJ := zH hJ
            have HZR := zH z2
            have hgf := hgf (J * 2 + 1)
            have hJ1 : (J : Int) < (v.length : Int) := by omega
            have HJL := zH hJl
            clear hgB hgc hJ
            go_upto_region 33 with fail
            refine zF (fun w' => w'.cell? ⟨U, 2, none⟩ = some (.slice (some ⟨g, 0, none⟩) v.length cV)) [7, 8, 9] (by decide +kernel) ?g81rgS (fun hHeld => ?g81rgR)
            case g81rgS => (try dsimp only); (exact HZR.out)
            try dsimp only at hHeld
            repeat' first
              | exact zA.nil
              | refine zB (fuel := 3) [6] (by decide +kernel) (by simp) ?_
              | refine zB (fuel := 2) [7] (by decide +kernel) (by simp) ?_
              | refine zB (fuel := 1) [8] (by decide +kernel) (by simp) ?_
              | refine zB (fuel := 0) [9] (by decide +kernel) (by simp) ?_
              | (refine zD [0, 1, 2, 3, 4, 5] 4 (by decide +kernel) (fun _ _ _ _ _ h => h) (by assumption) ?_; (iterate 6 ((apply YA.take rfl (by rfl); case hy => intro w hSw; go_simp; try with_reducible rfl); try simp only [pD])); refine YA.nil ?_)
              | (refine zA.con 6 rfl (fun K hK => ?_) ?_; (go_simp; refine (qE _ v.length _ (by omega) (by omega)).mono ?_; rintro e w' ⟨rfl, rfl⟩; dsimp only; rw [← HJ.out]); (refine hK.out _ _ ?_ (fun hHeld => ?_); focus ((try dsimp only); (exact HZR.out))); try dsimp only at hHeld; clear hK K; try simp only [pD])
              | (refine zA.lst 7 rfl (by decide +kernel) (fun K hK => ?_) ?_; (go_simp); refine hK.out _ _ ?_; clear hK K; try simp only [pD])
              | (refine zA.lst 8 rfl (by decide +kernel) (fun K hK => ?_) ?_; (go_simp); refine hK.out _ _ ?_; clear hK K; try simp only [pD])
              | (refine zA.lst 9 rfl (by decide +kernel) (fun K hK => ?_) ?_; (go_simp); refine hK.out _ _ ?_; clear hK K; try simp only [pD])
              | (refine zE (by decide +kernel) ?_
                 clear z0 z1 z2 y0 hgf hgl qf ql hHeld
                 go_wp2_with fail
                 go_meet
                 case rel => exact ⟨⟨r, d, v.set J ⟨(v[J]'HJL.out).n, ⟨#[120]⟩⟩⟩, zH ((HQI.out.setV rfl (J * 2 + 1) _ (by simp) (zFM _ _ _ _ (fun x hx => by rw [zLW HJL.out] at hx; cases hx; rfl))).below (b0 _).drew).qd, zH ⟨hdl, zF4 HVX.out (show ByteArray.size ⟨#[120]⟩ ≤ maxLen by decide)⟩, zH ((HB7.out.setCell (p := ⟨g, J * 2 + 1, none⟩) HGB.out _).drew)⟩)
          · go_wp2_with fail
            go_meet
            case rel => exact ⟨⟨r, d, v⟩, zH HQI.out.qd, zH ⟨hdl, HVX.out⟩, HB7⟩
        have q0 : (wv == 8) = false := beq_eq_false_iff_ne.2 h0
        go_wp2_with fail
        go_meet
        case rel => exact ⟨⟨r, d, v⟩, zH HQI.out.qd, zH ⟨hdl, HVX.out⟩, HB7⟩
      case rest =>
        as_aux_lemma =>
        obtain ⟨X, HQD, HXL, HB8⟩ := hcut
        obtain ⟨w8, hw8⟩ : ∃ wo : World, wo = wc := ⟨_, rfl⟩
        subst hw8
        clear HQI HBI HB7 HCL HD5 HRD2 HVX HZ z0 z1 z2 qf ql hdl hrl hvm
        have HCO := zH (HCOL.out.below HB8.out)
        have HCA := zH (HCO.out.below (ba (b0 w8) (.cells #[] 42)))
        have HS1 := zH ((HCA.out.sl).src (P := Try.prog) (tx := 30) Try.underlying30 (HdG.one HCA.out.hd))
        go_upto_region 35 with (at_builtin; refine zEW (B := w8.heap.size) rfl _ _ _ _ rfl ic (.agg #[.slice none 0 0, .slice none 0 0, .slice none 0 0]) 72 Try.underlying30 hic hz0c hz1c hz2c rfl rfl _ rfl _ _ HS1.out (by simp only [maxLen]; omega) (by omega) (by simp) ?_; intro a5 cap5 w9 ho5 hb5 hn5)
        obtain ⟨g5, rfl, hg5, hgl5, hgc5, hgf5⟩ := ho5.pos (by omega)
        obtain ⟨aR', cR', aD', cD', aV', cV', hrow8, hcl8⟩ := HQD.out
        have hb9 : Below w8.heap.size w8 w9 := bt (ba (b0 w8) _) hb5
        have row9 := hrow8.below hb9
        have z0 := row9.cell 0; have z1 := row9.cell 1; have z2 := row9.cell 2
        simp only [pG] at z0 z1 z2
        obtain ⟨_, _, _, _, _, _, hx0, hx1, hx2, _⟩ := HCO.out.hd.get K hKl
        have y0 := hgc5 _ _ hx0; have y1 := hgc5 _ _ hx1; have y2 := hgc5 _ _ hx2
        have HO5 := zH ho5; have HB9 := zH hb9; have HG5 := zH hg5; have HR8 := zH hrow8; have HCL8 := zH hcl8
        clear ho5 hb5 hn5 hb9 hrow8 hcl8 row9 hgc5 hx0 hx1 hx2 hg5 HCA HS1
        go_upto_region 36 with fail
        refine yE (fun w10 hw10 => ?_)
        have ho10 : Own w8.heap.size w10 42 3 (some ⟨g5, 0, none⟩) CL.length cap5 (((xs.set (K * 3) (.slice aR' X.r.length cR')).set (K * 3 + 1) (.slice aD' X.d.length cD')).set (K * 3 + 2) (.slice aV' X.v.length cV')) := by
          rw [hw10]; exact ((HO5.out.stored rfl (K * 3) _).stored rfl (K * 3 + 1) _).stored rfl (K * 3 + 2) _
        have hb10 : Below w8.heap.size w8 w10 := by
          rw [hw10]; exact ((HB9.out.setCell (p := ⟨g5, K * 3, none⟩) HG5.out _).setCell (p := ⟨g5, K * 3 + 1, none⟩) HG5.out _).setCell (p := ⟨g5, K * 3 + 2, none⟩) HG5.out _
        have HC10 : Hid (xE w10 (some ⟨g5, 0, none⟩) CL.length cap5 (CL.set K X) (((xs.set (K * 3) (.slice aR' X.r.length cR')).set (K * 3 + 1) (.slice aD' X.d.length cD')).set (K * 3 + 2) (.slice aV' X.v.length cV'))) :=
          zH ⟨ho10.sl.mono (fun k hk _ => hk) (by decide), HdG.set ⟨slb HCL8.out.r hb10, slb HCL8.out.d hb10, slb HCL8.out.v hb10⟩ K (HCO.out.hd.below hb10) hKl⟩
        have HB10 := zH hb10
        clear hw10 ho10 hb10 z0 z1 z2 y0 y1 y2 hgl5 hgf5 HO5 HB9 HG5 HR8 HCL8
        have hlc : CL.length - 1 ≤ cc := by have := HCO.out.sl.le; omega
        have hl1 : (CL.length : Int) - 1 = ((CL.length - 1 : Nat) : Int) := by omega
        go_upto_region 37 with fail
        refine yE (fun w11 hw11 => ?_)
        have r24 : Rw w11 w10.heap.size #[.slice (some ⟨g5, 0, none⟩) CL.length cap5, .slice ra RL.length rc, .slice (some ⟨cb, co, none⟩) CL.length cc, .slice (some ⟨cb, co, none⟩) (CL.length - 1) cc] 30 := by rw [hw11]; exact Rw.new w10 _ _
        have hb11 : Below w10.heap.size w10 w11 := by rw [hw11]; exact ba (b0 w10) _
        obtain ⟨b24, hb24⟩ : ∃ b, b = w10.heap.size := ⟨_, rfl⟩
        rw [← hb24] at r24 ⊢
        have HR24 := zH r24; have HB11 := zH hb11
        clear hw11 r24 hb11 hb24 hlc hl1
        go_wp2_with fail
        refine (qE n 3 w11 (by decide) (by decide)).mono ?_
        rintro e w' ⟨rfl, rfl⟩
        go_upto_region 38 with fail
        refine yE (fun w12 hw12 => ?_)
        obtain ⟨i2, r25⟩ : ∃ i2, Rw w12 w11.heap.size #[.int .i64 (x.length : Int), .int .i64 n, .int .i64 i2] 3 := ⟨_, by rw [hw12]; exact Rw.new w11 _ _⟩
        have hb12 : Below w11.heap.size w11 w12 := by rw [hw12]; exact ba (b0 w11) _
        obtain ⟨b25, hb25⟩ : ∃ b, b = w11.heap.size := ⟨_, rfl⟩
        rw [← hb25] at r25 ⊢
        have HB12 : Hid (Below w8.heap.size w8 w12) := zH (bt HB10.out (bt HB11.out hb12))
        have HB13 : Hid (Below w.heap.size w w12) := zH (bt HB5.out (bt HB8.out HB12.out))
        have HS12 := zH (slb HSC5.out (bt HB8.out HB12.out))
        have HJ4 := zH (zK8 (HR24.out.below hb12)
          ⟨_, _, _, _, _, rfl, HC10.out.below (bt HB11.out hb12), fun Y hY => by
              rcases zLV hY with h | h
              · exact HDL.out Y h
              · rw [h]; exact HXL.out.1, fun Y hY => by
              rcases zLV hY with h | h
              · exact HVL.out Y h
              · rw [h]; exact HXL.out.2⟩
          ⟨_, _, _, _, _, rfl, H2.out.below HB13.out, fun Y hY => by have := (HFE.out Y hY).2.1; omega, fun Y hY u hu => by have := (HFE.out Y hY).2.2.2 u hu; unfold maxLen; omega⟩
          ⟨_, _, _, _, _, rfl, HCO.out.below HB12.out, HDL.out, HVL.out⟩
          ⟨_, _, _, _, _, rfl, zGY (HCO.out.below HB12.out) (Nat.sub_le _ _), fun Y hY => HDL.out Y (zLT hY), fun Y hY => HVL.out Y (zLT hY)⟩)
        have HN3 := zH (zKU r25)
        clear hw12 r25 hb12 hb25 HR24 HB11 HB10 HC10 HCO HB12 HB8 HXL HQD HCOL HSC5 HB5 H2 HFE HDL HVL HRD HB4S HB6 HXE
        go_wp2_with fail
        go_loopw [26] (fun jv wr => ∃ j : Nat, jv = .int .i64 (j : Int) ∧ j ≤ 4 ∧ Hid (Below w12.heap.size w12 wr)) (fun jv _ => 4 - (intOf jv).toNat)
        case atStart => exact ⟨0, rfl, Nat.zero_le _, zH (b0 _)⟩
        case round =>
          obtain ⟨j, rfl, hj, HBJ⟩ := hrel
          obtain ⟨wj, hwj⟩ : ∃ wo : World, wo = wr := ⟨_, rfl⟩
          subst hwj
          by_cases hj4 : j < 4
          · go_wp2_with fail
            have e4 : decide ((j : Int) < 4) = true := decide_eq_true (by omega)
            try simp only [e4]
            clear e4
            go_loopw [27] (fun mv ws => ∃ m : Nat, mv = .int .i64 (m : Int) ∧ m ≤ 3 ∧ Hid (Below w12.heap.size w12 ws)) (fun mv _ => 3 - (intOf mv).toNat)
            case atStart => exact ⟨0, rfl, Nat.zero_le _, HBJ⟩
            case round =>
              obtain ⟨m, rfl, hm, HBM⟩ := hrel
              by_cases hm3 : m < 3
              · obtain ⟨wm, hwm⟩ : ∃ wo : World, wo = wr := ⟨_, rfl⟩
                subst hwm
                obtain ⟨ca, cm, cq, L, xl, y0, hcr, hln, hst⟩ := HJ4.out j hj4
                obtain ⟨nn, y1⟩ := HN3.out m hm3
                have HCR := zH (hcr.below HBM.out); have HLN := zH hln; have HST := zH hst
                have HSM := zH (slb HS12.out HBM.out)
                have HZA := zH (zLR y0 y1)
                replace y0 := Go.Shr.cb HBM.out y0; replace y1 := Go.Shr.cb HBM.out y1
                have HZM := zH (zLR y0 y1)
                clear hcr hln hst
                go_upto_region 44 with fail
                have e4 : decide ((j : Int) < 4) = true := decide_eq_true (by omega)
                have e3 : decide ((m : Int) < 3) = true := decide_eq_true (by omega)
                try simp only [e4]
                try simp only [e3]
                clear e4 e3
                go_cut [28, 29] from 271 to 284 (fun v28 v29 w6 => ∃ (xx : List Tr) (xa : Option Addr) (xc : Nat) (ys : List Value) (er : Int), v28 = .slice xa xx.length xc ∧ v29 = .int .i64 er ∧ Hid (zKN l sh L nn er xx) ∧ Hid (Sl (fun b => b < w6.heap.size) w6 3 xa xx.length xc ys) ∧ Hid (yN w6 xx ys) ∧ Hid (Below wm.heap.size wm w6))
                case first =>
                  refine zF (fun w' => w'.cell? ⟨b24, j, none⟩ = some (.slice ca cm cq) ∧ w'.cell? ⟨b25, m, none⟩ = some (.int .i64 nn)) [14] (by decide +kernel) ?g82rgS (fun hHeld => ?g82rgR)
                  case g82rgS => (try dsimp only); (first | exact HZM.out | exact ⟨Go.Shr.cb hb6 HZM.out.1, Go.Shr.cb hb6 HZM.out.2⟩)
                  try dsimp only at hHeld
                  repeat' first
                    | exact zA.nil
                    | refine zB (fuel := 5) [9] (by decide +kernel) (by simp) ?_
                    | refine zB (fuel := 0) [14] (by decide +kernel) (by simp) ?_
                    | (refine zD [0, 1, 2, 3, 4, 5, 6, 7, 8] 6 (by decide +kernel) (fun _ _ _ _ _ h => h) (by assumption) ?_; (iterate 9 ((apply YA.take rfl (by rfl); case hy => rintro w ⟨s0, s1⟩; go_simp; try with_reducible rfl); try simp only [pD])); refine YA.nil ?_)
                    | (refine zD [10, 11, 12, 13] 1 (by decide +kernel) (fun _ _ _ _ _ h => h) (by assumption) ?_; (iterate 4 ((apply YA.take rfl (by rfl); case hy => rintro w ⟨s0, s1⟩; go_simp; try with_reducible rfl); try simp only [pD])); refine YA.nil ?_)
                    | (refine zA.con 9 rfl (fun K hK => ?_) ?_; (go_simp; refine (zBr HSCH.out HWY.out HRP.out HR0.out a ca cap cm cq L xl nn _ (slb HSM.out (b0 wm).drew) (HCR.out.below (b0 wm).drew) HLN.out HST.out).mono ?_; rintro e w6 ⟨xx, xa, xc, ys, er, rfl, hsx, hrx, hb6, hA, hqx⟩; dsimp only); (refine hK.out _ _ ?_ (fun hHeld => ?_); focus ((try dsimp only); (first | exact HZM.out | exact ⟨Go.Shr.cb hb6 HZM.out.1, Go.Shr.cb hb6 HZM.out.2⟩))); try dsimp only at hHeld; clear hK K; try simp only [pD])
                    | (refine zA.lst 14 rfl (by decide +kernel) (fun K hK => ?_) ?_; (go_simp); refine hK.out _ _ ?_; clear hK K; try simp only [pD])
                    | (refine zE (by decide +kernel) ?_
                       have HA1 := zH (zLR hA hqx)
                       have HSX := zH (hsx.mono (ok' := fun b => b < w6.heap.size) (fun b hb _ => hb) (by decide)); have HRX := zH hrx.at
                       have HB6 := zH (bt (b0 wm).drew hb6)
                       clear hA hqx hsx hrx hb6 hHeld y0 y1
                       go_wp2_with fail
                       go_meet
                       case rel => exact ⟨xx, xa, xc, ys, er, rfl, rfl, HA1, HSX, HRX, HB6⟩)
                case rest =>
                  obtain ⟨xx, xa, xc, ys, er, rfl, rfl, HA1, HSX, HRX, HBX⟩ := hcut
                  obtain ⟨wx, hwx⟩ : ∃ wo : World, wo = wc := ⟨_, rfl⟩
                  subst hwx
                  have HCX := zH (HCR.out.below HBX.out)
                  have HSX5 := zH (slb HSM.out HBX.out)
                  replace y0 := Go.Shr.cb HBX.out y0; replace y1 := Go.Shr.cb HBX.out y1
                  have HZX := zH (zLR y0 y1)
                  clear HCR HSM HZM HZA
                  go_upto_region 45 with fail
                  go_cut [30, 31] from 284 to 297 (fun v30 v31 w7 => ∃ (yy : List Tr) (ya : Option Addr) (yc : Nat) (zs : List Value) (fr : Int), v30 = .slice ya yy.length yc ∧ v31 = .int .i64 fr ∧ Hid (zKN l sh L nn fr yy) ∧ Hid (Sl (fun b => b < w7.heap.size) w7 3 ya yy.length yc zs) ∧ Hid (yN w7 yy zs) ∧ Hid (Below wx.heap.size wx w7))
                  case first =>
                    refine zF (fun w' => w'.cell? ⟨b24, j, none⟩ = some (.slice ca cm cq) ∧ w'.cell? ⟨b25, m, none⟩ = some (.int .i64 nn)) [14] (by decide +kernel) ?g83rgS (fun hHeld => ?g83rgR)
                    case g83rgS => (try dsimp only); (first | exact HZX.out | exact ⟨Go.Shr.cb hb6 HZX.out.1, Go.Shr.cb hb6 HZX.out.2⟩)
                    try dsimp only at hHeld
                    repeat' first
                      | exact zA.nil
                      | refine zB (fuel := 5) [9] (by decide +kernel) (by simp) ?_
                      | refine zB (fuel := 0) [14] (by decide +kernel) (by simp) ?_
                      | (refine zD [0, 1, 2, 3, 4, 5, 6, 7, 8] 6 (by decide +kernel) (fun _ _ _ _ _ h => h) (by assumption) ?_; (iterate 9 ((apply YA.take rfl (by rfl); case hy => rintro w ⟨s0, s1⟩; go_simp; try with_reducible rfl); try simp only [pD])); refine YA.nil ?_)
                      | (refine zD [10, 11, 12, 13] 1 (by decide +kernel) (fun _ _ _ _ _ h => h) (by assumption) ?_; (iterate 4 ((apply YA.take rfl (by rfl); case hy => rintro w ⟨s0, s1⟩; go_simp; try with_reducible rfl); try simp only [pD])); refine YA.nil ?_)
                      | (refine zA.con 9 rfl (fun K hK => ?_) ?_; (go_simp; refine (zEZ HSCH.out HH.out HRP.out HR0.out a ca cap cm cq L xl nn _ (slb HSX5.out (b0 wx).drew) (HCX.out.below (b0 wx).drew) HLN.out HST.out).mono ?_; rintro e w6 ⟨yy, ya, yc, zs, fr, rfl, hsx, hrx, hb6, hA, hqx⟩; dsimp only); (refine hK.out _ _ ?_ (fun hHeld => ?_); focus ((try dsimp only); (first | exact HZX.out | exact ⟨Go.Shr.cb hb6 HZX.out.1, Go.Shr.cb hb6 HZX.out.2⟩))); try dsimp only at hHeld; clear hK K; try simp only [pD])
                      | (refine zA.lst 14 rfl (by decide +kernel) (fun K hK => ?_) ?_; (go_simp); refine hK.out _ _ ?_; clear hK K; try simp only [pD])
                      | (refine zE (by decide +kernel) ?_
                         have HA2 := zH (zLR hA hqx)
                         have HSY := zH (hsx.mono (ok' := fun b => b < w6.heap.size) (fun b hb _ => hb) (by decide)); have HRY := zH hrx.at
                         have HB6 := zH (bt (b0 wx).drew hb6)
                         clear hA hqx hsx hrx hb6 hHeld y0 y1
                         go_wp2_with fail
                         go_meet
                         case rel => exact ⟨yy, ya, yc, zs, fr, rfl, rfl, HA2, HSY, HRY, HB6⟩)
                  case rest =>
                    obtain ⟨yy, ya, yc, zs, fr, rfl, rfl, HA2, HSY, HRY, HBY⟩ := hcut
                    obtain ⟨wy, hwy⟩ : ∃ wo : World, wo = wc := ⟨_, rfl⟩
                    subst hwy
                    obtain ⟨rfl, rfl⟩ := zLa HA1.out HA2.out
                    have HSX7 := zH (slb HSX.out HBY.out)
                    have HRX7 := zH (zZ.at (zLI (yN.g _ _ HRX.out) HBY.out))
                    have HBZ := zH (bt HBM.out (bt HBX.out HBY.out))
                    clear HA1 HA2 HSX HRX HBX HBY HZX HCX HSX5 y0 y1 HLN HST
                    go_wp2_with fail
                    refine (zJP xx xx xa xc ys ya yc zs wy HSX7.out HRX7.out HSY.out HRY.out).mono ?_
                    rintro e w6 ⟨rfl, hb8⟩
                    rw [zGx]
                    have HB8 := zH (bt HBZ.out hb8)
                    clear hb8 HSX7 HRX7 HSY HRY
                    go_wp2_with fail
                    go_roundw
                    case rel => exact ⟨m + 1, by go_num, by omega, HB8⟩
                    case measure => simp [intOf]; omega
              · obtain rfl : m = 3 := by omega
                go_wp2_with fail
                exact ⟨⟨j + 1, by go_num, by omega, HBM⟩, by simp [intOf]; omega⟩
          · obtain rfl : j = 4 := by omega
            go_wp2_with fail
            go_ret
            exact ⟨rfl, bt HB13.out HBJ.out⟩
end Go.Proofs.Ytjbkjfefjhbolaa
