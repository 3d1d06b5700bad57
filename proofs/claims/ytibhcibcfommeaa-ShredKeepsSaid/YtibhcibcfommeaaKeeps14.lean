/-
  The walk of ShredKeeps.
-/
import Derived.Test.YtibhcibcfommeaaLCols14
import Derived.Test.YtibhcibcfommeaaKnown14
import Derived.Test.YtibhcibcfommeaaMkC14
set_option linter.unusedSimpArgs false
namespace Go.Proofs.Ytibhcibcfommeaa
open Go.RowKit Go.Shr
/-- Blocks of a table's rows. -/
def tbB (m : Nat) (aa : Nat → Option Addr) (b : Nat) : Prop := ∃ j, j < m * 3 ∧ blk (aa j) b
set_option maxHeartbeats 2000000 in
set_option maxRecDepth 100000 in
theorem law_keeps14 (a0 : Option Addr) (n0 c0 : Nat) (z0 : List Int) (a1 : Option Addr) (n1 c1 : Nat) (z1 : List Int) (w : World) (h0 : Sl (fun b => b < w.heap.size) w 1 a0 n0 c0 (ints z0)) (w0 : ∀ z ∈ z0, (Lit.int .i64 z).wf = true) (h1 : Sl (fun b => b < w.heap.size) w 1 a1 n1 c1 (ints z1)) (w1 : ∀ z ∈ z1, (Lit.int .i64 z).wf = true) :
    Calls Try.prog 8 #[.slice a0 n0 c0, .slice a1 n1 c1] w fun e w' => e = .returned (.bool true) ∧ Below w.heap.size w w' := by
  have H0 := Lib.hid h0; have H1 := Lib.hid h1; have W0 := Lib.hid w0; have W1 := Lib.hid w1
  clear h0 h1 w0 w1
  go_enter Try.func8, Try.ntmps8
  go_wp2_with fail
  refine (known14 _).mono ?_
  rintro e w1 ⟨rfl, hb1⟩
  have HB1 := Lib.hid hb1; clear hb1
  go_wp2_with fail
  refine (make5 a0 n0 c0 z0 w1 (slb H0.out HB1.out) W0.out).mono ?_
  rintro e w2 ⟨a, cap, rfl, ho, hb2⟩
  have HSC := Lib.hid (Sl.mono (ok' := fun b => b < w2.heap.size) ho.sl (fun k hk _ => hk) (by decide))
  have HB2 := Lib.hid (bt HB1.out hb2)
  clear ho hb2
  go_wp2_with fail
  refine (make8 a cap (makeL z0) (makeSh z0) a1 n1 c1 z1 w2 (make_sch z0) HSC.out (slb H1.out HB2.out) W1.out).mono ?_
  rintro e w3 ⟨at', m', tcap, rfl, ht, hb3⟩
  have HB3 := Lib.hid (bt HB2.out hb3); have HSC3 := Lib.hid (slb HSC.out hb3)
  have hT := ht.at
  obtain ⟨_, _, _, _, hcs, hm, _, _, _⟩ := hT.parts
  simp at hcs
  obtain ⟨rfl, rfl, rfl⟩ := hcs
  subst hm
  have HT := Lib.hid hT
  have hok := ok_make W1.out (makeSh z0)
  have hth : thT (makeSh z0) (makeT (makeSh z0) z1) := th_mkT z1 _ 0
  have HZ := Lib.hid (made_colsE (rows := [makeT (makeSh z0) z1]) (make_sch z0) (make_hgt z0) (fun u hu => by rw [List.mem_singleton.1 hu]; exact hok) (fun u hu => by rw [List.mem_singleton.1 hu]; exact hth) (by simp))
  have hl14 := (make_len z0).2
  have hmm := leafs_le (l := makeL z0) (m := (makeL z0).length)
  have HSCH := Lib.hid (make_sch z0); have HWY := Lib.hid (make_wy z0); have HRP := Lib.hid (make_rep z0)
  generalize makeT (makeSh z0) z1 = t at *
  generalize makeL z0 = l at *
  generalize makeSh z0 = sh at *
  have HCOL : Hid (∀ (W : World), Sl (fun b => b < W.heap.size) W 4 a l.length cap (fls l) → TrAt W t [.int .i64 t.n, .string t.s, .slice at' t.kids.length tcap] → Calls Try.prog 16 #[.slice a l.length cap, .slice (some ⟨W.heap.size, 0, none⟩) 1 1] (W.alloc (.cells #[.int .i64 t.n, .string t.s, .slice at' t.kids.length tcap] 29)) fun e w' => Below W.heap.size W w' ∧ ∃ (B bc : Nat) (cur : Array Value) (aa : Nat → Option Addr) (cc : Nat → Nat), e = .returned (.tuple #[.slice (some ⟨bc, 0, none⟩) (leafs l l.length).length (leafs l l.length).length, .int .i64 0]) ∧ W.heap.size ≤ bc ∧ CT B w' bc (leafs l l.length).length (fun k => rowsC ((leafs l l.length).getD k 0) sh [t]) cur aa cc) := Lib.hid (fun W hs hT => by
    have hbA := ba (b0 W) (.cells #[.int .i64 t.n, .string t.s, .slice at' t.kids.length tcap] 29)
    have hr : RowAt (W.alloc (.cells #[.int .i64 t.n, .string t.s, .slice at' t.kids.length tcap] 29)) [t] [.int .i64 t.n, .string t.s, .slice at' t.kids.length tcap] := by
      simp only [RowAt]
      exact ⟨_, _, _, [], rfl, TrAt.below hbA _ _ hT, rfl⟩
    refine (Cols_v HSCH.out HWY.out HRP.out [t] a (some ⟨W.heap.size, 0, none⟩) cap 1 _ _ (slb hs hbA) (Rw.sl (Rw.new W _ _) 1 3 rfl (by decide)) (RowAt.g _ _ hr)).mono ?_
    rintro e w' ⟨hb, ⟨hne, _⟩ | ⟨_, B, bc, cur, aa, cc, h1, h2, h3⟩⟩
    · exact absurd HZ.out hne
    · exact ⟨bt hbA hb, B, bc, cur, aa, cc, h1, by simp at h2; omega, h3⟩)
  clear ht hb3 hok hth HB2 HSC HB1 H0 H1 W0 W1 HZ HSCH HWY HRP hT
  go_upto_region 5 with fail
  refine gen_wz (fun w4 hw4 => ?_)
  have hb4 : Below w3.heap.size w3 w4 := by rw [hw4]; exact ba (b0 w3) _
  have r4 : Rw w4 w3.heap.size #[.int .i64 t.n, .string t.s, .slice at' t.kids.length tcap] 29 := by rw [hw4]; exact Rw.new w3 _ _
  clear hw4
  obtain ⟨bt', hbt⟩ : ∃ b, b = w3.heap.size := ⟨_, rfl⟩
  rw [← hbt] at r4 ⊢
  clear hbt
  have HB4 := Lib.hid (bt HB3.out hb4); have HR4 := Lib.hid r4; have HSC4 := Lib.hid (slb HSC3.out hb4); have HT4 := Lib.hid (TrAt.below hb4 _ _ HT.out)
  have t0 : w4.cell? ⟨bt', 0, none⟩ = some (.int .i64 t.n) := r4.cell 0
  have t1 : w4.cell? ⟨bt', 1, none⟩ = some (.string t.s) := r4.cell 1
  have t2 : w4.cell? ⟨bt', 2, none⟩ = some (.slice at' t.kids.length tcap) := r4.cell 2
  clear hb4 r4 HB3 HSC3 HT
  go_wp2_with fail
  refine (HCOL.out w4 HSC4.out HT4.out).mono ?_
  rintro e w5 ⟨hb5, Ba, bca, cura, aaA, cca, rfl, hbca, hcta⟩
  have HB5 := Lib.hid (bt HB4.out hb5); have HR5 := Lib.hid (HR4.out.below hb5); have HSC5 := Lib.hid (slb HSC4.out hb5); have HT5 := Lib.hid (TrAt.below hb5 _ _ HT4.out)
  have HA5 := Lib.hid hcta
  have hsz5 := hb5.size
  have HB56 := Lib.hid hb5
  clear hb5 hcta t0 t1 t2
  have t0 : w5.cell? ⟨bt', 0, none⟩ = some (.int .i64 t.n) := HR5.out.cell 0
  have t1 : w5.cell? ⟨bt', 1, none⟩ = some (.string t.s) := HR5.out.cell 1
  have t2 : w5.cell? ⟨bt', 2, none⟩ = some (.slice at' t.kids.length tcap) := HR5.out.cell 2
  go_wp2_with fail
  refine (HCOL.out w5 HSC5.out HT5.out).mono ?_
  rintro e w6 ⟨hb6, Bb, bcb, curb, aaB, ccb, rfl, hbcb, hctb⟩
  have HB6 := Lib.hid (bt HB5.out hb6); have HR6 := Lib.hid (HR5.out.below hb6); have HSC6 := Lib.hid (slb HSC5.out hb6); have HT6 := Lib.hid (TrAt.below hb6 _ _ HT5.out)
  have HA6 := Lib.hid (HA5.out.below hb6); have HBB := Lib.hid hctb
  have hsz6 := hb6.size
  have HB66 := Lib.hid hb6
  have hmm2 : (((leafs l l.length).length : Int) != ((leafs l l.length).length : Int)) = false := by simp
  have hlA := HA5.out.ow.lt
  have HLA := Lib.hid hlA
  have hbcaB := HA5.out.lt
  clear hb6 hctb t0 t1 t2 hlA
  have HCOL2 := Lib.hid HCOL.out
  clear HCOL
  generalize hLF : (fun k => rowsC ((leafs l l.length).getD k 0) sh [t]) = C at *
  clear hLF
  have hmx : (leafs l l.length).length ≤ 1000 := by omega
  have hcm : ∀ k, k < (leafs l l.length).length → (C k).length ≤ 9223372036854775807 := fun k hk => by
    have h := HA5.out.ow.own (k * 3) (by omega)
    have h1 := h.le; have h2 := h.max
    rw [(Go.Proofs.Ytibhcibcfommeaa.n0 _ k).1] at h1
    unfold maxLen at h2
    omega
  have HCM := Lib.hid hcm
  clear hcm hmm
  generalize (leafs l l.length).length = m at *
  go_wp2_with fail
  clear hmm2
  go_loopw [11] (fun kv wr => ∃ (k : Nat) (X : Nat → List Value), kv = .int .i64 (k : Int) ∧ k ≤ m ∧ Hid (OW Ba wr (m * 3) tyC szC aaA (nC C) cca X) ∧ Hid (Chg (tbB m aaA) w6 wr)) (fun kv _ => m - (intOf kv).toNat)
  case atStart => exact ⟨0, _, rfl, Nat.zero_le _, Lib.hid HA6.out.ow, Lib.hid (Chg.refl _ _)⟩
  case round =>
    obtain ⟨k, X, rfl, hk, HO, HC⟩ := hrel
    have HNT : Hid (¬ tbB m aaA bca) := Lib.hid (fun ⟨j, hj, hg⟩ => by have := HLA.out j _ hj hg; omega)
    have hct : ∀ j, j < m * 3 → ∀ (W : World), Chg (tbB m aaA) w6 W → W.cell? ⟨bca, j, none⟩ = some (.slice (aaA j) (nC C j) (cca j)) := fun j hj W hc => by
      have := HA6.out.row.chg hc HNT.out
      rw [this.cell, HA6.out.hds j hj]
    have HCT := Lib.hid hct
    clear hct
    obtain ⟨wk, hwk⟩ : ∃ wk : World, wk = wr := ⟨_, rfl⟩
    subst hwk
    by_cases hkm : k < m
    · have hcl := HCM.out k hkm
      have hvl := celV_le (C k)
      go_wp2_with fail
      go_loopw [12] (fun iv wr => ∃ (i : Nat) (X : Nat → List Value), iv = .int .i64 (i : Int) ∧ i ≤ (C k).length ∧ Hid (OW Ba wr (m * 3) tyC szC aaA (nC C) cca X) ∧ Hid (Chg (tbB m aaA) w6 wr)) (fun iv _ => (C k).length - (intOf iv).toNat)
      case atStart => exact ⟨0, _, rfl, Nat.zero_le _, HO, HC⟩
      case round =>
        obtain ⟨i, X1, rfl, hi, HO1, HC1⟩ := hrel
        have k0 := HCT.out (k * 3) (by omega) wr HC1.out; have k1 := HCT.out (k * 3 + 1) (by omega) wr HC1.out
        rw [(Go.Proofs.Ytibhcibcfommeaa.n0 C k).1] at k0
        rw [(Go.Proofs.Ytibhcibcfommeaa.n1 C k).1] at k1
        by_cases hic : i < (C k).length
        · have o0 := HO1.out.own (k * 3) (by omega)
          rw [(ty0 k).1, (ty0 k).2, (Go.Proofs.Ytibhcibcfommeaa.n0 C k).1] at o0
          have o1 := HO1.out.own (k * 3 + 1) (by omega)
          rw [(ty1 k).1, (ty1 k).2, (Go.Proofs.Ytibhcibcfommeaa.n1 C k).1] at o1
          obtain ⟨p0, hp0, hpB0, hpl0, hpc0, hpf0⟩ := o0.pos (by omega)
          obtain ⟨p1, hp1, hpB1, hpl1, hpc1, hpf1⟩ := o1.pos (by omega)
          have hne : p1 ≠ p0 := fun he => HO1.out.dis (k * 3 + 1) (k * 3) p0 (by omega) (by omega) (by omega) (by rw [hp1, he]; exact ⟨_, _, rfl⟩) (by rw [hp0]; exact ⟨_, _, rfl⟩)
          obtain ⟨y0, hy0⟩ : ∃ u, (X1 (k * 3))[i]? = some u := ⟨_, List.getElem?_eq_getElem (by have := o0.len; omega)⟩
          obtain ⟨y1, hy1⟩ : ∃ u, (X1 (k * 3 + 1))[i]? = some u := ⟨_, List.getElem?_eq_getElem (by have := o1.len; omega)⟩
          have v0 := hpc0 i _ hy0
          have v1 := hpc1 i _ hy1
          rw [hp0] at k0
          rw [hp1] at k1
          have HK := Lib.hid (And.intro k0 k1)
          have HV := Lib.hid (And.intro v0 v1)
          have HW1 := Lib.hid (((HO1.out.below (b0 wr).drew).stored (j := k * 3) (by omega) hp0 i (.int .i64 9)).stored (j := k * 3 + 1) (by omega) hp1 i (.int .i64 9))
          have HC2 := Lib.hid ((HC1.out.drew.setCell (p := ⟨p0, i, none⟩) (.inr ⟨k * 3, by omega, by rw [hp0]; exact ⟨_, _, rfl⟩⟩) (.int .i64 9)).setCell (p := ⟨p1, i, none⟩) (.inr ⟨k * 3 + 1, by omega, by rw [hp1]; exact ⟨_, _, rfl⟩⟩) (.int .i64 9))
          clear o0 o1 hpc0 hpc1 hy0 hy1 hp0 hp1
          go_upto_region 15 with fail
          clear k0 k1
          refine wp_region_F (fun w' => w'.cell? ⟨bca, k * 3, none⟩ = some (.slice (some ⟨p0, 0, none⟩) (C k).length (cca (k * 3))) ∧ w'.cell? ⟨bca, k * 3 + 1, none⟩ = some (.slice (some ⟨p1, 0, none⟩) (C k).length (cca (k * 3 + 1)))) [11, 12, 13, 14, 15] (by kernel_rfl) ?g6rgS (fun hHeld => ?g6rgR)
          case g6rgS => (try dsimp only); (exact HK.out)
          try dsimp only at hHeld
          refine wpAnyF_take0 11 (oi := ⟨some 73, .move (.tmp 12), 3, "more.go:147", #[{ on := 13, ground := Go.Ground.gcOnly Go.Departure.lateStores }], none⟩) (v := ?g6rv1) rfl (by kernel_rfl) (fun _ _ _ h => h) (by rfl) ?g6ry1 ?g6rr1
          case g6ry1 => intro w0' _; go_simp; try with_reducible rfl
          try simp only [Act.put, List.setIfInBounds_toArray, List.set_cons_zero, List.set_cons_succ]
          refine wpAnyF_mono (F := [12, 13, 14, 15]) (by simp) _ _ _ _ ?_
          refine wpAnyF_take 0 (oi := ⟨some 62, .move (.tmp 7), 34, "more.go:147", #[], none⟩) (v := ?g6rv2) rfl (by kernel_rfl) (fun _ _ _ h => h) (by assumption) (by rfl) ?g6ry2 ?g6rr2
          case g6ry2 => intro w hSw; obtain ⟨s0, s1⟩ := hSw; go_simp; try with_reducible rfl
          try simp only [Act.put, List.setIfInBounds_toArray, List.set_cons_zero, List.set_cons_succ]
          refine wpAnyF_take 1 (oi := ⟨some 63, .move (.tmp 11), 3, "more.go:147", #[], none⟩) (v := ?g6rv3) rfl (by kernel_rfl) (fun _ _ _ h => h) (by assumption) (by rfl) ?g6ry3 ?g6rr3
          case g6ry3 => intro w hSw; obtain ⟨s0, s1⟩ := hSw; go_simp; try with_reducible rfl
          try simp only [Act.put, List.setIfInBounds_toArray, List.set_cons_zero, List.set_cons_succ]
          refine wpAnyF_take 2 (oi := ⟨some 64, .indexAddr 34 (.tmp 62) (.tmp 63), 0, "more.go:147", #[⟨0, .data⟩, ⟨1, .data⟩], none⟩) (v := ?g6rv4) rfl (by kernel_rfl) (fun _ _ _ h => h) (by assumption) (by rfl) ?g6ry4 ?g6rr4
          case g6ry4 => intro w hSw; obtain ⟨s0, s1⟩ := hSw; go_simp; try with_reducible rfl
          try simp only [Act.put, List.setIfInBounds_toArray, List.set_cons_zero, List.set_cons_succ]
          refine wpAnyF_take 3 (oi := ⟨some 65, .fieldAddr 46 (.tmp 64) 0, 0, "more.go:147", #[⟨2, .data⟩], none⟩) (v := ?g6rv5) rfl (by kernel_rfl) (fun _ _ _ h => h) (by assumption) (by rfl) ?g6ry5 ?g6rr5
          case g6ry5 => intro w hSw; obtain ⟨s0, s1⟩ := hSw; go_simp; try with_reducible rfl
          try simp only [Act.put, List.setIfInBounds_toArray, List.set_cons_zero, List.set_cons_succ]
          refine wpAnyF_take 4 (oi := ⟨some 66, .load 22 (.tmp 65), 22, "more.go:147", #[⟨3, .data⟩], none⟩) (v := ?g6rv6) rfl (by kernel_rfl) (fun _ _ _ h => h) (by assumption) (by rfl) ?g6ry6 ?g6rr6
          case g6ry6 => intro w hSw; obtain ⟨s0, s1⟩ := hSw; go_simp; try with_reducible rfl
          try simp only [Act.put, List.setIfInBounds_toArray, List.set_cons_zero, List.set_cons_succ]
          refine wpAnyF_take 5 (oi := ⟨some 67, .move (.tmp 12), 3, "more.go:147", #[], none⟩) (v := ?g6rv7) rfl (by kernel_rfl) (fun _ _ _ h => h) (by assumption) (by rfl) ?g6ry7 ?g6rr7
          case g6ry7 => intro w hSw; obtain ⟨s0, s1⟩ := hSw; go_simp; try with_reducible rfl
          try simp only [Act.put, List.setIfInBounds_toArray, List.set_cons_zero, List.set_cons_succ]
          refine wpAnyF_take 6 (oi := ⟨some 68, .move (.tmp 7), 34, "more.go:147", #[], none⟩) (v := ?g6rv8) rfl (by kernel_rfl) (fun _ _ _ h => h) (by assumption) (by rfl) ?g6ry8 ?g6rr8
          case g6ry8 => intro w hSw; obtain ⟨s0, s1⟩ := hSw; go_simp; try with_reducible rfl
          try simp only [Act.put, List.setIfInBounds_toArray, List.set_cons_zero, List.set_cons_succ]
          refine wpAnyF_take 7 (oi := ⟨some 69, .move (.tmp 11), 3, "more.go:147", #[], none⟩) (v := ?g6rv9) rfl (by kernel_rfl) (fun _ _ _ h => h) (by assumption) (by rfl) ?g6ry9 ?g6rr9
          case g6ry9 => intro w hSw; obtain ⟨s0, s1⟩ := hSw; go_simp; try with_reducible rfl
          try simp only [Act.put, List.setIfInBounds_toArray, List.set_cons_zero, List.set_cons_succ]
          refine wpAnyF_take 8 (oi := ⟨some 70, .indexAddr 34 (.tmp 68) (.tmp 69), 0, "more.go:147", #[⟨6, .data⟩, ⟨7, .data⟩], none⟩) (v := ?g6rv10) rfl (by kernel_rfl) (fun _ _ _ h => h) (by assumption) (by rfl) ?g6ry10 ?g6rr10
          case g6ry10 => intro w hSw; obtain ⟨s0, s1⟩ := hSw; go_simp; try with_reducible rfl
          try simp only [Act.put, List.setIfInBounds_toArray, List.set_cons_zero, List.set_cons_succ]
          refine wpAnyF_take 9 (oi := ⟨some 71, .fieldAddr 46 (.tmp 70) 1, 0, "more.go:147", #[⟨8, .data⟩], none⟩) (v := ?g6rv11) rfl (by kernel_rfl) (fun _ _ _ h => h) (by assumption) (by rfl) ?g6ry11 ?g6rr11
          case g6ry11 => intro w hSw; obtain ⟨s0, s1⟩ := hSw; go_simp; try with_reducible rfl
          try simp only [Act.put, List.setIfInBounds_toArray, List.set_cons_zero, List.set_cons_succ]
          refine wpAnyF_take 10 (oi := ⟨some 72, .load 22 (.tmp 71), 22, "more.go:147", #[⟨9, .data⟩], none⟩) (v := ?g6rv12) rfl (by kernel_rfl) (fun _ _ _ h => h) (by assumption) (by rfl) ?g6ry12 ?g6rr12
          case g6ry12 => intro w hSw; obtain ⟨s0, s1⟩ := hSw; go_simp; try with_reducible rfl
          try simp only [Act.put, List.setIfInBounds_toArray, List.set_cons_zero, List.set_cons_succ]
          refine wpAnyF_ready [12] (by kernel_rfl) (by simp) ?_
          refine AllReadyF.last 12 (o := ⟨some 74, .indexAddr 22 (.tmp 66) (.tmp 67), 0, "more.go:147", #[⟨4, .data⟩, ⟨5, .data⟩, ⟨0, .phase⟩, ⟨1, .phase⟩, ⟨2, .phase⟩, ⟨3, .phase⟩, ⟨4, .phase⟩, ⟨5, .phase⟩, { on := 6, ground := Go.Ground.textOnly Go.Departure.lateStores }, { on := 7, ground := Go.Ground.textOnly Go.Departure.lateStores }, { on := 8, ground := Go.Ground.textOnly Go.Departure.lateStoresUnsure }, { on := 9, ground := Go.Ground.textOnly Go.Departure.lateStoresUnsure }, ⟨10, .phase⟩, { on := 11, ground := Go.Ground.textOnly Go.Departure.lateStores }], none⟩) rfl (by kernel_rfl) (fun K hK => ?g6ro13) ?g6rm13
          case g6rm13 => exact AllReadyF.nil
          go_simp
          refine hK.out _ _ ?_
          clear hK K
          try simp only [Act.put, List.setIfInBounds_toArray, List.set_cons_zero, List.set_cons_succ]
          refine wpAnyF_ready [13] (by kernel_rfl) (by simp) ?_
          refine AllReadyF.last 13 (o := ⟨none, .store 3 (.tmp 74) (.const (.int .i64 9)), 0, "more.go:147", #[⟨12, .data⟩, ⟨0, .phase⟩, ⟨1, .phase⟩, ⟨2, .phase⟩, ⟨3, .phase⟩, ⟨4, .phase⟩, ⟨5, .phase⟩, { on := 6, ground := Go.Ground.textOnly Go.Departure.lateStores }, { on := 7, ground := Go.Ground.textOnly Go.Departure.lateStores }, { on := 8, ground := Go.Ground.textOnly Go.Departure.lateStoresUnsure }, { on := 9, ground := Go.Ground.textOnly Go.Departure.lateStoresUnsure }, ⟨10, .phase⟩, { on := 11, ground := Go.Ground.textOnly Go.Departure.lateStores }], none⟩) rfl (by kernel_rfl) (fun K hK => ?g6ro14) ?g6rm14
          case g6rm14 => exact AllReadyF.nil
          (obtain ⟨v0, v1⟩ := HV.out); (have d0 := cb (b0 wr).drew v0); go_simp
          refine hK.out _ _ ?_
          clear hK K
          try simp only [Act.put, List.setIfInBounds_toArray, List.set_cons_zero, List.set_cons_succ]
          refine wpAnyF_ready [14] (by kernel_rfl) (by simp) ?_
          refine AllReadyF.last 14 (o := ⟨some 75, .indexAddr 22 (.tmp 72) (.tmp 73), 0, "more.go:147", #[⟨10, .data⟩, ⟨11, .data⟩, ⟨0, .phase⟩, ⟨1, .phase⟩, ⟨2, .phase⟩, ⟨3, .phase⟩, ⟨4, .phase⟩, ⟨5, .phase⟩, ⟨6, .phase⟩, ⟨7, .phase⟩, ⟨8, .phase⟩, ⟨9, .phase⟩, ⟨10, .phase⟩, ⟨11, .phase⟩, ⟨12, .phase⟩, ⟨13, .phase⟩], none⟩) rfl (by kernel_rfl) (fun K hK => ?g6ro15) ?g6rm15
          case g6rm15 => exact AllReadyF.nil
          go_simp
          refine hK.out _ _ ?_
          clear hK K
          try simp only [Act.put, List.setIfInBounds_toArray, List.set_cons_zero, List.set_cons_succ]
          refine wpAnyF_ready [15] (by kernel_rfl) (by simp) ?_
          refine AllReadyF.last 15 (o := ⟨none, .store 3 (.tmp 75) (.const (.int .i64 9)), 0, "more.go:147", #[⟨14, .data⟩, ⟨13, .chain⟩, ⟨0, .phase⟩, ⟨1, .phase⟩, ⟨2, .phase⟩, ⟨3, .phase⟩, ⟨4, .phase⟩, ⟨5, .phase⟩, ⟨6, .phase⟩, ⟨7, .phase⟩, ⟨8, .phase⟩, ⟨9, .phase⟩, ⟨10, .phase⟩, ⟨11, .phase⟩, ⟨12, .phase⟩, ⟨13, .phase⟩], none⟩) rfl (by kernel_rfl) (fun K hK => ?g6ro16) ?g6rm16
          case g6rm16 => exact AllReadyF.nil
          (have d1 := cb (b0 wr).drew v1); (have hne2 := hne.symm); go_simp
          refine hK.out _ _ ?_
          clear hK K
          try simp only [Act.put, List.setIfInBounds_toArray, List.set_cons_zero, List.set_cons_succ]
          refine wpAnyF_done (by kernel_rfl) ?_
          clear hHeld v0 v1 d0 d1 hne2 hpf0 hpf1
          go_wp2_with fail
          go_roundw
          case rel => exact ⟨i + 1, _, by go_num, by omega, HW1, HC2⟩
          case measure => simp [intOf]; omega
        · obtain rfl : i = (C k).length := by omega
          clear hic
          go_wp2_with fail
          go_loopw [13] (fun iv wr => ∃ (i : Nat) (X : Nat → List Value), iv = .int .i64 (i : Int) ∧ i ≤ (celV (C k)).length ∧ Hid (OW Ba wr (m * 3) tyC szC aaA (nC C) cca X) ∧ Hid (Chg (tbB m aaA) w6 wr)) (fun iv _ => (celV (C k)).length - (intOf iv).toNat)
          case atStart => exact ⟨0, _, rfl, Nat.zero_le _, HO1, HC1⟩
          case round =>
            clear k0 k1
            obtain ⟨i, X2, rfl, hi, HO2, HC2⟩ := hrel
            have k2 := HCT.out (k * 3 + 2) (by omega) wr HC2.out
            rw [(Go.Proofs.Ytibhcibcfommeaa.n2 C k).1] at k2
            by_cases hic : i < (celV (C k)).length
            · have o2 := HO2.out.own (k * 3 + 2) (by omega)
              rw [(ty2 k).1, (ty2 k).2, (Go.Proofs.Ytibhcibcfommeaa.n2 C k).1] at o2
              obtain ⟨p2, hp2, hpB2, hpl2, hpc2, hpf2⟩ := o2.pos (by omega)
              obtain ⟨y0, hy0⟩ : ∃ u, (X2 (k * 3 + 2))[i * 2]? = some u := ⟨_, List.getElem?_eq_getElem (by have := o2.len; omega)⟩
              obtain ⟨y1, hy1⟩ : ∃ u, (X2 (k * 3 + 2))[i * 2 + 1]? = some u := ⟨_, List.getElem?_eq_getElem (by have := o2.len; omega)⟩
              have v0 := hpc2 _ _ hy0
              have v1 := hpc2 _ _ hy1
              rw [hp2] at k2
              have HW2 := Lib.hid (((HO2.out.stored (j := k * 3 + 2) (by omega) hp2 (i * 2) (.int .i64 77777)).stored (j := k * 3 + 2) (by omega) hp2 (i * 2 + 1) (.string ByteArray.empty)))
              have HC3 := Lib.hid ((HC2.out.setCell (p := ⟨p2, i * 2, none⟩) (.inr ⟨k * 3 + 2, by omega, by rw [hp2]; exact ⟨_, _, rfl⟩⟩) (.int .i64 77777)).setCell (p := ⟨p2, i * 2 + 1, none⟩) (.inr ⟨k * 3 + 2, by omega, by rw [hp2]; exact ⟨_, _, rfl⟩⟩) (.string ByteArray.empty))
              clear o2 hpc2 hy0 hy1 hp2
              go_wp2_with fail
              clear k2 v0 v1 hpf2
              go_roundw
              case rel => exact ⟨i + 1, _, by go_num, by omega, HW2, HC3⟩
              case measure => simp [intOf]; omega
            · obtain rfl : i = (celV (C k)).length := by omega
              clear hic
              go_wp2_with fail
              go_roundw
              case rel => exact ⟨k + 1, _, by go_num, by omega, HO2, HC2⟩
              case measure => simp [intOf]; omega
    · obtain rfl : k = m := by omega
      clear hkm
      have hnl : ∀ b, b < w5.heap.size → w4.heap.size ≤ b ∨ ¬ tbB k aaA b := fun b hb => by
        by_cases h : w4.heap.size ≤ b
        · exact .inl h
        · exact .inr (fun ⟨j, hj, hg⟩ => by have := HLA.out j _ hj hg; omega)
      have hbk : Below w4.heap.size w4 wk := Chg.bt (bt (bt (b0 w4) HB56.out) HB66.out) HC.out (fun b hb ⟨j, hj, hg⟩ => by have := HLA.out j _ hj hg; omega)
      have HBK := Lib.hid (bt HB4.out hbk)
      have HRK := Lib.hid (HR4.out.below hbk); have HSCK := Lib.hid (slb HSC4.out hbk); have HTK := Lib.hid (TrAt.below hbk _ _ HT4.out)
      have HBK2 := Lib.hid (HBB.out.chg HC.out (fun g h1 h2 ⟨j, hj, hg⟩ => by have := HLA.out j _ hj hg; have := HBB.out.lt; rcases h2 with rfl | h2 <;> omega))
      have t0 : wk.cell? ⟨bt', 0, none⟩ = some (.int .i64 t.n) := HRK.out.cell 0
      have t1 : wk.cell? ⟨bt', 1, none⟩ = some (.string t.s) := HRK.out.cell 1
      have t2 : wk.cell? ⟨bt', 2, none⟩ = some (.slice at' t.kids.length tcap) := HRK.out.cell 2
      clear hbk hnl HCT HNT
      go_wp2_with fail
      refine (HCOL2.out wk HSCK.out HTK.out).mono ?_
      rintro e w7 ⟨hb7, Bc, bcc, curc, aaC, ccc, rfl, hbcc, hctc⟩
      have HB7 := Lib.hid (bt HBK.out hb7)
      have HL := Lib.hid (hctc.cols (by unfold maxLen; omega))
      have HM := Lib.hid ((HBK2.out.below hb7).cols (by unfold maxLen; omega))
      clear hb7 hctc t0 t1 t2
      go_wp2_with fail
      refine (lcols_v (some ⟨bcb, 0, none⟩) (some ⟨bcc, 0, none⟩) k k k k _ _ _ _ w7 HM.out HL.out).mono ?_
      rintro e w8 ⟨tt, rfl, htt, hb8⟩
      obtain rfl : tt = true := htt.2 rfl
      have HB8 := Lib.hid (bt HB7.out hb8)
      clear hb8 htt
      go_wp2_with fail
      go_ret
      exact ⟨rfl, HB8.out⟩
end Go.Proofs.Ytibhcibcfommeaa
