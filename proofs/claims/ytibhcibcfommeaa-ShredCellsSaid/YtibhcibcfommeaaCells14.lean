/-
  The walk of ShredCells.
-/
import Derived.Test.YtibhcibcfommeaaKnown14
import Derived.Test.YtibhcibcfommeaaCol14S
import Derived.Test.YtibhcibcfommeaaMany9
import Derived.Test.YtibhcibcfommeaaOkP
import Derived.Test.YtibhcibcfommeaaLeafP
set_option linter.unusedSimpArgs false
namespace Go.Proofs.Ytibhcibcfommeaa
open Go.RowKit Go.Shr
theorem many_ok14 {zz : List (List Int)} (hwf : ∀ z ∈ zz, ∀ v ∈ z, (Lit.int .i64 v).wf = true) (sh : Sh) : ∀ t ∈ manyT sh zz, okT sh t := by
  intro t ht
  obtain ⟨z, hz, rfl⟩ := List.mem_map.1 ht
  exact ok_make (hwf z (List.mem_of_mem_take hz)) sh
theorem many_th (ns : List Int) (zz : List (List Int)) : ∀ t ∈ manyT (makeSh ns) zz, thT (makeSh ns) t := by
  intro t ht
  obtain ⟨z, hz, rfl⟩ := List.mem_map.1 ht
  exact th_mkT z _ 0
theorem make_rep (ns : List Int) : ∀ x ∈ makeL ns, x.rep = 0 ∨ x.rep = 1 ∨ x.rep = 2 := by
  intro x hx
  rw [makeL_flat] at hx
  have := flat_bd _ (makeSh_good ns).1 x hx
  omega
theorem hct_below {B : Nat} {w w' : World} {bc m : Nat} {C : Nat → List Cel} {cur : Array Value} {aa : Nat → Option Addr} {cc : Nat → Nat} (h : CT B w bc m C cur aa cc) (hb : Below w.heap.size w w') : CT B w' bc m C cur aa cc := CT.below h hb
theorem made_colsE {l : List Fl} {sh : Sh} (hS : Sch l sh) (hh : hgt sh ≤ 5) {rows : List Tr} (hok : ∀ t ∈ rows, okT sh t) (hth : ∀ t ∈ rows, thT sh t) (hn : rows.length ≤ 16) : colsE l sh rows = 0 := by
  unfold colsE
  have hf : firstE (rows.map fun t => fitT l (KF l) t 0) = 0 := firstE_zero.2 (fun e he => by
    obtain ⟨t, ht, rfl⟩ := List.mem_map.1 he
    exact fit_okT sh 0 t hS.ix hS.good (hok t ht))
  rw [if_neg (by omega), hf, if_neg (fun h => h rfl), if_neg]
  rw [many_no (l := l) hh hth hn]
  decide
set_option maxHeartbeats 1000000 in
set_option maxRecDepth 100000 in
theorem law_cells (a0 : Option Addr) (n0 c0 : Nat) (z0 : List Int) (a1 : Option Addr) (n1 c1 : Nat) (zz : List (List Int)) (xs1 : List Value) (w : World) (h0 : Sl (fun b => b < w.heap.size) w 1 a0 n0 c0 (ints z0)) (w0 : ∀ z ∈ z0, (Lit.int .i64 z).wf = true) (h1 : Sl (fun b => b < w.heap.size) w 1 a1 n1 c1 xs1) (h1r : IRows w zz xs1) (w1 : ∀ z ∈ zz, ∀ v ∈ z, (Lit.int .i64 v).wf = true) :
    Calls Try.prog 4 #[.slice a0 n0 c0, .slice a1 n1 c1] w fun e w' => e = .returned (.bool true) ∧ Below w.heap.size w w' := by
  have H0 := Lib.hid h0; have H1 := Lib.hid h1; have HR := Lib.hid h1r; have W0 := Lib.hid w0; have W1 := Lib.hid w1
  clear h0 h1 h1r w0 w1
  go_enter Try.func4, Try.ntmps4
  go_wp2_with fail
  refine (known14 _).mono ?_
  rintro e w1 ⟨rfl, hb1⟩
  have HB1 := Lib.hid hb1; clear hb1
  go_wp2_with fail
  refine (make5 a0 n0 c0 z0 w1 (slb H0.out HB1.out) W0.out).mono ?_
  rintro e w2 ⟨a, cap, rfl, ho, hb2⟩
  have HSC := Lib.hid (Sl.mono (ok' := fun b => b < w2.heap.size) ho.sl (fun k hk _ => hk) (by decide))
  have HB2 := Lib.hid (bt HB1.out hb2)
  clear ho hb2
  go_wp2_with fail
  refine (many_v (makeL z0) (makeSh z0) (make_sch z0) a cap a1 n1 c1 zz xs1 w2 HSC.out (slb H1.out HB2.out) (HR.out.below HB2.out) W1.out).mono ?_
  rintro e w3 ⟨al, cl, ys, rfl, hsl, hrow, hb3⟩
  have HB3 := Lib.hid (bt HB2.out hb3); have HSC3 := Lib.hid (slb HSC.out hb3)
  have HSL := Lib.hid (hsl.mono (ok' := fun b => b < w3.heap.size) (fun k hk _ => hk) (by decide))
  have HROW := Lib.hid (RowAt.g _ _ hrow.at)
  have HOKS := Lib.hid (many_ok14 W1.out (makeSh z0))
  have hx16 := manyT_len (makeSh z0) zz
  have HSCH := Lib.hid (make_sch z0)
  have HZ := Lib.hid (made_colsE (make_sch z0) (make_hgt z0) (many_ok14 W1.out (makeSh z0)) (many_th z0 zz) hx16)
  have HWY := Lib.hid (make_wy z0); have HRP := Lib.hid (make_rep z0); have HR0 := Lib.hid (makeSh_good z0).2.2.1
  have hl14 := (make_len z0).2
  generalize manyT (makeSh z0) zz = x at *
  generalize makeL z0 = l at *
  generalize makeSh z0 = sh at *
  clear hsl hrow hb3 HB2 HSC HB1 H0 H1 HR W0 W1
  go_wp2_with fail
  refine (Cols_v HSCH.out HWY.out HRP.out x a al cap cl ys w3 HSC3.out HSL.out HROW.out).mono ?_
  rintro e w4 ⟨hb4, ⟨hne, _⟩ | ⟨_, B, bc, cur, aa, cc, rfl, hbc, hct⟩⟩
  · exact absurd HZ.out hne
  have HB4 := Lib.hid (bt HB3.out hb4); have HCT := Lib.hid hct; have HSC4 := Lib.hid (slb HSC3.out hb4)
  clear hb4 hct HZ HSL HROW HRP HWY HB3 HSC3
  go_wp2_with fail
  refine (leaves_v a cap l w4 HSC4.out (by omega) HSCH.out.kids).mono ?_
  rintro e w5 ⟨aL, cL, rfl, oL, hb5⟩
  have HB5 := Lib.hid (bt HB4.out hb5); have HCT5 := Lib.hid (hct_below HCT.out hb5)
  have HLV := Lib.hid (oL.sl.mono (ok' := fun b => b < w5.heap.size) (fun k hk _ => hk) (by decide))
  have HRK : Hid (∀ (k : Nat) (hk : k < (leafs l l.length).length), RowsOk l (leafs l l.length)[k] x.length (rowsC ((leafs l l.length).getD k 0) sh x)) := Lib.hid (fun k hk => by
    have hm := leafs_mem.1 (List.getElem_mem hk)
    have he : (leafs l l.length).getD k 0 = (leafs l l.length)[k] := by simp [List.getD, hk]
    rw [he]
    exact rows_ok HSCH.out HR0.out hm.1 hm.2 x HOKS.out)
  have HLK : Hid (∀ (k : Nat) (hk : k < (leafs l l.length).length), (leafs l l.length)[k] < l.length) := Lib.hid (fun k hk => (leafs_mem.1 (List.getElem_mem hk)).1)
  have hll := leafs_le (l := l) (m := l.length)
  clear oL hb5 HCT HB4 HSC4 HOKS HR0
  generalize leafs l l.length = L at *
  go_wp2_with fail
  go_loopw [10] (fun kv wr => ∃ k : Nat, kv = .int .i64 (k : Int) ∧ k ≤ L.length ∧ Hid (Below w5.heap.size w5 wr)) (fun kv _ => L.length - (intOf kv).toNat)
  case atStart => exact ⟨0, rfl, Nat.zero_le _, Lib.hid (b0 w5)⟩
  case round =>
    obtain ⟨k, rfl, hk, HB⟩ := hrel
    by_cases hkl : k < L.length
    · have HCTr := Lib.hid (hct_below HCT5.out HB.out)
      have e0 := HCTr.out.cell0 hkl; have e1 := HCTr.out.cell1 hkl; have e2 := HCTr.out.cell2 hkl
      have HOK := Lib.hid (HRK.out k hkl)
      have G0 := Lib.hid (fun (n : Nat) (hn : n < (rowsC (L.getD k 0) sh x).length) => HCTr.out.get0 hkl hn)
      have G1 := Lib.hid (fun (n : Nat) (hn : n < (rowsC (L.getD k 0) sh x).length) => HCTr.out.get1 hkl hn)
      have hcm : (rowsC (L.getD k 0) sh x).length ≤ 9223372036854775807 := by
        have h := HCTr.out.ow.own (k * 3) (by omega)
        have h1 := h.le; have h2 := h.max
        rw [(Go.Proofs.Ytibhcibcfommeaa.n0 _ k).1] at h1
        unfold maxLen at h2
        omega
      have HLVr := Lib.hid (slb HLV.out HB.out)
      obtain ⟨gL, oL, rfl, hgL, hcL⟩ := HLVr.out.pos (by omega)
      obtain ⟨f0, f1, f2, f3⟩ := lvs_get l L k hkl
      have l1 := hcL _ _ f1; have l2 := hcL _ _ f2
      rw [← Nat.add_assoc] at l1 l2
      have hlvb := HOK.out.lv; have hbeg := HOK.out.begins; have hwho := HOK.out.whole; have hfst := HOK.out.first
      have hRR : lvR l L[k] ≤ 1000 ∧ lvD l L[k] ≤ 1000 := by
        have h1 := cntR_le l (Go.Shr.chain (par l) L[k]); have h2 := cntD_le l (Go.Shr.chain (par l) L[k]); have h3 := chain_len (par l) L[k]; have h4 := HLK.out k hkl
        unfold lvR lvD; omega
      clear HOK
      generalize rowsC (L.getD k 0) sh x = C at *
      generalize L[k] = lf at *
      generalize lvR l lf = RR at *
      generalize lvD l lf = DD at *
      have HLVB := Lib.hid hlvb; have HBEG := Lib.hid hbeg; have HWHO := Lib.hid hwho; have HFST := Lib.hid hfst
      clear f0 f1 f2 f3 hcL HCTr hlvb hbeg hwho hfst
      go_upto_region 13 with fail
      refine gen_wz (fun wz hwz => ?_)
      have hbz : Below wr.heap.size wr wz := by rw [hwz]; exact ba (b0 wr) _
      have r11 : Rw wz wr.heap.size #[.slice (aa (k * 3)) C.length (cc (k * 3)), .slice (aa (k * 3 + 1)) C.length (cc (k * 3 + 1)), .slice (aa (k * 3 + 2)) (celV C).length (cc (k * 3 + 2))] 46 := by rw [hwz]; exact Rw.new wr _ _
      clear hwz e0 e1 e2
      obtain ⟨b11, hb11⟩ : ∃ b, b = wr.heap.size := ⟨_, rfl⟩
      rw [← hb11] at r11 ⊢
      clear hb11
      have k0 : wz.cell? ⟨b11, 0, none⟩ = some (.slice (aa (k * 3)) C.length (cc (k * 3))) := r11.cell 0
      have k1 : wz.cell? ⟨b11, 1, none⟩ = some (.slice (aa (k * 3 + 1)) C.length (cc (k * 3 + 1))) := r11.cell 1
      have k2 : wz.cell? ⟨b11, 2, none⟩ = some (.slice (aa (k * 3 + 2)) (celV C).length (cc (k * 3 + 2))) := r11.cell 2
      have HBZ := Lib.hid (bt HB.out hbz)
      have HHB := Lib.hid hbz
      go_cut [73] from 49 to 73 (fun v wd => v = .bool false ∧ wz = wd)
      case first =>
        by_cases hx0 : x.length = 0
        · have hxn : ¬ 0 < x.length := by omega
          clear hx0
          go_wp2_with fail
          go_meet
          case rel => exact ⟨rfl, rfl⟩
        · have hxp : 0 < x.length := by omega
          obtain ⟨c, cs, hc, hcr⟩ := HFST.out (by omega)
          have hcl : 0 < C.length := by rw [hc]; simp
          obtain ⟨g0, ha0, _, _, hg0⟩ := G0.out 0 hcl
          have d0 := cb hbz (hg0 0 hcl)
          have hc0 : C[0].r = 0 := by simp only [hc, List.getElem_cons_zero, hcr]
          rw [hc0] at d0
          replace d0 : wz.cell? ⟨g0, 0, none⟩ = some (.int .i64 0) := d0
          have hcb : ((C.length : Int) == 0) = false := beq_eq_false_iff_ne.2 (by omega)
          rw [ha0] at k0
          clear hx0 hc hcr hc0 ha0
          go_wp2_with fail
          go_meet
          case rel => exact ⟨rfl, rfl⟩
      case rest =>
        obtain ⟨rfl, rfl⟩ := hcut
        have KX := Lib.hid (And.intro k0 (And.intro k1 k2))
        have LX := Lib.hid (And.intro (cb HHB.out l1) (cb HHB.out l2))
        clear l1 l2 HFST r11 k2
        go_wp2_with fail
        clear k0 k1
        go_loopw [12, 13, 14] (fun bv wv iv wq => ∃ i : Nat, bv = .int .i64 (((C.take i).filter fun x => x.r == 0).length : Int) ∧ wv = .int .i64 (((C.take i).filter fun x => x.d == DD).length : Int) ∧ iv = .int .i64 (i : Int) ∧ i ≤ C.length ∧ Hid (Below wz.heap.size wz wq)) (fun _ _ iv _ => C.length - (intOf iv).toNat)
        case atStart => exact ⟨0, by simp, by simp, rfl, Nat.zero_le _, Lib.hid (b0 wz)⟩
        case round =>
          obtain ⟨i, rfl, rfl, rfl, hi, HBQ⟩ := hrel
          have k0 := cb HBQ.out KX.out.1; have k1 := cb HBQ.out KX.out.2.1; have k2 := cb HBQ.out KX.out.2.2
          by_cases hic : i < C.length
          · obtain ⟨g0, ha0, _, _, hg0⟩ := G0.out i hic
            obtain ⟨g1, ha1, _, _, hg1⟩ := G1.out i hic
            have d0 := cb HBQ.out (cb HHB.out (hg0 i hic)); have d1 := cb HBQ.out (cb HHB.out (hg1 i hic))
            have l1 := cb HBQ.out LX.out.1; have l2 := cb HBQ.out LX.out.2
            rw [ha0] at k0
            rw [ha1] at k1
            have hlv := HLVB.out C[i] (List.getElem_mem hic)
            have HF0 := Lib.hid (filt_take (p := fun x => x.r == 0) hic)
            have HF1 := Lib.hid (filt_take (p := fun x => x.d == DD) hic)
            generalize C[i] = ci at *
            obtain ⟨ri, di, vi⟩ := ci
            dsimp only at d0 d1 hlv HF0 HF1
            have hn1 : ¬ RR < ri := by omega
            have hn2 : ¬ DD < di := by omega
            have HX := Lib.hid (And.intro k0 (And.intro k1 (And.intro d0 (And.intro d1 (And.intro l1 l2)))))
            generalize hq1 : ((C.take i).filter fun x => x.r == 0).length = q1 at *
            generalize hq2 : ((C.take i).filter fun x => x.d == DD).length = q2 at *
            clear hg0 hg1 ha0 ha1
            have hm1 : q1 ≤ i := by have h := List.length_filter_le (fun x : Cel => x.r == 0) (C.take i); rw [List.length_take, hq1] at h; omega
            have hm2 : q2 ≤ i := by have h := List.length_filter_le (fun x : Cel => x.d == DD) (C.take i); rw [List.length_take, hq2] at h; omega
            clear hq1 hq2
            go_upto_region 19 with fail
            clear k0 k1 k2 d0 d1 l1 l2
            refine Go.Shr.wp_region_F (fun w' => w'.cell? ⟨b11, 0, none⟩ = some (.slice (some ⟨g0, 0, none⟩) C.length (cc (k * 3))) ∧ w'.cell? ⟨b11, 1, none⟩ = some (.slice (some ⟨g1, 0, none⟩) C.length (cc (k * 3 + 1))) ∧ w'.cell? ⟨g0, i, none⟩ = some (.int .i64 (ri : Int)) ∧ w'.cell? ⟨g1, i, none⟩ = some (.int .i64 (di : Int)) ∧ w'.cell? ⟨gL, oL + k * 4 + 1, none⟩ = some (.int .i64 (RR : Int)) ∧ w'.cell? ⟨gL, oL + k * 4 + 2, none⟩ = some (.int .i64 (DD : Int))) [] (by kernel_rfl) ?g19rgS (fun hHeld => ?g19rgR)
            case g19rgS => (try dsimp only); (exact HX.out)
            try dsimp only at hHeld
            refine Go.Shr.wpAnyF_take 0 (oi := { dst := some 81, op := Go.Op.fieldAddr 46 (Go.Operand.tmp 11) 0, type := 0, pos := "law.go:121", after := #[], guard := none }) (v := ?g19rv1) rfl (by kernel_rfl) (fun _ _ _ h => h) (by assumption) (by rfl) ?g19ry1 ?g19rr1
            case g19ry1 => intro w hSw; obtain ⟨s0, s1, s2, s3, s4, s5⟩ := hSw; go_simp; try with_reducible rfl
            try simp only [Act.put, List.setIfInBounds_toArray, List.set_cons_zero, List.set_cons_succ]
            refine Go.Shr.wpAnyF_take 1 (oi := { dst := some 82, op := Go.Op.load 22 (Go.Operand.tmp 81), type := 22, pos := "law.go:121", after := #[{ on := 0, ground := Go.Ground.data }], guard := none }) (v := ?g19rv2) rfl (by kernel_rfl) (fun _ _ _ h => h) (by assumption) (by rfl) ?g19ry2 ?g19rr2
            case g19ry2 => intro w hSw; obtain ⟨s0, s1, s2, s3, s4, s5⟩ := hSw; go_simp; try with_reducible rfl
            try simp only [Act.put, List.setIfInBounds_toArray, List.set_cons_zero, List.set_cons_succ]
            refine Go.Shr.wpAnyF_take 2 (oi := { dst := some 83, op := Go.Op.move (Go.Operand.tmp 14), type := 3, pos := "law.go:121", after := #[], guard := none }) (v := ?g19rv3) rfl (by kernel_rfl) (fun _ _ _ h => h) (by assumption) (by rfl) ?g19ry3 ?g19rr3
            case g19ry3 => intro w hSw; obtain ⟨s0, s1, s2, s3, s4, s5⟩ := hSw; go_simp; try with_reducible rfl
            try simp only [Act.put, List.setIfInBounds_toArray, List.set_cons_zero, List.set_cons_succ]
            refine Go.Shr.wpAnyF_take 3 (oi := { dst := some 84, op := Go.Op.indexAddr 22 (Go.Operand.tmp 82) (Go.Operand.tmp 83), type := 0, pos := "law.go:121", after := #[{ on := 1, ground := Go.Ground.data }, { on := 2, ground := Go.Ground.data }], guard := none }) (v := ?g19rv4) rfl (by kernel_rfl) (fun _ _ _ h => h) (by assumption) (by rfl) ?g19ry4 ?g19rr4
            case g19ry4 => intro w hSw; obtain ⟨s0, s1, s2, s3, s4, s5⟩ := hSw; go_simp; try with_reducible rfl
            try simp only [Act.put, List.setIfInBounds_toArray, List.set_cons_zero, List.set_cons_succ]
            refine Go.Shr.wpAnyF_take 4 (oi := { dst := some 85, op := Go.Op.load 3 (Go.Operand.tmp 84), type := 3, pos := "law.go:121", after := #[{ on := 3, ground := Go.Ground.data }], guard := none }) (v := ?g19rv5) rfl (by kernel_rfl) (fun _ _ _ h => h) (by assumption) (by rfl) ?g19ry5 ?g19rr5
            case g19ry5 => intro w hSw; obtain ⟨s0, s1, s2, s3, s4, s5⟩ := hSw; go_simp; try with_reducible rfl
            try simp only [Act.put, List.setIfInBounds_toArray, List.set_cons_zero, List.set_cons_succ]
            refine Go.Shr.wpAnyF_take 5 (oi := { dst := some 86, op := Go.Op.binOp Go.BinOp.lss 3 (Go.Operand.tmp 85) (Go.Operand.const (Go.Value.int Go.IntKind.i64 0)) 3, type := 4, pos := "law.go:121", after := #[{ on := 4, ground := Go.Ground.data }], guard := none }) (v := ?g19rv6) rfl (by kernel_rfl) (fun _ _ _ h => h) (by assumption) (by rfl) ?g19ry6 ?g19rr6
            case g19ry6 => intro w hSw; obtain ⟨s0, s1, s2, s3, s4, s5⟩ := hSw; go_simp; try with_reducible rfl
            try simp only [Act.put, List.setIfInBounds_toArray, List.set_cons_zero, List.set_cons_succ]
            refine Go.Shr.wpAnyF_take 6 (oi := { dst := some 87, op := Go.Op.move (Go.Operand.tmp 86), type := 4, pos := "law.go:121", after := #[{ on := 5, ground := Go.Ground.data }], guard := none }) (v := ?g19rv7) rfl (by kernel_rfl) (fun _ _ _ h => h) (by assumption) (by rfl) ?g19ry7 ?g19rr7
            case g19ry7 => intro w hSw; obtain ⟨s0, s1, s2, s3, s4, s5⟩ := hSw; go_simp; try with_reducible rfl
            try simp only [Act.put, List.setIfInBounds_toArray, List.set_cons_zero, List.set_cons_succ]
            first
              | refine Go.Shr.wpAnyF_skip 7 (oi := { dst := some 88, op := Go.Op.fieldAddr 46 (Go.Operand.tmp 11) 0, type := 0, pos := "law.go:121", after := #[{ on := 6, ground := Go.Ground.guard }], guard := some (6, false) }) rfl (by kernel_rfl) (fun _ _ _ h => h) (by assumption) (by rfl) ?_
              | (refine Go.Shr.wpAnyF_take 7 (oi := { dst := some 88, op := Go.Op.fieldAddr 46 (Go.Operand.tmp 11) 0, type := 0, pos := "law.go:121", after := #[{ on := 6, ground := Go.Ground.guard }], guard := some (6, false) }) (v := ?g19rv8) rfl (by kernel_rfl) (fun _ _ _ h => h) (by assumption) (by rfl) ?g19ry8 ?g19rr8
                 case g19ry8 => intro w hSw; obtain ⟨s0, s1, s2, s3, s4, s5⟩ := hSw; go_simp; try with_reducible rfl)
            try simp only [Act.put, List.setIfInBounds_toArray, List.set_cons_zero, List.set_cons_succ]
            first
              | refine Go.Shr.wpAnyF_skip 8 (oi := { dst := some 89, op := Go.Op.load 22 (Go.Operand.tmp 88), type := 22, pos := "law.go:121", after := #[{ on := 7, ground := Go.Ground.data }, { on := 6, ground := Go.Ground.guard }], guard := some (6, false) }) rfl (by kernel_rfl) (fun _ _ _ h => h) (by assumption) (by rfl) ?_
              | (refine Go.Shr.wpAnyF_take 8 (oi := { dst := some 89, op := Go.Op.load 22 (Go.Operand.tmp 88), type := 22, pos := "law.go:121", after := #[{ on := 7, ground := Go.Ground.data }, { on := 6, ground := Go.Ground.guard }], guard := some (6, false) }) (v := ?g19rv9) rfl (by kernel_rfl) (fun _ _ _ h => h) (by assumption) (by rfl) ?g19ry9 ?g19rr9
                 case g19ry9 => intro w hSw; obtain ⟨s0, s1, s2, s3, s4, s5⟩ := hSw; go_simp; try with_reducible rfl)
            try simp only [Act.put, List.setIfInBounds_toArray, List.set_cons_zero, List.set_cons_succ]
            first
              | refine Go.Shr.wpAnyF_skip 9 (oi := { dst := some 90, op := Go.Op.move (Go.Operand.tmp 14), type := 3, pos := "law.go:121", after := #[{ on := 6, ground := Go.Ground.guard }], guard := some (6, false) }) rfl (by kernel_rfl) (fun _ _ _ h => h) (by assumption) (by rfl) ?_
              | (refine Go.Shr.wpAnyF_take 9 (oi := { dst := some 90, op := Go.Op.move (Go.Operand.tmp 14), type := 3, pos := "law.go:121", after := #[{ on := 6, ground := Go.Ground.guard }], guard := some (6, false) }) (v := ?g19rv10) rfl (by kernel_rfl) (fun _ _ _ h => h) (by assumption) (by rfl) ?g19ry10 ?g19rr10
                 case g19ry10 => intro w hSw; obtain ⟨s0, s1, s2, s3, s4, s5⟩ := hSw; go_simp; try with_reducible rfl)
            try simp only [Act.put, List.setIfInBounds_toArray, List.set_cons_zero, List.set_cons_succ]
            first
              | refine Go.Shr.wpAnyF_skip 10 (oi := { dst := some 91, op := Go.Op.indexAddr 22 (Go.Operand.tmp 89) (Go.Operand.tmp 90), type := 0, pos := "law.go:121", after := #[{ on := 8, ground := Go.Ground.data }, { on := 9, ground := Go.Ground.data }, { on := 6, ground := Go.Ground.guard }], guard := some (6, false) }) rfl (by kernel_rfl) (fun _ _ _ h => h) (by assumption) (by rfl) ?_
              | (refine Go.Shr.wpAnyF_take 10 (oi := { dst := some 91, op := Go.Op.indexAddr 22 (Go.Operand.tmp 89) (Go.Operand.tmp 90), type := 0, pos := "law.go:121", after := #[{ on := 8, ground := Go.Ground.data }, { on := 9, ground := Go.Ground.data }, { on := 6, ground := Go.Ground.guard }], guard := some (6, false) }) (v := ?g19rv11) rfl (by kernel_rfl) (fun _ _ _ h => h) (by assumption) (by rfl) ?g19ry11 ?g19rr11
                 case g19ry11 => intro w hSw; obtain ⟨s0, s1, s2, s3, s4, s5⟩ := hSw; go_simp; try with_reducible rfl)
            try simp only [Act.put, List.setIfInBounds_toArray, List.set_cons_zero, List.set_cons_succ]
            first
              | refine Go.Shr.wpAnyF_skip 11 (oi := { dst := some 92, op := Go.Op.load 3 (Go.Operand.tmp 91), type := 3, pos := "law.go:121", after := #[{ on := 10, ground := Go.Ground.data }, { on := 6, ground := Go.Ground.guard }], guard := some (6, false) }) rfl (by kernel_rfl) (fun _ _ _ h => h) (by assumption) (by rfl) ?_
              | (refine Go.Shr.wpAnyF_take 11 (oi := { dst := some 92, op := Go.Op.load 3 (Go.Operand.tmp 91), type := 3, pos := "law.go:121", after := #[{ on := 10, ground := Go.Ground.data }, { on := 6, ground := Go.Ground.guard }], guard := some (6, false) }) (v := ?g19rv12) rfl (by kernel_rfl) (fun _ _ _ h => h) (by assumption) (by rfl) ?g19ry12 ?g19rr12
                 case g19ry12 => intro w hSw; obtain ⟨s0, s1, s2, s3, s4, s5⟩ := hSw; go_simp; try with_reducible rfl)
            try simp only [Act.put, List.setIfInBounds_toArray, List.set_cons_zero, List.set_cons_succ]
            first
              | refine Go.Shr.wpAnyF_skip 12 (oi := { dst := some 93, op := Go.Op.move (Go.Operand.tmp 9), type := 42, pos := "law.go:121", after := #[{ on := 6, ground := Go.Ground.guard }], guard := some (6, false) }) rfl (by kernel_rfl) (fun _ _ _ h => h) (by assumption) (by rfl) ?_
              | (refine Go.Shr.wpAnyF_take 12 (oi := { dst := some 93, op := Go.Op.move (Go.Operand.tmp 9), type := 42, pos := "law.go:121", after := #[{ on := 6, ground := Go.Ground.guard }], guard := some (6, false) }) (v := ?g19rv13) rfl (by kernel_rfl) (fun _ _ _ h => h) (by assumption) (by rfl) ?g19ry13 ?g19rr13
                 case g19ry13 => intro w hSw; obtain ⟨s0, s1, s2, s3, s4, s5⟩ := hSw; go_simp; try with_reducible rfl)
            try simp only [Act.put, List.setIfInBounds_toArray, List.set_cons_zero, List.set_cons_succ]
            first
              | refine Go.Shr.wpAnyF_skip 13 (oi := { dst := some 94, op := Go.Op.move (Go.Operand.tmp 10), type := 3, pos := "law.go:121", after := #[{ on := 6, ground := Go.Ground.guard }], guard := some (6, false) }) rfl (by kernel_rfl) (fun _ _ _ h => h) (by assumption) (by rfl) ?_
              | (refine Go.Shr.wpAnyF_take 13 (oi := { dst := some 94, op := Go.Op.move (Go.Operand.tmp 10), type := 3, pos := "law.go:121", after := #[{ on := 6, ground := Go.Ground.guard }], guard := some (6, false) }) (v := ?g19rv14) rfl (by kernel_rfl) (fun _ _ _ h => h) (by assumption) (by rfl) ?g19ry14 ?g19rr14
                 case g19ry14 => intro w hSw; obtain ⟨s0, s1, s2, s3, s4, s5⟩ := hSw; go_simp; try with_reducible rfl)
            try simp only [Act.put, List.setIfInBounds_toArray, List.set_cons_zero, List.set_cons_succ]
            first
              | refine Go.Shr.wpAnyF_skip 14 (oi := { dst := some 95, op := Go.Op.indexAddr 42 (Go.Operand.tmp 93) (Go.Operand.tmp 94), type := 0, pos := "law.go:121", after := #[{ on := 12, ground := Go.Ground.data }, { on := 13, ground := Go.Ground.data }, { on := 6, ground := Go.Ground.guard }], guard := some (6, false) }) rfl (by kernel_rfl) (fun _ _ _ h => h) (by assumption) (by rfl) ?_
              | (refine Go.Shr.wpAnyF_take 14 (oi := { dst := some 95, op := Go.Op.indexAddr 42 (Go.Operand.tmp 93) (Go.Operand.tmp 94), type := 0, pos := "law.go:121", after := #[{ on := 12, ground := Go.Ground.data }, { on := 13, ground := Go.Ground.data }, { on := 6, ground := Go.Ground.guard }], guard := some (6, false) }) (v := ?g19rv15) rfl (by kernel_rfl) (fun _ _ _ h => h) (by assumption) (by rfl) ?g19ry15 ?g19rr15
                 case g19ry15 => intro w hSw; obtain ⟨s0, s1, s2, s3, s4, s5⟩ := hSw; go_simp; try with_reducible rfl)
            try simp only [Act.put, List.setIfInBounds_toArray, List.set_cons_zero, List.set_cons_succ]
            first
              | refine Go.Shr.wpAnyF_skip 15 (oi := { dst := some 96, op := Go.Op.fieldAddr 48 (Go.Operand.tmp 95) 1, type := 0, pos := "law.go:121", after := #[{ on := 14, ground := Go.Ground.data }, { on := 6, ground := Go.Ground.guard }], guard := some (6, false) }) rfl (by kernel_rfl) (fun _ _ _ h => h) (by assumption) (by rfl) ?_
              | (refine Go.Shr.wpAnyF_take 15 (oi := { dst := some 96, op := Go.Op.fieldAddr 48 (Go.Operand.tmp 95) 1, type := 0, pos := "law.go:121", after := #[{ on := 14, ground := Go.Ground.data }, { on := 6, ground := Go.Ground.guard }], guard := some (6, false) }) (v := ?g19rv16) rfl (by kernel_rfl) (fun _ _ _ h => h) (by assumption) (by rfl) ?g19ry16 ?g19rr16
                 case g19ry16 => intro w hSw; obtain ⟨s0, s1, s2, s3, s4, s5⟩ := hSw; go_simp; try with_reducible rfl)
            try simp only [Act.put, List.setIfInBounds_toArray, List.set_cons_zero, List.set_cons_succ]
            first
              | refine Go.Shr.wpAnyF_skip 16 (oi := { dst := some 97, op := Go.Op.load 3 (Go.Operand.tmp 96), type := 3, pos := "law.go:121", after := #[{ on := 15, ground := Go.Ground.data }, { on := 6, ground := Go.Ground.guard }], guard := some (6, false) }) rfl (by kernel_rfl) (fun _ _ _ h => h) (by assumption) (by rfl) ?_
              | (refine Go.Shr.wpAnyF_take 16 (oi := { dst := some 97, op := Go.Op.load 3 (Go.Operand.tmp 96), type := 3, pos := "law.go:121", after := #[{ on := 15, ground := Go.Ground.data }, { on := 6, ground := Go.Ground.guard }], guard := some (6, false) }) (v := ?g19rv17) rfl (by kernel_rfl) (fun _ _ _ h => h) (by assumption) (by rfl) ?g19ry17 ?g19rr17
                 case g19ry17 => intro w hSw; obtain ⟨s0, s1, s2, s3, s4, s5⟩ := hSw; go_simp; try with_reducible rfl)
            try simp only [Act.put, List.setIfInBounds_toArray, List.set_cons_zero, List.set_cons_succ]
            first
              | refine Go.Shr.wpAnyF_skip 17 (oi := { dst := some 98, op := Go.Op.binOp Go.BinOp.gtr 3 (Go.Operand.tmp 92) (Go.Operand.tmp 97) 3, type := 4, pos := "law.go:121", after := #[{ on := 11, ground := Go.Ground.data }, { on := 16, ground := Go.Ground.data }, { on := 6, ground := Go.Ground.guard }], guard := some (6, false) }) rfl (by kernel_rfl) (fun _ _ _ h => h) (by assumption) (by rfl) ?_
              | (refine Go.Shr.wpAnyF_take 17 (oi := { dst := some 98, op := Go.Op.binOp Go.BinOp.gtr 3 (Go.Operand.tmp 92) (Go.Operand.tmp 97) 3, type := 4, pos := "law.go:121", after := #[{ on := 11, ground := Go.Ground.data }, { on := 16, ground := Go.Ground.data }, { on := 6, ground := Go.Ground.guard }], guard := some (6, false) }) (v := ?g19rv18) rfl (by kernel_rfl) (fun _ _ _ h => h) (by assumption) (by rfl) ?g19ry18 ?g19rr18
                 case g19ry18 => intro w hSw; obtain ⟨s0, s1, s2, s3, s4, s5⟩ := hSw; go_simp; try with_reducible rfl)
            try simp only [Act.put, List.setIfInBounds_toArray, List.set_cons_zero, List.set_cons_succ]
            refine Go.Shr.wpAnyF_take 18 (oi := { dst := some 99, op := Go.Op.pick (Go.Operand.tmp 87) (Go.Operand.const (Go.Value.bool true)) (Go.Operand.tmp 98), type := 4, pos := "law.go:121", after := #[{ on := 6, ground := Go.Ground.data }, { on := 17, ground := Go.Ground.data }], guard := none }) (v := ?g19rv19) rfl (by kernel_rfl) (fun _ _ _ h => h) (by assumption) (by rfl) ?g19ry19 ?g19rr19
            case g19ry19 => intro w hSw; obtain ⟨s0, s1, s2, s3, s4, s5⟩ := hSw; go_simp; try with_reducible rfl
            try simp only [Act.put, List.setIfInBounds_toArray, List.set_cons_zero, List.set_cons_succ]
            refine Go.Shr.wpAnyF_take 19 (oi := { dst := some 100, op := Go.Op.move (Go.Operand.tmp 99), type := 4, pos := "law.go:121", after := #[{ on := 18, ground := Go.Ground.data }, { on := 6, ground := Go.Ground.chain }], guard := none }) (v := ?g19rv20) rfl (by kernel_rfl) (fun _ _ _ h => h) (by assumption) (by rfl) ?g19ry20 ?g19rr20
            case g19ry20 => intro w hSw; obtain ⟨s0, s1, s2, s3, s4, s5⟩ := hSw; go_simp; try with_reducible rfl
            try simp only [Act.put, List.setIfInBounds_toArray, List.set_cons_zero, List.set_cons_succ]
            first
              | refine Go.Shr.wpAnyF_skip 20 (oi := { dst := some 101, op := Go.Op.fieldAddr 46 (Go.Operand.tmp 11) 1, type := 0, pos := "law.go:121", after := #[{ on := 19, ground := Go.Ground.guard }], guard := some (19, false) }) rfl (by kernel_rfl) (fun _ _ _ h => h) (by assumption) (by rfl) ?_
              | (refine Go.Shr.wpAnyF_take 20 (oi := { dst := some 101, op := Go.Op.fieldAddr 46 (Go.Operand.tmp 11) 1, type := 0, pos := "law.go:121", after := #[{ on := 19, ground := Go.Ground.guard }], guard := some (19, false) }) (v := ?g19rv21) rfl (by kernel_rfl) (fun _ _ _ h => h) (by assumption) (by rfl) ?g19ry21 ?g19rr21
                 case g19ry21 => intro w hSw; obtain ⟨s0, s1, s2, s3, s4, s5⟩ := hSw; go_simp; try with_reducible rfl)
            try simp only [Act.put, List.setIfInBounds_toArray, List.set_cons_zero, List.set_cons_succ]
            first
              | refine Go.Shr.wpAnyF_skip 21 (oi := { dst := some 102, op := Go.Op.load 22 (Go.Operand.tmp 101), type := 22, pos := "law.go:121", after := #[{ on := 20, ground := Go.Ground.data }, { on := 19, ground := Go.Ground.guard }], guard := some (19, false) }) rfl (by kernel_rfl) (fun _ _ _ h => h) (by assumption) (by rfl) ?_
              | (refine Go.Shr.wpAnyF_take 21 (oi := { dst := some 102, op := Go.Op.load 22 (Go.Operand.tmp 101), type := 22, pos := "law.go:121", after := #[{ on := 20, ground := Go.Ground.data }, { on := 19, ground := Go.Ground.guard }], guard := some (19, false) }) (v := ?g19rv22) rfl (by kernel_rfl) (fun _ _ _ h => h) (by assumption) (by rfl) ?g19ry22 ?g19rr22
                 case g19ry22 => intro w hSw; obtain ⟨s0, s1, s2, s3, s4, s5⟩ := hSw; go_simp; try with_reducible rfl)
            try simp only [Act.put, List.setIfInBounds_toArray, List.set_cons_zero, List.set_cons_succ]
            first
              | refine Go.Shr.wpAnyF_skip 22 (oi := { dst := some 103, op := Go.Op.move (Go.Operand.tmp 14), type := 3, pos := "law.go:121", after := #[{ on := 19, ground := Go.Ground.guard }], guard := some (19, false) }) rfl (by kernel_rfl) (fun _ _ _ h => h) (by assumption) (by rfl) ?_
              | (refine Go.Shr.wpAnyF_take 22 (oi := { dst := some 103, op := Go.Op.move (Go.Operand.tmp 14), type := 3, pos := "law.go:121", after := #[{ on := 19, ground := Go.Ground.guard }], guard := some (19, false) }) (v := ?g19rv23) rfl (by kernel_rfl) (fun _ _ _ h => h) (by assumption) (by rfl) ?g19ry23 ?g19rr23
                 case g19ry23 => intro w hSw; obtain ⟨s0, s1, s2, s3, s4, s5⟩ := hSw; go_simp; try with_reducible rfl)
            try simp only [Act.put, List.setIfInBounds_toArray, List.set_cons_zero, List.set_cons_succ]
            first
              | refine Go.Shr.wpAnyF_skip 23 (oi := { dst := some 104, op := Go.Op.indexAddr 22 (Go.Operand.tmp 102) (Go.Operand.tmp 103), type := 0, pos := "law.go:121", after := #[{ on := 21, ground := Go.Ground.data }, { on := 22, ground := Go.Ground.data }, { on := 19, ground := Go.Ground.guard }], guard := some (19, false) }) rfl (by kernel_rfl) (fun _ _ _ h => h) (by assumption) (by rfl) ?_
              | (refine Go.Shr.wpAnyF_take 23 (oi := { dst := some 104, op := Go.Op.indexAddr 22 (Go.Operand.tmp 102) (Go.Operand.tmp 103), type := 0, pos := "law.go:121", after := #[{ on := 21, ground := Go.Ground.data }, { on := 22, ground := Go.Ground.data }, { on := 19, ground := Go.Ground.guard }], guard := some (19, false) }) (v := ?g19rv24) rfl (by kernel_rfl) (fun _ _ _ h => h) (by assumption) (by rfl) ?g19ry24 ?g19rr24
                 case g19ry24 => intro w hSw; obtain ⟨s0, s1, s2, s3, s4, s5⟩ := hSw; go_simp; try with_reducible rfl)
            try simp only [Act.put, List.setIfInBounds_toArray, List.set_cons_zero, List.set_cons_succ]
            first
              | refine Go.Shr.wpAnyF_skip 24 (oi := { dst := some 105, op := Go.Op.load 3 (Go.Operand.tmp 104), type := 3, pos := "law.go:121", after := #[{ on := 23, ground := Go.Ground.data }, { on := 19, ground := Go.Ground.guard }], guard := some (19, false) }) rfl (by kernel_rfl) (fun _ _ _ h => h) (by assumption) (by rfl) ?_
              | (refine Go.Shr.wpAnyF_take 24 (oi := { dst := some 105, op := Go.Op.load 3 (Go.Operand.tmp 104), type := 3, pos := "law.go:121", after := #[{ on := 23, ground := Go.Ground.data }, { on := 19, ground := Go.Ground.guard }], guard := some (19, false) }) (v := ?g19rv25) rfl (by kernel_rfl) (fun _ _ _ h => h) (by assumption) (by rfl) ?g19ry25 ?g19rr25
                 case g19ry25 => intro w hSw; obtain ⟨s0, s1, s2, s3, s4, s5⟩ := hSw; go_simp; try with_reducible rfl)
            try simp only [Act.put, List.setIfInBounds_toArray, List.set_cons_zero, List.set_cons_succ]
            first
              | refine Go.Shr.wpAnyF_skip 25 (oi := { dst := some 106, op := Go.Op.binOp Go.BinOp.lss 3 (Go.Operand.tmp 105) (Go.Operand.const (Go.Value.int Go.IntKind.i64 0)) 3, type := 4, pos := "law.go:121", after := #[{ on := 24, ground := Go.Ground.data }, { on := 19, ground := Go.Ground.guard }], guard := some (19, false) }) rfl (by kernel_rfl) (fun _ _ _ h => h) (by assumption) (by rfl) ?_
              | (refine Go.Shr.wpAnyF_take 25 (oi := { dst := some 106, op := Go.Op.binOp Go.BinOp.lss 3 (Go.Operand.tmp 105) (Go.Operand.const (Go.Value.int Go.IntKind.i64 0)) 3, type := 4, pos := "law.go:121", after := #[{ on := 24, ground := Go.Ground.data }, { on := 19, ground := Go.Ground.guard }], guard := some (19, false) }) (v := ?g19rv26) rfl (by kernel_rfl) (fun _ _ _ h => h) (by assumption) (by rfl) ?g19ry26 ?g19rr26
                 case g19ry26 => intro w hSw; obtain ⟨s0, s1, s2, s3, s4, s5⟩ := hSw; go_simp; try with_reducible rfl)
            try simp only [Act.put, List.setIfInBounds_toArray, List.set_cons_zero, List.set_cons_succ]
            refine Go.Shr.wpAnyF_take 26 (oi := { dst := some 107, op := Go.Op.pick (Go.Operand.tmp 100) (Go.Operand.const (Go.Value.bool true)) (Go.Operand.tmp 106), type := 4, pos := "law.go:121", after := #[{ on := 19, ground := Go.Ground.data }, { on := 25, ground := Go.Ground.data }], guard := none }) (v := ?g19rv27) rfl (by kernel_rfl) (fun _ _ _ h => h) (by assumption) (by rfl) ?g19ry27 ?g19rr27
            case g19ry27 => intro w hSw; obtain ⟨s0, s1, s2, s3, s4, s5⟩ := hSw; go_simp; try with_reducible rfl
            try simp only [Act.put, List.setIfInBounds_toArray, List.set_cons_zero, List.set_cons_succ]
            refine Go.Shr.wpAnyF_take 27 (oi := { dst := some 108, op := Go.Op.move (Go.Operand.tmp 107), type := 4, pos := "law.go:121", after := #[{ on := 26, ground := Go.Ground.data }, { on := 19, ground := Go.Ground.chain }], guard := none }) (v := ?g19rv28) rfl (by kernel_rfl) (fun _ _ _ h => h) (by assumption) (by rfl) ?g19ry28 ?g19rr28
            case g19ry28 => intro w hSw; obtain ⟨s0, s1, s2, s3, s4, s5⟩ := hSw; go_simp; try with_reducible rfl
            try simp only [Act.put, List.setIfInBounds_toArray, List.set_cons_zero, List.set_cons_succ]
            first
              | refine Go.Shr.wpAnyF_skip 28 (oi := { dst := some 109, op := Go.Op.fieldAddr 46 (Go.Operand.tmp 11) 1, type := 0, pos := "law.go:121", after := #[{ on := 27, ground := Go.Ground.guard }], guard := some (27, false) }) rfl (by kernel_rfl) (fun _ _ _ h => h) (by assumption) (by rfl) ?_
              | (refine Go.Shr.wpAnyF_take 28 (oi := { dst := some 109, op := Go.Op.fieldAddr 46 (Go.Operand.tmp 11) 1, type := 0, pos := "law.go:121", after := #[{ on := 27, ground := Go.Ground.guard }], guard := some (27, false) }) (v := ?g19rv29) rfl (by kernel_rfl) (fun _ _ _ h => h) (by assumption) (by rfl) ?g19ry29 ?g19rr29
                 case g19ry29 => intro w hSw; obtain ⟨s0, s1, s2, s3, s4, s5⟩ := hSw; go_simp; try with_reducible rfl)
            try simp only [Act.put, List.setIfInBounds_toArray, List.set_cons_zero, List.set_cons_succ]
            first
              | refine Go.Shr.wpAnyF_skip 29 (oi := { dst := some 110, op := Go.Op.load 22 (Go.Operand.tmp 109), type := 22, pos := "law.go:121", after := #[{ on := 28, ground := Go.Ground.data }, { on := 27, ground := Go.Ground.guard }], guard := some (27, false) }) rfl (by kernel_rfl) (fun _ _ _ h => h) (by assumption) (by rfl) ?_
              | (refine Go.Shr.wpAnyF_take 29 (oi := { dst := some 110, op := Go.Op.load 22 (Go.Operand.tmp 109), type := 22, pos := "law.go:121", after := #[{ on := 28, ground := Go.Ground.data }, { on := 27, ground := Go.Ground.guard }], guard := some (27, false) }) (v := ?g19rv30) rfl (by kernel_rfl) (fun _ _ _ h => h) (by assumption) (by rfl) ?g19ry30 ?g19rr30
                 case g19ry30 => intro w hSw; obtain ⟨s0, s1, s2, s3, s4, s5⟩ := hSw; go_simp; try with_reducible rfl)
            try simp only [Act.put, List.setIfInBounds_toArray, List.set_cons_zero, List.set_cons_succ]
            first
              | refine Go.Shr.wpAnyF_skip 30 (oi := { dst := some 111, op := Go.Op.move (Go.Operand.tmp 14), type := 3, pos := "law.go:121", after := #[{ on := 27, ground := Go.Ground.guard }], guard := some (27, false) }) rfl (by kernel_rfl) (fun _ _ _ h => h) (by assumption) (by rfl) ?_
              | (refine Go.Shr.wpAnyF_take 30 (oi := { dst := some 111, op := Go.Op.move (Go.Operand.tmp 14), type := 3, pos := "law.go:121", after := #[{ on := 27, ground := Go.Ground.guard }], guard := some (27, false) }) (v := ?g19rv31) rfl (by kernel_rfl) (fun _ _ _ h => h) (by assumption) (by rfl) ?g19ry31 ?g19rr31
                 case g19ry31 => intro w hSw; obtain ⟨s0, s1, s2, s3, s4, s5⟩ := hSw; go_simp; try with_reducible rfl)
            try simp only [Act.put, List.setIfInBounds_toArray, List.set_cons_zero, List.set_cons_succ]
            first
              | refine Go.Shr.wpAnyF_skip 31 (oi := { dst := some 112, op := Go.Op.indexAddr 22 (Go.Operand.tmp 110) (Go.Operand.tmp 111), type := 0, pos := "law.go:121", after := #[{ on := 29, ground := Go.Ground.data }, { on := 30, ground := Go.Ground.data }, { on := 27, ground := Go.Ground.guard }], guard := some (27, false) }) rfl (by kernel_rfl) (fun _ _ _ h => h) (by assumption) (by rfl) ?_
              | (refine Go.Shr.wpAnyF_take 31 (oi := { dst := some 112, op := Go.Op.indexAddr 22 (Go.Operand.tmp 110) (Go.Operand.tmp 111), type := 0, pos := "law.go:121", after := #[{ on := 29, ground := Go.Ground.data }, { on := 30, ground := Go.Ground.data }, { on := 27, ground := Go.Ground.guard }], guard := some (27, false) }) (v := ?g19rv32) rfl (by kernel_rfl) (fun _ _ _ h => h) (by assumption) (by rfl) ?g19ry32 ?g19rr32
                 case g19ry32 => intro w hSw; obtain ⟨s0, s1, s2, s3, s4, s5⟩ := hSw; go_simp; try with_reducible rfl)
            try simp only [Act.put, List.setIfInBounds_toArray, List.set_cons_zero, List.set_cons_succ]
            first
              | refine Go.Shr.wpAnyF_skip 32 (oi := { dst := some 113, op := Go.Op.load 3 (Go.Operand.tmp 112), type := 3, pos := "law.go:121", after := #[{ on := 31, ground := Go.Ground.data }, { on := 27, ground := Go.Ground.guard }], guard := some (27, false) }) rfl (by kernel_rfl) (fun _ _ _ h => h) (by assumption) (by rfl) ?_
              | (refine Go.Shr.wpAnyF_take 32 (oi := { dst := some 113, op := Go.Op.load 3 (Go.Operand.tmp 112), type := 3, pos := "law.go:121", after := #[{ on := 31, ground := Go.Ground.data }, { on := 27, ground := Go.Ground.guard }], guard := some (27, false) }) (v := ?g19rv33) rfl (by kernel_rfl) (fun _ _ _ h => h) (by assumption) (by rfl) ?g19ry33 ?g19rr33
                 case g19ry33 => intro w hSw; obtain ⟨s0, s1, s2, s3, s4, s5⟩ := hSw; go_simp; try with_reducible rfl)
            try simp only [Act.put, List.setIfInBounds_toArray, List.set_cons_zero, List.set_cons_succ]
            first
              | refine Go.Shr.wpAnyF_skip 33 (oi := { dst := some 114, op := Go.Op.move (Go.Operand.tmp 9), type := 42, pos := "law.go:121", after := #[{ on := 27, ground := Go.Ground.guard }], guard := some (27, false) }) rfl (by kernel_rfl) (fun _ _ _ h => h) (by assumption) (by rfl) ?_
              | (refine Go.Shr.wpAnyF_take 33 (oi := { dst := some 114, op := Go.Op.move (Go.Operand.tmp 9), type := 42, pos := "law.go:121", after := #[{ on := 27, ground := Go.Ground.guard }], guard := some (27, false) }) (v := ?g19rv34) rfl (by kernel_rfl) (fun _ _ _ h => h) (by assumption) (by rfl) ?g19ry34 ?g19rr34
                 case g19ry34 => intro w hSw; obtain ⟨s0, s1, s2, s3, s4, s5⟩ := hSw; go_simp; try with_reducible rfl)
            try simp only [Act.put, List.setIfInBounds_toArray, List.set_cons_zero, List.set_cons_succ]
            first
              | refine Go.Shr.wpAnyF_skip 34 (oi := { dst := some 115, op := Go.Op.move (Go.Operand.tmp 10), type := 3, pos := "law.go:121", after := #[{ on := 27, ground := Go.Ground.guard }], guard := some (27, false) }) rfl (by kernel_rfl) (fun _ _ _ h => h) (by assumption) (by rfl) ?_
              | (refine Go.Shr.wpAnyF_take 34 (oi := { dst := some 115, op := Go.Op.move (Go.Operand.tmp 10), type := 3, pos := "law.go:121", after := #[{ on := 27, ground := Go.Ground.guard }], guard := some (27, false) }) (v := ?g19rv35) rfl (by kernel_rfl) (fun _ _ _ h => h) (by assumption) (by rfl) ?g19ry35 ?g19rr35
                 case g19ry35 => intro w hSw; obtain ⟨s0, s1, s2, s3, s4, s5⟩ := hSw; go_simp; try with_reducible rfl)
            try simp only [Act.put, List.setIfInBounds_toArray, List.set_cons_zero, List.set_cons_succ]
            first
              | refine Go.Shr.wpAnyF_skip 35 (oi := { dst := some 116, op := Go.Op.indexAddr 42 (Go.Operand.tmp 114) (Go.Operand.tmp 115), type := 0, pos := "law.go:121", after := #[{ on := 33, ground := Go.Ground.data }, { on := 34, ground := Go.Ground.data }, { on := 27, ground := Go.Ground.guard }], guard := some (27, false) }) rfl (by kernel_rfl) (fun _ _ _ h => h) (by assumption) (by rfl) ?_
              | (refine Go.Shr.wpAnyF_take 35 (oi := { dst := some 116, op := Go.Op.indexAddr 42 (Go.Operand.tmp 114) (Go.Operand.tmp 115), type := 0, pos := "law.go:121", after := #[{ on := 33, ground := Go.Ground.data }, { on := 34, ground := Go.Ground.data }, { on := 27, ground := Go.Ground.guard }], guard := some (27, false) }) (v := ?g19rv36) rfl (by kernel_rfl) (fun _ _ _ h => h) (by assumption) (by rfl) ?g19ry36 ?g19rr36
                 case g19ry36 => intro w hSw; obtain ⟨s0, s1, s2, s3, s4, s5⟩ := hSw; go_simp; try with_reducible rfl)
            try simp only [Act.put, List.setIfInBounds_toArray, List.set_cons_zero, List.set_cons_succ]
            first
              | refine Go.Shr.wpAnyF_skip 36 (oi := { dst := some 117, op := Go.Op.fieldAddr 48 (Go.Operand.tmp 116) 2, type := 0, pos := "law.go:121", after := #[{ on := 35, ground := Go.Ground.data }, { on := 27, ground := Go.Ground.guard }], guard := some (27, false) }) rfl (by kernel_rfl) (fun _ _ _ h => h) (by assumption) (by rfl) ?_
              | (refine Go.Shr.wpAnyF_take 36 (oi := { dst := some 117, op := Go.Op.fieldAddr 48 (Go.Operand.tmp 116) 2, type := 0, pos := "law.go:121", after := #[{ on := 35, ground := Go.Ground.data }, { on := 27, ground := Go.Ground.guard }], guard := some (27, false) }) (v := ?g19rv37) rfl (by kernel_rfl) (fun _ _ _ h => h) (by assumption) (by rfl) ?g19ry37 ?g19rr37
                 case g19ry37 => intro w hSw; obtain ⟨s0, s1, s2, s3, s4, s5⟩ := hSw; go_simp; try with_reducible rfl)
            try simp only [Act.put, List.setIfInBounds_toArray, List.set_cons_zero, List.set_cons_succ]
            first
              | refine Go.Shr.wpAnyF_skip 37 (oi := { dst := some 118, op := Go.Op.load 3 (Go.Operand.tmp 117), type := 3, pos := "law.go:121", after := #[{ on := 36, ground := Go.Ground.data }, { on := 27, ground := Go.Ground.guard }], guard := some (27, false) }) rfl (by kernel_rfl) (fun _ _ _ h => h) (by assumption) (by rfl) ?_
              | (refine Go.Shr.wpAnyF_take 37 (oi := { dst := some 118, op := Go.Op.load 3 (Go.Operand.tmp 117), type := 3, pos := "law.go:121", after := #[{ on := 36, ground := Go.Ground.data }, { on := 27, ground := Go.Ground.guard }], guard := some (27, false) }) (v := ?g19rv38) rfl (by kernel_rfl) (fun _ _ _ h => h) (by assumption) (by rfl) ?g19ry38 ?g19rr38
                 case g19ry38 => intro w hSw; obtain ⟨s0, s1, s2, s3, s4, s5⟩ := hSw; go_simp; try with_reducible rfl)
            try simp only [Act.put, List.setIfInBounds_toArray, List.set_cons_zero, List.set_cons_succ]
            first
              | refine Go.Shr.wpAnyF_skip 38 (oi := { dst := some 119, op := Go.Op.binOp Go.BinOp.gtr 3 (Go.Operand.tmp 113) (Go.Operand.tmp 118) 3, type := 4, pos := "law.go:121", after := #[{ on := 32, ground := Go.Ground.data }, { on := 37, ground := Go.Ground.data }, { on := 27, ground := Go.Ground.guard }], guard := some (27, false) }) rfl (by kernel_rfl) (fun _ _ _ h => h) (by assumption) (by rfl) ?_
              | (refine Go.Shr.wpAnyF_take 38 (oi := { dst := some 119, op := Go.Op.binOp Go.BinOp.gtr 3 (Go.Operand.tmp 113) (Go.Operand.tmp 118) 3, type := 4, pos := "law.go:121", after := #[{ on := 32, ground := Go.Ground.data }, { on := 37, ground := Go.Ground.data }, { on := 27, ground := Go.Ground.guard }], guard := some (27, false) }) (v := ?g19rv39) rfl (by kernel_rfl) (fun _ _ _ h => h) (by assumption) (by rfl) ?g19ry39 ?g19rr39
                 case g19ry39 => intro w hSw; obtain ⟨s0, s1, s2, s3, s4, s5⟩ := hSw; go_simp; try with_reducible rfl)
            try simp only [Act.put, List.setIfInBounds_toArray, List.set_cons_zero, List.set_cons_succ]
            refine Go.Shr.wpAnyF_take 39 (oi := { dst := some 120, op := Go.Op.pick (Go.Operand.tmp 108) (Go.Operand.const (Go.Value.bool true)) (Go.Operand.tmp 119), type := 4, pos := "law.go:121", after := #[{ on := 27, ground := Go.Ground.data }, { on := 38, ground := Go.Ground.data }], guard := none }) (v := ?g19rv40) rfl (by kernel_rfl) (fun _ _ _ h => h) (by assumption) (by rfl) ?g19ry40 ?g19rr40
            case g19ry40 => intro w hSw; obtain ⟨s0, s1, s2, s3, s4, s5⟩ := hSw; go_simp; try with_reducible rfl
            try simp only [Act.put, List.setIfInBounds_toArray, List.set_cons_zero, List.set_cons_succ]
            refine Go.Shr.wpAnyF_done (by kernel_rfl) ?_
            obtain ⟨s0, s1, s2, s3, s4, s5⟩ := hHeld
            go_upto_if 126 with fail
            go_cut [12] from 127 to 128 (fun v wd => v = .int .i64 (((C.take (i + 1)).filter fun x => x.r == 0).length : Int) ∧ wr.drew = wd)
            case first =>
              by_cases hr0 : ri = 0
              · have hrb : ((ri : Int) == 0) = true := beq_iff_eq.2 (by omega)
                have HQ : Hid (((C.take (i + 1)).filter fun x => x.r == 0).length = q1 + 1) := Lib.hid (by rw [HF0.out, if_pos (beq_iff_eq.2 hr0)])
                clear hr0
                go_wp2_with fail
                go_meet
                case rel => exact ⟨by rw [HQ.out]; go_num, rfl⟩
              · have hrb : ((ri : Int) == 0) = false := beq_eq_false_iff_ne.2 (by omega)
                have HQ : Hid (((C.take (i + 1)).filter fun x => x.r == 0).length = q1) := Lib.hid (by rw [HF0.out, if_neg (fun h => hr0 (beq_iff_eq.1 h))]; omega)
                clear hr0
                go_wp2_with fail
                go_meet
                case rel => exact ⟨by rw [HQ.out], rfl⟩
            case rest =>
              obtain ⟨rfl, rfl⟩ := hcut
              go_upto_region 23 with fail
              by_cases hd : di = DD
              · have hdb : ((di : Int) == (DD : Int)) = true := beq_iff_eq.2 (by omega)
                have HQ2 : Hid (((C.take (i + 1)).filter fun x => x.d == DD).length = q2 + 1) := Lib.hid (by rw [HF1.out, if_pos (beq_iff_eq.2 hd)])
                clear hd
                refine Go.Shr.wp_region_F (fun w' => w'.cell? ⟨b11, 1, none⟩ = some (.slice (some ⟨g1, 0, none⟩) C.length (cc (k * 3 + 1))) ∧ w'.cell? ⟨g1, i, none⟩ = some (.int .i64 (di : Int)) ∧ w'.cell? ⟨gL, oL + k * 4 + 2, none⟩ = some (.int .i64 (DD : Int))) [] (by kernel_rfl) ?g20rgS (fun hHeld => ?g20rgR)
                case g20rgS => (try dsimp only); (exact ⟨s1, s3, s5⟩)
                try dsimp only at hHeld
                refine Go.Shr.wpAnyF_take 0 (oi := { dst := some 129, op := Go.Op.fieldAddr 46 (Go.Operand.tmp 11) 1, type := 0, pos := "law.go:127", after := #[], guard := none }) (v := ?g20rv1) rfl (by kernel_rfl) (fun _ _ _ h => h) (by assumption) (by rfl) ?g20ry1 ?g20rr1
                case g20ry1 => intro w hSw; obtain ⟨s1, s2, s3⟩ := hSw; go_simp; try with_reducible rfl
                try simp only [Act.put, List.setIfInBounds_toArray, List.set_cons_zero, List.set_cons_succ]
                refine Go.Shr.wpAnyF_take 1 (oi := { dst := some 130, op := Go.Op.load 22 (Go.Operand.tmp 129), type := 22, pos := "law.go:127", after := #[{ on := 0, ground := Go.Ground.data }], guard := none }) (v := ?g20rv2) rfl (by kernel_rfl) (fun _ _ _ h => h) (by assumption) (by rfl) ?g20ry2 ?g20rr2
                case g20ry2 => intro w hSw; obtain ⟨s1, s2, s3⟩ := hSw; go_simp; try with_reducible rfl
                try simp only [Act.put, List.setIfInBounds_toArray, List.set_cons_zero, List.set_cons_succ]
                refine Go.Shr.wpAnyF_take 2 (oi := { dst := some 131, op := Go.Op.move (Go.Operand.tmp 14), type := 3, pos := "law.go:127", after := #[], guard := none }) (v := ?g20rv3) rfl (by kernel_rfl) (fun _ _ _ h => h) (by assumption) (by rfl) ?g20ry3 ?g20rr3
                case g20ry3 => intro w hSw; obtain ⟨s1, s2, s3⟩ := hSw; go_simp; try with_reducible rfl
                try simp only [Act.put, List.setIfInBounds_toArray, List.set_cons_zero, List.set_cons_succ]
                refine Go.Shr.wpAnyF_take 3 (oi := { dst := some 132, op := Go.Op.indexAddr 22 (Go.Operand.tmp 130) (Go.Operand.tmp 131), type := 0, pos := "law.go:127", after := #[{ on := 1, ground := Go.Ground.data }, { on := 2, ground := Go.Ground.data }], guard := none }) (v := ?g20rv4) rfl (by kernel_rfl) (fun _ _ _ h => h) (by assumption) (by rfl) ?g20ry4 ?g20rr4
                case g20ry4 => intro w hSw; obtain ⟨s1, s2, s3⟩ := hSw; go_simp; try with_reducible rfl
                try simp only [Act.put, List.setIfInBounds_toArray, List.set_cons_zero, List.set_cons_succ]
                refine Go.Shr.wpAnyF_take 4 (oi := { dst := some 133, op := Go.Op.load 3 (Go.Operand.tmp 132), type := 3, pos := "law.go:127", after := #[{ on := 3, ground := Go.Ground.data }], guard := none }) (v := ?g20rv5) rfl (by kernel_rfl) (fun _ _ _ h => h) (by assumption) (by rfl) ?g20ry5 ?g20rr5
                case g20ry5 => intro w hSw; obtain ⟨s1, s2, s3⟩ := hSw; go_simp; try with_reducible rfl
                try simp only [Act.put, List.setIfInBounds_toArray, List.set_cons_zero, List.set_cons_succ]
                refine Go.Shr.wpAnyF_take 5 (oi := { dst := some 134, op := Go.Op.move (Go.Operand.tmp 9), type := 42, pos := "law.go:127", after := #[], guard := none }) (v := ?g20rv6) rfl (by kernel_rfl) (fun _ _ _ h => h) (by assumption) (by rfl) ?g20ry6 ?g20rr6
                case g20ry6 => intro w hSw; obtain ⟨s1, s2, s3⟩ := hSw; go_simp; try with_reducible rfl
                try simp only [Act.put, List.setIfInBounds_toArray, List.set_cons_zero, List.set_cons_succ]
                refine Go.Shr.wpAnyF_take 6 (oi := { dst := some 135, op := Go.Op.move (Go.Operand.tmp 10), type := 3, pos := "law.go:127", after := #[], guard := none }) (v := ?g20rv7) rfl (by kernel_rfl) (fun _ _ _ h => h) (by assumption) (by rfl) ?g20ry7 ?g20rr7
                case g20ry7 => intro w hSw; obtain ⟨s1, s2, s3⟩ := hSw; go_simp; try with_reducible rfl
                try simp only [Act.put, List.setIfInBounds_toArray, List.set_cons_zero, List.set_cons_succ]
                refine Go.Shr.wpAnyF_take 7 (oi := { dst := some 136, op := Go.Op.indexAddr 42 (Go.Operand.tmp 134) (Go.Operand.tmp 135), type := 0, pos := "law.go:127", after := #[{ on := 5, ground := Go.Ground.data }, { on := 6, ground := Go.Ground.data }], guard := none }) (v := ?g20rv8) rfl (by kernel_rfl) (fun _ _ _ h => h) (by assumption) (by rfl) ?g20ry8 ?g20rr8
                case g20ry8 => intro w hSw; obtain ⟨s1, s2, s3⟩ := hSw; go_simp; try with_reducible rfl
                try simp only [Act.put, List.setIfInBounds_toArray, List.set_cons_zero, List.set_cons_succ]
                refine Go.Shr.wpAnyF_take 8 (oi := { dst := some 137, op := Go.Op.fieldAddr 48 (Go.Operand.tmp 136) 2, type := 0, pos := "law.go:127", after := #[{ on := 7, ground := Go.Ground.data }], guard := none }) (v := ?g20rv9) rfl (by kernel_rfl) (fun _ _ _ h => h) (by assumption) (by rfl) ?g20ry9 ?g20rr9
                case g20ry9 => intro w hSw; obtain ⟨s1, s2, s3⟩ := hSw; go_simp; try with_reducible rfl
                try simp only [Act.put, List.setIfInBounds_toArray, List.set_cons_zero, List.set_cons_succ]
                refine Go.Shr.wpAnyF_take 9 (oi := { dst := some 138, op := Go.Op.load 3 (Go.Operand.tmp 137), type := 3, pos := "law.go:127", after := #[{ on := 8, ground := Go.Ground.data }], guard := none }) (v := ?g20rv10) rfl (by kernel_rfl) (fun _ _ _ h => h) (by assumption) (by rfl) ?g20ry10 ?g20rr10
                case g20ry10 => intro w hSw; obtain ⟨s1, s2, s3⟩ := hSw; go_simp; try with_reducible rfl
                try simp only [Act.put, List.setIfInBounds_toArray, List.set_cons_zero, List.set_cons_succ]
                refine Go.Shr.wpAnyF_take 10 (oi := { dst := some 139, op := Go.Op.binOp Go.BinOp.eql 3 (Go.Operand.tmp 133) (Go.Operand.tmp 138) 3, type := 4, pos := "law.go:127", after := #[{ on := 4, ground := Go.Ground.data }, { on := 9, ground := Go.Ground.data }], guard := none }) (v := ?g20rv11) rfl (by kernel_rfl) (fun _ _ _ h => h) (by assumption) (by rfl) ?g20ry11 ?g20rr11
                case g20ry11 => intro w hSw; obtain ⟨s1, s2, s3⟩ := hSw; go_simp; try with_reducible rfl
                try simp only [Act.put, List.setIfInBounds_toArray, List.set_cons_zero, List.set_cons_succ]
                refine Go.Shr.wpAnyF_done (by kernel_rfl) ?_
                clear hHeld s0 s1 s2 s3 s4 s5
                go_wp2_with fail
                go_roundw
                case rel => exact ⟨i + 1, rfl, by rw [HQ2.out]; go_num, by go_num, by omega, Lib.hid HBQ.out.drew.drew⟩
                case measure => simp [intOf]; omega
              · have hdb : ((di : Int) == (DD : Int)) = false := beq_eq_false_iff_ne.2 (by omega)
                have HQ2 : Hid (((C.take (i + 1)).filter fun x => x.d == DD).length = q2) := Lib.hid (by rw [HF1.out, if_neg (fun h => hd (beq_iff_eq.1 h))]; omega)
                clear hd
                refine Go.Shr.wp_region_F (fun w' => w'.cell? ⟨b11, 1, none⟩ = some (.slice (some ⟨g1, 0, none⟩) C.length (cc (k * 3 + 1))) ∧ w'.cell? ⟨g1, i, none⟩ = some (.int .i64 (di : Int)) ∧ w'.cell? ⟨gL, oL + k * 4 + 2, none⟩ = some (.int .i64 (DD : Int))) [] (by kernel_rfl) ?g21rgS (fun hHeld => ?g21rgR)
                case g21rgS => (try dsimp only); (exact ⟨s1, s3, s5⟩)
                try dsimp only at hHeld
                refine Go.Shr.wpAnyF_take 0 (oi := { dst := some 129, op := Go.Op.fieldAddr 46 (Go.Operand.tmp 11) 1, type := 0, pos := "law.go:127", after := #[], guard := none }) (v := ?g21rv1) rfl (by kernel_rfl) (fun _ _ _ h => h) (by assumption) (by rfl) ?g21ry1 ?g21rr1
                case g21ry1 => intro w hSw; obtain ⟨s1, s2, s3⟩ := hSw; go_simp; try with_reducible rfl
                try simp only [Act.put, List.setIfInBounds_toArray, List.set_cons_zero, List.set_cons_succ]
                refine Go.Shr.wpAnyF_take 1 (oi := { dst := some 130, op := Go.Op.load 22 (Go.Operand.tmp 129), type := 22, pos := "law.go:127", after := #[{ on := 0, ground := Go.Ground.data }], guard := none }) (v := ?g21rv2) rfl (by kernel_rfl) (fun _ _ _ h => h) (by assumption) (by rfl) ?g21ry2 ?g21rr2
                case g21ry2 => intro w hSw; obtain ⟨s1, s2, s3⟩ := hSw; go_simp; try with_reducible rfl
                try simp only [Act.put, List.setIfInBounds_toArray, List.set_cons_zero, List.set_cons_succ]
                refine Go.Shr.wpAnyF_take 2 (oi := { dst := some 131, op := Go.Op.move (Go.Operand.tmp 14), type := 3, pos := "law.go:127", after := #[], guard := none }) (v := ?g21rv3) rfl (by kernel_rfl) (fun _ _ _ h => h) (by assumption) (by rfl) ?g21ry3 ?g21rr3
                case g21ry3 => intro w hSw; obtain ⟨s1, s2, s3⟩ := hSw; go_simp; try with_reducible rfl
                try simp only [Act.put, List.setIfInBounds_toArray, List.set_cons_zero, List.set_cons_succ]
                refine Go.Shr.wpAnyF_take 3 (oi := { dst := some 132, op := Go.Op.indexAddr 22 (Go.Operand.tmp 130) (Go.Operand.tmp 131), type := 0, pos := "law.go:127", after := #[{ on := 1, ground := Go.Ground.data }, { on := 2, ground := Go.Ground.data }], guard := none }) (v := ?g21rv4) rfl (by kernel_rfl) (fun _ _ _ h => h) (by assumption) (by rfl) ?g21ry4 ?g21rr4
                case g21ry4 => intro w hSw; obtain ⟨s1, s2, s3⟩ := hSw; go_simp; try with_reducible rfl
                try simp only [Act.put, List.setIfInBounds_toArray, List.set_cons_zero, List.set_cons_succ]
                refine Go.Shr.wpAnyF_take 4 (oi := { dst := some 133, op := Go.Op.load 3 (Go.Operand.tmp 132), type := 3, pos := "law.go:127", after := #[{ on := 3, ground := Go.Ground.data }], guard := none }) (v := ?g21rv5) rfl (by kernel_rfl) (fun _ _ _ h => h) (by assumption) (by rfl) ?g21ry5 ?g21rr5
                case g21ry5 => intro w hSw; obtain ⟨s1, s2, s3⟩ := hSw; go_simp; try with_reducible rfl
                try simp only [Act.put, List.setIfInBounds_toArray, List.set_cons_zero, List.set_cons_succ]
                refine Go.Shr.wpAnyF_take 5 (oi := { dst := some 134, op := Go.Op.move (Go.Operand.tmp 9), type := 42, pos := "law.go:127", after := #[], guard := none }) (v := ?g21rv6) rfl (by kernel_rfl) (fun _ _ _ h => h) (by assumption) (by rfl) ?g21ry6 ?g21rr6
                case g21ry6 => intro w hSw; obtain ⟨s1, s2, s3⟩ := hSw; go_simp; try with_reducible rfl
                try simp only [Act.put, List.setIfInBounds_toArray, List.set_cons_zero, List.set_cons_succ]
                refine Go.Shr.wpAnyF_take 6 (oi := { dst := some 135, op := Go.Op.move (Go.Operand.tmp 10), type := 3, pos := "law.go:127", after := #[], guard := none }) (v := ?g21rv7) rfl (by kernel_rfl) (fun _ _ _ h => h) (by assumption) (by rfl) ?g21ry7 ?g21rr7
                case g21ry7 => intro w hSw; obtain ⟨s1, s2, s3⟩ := hSw; go_simp; try with_reducible rfl
                try simp only [Act.put, List.setIfInBounds_toArray, List.set_cons_zero, List.set_cons_succ]
                refine Go.Shr.wpAnyF_take 7 (oi := { dst := some 136, op := Go.Op.indexAddr 42 (Go.Operand.tmp 134) (Go.Operand.tmp 135), type := 0, pos := "law.go:127", after := #[{ on := 5, ground := Go.Ground.data }, { on := 6, ground := Go.Ground.data }], guard := none }) (v := ?g21rv8) rfl (by kernel_rfl) (fun _ _ _ h => h) (by assumption) (by rfl) ?g21ry8 ?g21rr8
                case g21ry8 => intro w hSw; obtain ⟨s1, s2, s3⟩ := hSw; go_simp; try with_reducible rfl
                try simp only [Act.put, List.setIfInBounds_toArray, List.set_cons_zero, List.set_cons_succ]
                refine Go.Shr.wpAnyF_take 8 (oi := { dst := some 137, op := Go.Op.fieldAddr 48 (Go.Operand.tmp 136) 2, type := 0, pos := "law.go:127", after := #[{ on := 7, ground := Go.Ground.data }], guard := none }) (v := ?g21rv9) rfl (by kernel_rfl) (fun _ _ _ h => h) (by assumption) (by rfl) ?g21ry9 ?g21rr9
                case g21ry9 => intro w hSw; obtain ⟨s1, s2, s3⟩ := hSw; go_simp; try with_reducible rfl
                try simp only [Act.put, List.setIfInBounds_toArray, List.set_cons_zero, List.set_cons_succ]
                refine Go.Shr.wpAnyF_take 9 (oi := { dst := some 138, op := Go.Op.load 3 (Go.Operand.tmp 137), type := 3, pos := "law.go:127", after := #[{ on := 8, ground := Go.Ground.data }], guard := none }) (v := ?g21rv10) rfl (by kernel_rfl) (fun _ _ _ h => h) (by assumption) (by rfl) ?g21ry10 ?g21rr10
                case g21ry10 => intro w hSw; obtain ⟨s1, s2, s3⟩ := hSw; go_simp; try with_reducible rfl
                try simp only [Act.put, List.setIfInBounds_toArray, List.set_cons_zero, List.set_cons_succ]
                refine Go.Shr.wpAnyF_take 10 (oi := { dst := some 139, op := Go.Op.binOp Go.BinOp.eql 3 (Go.Operand.tmp 133) (Go.Operand.tmp 138) 3, type := 4, pos := "law.go:127", after := #[{ on := 4, ground := Go.Ground.data }, { on := 9, ground := Go.Ground.data }], guard := none }) (v := ?g21rv11) rfl (by kernel_rfl) (fun _ _ _ h => h) (by assumption) (by rfl) ?g21ry11 ?g21rr11
                case g21ry11 => intro w hSw; obtain ⟨s1, s2, s3⟩ := hSw; go_simp; try with_reducible rfl
                try simp only [Act.put, List.setIfInBounds_toArray, List.set_cons_zero, List.set_cons_succ]
                refine Go.Shr.wpAnyF_done (by kernel_rfl) ?_
                clear hHeld s0 s1 s2 s3 s4 s5
                go_wp2_with fail
                go_roundw
                case rel => exact ⟨i + 1, rfl, by rw [HQ2.out], by go_num, by omega, Lib.hid HBQ.out.drew.drew⟩
                case measure => simp [intOf]; omega
          · obtain rfl : i = C.length := by omega
            have e12 : ((C.take C.length).filter fun x => x.r == 0).length = x.length := by rw [List.take_length]; exact HBEG.out
            have e13 : ((C.take C.length).filter fun x => x.d == DD).length = (celV C).length := by rw [List.take_length]; exact HWHO.out
            rw [e12, e13]
            clear e12 e13
            go_wp2_with fail
            go_roundw
            case rel => exact ⟨k + 1, by go_num, by omega, Lib.hid (bt HBZ.out HBQ.out)⟩
            case measure => simp [intOf]; omega
    · obtain rfl : k = L.length := by omega
      go_wp2_with fail
      go_ret
      exact ⟨rfl, bt HB5.out HB.out⟩
end Go.Proofs.Ytibhcibcfommeaa
