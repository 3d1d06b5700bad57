/-
  The walk of ShredSames.
-/
import Derived.Test.YtibhcibcfommeaaSSame14
import Derived.Test.YtibhcibcfommeaaKnown14
import Derived.Test.YtibhcibcfommeaaMkC14
import Derived.Test.YtibhcibcfommeaaWith14
import Derived.Deep.CutBlock
set_option linter.unusedSimpArgs false
namespace Go.Proofs.Ytibhcibcfommeaa
open Go.RowKit Go.Shr
theorem ints_set (z : List Int) (i : Nat) (u : Int) : ints (z.set i u) = (ints z).set i (.int .i64 u) := by simp [ints, List.map_set]
theorem set_ne {z : List Int} {i : Nat} (h : i < z.length) : ¬ z.set i (z[i] + 1) = z := fun he => by
  have h1 : (z.set i (z[i] + 1))[i]? = z[i]? := by rw [he]
  rw [List.getElem?_eq_getElem (by simpa using h), List.getElem?_eq_getElem h] at h1
  simp at h1
  omega
/-- A column that is not another one, in a box. -/
def DifQ (X : Cl) (bl : Nat) (wA wd : World) : Prop :=
  ∃ (c : Cl) (g0 g1 g2 : Option Addr) (d0 d1 d2 : Nat), Rw wd bl #[.slice g0 c.r.length d0, .slice g1 c.d.length d1, .slice g2 c.v.length d2] 46 ∧ ClAt (fun b => b < wd.heap.size) wd c g0 d0 g1 d1 g2 d2 ∧ ¬ c = X ∧ Below wA.heap.size wA wd
set_option maxHeartbeats 2000000 in
set_option maxRecDepth 100000 in
theorem law_sames14 (a0 : Option Addr) (n0 c0 : Nat) (z0 : List Int) (a1 : Option Addr) (n1 c1 : Nat) (zz : List (List Int)) (xs1 : List Value) (which at_ : Int) (w : World) (h0 : Sl (fun b => b < w.heap.size) w 1 a0 n0 c0 (ints z0)) (w0 : ∀ z ∈ z0, (Lit.int .i64 z).wf = true) (h1 : Sl (fun b => b < w.heap.size) w 1 a1 n1 c1 xs1) (h1r : IRows w zz xs1) (w1 : ∀ z ∈ zz, ∀ v ∈ z, (Lit.int .i64 v).wf = true) (_ : (Lit.int .i64 which).wf = true) (_ : (Lit.int .i64 at_).wf = true) :
    Calls Try.prog 9 #[.slice a0 n0 c0, .slice a1 n1 c1, .int .i64 which, .int .i64 at_] w fun e w' => e = .returned (.bool true) ∧ Below w.heap.size w w' := by
  obtain ⟨iv, hiv, hz0v, hz1v, hz2v⟩ := info_parts info_vl
  have H0 := Lib.hid h0; have H1 := Lib.hid h1; have HR := Lib.hid h1r; have W0 := Lib.hid w0; have W1 := Lib.hid w1
  clear h0 h1 h1r w0 w1
  go_enter Try.func9, Try.ntmps9
  go_wp2_with fail
  refine (known14 _).mono ?_
  rintro e w1 ⟨rfl, hb1⟩
  have HB1 := Lib.hid hb1; clear hb1
  go_wp2_with fail
  refine (make5 a0 n0 c0 z0 w1 (slb H0.out HB1.out) W0.out).mono ?_
  rintro e w2 ⟨a, cap, rfl, ho, hb2⟩
  have HSC := Lib.hid (Sl.mono (ok' := fun b => b < w2.heap.size) ho.sl (fun k hk _ => hk) (by decide))
  have HB2 := Lib.hid (bt HB1.out hb2)
  clear ho hb2
  have HMANY : Hid (∀ W : World, Sl (fun b => b < W.heap.size) W 4 a (makeL z0).length cap (fls (makeL z0)) → Sl (fun b => b < W.heap.size) W 1 a1 n1 c1 xs1 → IRows W zz xs1 → Calls Try.prog 15 #[.slice a (makeL z0).length cap, .slice a1 n1 c1] W fun e w' => ∃ a' cap' ys, e = .returned (.slice a' (manyT (makeSh z0) zz).length cap') ∧ Sl (fun b => W.heap.size ≤ b) w' 3 a' (manyT (makeSh z0) zz).length cap' ys ∧ RowG (fun b => W.heap.size ≤ b) w' (manyT (makeSh z0) zz) ys ∧ Below W.heap.size W w') := Lib.hid (fun W hs h1 hr => many_v (makeL z0) (makeSh z0) (make_sch z0) a cap a1 n1 c1 zz xs1 W hs h1 hr W1.out)
  have hx16 := manyT_len (makeSh z0) zz
  have HSCH := Lib.hid (make_sch z0)
  have HZ := Lib.hid (made_colsE (make_sch z0) (make_hgt z0) (many_ok14 W1.out (makeSh z0)) (many_th z0 zz) hx16)
  have HOKS := Lib.hid (many_ok14 W1.out (makeSh z0)); have HR0 := Lib.hid (makeSh_good z0).2.2.1
  have HWY := Lib.hid (make_wy z0); have HRP := Lib.hid (make_rep z0)
  have HCN : Hid (∀ (lf : Nat), (rowsC lf (makeSh z0) (manyT (makeSh z0) zz)).length ≤ (manyT (makeSh z0) zz).length * 243) := Lib.hid (fun lf => rows_cnt (make_hgt z0) _ (many_th z0 zz))
  have hl14 := (make_len z0).2
  generalize manyT (makeSh z0) zz = x at *
  generalize makeL z0 = l at *
  generalize makeSh z0 = sh at *
  have hmm := leafs_le (l := l) (m := l.length)
  have hmp := HSCH.out.leaf
  have HCOL : Hid (∀ (ar : Option Addr) (rc : Nat) (yr : List Value) (W : World), Sl (fun b => b < W.heap.size) W 4 a l.length cap (fls l) → Sl (fun b => b < W.heap.size) W 3 ar x.length rc yr → RowG (fun b => b < W.heap.size) W x yr → Calls Try.prog 16 #[.slice a l.length cap, .slice ar x.length rc] W fun e w' => Below W.heap.size W w' ∧ ∃ (B bc : Nat) (cur : Array Value) (aa : Nat → Option Addr) (cc : Nat → Nat), e = .returned (.tuple #[.slice (some ⟨bc, 0, none⟩) (leafs l l.length).length (leafs l l.length).length, .int .i64 0]) ∧ W.heap.size ≤ bc ∧ CT B w' bc (leafs l l.length).length (fun k => rowsC ((leafs l l.length).getD k 0) sh x) cur aa cc) := Lib.hid (fun ar rc yr W hs hr hg => (Cols_v HSCH.out HWY.out HRP.out x a ar cap rc yr W hs hr hg).mono (by
    rintro e w' ⟨hb, ⟨hne, _⟩ | ⟨_, h⟩⟩
    · exact absurd HZ.out hne
    · exact ⟨hb, h⟩))
  have hm0 := leafs_mem.1 (List.getElem_mem hmp)
  have hg0 : (leafs l l.length).getD 0 0 = (leafs l l.length)[0] := by simp [List.getD, hmp]
  have HLV : Hid (∀ c ∈ rowsC ((leafs l l.length).getD 0 0) sh x, c.r ≤ 1000 ∧ c.d ≤ 1000) := Lib.hid (fun c hc => by
    rw [hg0] at hc
    have h1 := (rows_ok HSCH.out HR0.out hm0.1 hm0.2 x HOKS.out).lv c hc
    have h2 := cntR_le l (Go.Shr.chain (par l) (leafs l l.length)[0]); have h3 := cntD_le l (Go.Shr.chain (par l) (leafs l l.length)[0]); have h4 := chain_len (par l) (leafs l l.length)[0]
    have h5 := hm0.1
    unfold lvR lvD at h1
    omega)
  have HCN0 := Lib.hid (HCN.out ((leafs l l.length).getD 0 0))
  clear HZ HWY HRP HOKS HR0 HSCH W0 W1 hm0 hg0 HCN H0
  go_wp2_with fail
  refine (HMANY.out w2 HSC.out (slb H1.out HB2.out) (HR.out.below HB2.out)).mono ?_
  rintro e w3 ⟨al, cl, ys, rfl, hsl, hrow, hb3⟩
  have HB3 := Lib.hid (bt HB2.out hb3); have HSC3 := Lib.hid (slb HSC.out hb3)
  have HSL := Lib.hid (hsl.mono (ok' := fun b => b < w3.heap.size) (fun k hk _ => hk) (by decide))
  have HROW := Lib.hid (RowAt.g _ _ hrow.at)
  clear hsl hrow hb3
  go_wp2_with fail
  refine (HCOL.out al cl ys w3 HSC3.out HSL.out HROW.out).mono ?_
  rintro e w4 ⟨hb4, Ba, bca, cura, aaA, cca, rfl, hbca, hcta⟩
  have HB4 := Lib.hid (bt HB3.out hb4); have HSC4 := Lib.hid (slb HSC3.out hb4); have HA := Lib.hid hcta
  clear hb4 hcta HSL HROW HSC3 HB3
  go_wp2_with fail
  refine (HMANY.out w4 HSC4.out (slb H1.out HB4.out) (HR.out.below HB4.out)).mono ?_
  rintro e w5 ⟨al2, cl2, ys2, rfl, hsl, hrow, hb5⟩
  have HB5 := Lib.hid (bt HB4.out hb5); have HSC5 := Lib.hid (slb HSC4.out hb5); have HB45 := Lib.hid hb5
  have HSL := Lib.hid (hsl.mono (ok' := fun b => b < w5.heap.size) (fun k hk _ => hk) (by decide))
  have HROW := Lib.hid (RowAt.g _ _ hrow.at)
  clear hsl hrow hb5 HMANY
  go_wp2_with fail
  refine (HCOL.out al2 cl2 ys2 w5 HSC5.out HSL.out HROW.out).mono ?_
  rintro e w6 ⟨hb6, Bb, bcb, curb, aaB, ccb, rfl, hbcb, hctb⟩
  have HB46 := Lib.hid (bt HB45.out hb6)
  have HBt := Lib.hid hctb
  have HA6 := Lib.hid (HA.out.below HB46.out)
  have hbcbB := hctb.lt
  have hs45 := HB45.out.size
  clear hb6 hctb HSL HROW HSC5 HCOL HB5 HSC4 HR H1
  have hCl : (rowsC ((leafs l l.length).getD 0 0) sh x).length ≤ 4000 := by have := HCN0.out; omega
  clear HCN0
  generalize hC : (fun k => rowsC ((leafs l l.length).getD k 0) sh x) = C at *
  have hC0 : rowsC ((leafs l l.length).getD 0 0) sh x = C 0 := by rw [← hC]
  rw [hC0] at HLV hCl
  clear hC hC0
  generalize (leafs l l.length).length = m at *
  have ea0 := HA6.out.cell0 hmp; have ea1 := HA6.out.cell1 hmp; have ea2 := HA6.out.cell2 hmp
  have eb0 := HBt.out.cell0 hmp; have eb1 := HBt.out.cell1 hmp; have eb2 := HBt.out.cell2 hmp
  simp only [Nat.zero_mul, Nat.zero_add] at ea0 ea1 ea2 eb0 eb1 eb2
  have HE := Lib.hid (And.intro ea0 (And.intro ea1 (And.intro ea2 (And.intro eb0 (And.intro eb1 eb2)))))
  have hclA := HA6.out.clAt hmp; have hclB := HBt.out.clAt hmp
  simp only [Nat.zero_mul, Nat.zero_add] at hclA hclB
  have HCA := Lib.hid hclA; have HCB := Lib.hid hclB
  have hmb : ((m : Int) == 0) = false := beq_eq_false_iff_ne.2 (by omega)
  have hvl := celV_le (C 0)
  have hxr : (clC (C 0)).r.length = (C 0).length := by simp [clC]
  have hxd : (clC (C 0)).d.length = (C 0).length := by simp [clC]
  have hxv : (clC (C 0)).v.length = (celV (C 0)).length := rfl
  have HSS := Lib.hid (ssame_v (clC (C 0)) (clC (C 0)) _ _ _ _ _ _ _ _ _ _ _ _ w6.drew (hclA.below (b0 w6).drew) (hclB.below (b0 w6).drew))
  have hss := HSS.out
  rw [hxr, hxd, hxv] at hss
  have HS1 := Lib.hid hss
  clear hss HSS hclA hclB hxr hxd hxv
  go_upto_region 6 with fail
  clear ea0 ea1 ea2 eb0 eb1 eb2
  refine wp_region_F (fun w' => w'.cell? ⟨bca, 0, none⟩ = some (.slice (aaA 0) (C 0).length (cca 0)) ∧ w'.cell? ⟨bca, 1, none⟩ = some (.slice (aaA 1) (C 0).length (cca 1)) ∧ w'.cell? ⟨bca, 2, none⟩ = some (.slice (aaA 2) (celV (C 0)).length (cca 2)) ∧ w'.cell? ⟨bcb, 0, none⟩ = some (.slice (aaB 0) (C 0).length (ccb 0)) ∧ w'.cell? ⟨bcb, 1, none⟩ = some (.slice (aaB 1) (C 0).length (ccb 1)) ∧ w'.cell? ⟨bcb, 2, none⟩ = some (.slice (aaB 2) (celV (C 0)).length (ccb 2))) [] (by kernel_rfl) ?g11rgS (fun hHeld => ?g11rgR)
  case g11rgS => (try dsimp only); (first | exact HE.out | exact ⟨cb hb14 hHeld.1, cb hb14 hHeld.2.1, cb hb14 hHeld.2.2.1, cb hb14 hHeld.2.2.2.1, cb hb14 hHeld.2.2.2.2.1, cb hb14 hHeld.2.2.2.2.2⟩)
  try dsimp only at hHeld
  refine wpAnyF_take 0 (oi := ⟨some 36, .move (.tmp 11), 35, "more.go:92", #[], none⟩) (v := ?g11rv1) rfl (by kernel_rfl) (fun _ _ _ h => h) (by assumption) (by rfl) ?g11ry1 ?g11rr1
  case g11ry1 => intro w hSw; obtain ⟨s0, s1, s2, s3, s4, s5⟩ := hSw; go_simp; try with_reducible rfl
  try simp only [Act.put, List.setIfInBounds_toArray, List.set_cons_zero, List.set_cons_succ]
  refine wpAnyF_take 1 (oi := ⟨some 37, .binOp .neq 35 (.tmp 36) (.const (.int .i64 0)) 35, 4, "more.go:92", #[⟨0, .data⟩], none⟩) (v := ?g11rv2) rfl (by kernel_rfl) (fun _ _ _ h => h) (by assumption) (by rfl) ?g11ry2 ?g11rr2
  case g11ry2 => intro w hSw; obtain ⟨s0, s1, s2, s3, s4, s5⟩ := hSw; go_simp; try with_reducible rfl
  try simp only [Act.put, List.setIfInBounds_toArray, List.set_cons_zero, List.set_cons_succ]
  refine wpAnyF_take 2 (oi := ⟨some 38, .move (.tmp 37), 4, "more.go:92", #[⟨1, .data⟩], none⟩) (v := ?g11rv3) rfl (by kernel_rfl) (fun _ _ _ h => h) (by assumption) (by rfl) ?g11ry3 ?g11rr3
  case g11ry3 => intro w hSw; obtain ⟨s0, s1, s2, s3, s4, s5⟩ := hSw; go_simp; try with_reducible rfl
  try simp only [Act.put, List.setIfInBounds_toArray, List.set_cons_zero, List.set_cons_succ]
  first
    | refine wpAnyF_skip 3 (oi := ⟨some 39, .move (.tmp 10), 34, "more.go:92", #[⟨2, .guard⟩], some (2, false)⟩) rfl (by kernel_rfl) (fun _ _ _ h => h) (by assumption) (by rfl) ?_
    | (refine wpAnyF_take 3 (oi := ⟨some 39, .move (.tmp 10), 34, "more.go:92", #[⟨2, .guard⟩], some (2, false)⟩) (v := ?g11rv4) rfl (by kernel_rfl) (fun _ _ _ h => h) (by assumption) (by rfl) ?g11ry4 ?g11rr4
       case g11ry4 => intro w hSw; obtain ⟨s0, s1, s2, s3, s4, s5⟩ := hSw; go_simp; try with_reducible rfl)
  try simp only [Act.put, List.setIfInBounds_toArray, List.set_cons_zero, List.set_cons_succ]
  first
    | refine wpAnyF_skip 4 (oi := ⟨some 40, .call { callee := .builtin .len, args := #[.tmp 39], argTypes := #[34] }, 3, "more.go:92", #[⟨3, .data⟩, ⟨2, .guard⟩], some (2, false)⟩) rfl (by kernel_rfl) (fun _ _ _ h => h) (by assumption) (by rfl) ?_
    | (refine wpAnyF_take 4 (oi := ⟨some 40, .call { callee := .builtin .len, args := #[.tmp 39], argTypes := #[34] }, 3, "more.go:92", #[⟨3, .data⟩, ⟨2, .guard⟩], some (2, false)⟩) (v := ?g11rv5) rfl (by kernel_rfl) (fun _ _ _ h => h) (by assumption) (by rfl) ?g11ry5 ?g11rr5
       case g11ry5 => intro w hSw; obtain ⟨s0, s1, s2, s3, s4, s5⟩ := hSw; go_simp; try with_reducible rfl)
  try simp only [Act.put, List.setIfInBounds_toArray, List.set_cons_zero, List.set_cons_succ]
  first
    | refine wpAnyF_skip 5 (oi := ⟨some 41, .binOp .eql 3 (.tmp 40) (.const (.int .i64 0)) 3, 4, "more.go:92", #[⟨4, .data⟩, ⟨2, .guard⟩], some (2, false)⟩) rfl (by kernel_rfl) (fun _ _ _ h => h) (by assumption) (by rfl) ?_
    | (refine wpAnyF_take 5 (oi := ⟨some 41, .binOp .eql 3 (.tmp 40) (.const (.int .i64 0)) 3, 4, "more.go:92", #[⟨4, .data⟩, ⟨2, .guard⟩], some (2, false)⟩) (v := ?g11rv6) rfl (by kernel_rfl) (fun _ _ _ h => h) (by assumption) (by rfl) ?g11ry6 ?g11rr6
       case g11ry6 => intro w hSw; obtain ⟨s0, s1, s2, s3, s4, s5⟩ := hSw; go_simp; try with_reducible rfl)
  try simp only [Act.put, List.setIfInBounds_toArray, List.set_cons_zero, List.set_cons_succ]
  refine wpAnyF_take 6 (oi := ⟨some 42, .pick (.tmp 38) (.const (.bool true)) (.tmp 41), 4, "more.go:92", #[⟨2, .data⟩, ⟨5, .data⟩], none⟩) (v := ?g11rv7) rfl (by kernel_rfl) (fun _ _ _ h => h) (by assumption) (by rfl) ?g11ry7 ?g11rr7
  case g11ry7 => intro w hSw; obtain ⟨s0, s1, s2, s3, s4, s5⟩ := hSw; go_simp; try with_reducible rfl
  try simp only [Act.put, List.setIfInBounds_toArray, List.set_cons_zero, List.set_cons_succ]
  refine wpAnyF_take 7 (oi := ⟨some 43, .move (.tmp 42), 4, "more.go:92", #[⟨6, .data⟩, ⟨2, .chain⟩], none⟩) (v := ?g11rv8) rfl (by kernel_rfl) (fun _ _ _ h => h) (by assumption) (by rfl) ?g11ry8 ?g11rr8
  case g11ry8 => intro w hSw; obtain ⟨s0, s1, s2, s3, s4, s5⟩ := hSw; go_simp; try with_reducible rfl
  try simp only [Act.put, List.setIfInBounds_toArray, List.set_cons_zero, List.set_cons_succ]
  first
    | refine wpAnyF_skip 8 (oi := ⟨some 44, .move (.tmp 10), 34, "more.go:92", #[⟨7, .guard⟩], some (7, false)⟩) rfl (by kernel_rfl) (fun _ _ _ h => h) (by assumption) (by rfl) ?_
    | (refine wpAnyF_take 8 (oi := ⟨some 44, .move (.tmp 10), 34, "more.go:92", #[⟨7, .guard⟩], some (7, false)⟩) (v := ?g11rv9) rfl (by kernel_rfl) (fun _ _ _ h => h) (by assumption) (by rfl) ?g11ry9 ?g11rr9
       case g11ry9 => intro w hSw; obtain ⟨s0, s1, s2, s3, s4, s5⟩ := hSw; go_simp; try with_reducible rfl)
  try simp only [Act.put, List.setIfInBounds_toArray, List.set_cons_zero, List.set_cons_succ]
  first
    | refine wpAnyF_skip 9 (oi := ⟨some 45, .indexAddr 34 (.tmp 44) (.const (.int .i64 0)), 0, "more.go:92", #[⟨8, .data⟩, ⟨7, .guard⟩], some (7, false)⟩) rfl (by kernel_rfl) (fun _ _ _ h => h) (by assumption) (by rfl) ?_
    | (refine wpAnyF_take 9 (oi := ⟨some 45, .indexAddr 34 (.tmp 44) (.const (.int .i64 0)), 0, "more.go:92", #[⟨8, .data⟩, ⟨7, .guard⟩], some (7, false)⟩) (v := ?g11rv10) rfl (by kernel_rfl) (fun _ _ _ h => h) (by assumption) (by rfl) ?g11ry10 ?g11rr10
       case g11ry10 => intro w hSw; obtain ⟨s0, s1, s2, s3, s4, s5⟩ := hSw; go_simp; try with_reducible rfl)
  try simp only [Act.put, List.setIfInBounds_toArray, List.set_cons_zero, List.set_cons_succ]
  first
    | refine wpAnyF_skip 10 (oi := ⟨some 46, .load 46 (.tmp 45), 46, "more.go:92", #[⟨9, .data⟩, ⟨7, .guard⟩], some (7, false)⟩) rfl (by kernel_rfl) (fun _ _ _ h => h) (by assumption) (by rfl) ?_
    | (refine wpAnyF_take 10 (oi := ⟨some 46, .load 46 (.tmp 45), 46, "more.go:92", #[⟨9, .data⟩, ⟨7, .guard⟩], some (7, false)⟩) (v := ?g11rv11) rfl (by kernel_rfl) (fun _ _ _ h => h) (by assumption) (by rfl) ?g11ry11 ?g11rr11
       case g11ry11 => intro w hSw; obtain ⟨s0, s1, s2, s3, s4, s5⟩ := hSw; go_simp; try with_reducible rfl)
  try simp only [Act.put, List.setIfInBounds_toArray, List.set_cons_zero, List.set_cons_succ]
  first
    | refine wpAnyF_skip 11 (oi := ⟨some 47, .move (.tmp 12), 34, "more.go:92", #[⟨7, .guard⟩], some (7, false)⟩) rfl (by kernel_rfl) (fun _ _ _ h => h) (by assumption) (by rfl) ?_
    | (refine wpAnyF_take 11 (oi := ⟨some 47, .move (.tmp 12), 34, "more.go:92", #[⟨7, .guard⟩], some (7, false)⟩) (v := ?g11rv12) rfl (by kernel_rfl) (fun _ _ _ h => h) (by assumption) (by rfl) ?g11ry12 ?g11rr12
       case g11ry12 => intro w hSw; obtain ⟨s0, s1, s2, s3, s4, s5⟩ := hSw; go_simp; try with_reducible rfl)
  try simp only [Act.put, List.setIfInBounds_toArray, List.set_cons_zero, List.set_cons_succ]
  first
    | refine wpAnyF_skip 12 (oi := ⟨some 48, .indexAddr 34 (.tmp 47) (.const (.int .i64 0)), 0, "more.go:92", #[⟨11, .data⟩, ⟨7, .guard⟩], some (7, false)⟩) rfl (by kernel_rfl) (fun _ _ _ h => h) (by assumption) (by rfl) ?_
    | (refine wpAnyF_take 12 (oi := ⟨some 48, .indexAddr 34 (.tmp 47) (.const (.int .i64 0)), 0, "more.go:92", #[⟨11, .data⟩, ⟨7, .guard⟩], some (7, false)⟩) (v := ?g11rv13) rfl (by kernel_rfl) (fun _ _ _ h => h) (by assumption) (by rfl) ?g11ry13 ?g11rr13
       case g11ry13 => intro w hSw; obtain ⟨s0, s1, s2, s3, s4, s5⟩ := hSw; go_simp; try with_reducible rfl)
  try simp only [Act.put, List.setIfInBounds_toArray, List.set_cons_zero, List.set_cons_succ]
  first
    | refine wpAnyF_skip 13 (oi := ⟨some 49, .load 46 (.tmp 48), 46, "more.go:92", #[⟨12, .data⟩, ⟨7, .guard⟩], some (7, false)⟩) rfl (by kernel_rfl) (fun _ _ _ h => h) (by assumption) (by rfl) ?_
    | (refine wpAnyF_take 13 (oi := ⟨some 49, .load 46 (.tmp 48), 46, "more.go:92", #[⟨12, .data⟩, ⟨7, .guard⟩], some (7, false)⟩) (v := ?g11rv14) rfl (by kernel_rfl) (fun _ _ _ h => h) (by assumption) (by rfl) ?g11ry14 ?g11rr14
       case g11ry14 => intro w hSw; obtain ⟨s0, s1, s2, s3, s4, s5⟩ := hSw; go_simp; try with_reducible rfl)
  try simp only [Act.put, List.setIfInBounds_toArray, List.set_cons_zero, List.set_cons_succ]
  refine wpAnyF_ready [14] (by kernel_rfl) (by simp) ?_
  refine AllReadyF.cons 14 (o := ⟨some 50, .call { callee := .value (.func 23), args := #[.tmp 46, .tmp 49], argTypes := #[46, 46] }, 4, "more.go:92", #[⟨10, .data⟩, ⟨13, .data⟩, ⟨7, .chain⟩, ⟨7, .guard⟩], some (7, false)⟩) rfl (fun K hK => ?g11ro15) ?g11rm15
  case g11rm15 => exact AllReadyF.nil
  go_simp; refine HS1.out.mono ?_; rintro e w7 ⟨t, rfl, ht, hb14⟩; (obtain rfl : t = true := ht.2 (by trivial)); dsimp only
  refine hK.out _ _ ?g11rs15 (fun hHeld => ?g11rt15)
  case g11rs15 => (try dsimp only); (first | exact HE.out | exact ⟨cb hb14 hHeld.1, cb hb14 hHeld.2.1, cb hb14 hHeld.2.2.1, cb hb14 hHeld.2.2.2.1, cb hb14 hHeld.2.2.2.2.1, cb hb14 hHeld.2.2.2.2.2⟩)
  try dsimp only at hHeld
  clear hK K
  try simp only [Act.put, List.setIfInBounds_toArray, List.set_cons_zero, List.set_cons_succ]
  first
    | refine wpAnyF_skip 15 (oi := ⟨some 51, .unOp .not 4 (.tmp 50), 4, "more.go:92", #[⟨14, .data⟩, ⟨7, .guard⟩], some (7, false)⟩) rfl (by kernel_rfl) (fun _ _ _ h => h) (by assumption) (by rfl) ?_
    | (refine wpAnyF_take 15 (oi := ⟨some 51, .unOp .not 4 (.tmp 50), 4, "more.go:92", #[⟨14, .data⟩, ⟨7, .guard⟩], some (7, false)⟩) (v := ?g11rv16) rfl (by kernel_rfl) (fun _ _ _ h => h) (by assumption) (by rfl) ?g11ry16 ?g11rr16
       case g11ry16 => intro w hSw; obtain ⟨s0, s1, s2, s3, s4, s5⟩ := hSw; go_simp; try with_reducible rfl)
  try simp only [Act.put, List.setIfInBounds_toArray, List.set_cons_zero, List.set_cons_succ]
  refine wpAnyF_take 16 (oi := ⟨some 52, .pick (.tmp 43) (.const (.bool true)) (.tmp 51), 4, "more.go:92", #[⟨7, .data⟩, ⟨15, .data⟩], none⟩) (v := ?g11rv17) rfl (by kernel_rfl) (fun _ _ _ h => h) (by assumption) (by rfl) ?g11ry17 ?g11rr17
  case g11ry17 => intro w hSw; obtain ⟨s0, s1, s2, s3, s4, s5⟩ := hSw; go_simp; try with_reducible rfl
  try simp only [Act.put, List.setIfInBounds_toArray, List.set_cons_zero, List.set_cons_succ]
  refine wpAnyF_done (by kernel_rfl) ?_
  have hb67 : Below w6.heap.size w6 w7 := bt (b0 w6).drew hb14
  obtain ⟨_, _, _, eb0, eb1, eb2⟩ := hHeld
  have HB7 := Lib.hid (bt HB46.out hb67)
  have HBt7 := Lib.hid (HBt.out.below hb67)
  have HE7 := Lib.hid (And.intro (cb hb67 HE.out.1) (And.intro (cb hb67 HE.out.2.1) (cb hb67 HE.out.2.2.1)))
  have HCA7 := Lib.hid (HCA.out.below hb67)
  clear hb14 hb67 ht hmb HS1 HE HCA HCB HA6 HBt
  go_upto_region 9 with fail
  refine gen_wz (fun w8 hw8 => ?_)
  have hb8 : Below w7.heap.size w7 w8 := by rw [hw8]; first | exact ba (b0 w7) _ | exact bset3 (ba (b0 w7) _) (Nat.le_refl _)
  have r8 : Rw w8 w7.heap.size #[.slice (aaB 0) (C 0).length (ccb 0), .slice (aaB 1) (C 0).length (ccb 1), .slice (aaB 2) (celV (C 0)).length (ccb 2)] 46 := by rw [hw8]; first | exact Rw.new w7 _ _ | exact Rw.set3 (Rw.new w7 _ _)
  clear hw8 eb0 eb1 eb2
  obtain ⟨bl, hbl⟩ : ∃ b, b = w7.heap.size := ⟨_, rfl⟩
  rw [← hbl] at r8 ⊢
  have hs7 := HB7.out.size
  have hblg : w4.heap.size ≤ bl := by omega
  have HB8 := Lib.hid (bt HB7.out hb8); have HBt8 := Lib.hid (HBt7.out.below hb8); have HR8 := Lib.hid r8
  have HCA8 := Lib.hid (HCA7.out.below hb8)
  have HE8 := Lib.hid (And.intro (cb hb8 HE7.out.1) (And.intro (cb hb8 HE7.out.2.1) (cb hb8 HE7.out.2.2)))
  have HTB : Hid (∀ j g, j < m * 3 → blk (aaB j) g → g < bl) := Lib.hid (fun j g hj hg => by rw [hbl]; exact (HBt7.out.ow.lt j g hj hg).1)
  have hB4 : w4.heap.size ≤ Bb := by omega
  have k0 : w8.cell? ⟨bl, 0, none⟩ = some (.slice (aaB 0) (C 0).length (ccb 0)) := r8.cell 0
  clear hb8 r8 HB7 HBt7 HCA7 HE7 hbl
  by_cases hc0 : (C 0).length = 0
  · have hcb : (((C 0).length : Int) == 0) = true := beq_iff_eq.2 (by omega)
    have HBW := Lib.hid (bt HB4.out HB8.out)
    clear hc0
    go_wp2_with fail
    go_ret
    exact ⟨rfl, HBW.out⟩
  have hcb : (((C 0).length : Int) == 0) = false := beq_eq_false_iff_ne.2 (by omega)
  have hcp : 0 < (C 0).length := by omega
  clear hc0
  go_wp2_with fail
  refine (within_14 at_ ((C 0).length : Int) w8 (by omega) (by omega)).mono ?_
  rintro e w9 ⟨rfl, rfl⟩
  obtain ⟨i, hi⟩ : ∃ i : Nat, at_ % ((C 0).length : Int) = (i : Int) := ⟨(at_ % ((C 0).length : Int)).toNat, (Int.toNat_of_nonneg (Int.emod_nonneg _ (by omega))).symm⟩
  have hil : i < (C 0).length := by have := Int.emod_lt_of_pos at_ (show (0 : Int) < ((C 0).length : Int) by omega); omega
  rw [hi]
  clear hi hcb
  go_wp2_with fail
  refine (within_14 which 4 w8 (by decide) (by decide)).mono ?_
  rintro e w9 ⟨rfl, rfl⟩
  obtain ⟨q, hq⟩ : ∃ q : Nat, which % 4 = (q : Int) := ⟨(which % 4).toNat, by omega⟩
  have hq4 : q < 4 := by omega
  rw [hq]
  clear hq k0
  go_upto_block 0 with fail
  go_cut [14] from 66 to 104 (fun v wd => v = .pointer (some ⟨bl, 0, none⟩) ∧ Hid (DifQ (clC (C 0)) bl w4 wd))
  case first =>
    have o0 := OW.own0 HBt8.out.ow hmp; have o1 := OW.own1 HBt8.out.ow hmp; have o2 := OW.own2 HBt8.out.ow hmp
    simp only [Nat.zero_mul, Nat.zero_add] at o0 o1 o2
    have hxr : (clC (C 0)).r.length = (C 0).length := by simp [clC]
    have hxd : (clC (C 0)).d.length = (C 0).length := by simp [clC]
    have HO0 := Lib.hid o0; have HO1 := Lib.hid o1; have HO2 := Lib.hid o2
    have HCB8 := HBt8.out.clAt hmp
    simp only [Nat.zero_mul, Nat.zero_add] at HCB8
    have HCB9 := Lib.hid HCB8
    clear HCB8
    have k0 : w8.cell? ⟨bl, 0, none⟩ = some (.slice (aaB 0) (C 0).length (ccb 0)) := HR8.out.cell 0
    have k1 : w8.cell? ⟨bl, 1, none⟩ = some (.slice (aaB 1) (C 0).length (ccb 1)) := HR8.out.cell 1
    have k2 : w8.cell? ⟨bl, 2, none⟩ = some (.slice (aaB 2) (celV (C 0)).length (ccb 2)) := HR8.out.cell 2
    have hq : q = 0 ∨ q = 1 ∨ q = 2 ∨ q = 3 := by omega
    rcases hq with rfl | rfl | rfl | rfl
    · obtain ⟨g0, hg0, hgB, hgl, hgc, hgf⟩ := o0.pos hcp
      have hlv := HLV.out _ (List.getElem_mem hil)
      have v0 := hgc i (.int .i64 ((C 0)[i].r : Int)) (by simp [celR, hil])
      rw [hg0] at k0
      have hst := o0.stored hg0 i (.int .i64 (((C 0)[i].r : Int) + 1))
      have hgne : bl ≠ g0 := fun he => by have := HTB.out 0 g0 (by omega) (by rw [hg0]; exact ⟨_, _, rfl⟩); omega
      have hch := (Chg.refl (fun b => b = g0) w8).setCell (p := ⟨g0, i, none⟩) (.inr rfl) (.int .i64 (((C 0)[i].r : Int) + 1))
      have hD : DifQ (clC (C 0)) bl w4 (w8.setCell ⟨g0, i, none⟩ (.int .i64 (((C 0)[i].r : Int) + 1))) := by
        refine ⟨⟨(clC (C 0)).r.set i ((clC (C 0)).r[i]'(by rw [hxr]; exact hil) + 1), (clC (C 0)).d, (clC (C 0)).v⟩, aaB 0, aaB 1, aaB 2, ccb 0, ccb 1, ccb 2, ?_, ⟨?_, ?_, ?_⟩, fun he => set_ne (by rw [hxr]; exact hil) (congrArg Cl.r he), HB8.out.setCell (by show w4.heap.size ≤ g0; omega) _⟩
        · have := HR8.out.chg hch (fun he => hgne he)
          simpa [clC] using this
        · have h1 := hst.sl.mono (ok' := fun b => b < (w8.setCell ⟨g0, i, none⟩ (.int .i64 (((C 0)[i].r : Int) + 1))).heap.size) (fun b hb _ => hb) (by decide)
          have e1 : ints ((clC (C 0)).r.set i ((clC (C 0)).r[i]'(by rw [hxr]; exact hil) + 1)) = (celR (C 0)).set i (.int .i64 (((C 0)[i].r : Int) + 1)) := by rw [ints_set, clC_r]; simp [clC]
          have e2 : ((clC (C 0)).r.set i ((clC (C 0)).r[i]'(by rw [hxr]; exact hil) + 1)).length = (C 0).length := by simp [clC]
          dsimp only
          rw [e1, e2]; exact h1
        · have h1 := (o1.chg hch (fun g hg he => HBt8.out.ow.dis 0 1 g (by omega) (by omega) (by decide) (by have he' : g = g0 := he; rw [hg0]; exact ⟨_, _, by rw [he']⟩) hg)).sl.mono (ok' := fun b => b < (w8.setCell ⟨g0, i, none⟩ (.int .i64 (((C 0)[i].r : Int) + 1))).heap.size) (fun b hb _ => hb) (by decide)
          dsimp only
          rw [clC_d, hxd]; exact h1
        · exact (o2.chg hch (fun g hg he => HBt8.out.ow.dis 0 2 g (by omega) (by omega) (by decide) (by have he' : g = g0 := he; rw [hg0]; exact ⟨_, _, by rw [he']⟩) hg)).sl.mono (ok' := fun b => b < (w8.setCell ⟨g0, i, none⟩ (.int .i64 (((C 0)[i].r : Int) + 1))).heap.size) (fun b hb _ => hb) (by decide)
      have HD := Lib.hid hD
      clear hst hch hD o0 o1 o2 hgc k1 k2 hxr hxd
      generalize (C 0)[i].r = zr at *
      have hzr : zr ≤ 1000 := hlv.1
      clear hlv
      go_wp2_with fail
      clear k0 v0 hgf
      go_meet
      case rel => exact ⟨rfl, HD⟩
    · obtain ⟨g0, hg0, hgB, hgl, hgc, hgf⟩ := o1.pos hcp
      have hlv := HLV.out _ (List.getElem_mem hil)
      have v0 := hgc i (.int .i64 ((C 0)[i].d : Int)) (by simp [celD, hil])
      rw [hg0] at k1
      have hst := o1.stored hg0 i (.int .i64 (((C 0)[i].d : Int) + 1))
      have hgne : bl ≠ g0 := fun he => by have := HTB.out 1 g0 (by omega) (by rw [hg0]; exact ⟨_, _, rfl⟩); omega
      have hch := (Chg.refl (fun b => b = g0) w8).setCell (p := ⟨g0, i, none⟩) (.inr rfl) (.int .i64 (((C 0)[i].d : Int) + 1))
      have hD : DifQ (clC (C 0)) bl w4 (w8.setCell ⟨g0, i, none⟩ (.int .i64 (((C 0)[i].d : Int) + 1))) := by
        refine ⟨⟨(clC (C 0)).r, (clC (C 0)).d.set i ((clC (C 0)).d[i]'(by rw [hxd]; exact hil) + 1), (clC (C 0)).v⟩, aaB 0, aaB 1, aaB 2, ccb 0, ccb 1, ccb 2, ?_, ⟨?_, ?_, ?_⟩, fun he => set_ne (by rw [hxd]; exact hil) (congrArg Cl.d he), HB8.out.setCell (by show w4.heap.size ≤ g0; omega) _⟩
        · have := HR8.out.chg hch (fun he => hgne he)
          simpa [clC] using this
        · have h1 := (o0.chg hch (fun g hg he => HBt8.out.ow.dis 1 0 g (by omega) (by omega) (by decide) (by have he' : g = g0 := he; rw [hg0]; exact ⟨_, _, by rw [he']⟩) hg)).sl.mono (ok' := fun b => b < (w8.setCell ⟨g0, i, none⟩ (.int .i64 (((C 0)[i].d : Int) + 1))).heap.size) (fun b hb _ => hb) (by decide)
          dsimp only
          rw [clC_r, hxr]; exact h1
        · have h1 := hst.sl.mono (ok' := fun b => b < (w8.setCell ⟨g0, i, none⟩ (.int .i64 (((C 0)[i].d : Int) + 1))).heap.size) (fun b hb _ => hb) (by decide)
          have e1 : ints ((clC (C 0)).d.set i ((clC (C 0)).d[i]'(by rw [hxd]; exact hil) + 1)) = (celD (C 0)).set i (.int .i64 (((C 0)[i].d : Int) + 1)) := by rw [ints_set, clC_d]; simp [clC]
          have e2 : ((clC (C 0)).d.set i ((clC (C 0)).d[i]'(by rw [hxd]; exact hil) + 1)).length = (C 0).length := by simp [clC]
          dsimp only
          rw [e1, e2]; exact h1
        · exact (o2.chg hch (fun g hg he => HBt8.out.ow.dis 1 2 g (by omega) (by omega) (by decide) (by have he' : g = g0 := he; rw [hg0]; exact ⟨_, _, by rw [he']⟩) hg)).sl.mono (ok' := fun b => b < (w8.setCell ⟨g0, i, none⟩ (.int .i64 (((C 0)[i].d : Int) + 1))).heap.size) (fun b hb _ => hb) (by decide)
      have HD := Lib.hid hD
      clear hst hch hD o0 o1 o2 hgc k0 k2 hxr hxd
      generalize (C 0)[i].d = zr at *
      have hzr : zr ≤ 1000 := hlv.2
      clear hlv
      go_wp2_with fail
      clear k1 v0 hgf
      go_meet
      case rel => exact ⟨rfl, HD⟩
    · clear o0 o1 o2 k0 k1
      have tok1 : True := trivial
      go_wp2_with (first
        | (at_builtin; have _t := tok1; clear tok1; clear _t; refine wpList_append (B := 0) rfl _ _ _ _ rfl iv (.agg #[.int .i64 0, .string ByteArray.empty]) 24 Try.underlying44 hiv hz0v hz1v hz2v rfl rfl ((HO2.out.mono (Nat.zero_le _)).alloc _) _ rfl _ _ (src_built (e' := 54) Try.underlying44 w8 #[.int .i64 0, .string ByteArray.empty] 54 1 2 rfl (by simp [Value.oneCell'])) (by simp only [maxLen]; omega) (by omega) (by first | omega | (simp; omega) | simp) ?_; intro a5 cap5 w5' ho5 hc5 hn5); (have rl5 := (HR8.out.alloc (.cells #[.int .i64 0, .string ByteArray.empty] 54)).chg hc5 (fun h => by have := HTB.out 2 _ (by omega) h.1; omega)); (have y2 := rl5.cell 2); (have qf := rl5.frozen); (have ql := rl5.lt); (simp only [List.getElem?_toArray, List.getElem?_cons_zero, List.getElem?_cons_succ] at y2)
        | fail)
      have hbA : Below w8.heap.size w8 (w8.alloc (.cells #[.int .i64 0, .string ByteArray.empty] 54)) := ba (b0 w8) _
      have hno : ∀ j, j < m * 3 → j ≠ 2 → ∀ g, blk (aaB j) g → ¬ (blk (aaB 2) g ∧ 0 ≤ g ∧ 0 < ccb 2) := fun j hj hj2 g hg h => HBt8.out.ow.dis j 2 g hj (by omega) hj2 hg h.1
      have hD : DifQ (clC (C 0)) bl w4 (w5'.setCell ⟨bl, 2, none⟩ (.slice a5 ((celV (C 0)).length + 1) cap5)) := by
        have hcl := (Chg.refl (fun b => b = bl) w5').setCell (p := ⟨bl, 2, none⟩) (.inr rfl) (.slice a5 ((celV (C 0)).length + 1) cap5)
        have hnl : ∀ g, g < bl → ¬ (fun b => b = bl) g := fun g hg he => by have he' : g = bl := he; omega
        refine ⟨⟨(clC (C 0)).r, (clC (C 0)).d, (clC (C 0)).v ++ [⟨0, ByteArray.empty⟩]⟩, aaB 0, aaB 1, a5, ccb 0, ccb 1, cap5, ?_, ⟨?_, ?_, ?_⟩, fun he => ?_, (Chg.bt (bt HB8.out hbA) hc5 (fun g hg h => ?_)).setCell (by exact hblg) _⟩
        · have := rl5.set 2 (.slice a5 ((celV (C 0)).length + 1) cap5)
          simpa [clC] using this
        · have h1 := (((HO0.out.below hbA).chg hc5 (fun g hg => hno 0 (by omega) (by decide) g hg)).chg hcl (fun g hg => hnl g (HTB.out 0 g (by omega) hg))).sl.mono (ok' := fun b => b < (w5'.setCell ⟨bl, 2, none⟩ (.slice a5 ((celV (C 0)).length + 1) cap5)).heap.size) (fun b hb _ => hb) (by decide)
          dsimp only
          rw [clC_r, hxr]; exact h1
        · have h1 := (((HO1.out.below hbA).chg hc5 (fun g hg => hno 1 (by omega) (by decide) g hg)).chg hcl (fun g hg => hnl g (HTB.out 1 g (by omega) hg))).sl.mono (ok' := fun b => b < (w5'.setCell ⟨bl, 2, none⟩ (.slice a5 ((celV (C 0)).length + 1) cap5)).heap.size) (fun b hb _ => hb) (by decide)
          dsimp only
          rw [clC_d, hxd]; exact h1
        · have h1 := (ho5.chg hcl (fun g hg => by
            rcases hn5 g hg with h | h
            · exact hnl g (HTB.out 2 g (by omega) h)
            · intro he
              have he' : g = bl := he
              have h2 : w8.heap.size ≤ g := Nat.le_trans hbA.size h
              have h3 := HR8.out.lt
              omega)).sl.mono (ok' := fun b => b < (w5'.setCell ⟨bl, 2, none⟩ (.slice a5 ((celV (C 0)).length + 1) cap5)).heap.size) (fun b hb _ => hb) (by decide)
          have hl : ((clC (C 0)).v ++ [(⟨0, ByteArray.empty⟩ : Vc)]).length = (celV (C 0)).length + 1 := by simp [clC]
          dsimp only
          rw [hl, vcs_snoc]
          exact h1
        · have := congrArg (fun c => c.v.length) he
          simp at this
        · have := HTB.out 2 g (by omega) h.1
          have h9 := HBt8.out.ow.lt 2 g (by omega) h.1
          omega
      have HD := Lib.hid hD
      clear hbA hno hD rl5 ho5 hc5 hn5 k2 qf ql y2 hxr hxd
      go_meet
      case rel => exact ⟨rfl, HD⟩
    · obtain ⟨ap0, hrun0, hs0⟩ := Sl.upto (P := Try.prog) (t := 22) (e := 3) Try.underlying22 (info_parts info_i).choose_spec.1 (info_parts info_i).choose_spec.2.2.1 (HO0.out.sl.mono (ok' := fun b => b < bl) (fun b _ hb => HTB.out 0 b (by omega) hb.2.1) (by decide)) .i64 (i : Int) (by omega) (by omega)
      obtain ⟨ap1, hrun1, hs1⟩ := Sl.upto (P := Try.prog) (t := 22) (e := 3) Try.underlying22 (info_parts info_i).choose_spec.1 (info_parts info_i).choose_spec.2.2.1 (HO1.out.sl.mono (ok' := fun b => b < bl) (fun b _ hb => HTB.out 1 b (by omega) hb.2.1) (by decide)) .i64 (i : Int) (by omega) (by omega)
      have e2 : ((i : Int)).toNat = i := by omega
      rw [e2, Nat.mul_one] at hs0 hs1
      rw [e2] at hrun0 hrun1
      clear o0 o1 o2 k2
      have HK := Lib.hid (And.intro k0 k1)
      have HR8' := HR8.out.drew
      have hD : DifQ (clC (C 0)) bl w4 ((w8.drew.setCell ⟨bl, 0, none⟩ (.slice ap0 i (ccb 0))).setCell ⟨bl, 1, none⟩ (.slice ap1 i (ccb 1))) := by
        have hcl := ((Chg.refl (fun b => b = bl) w8.drew).setCell (p := ⟨bl, 0, none⟩) (.inr rfl) (.slice ap0 i (ccb 0))).setCell (p := ⟨bl, 1, none⟩) (.inr rfl) (.slice ap1 i (ccb 1))
        have hsz := hcl.size
        have hnl : ∀ g, g < bl → ¬ (fun b => b = bl) g := fun g hg he => by have he' : g = bl := he; omega
        refine ⟨⟨(clC (C 0)).r.take i, (clC (C 0)).d.take i, (clC (C 0)).v⟩, ap0, ap1, aaB 2, ccb 0, ccb 1, ccb 2, ?_, ⟨?_, ?_, ?_⟩, fun he => ?_, (HB8.out.drew.setCell (by exact hblg) _).setCell (by exact hblg) _⟩
        · have h1 := (HR8'.set 0 (.slice ap0 i (ccb 0))).set 1 (.slice ap1 i (ccb 1))
          have e1 : ((clC (C 0)).r.take i).length = i := by rw [List.length_take, hxr]; omega
          have e3 : ((clC (C 0)).d.take i).length = i := by rw [List.length_take, hxd]; omega
          dsimp only
          rw [e1, e3]
          simpa [clC] using h1
        · have h1 := (hs0.below (b0 w8).drew).chg hcl (fun g hg => hnl g hg)
          have e1 : ((clC (C 0)).r.take i).length = i := by rw [List.length_take, hxr]; omega
          have e3 : ints ((clC (C 0)).r.take i) = (celR (C 0)).take i := by rw [← clC_r]; simp [ints, List.map_take]
          dsimp only
          rw [e1, e3]
          exact h1.mono (fun b hb _ => hb) (by decide)
        · have h1 := (hs1.below (b0 w8).drew).chg hcl (fun g hg => hnl g hg)
          have e1 : ((clC (C 0)).d.take i).length = i := by rw [List.length_take, hxd]; omega
          have e3 : ints ((clC (C 0)).d.take i) = (celD (C 0)).take i := by rw [← clC_d]; simp [ints, List.map_take]
          dsimp only
          rw [e1, e3]
          exact h1.mono (fun b hb _ => hb) (by decide)
        · exact ((HO2.out.drew).chg hcl (fun g hg => hnl g (HTB.out 2 g (by omega) hg))).sl.mono (fun b hb _ => hb) (by decide)
        · have := congrArg (fun c => c.r.length) he
          simp only [List.length_take, hxr] at this
          omega
      have HD := Lib.hid hD
      clear hD HR8' hs0 hs1 hxr hxd e2
      go_upto_region 20 with fail
      have d0 : w8.drew.cell? ⟨bl, 0, none⟩ = some (.slice (aaB 0) (C 0).length (ccb 0)) := k0
      have d1 : w8.drew.cell? ⟨bl, 1, none⟩ = some (.slice (aaB 1) (C 0).length (ccb 1)) := k1
      have qf := HR8.out.frozen
      have ql := HR8.out.lt
      refine wp_region_F (fun _ => True) [] (by kernel_rfl) ?g12rgS (fun hHeld => ?g12rgR)
      case g12rgS => trivial
      try dsimp only at hHeld
      refine wpAnyF_take 0 (oi := ⟨some 95, .fieldAddr 46 (.tmp 14) 0, 0, "more.go:108", #[], none⟩) (v := ?g12rv1) rfl (by kernel_rfl) (fun _ _ _ h => h) (by assumption) (by rfl) ?g12ry1 ?g12rr1
      case g12ry1 => intro w hSw; skip; go_simp; try with_reducible rfl
      try simp only [Act.put, List.setIfInBounds_toArray, List.set_cons_zero, List.set_cons_succ]
      refine wpAnyF_take 2 (oi := ⟨some 97, .move (.tmp 15), 3, "more.go:108", #[], none⟩) (v := ?g12rv2) rfl (by kernel_rfl) (fun _ _ _ h => h) (by assumption) (by rfl) ?g12ry2 ?g12rr2
      case g12ry2 => intro w hSw; skip; go_simp; try with_reducible rfl
      try simp only [Act.put, List.setIfInBounds_toArray, List.set_cons_zero, List.set_cons_succ]
      refine wpAnyF_take 4 (oi := ⟨some 99, .fieldAddr 46 (.tmp 14) 1, 0, "more.go:108", #[], none⟩) (v := ?g12rv3) rfl (by kernel_rfl) (fun _ _ _ h => h) (by assumption) (by rfl) ?g12ry3 ?g12rr3
      case g12ry3 => intro w hSw; skip; go_simp; try with_reducible rfl
      try simp only [Act.put, List.setIfInBounds_toArray, List.set_cons_zero, List.set_cons_succ]
      refine wpAnyF_take 6 (oi := ⟨some 101, .move (.tmp 15), 3, "more.go:108", #[], none⟩) (v := ?g12rv4) rfl (by kernel_rfl) (fun _ _ _ h => h) (by assumption) (by rfl) ?g12ry4 ?g12rr4
      case g12ry4 => intro w hSw; skip; go_simp; try with_reducible rfl
      try simp only [Act.put, List.setIfInBounds_toArray, List.set_cons_zero, List.set_cons_succ]
      refine wpAnyF_ready [1, 5] (by kernel_rfl) (by simp) ?_
      refine AllReadyF.cons 1 (o := ⟨some 96, .load 22 (.tmp 95), 22, "more.go:108", #[⟨0, .data⟩], none⟩) rfl (fun K hK => ?g12ro5) ?g12rm5
      case g12ro5 =>
        go_simp
        refine hK.out _ _ ?g12rs5 (fun hHeld => ?g12rt5)
        case g12rs5 => trivial
        try dsimp only at hHeld
        clear hK K
        try simp only [Act.put, List.setIfInBounds_toArray, List.set_cons_zero, List.set_cons_succ]
        refine wpAnyF_take 3 (oi := ⟨some 98, .slice 22 (.tmp 96) none (some (.tmp 97)) none, 22, "more.go:108", #[⟨1, .data⟩, ⟨2, .data⟩], none⟩) (v := ?g12rv6) rfl (by kernel_rfl) (fun _ _ _ h => h) (by assumption) (by rfl) ?g12ry6 ?g12rr6
        case g12ry6 => intro w hSw; skip; go_simp; try with_reducible rfl
        try simp only [Act.put, List.setIfInBounds_toArray, List.set_cons_zero, List.set_cons_succ]
        refine wpAnyF_ready [5] (by kernel_rfl) (by simp) ?_
        refine AllReadyF.cons 5 (o := ⟨some 100, .load 22 (.tmp 99), 22, "more.go:108", #[⟨4, .data⟩], none⟩) rfl (fun K hK => ?g12ro7) ?g12rm7
        case g12rm7 => exact AllReadyF.nil
        go_simp
        refine hK.out _ _ ?g12rs7 (fun hHeld => ?g12rt7)
        case g12rs7 => trivial
        try dsimp only at hHeld
        clear hK K
        try simp only [Act.put, List.setIfInBounds_toArray, List.set_cons_zero, List.set_cons_succ]
        refine wpAnyF_take 7 (oi := ⟨some 102, .slice 22 (.tmp 100) none (some (.tmp 101)) none, 22, "more.go:108", #[⟨5, .data⟩, ⟨6, .data⟩], none⟩) (v := ?g12rv8) rfl (by kernel_rfl) (fun _ _ _ h => h) (by assumption) (by rfl) ?g12ry8 ?g12rr8
        case g12ry8 => intro w hSw; skip; go_simp; try with_reducible rfl
        try simp only [Act.put, List.setIfInBounds_toArray, List.set_cons_zero, List.set_cons_succ]
        refine wpAnyF_take 8 (oi := ⟨some 103, .fieldAddr 46 (.tmp 14) 0, 0, "more.go:108", #[⟨0, .phase⟩, ⟨1, .phase⟩, ⟨2, .phase⟩, ⟨3, .phase⟩, ⟨4, .phase⟩, ⟨5, .phase⟩, { on := 6, ground := Go.Ground.textOnly Go.Departure.lateStores }, { on := 7, ground := Go.Ground.textOnly Go.Departure.lateStoresUnsure }], none⟩) (v := ?g12rv9) rfl (by kernel_rfl) (fun _ _ _ h => h) (by assumption) (by rfl) ?g12ry9 ?g12rr9
        case g12ry9 => intro w hSw; skip; go_simp; try with_reducible rfl
        try simp only [Act.put, List.setIfInBounds_toArray, List.set_cons_zero, List.set_cons_succ]
        refine wpAnyF_ready [9] (by kernel_rfl) (by simp) ?_
        refine AllReadyF.cons 9 (o := ⟨none, .store 22 (.tmp 103) (.tmp 98), 0, "more.go:108", #[⟨8, .data⟩, ⟨3, .data⟩, ⟨0, .phase⟩, ⟨1, .phase⟩, ⟨2, .phase⟩, ⟨3, .phase⟩, ⟨4, .phase⟩, ⟨5, .phase⟩, { on := 6, ground := Go.Ground.textOnly Go.Departure.lateStores }, { on := 7, ground := Go.Ground.textOnly Go.Departure.lateStoresUnsure }], none⟩) rfl (fun K hK => ?g12ro10) ?g12rm10
        case g12rm10 => exact AllReadyF.nil
        go_simp
        refine hK.out _ _ ?g12rs10 (fun hHeld => ?g12rt10)
        case g12rs10 => trivial
        try dsimp only at hHeld
        clear hK K
        try simp only [Act.put, List.setIfInBounds_toArray, List.set_cons_zero, List.set_cons_succ]
        refine wpAnyF_take 10 (oi := ⟨some 104, .fieldAddr 46 (.tmp 14) 1, 0, "more.go:108", #[⟨0, .phase⟩, ⟨1, .phase⟩, ⟨2, .phase⟩, ⟨3, .phase⟩, ⟨4, .phase⟩, ⟨5, .phase⟩, ⟨6, .phase⟩, ⟨7, .phase⟩, ⟨8, .phase⟩, ⟨9, .phase⟩], none⟩) (v := ?g12rv11) rfl (by kernel_rfl) (fun _ _ _ h => h) (by assumption) (by rfl) ?g12ry11 ?g12rr11
        case g12ry11 => intro w hSw; skip; go_simp; try with_reducible rfl
        try simp only [Act.put, List.setIfInBounds_toArray, List.set_cons_zero, List.set_cons_succ]
        refine wpAnyF_ready [11] (by kernel_rfl) (by simp) ?_
        refine AllReadyF.cons 11 (o := ⟨none, .store 22 (.tmp 104) (.tmp 102), 0, "more.go:108", #[⟨10, .data⟩, ⟨7, .data⟩, ⟨9, .chain⟩, ⟨0, .phase⟩, ⟨1, .phase⟩, ⟨2, .phase⟩, ⟨3, .phase⟩, ⟨4, .phase⟩, ⟨5, .phase⟩, ⟨6, .phase⟩, ⟨7, .phase⟩, ⟨8, .phase⟩, ⟨9, .phase⟩], none⟩) rfl (fun K hK => ?g12ro12) ?g12rm12
        case g12rm12 => exact AllReadyF.nil
        go_simp
        refine hK.out _ _ ?g12rs12 (fun hHeld => ?g12rt12)
        case g12rs12 => trivial
        try dsimp only at hHeld
        clear hK K
        try simp only [Act.put, List.setIfInBounds_toArray, List.set_cons_zero, List.set_cons_succ]
        refine wpAnyF_done (by kernel_rfl) ?_
        clear k0 k1 d0 d1 qf ql hrun0 hrun1
        go_wp2_with fail
        go_meet
        case rel => exact ⟨rfl, HD⟩
      case g12rm5 =>
      refine AllReadyF.cons 5 (o := ⟨some 100, .load 22 (.tmp 99), 22, "more.go:108", #[⟨4, .data⟩], none⟩) rfl (fun K hK => ?g12ro13) ?g12rm13
      case g12ro13 =>
        go_simp
        refine hK.out _ _ ?g12rs13 (fun hHeld => ?g12rt13)
        case g12rs13 => trivial
        try dsimp only at hHeld
        clear hK K
        try simp only [Act.put, List.setIfInBounds_toArray, List.set_cons_zero, List.set_cons_succ]
        refine wpAnyF_take 7 (oi := ⟨some 102, .slice 22 (.tmp 100) none (some (.tmp 101)) none, 22, "more.go:108", #[⟨5, .data⟩, ⟨6, .data⟩], none⟩) (v := ?g12rv14) rfl (by kernel_rfl) (fun _ _ _ h => h) (by assumption) (by rfl) ?g12ry14 ?g12rr14
        case g12ry14 => intro w hSw; skip; go_simp; try with_reducible rfl
        try simp only [Act.put, List.setIfInBounds_toArray, List.set_cons_zero, List.set_cons_succ]
        refine wpAnyF_ready [1] (by kernel_rfl) (by simp) ?_
        refine AllReadyF.cons 1 (o := ⟨some 96, .load 22 (.tmp 95), 22, "more.go:108", #[⟨0, .data⟩], none⟩) rfl (fun K hK => ?g12ro15) ?g12rm15
        case g12rm15 => exact AllReadyF.nil
        go_simp
        refine hK.out _ _ ?g12rs15 (fun hHeld => ?g12rt15)
        case g12rs15 => trivial
        try dsimp only at hHeld
        clear hK K
        try simp only [Act.put, List.setIfInBounds_toArray, List.set_cons_zero, List.set_cons_succ]
        refine wpAnyF_take 3 (oi := ⟨some 98, .slice 22 (.tmp 96) none (some (.tmp 97)) none, 22, "more.go:108", #[⟨1, .data⟩, ⟨2, .data⟩], none⟩) (v := ?g12rv16) rfl (by kernel_rfl) (fun _ _ _ h => h) (by assumption) (by rfl) ?g12ry16 ?g12rr16
        case g12ry16 => intro w hSw; skip; go_simp; try with_reducible rfl
        try simp only [Act.put, List.setIfInBounds_toArray, List.set_cons_zero, List.set_cons_succ]
        refine wpAnyF_take 8 (oi := ⟨some 103, .fieldAddr 46 (.tmp 14) 0, 0, "more.go:108", #[⟨0, .phase⟩, ⟨1, .phase⟩, ⟨2, .phase⟩, ⟨3, .phase⟩, ⟨4, .phase⟩, ⟨5, .phase⟩, { on := 6, ground := Go.Ground.textOnly Go.Departure.lateStores }, { on := 7, ground := Go.Ground.textOnly Go.Departure.lateStoresUnsure }], none⟩) (v := ?g12rv17) rfl (by kernel_rfl) (fun _ _ _ h => h) (by assumption) (by rfl) ?g12ry17 ?g12rr17
        case g12ry17 => intro w hSw; skip; go_simp; try with_reducible rfl
        try simp only [Act.put, List.setIfInBounds_toArray, List.set_cons_zero, List.set_cons_succ]
        refine wpAnyF_ready [9] (by kernel_rfl) (by simp) ?_
        refine AllReadyF.cons 9 (o := ⟨none, .store 22 (.tmp 103) (.tmp 98), 0, "more.go:108", #[⟨8, .data⟩, ⟨3, .data⟩, ⟨0, .phase⟩, ⟨1, .phase⟩, ⟨2, .phase⟩, ⟨3, .phase⟩, ⟨4, .phase⟩, ⟨5, .phase⟩, { on := 6, ground := Go.Ground.textOnly Go.Departure.lateStores }, { on := 7, ground := Go.Ground.textOnly Go.Departure.lateStoresUnsure }], none⟩) rfl (fun K hK => ?g12ro18) ?g12rm18
        case g12rm18 => exact AllReadyF.nil
        go_simp
        refine hK.out _ _ ?g12rs18 (fun hHeld => ?g12rt18)
        case g12rs18 => trivial
        try dsimp only at hHeld
        clear hK K
        try simp only [Act.put, List.setIfInBounds_toArray, List.set_cons_zero, List.set_cons_succ]
        refine wpAnyF_take 10 (oi := ⟨some 104, .fieldAddr 46 (.tmp 14) 1, 0, "more.go:108", #[⟨0, .phase⟩, ⟨1, .phase⟩, ⟨2, .phase⟩, ⟨3, .phase⟩, ⟨4, .phase⟩, ⟨5, .phase⟩, ⟨6, .phase⟩, ⟨7, .phase⟩, ⟨8, .phase⟩, ⟨9, .phase⟩], none⟩) (v := ?g12rv19) rfl (by kernel_rfl) (fun _ _ _ h => h) (by assumption) (by rfl) ?g12ry19 ?g12rr19
        case g12ry19 => intro w hSw; skip; go_simp; try with_reducible rfl
        try simp only [Act.put, List.setIfInBounds_toArray, List.set_cons_zero, List.set_cons_succ]
        refine wpAnyF_ready [11] (by kernel_rfl) (by simp) ?_
        refine AllReadyF.cons 11 (o := ⟨none, .store 22 (.tmp 104) (.tmp 102), 0, "more.go:108", #[⟨10, .data⟩, ⟨7, .data⟩, ⟨9, .chain⟩, ⟨0, .phase⟩, ⟨1, .phase⟩, ⟨2, .phase⟩, ⟨3, .phase⟩, ⟨4, .phase⟩, ⟨5, .phase⟩, ⟨6, .phase⟩, ⟨7, .phase⟩, ⟨8, .phase⟩, ⟨9, .phase⟩], none⟩) rfl (fun K hK => ?g12ro20) ?g12rm20
        case g12rm20 => exact AllReadyF.nil
        go_simp
        refine hK.out _ _ ?g12rs20 (fun hHeld => ?g12rt20)
        case g12rs20 => trivial
        try dsimp only at hHeld
        clear hK K
        try simp only [Act.put, List.setIfInBounds_toArray, List.set_cons_zero, List.set_cons_succ]
        refine wpAnyF_done (by kernel_rfl) ?_
        clear k0 k1 d0 d1 qf ql hrun0 hrun1
        go_wp2_with fail
        go_meet
        case rel => exact ⟨rfl, HD⟩
      case g12rm13 =>
      exact AllReadyF.nil
  case rest =>
    obtain ⟨rfl, HD⟩ := hcut
    obtain ⟨c', g0, g1, g2, d0, d1, d2, hr, hcl, hne, hb⟩ := HD.out
    have HAW := Lib.hid (HA.out.below hb)
    have ea0 := HAW.out.cell0 hmp; have ea1 := HAW.out.cell1 hmp; have ea2 := HAW.out.cell2 hmp
    simp only [Nat.zero_mul, Nat.zero_add] at ea0 ea1 ea2
    have hclA := HAW.out.clAt hmp
    simp only [Nat.zero_mul, Nat.zero_add] at hclA
    have hxr : (clC (C 0)).r.length = (C 0).length := by simp [clC]
    have hxd : (clC (C 0)).d.length = (C 0).length := by simp [clC]
    have hxv : (clC (C 0)).v.length = (celV (C 0)).length := rfl
    have HS1 := Lib.hid (fun (W : World) (hW : Below wc.heap.size wc W) => ssame_v (clC (C 0)) c' _ _ _ _ _ _ _ _ _ _ _ _ W (hclA.below hW) (hcl.below hW))
    have HS2 := Lib.hid (fun (W : World) (hW : Below wc.heap.size wc W) => ssame_v c' (clC (C 0)) _ _ _ _ _ _ _ _ _ _ _ _ W (hcl.below hW) (hclA.below hW))
    have hs1 := HS1.out; have hs2 := HS2.out
    rw [hxr, hxd, hxv] at hs1 hs2
    have HT1 := Lib.hid hs1; have HT2 := Lib.hid hs2
    have z := And.intro (hr.cell 0) (And.intro (hr.cell 1) (hr.cell 2))
    have HZ := Lib.hid (And.intro ea0 (And.intro ea1 (And.intro ea2 (show wc.cell? ⟨bl, 0, none⟩ = some (.slice g0 c'.r.length d0) ∧ wc.cell? ⟨bl, 1, none⟩ = some (.slice g1 c'.d.length d1) ∧ wc.cell? ⟨bl, 2, none⟩ = some (.slice g2 c'.v.length d2) from z))))
    have HNE := Lib.hid hne; have HBW := Lib.hid (bt HB4.out hb)
    clear hr hcl hne hb hs1 hs2 HS1 HS2 hclA hxr hxd hxv z HAW ea0 ea1 ea2 HD
    go_upto_region 21 with fail
    refine wp_region_F (fun w' => w'.cell? ⟨bca, 0, none⟩ = some (.slice (aaA 0) (C 0).length (cca 0)) ∧ w'.cell? ⟨bca, 1, none⟩ = some (.slice (aaA 1) (C 0).length (cca 1)) ∧ w'.cell? ⟨bca, 2, none⟩ = some (.slice (aaA 2) (celV (C 0)).length (cca 2)) ∧ w'.cell? ⟨bl, 0, none⟩ = some (.slice g0 c'.r.length d0) ∧ w'.cell? ⟨bl, 1, none⟩ = some (.slice g1 c'.d.length d1) ∧ w'.cell? ⟨bl, 2, none⟩ = some (.slice g2 c'.v.length d2)) [14] (by kernel_rfl) ?g13rgS (fun hHeld => ?g13rgR)
    case g13rgS => (try dsimp only); (first | exact HZ.out | exact ⟨cb hb11 hHeld.1, cb hb11 hHeld.2.1, cb hb11 hHeld.2.2.1, cb hb11 hHeld.2.2.2.1, cb hb11 hHeld.2.2.2.2.1, cb hb11 hHeld.2.2.2.2.2⟩ | exact ⟨cb hb4 hHeld.1, cb hb4 hHeld.2.1, cb hb4 hHeld.2.2.1, cb hb4 hHeld.2.2.2.1, cb hb4 hHeld.2.2.2.2.1, cb hb4 hHeld.2.2.2.2.2⟩)
    try dsimp only at hHeld
    refine wpAnyF_take 0 (oi := ⟨some 105, .move (.tmp 10), 34, "more.go:110", #[], none⟩) (v := ?g13rv1) rfl (by kernel_rfl) (fun _ _ _ h => h) (by assumption) (by rfl) ?g13ry1 ?g13rr1
    case g13ry1 => intro w hSw; obtain ⟨s0, s1, s2, s3, s4, s5⟩ := hSw; go_simp; try with_reducible rfl
    try simp only [Act.put, List.setIfInBounds_toArray, List.set_cons_zero, List.set_cons_succ]
    refine wpAnyF_take 1 (oi := ⟨some 106, .indexAddr 34 (.tmp 105) (.const (.int .i64 0)), 0, "more.go:110", #[⟨0, .data⟩], none⟩) (v := ?g13rv2) rfl (by kernel_rfl) (fun _ _ _ h => h) (by assumption) (by rfl) ?g13ry2 ?g13rr2
    case g13ry2 => intro w hSw; obtain ⟨s0, s1, s2, s3, s4, s5⟩ := hSw; go_simp; try with_reducible rfl
    try simp only [Act.put, List.setIfInBounds_toArray, List.set_cons_zero, List.set_cons_succ]
    refine wpAnyF_take 2 (oi := ⟨some 107, .load 46 (.tmp 106), 46, "more.go:110", #[⟨1, .data⟩], none⟩) (v := ?g13rv3) rfl (by kernel_rfl) (fun _ _ _ h => h) (by assumption) (by rfl) ?g13ry3 ?g13rr3
    case g13ry3 => intro w hSw; obtain ⟨s0, s1, s2, s3, s4, s5⟩ := hSw; go_simp; try with_reducible rfl
    try simp only [Act.put, List.setIfInBounds_toArray, List.set_cons_zero, List.set_cons_succ]
    refine wpAnyF_take 3 (oi := ⟨some 108, .load 46 (.tmp 14), 46, "more.go:110", #[], none⟩) (v := ?g13rv4) rfl (by kernel_rfl) (fun _ _ _ h => h) (by assumption) (by rfl) ?g13ry4 ?g13rr4
    case g13ry4 => intro w hSw; obtain ⟨s0, s1, s2, s3, s4, s5⟩ := hSw; go_simp; try with_reducible rfl
    try simp only [Act.put, List.setIfInBounds_toArray, List.set_cons_zero, List.set_cons_succ]
    refine wpAnyF_ready [4] (by kernel_rfl) (by simp) ?_
    refine AllReadyF.cons 4 (o := ⟨some 109, .call { callee := .value (.func 23), args := #[.tmp 107, .tmp 108], argTypes := #[46, 46] }, 4, "more.go:110", #[⟨2, .data⟩, ⟨3, .data⟩], none⟩) rfl (fun K hK => ?g13ro5) ?g13rm5
    case g13rm5 => exact AllReadyF.nil
    go_simp; refine (HT1.out wc.drew (b0 wc).drew).mono ?_; rintro e w10 ⟨t, rfl, ht, hb4⟩; (obtain rfl : t = false := by cases t; rfl; exact absurd (ht.1 rfl).symm HNE.out); dsimp only; clear ht
    refine hK.out _ _ ?g13rs5 (fun hHeld => ?g13rt5)
    case g13rs5 => (try dsimp only); (first | exact HZ.out | exact ⟨cb hb11 hHeld.1, cb hb11 hHeld.2.1, cb hb11 hHeld.2.2.1, cb hb11 hHeld.2.2.2.1, cb hb11 hHeld.2.2.2.2.1, cb hb11 hHeld.2.2.2.2.2⟩ | exact ⟨cb hb4 hHeld.1, cb hb4 hHeld.2.1, cb hb4 hHeld.2.2.1, cb hb4 hHeld.2.2.2.1, cb hb4 hHeld.2.2.2.2.1, cb hb4 hHeld.2.2.2.2.2⟩)
    try dsimp only at hHeld
    clear hK K
    try simp only [Act.put, List.setIfInBounds_toArray, List.set_cons_zero, List.set_cons_succ]
    refine wpAnyF_take 5 (oi := ⟨some 110, .unOp .not 4 (.tmp 109), 4, "more.go:110", #[⟨4, .data⟩], none⟩) (v := ?g13rv6) rfl (by kernel_rfl) (fun _ _ _ h => h) (by assumption) (by rfl) ?g13ry6 ?g13rr6
    case g13ry6 => intro w hSw; obtain ⟨s0, s1, s2, s3, s4, s5⟩ := hSw; go_simp; try with_reducible rfl
    try simp only [Act.put, List.setIfInBounds_toArray, List.set_cons_zero, List.set_cons_succ]
    refine wpAnyF_take 6 (oi := ⟨some 111, .move (.tmp 110), 4, "more.go:110", #[⟨5, .data⟩, ⟨4, .chain⟩], none⟩) (v := ?g13rv7) rfl (by kernel_rfl) (fun _ _ _ h => h) (by assumption) (by rfl) ?g13ry7 ?g13rr7
    case g13ry7 => intro w hSw; obtain ⟨s0, s1, s2, s3, s4, s5⟩ := hSw; go_simp; try with_reducible rfl
    try simp only [Act.put, List.setIfInBounds_toArray, List.set_cons_zero, List.set_cons_succ]
    first
      | refine wpAnyF_skip 7 (oi := ⟨some 112, .load 46 (.tmp 14), 46, "more.go:110", #[⟨6, .guard⟩], some (6, true)⟩) rfl (by kernel_rfl) (fun _ _ _ h => h) (by assumption) (by rfl) ?_
      | (refine wpAnyF_take 7 (oi := ⟨some 112, .load 46 (.tmp 14), 46, "more.go:110", #[⟨6, .guard⟩], some (6, true)⟩) (v := ?g13rv8) rfl (by kernel_rfl) (fun _ _ _ h => h) (by assumption) (by rfl) ?g13ry8 ?g13rr8
         case g13ry8 => intro w hSw; obtain ⟨s0, s1, s2, s3, s4, s5⟩ := hSw; go_simp; try with_reducible rfl)
    try simp only [Act.put, List.setIfInBounds_toArray, List.set_cons_zero, List.set_cons_succ]
    first
      | refine wpAnyF_skip 8 (oi := ⟨some 113, .move (.tmp 10), 34, "more.go:110", #[⟨6, .guard⟩], some (6, true)⟩) rfl (by kernel_rfl) (fun _ _ _ h => h) (by assumption) (by rfl) ?_
      | (refine wpAnyF_take 8 (oi := ⟨some 113, .move (.tmp 10), 34, "more.go:110", #[⟨6, .guard⟩], some (6, true)⟩) (v := ?g13rv9) rfl (by kernel_rfl) (fun _ _ _ h => h) (by assumption) (by rfl) ?g13ry9 ?g13rr9
         case g13ry9 => intro w hSw; obtain ⟨s0, s1, s2, s3, s4, s5⟩ := hSw; go_simp; try with_reducible rfl)
    try simp only [Act.put, List.setIfInBounds_toArray, List.set_cons_zero, List.set_cons_succ]
    first
      | refine wpAnyF_skip 9 (oi := ⟨some 114, .indexAddr 34 (.tmp 113) (.const (.int .i64 0)), 0, "more.go:110", #[⟨8, .data⟩, ⟨6, .guard⟩], some (6, true)⟩) rfl (by kernel_rfl) (fun _ _ _ h => h) (by assumption) (by rfl) ?_
      | (refine wpAnyF_take 9 (oi := ⟨some 114, .indexAddr 34 (.tmp 113) (.const (.int .i64 0)), 0, "more.go:110", #[⟨8, .data⟩, ⟨6, .guard⟩], some (6, true)⟩) (v := ?g13rv10) rfl (by kernel_rfl) (fun _ _ _ h => h) (by assumption) (by rfl) ?g13ry10 ?g13rr10
         case g13ry10 => intro w hSw; obtain ⟨s0, s1, s2, s3, s4, s5⟩ := hSw; go_simp; try with_reducible rfl)
    try simp only [Act.put, List.setIfInBounds_toArray, List.set_cons_zero, List.set_cons_succ]
    first
      | refine wpAnyF_skip 10 (oi := ⟨some 115, .load 46 (.tmp 114), 46, "more.go:110", #[⟨9, .data⟩, ⟨6, .guard⟩], some (6, true)⟩) rfl (by kernel_rfl) (fun _ _ _ h => h) (by assumption) (by rfl) ?_
      | (refine wpAnyF_take 10 (oi := ⟨some 115, .load 46 (.tmp 114), 46, "more.go:110", #[⟨9, .data⟩, ⟨6, .guard⟩], some (6, true)⟩) (v := ?g13rv11) rfl (by kernel_rfl) (fun _ _ _ h => h) (by assumption) (by rfl) ?g13ry11 ?g13rr11
         case g13ry11 => intro w hSw; obtain ⟨s0, s1, s2, s3, s4, s5⟩ := hSw; go_simp; try with_reducible rfl)
    try simp only [Act.put, List.setIfInBounds_toArray, List.set_cons_zero, List.set_cons_succ]
    refine wpAnyF_ready [11] (by kernel_rfl) (by simp) ?_
    refine AllReadyF.cons 11 (o := ⟨some 116, .call { callee := .value (.func 23), args := #[.tmp 112, .tmp 115], argTypes := #[46, 46] }, 4, "more.go:110", #[⟨7, .data⟩, ⟨10, .data⟩, ⟨6, .chain⟩, ⟨6, .guard⟩], some (6, true)⟩) rfl (fun K hK => ?g13ro12) ?g13rm12
    case g13rm12 => exact AllReadyF.nil
    go_simp; refine (HT2.out w10 (bt (b0 wc).drew hb4)).mono ?_; rintro e w11 ⟨t, rfl, ht, hb11⟩; (obtain rfl : t = false := by cases t; rfl; exact absurd (ht.1 rfl) HNE.out); dsimp only; clear ht
    refine hK.out _ _ ?g13rs12 (fun hHeld => ?g13rt12)
    case g13rs12 => (try dsimp only); (first | exact HZ.out | exact ⟨cb hb11 hHeld.1, cb hb11 hHeld.2.1, cb hb11 hHeld.2.2.1, cb hb11 hHeld.2.2.2.1, cb hb11 hHeld.2.2.2.2.1, cb hb11 hHeld.2.2.2.2.2⟩ | exact ⟨cb hb4 hHeld.1, cb hb4 hHeld.2.1, cb hb4 hHeld.2.2.1, cb hb4 hHeld.2.2.2.1, cb hb4 hHeld.2.2.2.2.1, cb hb4 hHeld.2.2.2.2.2⟩)
    try dsimp only at hHeld
    clear hK K
    try simp only [Act.put, List.setIfInBounds_toArray, List.set_cons_zero, List.set_cons_succ]
    first
      | refine wpAnyF_skip 12 (oi := ⟨some 117, .unOp .not 4 (.tmp 116), 4, "more.go:110", #[⟨11, .data⟩, ⟨6, .guard⟩], some (6, true)⟩) rfl (by kernel_rfl) (fun _ _ _ h => h) (by assumption) (by rfl) ?_
      | (refine wpAnyF_take 12 (oi := ⟨some 117, .unOp .not 4 (.tmp 116), 4, "more.go:110", #[⟨11, .data⟩, ⟨6, .guard⟩], some (6, true)⟩) (v := ?g13rv13) rfl (by kernel_rfl) (fun _ _ _ h => h) (by assumption) (by rfl) ?g13ry13 ?g13rr13
         case g13ry13 => intro w hSw; obtain ⟨s0, s1, s2, s3, s4, s5⟩ := hSw; go_simp; try with_reducible rfl)
    try simp only [Act.put, List.setIfInBounds_toArray, List.set_cons_zero, List.set_cons_succ]
    refine wpAnyF_take 13 (oi := ⟨some 118, .pick (.tmp 111) (.tmp 117) (.const (.bool false)), 4, "more.go:110", #[⟨6, .data⟩, ⟨12, .data⟩], none⟩) (v := ?g13rv14) rfl (by kernel_rfl) (fun _ _ _ h => h) (by assumption) (by rfl) ?g13ry14 ?g13rr14
    case g13ry14 => intro w hSw; obtain ⟨s0, s1, s2, s3, s4, s5⟩ := hSw; go_simp; try with_reducible rfl
    try simp only [Act.put, List.setIfInBounds_toArray, List.set_cons_zero, List.set_cons_succ]
    refine wpAnyF_ready [14] (by kernel_rfl) (by simp) ?_
    refine AllReadyF.last 14 (o := ⟨some 8, .assign (.tmp 118), 4, "more.go:110", #[⟨13, .data⟩, ⟨11, .chain⟩, ⟨0, .phase⟩, ⟨1, .phase⟩, ⟨2, .phase⟩, ⟨3, .phase⟩, ⟨4, .phase⟩, ⟨5, .phase⟩, ⟨6, .phase⟩, ⟨7, .phase⟩, ⟨8, .phase⟩, ⟨9, .phase⟩, ⟨10, .phase⟩, ⟨11, .phase⟩, ⟨12, .phase⟩, ⟨13, .phase⟩], none⟩) rfl (by kernel_rfl) (fun K hK => ?g13ro15) ?g13rm15
    case g13rm15 => exact AllReadyF.nil
    go_simp
    refine hK.out _ _ ?_
    clear hK K
    try simp only [Act.put, List.setIfInBounds_toArray, List.set_cons_zero, List.set_cons_succ]
    refine wpAnyF_done (by kernel_rfl) ?_
    clear hHeld
    have HBF := Lib.hid (bt (bt HBW.out.drew hb4) hb11)
    clear hb4 hb11
    go_wp2_with fail
    go_ret
    exact ⟨rfl, HBF.out⟩
end Go.Proofs.Ytibhcibcfommeaa
