/-
 The walk of cell, without a value. The walk of cell, with a value.
-/
import Derived.Test.YtibhcibcfommeaaStr14
import Derived.Deep.CutRange
set_option linter.unusedSimpArgs false
namespace Go.Proofs.Ytibhcibcfommeaa
open Go.RowKit Go.Shr
set_option maxHeartbeats 2000000 in
set_option maxRecDepth 100000 in
theorem cell_none (p : SP) (G : Nat → List Cel) (aa : Nat → Option Addr) (k : Nat) (hk : k < p.m) (r d : Nat) (w : World) (h : Str p w G aa) :
  Calls Try.prog 51 #[.pointer (some ⟨p.bx, 0, none⟩), .int .i64 (k : Int), .int .i64 (r : Int), .int .i64 (d : Int), .slice none 0 0] w (CellQ p (upd G k (G k ++ [⟨r, d, none⟩])) aa w) := by
 obtain ⟨ii, hii, hz0i, hz1i, hz2i⟩ := info_parts info_i
 obtain ⟨iv, hiv, hz0v, hz1v, hz2v⟩ := info_parts info_vl
 obtain ⟨cur, cc, ht⟩ := h.tab
 have hbd := h.bds
 have q3 : w.cell? ⟨p.bx, 3, none⟩ = some (.slice (some ⟨p.bc, 0, none⟩) p.m p.m) := h.row.cell 3
 have u0 := ht.cell0 hk
 have hlen : (cut4 G k).length = min 4000 (G k).length := by unfold cut4; rw [List.length_take]
 have hk0 : (0 : Int) ≤ (k : Int) := by omega
 have hk1 : (k : Int) < (p.m : Int) := by omega
 have H := Lib.hid h; have HT := Lib.hid ht
 by_cases ho : 4000 ≤ (G k).length
 ·have hl4 : ((cut4 G k).length : Int) ≥ 4000 := by omega
  have q4 : w.cell? ⟨p.bx, 4, none⟩ = some (.bool (mny p.m G)) := h.row.cell 4
  have qf := h.row.frozen
  have ql := h.row.lt
  clear h ht hlen
  go_enter Try.func51, Try.ntmps51
  go_wp2_with fail
  refine bodyPost_end (v := .tuple #[]) (by simp [results, Try.results51, go_sem]) rfl ?_
  have hch : Chg (fun b => b = p.bx) w (w.setCell ⟨p.bx, 4, none⟩ (.bool true)) := (Chg.refl (fun b => b = p.bx) w).setCell (p := ⟨p.bx, 4, none⟩) (.inr rfl) _
  have hok : ∀ b, b < w.heap.size → p.ok b → ¬ (fun b => b = p.bx) b ∧ p.ok b := fun b _ hb => ⟨hb.2.1, hb⟩
  refine ⟨rfl, aa, ⟨?_, H.out.s.go hch hok (by decide), H.out.kids.go hch hok, H.out.lvs.go hch hok, ⟨cur, cc, (HT.out.chg hch (fun g _ hg h2 => by have h3 : g = p.bx := h2; omega)).congr (fun j _ => cut4_over _ ho j)⟩, by simpa using hbd⟩, hch.mono (fun b _ hb => .inl hb), fun b hb => .inl hb⟩
  have := H.out.row.set 4 (.bool true)
  rw [mny_over hk _ ho]
  exact this
 ·have ho' : (G k).length < 4000 := by omega
  have hl4 : ¬ ((cut4 G k).length : Int) ≥ 4000 := by omega
  have hlm : (cut4 G k).length ≤ 4000 := by omega
  have u1 := ht.cell1 hk
  have u2 := ht.cell2 hk
  have hvl := celV_le (cut4 G k)
  have hH := ht.hds
  have hcR := (hH (k * 3) (by omega)).trans (by rw [(n0 _ k).1])
  have hcD := (hH (k * 3 + 1) (by omega)).trans (by rw [(n1 _ k).1])
  have hcV := (hH (k * 3 + 2) (by omega)).trans (by rw [(n2 _ k).1])
  have HU := Lib.hid (And.intro q3 (And.intro u0 (And.intro u1 u2)))
  clear h hlen
  have hCL : ∀ c : Cel, (cut4 G k ++ [c]).length = (cut4 G k).length + 1 := fun c => by simp
  go_enter Try.func51, Try.ntmps51
  go_wp2_with fail
  refine wp_region_F (fun w' => w'.cell? ⟨p.bc, k * 3, none⟩ = some (.slice (aa (k * 3)) (cut4 G k).length (cc (k * 3))) ∧ w'.cell? ⟨p.bc, k * 3 + 1, none⟩ = some (.slice (aa (k * 3 + 1)) (cut4 G k).length (cc (k * 3 + 1))) ∧ w'.cell? ⟨p.bc, k * 3 + 2, none⟩ = some (.slice (aa (k * 3 + 2)) (celV (cut4 G k)).length (cc (k * 3 + 2)))) [1, 2, 23, 24, 25, 26, 27, 28, 29, 30, 31] (by kernel_rfl) ?g9rgS (fun hHeld => ?g9rgR)
  case g9rgS => (try dsimp only); (first | exact HU.out.2 | exact ⟨(row.cell _).trans hcR, (row.cell _).trans hcD, (row.cell _).trans hcV⟩)
  try dsimp only at hHeld
  obtain ⟨W, hW⟩ : ∃ W, W = w.drew := ⟨_, rfl⟩; rw [← hW] at hHeld ⊢; (have row := Rw.ren hW HT.out.row.drew); (have how : OW p.B W (p.m * 3) tyC szC aa (nC (cut4 G)) cc (xC (cut4 G)) := by rw [hW]; exact HT.out.ow.below (b0 w).drew); (have rx := Rw.ren hW H.out.row.drew); (have hch : Chg (p.ch aa) w W := by rw [hW]; exact (Chg.refl (p.ch aa) w).drew); (have hBW : p.B ≤ W.heap.size := by rw [hW]; exact hbd.2.2.2.2.2); (have htb : ∀ b, p.tb aa b → p.tb aa b ∨ w.heap.size ≤ b := fun b hb => .inl hb); clear hW
  refine wpAnyF_take0 1 (oi := ⟨some 27, .move (.tmp 10), 109, "shred.go:57", #[{ on := 25, ground := Go.Ground.gcOnly Go.Departure.lateStores }], none⟩) (v := ?g9rv1) rfl (by kernel_rfl) (fun _ _ _ h => h) (by rfl) ?g9ry1 ?g9rr1
  case g9ry1 => intro w0' _; go_simp; try with_reducible rfl
  try simp only [Act.put, pA, pB, pC]
  refine wpAnyF_take0 2 (oi := ⟨some 28, .move (.tmp 10), 109, "shred.go:57", #[{ on := 28, ground := Go.Ground.gcOnly Go.Departure.lateStores }], none⟩) (v := ?g9rv2) rfl (by kernel_rfl) (fun _ _ _ h => h) (by rfl) ?g9ry2 ?g9rr2
  case g9ry2 => intro w0' _; go_simp; try with_reducible rfl
  try simp only [Act.put, pA, pB, pC]
  refine wpAnyF_mono (F := [23, 24, 25, 26, 27, 28, 29, 30, 31]) (by simp) _ _ _ _ ?_
  refine wpAnyF_take 0 (oi := ⟨some 26, .move (.tmp 10), 109, "shred.go:57", #[], none⟩) (v := ?g9rv3) rfl (by kernel_rfl) (fun _ _ _ h => h) (by assumption) (by rfl) ?g9ry3 ?g9rr3
  case g9ry3 => intro w hSw; obtain ⟨s1, s2, s3⟩ := hSw; go_simp; try with_reducible rfl
  try simp only [Act.put, pA, pB, pC]
  refine wpAnyF_take 3 (oi := ⟨some 29, .move (.tmp 10), 109, "shred.go:57", #[], none⟩) (v := ?g9rv4) rfl (by kernel_rfl) (fun _ _ _ h => h) (by assumption) (by rfl) ?g9ry4 ?g9rr4
  case g9ry4 => intro w hSw; obtain ⟨s1, s2, s3⟩ := hSw; go_simp; try with_reducible rfl
  try simp only [Act.put, pA, pB, pC]
  refine wpAnyF_take 4 (oi := ⟨some 30, .nilCheck (.tmp 29), 0, "shred.go:57", #[⟨3, .data⟩], none⟩) (v := ?g9rv5) rfl (by kernel_rfl) (fun _ _ _ h => h) (by assumption) (by rfl) ?g9ry5 ?g9rr5
  case g9ry5 => intro w hSw; obtain ⟨s1, s2, s3⟩ := hSw; go_simp; try with_reducible rfl
  try simp only [Act.put, pA, pB, pC]
  refine wpAnyF_take 5 (oi := ⟨some 31, .fieldAddr 46 (.tmp 30) 0, 0, "shred.go:57", #[⟨4, .data⟩], none⟩) (v := ?g9rv6) rfl (by kernel_rfl) (fun _ _ _ h => h) (by assumption) (by rfl) ?g9ry6 ?g9rr6
  case g9ry6 => intro w hSw; obtain ⟨s1, s2, s3⟩ := hSw; go_simp; try with_reducible rfl
  try simp only [Act.put, pA, pB, pC]
  refine wpAnyF_take 6 (oi := ⟨some 32, .load 22 (.tmp 31), 22, "shred.go:57", #[⟨5, .data⟩], none⟩) (v := ?g9rv7) rfl (by kernel_rfl) (fun _ _ _ h => h) (by assumption) (by rfl) ?g9ry7 ?g9rr7
  case g9ry7 => intro w hSw; obtain ⟨s1, s2, s3⟩ := hSw; go_simp; try with_reducible rfl
  try simp only [Act.put, pA, pB, pC]
  refine wpAnyF_take 7 (oi := ⟨some 33, .move (.tmp 2), 3, "shred.go:57", #[], none⟩) (v := ?g9rv8) rfl (by kernel_rfl) (fun _ _ _ h => h) (by assumption) (by rfl) ?g9ry8 ?g9rr8
  case g9ry8 => intro w hSw; obtain ⟨s1, s2, s3⟩ := hSw; go_simp; try with_reducible rfl
  try simp only [Act.put, pA, pB, pC]
  refine wpAnyF_take 10 (oi := ⟨some 36, .move (.tmp 10), 109, "shred.go:57", #[], none⟩) (v := ?g9rv9) rfl (by kernel_rfl) (fun _ _ _ h => h) (by assumption) (by rfl) ?g9ry9 ?g9rr9
  case g9ry9 => intro w hSw; obtain ⟨s1, s2, s3⟩ := hSw; go_simp; try with_reducible rfl
  try simp only [Act.put, pA, pB, pC]
  refine wpAnyF_take 11 (oi := ⟨some 37, .nilCheck (.tmp 36), 0, "shred.go:57", #[⟨10, .data⟩], none⟩) (v := ?g9rv10) rfl (by kernel_rfl) (fun _ _ _ h => h) (by assumption) (by rfl) ?g9ry10 ?g9rr10
  case g9ry10 => intro w hSw; obtain ⟨s1, s2, s3⟩ := hSw; go_simp; try with_reducible rfl
  try simp only [Act.put, pA, pB, pC]
  refine wpAnyF_take 12 (oi := ⟨some 38, .fieldAddr 46 (.tmp 37) 1, 0, "shred.go:57", #[⟨11, .data⟩], none⟩) (v := ?g9rv11) rfl (by kernel_rfl) (fun _ _ _ h => h) (by assumption) (by rfl) ?g9ry11 ?g9rr11
  case g9ry11 => intro w hSw; obtain ⟨s1, s2, s3⟩ := hSw; go_simp; try with_reducible rfl
  try simp only [Act.put, pA, pB, pC]
  refine wpAnyF_take 13 (oi := ⟨some 39, .load 22 (.tmp 38), 22, "shred.go:57", #[⟨12, .data⟩], none⟩) (v := ?g9rv12) rfl (by kernel_rfl) (fun _ _ _ h => h) (by assumption) (by rfl) ?g9ry12 ?g9rr12
  case g9ry12 => intro w hSw; obtain ⟨s1, s2, s3⟩ := hSw; go_simp; try with_reducible rfl
  try simp only [Act.put, pA, pB, pC]
  refine wpAnyF_take 14 (oi := ⟨some 40, .move (.tmp 3), 3, "shred.go:57", #[], none⟩) (v := ?g9rv13) rfl (by kernel_rfl) (fun _ _ _ h => h) (by assumption) (by rfl) ?g9ry13 ?g9rr13
  case g9ry13 => intro w hSw; obtain ⟨s1, s2, s3⟩ := hSw; go_simp; try with_reducible rfl
  try simp only [Act.put, pA, pB, pC]
  refine wpAnyF_take 17 (oi := ⟨some 43, .move (.tmp 10), 109, "shred.go:57", #[], none⟩) (v := ?g9rv14) rfl (by kernel_rfl) (fun _ _ _ h => h) (by assumption) (by rfl) ?g9ry14 ?g9rr14
  case g9ry14 => intro w hSw; obtain ⟨s1, s2, s3⟩ := hSw; go_simp; try with_reducible rfl
  try simp only [Act.put, pA, pB, pC]
  refine wpAnyF_take 18 (oi := ⟨some 44, .nilCheck (.tmp 43), 0, "shred.go:57", #[⟨17, .data⟩], none⟩) (v := ?g9rv15) rfl (by kernel_rfl) (fun _ _ _ h => h) (by assumption) (by rfl) ?g9ry15 ?g9rr15
  case g9ry15 => intro w hSw; obtain ⟨s1, s2, s3⟩ := hSw; go_simp; try with_reducible rfl
  try simp only [Act.put, pA, pB, pC]
  refine wpAnyF_take 19 (oi := ⟨some 45, .fieldAddr 46 (.tmp 44) 2, 0, "shred.go:57", #[⟨18, .data⟩], none⟩) (v := ?g9rv16) rfl (by kernel_rfl) (fun _ _ _ h => h) (by assumption) (by rfl) ?g9ry16 ?g9rr16
  case g9ry16 => intro w hSw; obtain ⟨s1, s2, s3⟩ := hSw; go_simp; try with_reducible rfl
  try simp only [Act.put, pA, pB, pC]
  refine wpAnyF_take 20 (oi := ⟨some 46, .load 44 (.tmp 45), 44, "shred.go:57", #[⟨19, .data⟩], none⟩) (v := ?g9rv17) rfl (by kernel_rfl) (fun _ _ _ h => h) (by assumption) (by rfl) ?g9ry17 ?g9rr17
  case g9ry17 => intro w hSw; obtain ⟨s1, s2, s3⟩ := hSw; go_simp; try with_reducible rfl
  try simp only [Act.put, pA, pB, pC]
  refine wpAnyF_take 21 (oi := ⟨some 47, .move (.tmp 4), 44, "shred.go:57", #[], none⟩) (v := ?g9rv18) rfl (by kernel_rfl) (fun _ _ _ h => h) (by assumption) (by rfl) ?g9ry18 ?g9rr18
  case g9ry18 => intro w hSw; obtain ⟨s1, s2, s3⟩ := hSw; go_simp; try with_reducible rfl
  try simp only [Act.put, pA, pB, pC]
  refine wpAnyF_ready [8, 15] (by kernel_rfl) (by simp) ?_
  refine AllReadyF.cons 8 (o := ⟨some 34, .buildSlice 22 1 #[(0, .tmp 33)], 22, "shred.go:57", #[⟨7, .data⟩], none⟩) rfl (fun K hK => ?g9ro19) ?g9rm19
  case g9ro19 =>
   go_simp; refine gen_w (fun X hX => ?_); (have hb := OW.nb how hX); (have rn8 := OW.nr how hX); (replace row := row.below hb); (replace rx := rx.below hb); (replace hch := hch.trans (chF hb) (fun i hi h => h.elim));  skip; (replace how := how.below hb); (replace hBW := Nat.le_trans hBW hb.size); clear hb hX
   refine hK.out _ _ ?g9rs19 (fun hHeld => ?g9rt19)
   case g9rs19 => (try dsimp only); (first | exact HU.out.2 | exact ⟨(row.cell _).trans hcR, (row.cell _).trans hcD, (row.cell _).trans hcV⟩)
   try dsimp only at hHeld
   clear hK K
   try simp only [Act.put, pA, pB, pC]
   refine wpAnyF_ready [9, 15] (by kernel_rfl) (by simp) ?_
   refine AllReadyF.cons 9 (o := ⟨some 35, .call { callee := .builtin .append, args := #[.tmp 32, .tmp 34], argTypes := #[22, 22] }, 22, "shred.go:57", #[⟨6, .data⟩, ⟨8, .data⟩], none⟩) rfl (fun K hK => ?g9ro20) ?g9rm20
   case g9ro20 =>
    (refine step_append (B := p.B) rfl _ _ _ _ rfl ii (.int .i64 0) 8 Try.underlying22 hii hz0i hz1i hz2i rfl rfl (OW.own0 how hk) _ rfl 1 _ (src_rw (P := Try.prog) (tx := 22) Try.underlying22 rn8 1 1 rfl (by simp [Value.oneCell'])) (by simp only [maxLen]; omega) (by omega) hBW ?_; intro a9 cap9 W9 ho9 hc9 hn9);  skip; (replace row := row.chg hc9 (fun h => by have := h.2.1; omega)); (replace rx := rx.chg hc9 (fun h => by have := h.2.1; omega)); (replace htb := tb_push htb (j := k * 3) (by omega) hn9 hch.size); (replace hch := hch.trans hc9 (fun i hi h => .inr (.inr ⟨_, by omega, h.1⟩))); (replace hBW := Nat.le_trans hBW hc9.size); (replace how := OW.push0 how hk (Nat.succ_pos _) ho9 hc9 hn9); clear ho9 hc9 hn9 rn8
    refine hK.out _ _ ?g9rs20 (fun hHeld => ?g9rt20)
    case g9rs20 => (try dsimp only); (first | exact HU.out.2 | exact ⟨(row.cell _).trans hcR, (row.cell _).trans hcD, (row.cell _).trans hcV⟩)
    try dsimp only at hHeld
    clear hK K
    try simp only [Act.put, pA, pB, pC]
    refine wpAnyF_ready [15] (by kernel_rfl) (by simp) ?_
    refine AllReadyF.cons 15 (o := ⟨some 41, .buildSlice 22 1 #[(0, .tmp 40)], 22, "shred.go:57", #[⟨14, .data⟩], none⟩) rfl (fun K hK => ?g9ro21) ?g9rm21
    case g9rm21 => exact AllReadyF.nil
    go_simp; refine gen_w (fun X hX => ?_); (have hb := OW.nb how hX); (have rn15 := OW.nr how hX); (have hl15 := fun j g (hj : j < p.m * 3) hg => (how.lt j g hj hg).1); (replace row := row.below hb); (replace rx := rx.below hb); (replace hch := hch.trans (chF hb) (fun i hi h => h.elim)); (try replace rn8 := rn8.below hb); (replace how := how.below hb); (replace hBW := Nat.le_trans hBW hb.size); clear hb hX
    refine hK.out _ _ ?g9rs21 (fun hHeld => ?g9rt21)
    case g9rs21 => (try dsimp only); (first | exact HU.out.2 | exact ⟨(row.cell _).trans hcR, (row.cell _).trans hcD, (row.cell _).trans hcV⟩)
    try dsimp only at hHeld
    clear hK K
    try simp only [Act.put, pA, pB, pC]
    refine wpAnyF_ready [16] (by kernel_rfl) (by simp) ?_
    refine AllReadyF.cons 16 (o := ⟨some 42, .call { callee := .builtin .append, args := #[.tmp 39, .tmp 41], argTypes := #[22, 22] }, 22, "shred.go:57", #[⟨13, .data⟩, ⟨15, .data⟩, ⟨9, .chain⟩], none⟩) rfl (fun K hK => ?g9ro22) ?g9rm22
    case g9rm22 => exact AllReadyF.nil
    (refine step_append (B := p.B) rfl _ _ _ _ rfl ii (.int .i64 0) 8 Try.underlying22 hii hz0i hz1i hz2i rfl rfl (OW.own1' how hk) _ rfl 1 _ (src_rw (P := Try.prog) (tx := 22) Try.underlying22 rn15 1 1 rfl (by simp [Value.oneCell'])) (by simp only [maxLen]; omega) (by omega) hBW ?_; intro a16 cap16 W16 ho16 hc16 hn16); (replace row := row.chg hc16 (fun h => by have := h.2.1; omega)); (replace rx := rx.chg hc16 (fun h => by have := h.2.1; omega)); (replace htb := tb_push htb (j := k * 3 + 1) (by omega) (by rw [upd_ne _ _ (by omega)]; exact hn16) hch.size); (replace hch := hch.trans hc16 (fun i hi h => .inr (.inr ⟨_, by omega, h.1⟩))); (replace hBW := Nat.le_trans hBW hc16.size); (replace how := OW.push1 how hk (Nat.succ_pos _) ho16 hc16 hn16); clear ho16 hc16 hn16 rn15
    refine hK.out _ _ ?g9rs22 (fun hHeld => ?g9rt22)
    case g9rs22 => (try dsimp only); (first | exact HU.out.2 | exact ⟨(row.cell _).trans hcR, (row.cell _).trans hcD, (row.cell _).trans hcV⟩)
    try dsimp only at hHeld
    clear hK K
    try simp only [Act.put, pA, pB, pC]
    refine wpAnyF_ready [22] (by kernel_rfl) (by simp) ?_
    refine AllReadyF.cons 22 (o := ⟨some 48, .call { callee := .builtin .append, args := #[.tmp 46, .tmp 47], argTypes := #[44, 44] }, 44, "shred.go:57", #[⟨20, .data⟩, ⟨21, .data⟩, ⟨16, .chain⟩], none⟩) rfl (fun K hK => ?g9ro23) ?g9rm23
    case g9rm23 => exact AllReadyF.nil
    (refine step_nothing rfl _ _ _ _ rfl iv Try.underlying44 hiv hz1v rfl (OW.own2' how hk).le _ rfl ((Sl.nil (fun _ => True) _ 2 none).src (P := Try.prog) (tx := 44) Try.underlying44 (fun u h => by cases h)) ?_); (replace htb := tb_push htb (j := k * 3 + 2) (a' := aa (k * 3 + 2)) (W := w) (by omega) (fun g hg => .inl (by rw [upd_ne _ _ (by omega), upd_ne _ _ (by omega)]; exact hg)) (Nat.le_refl _)); (replace how := OW.same2 how)
    refine hK.out _ _ ?g9rs23 (fun hHeld => ?g9rt23)
    case g9rs23 => (try dsimp only); (first | exact HU.out.2 | exact ⟨(row.cell _).trans hcR, (row.cell _).trans hcD, (row.cell _).trans hcV⟩)
    try dsimp only at hHeld
    clear hK K
    try simp only [Act.put, pA, pB, pC]
    refine wpAnyF_ready [23] (by kernel_rfl) (by simp) ?_
    refine AllReadyF.last 23 (o := ⟨some 49, .nilCheck (.tmp 26), 0, "shred.go:57", #[⟨0, .data⟩, ⟨0, .phase⟩, { on := 1, ground := Go.Ground.textOnly Go.Departure.lateStores }, { on := 2, ground := Go.Ground.textOnly Go.Departure.lateStores }, ⟨3, .phase⟩, ⟨4, .phase⟩, ⟨5, .phase⟩, ⟨6, .phase⟩, ⟨7, .phase⟩, ⟨8, .phase⟩, ⟨9, .phase⟩, { on := 10, ground := Go.Ground.textOnly Go.Departure.lateStores }, { on := 11, ground := Go.Ground.textOnly Go.Departure.lateStoresUnsure }, { on := 12, ground := Go.Ground.textOnly Go.Departure.lateStoresUnsure }, ⟨13, .phase⟩, { on := 14, ground := Go.Ground.textOnly Go.Departure.lateStores }, { on := 15, ground := Go.Ground.textOnly Go.Departure.lateStoresUnsure }, ⟨16, .phase⟩, { on := 17, ground := Go.Ground.textOnly Go.Departure.lateStores }, { on := 18, ground := Go.Ground.textOnly Go.Departure.lateStoresUnsure }, { on := 19, ground := Go.Ground.textOnly Go.Departure.lateStoresUnsure }, ⟨20, .phase⟩, { on := 21, ground := Go.Ground.textOnly Go.Departure.lateStores }, ⟨22, .phase⟩], none⟩) rfl (by kernel_rfl) (fun K hK => ?g9ro24) ?g9rm24
    case g9rm24 => exact AllReadyF.nil
    (obtain ⟨c0, c1, c2⟩ := hHeld); (have qf := row.frozen); (have ql := row.lt); go_simp
    refine hK.out _ _ ?_
    clear hK K
    try simp only [Act.put, pA, pB, pC]
    refine wpAnyF_ready [24] (by kernel_rfl) (by simp) ?_
    refine AllReadyF.last 24 (o := ⟨some 50, .fieldAddr 46 (.tmp 49) 0, 0, "shred.go:57", #[⟨23, .data⟩, ⟨0, .phase⟩, { on := 1, ground := Go.Ground.textOnly Go.Departure.lateStores }, { on := 2, ground := Go.Ground.textOnly Go.Departure.lateStores }, ⟨3, .phase⟩, ⟨4, .phase⟩, ⟨5, .phase⟩, ⟨6, .phase⟩, ⟨7, .phase⟩, ⟨8, .phase⟩, ⟨9, .phase⟩, { on := 10, ground := Go.Ground.textOnly Go.Departure.lateStores }, { on := 11, ground := Go.Ground.textOnly Go.Departure.lateStoresUnsure }, { on := 12, ground := Go.Ground.textOnly Go.Departure.lateStoresUnsure }, ⟨13, .phase⟩, { on := 14, ground := Go.Ground.textOnly Go.Departure.lateStores }, { on := 15, ground := Go.Ground.textOnly Go.Departure.lateStoresUnsure }, ⟨16, .phase⟩, { on := 17, ground := Go.Ground.textOnly Go.Departure.lateStores }, { on := 18, ground := Go.Ground.textOnly Go.Departure.lateStoresUnsure }, { on := 19, ground := Go.Ground.textOnly Go.Departure.lateStoresUnsure }, ⟨20, .phase⟩, { on := 21, ground := Go.Ground.textOnly Go.Departure.lateStores }, ⟨22, .phase⟩], none⟩) rfl (by kernel_rfl) (fun K hK => ?g9ro25) ?g9rm25
    case g9rm25 => exact AllReadyF.nil
    go_simp
    refine hK.out _ _ ?_
    clear hK K
    try simp only [Act.put, pA, pB, pC]
    refine wpAnyF_ready [25] (by kernel_rfl) (by simp) ?_
    refine AllReadyF.last 25 (o := ⟨none, .store 22 (.tmp 50) (.tmp 35), 0, "shred.go:57", #[⟨24, .data⟩, ⟨9, .data⟩, ⟨22, .chain⟩, ⟨0, .phase⟩, { on := 1, ground := Go.Ground.textOnly Go.Departure.lateStores }, { on := 2, ground := Go.Ground.textOnly Go.Departure.lateStores }, ⟨3, .phase⟩, ⟨4, .phase⟩, ⟨5, .phase⟩, ⟨6, .phase⟩, ⟨7, .phase⟩, ⟨8, .phase⟩, ⟨9, .phase⟩, { on := 10, ground := Go.Ground.textOnly Go.Departure.lateStores }, { on := 11, ground := Go.Ground.textOnly Go.Departure.lateStoresUnsure }, { on := 12, ground := Go.Ground.textOnly Go.Departure.lateStoresUnsure }, ⟨13, .phase⟩, { on := 14, ground := Go.Ground.textOnly Go.Departure.lateStores }, { on := 15, ground := Go.Ground.textOnly Go.Departure.lateStoresUnsure }, ⟨16, .phase⟩, { on := 17, ground := Go.Ground.textOnly Go.Departure.lateStores }, { on := 18, ground := Go.Ground.textOnly Go.Departure.lateStoresUnsure }, { on := 19, ground := Go.Ground.textOnly Go.Departure.lateStoresUnsure }, ⟨20, .phase⟩, { on := 21, ground := Go.Ground.textOnly Go.Departure.lateStores }, ⟨22, .phase⟩], none⟩) rfl (by kernel_rfl) (fun K hK => ?g9ro26) ?g9rm26
    case g9rm26 => exact AllReadyF.nil
    go_simp
    refine hK.out _ _ ?_
    clear hK K
    try simp only [Act.put, pA, pB, pC]
    refine wpAnyF_ready [26] (by kernel_rfl) (by simp) ?_
    refine AllReadyF.last 26 (o := ⟨some 51, .nilCheck (.tmp 27), 0, "shred.go:57", #[⟨1, .data⟩, ⟨0, .phase⟩, ⟨1, .phase⟩, { on := 2, ground := Go.Ground.textOnly Go.Departure.lateStores }, ⟨3, .phase⟩, ⟨4, .phase⟩, ⟨5, .phase⟩, ⟨6, .phase⟩, ⟨7, .phase⟩, ⟨8, .phase⟩, ⟨9, .phase⟩, ⟨10, .phase⟩, ⟨11, .phase⟩, ⟨12, .phase⟩, ⟨13, .phase⟩, ⟨14, .phase⟩, ⟨15, .phase⟩, ⟨16, .phase⟩, { on := 17, ground := Go.Ground.textOnly Go.Departure.lateStores }, { on := 18, ground := Go.Ground.textOnly Go.Departure.lateStoresUnsure }, { on := 19, ground := Go.Ground.textOnly Go.Departure.lateStoresUnsure }, ⟨20, .phase⟩, { on := 21, ground := Go.Ground.textOnly Go.Departure.lateStores }, ⟨22, .phase⟩, ⟨23, .phase⟩, ⟨24, .phase⟩, ⟨25, .phase⟩], none⟩) rfl (by kernel_rfl) (fun K hK => ?g9ro27) ?g9rm27
    case g9rm27 => exact AllReadyF.nil
    go_simp
    refine hK.out _ _ ?_
    clear hK K
    try simp only [Act.put, pA, pB, pC]
    refine wpAnyF_ready [27] (by kernel_rfl) (by simp) ?_
    refine AllReadyF.last 27 (o := ⟨some 52, .fieldAddr 46 (.tmp 51) 1, 0, "shred.go:57", #[⟨26, .data⟩, ⟨0, .phase⟩, ⟨1, .phase⟩, { on := 2, ground := Go.Ground.textOnly Go.Departure.lateStores }, ⟨3, .phase⟩, ⟨4, .phase⟩, ⟨5, .phase⟩, ⟨6, .phase⟩, ⟨7, .phase⟩, ⟨8, .phase⟩, ⟨9, .phase⟩, ⟨10, .phase⟩, ⟨11, .phase⟩, ⟨12, .phase⟩, ⟨13, .phase⟩, ⟨14, .phase⟩, ⟨15, .phase⟩, ⟨16, .phase⟩, { on := 17, ground := Go.Ground.textOnly Go.Departure.lateStores }, { on := 18, ground := Go.Ground.textOnly Go.Departure.lateStoresUnsure }, { on := 19, ground := Go.Ground.textOnly Go.Departure.lateStoresUnsure }, ⟨20, .phase⟩, { on := 21, ground := Go.Ground.textOnly Go.Departure.lateStores }, ⟨22, .phase⟩, ⟨23, .phase⟩, ⟨24, .phase⟩, ⟨25, .phase⟩], none⟩) rfl (by kernel_rfl) (fun K hK => ?g9ro28) ?g9rm28
    case g9rm28 => exact AllReadyF.nil
    go_simp
    refine hK.out _ _ ?_
    clear hK K
    try simp only [Act.put, pA, pB, pC]
    refine wpAnyF_ready [28] (by kernel_rfl) (by simp) ?_
    refine AllReadyF.last 28 (o := ⟨none, .store 22 (.tmp 52) (.tmp 42), 0, "shred.go:57", #[⟨27, .data⟩, ⟨16, .data⟩, ⟨25, .chain⟩, ⟨0, .phase⟩, ⟨1, .phase⟩, { on := 2, ground := Go.Ground.textOnly Go.Departure.lateStores }, ⟨3, .phase⟩, ⟨4, .phase⟩, ⟨5, .phase⟩, ⟨6, .phase⟩, ⟨7, .phase⟩, ⟨8, .phase⟩, ⟨9, .phase⟩, ⟨10, .phase⟩, ⟨11, .phase⟩, ⟨12, .phase⟩, ⟨13, .phase⟩, ⟨14, .phase⟩, ⟨15, .phase⟩, ⟨16, .phase⟩, { on := 17, ground := Go.Ground.textOnly Go.Departure.lateStores }, { on := 18, ground := Go.Ground.textOnly Go.Departure.lateStoresUnsure }, { on := 19, ground := Go.Ground.textOnly Go.Departure.lateStoresUnsure }, ⟨20, .phase⟩, { on := 21, ground := Go.Ground.textOnly Go.Departure.lateStores }, ⟨22, .phase⟩, ⟨23, .phase⟩, ⟨24, .phase⟩, ⟨25, .phase⟩], none⟩) rfl (by kernel_rfl) (fun K hK => ?g9ro29) ?g9rm29
    case g9rm29 => exact AllReadyF.nil
    go_simp
    refine hK.out _ _ ?_
    clear hK K
    try simp only [Act.put, pA, pB, pC]
    refine wpAnyF_ready [29] (by kernel_rfl) (by simp) ?_
    refine AllReadyF.last 29 (o := ⟨some 53, .nilCheck (.tmp 28), 0, "shred.go:57", #[⟨2, .data⟩, ⟨0, .phase⟩, ⟨1, .phase⟩, ⟨2, .phase⟩, ⟨3, .phase⟩, ⟨4, .phase⟩, ⟨5, .phase⟩, ⟨6, .phase⟩, ⟨7, .phase⟩, ⟨8, .phase⟩, ⟨9, .phase⟩, ⟨10, .phase⟩, ⟨11, .phase⟩, ⟨12, .phase⟩, ⟨13, .phase⟩, ⟨14, .phase⟩, ⟨15, .phase⟩, ⟨16, .phase⟩, ⟨17, .phase⟩, ⟨18, .phase⟩, ⟨19, .phase⟩, ⟨20, .phase⟩, ⟨21, .phase⟩, ⟨22, .phase⟩, ⟨23, .phase⟩, ⟨24, .phase⟩, ⟨25, .phase⟩, ⟨26, .phase⟩, ⟨27, .phase⟩, ⟨28, .phase⟩], none⟩) rfl (by kernel_rfl) (fun K hK => ?g9ro30) ?g9rm30
    case g9rm30 => exact AllReadyF.nil
    go_simp
    refine hK.out _ _ ?_
    clear hK K
    try simp only [Act.put, pA, pB, pC]
    refine wpAnyF_ready [30] (by kernel_rfl) (by simp) ?_
    refine AllReadyF.last 30 (o := ⟨some 54, .fieldAddr 46 (.tmp 53) 2, 0, "shred.go:57", #[⟨29, .data⟩, ⟨0, .phase⟩, ⟨1, .phase⟩, ⟨2, .phase⟩, ⟨3, .phase⟩, ⟨4, .phase⟩, ⟨5, .phase⟩, ⟨6, .phase⟩, ⟨7, .phase⟩, ⟨8, .phase⟩, ⟨9, .phase⟩, ⟨10, .phase⟩, ⟨11, .phase⟩, ⟨12, .phase⟩, ⟨13, .phase⟩, ⟨14, .phase⟩, ⟨15, .phase⟩, ⟨16, .phase⟩, ⟨17, .phase⟩, ⟨18, .phase⟩, ⟨19, .phase⟩, ⟨20, .phase⟩, ⟨21, .phase⟩, ⟨22, .phase⟩, ⟨23, .phase⟩, ⟨24, .phase⟩, ⟨25, .phase⟩, ⟨26, .phase⟩, ⟨27, .phase⟩, ⟨28, .phase⟩], none⟩) rfl (by kernel_rfl) (fun K hK => ?g9ro31) ?g9rm31
    case g9rm31 => exact AllReadyF.nil
    go_simp
    refine hK.out _ _ ?_
    clear hK K
    try simp only [Act.put, pA, pB, pC]
    refine wpAnyF_ready [31] (by kernel_rfl) (by simp) ?_
    refine AllReadyF.last 31 (o := ⟨none, .store 44 (.tmp 54) (.tmp 48), 0, "shred.go:57", #[⟨30, .data⟩, ⟨22, .data⟩, ⟨28, .chain⟩, ⟨0, .phase⟩, ⟨1, .phase⟩, ⟨2, .phase⟩, ⟨3, .phase⟩, ⟨4, .phase⟩, ⟨5, .phase⟩, ⟨6, .phase⟩, ⟨7, .phase⟩, ⟨8, .phase⟩, ⟨9, .phase⟩, ⟨10, .phase⟩, ⟨11, .phase⟩, ⟨12, .phase⟩, ⟨13, .phase⟩, ⟨14, .phase⟩, ⟨15, .phase⟩, ⟨16, .phase⟩, ⟨17, .phase⟩, ⟨18, .phase⟩, ⟨19, .phase⟩, ⟨20, .phase⟩, ⟨21, .phase⟩, ⟨22, .phase⟩, ⟨23, .phase⟩, ⟨24, .phase⟩, ⟨25, .phase⟩, ⟨26, .phase⟩, ⟨27, .phase⟩, ⟨28, .phase⟩], none⟩) rfl (by kernel_rfl) (fun K hK => ?g9ro32) ?g9rm32
    case g9rm32 => exact AllReadyF.nil
    go_simp
    refine hK.out _ _ ?_
    clear hK K
    try simp only [Act.put, pA, pB, pC]
    refine wpAnyF_done (by kernel_rfl) ?_
    have hfin := CT.fin (L := cut4 G k ++ [⟨r, d, none⟩]) hk row HT.out.size hH HT.out.lt (by simpa only [celR_snoc, celD_snoc, celV_none, List.length_append, List.length_singleton] using how)
    simp only [celV_none, List.length_append, List.length_singleton] at hfin
    have hch2 := ((hch.setCell (p := ⟨p.bc, k * 3, none⟩) (.inr (.inr (.inl rfl))) (.slice a9 ((cut4 G k).length + 1) cap9)).setCell (p := ⟨p.bc, k * 3 + 1, none⟩) (.inr (.inr (.inl rfl))) (.slice a16 ((cut4 G k).length + 1) cap16)).setCell (p := ⟨p.bc, k * 3 + 2, none⟩) (.inr (.inr (.inl rfl))) (.slice (aa (k * 3 + 2)) (celV (cut4 G k)).length (cc (k * 3 + 2)))
    have hne : p.bx ≠ p.bc := hbd.2.2.1
    have rx2 := ((rx.other (p := ⟨p.bc, k * 3, none⟩) hne (.slice a9 ((cut4 G k).length + 1) cap9)).other (p := ⟨p.bc, k * 3 + 1, none⟩) hne (.slice a16 ((cut4 G k).length + 1) cap16)).other (p := ⟨p.bc, k * 3 + 2, none⟩) hne (.slice (aa (k * 3 + 2)) (celV (cut4 G k)).length (cc (k * 3 + 2)))
    clear row rx how hch
    go_wp2_with fail
    refine bodyPost_end (v := .tuple #[]) (by simp [results, Try.results51, go_sem]) rfl ?_
    have hok : ∀ b, b < w.heap.size → p.ok b → ¬ p.ch aa b ∧ p.ok b := fun b _ hb => ⟨H.out.okch hb, hb⟩
    refine ⟨rfl, _, ⟨by rw [mny_add hk _ ho']; exact rx2, H.out.s.go hch2 hok (by decide), H.out.kids.go hch2 hok, H.out.lvs.go hch2 hok, ⟨_, _, hfin.congr (fun j _ => cut4_add _ ho' j)⟩, by have := hch2.size; have := hbd; omega⟩, hch2, htb⟩
   case g9rm20 =>
   refine AllReadyF.cons 15 (o := ⟨some 41, .buildSlice 22 1 #[(0, .tmp 40)], 22, "shred.go:57", #[⟨14, .data⟩], none⟩) rfl (fun K hK => ?g9ro33) ?g9rm33
   case g9ro33 =>
    go_simp; refine gen_w (fun X hX => ?_); (have hb := OW.nb how hX); (have rn15 := OW.nr how hX); (have hl15 := fun j g (hj : j < p.m * 3) hg => (how.lt j g hj hg).1); (replace row := row.below hb); (replace rx := rx.below hb); (replace hch := hch.trans (chF hb) (fun i hi h => h.elim)); (try replace rn8 := rn8.below hb); (replace how := how.below hb); (replace hBW := Nat.le_trans hBW hb.size); clear hb hX
    refine hK.out _ _ ?g9rs33 (fun hHeld => ?g9rt33)
    case g9rs33 => (try dsimp only); (first | exact HU.out.2 | exact ⟨(row.cell _).trans hcR, (row.cell _).trans hcD, (row.cell _).trans hcV⟩)
    try dsimp only at hHeld
    clear hK K
    try simp only [Act.put, pA, pB, pC]
    refine wpAnyF_ready [9] (by kernel_rfl) (by simp) ?_
    refine AllReadyF.cons 9 (o := ⟨some 35, .call { callee := .builtin .append, args := #[.tmp 32, .tmp 34], argTypes := #[22, 22] }, 22, "shred.go:57", #[⟨6, .data⟩, ⟨8, .data⟩], none⟩) rfl (fun K hK => ?g9ro34) ?g9rm34
    case g9rm34 => exact AllReadyF.nil
    (refine step_append (B := p.B) rfl _ _ _ _ rfl ii (.int .i64 0) 8 Try.underlying22 hii hz0i hz1i hz2i rfl rfl (OW.own0 how hk) _ rfl 1 _ (src_rw (P := Try.prog) (tx := 22) Try.underlying22 rn8 1 1 rfl (by simp [Value.oneCell'])) (by simp only [maxLen]; omega) (by omega) hBW ?_; intro a9 cap9 W9 ho9 hc9 hn9);  (replace rn15 := rn15.chg hc9 (fun h => Nat.lt_irrefl _ (hl15 _ _ (by omega) h.1))) ; (replace row := row.chg hc9 (fun h => by have := h.2.1; omega)); (replace rx := rx.chg hc9 (fun h => by have := h.2.1; omega)); (replace htb := tb_push htb (j := k * 3) (by omega) hn9 hch.size); (replace hch := hch.trans hc9 (fun i hi h => .inr (.inr ⟨_, by omega, h.1⟩))); (replace hBW := Nat.le_trans hBW hc9.size); (replace how := OW.push0 how hk (Nat.succ_pos _) ho9 hc9 hn9); clear ho9 hc9 hn9 rn8
    refine hK.out _ _ ?g9rs34 (fun hHeld => ?g9rt34)
    case g9rs34 => (try dsimp only); (first | exact HU.out.2 | exact ⟨(row.cell _).trans hcR, (row.cell _).trans hcD, (row.cell _).trans hcV⟩)
    try dsimp only at hHeld
    clear hK K
    try simp only [Act.put, pA, pB, pC]
    refine wpAnyF_ready [16] (by kernel_rfl) (by simp) ?_
    refine AllReadyF.cons 16 (o := ⟨some 42, .call { callee := .builtin .append, args := #[.tmp 39, .tmp 41], argTypes := #[22, 22] }, 22, "shred.go:57", #[⟨13, .data⟩, ⟨15, .data⟩, ⟨9, .chain⟩], none⟩) rfl (fun K hK => ?g9ro35) ?g9rm35
    case g9rm35 => exact AllReadyF.nil
    (refine step_append (B := p.B) rfl _ _ _ _ rfl ii (.int .i64 0) 8 Try.underlying22 hii hz0i hz1i hz2i rfl rfl (OW.own1' how hk) _ rfl 1 _ (src_rw (P := Try.prog) (tx := 22) Try.underlying22 rn15 1 1 rfl (by simp [Value.oneCell'])) (by simp only [maxLen]; omega) (by omega) hBW ?_; intro a16 cap16 W16 ho16 hc16 hn16); (replace row := row.chg hc16 (fun h => by have := h.2.1; omega)); (replace rx := rx.chg hc16 (fun h => by have := h.2.1; omega)); (replace htb := tb_push htb (j := k * 3 + 1) (by omega) (by rw [upd_ne _ _ (by omega)]; exact hn16) hch.size); (replace hch := hch.trans hc16 (fun i hi h => .inr (.inr ⟨_, by omega, h.1⟩))); (replace hBW := Nat.le_trans hBW hc16.size); (replace how := OW.push1 how hk (Nat.succ_pos _) ho16 hc16 hn16); clear ho16 hc16 hn16 rn15
    refine hK.out _ _ ?g9rs35 (fun hHeld => ?g9rt35)
    case g9rs35 => (try dsimp only); (first | exact HU.out.2 | exact ⟨(row.cell _).trans hcR, (row.cell _).trans hcD, (row.cell _).trans hcV⟩)
    try dsimp only at hHeld
    clear hK K
    try simp only [Act.put, pA, pB, pC]
    refine wpAnyF_ready [22] (by kernel_rfl) (by simp) ?_
    refine AllReadyF.cons 22 (o := ⟨some 48, .call { callee := .builtin .append, args := #[.tmp 46, .tmp 47], argTypes := #[44, 44] }, 44, "shred.go:57", #[⟨20, .data⟩, ⟨21, .data⟩, ⟨16, .chain⟩], none⟩) rfl (fun K hK => ?g9ro36) ?g9rm36
    case g9rm36 => exact AllReadyF.nil
    (refine step_nothing rfl _ _ _ _ rfl iv Try.underlying44 hiv hz1v rfl (OW.own2' how hk).le _ rfl ((Sl.nil (fun _ => True) _ 2 none).src (P := Try.prog) (tx := 44) Try.underlying44 (fun u h => by cases h)) ?_); (replace htb := tb_push htb (j := k * 3 + 2) (a' := aa (k * 3 + 2)) (W := w) (by omega) (fun g hg => .inl (by rw [upd_ne _ _ (by omega), upd_ne _ _ (by omega)]; exact hg)) (Nat.le_refl _)); (replace how := OW.same2 how)
    refine hK.out _ _ ?g9rs36 (fun hHeld => ?g9rt36)
    case g9rs36 => (try dsimp only); (first | exact HU.out.2 | exact ⟨(row.cell _).trans hcR, (row.cell _).trans hcD, (row.cell _).trans hcV⟩)
    try dsimp only at hHeld
    clear hK K
    try simp only [Act.put, pA, pB, pC]
    refine wpAnyF_ready [23] (by kernel_rfl) (by simp) ?_
    refine AllReadyF.last 23 (o := ⟨some 49, .nilCheck (.tmp 26), 0, "shred.go:57", #[⟨0, .data⟩, ⟨0, .phase⟩, { on := 1, ground := Go.Ground.textOnly Go.Departure.lateStores }, { on := 2, ground := Go.Ground.textOnly Go.Departure.lateStores }, ⟨3, .phase⟩, ⟨4, .phase⟩, ⟨5, .phase⟩, ⟨6, .phase⟩, ⟨7, .phase⟩, ⟨8, .phase⟩, ⟨9, .phase⟩, { on := 10, ground := Go.Ground.textOnly Go.Departure.lateStores }, { on := 11, ground := Go.Ground.textOnly Go.Departure.lateStoresUnsure }, { on := 12, ground := Go.Ground.textOnly Go.Departure.lateStoresUnsure }, ⟨13, .phase⟩, { on := 14, ground := Go.Ground.textOnly Go.Departure.lateStores }, { on := 15, ground := Go.Ground.textOnly Go.Departure.lateStoresUnsure }, ⟨16, .phase⟩, { on := 17, ground := Go.Ground.textOnly Go.Departure.lateStores }, { on := 18, ground := Go.Ground.textOnly Go.Departure.lateStoresUnsure }, { on := 19, ground := Go.Ground.textOnly Go.Departure.lateStoresUnsure }, ⟨20, .phase⟩, { on := 21, ground := Go.Ground.textOnly Go.Departure.lateStores }, ⟨22, .phase⟩], none⟩) rfl (by kernel_rfl) (fun K hK => ?g9ro37) ?g9rm37
    case g9rm37 => exact AllReadyF.nil
    (obtain ⟨c0, c1, c2⟩ := hHeld); (have qf := row.frozen); (have ql := row.lt); go_simp
    refine hK.out _ _ ?_
    clear hK K
    try simp only [Act.put, pA, pB, pC]
    refine wpAnyF_ready [24] (by kernel_rfl) (by simp) ?_
    refine AllReadyF.last 24 (o := ⟨some 50, .fieldAddr 46 (.tmp 49) 0, 0, "shred.go:57", #[⟨23, .data⟩, ⟨0, .phase⟩, { on := 1, ground := Go.Ground.textOnly Go.Departure.lateStores }, { on := 2, ground := Go.Ground.textOnly Go.Departure.lateStores }, ⟨3, .phase⟩, ⟨4, .phase⟩, ⟨5, .phase⟩, ⟨6, .phase⟩, ⟨7, .phase⟩, ⟨8, .phase⟩, ⟨9, .phase⟩, { on := 10, ground := Go.Ground.textOnly Go.Departure.lateStores }, { on := 11, ground := Go.Ground.textOnly Go.Departure.lateStoresUnsure }, { on := 12, ground := Go.Ground.textOnly Go.Departure.lateStoresUnsure }, ⟨13, .phase⟩, { on := 14, ground := Go.Ground.textOnly Go.Departure.lateStores }, { on := 15, ground := Go.Ground.textOnly Go.Departure.lateStoresUnsure }, ⟨16, .phase⟩, { on := 17, ground := Go.Ground.textOnly Go.Departure.lateStores }, { on := 18, ground := Go.Ground.textOnly Go.Departure.lateStoresUnsure }, { on := 19, ground := Go.Ground.textOnly Go.Departure.lateStoresUnsure }, ⟨20, .phase⟩, { on := 21, ground := Go.Ground.textOnly Go.Departure.lateStores }, ⟨22, .phase⟩], none⟩) rfl (by kernel_rfl) (fun K hK => ?g9ro38) ?g9rm38
    case g9rm38 => exact AllReadyF.nil
    go_simp
    refine hK.out _ _ ?_
    clear hK K
    try simp only [Act.put, pA, pB, pC]
    refine wpAnyF_ready [25] (by kernel_rfl) (by simp) ?_
    refine AllReadyF.last 25 (o := ⟨none, .store 22 (.tmp 50) (.tmp 35), 0, "shred.go:57", #[⟨24, .data⟩, ⟨9, .data⟩, ⟨22, .chain⟩, ⟨0, .phase⟩, { on := 1, ground := Go.Ground.textOnly Go.Departure.lateStores }, { on := 2, ground := Go.Ground.textOnly Go.Departure.lateStores }, ⟨3, .phase⟩, ⟨4, .phase⟩, ⟨5, .phase⟩, ⟨6, .phase⟩, ⟨7, .phase⟩, ⟨8, .phase⟩, ⟨9, .phase⟩, { on := 10, ground := Go.Ground.textOnly Go.Departure.lateStores }, { on := 11, ground := Go.Ground.textOnly Go.Departure.lateStoresUnsure }, { on := 12, ground := Go.Ground.textOnly Go.Departure.lateStoresUnsure }, ⟨13, .phase⟩, { on := 14, ground := Go.Ground.textOnly Go.Departure.lateStores }, { on := 15, ground := Go.Ground.textOnly Go.Departure.lateStoresUnsure }, ⟨16, .phase⟩, { on := 17, ground := Go.Ground.textOnly Go.Departure.lateStores }, { on := 18, ground := Go.Ground.textOnly Go.Departure.lateStoresUnsure }, { on := 19, ground := Go.Ground.textOnly Go.Departure.lateStoresUnsure }, ⟨20, .phase⟩, { on := 21, ground := Go.Ground.textOnly Go.Departure.lateStores }, ⟨22, .phase⟩], none⟩) rfl (by kernel_rfl) (fun K hK => ?g9ro39) ?g9rm39
    case g9rm39 => exact AllReadyF.nil
    go_simp
    refine hK.out _ _ ?_
    clear hK K
    try simp only [Act.put, pA, pB, pC]
    refine wpAnyF_ready [26] (by kernel_rfl) (by simp) ?_
    refine AllReadyF.last 26 (o := ⟨some 51, .nilCheck (.tmp 27), 0, "shred.go:57", #[⟨1, .data⟩, ⟨0, .phase⟩, ⟨1, .phase⟩, { on := 2, ground := Go.Ground.textOnly Go.Departure.lateStores }, ⟨3, .phase⟩, ⟨4, .phase⟩, ⟨5, .phase⟩, ⟨6, .phase⟩, ⟨7, .phase⟩, ⟨8, .phase⟩, ⟨9, .phase⟩, ⟨10, .phase⟩, ⟨11, .phase⟩, ⟨12, .phase⟩, ⟨13, .phase⟩, ⟨14, .phase⟩, ⟨15, .phase⟩, ⟨16, .phase⟩, { on := 17, ground := Go.Ground.textOnly Go.Departure.lateStores }, { on := 18, ground := Go.Ground.textOnly Go.Departure.lateStoresUnsure }, { on := 19, ground := Go.Ground.textOnly Go.Departure.lateStoresUnsure }, ⟨20, .phase⟩, { on := 21, ground := Go.Ground.textOnly Go.Departure.lateStores }, ⟨22, .phase⟩, ⟨23, .phase⟩, ⟨24, .phase⟩, ⟨25, .phase⟩], none⟩) rfl (by kernel_rfl) (fun K hK => ?g9ro40) ?g9rm40
    case g9rm40 => exact AllReadyF.nil
    go_simp
    refine hK.out _ _ ?_
    clear hK K
    try simp only [Act.put, pA, pB, pC]
    refine wpAnyF_ready [27] (by kernel_rfl) (by simp) ?_
    refine AllReadyF.last 27 (o := ⟨some 52, .fieldAddr 46 (.tmp 51) 1, 0, "shred.go:57", #[⟨26, .data⟩, ⟨0, .phase⟩, ⟨1, .phase⟩, { on := 2, ground := Go.Ground.textOnly Go.Departure.lateStores }, ⟨3, .phase⟩, ⟨4, .phase⟩, ⟨5, .phase⟩, ⟨6, .phase⟩, ⟨7, .phase⟩, ⟨8, .phase⟩, ⟨9, .phase⟩, ⟨10, .phase⟩, ⟨11, .phase⟩, ⟨12, .phase⟩, ⟨13, .phase⟩, ⟨14, .phase⟩, ⟨15, .phase⟩, ⟨16, .phase⟩, { on := 17, ground := Go.Ground.textOnly Go.Departure.lateStores }, { on := 18, ground := Go.Ground.textOnly Go.Departure.lateStoresUnsure }, { on := 19, ground := Go.Ground.textOnly Go.Departure.lateStoresUnsure }, ⟨20, .phase⟩, { on := 21, ground := Go.Ground.textOnly Go.Departure.lateStores }, ⟨22, .phase⟩, ⟨23, .phase⟩, ⟨24, .phase⟩, ⟨25, .phase⟩], none⟩) rfl (by kernel_rfl) (fun K hK => ?g9ro41) ?g9rm41
    case g9rm41 => exact AllReadyF.nil
    go_simp
    refine hK.out _ _ ?_
    clear hK K
    try simp only [Act.put, pA, pB, pC]
    refine wpAnyF_ready [28] (by kernel_rfl) (by simp) ?_
    refine AllReadyF.last 28 (o := ⟨none, .store 22 (.tmp 52) (.tmp 42), 0, "shred.go:57", #[⟨27, .data⟩, ⟨16, .data⟩, ⟨25, .chain⟩, ⟨0, .phase⟩, ⟨1, .phase⟩, { on := 2, ground := Go.Ground.textOnly Go.Departure.lateStores }, ⟨3, .phase⟩, ⟨4, .phase⟩, ⟨5, .phase⟩, ⟨6, .phase⟩, ⟨7, .phase⟩, ⟨8, .phase⟩, ⟨9, .phase⟩, ⟨10, .phase⟩, ⟨11, .phase⟩, ⟨12, .phase⟩, ⟨13, .phase⟩, ⟨14, .phase⟩, ⟨15, .phase⟩, ⟨16, .phase⟩, { on := 17, ground := Go.Ground.textOnly Go.Departure.lateStores }, { on := 18, ground := Go.Ground.textOnly Go.Departure.lateStoresUnsure }, { on := 19, ground := Go.Ground.textOnly Go.Departure.lateStoresUnsure }, ⟨20, .phase⟩, { on := 21, ground := Go.Ground.textOnly Go.Departure.lateStores }, ⟨22, .phase⟩, ⟨23, .phase⟩, ⟨24, .phase⟩, ⟨25, .phase⟩], none⟩) rfl (by kernel_rfl) (fun K hK => ?g9ro42) ?g9rm42
    case g9rm42 => exact AllReadyF.nil
    go_simp
    refine hK.out _ _ ?_
    clear hK K
    try simp only [Act.put, pA, pB, pC]
    refine wpAnyF_ready [29] (by kernel_rfl) (by simp) ?_
    refine AllReadyF.last 29 (o := ⟨some 53, .nilCheck (.tmp 28), 0, "shred.go:57", #[⟨2, .data⟩, ⟨0, .phase⟩, ⟨1, .phase⟩, ⟨2, .phase⟩, ⟨3, .phase⟩, ⟨4, .phase⟩, ⟨5, .phase⟩, ⟨6, .phase⟩, ⟨7, .phase⟩, ⟨8, .phase⟩, ⟨9, .phase⟩, ⟨10, .phase⟩, ⟨11, .phase⟩, ⟨12, .phase⟩, ⟨13, .phase⟩, ⟨14, .phase⟩, ⟨15, .phase⟩, ⟨16, .phase⟩, ⟨17, .phase⟩, ⟨18, .phase⟩, ⟨19, .phase⟩, ⟨20, .phase⟩, ⟨21, .phase⟩, ⟨22, .phase⟩, ⟨23, .phase⟩, ⟨24, .phase⟩, ⟨25, .phase⟩, ⟨26, .phase⟩, ⟨27, .phase⟩, ⟨28, .phase⟩], none⟩) rfl (by kernel_rfl) (fun K hK => ?g9ro43) ?g9rm43
    case g9rm43 => exact AllReadyF.nil
    go_simp
    refine hK.out _ _ ?_
    clear hK K
    try simp only [Act.put, pA, pB, pC]
    refine wpAnyF_ready [30] (by kernel_rfl) (by simp) ?_
    refine AllReadyF.last 30 (o := ⟨some 54, .fieldAddr 46 (.tmp 53) 2, 0, "shred.go:57", #[⟨29, .data⟩, ⟨0, .phase⟩, ⟨1, .phase⟩, ⟨2, .phase⟩, ⟨3, .phase⟩, ⟨4, .phase⟩, ⟨5, .phase⟩, ⟨6, .phase⟩, ⟨7, .phase⟩, ⟨8, .phase⟩, ⟨9, .phase⟩, ⟨10, .phase⟩, ⟨11, .phase⟩, ⟨12, .phase⟩, ⟨13, .phase⟩, ⟨14, .phase⟩, ⟨15, .phase⟩, ⟨16, .phase⟩, ⟨17, .phase⟩, ⟨18, .phase⟩, ⟨19, .phase⟩, ⟨20, .phase⟩, ⟨21, .phase⟩, ⟨22, .phase⟩, ⟨23, .phase⟩, ⟨24, .phase⟩, ⟨25, .phase⟩, ⟨26, .phase⟩, ⟨27, .phase⟩, ⟨28, .phase⟩], none⟩) rfl (by kernel_rfl) (fun K hK => ?g9ro44) ?g9rm44
    case g9rm44 => exact AllReadyF.nil
    go_simp
    refine hK.out _ _ ?_
    clear hK K
    try simp only [Act.put, pA, pB, pC]
    refine wpAnyF_ready [31] (by kernel_rfl) (by simp) ?_
    refine AllReadyF.last 31 (o := ⟨none, .store 44 (.tmp 54) (.tmp 48), 0, "shred.go:57", #[⟨30, .data⟩, ⟨22, .data⟩, ⟨28, .chain⟩, ⟨0, .phase⟩, ⟨1, .phase⟩, ⟨2, .phase⟩, ⟨3, .phase⟩, ⟨4, .phase⟩, ⟨5, .phase⟩, ⟨6, .phase⟩, ⟨7, .phase⟩, ⟨8, .phase⟩, ⟨9, .phase⟩, ⟨10, .phase⟩, ⟨11, .phase⟩, ⟨12, .phase⟩, ⟨13, .phase⟩, ⟨14, .phase⟩, ⟨15, .phase⟩, ⟨16, .phase⟩, ⟨17, .phase⟩, ⟨18, .phase⟩, ⟨19, .phase⟩, ⟨20, .phase⟩, ⟨21, .phase⟩, ⟨22, .phase⟩, ⟨23, .phase⟩, ⟨24, .phase⟩, ⟨25, .phase⟩, ⟨26, .phase⟩, ⟨27, .phase⟩, ⟨28, .phase⟩], none⟩) rfl (by kernel_rfl) (fun K hK => ?g9ro45) ?g9rm45
    case g9rm45 => exact AllReadyF.nil
    go_simp
    refine hK.out _ _ ?_
    clear hK K
    try simp only [Act.put, pA, pB, pC]
    refine wpAnyF_done (by kernel_rfl) ?_
    have hfin := CT.fin (L := cut4 G k ++ [⟨r, d, none⟩]) hk row HT.out.size hH HT.out.lt (by simpa only [celR_snoc, celD_snoc, celV_none, List.length_append, List.length_singleton] using how)
    simp only [celV_none, List.length_append, List.length_singleton] at hfin
    have hch2 := ((hch.setCell (p := ⟨p.bc, k * 3, none⟩) (.inr (.inr (.inl rfl))) (.slice a9 ((cut4 G k).length + 1) cap9)).setCell (p := ⟨p.bc, k * 3 + 1, none⟩) (.inr (.inr (.inl rfl))) (.slice a16 ((cut4 G k).length + 1) cap16)).setCell (p := ⟨p.bc, k * 3 + 2, none⟩) (.inr (.inr (.inl rfl))) (.slice (aa (k * 3 + 2)) (celV (cut4 G k)).length (cc (k * 3 + 2)))
    have hne : p.bx ≠ p.bc := hbd.2.2.1
    have rx2 := ((rx.other (p := ⟨p.bc, k * 3, none⟩) hne (.slice a9 ((cut4 G k).length + 1) cap9)).other (p := ⟨p.bc, k * 3 + 1, none⟩) hne (.slice a16 ((cut4 G k).length + 1) cap16)).other (p := ⟨p.bc, k * 3 + 2, none⟩) hne (.slice (aa (k * 3 + 2)) (celV (cut4 G k)).length (cc (k * 3 + 2)))
    clear row rx how hch
    go_wp2_with fail
    refine bodyPost_end (v := .tuple #[]) (by simp [results, Try.results51, go_sem]) rfl ?_
    have hok : ∀ b, b < w.heap.size → p.ok b → ¬ p.ch aa b ∧ p.ok b := fun b _ hb => ⟨H.out.okch hb, hb⟩
    refine ⟨rfl, _, ⟨by rw [mny_add hk _ ho']; exact rx2, H.out.s.go hch2 hok (by decide), H.out.kids.go hch2 hok, H.out.lvs.go hch2 hok, ⟨_, _, hfin.congr (fun j _ => cut4_add _ ho' j)⟩, by have := hch2.size; have := hbd; omega⟩, hch2, htb⟩
   case g9rm33 =>
   exact AllReadyF.nil
  case g9rm19 =>
  refine AllReadyF.cons 15 (o := ⟨some 41, .buildSlice 22 1 #[(0, .tmp 40)], 22, "shred.go:57", #[⟨14, .data⟩], none⟩) rfl (fun K hK => ?g9ro46) ?g9rm46
  case g9ro46 =>
   go_simp; refine gen_w (fun X hX => ?_); (have hb := OW.nb how hX); (have rn15 := OW.nr how hX); (have hl15 := fun j g (hj : j < p.m * 3) hg => (how.lt j g hj hg).1); (replace row := row.below hb); (replace rx := rx.below hb); (replace hch := hch.trans (chF hb) (fun i hi h => h.elim)); (try replace rn8 := rn8.below hb); (replace how := how.below hb); (replace hBW := Nat.le_trans hBW hb.size); clear hb hX
   refine hK.out _ _ ?g9rs46 (fun hHeld => ?g9rt46)
   case g9rs46 => (try dsimp only); (first | exact HU.out.2 | exact ⟨(row.cell _).trans hcR, (row.cell _).trans hcD, (row.cell _).trans hcV⟩)
   try dsimp only at hHeld
   clear hK K
   try simp only [Act.put, pA, pB, pC]
   refine wpAnyF_ready [8] (by kernel_rfl) (by simp) ?_
   refine AllReadyF.cons 8 (o := ⟨some 34, .buildSlice 22 1 #[(0, .tmp 33)], 22, "shred.go:57", #[⟨7, .data⟩], none⟩) rfl (fun K hK => ?g9ro47) ?g9rm47
   case g9rm47 => exact AllReadyF.nil
   go_simp; refine gen_w (fun X hX => ?_); (have hb := OW.nb how hX); (have rn8 := OW.nr how hX); (replace row := row.below hb); (replace rx := rx.below hb); (replace hch := hch.trans (chF hb) (fun i hi h => h.elim));  (replace rn15 := rn15.below hb) ; (replace how := how.below hb); (replace hBW := Nat.le_trans hBW hb.size); clear hb hX
   refine hK.out _ _ ?g9rs47 (fun hHeld => ?g9rt47)
   case g9rs47 => (try dsimp only); (first | exact HU.out.2 | exact ⟨(row.cell _).trans hcR, (row.cell _).trans hcD, (row.cell _).trans hcV⟩)
   try dsimp only at hHeld
   clear hK K
   try simp only [Act.put, pA, pB, pC]
   refine wpAnyF_ready [9] (by kernel_rfl) (by simp) ?_
   refine AllReadyF.cons 9 (o := ⟨some 35, .call { callee := .builtin .append, args := #[.tmp 32, .tmp 34], argTypes := #[22, 22] }, 22, "shred.go:57", #[⟨6, .data⟩, ⟨8, .data⟩], none⟩) rfl (fun K hK => ?g9ro48) ?g9rm48
   case g9rm48 => exact AllReadyF.nil
   (refine step_append (B := p.B) rfl _ _ _ _ rfl ii (.int .i64 0) 8 Try.underlying22 hii hz0i hz1i hz2i rfl rfl (OW.own0 how hk) _ rfl 1 _ (src_rw (P := Try.prog) (tx := 22) Try.underlying22 rn8 1 1 rfl (by simp [Value.oneCell'])) (by simp only [maxLen]; omega) (by omega) hBW ?_; intro a9 cap9 W9 ho9 hc9 hn9);  (replace rn15 := rn15.chg hc9 (fun h => Nat.lt_irrefl _ (hl15 _ _ (by omega) h.1))) ; (replace row := row.chg hc9 (fun h => by have := h.2.1; omega)); (replace rx := rx.chg hc9 (fun h => by have := h.2.1; omega)); (replace htb := tb_push htb (j := k * 3) (by omega) hn9 hch.size); (replace hch := hch.trans hc9 (fun i hi h => .inr (.inr ⟨_, by omega, h.1⟩))); (replace hBW := Nat.le_trans hBW hc9.size); (replace how := OW.push0 how hk (Nat.succ_pos _) ho9 hc9 hn9); clear ho9 hc9 hn9 rn8
   refine hK.out _ _ ?g9rs48 (fun hHeld => ?g9rt48)
   case g9rs48 => (try dsimp only); (first | exact HU.out.2 | exact ⟨(row.cell _).trans hcR, (row.cell _).trans hcD, (row.cell _).trans hcV⟩)
   try dsimp only at hHeld
   clear hK K
   try simp only [Act.put, pA, pB, pC]
   refine wpAnyF_ready [16] (by kernel_rfl) (by simp) ?_
   refine AllReadyF.cons 16 (o := ⟨some 42, .call { callee := .builtin .append, args := #[.tmp 39, .tmp 41], argTypes := #[22, 22] }, 22, "shred.go:57", #[⟨13, .data⟩, ⟨15, .data⟩, ⟨9, .chain⟩], none⟩) rfl (fun K hK => ?g9ro49) ?g9rm49
   case g9rm49 => exact AllReadyF.nil
   (refine step_append (B := p.B) rfl _ _ _ _ rfl ii (.int .i64 0) 8 Try.underlying22 hii hz0i hz1i hz2i rfl rfl (OW.own1' how hk) _ rfl 1 _ (src_rw (P := Try.prog) (tx := 22) Try.underlying22 rn15 1 1 rfl (by simp [Value.oneCell'])) (by simp only [maxLen]; omega) (by omega) hBW ?_; intro a16 cap16 W16 ho16 hc16 hn16); (replace row := row.chg hc16 (fun h => by have := h.2.1; omega)); (replace rx := rx.chg hc16 (fun h => by have := h.2.1; omega)); (replace htb := tb_push htb (j := k * 3 + 1) (by omega) (by rw [upd_ne _ _ (by omega)]; exact hn16) hch.size); (replace hch := hch.trans hc16 (fun i hi h => .inr (.inr ⟨_, by omega, h.1⟩))); (replace hBW := Nat.le_trans hBW hc16.size); (replace how := OW.push1 how hk (Nat.succ_pos _) ho16 hc16 hn16); clear ho16 hc16 hn16 rn15
   refine hK.out _ _ ?g9rs49 (fun hHeld => ?g9rt49)
   case g9rs49 => (try dsimp only); (first | exact HU.out.2 | exact ⟨(row.cell _).trans hcR, (row.cell _).trans hcD, (row.cell _).trans hcV⟩)
   try dsimp only at hHeld
   clear hK K
   try simp only [Act.put, pA, pB, pC]
   refine wpAnyF_ready [22] (by kernel_rfl) (by simp) ?_
   refine AllReadyF.cons 22 (o := ⟨some 48, .call { callee := .builtin .append, args := #[.tmp 46, .tmp 47], argTypes := #[44, 44] }, 44, "shred.go:57", #[⟨20, .data⟩, ⟨21, .data⟩, ⟨16, .chain⟩], none⟩) rfl (fun K hK => ?g9ro50) ?g9rm50
   case g9rm50 => exact AllReadyF.nil
   (refine step_nothing rfl _ _ _ _ rfl iv Try.underlying44 hiv hz1v rfl (OW.own2' how hk).le _ rfl ((Sl.nil (fun _ => True) _ 2 none).src (P := Try.prog) (tx := 44) Try.underlying44 (fun u h => by cases h)) ?_); (replace htb := tb_push htb (j := k * 3 + 2) (a' := aa (k * 3 + 2)) (W := w) (by omega) (fun g hg => .inl (by rw [upd_ne _ _ (by omega), upd_ne _ _ (by omega)]; exact hg)) (Nat.le_refl _)); (replace how := OW.same2 how)
   refine hK.out _ _ ?g9rs50 (fun hHeld => ?g9rt50)
   case g9rs50 => (try dsimp only); (first | exact HU.out.2 | exact ⟨(row.cell _).trans hcR, (row.cell _).trans hcD, (row.cell _).trans hcV⟩)
   try dsimp only at hHeld
   clear hK K
   try simp only [Act.put, pA, pB, pC]
   refine wpAnyF_ready [23] (by kernel_rfl) (by simp) ?_
   refine AllReadyF.last 23 (o := ⟨some 49, .nilCheck (.tmp 26), 0, "shred.go:57", #[⟨0, .data⟩, ⟨0, .phase⟩, { on := 1, ground := Go.Ground.textOnly Go.Departure.lateStores }, { on := 2, ground := Go.Ground.textOnly Go.Departure.lateStores }, ⟨3, .phase⟩, ⟨4, .phase⟩, ⟨5, .phase⟩, ⟨6, .phase⟩, ⟨7, .phase⟩, ⟨8, .phase⟩, ⟨9, .phase⟩, { on := 10, ground := Go.Ground.textOnly Go.Departure.lateStores }, { on := 11, ground := Go.Ground.textOnly Go.Departure.lateStoresUnsure }, { on := 12, ground := Go.Ground.textOnly Go.Departure.lateStoresUnsure }, ⟨13, .phase⟩, { on := 14, ground := Go.Ground.textOnly Go.Departure.lateStores }, { on := 15, ground := Go.Ground.textOnly Go.Departure.lateStoresUnsure }, ⟨16, .phase⟩, { on := 17, ground := Go.Ground.textOnly Go.Departure.lateStores }, { on := 18, ground := Go.Ground.textOnly Go.Departure.lateStoresUnsure }, { on := 19, ground := Go.Ground.textOnly Go.Departure.lateStoresUnsure }, ⟨20, .phase⟩, { on := 21, ground := Go.Ground.textOnly Go.Departure.lateStores }, ⟨22, .phase⟩], none⟩) rfl (by kernel_rfl) (fun K hK => ?g9ro51) ?g9rm51
   case g9rm51 => exact AllReadyF.nil
   (obtain ⟨c0, c1, c2⟩ := hHeld); (have qf := row.frozen); (have ql := row.lt); go_simp
   refine hK.out _ _ ?_
   clear hK K
   try simp only [Act.put, pA, pB, pC]
   refine wpAnyF_ready [24] (by kernel_rfl) (by simp) ?_
   refine AllReadyF.last 24 (o := ⟨some 50, .fieldAddr 46 (.tmp 49) 0, 0, "shred.go:57", #[⟨23, .data⟩, ⟨0, .phase⟩, { on := 1, ground := Go.Ground.textOnly Go.Departure.lateStores }, { on := 2, ground := Go.Ground.textOnly Go.Departure.lateStores }, ⟨3, .phase⟩, ⟨4, .phase⟩, ⟨5, .phase⟩, ⟨6, .phase⟩, ⟨7, .phase⟩, ⟨8, .phase⟩, ⟨9, .phase⟩, { on := 10, ground := Go.Ground.textOnly Go.Departure.lateStores }, { on := 11, ground := Go.Ground.textOnly Go.Departure.lateStoresUnsure }, { on := 12, ground := Go.Ground.textOnly Go.Departure.lateStoresUnsure }, ⟨13, .phase⟩, { on := 14, ground := Go.Ground.textOnly Go.Departure.lateStores }, { on := 15, ground := Go.Ground.textOnly Go.Departure.lateStoresUnsure }, ⟨16, .phase⟩, { on := 17, ground := Go.Ground.textOnly Go.Departure.lateStores }, { on := 18, ground := Go.Ground.textOnly Go.Departure.lateStoresUnsure }, { on := 19, ground := Go.Ground.textOnly Go.Departure.lateStoresUnsure }, ⟨20, .phase⟩, { on := 21, ground := Go.Ground.textOnly Go.Departure.lateStores }, ⟨22, .phase⟩], none⟩) rfl (by kernel_rfl) (fun K hK => ?g9ro52) ?g9rm52
   case g9rm52 => exact AllReadyF.nil
   go_simp
   refine hK.out _ _ ?_
   clear hK K
   try simp only [Act.put, pA, pB, pC]
   refine wpAnyF_ready [25] (by kernel_rfl) (by simp) ?_
   refine AllReadyF.last 25 (o := ⟨none, .store 22 (.tmp 50) (.tmp 35), 0, "shred.go:57", #[⟨24, .data⟩, ⟨9, .data⟩, ⟨22, .chain⟩, ⟨0, .phase⟩, { on := 1, ground := Go.Ground.textOnly Go.Departure.lateStores }, { on := 2, ground := Go.Ground.textOnly Go.Departure.lateStores }, ⟨3, .phase⟩, ⟨4, .phase⟩, ⟨5, .phase⟩, ⟨6, .phase⟩, ⟨7, .phase⟩, ⟨8, .phase⟩, ⟨9, .phase⟩, { on := 10, ground := Go.Ground.textOnly Go.Departure.lateStores }, { on := 11, ground := Go.Ground.textOnly Go.Departure.lateStoresUnsure }, { on := 12, ground := Go.Ground.textOnly Go.Departure.lateStoresUnsure }, ⟨13, .phase⟩, { on := 14, ground := Go.Ground.textOnly Go.Departure.lateStores }, { on := 15, ground := Go.Ground.textOnly Go.Departure.lateStoresUnsure }, ⟨16, .phase⟩, { on := 17, ground := Go.Ground.textOnly Go.Departure.lateStores }, { on := 18, ground := Go.Ground.textOnly Go.Departure.lateStoresUnsure }, { on := 19, ground := Go.Ground.textOnly Go.Departure.lateStoresUnsure }, ⟨20, .phase⟩, { on := 21, ground := Go.Ground.textOnly Go.Departure.lateStores }, ⟨22, .phase⟩], none⟩) rfl (by kernel_rfl) (fun K hK => ?g9ro53) ?g9rm53
   case g9rm53 => exact AllReadyF.nil
   go_simp
   refine hK.out _ _ ?_
   clear hK K
   try simp only [Act.put, pA, pB, pC]
   refine wpAnyF_ready [26] (by kernel_rfl) (by simp) ?_
   refine AllReadyF.last 26 (o := ⟨some 51, .nilCheck (.tmp 27), 0, "shred.go:57", #[⟨1, .data⟩, ⟨0, .phase⟩, ⟨1, .phase⟩, { on := 2, ground := Go.Ground.textOnly Go.Departure.lateStores }, ⟨3, .phase⟩, ⟨4, .phase⟩, ⟨5, .phase⟩, ⟨6, .phase⟩, ⟨7, .phase⟩, ⟨8, .phase⟩, ⟨9, .phase⟩, ⟨10, .phase⟩, ⟨11, .phase⟩, ⟨12, .phase⟩, ⟨13, .phase⟩, ⟨14, .phase⟩, ⟨15, .phase⟩, ⟨16, .phase⟩, { on := 17, ground := Go.Ground.textOnly Go.Departure.lateStores }, { on := 18, ground := Go.Ground.textOnly Go.Departure.lateStoresUnsure }, { on := 19, ground := Go.Ground.textOnly Go.Departure.lateStoresUnsure }, ⟨20, .phase⟩, { on := 21, ground := Go.Ground.textOnly Go.Departure.lateStores }, ⟨22, .phase⟩, ⟨23, .phase⟩, ⟨24, .phase⟩, ⟨25, .phase⟩], none⟩) rfl (by kernel_rfl) (fun K hK => ?g9ro54) ?g9rm54
   case g9rm54 => exact AllReadyF.nil
   go_simp
   refine hK.out _ _ ?_
   clear hK K
   try simp only [Act.put, pA, pB, pC]
   refine wpAnyF_ready [27] (by kernel_rfl) (by simp) ?_
   refine AllReadyF.last 27 (o := ⟨some 52, .fieldAddr 46 (.tmp 51) 1, 0, "shred.go:57", #[⟨26, .data⟩, ⟨0, .phase⟩, ⟨1, .phase⟩, { on := 2, ground := Go.Ground.textOnly Go.Departure.lateStores }, ⟨3, .phase⟩, ⟨4, .phase⟩, ⟨5, .phase⟩, ⟨6, .phase⟩, ⟨7, .phase⟩, ⟨8, .phase⟩, ⟨9, .phase⟩, ⟨10, .phase⟩, ⟨11, .phase⟩, ⟨12, .phase⟩, ⟨13, .phase⟩, ⟨14, .phase⟩, ⟨15, .phase⟩, ⟨16, .phase⟩, { on := 17, ground := Go.Ground.textOnly Go.Departure.lateStores }, { on := 18, ground := Go.Ground.textOnly Go.Departure.lateStoresUnsure }, { on := 19, ground := Go.Ground.textOnly Go.Departure.lateStoresUnsure }, ⟨20, .phase⟩, { on := 21, ground := Go.Ground.textOnly Go.Departure.lateStores }, ⟨22, .phase⟩, ⟨23, .phase⟩, ⟨24, .phase⟩, ⟨25, .phase⟩], none⟩) rfl (by kernel_rfl) (fun K hK => ?g9ro55) ?g9rm55
   case g9rm55 => exact AllReadyF.nil
   go_simp
   refine hK.out _ _ ?_
   clear hK K
   try simp only [Act.put, pA, pB, pC]
   refine wpAnyF_ready [28] (by kernel_rfl) (by simp) ?_
   refine AllReadyF.last 28 (o := ⟨none, .store 22 (.tmp 52) (.tmp 42), 0, "shred.go:57", #[⟨27, .data⟩, ⟨16, .data⟩, ⟨25, .chain⟩, ⟨0, .phase⟩, ⟨1, .phase⟩, { on := 2, ground := Go.Ground.textOnly Go.Departure.lateStores }, ⟨3, .phase⟩, ⟨4, .phase⟩, ⟨5, .phase⟩, ⟨6, .phase⟩, ⟨7, .phase⟩, ⟨8, .phase⟩, ⟨9, .phase⟩, ⟨10, .phase⟩, ⟨11, .phase⟩, ⟨12, .phase⟩, ⟨13, .phase⟩, ⟨14, .phase⟩, ⟨15, .phase⟩, ⟨16, .phase⟩, { on := 17, ground := Go.Ground.textOnly Go.Departure.lateStores }, { on := 18, ground := Go.Ground.textOnly Go.Departure.lateStoresUnsure }, { on := 19, ground := Go.Ground.textOnly Go.Departure.lateStoresUnsure }, ⟨20, .phase⟩, { on := 21, ground := Go.Ground.textOnly Go.Departure.lateStores }, ⟨22, .phase⟩, ⟨23, .phase⟩, ⟨24, .phase⟩, ⟨25, .phase⟩], none⟩) rfl (by kernel_rfl) (fun K hK => ?g9ro56) ?g9rm56
   case g9rm56 => exact AllReadyF.nil
   go_simp
   refine hK.out _ _ ?_
   clear hK K
   try simp only [Act.put, pA, pB, pC]
   refine wpAnyF_ready [29] (by kernel_rfl) (by simp) ?_
   refine AllReadyF.last 29 (o := ⟨some 53, .nilCheck (.tmp 28), 0, "shred.go:57", #[⟨2, .data⟩, ⟨0, .phase⟩, ⟨1, .phase⟩, ⟨2, .phase⟩, ⟨3, .phase⟩, ⟨4, .phase⟩, ⟨5, .phase⟩, ⟨6, .phase⟩, ⟨7, .phase⟩, ⟨8, .phase⟩, ⟨9, .phase⟩, ⟨10, .phase⟩, ⟨11, .phase⟩, ⟨12, .phase⟩, ⟨13, .phase⟩, ⟨14, .phase⟩, ⟨15, .phase⟩, ⟨16, .phase⟩, ⟨17, .phase⟩, ⟨18, .phase⟩, ⟨19, .phase⟩, ⟨20, .phase⟩, ⟨21, .phase⟩, ⟨22, .phase⟩, ⟨23, .phase⟩, ⟨24, .phase⟩, ⟨25, .phase⟩, ⟨26, .phase⟩, ⟨27, .phase⟩, ⟨28, .phase⟩], none⟩) rfl (by kernel_rfl) (fun K hK => ?g9ro57) ?g9rm57
   case g9rm57 => exact AllReadyF.nil
   go_simp
   refine hK.out _ _ ?_
   clear hK K
   try simp only [Act.put, pA, pB, pC]
   refine wpAnyF_ready [30] (by kernel_rfl) (by simp) ?_
   refine AllReadyF.last 30 (o := ⟨some 54, .fieldAddr 46 (.tmp 53) 2, 0, "shred.go:57", #[⟨29, .data⟩, ⟨0, .phase⟩, ⟨1, .phase⟩, ⟨2, .phase⟩, ⟨3, .phase⟩, ⟨4, .phase⟩, ⟨5, .phase⟩, ⟨6, .phase⟩, ⟨7, .phase⟩, ⟨8, .phase⟩, ⟨9, .phase⟩, ⟨10, .phase⟩, ⟨11, .phase⟩, ⟨12, .phase⟩, ⟨13, .phase⟩, ⟨14, .phase⟩, ⟨15, .phase⟩, ⟨16, .phase⟩, ⟨17, .phase⟩, ⟨18, .phase⟩, ⟨19, .phase⟩, ⟨20, .phase⟩, ⟨21, .phase⟩, ⟨22, .phase⟩, ⟨23, .phase⟩, ⟨24, .phase⟩, ⟨25, .phase⟩, ⟨26, .phase⟩, ⟨27, .phase⟩, ⟨28, .phase⟩], none⟩) rfl (by kernel_rfl) (fun K hK => ?g9ro58) ?g9rm58
   case g9rm58 => exact AllReadyF.nil
   go_simp
   refine hK.out _ _ ?_
   clear hK K
   try simp only [Act.put, pA, pB, pC]
   refine wpAnyF_ready [31] (by kernel_rfl) (by simp) ?_
   refine AllReadyF.last 31 (o := ⟨none, .store 44 (.tmp 54) (.tmp 48), 0, "shred.go:57", #[⟨30, .data⟩, ⟨22, .data⟩, ⟨28, .chain⟩, ⟨0, .phase⟩, ⟨1, .phase⟩, ⟨2, .phase⟩, ⟨3, .phase⟩, ⟨4, .phase⟩, ⟨5, .phase⟩, ⟨6, .phase⟩, ⟨7, .phase⟩, ⟨8, .phase⟩, ⟨9, .phase⟩, ⟨10, .phase⟩, ⟨11, .phase⟩, ⟨12, .phase⟩, ⟨13, .phase⟩, ⟨14, .phase⟩, ⟨15, .phase⟩, ⟨16, .phase⟩, ⟨17, .phase⟩, ⟨18, .phase⟩, ⟨19, .phase⟩, ⟨20, .phase⟩, ⟨21, .phase⟩, ⟨22, .phase⟩, ⟨23, .phase⟩, ⟨24, .phase⟩, ⟨25, .phase⟩, ⟨26, .phase⟩, ⟨27, .phase⟩, ⟨28, .phase⟩], none⟩) rfl (by kernel_rfl) (fun K hK => ?g9ro59) ?g9rm59
   case g9rm59 => exact AllReadyF.nil
   go_simp
   refine hK.out _ _ ?_
   clear hK K
   try simp only [Act.put, pA, pB, pC]
   refine wpAnyF_done (by kernel_rfl) ?_
   have hfin := CT.fin (L := cut4 G k ++ [⟨r, d, none⟩]) hk row HT.out.size hH HT.out.lt (by simpa only [celR_snoc, celD_snoc, celV_none, List.length_append, List.length_singleton] using how)
   simp only [celV_none, List.length_append, List.length_singleton] at hfin
   have hch2 := ((hch.setCell (p := ⟨p.bc, k * 3, none⟩) (.inr (.inr (.inl rfl))) (.slice a9 ((cut4 G k).length + 1) cap9)).setCell (p := ⟨p.bc, k * 3 + 1, none⟩) (.inr (.inr (.inl rfl))) (.slice a16 ((cut4 G k).length + 1) cap16)).setCell (p := ⟨p.bc, k * 3 + 2, none⟩) (.inr (.inr (.inl rfl))) (.slice (aa (k * 3 + 2)) (celV (cut4 G k)).length (cc (k * 3 + 2)))
   have hne : p.bx ≠ p.bc := hbd.2.2.1
   have rx2 := ((rx.other (p := ⟨p.bc, k * 3, none⟩) hne (.slice a9 ((cut4 G k).length + 1) cap9)).other (p := ⟨p.bc, k * 3 + 1, none⟩) hne (.slice a16 ((cut4 G k).length + 1) cap16)).other (p := ⟨p.bc, k * 3 + 2, none⟩) hne (.slice (aa (k * 3 + 2)) (celV (cut4 G k)).length (cc (k * 3 + 2)))
   clear row rx how hch
   go_wp2_with fail
   refine bodyPost_end (v := .tuple #[]) (by simp [results, Try.results51, go_sem]) rfl ?_
   have hok : ∀ b, b < w.heap.size → p.ok b → ¬ p.ch aa b ∧ p.ok b := fun b _ hb => ⟨H.out.okch hb, hb⟩
   refine ⟨rfl, _, ⟨by rw [mny_add hk _ ho']; exact rx2, H.out.s.go hch2 hok (by decide), H.out.kids.go hch2 hok, H.out.lvs.go hch2 hok, ⟨_, _, hfin.congr (fun j _ => cut4_add _ ho' j)⟩, by have := hch2.size; have := hbd; omega⟩, hch2, htb⟩
  case g9rm46 =>
  exact AllReadyF.nil
end Go.Proofs.Ytibhcibcfommeaa
namespace Go.Proofs.Ytibhcibcfommeaa
open Go.RowKit Go.Shr
set_option maxHeartbeats 2000000 in
set_option maxRecDepth 100000 in
theorem cell_some (p : SP) (G : Nat → List Cel) (aa : Nat → Option Addr) (k : Nat) (hk : k < p.m) (r d : Nat) (x : Vc) (w0 : World) (w : World) (h0 : Str p w0 G aa) (hb0 : Below w0.heap.size w0 w) (rv : Rw w w0.heap.size #[.int .i64 x.n, .string x.s] 54) :
  Calls Try.prog 51 #[.pointer (some ⟨p.bx, 0, none⟩), .int .i64 (k : Int), .int .i64 (r : Int), .int .i64 (d : Int), .slice (some ⟨w0.heap.size, 0, none⟩) 1 1] w (CellQ p (upd G k (G k ++ [⟨r, d, some x⟩])) aa w) := by
 obtain ⟨ii, hii, hz0i, hz1i, hz2i⟩ := info_parts info_i
 obtain ⟨iv, hiv, hz0v, hz1v, hz2v⟩ := info_parts info_vl
 have h := h0.below hb0
 obtain ⟨cur, cc, ht0⟩ := h0.tab
 have hlv : ∀ j g, j < p.m * 3 → blk (aa j) g → g < w0.heap.size := fun j g hj hg => (ht0.ow.lt j g hj hg).1
 have ht := ht0.below hb0
 have RV := Lib.hid rv
 clear ht0 h0 hb0 rv
 have hbd := h.bds
 have q3 : w.cell? ⟨p.bx, 3, none⟩ = some (.slice (some ⟨p.bc, 0, none⟩) p.m p.m) := h.row.cell 3
 have u0 := ht.cell0 hk
 have hlen : (cut4 G k).length = min 4000 (G k).length := by unfold cut4; rw [List.length_take]
 have hk0 : (0 : Int) ≤ (k : Int) := by omega
 have hk1 : (k : Int) < (p.m : Int) := by omega
 have H := Lib.hid h; have HT := Lib.hid ht
 by_cases ho : 4000 ≤ (G k).length
 ·have hl4 : ((cut4 G k).length : Int) ≥ 4000 := by omega
  have q4 : w.cell? ⟨p.bx, 4, none⟩ = some (.bool (mny p.m G)) := h.row.cell 4
  have qf := h.row.frozen
  have ql := h.row.lt
  clear h ht hlen
  go_enter Try.func51, Try.ntmps51
  go_wp2_with fail
  refine bodyPost_end (v := .tuple #[]) (by simp [results, Try.results51, go_sem]) rfl ?_
  have hch : Chg (fun b => b = p.bx) w (w.setCell ⟨p.bx, 4, none⟩ (.bool true)) := (Chg.refl (fun b => b = p.bx) w).setCell (p := ⟨p.bx, 4, none⟩) (.inr rfl) _
  have hok : ∀ b, b < w.heap.size → p.ok b → ¬ (fun b => b = p.bx) b ∧ p.ok b := fun b _ hb => ⟨hb.2.1, hb⟩
  refine ⟨rfl, aa, ⟨?_, H.out.s.go hch hok (by decide), H.out.kids.go hch hok, H.out.lvs.go hch hok, ⟨cur, cc, (HT.out.chg hch (fun g _ hg h2 => by have h3 : g = p.bx := h2; omega)).congr (fun j _ => cut4_over _ ho j)⟩, by simpa using hbd⟩, hch.mono (fun b _ hb => .inl hb), fun b hb => .inl hb⟩
  have := H.out.row.set 4 (.bool true)
  rw [mny_over hk _ ho]
  exact this
 ·have ho' : (G k).length < 4000 := by omega
  have hl4 : ¬ ((cut4 G k).length : Int) ≥ 4000 := by omega
  have hlm : (cut4 G k).length ≤ 4000 := by omega
  have u1 := ht.cell1 hk
  have u2 := ht.cell2 hk
  have hvl := celV_le (cut4 G k)
  have hH := ht.hds
  have hcR := (hH (k * 3) (by omega)).trans (by rw [(n0 _ k).1])
  have hcD := (hH (k * 3 + 1) (by omega)).trans (by rw [(n1 _ k).1])
  have hcV := (hH (k * 3 + 2) (by omega)).trans (by rw [(n2 _ k).1])
  have HU := Lib.hid (And.intro q3 (And.intro u0 (And.intro u1 u2)))
  clear h hlen
  have hCL : ∀ c : Cel, (cut4 G k ++ [c]).length = (cut4 G k).length + 1 := fun c => by simp
  go_enter Try.func51, Try.ntmps51
  go_wp2_with fail
  refine wp_region_F (fun w' => w'.cell? ⟨p.bc, k * 3, none⟩ = some (.slice (aa (k * 3)) (cut4 G k).length (cc (k * 3))) ∧ w'.cell? ⟨p.bc, k * 3 + 1, none⟩ = some (.slice (aa (k * 3 + 1)) (cut4 G k).length (cc (k * 3 + 1))) ∧ w'.cell? ⟨p.bc, k * 3 + 2, none⟩ = some (.slice (aa (k * 3 + 2)) (celV (cut4 G k)).length (cc (k * 3 + 2)))) [1, 2, 23, 24, 25, 26, 27, 28, 29, 30, 31] (by kernel_rfl) ?g10rgS (fun hHeld => ?g10rgR)
  case g10rgS => (try dsimp only); (first | exact HU.out.2 | exact ⟨(row.cell _).trans hcR, (row.cell _).trans hcD, (row.cell _).trans hcV⟩)
  try dsimp only at hHeld
  obtain ⟨W, hW⟩ : ∃ W, W = w.drew := ⟨_, rfl⟩; rw [← hW] at hHeld ⊢; (have row := Rw.ren hW HT.out.row.drew); (have how : OW p.B W (p.m * 3) tyC szC aa (nC (cut4 G)) cc (xC (cut4 G)) := by rw [hW]; exact HT.out.ow.below (b0 w).drew); (have rx := Rw.ren hW H.out.row.drew); (have hch : Chg (p.ch aa) w W := by rw [hW]; exact (Chg.refl (p.ch aa) w).drew); (have hBW : p.B ≤ W.heap.size := by rw [hW]; exact hbd.2.2.2.2.2); (have htb : ∀ b, p.tb aa b → p.tb aa b ∨ w.heap.size ≤ b := fun b hb => .inl hb); (have rv := Rw.ren hW RV.out.drew); clear hW
  refine wpAnyF_take0 1 (oi := ⟨some 27, .move (.tmp 10), 109, "shred.go:57", #[{ on := 25, ground := Go.Ground.gcOnly Go.Departure.lateStores }], none⟩) (v := ?g10rv1) rfl (by kernel_rfl) (fun _ _ _ h => h) (by rfl) ?g10ry1 ?g10rr1
  case g10ry1 => intro w0' _; go_simp; try with_reducible rfl
  try simp only [Act.put, pA, pB, pC]
  refine wpAnyF_take0 2 (oi := ⟨some 28, .move (.tmp 10), 109, "shred.go:57", #[{ on := 28, ground := Go.Ground.gcOnly Go.Departure.lateStores }], none⟩) (v := ?g10rv2) rfl (by kernel_rfl) (fun _ _ _ h => h) (by rfl) ?g10ry2 ?g10rr2
  case g10ry2 => intro w0' _; go_simp; try with_reducible rfl
  try simp only [Act.put, pA, pB, pC]
  refine wpAnyF_mono (F := [23, 24, 25, 26, 27, 28, 29, 30, 31]) (by simp) _ _ _ _ ?_
  refine wpAnyF_take 0 (oi := ⟨some 26, .move (.tmp 10), 109, "shred.go:57", #[], none⟩) (v := ?g10rv3) rfl (by kernel_rfl) (fun _ _ _ h => h) (by assumption) (by rfl) ?g10ry3 ?g10rr3
  case g10ry3 => intro w hSw; obtain ⟨s1, s2, s3⟩ := hSw; go_simp; try with_reducible rfl
  try simp only [Act.put, pA, pB, pC]
  refine wpAnyF_take 3 (oi := ⟨some 29, .move (.tmp 10), 109, "shred.go:57", #[], none⟩) (v := ?g10rv4) rfl (by kernel_rfl) (fun _ _ _ h => h) (by assumption) (by rfl) ?g10ry4 ?g10rr4
  case g10ry4 => intro w hSw; obtain ⟨s1, s2, s3⟩ := hSw; go_simp; try with_reducible rfl
  try simp only [Act.put, pA, pB, pC]
  refine wpAnyF_take 4 (oi := ⟨some 30, .nilCheck (.tmp 29), 0, "shred.go:57", #[⟨3, .data⟩], none⟩) (v := ?g10rv5) rfl (by kernel_rfl) (fun _ _ _ h => h) (by assumption) (by rfl) ?g10ry5 ?g10rr5
  case g10ry5 => intro w hSw; obtain ⟨s1, s2, s3⟩ := hSw; go_simp; try with_reducible rfl
  try simp only [Act.put, pA, pB, pC]
  refine wpAnyF_take 5 (oi := ⟨some 31, .fieldAddr 46 (.tmp 30) 0, 0, "shred.go:57", #[⟨4, .data⟩], none⟩) (v := ?g10rv6) rfl (by kernel_rfl) (fun _ _ _ h => h) (by assumption) (by rfl) ?g10ry6 ?g10rr6
  case g10ry6 => intro w hSw; obtain ⟨s1, s2, s3⟩ := hSw; go_simp; try with_reducible rfl
  try simp only [Act.put, pA, pB, pC]
  refine wpAnyF_take 6 (oi := ⟨some 32, .load 22 (.tmp 31), 22, "shred.go:57", #[⟨5, .data⟩], none⟩) (v := ?g10rv7) rfl (by kernel_rfl) (fun _ _ _ h => h) (by assumption) (by rfl) ?g10ry7 ?g10rr7
  case g10ry7 => intro w hSw; obtain ⟨s1, s2, s3⟩ := hSw; go_simp; try with_reducible rfl
  try simp only [Act.put, pA, pB, pC]
  refine wpAnyF_take 7 (oi := ⟨some 33, .move (.tmp 2), 3, "shred.go:57", #[], none⟩) (v := ?g10rv8) rfl (by kernel_rfl) (fun _ _ _ h => h) (by assumption) (by rfl) ?g10ry8 ?g10rr8
  case g10ry8 => intro w hSw; obtain ⟨s1, s2, s3⟩ := hSw; go_simp; try with_reducible rfl
  try simp only [Act.put, pA, pB, pC]
  refine wpAnyF_take 10 (oi := ⟨some 36, .move (.tmp 10), 109, "shred.go:57", #[], none⟩) (v := ?g10rv9) rfl (by kernel_rfl) (fun _ _ _ h => h) (by assumption) (by rfl) ?g10ry9 ?g10rr9
  case g10ry9 => intro w hSw; obtain ⟨s1, s2, s3⟩ := hSw; go_simp; try with_reducible rfl
  try simp only [Act.put, pA, pB, pC]
  refine wpAnyF_take 11 (oi := ⟨some 37, .nilCheck (.tmp 36), 0, "shred.go:57", #[⟨10, .data⟩], none⟩) (v := ?g10rv10) rfl (by kernel_rfl) (fun _ _ _ h => h) (by assumption) (by rfl) ?g10ry10 ?g10rr10
  case g10ry10 => intro w hSw; obtain ⟨s1, s2, s3⟩ := hSw; go_simp; try with_reducible rfl
  try simp only [Act.put, pA, pB, pC]
  refine wpAnyF_take 12 (oi := ⟨some 38, .fieldAddr 46 (.tmp 37) 1, 0, "shred.go:57", #[⟨11, .data⟩], none⟩) (v := ?g10rv11) rfl (by kernel_rfl) (fun _ _ _ h => h) (by assumption) (by rfl) ?g10ry11 ?g10rr11
  case g10ry11 => intro w hSw; obtain ⟨s1, s2, s3⟩ := hSw; go_simp; try with_reducible rfl
  try simp only [Act.put, pA, pB, pC]
  refine wpAnyF_take 13 (oi := ⟨some 39, .load 22 (.tmp 38), 22, "shred.go:57", #[⟨12, .data⟩], none⟩) (v := ?g10rv12) rfl (by kernel_rfl) (fun _ _ _ h => h) (by assumption) (by rfl) ?g10ry12 ?g10rr12
  case g10ry12 => intro w hSw; obtain ⟨s1, s2, s3⟩ := hSw; go_simp; try with_reducible rfl
  try simp only [Act.put, pA, pB, pC]
  refine wpAnyF_take 14 (oi := ⟨some 40, .move (.tmp 3), 3, "shred.go:57", #[], none⟩) (v := ?g10rv13) rfl (by kernel_rfl) (fun _ _ _ h => h) (by assumption) (by rfl) ?g10ry13 ?g10rr13
  case g10ry13 => intro w hSw; obtain ⟨s1, s2, s3⟩ := hSw; go_simp; try with_reducible rfl
  try simp only [Act.put, pA, pB, pC]
  refine wpAnyF_take 17 (oi := ⟨some 43, .move (.tmp 10), 109, "shred.go:57", #[], none⟩) (v := ?g10rv14) rfl (by kernel_rfl) (fun _ _ _ h => h) (by assumption) (by rfl) ?g10ry14 ?g10rr14
  case g10ry14 => intro w hSw; obtain ⟨s1, s2, s3⟩ := hSw; go_simp; try with_reducible rfl
  try simp only [Act.put, pA, pB, pC]
  refine wpAnyF_take 18 (oi := ⟨some 44, .nilCheck (.tmp 43), 0, "shred.go:57", #[⟨17, .data⟩], none⟩) (v := ?g10rv15) rfl (by kernel_rfl) (fun _ _ _ h => h) (by assumption) (by rfl) ?g10ry15 ?g10rr15
  case g10ry15 => intro w hSw; obtain ⟨s1, s2, s3⟩ := hSw; go_simp; try with_reducible rfl
  try simp only [Act.put, pA, pB, pC]
  refine wpAnyF_take 19 (oi := ⟨some 45, .fieldAddr 46 (.tmp 44) 2, 0, "shred.go:57", #[⟨18, .data⟩], none⟩) (v := ?g10rv16) rfl (by kernel_rfl) (fun _ _ _ h => h) (by assumption) (by rfl) ?g10ry16 ?g10rr16
  case g10ry16 => intro w hSw; obtain ⟨s1, s2, s3⟩ := hSw; go_simp; try with_reducible rfl
  try simp only [Act.put, pA, pB, pC]
  refine wpAnyF_take 20 (oi := ⟨some 46, .load 44 (.tmp 45), 44, "shred.go:57", #[⟨19, .data⟩], none⟩) (v := ?g10rv17) rfl (by kernel_rfl) (fun _ _ _ h => h) (by assumption) (by rfl) ?g10ry17 ?g10rr17
  case g10ry17 => intro w hSw; obtain ⟨s1, s2, s3⟩ := hSw; go_simp; try with_reducible rfl
  try simp only [Act.put, pA, pB, pC]
  refine wpAnyF_take 21 (oi := ⟨some 47, .move (.tmp 4), 44, "shred.go:57", #[], none⟩) (v := ?g10rv18) rfl (by kernel_rfl) (fun _ _ _ h => h) (by assumption) (by rfl) ?g10ry18 ?g10rr18
  case g10ry18 => intro w hSw; obtain ⟨s1, s2, s3⟩ := hSw; go_simp; try with_reducible rfl
  try simp only [Act.put, pA, pB, pC]
  refine wpAnyF_ready [8, 15] (by kernel_rfl) (by simp) ?_
  refine AllReadyF.cons 8 (o := ⟨some 34, .buildSlice 22 1 #[(0, .tmp 33)], 22, "shred.go:57", #[⟨7, .data⟩], none⟩) rfl (fun K hK => ?g10ro19) ?g10rm19
  case g10ro19 =>
   go_simp; refine gen_w (fun X hX => ?_); (have hb := OW.nb how hX); (have rn8 := OW.nr how hX); (replace row := row.below hb); (replace rx := rx.below hb); (replace hch := hch.trans (chF hb) (fun i hi h => h.elim)); (replace rv := rv.below hb);  skip; (replace how := how.below hb); (replace hBW := Nat.le_trans hBW hb.size); clear hb hX
   refine hK.out _ _ ?g10rs19 (fun hHeld => ?g10rt19)
   case g10rs19 => (try dsimp only); (first | exact HU.out.2 | exact ⟨(row.cell _).trans hcR, (row.cell _).trans hcD, (row.cell _).trans hcV⟩)
   try dsimp only at hHeld
   clear hK K
   try simp only [Act.put, pA, pB, pC]
   refine wpAnyF_ready [9, 15] (by kernel_rfl) (by simp) ?_
   refine AllReadyF.cons 9 (o := ⟨some 35, .call { callee := .builtin .append, args := #[.tmp 32, .tmp 34], argTypes := #[22, 22] }, 22, "shred.go:57", #[⟨6, .data⟩, ⟨8, .data⟩], none⟩) rfl (fun K hK => ?g10ro20) ?g10rm20
   case g10ro20 =>
    (refine step_append (B := p.B) rfl _ _ _ _ rfl ii (.int .i64 0) 8 Try.underlying22 hii hz0i hz1i hz2i rfl rfl (OW.own0 how hk) _ rfl 1 _ (src_rw (P := Try.prog) (tx := 22) Try.underlying22 rn8 1 1 rfl (by simp [Value.oneCell'])) (by simp only [maxLen]; omega) (by omega) hBW ?_; intro a9 cap9 W9 ho9 hc9 hn9); (replace rv := rv.chg hc9 (fun h => Nat.lt_irrefl _ (hlv _ _ (by omega) h.1)));  skip; (replace row := row.chg hc9 (fun h => by have := h.2.1; omega)); (replace rx := rx.chg hc9 (fun h => by have := h.2.1; omega)); (replace htb := tb_push htb (j := k * 3) (by omega) hn9 hch.size); (replace hch := hch.trans hc9 (fun i hi h => .inr (.inr ⟨_, by omega, h.1⟩))); (replace hBW := Nat.le_trans hBW hc9.size); (replace how := OW.push0 how hk (Nat.succ_pos _) ho9 hc9 hn9); clear ho9 hc9 hn9 rn8
    refine hK.out _ _ ?g10rs20 (fun hHeld => ?g10rt20)
    case g10rs20 => (try dsimp only); (first | exact HU.out.2 | exact ⟨(row.cell _).trans hcR, (row.cell _).trans hcD, (row.cell _).trans hcV⟩)
    try dsimp only at hHeld
    clear hK K
    try simp only [Act.put, pA, pB, pC]
    refine wpAnyF_ready [15] (by kernel_rfl) (by simp) ?_
    refine AllReadyF.cons 15 (o := ⟨some 41, .buildSlice 22 1 #[(0, .tmp 40)], 22, "shred.go:57", #[⟨14, .data⟩], none⟩) rfl (fun K hK => ?g10ro21) ?g10rm21
    case g10rm21 => exact AllReadyF.nil
    go_simp; refine gen_w (fun X hX => ?_); (have hb := OW.nb how hX); (have rn15 := OW.nr how hX); (have hl15 := fun j g (hj : j < p.m * 3) hg => (how.lt j g hj hg).1); (replace row := row.below hb); (replace rx := rx.below hb); (replace hch := hch.trans (chF hb) (fun i hi h => h.elim)); (replace rv := rv.below hb); (try replace rn8 := rn8.below hb); (replace how := how.below hb); (replace hBW := Nat.le_trans hBW hb.size); clear hb hX
    refine hK.out _ _ ?g10rs21 (fun hHeld => ?g10rt21)
    case g10rs21 => (try dsimp only); (first | exact HU.out.2 | exact ⟨(row.cell _).trans hcR, (row.cell _).trans hcD, (row.cell _).trans hcV⟩)
    try dsimp only at hHeld
    clear hK K
    try simp only [Act.put, pA, pB, pC]
    refine wpAnyF_ready [16] (by kernel_rfl) (by simp) ?_
    refine AllReadyF.cons 16 (o := ⟨some 42, .call { callee := .builtin .append, args := #[.tmp 39, .tmp 41], argTypes := #[22, 22] }, 22, "shred.go:57", #[⟨13, .data⟩, ⟨15, .data⟩, ⟨9, .chain⟩], none⟩) rfl (fun K hK => ?g10ro22) ?g10rm22
    case g10rm22 => exact AllReadyF.nil
    (refine step_append (B := p.B) rfl _ _ _ _ rfl ii (.int .i64 0) 8 Try.underlying22 hii hz0i hz1i hz2i rfl rfl (OW.own1' how hk) _ rfl 1 _ (src_rw (P := Try.prog) (tx := 22) Try.underlying22 rn15 1 1 rfl (by simp [Value.oneCell'])) (by simp only [maxLen]; omega) (by omega) hBW ?_; intro a16 cap16 W16 ho16 hc16 hn16); (replace rv := rv.chg hc16 (fun h => Nat.lt_irrefl _ (hlv _ _ (by omega) h.1))); (replace row := row.chg hc16 (fun h => by have := h.2.1; omega)); (replace rx := rx.chg hc16 (fun h => by have := h.2.1; omega)); (replace htb := tb_push htb (j := k * 3 + 1) (by omega) (by rw [upd_ne _ _ (by omega)]; exact hn16) hch.size); (replace hch := hch.trans hc16 (fun i hi h => .inr (.inr ⟨_, by omega, h.1⟩))); (replace hBW := Nat.le_trans hBW hc16.size); (replace how := OW.push1 how hk (Nat.succ_pos _) ho16 hc16 hn16); clear ho16 hc16 hn16 rn15
    refine hK.out _ _ ?g10rs22 (fun hHeld => ?g10rt22)
    case g10rs22 => (try dsimp only); (first | exact HU.out.2 | exact ⟨(row.cell _).trans hcR, (row.cell _).trans hcD, (row.cell _).trans hcV⟩)
    try dsimp only at hHeld
    clear hK K
    try simp only [Act.put, pA, pB, pC]
    refine wpAnyF_ready [22] (by kernel_rfl) (by simp) ?_
    refine AllReadyF.cons 22 (o := ⟨some 48, .call { callee := .builtin .append, args := #[.tmp 46, .tmp 47], argTypes := #[44, 44] }, 44, "shred.go:57", #[⟨20, .data⟩, ⟨21, .data⟩, ⟨16, .chain⟩], none⟩) rfl (fun K hK => ?g10ro23) ?g10rm23
    case g10rm23 => exact AllReadyF.nil
    (refine step_append (B := p.B) rfl _ _ _ _ rfl iv (.agg #[.int .i64 0, .string ByteArray.empty]) 24 Try.underlying44 hiv hz0v hz1v hz2v rfl rfl (OW.own2' how hk) _ rfl 1 _ (src_rw (P := Try.prog) (tx := 44) Try.underlying44 rv 1 2 rfl (by simp [Value.oneCell'])) (by simp only [maxLen]; omega) (by omega) hBW ?_; intro a22 cap22 W22 ho22 hc22 hn22); (replace row := row.chg hc22 (fun h => by have := h.2.1; omega)); (replace rx := rx.chg hc22 (fun h => by have := h.2.1; omega)); (replace htb := tb_push htb (j := k * 3 + 2) (by omega) (by rw [upd_ne _ _ (by omega), upd_ne _ _ (by omega)]; exact hn22) hch.size); (replace hch := hch.trans hc22 (fun i hi h => .inr (.inr ⟨_, by omega, h.1⟩))); (replace hBW := Nat.le_trans hBW hc22.size); (replace how := OW.push2 how hk (Nat.succ_pos _) ho22 hc22 hn22); clear ho22 hc22 hn22 rv
    refine hK.out _ _ ?g10rs23 (fun hHeld => ?g10rt23)
    case g10rs23 => (try dsimp only); (first | exact HU.out.2 | exact ⟨(row.cell _).trans hcR, (row.cell _).trans hcD, (row.cell _).trans hcV⟩)
    try dsimp only at hHeld
    clear hK K
    try simp only [Act.put, pA, pB, pC]
    refine wpAnyF_ready [23] (by kernel_rfl) (by simp) ?_
    refine AllReadyF.last 23 (o := ⟨some 49, .nilCheck (.tmp 26), 0, "shred.go:57", #[⟨0, .data⟩, ⟨0, .phase⟩, { on := 1, ground := Go.Ground.textOnly Go.Departure.lateStores }, { on := 2, ground := Go.Ground.textOnly Go.Departure.lateStores }, ⟨3, .phase⟩, ⟨4, .phase⟩, ⟨5, .phase⟩, ⟨6, .phase⟩, ⟨7, .phase⟩, ⟨8, .phase⟩, ⟨9, .phase⟩, { on := 10, ground := Go.Ground.textOnly Go.Departure.lateStores }, { on := 11, ground := Go.Ground.textOnly Go.Departure.lateStoresUnsure }, { on := 12, ground := Go.Ground.textOnly Go.Departure.lateStoresUnsure }, ⟨13, .phase⟩, { on := 14, ground := Go.Ground.textOnly Go.Departure.lateStores }, { on := 15, ground := Go.Ground.textOnly Go.Departure.lateStoresUnsure }, ⟨16, .phase⟩, { on := 17, ground := Go.Ground.textOnly Go.Departure.lateStores }, { on := 18, ground := Go.Ground.textOnly Go.Departure.lateStoresUnsure }, { on := 19, ground := Go.Ground.textOnly Go.Departure.lateStoresUnsure }, ⟨20, .phase⟩, { on := 21, ground := Go.Ground.textOnly Go.Departure.lateStores }, ⟨22, .phase⟩], none⟩) rfl (by kernel_rfl) (fun K hK => ?g10ro24) ?g10rm24
    case g10rm24 => exact AllReadyF.nil
    (obtain ⟨c0, c1, c2⟩ := hHeld); (have qf := row.frozen); (have ql := row.lt); go_simp
    refine hK.out _ _ ?_
    clear hK K
    try simp only [Act.put, pA, pB, pC]
    refine wpAnyF_ready [24] (by kernel_rfl) (by simp) ?_
    refine AllReadyF.last 24 (o := ⟨some 50, .fieldAddr 46 (.tmp 49) 0, 0, "shred.go:57", #[⟨23, .data⟩, ⟨0, .phase⟩, { on := 1, ground := Go.Ground.textOnly Go.Departure.lateStores }, { on := 2, ground := Go.Ground.textOnly Go.Departure.lateStores }, ⟨3, .phase⟩, ⟨4, .phase⟩, ⟨5, .phase⟩, ⟨6, .phase⟩, ⟨7, .phase⟩, ⟨8, .phase⟩, ⟨9, .phase⟩, { on := 10, ground := Go.Ground.textOnly Go.Departure.lateStores }, { on := 11, ground := Go.Ground.textOnly Go.Departure.lateStoresUnsure }, { on := 12, ground := Go.Ground.textOnly Go.Departure.lateStoresUnsure }, ⟨13, .phase⟩, { on := 14, ground := Go.Ground.textOnly Go.Departure.lateStores }, { on := 15, ground := Go.Ground.textOnly Go.Departure.lateStoresUnsure }, ⟨16, .phase⟩, { on := 17, ground := Go.Ground.textOnly Go.Departure.lateStores }, { on := 18, ground := Go.Ground.textOnly Go.Departure.lateStoresUnsure }, { on := 19, ground := Go.Ground.textOnly Go.Departure.lateStoresUnsure }, ⟨20, .phase⟩, { on := 21, ground := Go.Ground.textOnly Go.Departure.lateStores }, ⟨22, .phase⟩], none⟩) rfl (by kernel_rfl) (fun K hK => ?g10ro25) ?g10rm25
    case g10rm25 => exact AllReadyF.nil
    go_simp
    refine hK.out _ _ ?_
    clear hK K
    try simp only [Act.put, pA, pB, pC]
    refine wpAnyF_ready [25] (by kernel_rfl) (by simp) ?_
    refine AllReadyF.last 25 (o := ⟨none, .store 22 (.tmp 50) (.tmp 35), 0, "shred.go:57", #[⟨24, .data⟩, ⟨9, .data⟩, ⟨22, .chain⟩, ⟨0, .phase⟩, { on := 1, ground := Go.Ground.textOnly Go.Departure.lateStores }, { on := 2, ground := Go.Ground.textOnly Go.Departure.lateStores }, ⟨3, .phase⟩, ⟨4, .phase⟩, ⟨5, .phase⟩, ⟨6, .phase⟩, ⟨7, .phase⟩, ⟨8, .phase⟩, ⟨9, .phase⟩, { on := 10, ground := Go.Ground.textOnly Go.Departure.lateStores }, { on := 11, ground := Go.Ground.textOnly Go.Departure.lateStoresUnsure }, { on := 12, ground := Go.Ground.textOnly Go.Departure.lateStoresUnsure }, ⟨13, .phase⟩, { on := 14, ground := Go.Ground.textOnly Go.Departure.lateStores }, { on := 15, ground := Go.Ground.textOnly Go.Departure.lateStoresUnsure }, ⟨16, .phase⟩, { on := 17, ground := Go.Ground.textOnly Go.Departure.lateStores }, { on := 18, ground := Go.Ground.textOnly Go.Departure.lateStoresUnsure }, { on := 19, ground := Go.Ground.textOnly Go.Departure.lateStoresUnsure }, ⟨20, .phase⟩, { on := 21, ground := Go.Ground.textOnly Go.Departure.lateStores }, ⟨22, .phase⟩], none⟩) rfl (by kernel_rfl) (fun K hK => ?g10ro26) ?g10rm26
    case g10rm26 => exact AllReadyF.nil
    go_simp
    refine hK.out _ _ ?_
    clear hK K
    try simp only [Act.put, pA, pB, pC]
    refine wpAnyF_ready [26] (by kernel_rfl) (by simp) ?_
    refine AllReadyF.last 26 (o := ⟨some 51, .nilCheck (.tmp 27), 0, "shred.go:57", #[⟨1, .data⟩, ⟨0, .phase⟩, ⟨1, .phase⟩, { on := 2, ground := Go.Ground.textOnly Go.Departure.lateStores }, ⟨3, .phase⟩, ⟨4, .phase⟩, ⟨5, .phase⟩, ⟨6, .phase⟩, ⟨7, .phase⟩, ⟨8, .phase⟩, ⟨9, .phase⟩, ⟨10, .phase⟩, ⟨11, .phase⟩, ⟨12, .phase⟩, ⟨13, .phase⟩, ⟨14, .phase⟩, ⟨15, .phase⟩, ⟨16, .phase⟩, { on := 17, ground := Go.Ground.textOnly Go.Departure.lateStores }, { on := 18, ground := Go.Ground.textOnly Go.Departure.lateStoresUnsure }, { on := 19, ground := Go.Ground.textOnly Go.Departure.lateStoresUnsure }, ⟨20, .phase⟩, { on := 21, ground := Go.Ground.textOnly Go.Departure.lateStores }, ⟨22, .phase⟩, ⟨23, .phase⟩, ⟨24, .phase⟩, ⟨25, .phase⟩], none⟩) rfl (by kernel_rfl) (fun K hK => ?g10ro27) ?g10rm27
    case g10rm27 => exact AllReadyF.nil
    go_simp
    refine hK.out _ _ ?_
    clear hK K
    try simp only [Act.put, pA, pB, pC]
    refine wpAnyF_ready [27] (by kernel_rfl) (by simp) ?_
    refine AllReadyF.last 27 (o := ⟨some 52, .fieldAddr 46 (.tmp 51) 1, 0, "shred.go:57", #[⟨26, .data⟩, ⟨0, .phase⟩, ⟨1, .phase⟩, { on := 2, ground := Go.Ground.textOnly Go.Departure.lateStores }, ⟨3, .phase⟩, ⟨4, .phase⟩, ⟨5, .phase⟩, ⟨6, .phase⟩, ⟨7, .phase⟩, ⟨8, .phase⟩, ⟨9, .phase⟩, ⟨10, .phase⟩, ⟨11, .phase⟩, ⟨12, .phase⟩, ⟨13, .phase⟩, ⟨14, .phase⟩, ⟨15, .phase⟩, ⟨16, .phase⟩, { on := 17, ground := Go.Ground.textOnly Go.Departure.lateStores }, { on := 18, ground := Go.Ground.textOnly Go.Departure.lateStoresUnsure }, { on := 19, ground := Go.Ground.textOnly Go.Departure.lateStoresUnsure }, ⟨20, .phase⟩, { on := 21, ground := Go.Ground.textOnly Go.Departure.lateStores }, ⟨22, .phase⟩, ⟨23, .phase⟩, ⟨24, .phase⟩, ⟨25, .phase⟩], none⟩) rfl (by kernel_rfl) (fun K hK => ?g10ro28) ?g10rm28
    case g10rm28 => exact AllReadyF.nil
    go_simp
    refine hK.out _ _ ?_
    clear hK K
    try simp only [Act.put, pA, pB, pC]
    refine wpAnyF_ready [28] (by kernel_rfl) (by simp) ?_
    refine AllReadyF.last 28 (o := ⟨none, .store 22 (.tmp 52) (.tmp 42), 0, "shred.go:57", #[⟨27, .data⟩, ⟨16, .data⟩, ⟨25, .chain⟩, ⟨0, .phase⟩, ⟨1, .phase⟩, { on := 2, ground := Go.Ground.textOnly Go.Departure.lateStores }, ⟨3, .phase⟩, ⟨4, .phase⟩, ⟨5, .phase⟩, ⟨6, .phase⟩, ⟨7, .phase⟩, ⟨8, .phase⟩, ⟨9, .phase⟩, ⟨10, .phase⟩, ⟨11, .phase⟩, ⟨12, .phase⟩, ⟨13, .phase⟩, ⟨14, .phase⟩, ⟨15, .phase⟩, ⟨16, .phase⟩, { on := 17, ground := Go.Ground.textOnly Go.Departure.lateStores }, { on := 18, ground := Go.Ground.textOnly Go.Departure.lateStoresUnsure }, { on := 19, ground := Go.Ground.textOnly Go.Departure.lateStoresUnsure }, ⟨20, .phase⟩, { on := 21, ground := Go.Ground.textOnly Go.Departure.lateStores }, ⟨22, .phase⟩, ⟨23, .phase⟩, ⟨24, .phase⟩, ⟨25, .phase⟩], none⟩) rfl (by kernel_rfl) (fun K hK => ?g10ro29) ?g10rm29
    case g10rm29 => exact AllReadyF.nil
    go_simp
    refine hK.out _ _ ?_
    clear hK K
    try simp only [Act.put, pA, pB, pC]
    refine wpAnyF_ready [29] (by kernel_rfl) (by simp) ?_
    refine AllReadyF.last 29 (o := ⟨some 53, .nilCheck (.tmp 28), 0, "shred.go:57", #[⟨2, .data⟩, ⟨0, .phase⟩, ⟨1, .phase⟩, ⟨2, .phase⟩, ⟨3, .phase⟩, ⟨4, .phase⟩, ⟨5, .phase⟩, ⟨6, .phase⟩, ⟨7, .phase⟩, ⟨8, .phase⟩, ⟨9, .phase⟩, ⟨10, .phase⟩, ⟨11, .phase⟩, ⟨12, .phase⟩, ⟨13, .phase⟩, ⟨14, .phase⟩, ⟨15, .phase⟩, ⟨16, .phase⟩, ⟨17, .phase⟩, ⟨18, .phase⟩, ⟨19, .phase⟩, ⟨20, .phase⟩, ⟨21, .phase⟩, ⟨22, .phase⟩, ⟨23, .phase⟩, ⟨24, .phase⟩, ⟨25, .phase⟩, ⟨26, .phase⟩, ⟨27, .phase⟩, ⟨28, .phase⟩], none⟩) rfl (by kernel_rfl) (fun K hK => ?g10ro30) ?g10rm30
    case g10rm30 => exact AllReadyF.nil
    go_simp
    refine hK.out _ _ ?_
    clear hK K
    try simp only [Act.put, pA, pB, pC]
    refine wpAnyF_ready [30] (by kernel_rfl) (by simp) ?_
    refine AllReadyF.last 30 (o := ⟨some 54, .fieldAddr 46 (.tmp 53) 2, 0, "shred.go:57", #[⟨29, .data⟩, ⟨0, .phase⟩, ⟨1, .phase⟩, ⟨2, .phase⟩, ⟨3, .phase⟩, ⟨4, .phase⟩, ⟨5, .phase⟩, ⟨6, .phase⟩, ⟨7, .phase⟩, ⟨8, .phase⟩, ⟨9, .phase⟩, ⟨10, .phase⟩, ⟨11, .phase⟩, ⟨12, .phase⟩, ⟨13, .phase⟩, ⟨14, .phase⟩, ⟨15, .phase⟩, ⟨16, .phase⟩, ⟨17, .phase⟩, ⟨18, .phase⟩, ⟨19, .phase⟩, ⟨20, .phase⟩, ⟨21, .phase⟩, ⟨22, .phase⟩, ⟨23, .phase⟩, ⟨24, .phase⟩, ⟨25, .phase⟩, ⟨26, .phase⟩, ⟨27, .phase⟩, ⟨28, .phase⟩], none⟩) rfl (by kernel_rfl) (fun K hK => ?g10ro31) ?g10rm31
    case g10rm31 => exact AllReadyF.nil
    go_simp
    refine hK.out _ _ ?_
    clear hK K
    try simp only [Act.put, pA, pB, pC]
    refine wpAnyF_ready [31] (by kernel_rfl) (by simp) ?_
    refine AllReadyF.last 31 (o := ⟨none, .store 44 (.tmp 54) (.tmp 48), 0, "shred.go:57", #[⟨30, .data⟩, ⟨22, .data⟩, ⟨28, .chain⟩, ⟨0, .phase⟩, ⟨1, .phase⟩, ⟨2, .phase⟩, ⟨3, .phase⟩, ⟨4, .phase⟩, ⟨5, .phase⟩, ⟨6, .phase⟩, ⟨7, .phase⟩, ⟨8, .phase⟩, ⟨9, .phase⟩, ⟨10, .phase⟩, ⟨11, .phase⟩, ⟨12, .phase⟩, ⟨13, .phase⟩, ⟨14, .phase⟩, ⟨15, .phase⟩, ⟨16, .phase⟩, ⟨17, .phase⟩, ⟨18, .phase⟩, ⟨19, .phase⟩, ⟨20, .phase⟩, ⟨21, .phase⟩, ⟨22, .phase⟩, ⟨23, .phase⟩, ⟨24, .phase⟩, ⟨25, .phase⟩, ⟨26, .phase⟩, ⟨27, .phase⟩, ⟨28, .phase⟩], none⟩) rfl (by kernel_rfl) (fun K hK => ?g10ro32) ?g10rm32
    case g10rm32 => exact AllReadyF.nil
    go_simp
    refine hK.out _ _ ?_
    clear hK K
    try simp only [Act.put, pA, pB, pC]
    refine wpAnyF_done (by kernel_rfl) ?_
    have hfin := CT.fin (L := cut4 G k ++ [⟨r, d, some x⟩]) hk row HT.out.size hH HT.out.lt (by simpa only [celR_snoc, celD_snoc, celV_some, vcs_snoc, List.length_append, List.length_singleton] using how)
    simp only [celV_some, vcs_snoc, List.length_append, List.length_singleton] at hfin
    have hch2 := ((hch.setCell (p := ⟨p.bc, k * 3, none⟩) (.inr (.inr (.inl rfl))) (.slice a9 ((cut4 G k).length + 1) cap9)).setCell (p := ⟨p.bc, k * 3 + 1, none⟩) (.inr (.inr (.inl rfl))) (.slice a16 ((cut4 G k).length + 1) cap16)).setCell (p := ⟨p.bc, k * 3 + 2, none⟩) (.inr (.inr (.inl rfl))) (.slice a22 ((celV (cut4 G k)).length + 1) cap22)
    have hne : p.bx ≠ p.bc := hbd.2.2.1
    have rx2 := ((rx.other (p := ⟨p.bc, k * 3, none⟩) hne (.slice a9 ((cut4 G k).length + 1) cap9)).other (p := ⟨p.bc, k * 3 + 1, none⟩) hne (.slice a16 ((cut4 G k).length + 1) cap16)).other (p := ⟨p.bc, k * 3 + 2, none⟩) hne (.slice a22 ((celV (cut4 G k)).length + 1) cap22)
    clear row rx how hch
    go_wp2_with fail
    refine bodyPost_end (v := .tuple #[]) (by simp [results, Try.results51, go_sem]) rfl ?_
    have hok : ∀ b, b < w.heap.size → p.ok b → ¬ p.ch aa b ∧ p.ok b := fun b _ hb => ⟨H.out.okch hb, hb⟩
    refine ⟨rfl, _, ⟨by rw [mny_add hk _ ho']; exact rx2, H.out.s.go hch2 hok (by decide), H.out.kids.go hch2 hok, H.out.lvs.go hch2 hok, ⟨_, _, hfin.congr (fun j _ => cut4_add _ ho' j)⟩, by have := hch2.size; have := hbd; omega⟩, hch2, htb⟩
   case g10rm20 =>
   refine AllReadyF.cons 15 (o := ⟨some 41, .buildSlice 22 1 #[(0, .tmp 40)], 22, "shred.go:57", #[⟨14, .data⟩], none⟩) rfl (fun K hK => ?g10ro33) ?g10rm33
   case g10ro33 =>
    go_simp; refine gen_w (fun X hX => ?_); (have hb := OW.nb how hX); (have rn15 := OW.nr how hX); (have hl15 := fun j g (hj : j < p.m * 3) hg => (how.lt j g hj hg).1); (replace row := row.below hb); (replace rx := rx.below hb); (replace hch := hch.trans (chF hb) (fun i hi h => h.elim)); (replace rv := rv.below hb); (try replace rn8 := rn8.below hb); (replace how := how.below hb); (replace hBW := Nat.le_trans hBW hb.size); clear hb hX
    refine hK.out _ _ ?g10rs33 (fun hHeld => ?g10rt33)
    case g10rs33 => (try dsimp only); (first | exact HU.out.2 | exact ⟨(row.cell _).trans hcR, (row.cell _).trans hcD, (row.cell _).trans hcV⟩)
    try dsimp only at hHeld
    clear hK K
    try simp only [Act.put, pA, pB, pC]
    refine wpAnyF_ready [9] (by kernel_rfl) (by simp) ?_
    refine AllReadyF.cons 9 (o := ⟨some 35, .call { callee := .builtin .append, args := #[.tmp 32, .tmp 34], argTypes := #[22, 22] }, 22, "shred.go:57", #[⟨6, .data⟩, ⟨8, .data⟩], none⟩) rfl (fun K hK => ?g10ro34) ?g10rm34
    case g10rm34 => exact AllReadyF.nil
    (refine step_append (B := p.B) rfl _ _ _ _ rfl ii (.int .i64 0) 8 Try.underlying22 hii hz0i hz1i hz2i rfl rfl (OW.own0 how hk) _ rfl 1 _ (src_rw (P := Try.prog) (tx := 22) Try.underlying22 rn8 1 1 rfl (by simp [Value.oneCell'])) (by simp only [maxLen]; omega) (by omega) hBW ?_; intro a9 cap9 W9 ho9 hc9 hn9); (replace rv := rv.chg hc9 (fun h => Nat.lt_irrefl _ (hlv _ _ (by omega) h.1)));  (replace rn15 := rn15.chg hc9 (fun h => Nat.lt_irrefl _ (hl15 _ _ (by omega) h.1))) ; (replace row := row.chg hc9 (fun h => by have := h.2.1; omega)); (replace rx := rx.chg hc9 (fun h => by have := h.2.1; omega)); (replace htb := tb_push htb (j := k * 3) (by omega) hn9 hch.size); (replace hch := hch.trans hc9 (fun i hi h => .inr (.inr ⟨_, by omega, h.1⟩))); (replace hBW := Nat.le_trans hBW hc9.size); (replace how := OW.push0 how hk (Nat.succ_pos _) ho9 hc9 hn9); clear ho9 hc9 hn9 rn8
    refine hK.out _ _ ?g10rs34 (fun hHeld => ?g10rt34)
    case g10rs34 => (try dsimp only); (first | exact HU.out.2 | exact ⟨(row.cell _).trans hcR, (row.cell _).trans hcD, (row.cell _).trans hcV⟩)
    try dsimp only at hHeld
    clear hK K
    try simp only [Act.put, pA, pB, pC]
    refine wpAnyF_ready [16] (by kernel_rfl) (by simp) ?_
    refine AllReadyF.cons 16 (o := ⟨some 42, .call { callee := .builtin .append, args := #[.tmp 39, .tmp 41], argTypes := #[22, 22] }, 22, "shred.go:57", #[⟨13, .data⟩, ⟨15, .data⟩, ⟨9, .chain⟩], none⟩) rfl (fun K hK => ?g10ro35) ?g10rm35
    case g10rm35 => exact AllReadyF.nil
    (refine step_append (B := p.B) rfl _ _ _ _ rfl ii (.int .i64 0) 8 Try.underlying22 hii hz0i hz1i hz2i rfl rfl (OW.own1' how hk) _ rfl 1 _ (src_rw (P := Try.prog) (tx := 22) Try.underlying22 rn15 1 1 rfl (by simp [Value.oneCell'])) (by simp only [maxLen]; omega) (by omega) hBW ?_; intro a16 cap16 W16 ho16 hc16 hn16); (replace rv := rv.chg hc16 (fun h => Nat.lt_irrefl _ (hlv _ _ (by omega) h.1))); (replace row := row.chg hc16 (fun h => by have := h.2.1; omega)); (replace rx := rx.chg hc16 (fun h => by have := h.2.1; omega)); (replace htb := tb_push htb (j := k * 3 + 1) (by omega) (by rw [upd_ne _ _ (by omega)]; exact hn16) hch.size); (replace hch := hch.trans hc16 (fun i hi h => .inr (.inr ⟨_, by omega, h.1⟩))); (replace hBW := Nat.le_trans hBW hc16.size); (replace how := OW.push1 how hk (Nat.succ_pos _) ho16 hc16 hn16); clear ho16 hc16 hn16 rn15
    refine hK.out _ _ ?g10rs35 (fun hHeld => ?g10rt35)
    case g10rs35 => (try dsimp only); (first | exact HU.out.2 | exact ⟨(row.cell _).trans hcR, (row.cell _).trans hcD, (row.cell _).trans hcV⟩)
    try dsimp only at hHeld
    clear hK K
    try simp only [Act.put, pA, pB, pC]
    refine wpAnyF_ready [22] (by kernel_rfl) (by simp) ?_
    refine AllReadyF.cons 22 (o := ⟨some 48, .call { callee := .builtin .append, args := #[.tmp 46, .tmp 47], argTypes := #[44, 44] }, 44, "shred.go:57", #[⟨20, .data⟩, ⟨21, .data⟩, ⟨16, .chain⟩], none⟩) rfl (fun K hK => ?g10ro36) ?g10rm36
    case g10rm36 => exact AllReadyF.nil
    (refine step_append (B := p.B) rfl _ _ _ _ rfl iv (.agg #[.int .i64 0, .string ByteArray.empty]) 24 Try.underlying44 hiv hz0v hz1v hz2v rfl rfl (OW.own2' how hk) _ rfl 1 _ (src_rw (P := Try.prog) (tx := 44) Try.underlying44 rv 1 2 rfl (by simp [Value.oneCell'])) (by simp only [maxLen]; omega) (by omega) hBW ?_; intro a22 cap22 W22 ho22 hc22 hn22); (replace row := row.chg hc22 (fun h => by have := h.2.1; omega)); (replace rx := rx.chg hc22 (fun h => by have := h.2.1; omega)); (replace htb := tb_push htb (j := k * 3 + 2) (by omega) (by rw [upd_ne _ _ (by omega), upd_ne _ _ (by omega)]; exact hn22) hch.size); (replace hch := hch.trans hc22 (fun i hi h => .inr (.inr ⟨_, by omega, h.1⟩))); (replace hBW := Nat.le_trans hBW hc22.size); (replace how := OW.push2 how hk (Nat.succ_pos _) ho22 hc22 hn22); clear ho22 hc22 hn22 rv
    refine hK.out _ _ ?g10rs36 (fun hHeld => ?g10rt36)
    case g10rs36 => (try dsimp only); (first | exact HU.out.2 | exact ⟨(row.cell _).trans hcR, (row.cell _).trans hcD, (row.cell _).trans hcV⟩)
    try dsimp only at hHeld
    clear hK K
    try simp only [Act.put, pA, pB, pC]
    refine wpAnyF_ready [23] (by kernel_rfl) (by simp) ?_
    refine AllReadyF.last 23 (o := ⟨some 49, .nilCheck (.tmp 26), 0, "shred.go:57", #[⟨0, .data⟩, ⟨0, .phase⟩, { on := 1, ground := Go.Ground.textOnly Go.Departure.lateStores }, { on := 2, ground := Go.Ground.textOnly Go.Departure.lateStores }, ⟨3, .phase⟩, ⟨4, .phase⟩, ⟨5, .phase⟩, ⟨6, .phase⟩, ⟨7, .phase⟩, ⟨8, .phase⟩, ⟨9, .phase⟩, { on := 10, ground := Go.Ground.textOnly Go.Departure.lateStores }, { on := 11, ground := Go.Ground.textOnly Go.Departure.lateStoresUnsure }, { on := 12, ground := Go.Ground.textOnly Go.Departure.lateStoresUnsure }, ⟨13, .phase⟩, { on := 14, ground := Go.Ground.textOnly Go.Departure.lateStores }, { on := 15, ground := Go.Ground.textOnly Go.Departure.lateStoresUnsure }, ⟨16, .phase⟩, { on := 17, ground := Go.Ground.textOnly Go.Departure.lateStores }, { on := 18, ground := Go.Ground.textOnly Go.Departure.lateStoresUnsure }, { on := 19, ground := Go.Ground.textOnly Go.Departure.lateStoresUnsure }, ⟨20, .phase⟩, { on := 21, ground := Go.Ground.textOnly Go.Departure.lateStores }, ⟨22, .phase⟩], none⟩) rfl (by kernel_rfl) (fun K hK => ?g10ro37) ?g10rm37
    case g10rm37 => exact AllReadyF.nil
    (obtain ⟨c0, c1, c2⟩ := hHeld); (have qf := row.frozen); (have ql := row.lt); go_simp
    refine hK.out _ _ ?_
    clear hK K
    try simp only [Act.put, pA, pB, pC]
    refine wpAnyF_ready [24] (by kernel_rfl) (by simp) ?_
    refine AllReadyF.last 24 (o := ⟨some 50, .fieldAddr 46 (.tmp 49) 0, 0, "shred.go:57", #[⟨23, .data⟩, ⟨0, .phase⟩, { on := 1, ground := Go.Ground.textOnly Go.Departure.lateStores }, { on := 2, ground := Go.Ground.textOnly Go.Departure.lateStores }, ⟨3, .phase⟩, ⟨4, .phase⟩, ⟨5, .phase⟩, ⟨6, .phase⟩, ⟨7, .phase⟩, ⟨8, .phase⟩, ⟨9, .phase⟩, { on := 10, ground := Go.Ground.textOnly Go.Departure.lateStores }, { on := 11, ground := Go.Ground.textOnly Go.Departure.lateStoresUnsure }, { on := 12, ground := Go.Ground.textOnly Go.Departure.lateStoresUnsure }, ⟨13, .phase⟩, { on := 14, ground := Go.Ground.textOnly Go.Departure.lateStores }, { on := 15, ground := Go.Ground.textOnly Go.Departure.lateStoresUnsure }, ⟨16, .phase⟩, { on := 17, ground := Go.Ground.textOnly Go.Departure.lateStores }, { on := 18, ground := Go.Ground.textOnly Go.Departure.lateStoresUnsure }, { on := 19, ground := Go.Ground.textOnly Go.Departure.lateStoresUnsure }, ⟨20, .phase⟩, { on := 21, ground := Go.Ground.textOnly Go.Departure.lateStores }, ⟨22, .phase⟩], none⟩) rfl (by kernel_rfl) (fun K hK => ?g10ro38) ?g10rm38
    case g10rm38 => exact AllReadyF.nil
    go_simp
    refine hK.out _ _ ?_
    clear hK K
    try simp only [Act.put, pA, pB, pC]
    refine wpAnyF_ready [25] (by kernel_rfl) (by simp) ?_
    refine AllReadyF.last 25 (o := ⟨none, .store 22 (.tmp 50) (.tmp 35), 0, "shred.go:57", #[⟨24, .data⟩, ⟨9, .data⟩, ⟨22, .chain⟩, ⟨0, .phase⟩, { on := 1, ground := Go.Ground.textOnly Go.Departure.lateStores }, { on := 2, ground := Go.Ground.textOnly Go.Departure.lateStores }, ⟨3, .phase⟩, ⟨4, .phase⟩, ⟨5, .phase⟩, ⟨6, .phase⟩, ⟨7, .phase⟩, ⟨8, .phase⟩, ⟨9, .phase⟩, { on := 10, ground := Go.Ground.textOnly Go.Departure.lateStores }, { on := 11, ground := Go.Ground.textOnly Go.Departure.lateStoresUnsure }, { on := 12, ground := Go.Ground.textOnly Go.Departure.lateStoresUnsure }, ⟨13, .phase⟩, { on := 14, ground := Go.Ground.textOnly Go.Departure.lateStores }, { on := 15, ground := Go.Ground.textOnly Go.Departure.lateStoresUnsure }, ⟨16, .phase⟩, { on := 17, ground := Go.Ground.textOnly Go.Departure.lateStores }, { on := 18, ground := Go.Ground.textOnly Go.Departure.lateStoresUnsure }, { on := 19, ground := Go.Ground.textOnly Go.Departure.lateStoresUnsure }, ⟨20, .phase⟩, { on := 21, ground := Go.Ground.textOnly Go.Departure.lateStores }, ⟨22, .phase⟩], none⟩) rfl (by kernel_rfl) (fun K hK => ?g10ro39) ?g10rm39
    case g10rm39 => exact AllReadyF.nil
    go_simp
    refine hK.out _ _ ?_
    clear hK K
    try simp only [Act.put, pA, pB, pC]
    refine wpAnyF_ready [26] (by kernel_rfl) (by simp) ?_
    refine AllReadyF.last 26 (o := ⟨some 51, .nilCheck (.tmp 27), 0, "shred.go:57", #[⟨1, .data⟩, ⟨0, .phase⟩, ⟨1, .phase⟩, { on := 2, ground := Go.Ground.textOnly Go.Departure.lateStores }, ⟨3, .phase⟩, ⟨4, .phase⟩, ⟨5, .phase⟩, ⟨6, .phase⟩, ⟨7, .phase⟩, ⟨8, .phase⟩, ⟨9, .phase⟩, ⟨10, .phase⟩, ⟨11, .phase⟩, ⟨12, .phase⟩, ⟨13, .phase⟩, ⟨14, .phase⟩, ⟨15, .phase⟩, ⟨16, .phase⟩, { on := 17, ground := Go.Ground.textOnly Go.Departure.lateStores }, { on := 18, ground := Go.Ground.textOnly Go.Departure.lateStoresUnsure }, { on := 19, ground := Go.Ground.textOnly Go.Departure.lateStoresUnsure }, ⟨20, .phase⟩, { on := 21, ground := Go.Ground.textOnly Go.Departure.lateStores }, ⟨22, .phase⟩, ⟨23, .phase⟩, ⟨24, .phase⟩, ⟨25, .phase⟩], none⟩) rfl (by kernel_rfl) (fun K hK => ?g10ro40) ?g10rm40
    case g10rm40 => exact AllReadyF.nil
    go_simp
    refine hK.out _ _ ?_
    clear hK K
    try simp only [Act.put, pA, pB, pC]
    refine wpAnyF_ready [27] (by kernel_rfl) (by simp) ?_
    refine AllReadyF.last 27 (o := ⟨some 52, .fieldAddr 46 (.tmp 51) 1, 0, "shred.go:57", #[⟨26, .data⟩, ⟨0, .phase⟩, ⟨1, .phase⟩, { on := 2, ground := Go.Ground.textOnly Go.Departure.lateStores }, ⟨3, .phase⟩, ⟨4, .phase⟩, ⟨5, .phase⟩, ⟨6, .phase⟩, ⟨7, .phase⟩, ⟨8, .phase⟩, ⟨9, .phase⟩, ⟨10, .phase⟩, ⟨11, .phase⟩, ⟨12, .phase⟩, ⟨13, .phase⟩, ⟨14, .phase⟩, ⟨15, .phase⟩, ⟨16, .phase⟩, { on := 17, ground := Go.Ground.textOnly Go.Departure.lateStores }, { on := 18, ground := Go.Ground.textOnly Go.Departure.lateStoresUnsure }, { on := 19, ground := Go.Ground.textOnly Go.Departure.lateStoresUnsure }, ⟨20, .phase⟩, { on := 21, ground := Go.Ground.textOnly Go.Departure.lateStores }, ⟨22, .phase⟩, ⟨23, .phase⟩, ⟨24, .phase⟩, ⟨25, .phase⟩], none⟩) rfl (by kernel_rfl) (fun K hK => ?g10ro41) ?g10rm41
    case g10rm41 => exact AllReadyF.nil
    go_simp
    refine hK.out _ _ ?_
    clear hK K
    try simp only [Act.put, pA, pB, pC]
    refine wpAnyF_ready [28] (by kernel_rfl) (by simp) ?_
    refine AllReadyF.last 28 (o := ⟨none, .store 22 (.tmp 52) (.tmp 42), 0, "shred.go:57", #[⟨27, .data⟩, ⟨16, .data⟩, ⟨25, .chain⟩, ⟨0, .phase⟩, ⟨1, .phase⟩, { on := 2, ground := Go.Ground.textOnly Go.Departure.lateStores }, ⟨3, .phase⟩, ⟨4, .phase⟩, ⟨5, .phase⟩, ⟨6, .phase⟩, ⟨7, .phase⟩, ⟨8, .phase⟩, ⟨9, .phase⟩, ⟨10, .phase⟩, ⟨11, .phase⟩, ⟨12, .phase⟩, ⟨13, .phase⟩, ⟨14, .phase⟩, ⟨15, .phase⟩, ⟨16, .phase⟩, { on := 17, ground := Go.Ground.textOnly Go.Departure.lateStores }, { on := 18, ground := Go.Ground.textOnly Go.Departure.lateStoresUnsure }, { on := 19, ground := Go.Ground.textOnly Go.Departure.lateStoresUnsure }, ⟨20, .phase⟩, { on := 21, ground := Go.Ground.textOnly Go.Departure.lateStores }, ⟨22, .phase⟩, ⟨23, .phase⟩, ⟨24, .phase⟩, ⟨25, .phase⟩], none⟩) rfl (by kernel_rfl) (fun K hK => ?g10ro42) ?g10rm42
    case g10rm42 => exact AllReadyF.nil
    go_simp
    refine hK.out _ _ ?_
    clear hK K
    try simp only [Act.put, pA, pB, pC]
    refine wpAnyF_ready [29] (by kernel_rfl) (by simp) ?_
    refine AllReadyF.last 29 (o := ⟨some 53, .nilCheck (.tmp 28), 0, "shred.go:57", #[⟨2, .data⟩, ⟨0, .phase⟩, ⟨1, .phase⟩, ⟨2, .phase⟩, ⟨3, .phase⟩, ⟨4, .phase⟩, ⟨5, .phase⟩, ⟨6, .phase⟩, ⟨7, .phase⟩, ⟨8, .phase⟩, ⟨9, .phase⟩, ⟨10, .phase⟩, ⟨11, .phase⟩, ⟨12, .phase⟩, ⟨13, .phase⟩, ⟨14, .phase⟩, ⟨15, .phase⟩, ⟨16, .phase⟩, ⟨17, .phase⟩, ⟨18, .phase⟩, ⟨19, .phase⟩, ⟨20, .phase⟩, ⟨21, .phase⟩, ⟨22, .phase⟩, ⟨23, .phase⟩, ⟨24, .phase⟩, ⟨25, .phase⟩, ⟨26, .phase⟩, ⟨27, .phase⟩, ⟨28, .phase⟩], none⟩) rfl (by kernel_rfl) (fun K hK => ?g10ro43) ?g10rm43
    case g10rm43 => exact AllReadyF.nil
    go_simp
    refine hK.out _ _ ?_
    clear hK K
    try simp only [Act.put, pA, pB, pC]
    refine wpAnyF_ready [30] (by kernel_rfl) (by simp) ?_
    refine AllReadyF.last 30 (o := ⟨some 54, .fieldAddr 46 (.tmp 53) 2, 0, "shred.go:57", #[⟨29, .data⟩, ⟨0, .phase⟩, ⟨1, .phase⟩, ⟨2, .phase⟩, ⟨3, .phase⟩, ⟨4, .phase⟩, ⟨5, .phase⟩, ⟨6, .phase⟩, ⟨7, .phase⟩, ⟨8, .phase⟩, ⟨9, .phase⟩, ⟨10, .phase⟩, ⟨11, .phase⟩, ⟨12, .phase⟩, ⟨13, .phase⟩, ⟨14, .phase⟩, ⟨15, .phase⟩, ⟨16, .phase⟩, ⟨17, .phase⟩, ⟨18, .phase⟩, ⟨19, .phase⟩, ⟨20, .phase⟩, ⟨21, .phase⟩, ⟨22, .phase⟩, ⟨23, .phase⟩, ⟨24, .phase⟩, ⟨25, .phase⟩, ⟨26, .phase⟩, ⟨27, .phase⟩, ⟨28, .phase⟩], none⟩) rfl (by kernel_rfl) (fun K hK => ?g10ro44) ?g10rm44
    case g10rm44 => exact AllReadyF.nil
    go_simp
    refine hK.out _ _ ?_
    clear hK K
    try simp only [Act.put, pA, pB, pC]
    refine wpAnyF_ready [31] (by kernel_rfl) (by simp) ?_
    refine AllReadyF.last 31 (o := ⟨none, .store 44 (.tmp 54) (.tmp 48), 0, "shred.go:57", #[⟨30, .data⟩, ⟨22, .data⟩, ⟨28, .chain⟩, ⟨0, .phase⟩, ⟨1, .phase⟩, ⟨2, .phase⟩, ⟨3, .phase⟩, ⟨4, .phase⟩, ⟨5, .phase⟩, ⟨6, .phase⟩, ⟨7, .phase⟩, ⟨8, .phase⟩, ⟨9, .phase⟩, ⟨10, .phase⟩, ⟨11, .phase⟩, ⟨12, .phase⟩, ⟨13, .phase⟩, ⟨14, .phase⟩, ⟨15, .phase⟩, ⟨16, .phase⟩, ⟨17, .phase⟩, ⟨18, .phase⟩, ⟨19, .phase⟩, ⟨20, .phase⟩, ⟨21, .phase⟩, ⟨22, .phase⟩, ⟨23, .phase⟩, ⟨24, .phase⟩, ⟨25, .phase⟩, ⟨26, .phase⟩, ⟨27, .phase⟩, ⟨28, .phase⟩], none⟩) rfl (by kernel_rfl) (fun K hK => ?g10ro45) ?g10rm45
    case g10rm45 => exact AllReadyF.nil
    go_simp
    refine hK.out _ _ ?_
    clear hK K
    try simp only [Act.put, pA, pB, pC]
    refine wpAnyF_done (by kernel_rfl) ?_
    have hfin := CT.fin (L := cut4 G k ++ [⟨r, d, some x⟩]) hk row HT.out.size hH HT.out.lt (by simpa only [celR_snoc, celD_snoc, celV_some, vcs_snoc, List.length_append, List.length_singleton] using how)
    simp only [celV_some, vcs_snoc, List.length_append, List.length_singleton] at hfin
    have hch2 := ((hch.setCell (p := ⟨p.bc, k * 3, none⟩) (.inr (.inr (.inl rfl))) (.slice a9 ((cut4 G k).length + 1) cap9)).setCell (p := ⟨p.bc, k * 3 + 1, none⟩) (.inr (.inr (.inl rfl))) (.slice a16 ((cut4 G k).length + 1) cap16)).setCell (p := ⟨p.bc, k * 3 + 2, none⟩) (.inr (.inr (.inl rfl))) (.slice a22 ((celV (cut4 G k)).length + 1) cap22)
    have hne : p.bx ≠ p.bc := hbd.2.2.1
    have rx2 := ((rx.other (p := ⟨p.bc, k * 3, none⟩) hne (.slice a9 ((cut4 G k).length + 1) cap9)).other (p := ⟨p.bc, k * 3 + 1, none⟩) hne (.slice a16 ((cut4 G k).length + 1) cap16)).other (p := ⟨p.bc, k * 3 + 2, none⟩) hne (.slice a22 ((celV (cut4 G k)).length + 1) cap22)
    clear row rx how hch
    go_wp2_with fail
    refine bodyPost_end (v := .tuple #[]) (by simp [results, Try.results51, go_sem]) rfl ?_
    have hok : ∀ b, b < w.heap.size → p.ok b → ¬ p.ch aa b ∧ p.ok b := fun b _ hb => ⟨H.out.okch hb, hb⟩
    refine ⟨rfl, _, ⟨by rw [mny_add hk _ ho']; exact rx2, H.out.s.go hch2 hok (by decide), H.out.kids.go hch2 hok, H.out.lvs.go hch2 hok, ⟨_, _, hfin.congr (fun j _ => cut4_add _ ho' j)⟩, by have := hch2.size; have := hbd; omega⟩, hch2, htb⟩
   case g10rm33 =>
   exact AllReadyF.nil
  case g10rm19 =>
  refine AllReadyF.cons 15 (o := ⟨some 41, .buildSlice 22 1 #[(0, .tmp 40)], 22, "shred.go:57", #[⟨14, .data⟩], none⟩) rfl (fun K hK => ?g10ro46) ?g10rm46
  case g10ro46 =>
   go_simp; refine gen_w (fun X hX => ?_); (have hb := OW.nb how hX); (have rn15 := OW.nr how hX); (have hl15 := fun j g (hj : j < p.m * 3) hg => (how.lt j g hj hg).1); (replace row := row.below hb); (replace rx := rx.below hb); (replace hch := hch.trans (chF hb) (fun i hi h => h.elim)); (replace rv := rv.below hb); (try replace rn8 := rn8.below hb); (replace how := how.below hb); (replace hBW := Nat.le_trans hBW hb.size); clear hb hX
   refine hK.out _ _ ?g10rs46 (fun hHeld => ?g10rt46)
   case g10rs46 => (try dsimp only); (first | exact HU.out.2 | exact ⟨(row.cell _).trans hcR, (row.cell _).trans hcD, (row.cell _).trans hcV⟩)
   try dsimp only at hHeld
   clear hK K
   try simp only [Act.put, pA, pB, pC]
   refine wpAnyF_ready [8] (by kernel_rfl) (by simp) ?_
   refine AllReadyF.cons 8 (o := ⟨some 34, .buildSlice 22 1 #[(0, .tmp 33)], 22, "shred.go:57", #[⟨7, .data⟩], none⟩) rfl (fun K hK => ?g10ro47) ?g10rm47
   case g10rm47 => exact AllReadyF.nil
   go_simp; refine gen_w (fun X hX => ?_); (have hb := OW.nb how hX); (have rn8 := OW.nr how hX); (replace row := row.below hb); (replace rx := rx.below hb); (replace hch := hch.trans (chF hb) (fun i hi h => h.elim)); (replace rv := rv.below hb);  (replace rn15 := rn15.below hb) ; (replace how := how.below hb); (replace hBW := Nat.le_trans hBW hb.size); clear hb hX
   refine hK.out _ _ ?g10rs47 (fun hHeld => ?g10rt47)
   case g10rs47 => (try dsimp only); (first | exact HU.out.2 | exact ⟨(row.cell _).trans hcR, (row.cell _).trans hcD, (row.cell _).trans hcV⟩)
   try dsimp only at hHeld
   clear hK K
   try simp only [Act.put, pA, pB, pC]
   refine wpAnyF_ready [9] (by kernel_rfl) (by simp) ?_
   refine AllReadyF.cons 9 (o := ⟨some 35, .call { callee := .builtin .append, args := #[.tmp 32, .tmp 34], argTypes := #[22, 22] }, 22, "shred.go:57", #[⟨6, .data⟩, ⟨8, .data⟩], none⟩) rfl (fun K hK => ?g10ro48) ?g10rm48
   case g10rm48 => exact AllReadyF.nil
   (refine step_append (B := p.B) rfl _ _ _ _ rfl ii (.int .i64 0) 8 Try.underlying22 hii hz0i hz1i hz2i rfl rfl (OW.own0 how hk) _ rfl 1 _ (src_rw (P := Try.prog) (tx := 22) Try.underlying22 rn8 1 1 rfl (by simp [Value.oneCell'])) (by simp only [maxLen]; omega) (by omega) hBW ?_; intro a9 cap9 W9 ho9 hc9 hn9); (replace rv := rv.chg hc9 (fun h => Nat.lt_irrefl _ (hlv _ _ (by omega) h.1)));  (replace rn15 := rn15.chg hc9 (fun h => Nat.lt_irrefl _ (hl15 _ _ (by omega) h.1))) ; (replace row := row.chg hc9 (fun h => by have := h.2.1; omega)); (replace rx := rx.chg hc9 (fun h => by have := h.2.1; omega)); (replace htb := tb_push htb (j := k * 3) (by omega) hn9 hch.size); (replace hch := hch.trans hc9 (fun i hi h => .inr (.inr ⟨_, by omega, h.1⟩))); (replace hBW := Nat.le_trans hBW hc9.size); (replace how := OW.push0 how hk (Nat.succ_pos _) ho9 hc9 hn9); clear ho9 hc9 hn9 rn8
   refine hK.out _ _ ?g10rs48 (fun hHeld => ?g10rt48)
   case g10rs48 => (try dsimp only); (first | exact HU.out.2 | exact ⟨(row.cell _).trans hcR, (row.cell _).trans hcD, (row.cell _).trans hcV⟩)
   try dsimp only at hHeld
   clear hK K
   try simp only [Act.put, pA, pB, pC]
   refine wpAnyF_ready [16] (by kernel_rfl) (by simp) ?_
   refine AllReadyF.cons 16 (o := ⟨some 42, .call { callee := .builtin .append, args := #[.tmp 39, .tmp 41], argTypes := #[22, 22] }, 22, "shred.go:57", #[⟨13, .data⟩, ⟨15, .data⟩, ⟨9, .chain⟩], none⟩) rfl (fun K hK => ?g10ro49) ?g10rm49
   case g10rm49 => exact AllReadyF.nil
   (refine step_append (B := p.B) rfl _ _ _ _ rfl ii (.int .i64 0) 8 Try.underlying22 hii hz0i hz1i hz2i rfl rfl (OW.own1' how hk) _ rfl 1 _ (src_rw (P := Try.prog) (tx := 22) Try.underlying22 rn15 1 1 rfl (by simp [Value.oneCell'])) (by simp only [maxLen]; omega) (by omega) hBW ?_; intro a16 cap16 W16 ho16 hc16 hn16); (replace rv := rv.chg hc16 (fun h => Nat.lt_irrefl _ (hlv _ _ (by omega) h.1))); (replace row := row.chg hc16 (fun h => by have := h.2.1; omega)); (replace rx := rx.chg hc16 (fun h => by have := h.2.1; omega)); (replace htb := tb_push htb (j := k * 3 + 1) (by omega) (by rw [upd_ne _ _ (by omega)]; exact hn16) hch.size); (replace hch := hch.trans hc16 (fun i hi h => .inr (.inr ⟨_, by omega, h.1⟩))); (replace hBW := Nat.le_trans hBW hc16.size); (replace how := OW.push1 how hk (Nat.succ_pos _) ho16 hc16 hn16); clear ho16 hc16 hn16 rn15
   refine hK.out _ _ ?g10rs49 (fun hHeld => ?g10rt49)
   case g10rs49 => (try dsimp only); (first | exact HU.out.2 | exact ⟨(row.cell _).trans hcR, (row.cell _).trans hcD, (row.cell _).trans hcV⟩)
   try dsimp only at hHeld
   clear hK K
   try simp only [Act.put, pA, pB, pC]
   refine wpAnyF_ready [22] (by kernel_rfl) (by simp) ?_
   refine AllReadyF.cons 22 (o := ⟨some 48, .call { callee := .builtin .append, args := #[.tmp 46, .tmp 47], argTypes := #[44, 44] }, 44, "shred.go:57", #[⟨20, .data⟩, ⟨21, .data⟩, ⟨16, .chain⟩], none⟩) rfl (fun K hK => ?g10ro50) ?g10rm50
   case g10rm50 => exact AllReadyF.nil
   (refine step_append (B := p.B) rfl _ _ _ _ rfl iv (.agg #[.int .i64 0, .string ByteArray.empty]) 24 Try.underlying44 hiv hz0v hz1v hz2v rfl rfl (OW.own2' how hk) _ rfl 1 _ (src_rw (P := Try.prog) (tx := 44) Try.underlying44 rv 1 2 rfl (by simp [Value.oneCell'])) (by simp only [maxLen]; omega) (by omega) hBW ?_; intro a22 cap22 W22 ho22 hc22 hn22); (replace row := row.chg hc22 (fun h => by have := h.2.1; omega)); (replace rx := rx.chg hc22 (fun h => by have := h.2.1; omega)); (replace htb := tb_push htb (j := k * 3 + 2) (by omega) (by rw [upd_ne _ _ (by omega), upd_ne _ _ (by omega)]; exact hn22) hch.size); (replace hch := hch.trans hc22 (fun i hi h => .inr (.inr ⟨_, by omega, h.1⟩))); (replace hBW := Nat.le_trans hBW hc22.size); (replace how := OW.push2 how hk (Nat.succ_pos _) ho22 hc22 hn22); clear ho22 hc22 hn22 rv
   refine hK.out _ _ ?g10rs50 (fun hHeld => ?g10rt50)
   case g10rs50 => (try dsimp only); (first | exact HU.out.2 | exact ⟨(row.cell _).trans hcR, (row.cell _).trans hcD, (row.cell _).trans hcV⟩)
   try dsimp only at hHeld
   clear hK K
   try simp only [Act.put, pA, pB, pC]
   refine wpAnyF_ready [23] (by kernel_rfl) (by simp) ?_
   refine AllReadyF.last 23 (o := ⟨some 49, .nilCheck (.tmp 26), 0, "shred.go:57", #[⟨0, .data⟩, ⟨0, .phase⟩, { on := 1, ground := Go.Ground.textOnly Go.Departure.lateStores }, { on := 2, ground := Go.Ground.textOnly Go.Departure.lateStores }, ⟨3, .phase⟩, ⟨4, .phase⟩, ⟨5, .phase⟩, ⟨6, .phase⟩, ⟨7, .phase⟩, ⟨8, .phase⟩, ⟨9, .phase⟩, { on := 10, ground := Go.Ground.textOnly Go.Departure.lateStores }, { on := 11, ground := Go.Ground.textOnly Go.Departure.lateStoresUnsure }, { on := 12, ground := Go.Ground.textOnly Go.Departure.lateStoresUnsure }, ⟨13, .phase⟩, { on := 14, ground := Go.Ground.textOnly Go.Departure.lateStores }, { on := 15, ground := Go.Ground.textOnly Go.Departure.lateStoresUnsure }, ⟨16, .phase⟩, { on := 17, ground := Go.Ground.textOnly Go.Departure.lateStores }, { on := 18, ground := Go.Ground.textOnly Go.Departure.lateStoresUnsure }, { on := 19, ground := Go.Ground.textOnly Go.Departure.lateStoresUnsure }, ⟨20, .phase⟩, { on := 21, ground := Go.Ground.textOnly Go.Departure.lateStores }, ⟨22, .phase⟩], none⟩) rfl (by kernel_rfl) (fun K hK => ?g10ro51) ?g10rm51
   case g10rm51 => exact AllReadyF.nil
   (obtain ⟨c0, c1, c2⟩ := hHeld); (have qf := row.frozen); (have ql := row.lt); go_simp
   refine hK.out _ _ ?_
   clear hK K
   try simp only [Act.put, pA, pB, pC]
   refine wpAnyF_ready [24] (by kernel_rfl) (by simp) ?_
   refine AllReadyF.last 24 (o := ⟨some 50, .fieldAddr 46 (.tmp 49) 0, 0, "shred.go:57", #[⟨23, .data⟩, ⟨0, .phase⟩, { on := 1, ground := Go.Ground.textOnly Go.Departure.lateStores }, { on := 2, ground := Go.Ground.textOnly Go.Departure.lateStores }, ⟨3, .phase⟩, ⟨4, .phase⟩, ⟨5, .phase⟩, ⟨6, .phase⟩, ⟨7, .phase⟩, ⟨8, .phase⟩, ⟨9, .phase⟩, { on := 10, ground := Go.Ground.textOnly Go.Departure.lateStores }, { on := 11, ground := Go.Ground.textOnly Go.Departure.lateStoresUnsure }, { on := 12, ground := Go.Ground.textOnly Go.Departure.lateStoresUnsure }, ⟨13, .phase⟩, { on := 14, ground := Go.Ground.textOnly Go.Departure.lateStores }, { on := 15, ground := Go.Ground.textOnly Go.Departure.lateStoresUnsure }, ⟨16, .phase⟩, { on := 17, ground := Go.Ground.textOnly Go.Departure.lateStores }, { on := 18, ground := Go.Ground.textOnly Go.Departure.lateStoresUnsure }, { on := 19, ground := Go.Ground.textOnly Go.Departure.lateStoresUnsure }, ⟨20, .phase⟩, { on := 21, ground := Go.Ground.textOnly Go.Departure.lateStores }, ⟨22, .phase⟩], none⟩) rfl (by kernel_rfl) (fun K hK => ?g10ro52) ?g10rm52
   case g10rm52 => exact AllReadyF.nil
   go_simp
   refine hK.out _ _ ?_
   clear hK K
   try simp only [Act.put, pA, pB, pC]
   refine wpAnyF_ready [25] (by kernel_rfl) (by simp) ?_
   refine AllReadyF.last 25 (o := ⟨none, .store 22 (.tmp 50) (.tmp 35), 0, "shred.go:57", #[⟨24, .data⟩, ⟨9, .data⟩, ⟨22, .chain⟩, ⟨0, .phase⟩, { on := 1, ground := Go.Ground.textOnly Go.Departure.lateStores }, { on := 2, ground := Go.Ground.textOnly Go.Departure.lateStores }, ⟨3, .phase⟩, ⟨4, .phase⟩, ⟨5, .phase⟩, ⟨6, .phase⟩, ⟨7, .phase⟩, ⟨8, .phase⟩, ⟨9, .phase⟩, { on := 10, ground := Go.Ground.textOnly Go.Departure.lateStores }, { on := 11, ground := Go.Ground.textOnly Go.Departure.lateStoresUnsure }, { on := 12, ground := Go.Ground.textOnly Go.Departure.lateStoresUnsure }, ⟨13, .phase⟩, { on := 14, ground := Go.Ground.textOnly Go.Departure.lateStores }, { on := 15, ground := Go.Ground.textOnly Go.Departure.lateStoresUnsure }, ⟨16, .phase⟩, { on := 17, ground := Go.Ground.textOnly Go.Departure.lateStores }, { on := 18, ground := Go.Ground.textOnly Go.Departure.lateStoresUnsure }, { on := 19, ground := Go.Ground.textOnly Go.Departure.lateStoresUnsure }, ⟨20, .phase⟩, { on := 21, ground := Go.Ground.textOnly Go.Departure.lateStores }, ⟨22, .phase⟩], none⟩) rfl (by kernel_rfl) (fun K hK => ?g10ro53) ?g10rm53
   case g10rm53 => exact AllReadyF.nil
   go_simp
   refine hK.out _ _ ?_
   clear hK K
   try simp only [Act.put, pA, pB, pC]
   refine wpAnyF_ready [26] (by kernel_rfl) (by simp) ?_
   refine AllReadyF.last 26 (o := ⟨some 51, .nilCheck (.tmp 27), 0, "shred.go:57", #[⟨1, .data⟩, ⟨0, .phase⟩, ⟨1, .phase⟩, { on := 2, ground := Go.Ground.textOnly Go.Departure.lateStores }, ⟨3, .phase⟩, ⟨4, .phase⟩, ⟨5, .phase⟩, ⟨6, .phase⟩, ⟨7, .phase⟩, ⟨8, .phase⟩, ⟨9, .phase⟩, ⟨10, .phase⟩, ⟨11, .phase⟩, ⟨12, .phase⟩, ⟨13, .phase⟩, ⟨14, .phase⟩, ⟨15, .phase⟩, ⟨16, .phase⟩, { on := 17, ground := Go.Ground.textOnly Go.Departure.lateStores }, { on := 18, ground := Go.Ground.textOnly Go.Departure.lateStoresUnsure }, { on := 19, ground := Go.Ground.textOnly Go.Departure.lateStoresUnsure }, ⟨20, .phase⟩, { on := 21, ground := Go.Ground.textOnly Go.Departure.lateStores }, ⟨22, .phase⟩, ⟨23, .phase⟩, ⟨24, .phase⟩, ⟨25, .phase⟩], none⟩) rfl (by kernel_rfl) (fun K hK => ?g10ro54) ?g10rm54
   case g10rm54 => exact AllReadyF.nil
   go_simp
   refine hK.out _ _ ?_
   clear hK K
   try simp only [Act.put, pA, pB, pC]
   refine wpAnyF_ready [27] (by kernel_rfl) (by simp) ?_
   refine AllReadyF.last 27 (o := ⟨some 52, .fieldAddr 46 (.tmp 51) 1, 0, "shred.go:57", #[⟨26, .data⟩, ⟨0, .phase⟩, ⟨1, .phase⟩, { on := 2, ground := Go.Ground.textOnly Go.Departure.lateStores }, ⟨3, .phase⟩, ⟨4, .phase⟩, ⟨5, .phase⟩, ⟨6, .phase⟩, ⟨7, .phase⟩, ⟨8, .phase⟩, ⟨9, .phase⟩, ⟨10, .phase⟩, ⟨11, .phase⟩, ⟨12, .phase⟩, ⟨13, .phase⟩, ⟨14, .phase⟩, ⟨15, .phase⟩, ⟨16, .phase⟩, { on := 17, ground := Go.Ground.textOnly Go.Departure.lateStores }, { on := 18, ground := Go.Ground.textOnly Go.Departure.lateStoresUnsure }, { on := 19, ground := Go.Ground.textOnly Go.Departure.lateStoresUnsure }, ⟨20, .phase⟩, { on := 21, ground := Go.Ground.textOnly Go.Departure.lateStores }, ⟨22, .phase⟩, ⟨23, .phase⟩, ⟨24, .phase⟩, ⟨25, .phase⟩], none⟩) rfl (by kernel_rfl) (fun K hK => ?g10ro55) ?g10rm55
   case g10rm55 => exact AllReadyF.nil
   go_simp
   refine hK.out _ _ ?_
   clear hK K
   try simp only [Act.put, pA, pB, pC]
   refine wpAnyF_ready [28] (by kernel_rfl) (by simp) ?_
   refine AllReadyF.last 28 (o := ⟨none, .store 22 (.tmp 52) (.tmp 42), 0, "shred.go:57", #[⟨27, .data⟩, ⟨16, .data⟩, ⟨25, .chain⟩, ⟨0, .phase⟩, ⟨1, .phase⟩, { on := 2, ground := Go.Ground.textOnly Go.Departure.lateStores }, ⟨3, .phase⟩, ⟨4, .phase⟩, ⟨5, .phase⟩, ⟨6, .phase⟩, ⟨7, .phase⟩, ⟨8, .phase⟩, ⟨9, .phase⟩, ⟨10, .phase⟩, ⟨11, .phase⟩, ⟨12, .phase⟩, ⟨13, .phase⟩, ⟨14, .phase⟩, ⟨15, .phase⟩, ⟨16, .phase⟩, { on := 17, ground := Go.Ground.textOnly Go.Departure.lateStores }, { on := 18, ground := Go.Ground.textOnly Go.Departure.lateStoresUnsure }, { on := 19, ground := Go.Ground.textOnly Go.Departure.lateStoresUnsure }, ⟨20, .phase⟩, { on := 21, ground := Go.Ground.textOnly Go.Departure.lateStores }, ⟨22, .phase⟩, ⟨23, .phase⟩, ⟨24, .phase⟩, ⟨25, .phase⟩], none⟩) rfl (by kernel_rfl) (fun K hK => ?g10ro56) ?g10rm56
   case g10rm56 => exact AllReadyF.nil
   go_simp
   refine hK.out _ _ ?_
   clear hK K
   try simp only [Act.put, pA, pB, pC]
   refine wpAnyF_ready [29] (by kernel_rfl) (by simp) ?_
   refine AllReadyF.last 29 (o := ⟨some 53, .nilCheck (.tmp 28), 0, "shred.go:57", #[⟨2, .data⟩, ⟨0, .phase⟩, ⟨1, .phase⟩, ⟨2, .phase⟩, ⟨3, .phase⟩, ⟨4, .phase⟩, ⟨5, .phase⟩, ⟨6, .phase⟩, ⟨7, .phase⟩, ⟨8, .phase⟩, ⟨9, .phase⟩, ⟨10, .phase⟩, ⟨11, .phase⟩, ⟨12, .phase⟩, ⟨13, .phase⟩, ⟨14, .phase⟩, ⟨15, .phase⟩, ⟨16, .phase⟩, ⟨17, .phase⟩, ⟨18, .phase⟩, ⟨19, .phase⟩, ⟨20, .phase⟩, ⟨21, .phase⟩, ⟨22, .phase⟩, ⟨23, .phase⟩, ⟨24, .phase⟩, ⟨25, .phase⟩, ⟨26, .phase⟩, ⟨27, .phase⟩, ⟨28, .phase⟩], none⟩) rfl (by kernel_rfl) (fun K hK => ?g10ro57) ?g10rm57
   case g10rm57 => exact AllReadyF.nil
   go_simp
   refine hK.out _ _ ?_
   clear hK K
   try simp only [Act.put, pA, pB, pC]
   refine wpAnyF_ready [30] (by kernel_rfl) (by simp) ?_
   refine AllReadyF.last 30 (o := ⟨some 54, .fieldAddr 46 (.tmp 53) 2, 0, "shred.go:57", #[⟨29, .data⟩, ⟨0, .phase⟩, ⟨1, .phase⟩, ⟨2, .phase⟩, ⟨3, .phase⟩, ⟨4, .phase⟩, ⟨5, .phase⟩, ⟨6, .phase⟩, ⟨7, .phase⟩, ⟨8, .phase⟩, ⟨9, .phase⟩, ⟨10, .phase⟩, ⟨11, .phase⟩, ⟨12, .phase⟩, ⟨13, .phase⟩, ⟨14, .phase⟩, ⟨15, .phase⟩, ⟨16, .phase⟩, ⟨17, .phase⟩, ⟨18, .phase⟩, ⟨19, .phase⟩, ⟨20, .phase⟩, ⟨21, .phase⟩, ⟨22, .phase⟩, ⟨23, .phase⟩, ⟨24, .phase⟩, ⟨25, .phase⟩, ⟨26, .phase⟩, ⟨27, .phase⟩, ⟨28, .phase⟩], none⟩) rfl (by kernel_rfl) (fun K hK => ?g10ro58) ?g10rm58
   case g10rm58 => exact AllReadyF.nil
   go_simp
   refine hK.out _ _ ?_
   clear hK K
   try simp only [Act.put, pA, pB, pC]
   refine wpAnyF_ready [31] (by kernel_rfl) (by simp) ?_
   refine AllReadyF.last 31 (o := ⟨none, .store 44 (.tmp 54) (.tmp 48), 0, "shred.go:57", #[⟨30, .data⟩, ⟨22, .data⟩, ⟨28, .chain⟩, ⟨0, .phase⟩, ⟨1, .phase⟩, ⟨2, .phase⟩, ⟨3, .phase⟩, ⟨4, .phase⟩, ⟨5, .phase⟩, ⟨6, .phase⟩, ⟨7, .phase⟩, ⟨8, .phase⟩, ⟨9, .phase⟩, ⟨10, .phase⟩, ⟨11, .phase⟩, ⟨12, .phase⟩, ⟨13, .phase⟩, ⟨14, .phase⟩, ⟨15, .phase⟩, ⟨16, .phase⟩, ⟨17, .phase⟩, ⟨18, .phase⟩, ⟨19, .phase⟩, ⟨20, .phase⟩, ⟨21, .phase⟩, ⟨22, .phase⟩, ⟨23, .phase⟩, ⟨24, .phase⟩, ⟨25, .phase⟩, ⟨26, .phase⟩, ⟨27, .phase⟩, ⟨28, .phase⟩], none⟩) rfl (by kernel_rfl) (fun K hK => ?g10ro59) ?g10rm59
   case g10rm59 => exact AllReadyF.nil
   go_simp
   refine hK.out _ _ ?_
   clear hK K
   try simp only [Act.put, pA, pB, pC]
   refine wpAnyF_done (by kernel_rfl) ?_
   have hfin := CT.fin (L := cut4 G k ++ [⟨r, d, some x⟩]) hk row HT.out.size hH HT.out.lt (by simpa only [celR_snoc, celD_snoc, celV_some, vcs_snoc, List.length_append, List.length_singleton] using how)
   simp only [celV_some, vcs_snoc, List.length_append, List.length_singleton] at hfin
   have hch2 := ((hch.setCell (p := ⟨p.bc, k * 3, none⟩) (.inr (.inr (.inl rfl))) (.slice a9 ((cut4 G k).length + 1) cap9)).setCell (p := ⟨p.bc, k * 3 + 1, none⟩) (.inr (.inr (.inl rfl))) (.slice a16 ((cut4 G k).length + 1) cap16)).setCell (p := ⟨p.bc, k * 3 + 2, none⟩) (.inr (.inr (.inl rfl))) (.slice a22 ((celV (cut4 G k)).length + 1) cap22)
   have hne : p.bx ≠ p.bc := hbd.2.2.1
   have rx2 := ((rx.other (p := ⟨p.bc, k * 3, none⟩) hne (.slice a9 ((cut4 G k).length + 1) cap9)).other (p := ⟨p.bc, k * 3 + 1, none⟩) hne (.slice a16 ((cut4 G k).length + 1) cap16)).other (p := ⟨p.bc, k * 3 + 2, none⟩) hne (.slice a22 ((celV (cut4 G k)).length + 1) cap22)
   clear row rx how hch
   go_wp2_with fail
   refine bodyPost_end (v := .tuple #[]) (by simp [results, Try.results51, go_sem]) rfl ?_
   have hok : ∀ b, b < w.heap.size → p.ok b → ¬ p.ch aa b ∧ p.ok b := fun b _ hb => ⟨H.out.okch hb, hb⟩
   refine ⟨rfl, _, ⟨by rw [mny_add hk _ ho']; exact rx2, H.out.s.go hch2 hok (by decide), H.out.kids.go hch2 hok, H.out.lvs.go hch2 hok, ⟨_, _, hfin.congr (fun j _ => cut4_add _ ho' j)⟩, by have := hch2.size; have := hbd; omega⟩, hch2, htb⟩
  case g10rm46 =>
  exact AllReadyF.nil
end Go.Proofs.Ytibhcibcfommeaa
