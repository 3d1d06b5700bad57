import Derived.Test.YtjbkjfefjhbolaakOW14
import Derived.Deep.CutRange
set_option linter.unusedSimpArgs false
set_option linter.unusedVariables false
namespace Go.Proofs.Ytjbkjfefjhbolaa
open Go.RowKit Go.Shr
set_option maxHeartbeats 2000000 in
set_option maxRecDepth 100000 in
theorem cell_none (p : SP) (G : Nat → List Cel) (aa : Nat → Option Addr) (k : Nat) (hk : k < p.m) (r d : Nat) (w : World) (h : Str p w G aa) :
  Calls Try.prog 73 #[.pointer (some ⟨p.bx, 0, none⟩), .int .i64 (k : Int), .int .i64 (r : Int), .int .i64 (d : Int), .slice none 0 0] w (CellQ p (upd G k (G k ++ [⟨r, d, none⟩])) aa w) := by
 obtain ⟨ii, hii, hz0i, hz1i, hz2i⟩ := info_parts info_i
 obtain ⟨iv, hiv, hz0v, hz1v, hz2v⟩ := info_parts info_vl
 obtain ⟨cur, cc, ht⟩ := h.tab
 have hbd := h.bds
 have q3 : w.cell? ⟨p.bx, 3, none⟩ = some (.slice (some ⟨p.bc, 0, none⟩) p.m p.m) := h.row.cell 3
 have u0 := ht.cell0 hk
 have hlen : (cut4 G k).length = min 4000 (G k).length := by unfold cut4; rw [List.length_take]
 have hk0 : (0 : Int) ≤ (k : Int) := by omega
 have hk1 : (k : Int) < (p.m : Int) := by omega
 have H := Lib.hid h; have HT := Lib.hid ht
 by_cases ho : 4000 ≤ (G k).length
 ·have hl4 : ((cut4 G k).length : Int) ≥ 4000 := by omega
  have q4 : w.cell? ⟨p.bx, 4, none⟩ = some (.bool (mny p.m G)) := h.row.cell 4
  have qf := h.row.frozen
  have ql := h.row.lt
  clear h ht hlen
  go_enter Try.func73, Try.ntmps73
  go_wp2_with fail
  refine bodyPost_end (v := .tuple #[]) (by simp [results, Try.results73, go_sem]) rfl ?_
  have hch : Chg (fun b => b = p.bx) w (w.setCell ⟨p.bx, 4, none⟩ (.bool true)) := (Chg.refl (fun b => b = p.bx) w).setCell (p := ⟨p.bx, 4, none⟩) (.inr rfl) _
  have hok : ∀ b, b < w.heap.size → p.ok b → ¬ (fun b => b = p.bx) b ∧ p.ok b := fun b _ hb => ⟨hb.2.1, hb⟩
  refine ⟨rfl, aa, ⟨?_, H.out.s.go hch hok (by decide), H.out.kids.go hch hok, H.out.lvs.go hch hok, ⟨cur, cc, (HT.out.chg hch (fun g _ hg h2 => by have h3 : g = p.bx := h2; omega)).congr (fun j _ => cut4_over _ ho j)⟩, by simpa using hbd⟩, hch.mono (fun b _ hb => .inl hb), fun b hb => .inl hb⟩
  have := H.out.row.set 4 (.bool true)
  rw [mny_over hk _ ho]
  exact this
 ·have ho' : (G k).length < 4000 := by omega
  have hl4 : ¬ ((cut4 G k).length : Int) ≥ 4000 := by omega
  have hlm : (cut4 G k).length ≤ 4000 := by omega
  have u1 := ht.cell1 hk
  have u2 := ht.cell2 hk
  have hvl := celV_le (cut4 G k)
  have hH := ht.hds
  have hcR := (hH (k * 3) (by omega)).trans (by rw [(n0 _ k).1])
  have hcD := (hH (k * 3 + 1) (by omega)).trans (by rw [(n1 _ k).1])
  have hcV := (hH (k * 3 + 2) (by omega)).trans (by rw [(n2 _ k).1])
  have HU := Lib.hid (And.intro q3 (And.intro u0 (And.intro u1 u2)))
  clear h hlen
  have hCL : ∀ c : Cel, (cut4 G k ++ [c]).length = (cut4 G k).length + 1 := fun c => by simp
  go_enter Try.func73, Try.ntmps73
  go_wp2_with fail
  refine wp_region_F (fun w' => w'.cell? ⟨p.bc, k * 3, none⟩ = some (.slice (aa (k * 3)) (cut4 G k).length (cc (k * 3))) ∧ w'.cell? ⟨p.bc, k * 3 + 1, none⟩ = some (.slice (aa (k * 3 + 1)) (cut4 G k).length (cc (k * 3 + 1))) ∧ w'.cell? ⟨p.bc, k * 3 + 2, none⟩ = some (.slice (aa (k * 3 + 2)) (celV (cut4 G k)).length (cc (k * 3 + 2)))) [1, 2, 23, 24, 25, 26, 27, 28, 29, 30, 31] (by kernel_rfl) ?g9rgS (fun hHeld => ?g9rgR)
  case g9rgS => (try dsimp only); (first | exact HU.out.2 | exact ⟨(row.cell _).trans hcR, (row.cell _).trans hcD, (row.cell _).trans hcV⟩)
  try dsimp only at hHeld
  obtain ⟨W, hW⟩ : ∃ W, W = w.drew := ⟨_, rfl⟩; rw [← hW] at hHeld ⊢; (have row := Rw.ren hW HT.out.row.drew); (have how : OW p.B W (p.m * 3) tyC szC aa (nC (cut4 G)) cc (xC (cut4 G)) := by rw [hW]; exact HT.out.ow.below (b0 w).drew); (have rx := Rw.ren hW H.out.row.drew); (have hch : Chg (p.ch aa) w W := by rw [hW]; exact (Chg.refl (p.ch aa) w).drew); (have hBW : p.B ≤ W.heap.size := by rw [hW]; exact hbd.2.2.2.2.2); (have htb : ∀ b, p.tb aa b → p.tb aa b ∨ w.heap.size ≤ b := fun b hb => .inl hb); clear hW
  refine wpAnyF_take0 1 (oi := ⟨some 27, .move (.tmp 10), 141, "shred.go:57", #[{ on := 25, ground := Go.Ground.gcOnly Go.Departure.lateStores }], none⟩) (v := ?g9rv1) rfl (by kernel_rfl) (fun _ _ _ h => h) (by rfl) ?g9ry1 ?g9rr1
  case g9ry1 => intro w0' _; go_simp; try with_reducible rfl
  try simp only [Act.put, pA, pB, pC]
  refine wpAnyF_take0 2 (oi := ⟨some 28, .move (.tmp 10), 141, "shred.go:57", #[{ on := 28, ground := Go.Ground.gcOnly Go.Departure.lateStores }], none⟩) (v := ?g9rv2) rfl (by kernel_rfl) (fun _ _ _ h => h) (by rfl) ?g9ry2 ?g9rr2
  case g9ry2 => intro w0' _; go_simp; try with_reducible rfl
  try simp only [Act.put, pA, pB, pC]
  refine wpAnyF_mono (F := [23, 24, 25, 26, 27, 28, 29, 30, 31]) (by simp) _ _ _ _ ?_
  refine wpAnyF_tks [0, 3, 4, 5, 6, 7, 10, 11, 12, 13, 14, 17, 18, 19, 20, 21] 14 (by kernel_rfl) (fun _ _ _ _ _ h => h) (by assumption) ?_
  iterate 16 ((apply YA.take rfl (by rfl); case hy => intro w hSw; obtain ⟨s1, s2, s3⟩ := hSw; go_simp; try with_reducible rfl); try simp only [Act.put, pA, pB, pC])
  refine YA.nil ?_
  refine wpAnyF_ready [8, 15] (by kernel_rfl) (by simp) ?_
  refine AllReadyF.con 8 rfl (fun K hK => ?g9ro3) ?g9rm3
  case g9ro3 =>
   go_simp; refine gen_w (fun X hX => ?_); (have hb := OW.nb how hX); (have rn8 := OW.nr how hX); (replace row := row.below hb); (replace rx := rx.below hb); (replace hch := hch.trans (chF hb) (fun i hi h => h.elim));  skip; (replace how := how.below hb); (replace hBW := Nat.le_trans hBW hb.size); clear hb hX
   refine hK.out _ _ ?g9rs3 (fun hHeld => ?g9rt3)
   case g9rs3 => (try dsimp only); (first | exact HU.out.2 | exact ⟨(row.cell _).trans hcR, (row.cell _).trans hcD, (row.cell _).trans hcV⟩)
   try dsimp only at hHeld
   clear hK K
   try simp only [Act.put, pA, pB, pC]
   refine wpAnyF_ready [9, 15] (by kernel_rfl) (by simp) ?_
   refine AllReadyF.con 9 rfl (fun K hK => ?g9ro4) ?g9rm4
   case g9ro4 =>
    (refine step_append (B := p.B) rfl _ _ _ _ rfl ii (.int .i64 0) 8 Try.underlying22 hii hz0i hz1i hz2i rfl rfl (OW.own0 how hk) _ rfl 1 _ (src_rw (P := Try.prog) (tx := 22) Try.underlying22 rn8 1 1 rfl (by simp [Value.oneCell'])) (by simp only [maxLen]; omega) (by omega) hBW ?_; intro a9 cap9 W9 ho9 hc9 hn9);  skip; (replace row := row.chg hc9 (fun h => by have := h.2.1; omega)); (replace rx := rx.chg hc9 (fun h => by have := h.2.1; omega)); (replace htb := tb_push htb (j := k * 3) (by omega) hn9 hch.size); (replace hch := hch.trans hc9 (fun i hi h => .inr (.inr ⟨_, by omega, h.1⟩))); (replace hBW := Nat.le_trans hBW hc9.size); (replace how := OW.push0 how hk (Nat.succ_pos _) ho9 hc9 hn9); clear ho9 hc9 hn9 rn8
    refine hK.out _ _ ?g9rs4 (fun hHeld => ?g9rt4)
    case g9rs4 => (try dsimp only); (first | exact HU.out.2 | exact ⟨(row.cell _).trans hcR, (row.cell _).trans hcD, (row.cell _).trans hcV⟩)
    try dsimp only at hHeld
    clear hK K
    try simp only [Act.put, pA, pB, pC]
    refine wpAnyF_ready [15] (by kernel_rfl) (by simp) ?_
    refine AllReadyF.con 15 rfl (fun K hK => ?g9ro5) ?g9rm5
    case g9rm5 => exact AllReadyF.nil
    go_simp; refine gen_w (fun X hX => ?_); (have hb := OW.nb how hX); (have rn15 := OW.nr how hX); (have hl15 := fun j g (hj : j < p.m * 3) hg => (how.lt j g hj hg).1); (replace row := row.below hb); (replace rx := rx.below hb); (replace hch := hch.trans (chF hb) (fun i hi h => h.elim)); (try replace rn8 := rn8.below hb); (replace how := how.below hb); (replace hBW := Nat.le_trans hBW hb.size); clear hb hX
    refine hK.out _ _ ?g9rs5 (fun hHeld => ?g9rt5)
    case g9rs5 => (try dsimp only); (first | exact HU.out.2 | exact ⟨(row.cell _).trans hcR, (row.cell _).trans hcD, (row.cell _).trans hcV⟩)
    try dsimp only at hHeld
    clear hK K
    try simp only [Act.put, pA, pB, pC]
    refine wpAnyF_ready [16] (by kernel_rfl) (by simp) ?_
    refine AllReadyF.con 16 rfl (fun K hK => ?g9ro6) ?g9rm6
    case g9rm6 => exact AllReadyF.nil
    (refine step_append (B := p.B) rfl _ _ _ _ rfl ii (.int .i64 0) 8 Try.underlying22 hii hz0i hz1i hz2i rfl rfl (OW.own1' how hk) _ rfl 1 _ (src_rw (P := Try.prog) (tx := 22) Try.underlying22 rn15 1 1 rfl (by simp [Value.oneCell'])) (by simp only [maxLen]; omega) (by omega) hBW ?_; intro a16 cap16 W16 ho16 hc16 hn16); (replace row := row.chg hc16 (fun h => by have := h.2.1; omega)); (replace rx := rx.chg hc16 (fun h => by have := h.2.1; omega)); (replace htb := tb_push htb (j := k * 3 + 1) (by omega) (by rw [upd_ne _ _ (by omega)]; exact hn16) hch.size); (replace hch := hch.trans hc16 (fun i hi h => .inr (.inr ⟨_, by omega, h.1⟩))); (replace hBW := Nat.le_trans hBW hc16.size); (replace how := OW.push1 how hk (Nat.succ_pos _) ho16 hc16 hn16); clear ho16 hc16 hn16 rn15
    refine hK.out _ _ ?g9rs6 (fun hHeld => ?g9rt6)
    case g9rs6 => (try dsimp only); (first | exact HU.out.2 | exact ⟨(row.cell _).trans hcR, (row.cell _).trans hcD, (row.cell _).trans hcV⟩)
    try dsimp only at hHeld
    clear hK K
    try simp only [Act.put, pA, pB, pC]
    refine wpAnyF_ready [22] (by kernel_rfl) (by simp) ?_
    refine AllReadyF.con 22 rfl (fun K hK => ?g9ro7) ?g9rm7
    case g9rm7 => exact AllReadyF.nil
    (refine step_nothing rfl _ _ _ _ rfl iv Try.underlying40 hiv hz1v rfl (OW.own2' how hk).le _ rfl ((Sl.nil (fun _ => True) _ 2 none).src (P := Try.prog) (tx := 40) Try.underlying40 (fun u h => by cases h)) ?_); (replace htb := tb_push htb (j := k * 3 + 2) (a' := aa (k * 3 + 2)) (W := w) (by omega) (fun g hg => .inl (by rw [upd_ne _ _ (by omega), upd_ne _ _ (by omega)]; exact hg)) (Nat.le_refl _)); (replace how := OW.same2 how)
    refine hK.out _ _ ?g9rs7 (fun hHeld => ?g9rt7)
    case g9rs7 => (try dsimp only); (first | exact HU.out.2 | exact ⟨(row.cell _).trans hcR, (row.cell _).trans hcD, (row.cell _).trans hcV⟩)
    try dsimp only at hHeld
    clear hK K
    try simp only [Act.put, pA, pB, pC]
    refine wpAnyF_ready [23] (by kernel_rfl) (by simp) ?_
    refine AllReadyF.lst 23 rfl (by kernel_rfl) (fun K hK => ?g9ro8) ?g9rm8
    case g9rm8 => exact AllReadyF.nil
    (obtain ⟨c0, c1, c2⟩ := hHeld); (have qf := row.frozen); (have ql := row.lt); go_simp
    refine hK.out _ _ ?_
    clear hK K
    try simp only [Act.put, pA, pB, pC]
    refine wpAnyF_ready [24] (by kernel_rfl) (by simp) ?_
    refine AllReadyF.lst 24 rfl (by kernel_rfl) (fun K hK => ?g9ro9) ?g9rm9
    case g9rm9 => exact AllReadyF.nil
    go_simp
    refine hK.out _ _ ?_
    clear hK K
    try simp only [Act.put, pA, pB, pC]
    refine wpAnyF_ready [25] (by kernel_rfl) (by simp) ?_
    refine AllReadyF.lst 25 rfl (by kernel_rfl) (fun K hK => ?g9ro10) ?g9rm10
    case g9rm10 => exact AllReadyF.nil
    go_simp
    refine hK.out _ _ ?_
    clear hK K
    try simp only [Act.put, pA, pB, pC]
    refine wpAnyF_ready [26] (by kernel_rfl) (by simp) ?_
    refine AllReadyF.lst 26 rfl (by kernel_rfl) (fun K hK => ?g9ro11) ?g9rm11
    case g9rm11 => exact AllReadyF.nil
    go_simp
    refine hK.out _ _ ?_
    clear hK K
    try simp only [Act.put, pA, pB, pC]
    refine wpAnyF_ready [27] (by kernel_rfl) (by simp) ?_
    refine AllReadyF.lst 27 rfl (by kernel_rfl) (fun K hK => ?g9ro12) ?g9rm12
    case g9rm12 => exact AllReadyF.nil
    go_simp
    refine hK.out _ _ ?_
    clear hK K
    try simp only [Act.put, pA, pB, pC]
    refine wpAnyF_ready [28] (by kernel_rfl) (by simp) ?_
    refine AllReadyF.lst 28 rfl (by kernel_rfl) (fun K hK => ?g9ro13) ?g9rm13
    case g9rm13 => exact AllReadyF.nil
    go_simp
    refine hK.out _ _ ?_
    clear hK K
    try simp only [Act.put, pA, pB, pC]
    refine wpAnyF_ready [29] (by kernel_rfl) (by simp) ?_
    refine AllReadyF.lst 29 rfl (by kernel_rfl) (fun K hK => ?g9ro14) ?g9rm14
    case g9rm14 => exact AllReadyF.nil
    go_simp
    refine hK.out _ _ ?_
    clear hK K
    try simp only [Act.put, pA, pB, pC]
    refine wpAnyF_ready [30] (by kernel_rfl) (by simp) ?_
    refine AllReadyF.lst 30 rfl (by kernel_rfl) (fun K hK => ?g9ro15) ?g9rm15
    case g9rm15 => exact AllReadyF.nil
    go_simp
    refine hK.out _ _ ?_
    clear hK K
    try simp only [Act.put, pA, pB, pC]
    refine wpAnyF_ready [31] (by kernel_rfl) (by simp) ?_
    refine AllReadyF.lst 31 rfl (by kernel_rfl) (fun K hK => ?g9ro16) ?g9rm16
    case g9rm16 => exact AllReadyF.nil
    go_simp
    refine hK.out _ _ ?_
    clear hK K
    try simp only [Act.put, pA, pB, pC]
    refine wpAnyF_done (by kernel_rfl) ?_
    have hfin := CT.fin (L := cut4 G k ++ [⟨r, d, none⟩]) hk row HT.out.size hH HT.out.lt (by simpa only [celR_snoc, celD_snoc, celV_none, List.length_append, List.length_singleton] using how)
    simp only [celV_none, List.length_append, List.length_singleton] at hfin
    have hch2 := ((hch.setCell (p := ⟨p.bc, k * 3, none⟩) (.inr (.inr (.inl rfl))) (.slice a9 ((cut4 G k).length + 1) cap9)).setCell (p := ⟨p.bc, k * 3 + 1, none⟩) (.inr (.inr (.inl rfl))) (.slice a16 ((cut4 G k).length + 1) cap16)).setCell (p := ⟨p.bc, k * 3 + 2, none⟩) (.inr (.inr (.inl rfl))) (.slice (aa (k * 3 + 2)) (celV (cut4 G k)).length (cc (k * 3 + 2)))
    have hne : p.bx ≠ p.bc := hbd.2.2.1
    have rx2 := ((rx.other (p := ⟨p.bc, k * 3, none⟩) hne (.slice a9 ((cut4 G k).length + 1) cap9)).other (p := ⟨p.bc, k * 3 + 1, none⟩) hne (.slice a16 ((cut4 G k).length + 1) cap16)).other (p := ⟨p.bc, k * 3 + 2, none⟩) hne (.slice (aa (k * 3 + 2)) (celV (cut4 G k)).length (cc (k * 3 + 2)))
    clear row rx how hch
    go_wp2_with fail
    refine bodyPost_end (v := .tuple #[]) (by simp [results, Try.results73, go_sem]) rfl ?_
    have hok : ∀ b, b < w.heap.size → p.ok b → ¬ p.ch aa b ∧ p.ok b := fun b _ hb => ⟨H.out.okch hb, hb⟩
    refine ⟨rfl, _, ⟨by rw [mny_add hk _ ho']; exact rx2, H.out.s.go hch2 hok (by decide), H.out.kids.go hch2 hok, H.out.lvs.go hch2 hok, ⟨_, _, hfin.congr (fun j _ => cut4_add _ ho' j)⟩, by have := hch2.size; have := hbd; omega⟩, hch2, htb⟩
   case g9rm4 =>
   refine AllReadyF.con 15 rfl (fun K hK => ?g9ro17) ?g9rm17
   case g9ro17 =>
    go_simp; refine gen_w (fun X hX => ?_); (have hb := OW.nb how hX); (have rn15 := OW.nr how hX); (have hl15 := fun j g (hj : j < p.m * 3) hg => (how.lt j g hj hg).1); (replace row := row.below hb); (replace rx := rx.below hb); (replace hch := hch.trans (chF hb) (fun i hi h => h.elim)); (try replace rn8 := rn8.below hb); (replace how := how.below hb); (replace hBW := Nat.le_trans hBW hb.size); clear hb hX
    refine hK.out _ _ ?g9rs17 (fun hHeld => ?g9rt17)
    case g9rs17 => (try dsimp only); (first | exact HU.out.2 | exact ⟨(row.cell _).trans hcR, (row.cell _).trans hcD, (row.cell _).trans hcV⟩)
    try dsimp only at hHeld
    clear hK K
    try simp only [Act.put, pA, pB, pC]
    refine wpAnyF_ready [9] (by kernel_rfl) (by simp) ?_
    refine AllReadyF.con 9 rfl (fun K hK => ?g9ro18) ?g9rm18
    case g9rm18 => exact AllReadyF.nil
    (refine step_append (B := p.B) rfl _ _ _ _ rfl ii (.int .i64 0) 8 Try.underlying22 hii hz0i hz1i hz2i rfl rfl (OW.own0 how hk) _ rfl 1 _ (src_rw (P := Try.prog) (tx := 22) Try.underlying22 rn8 1 1 rfl (by simp [Value.oneCell'])) (by simp only [maxLen]; omega) (by omega) hBW ?_; intro a9 cap9 W9 ho9 hc9 hn9);  (replace rn15 := rn15.chg hc9 (fun h => Nat.lt_irrefl _ (hl15 _ _ (by omega) h.1))) ; (replace row := row.chg hc9 (fun h => by have := h.2.1; omega)); (replace rx := rx.chg hc9 (fun h => by have := h.2.1; omega)); (replace htb := tb_push htb (j := k * 3) (by omega) hn9 hch.size); (replace hch := hch.trans hc9 (fun i hi h => .inr (.inr ⟨_, by omega, h.1⟩))); (replace hBW := Nat.le_trans hBW hc9.size); (replace how := OW.push0 how hk (Nat.succ_pos _) ho9 hc9 hn9); clear ho9 hc9 hn9 rn8
    refine hK.out _ _ ?g9rs18 (fun hHeld => ?g9rt18)
    case g9rs18 => (try dsimp only); (first | exact HU.out.2 | exact ⟨(row.cell _).trans hcR, (row.cell _).trans hcD, (row.cell _).trans hcV⟩)
    try dsimp only at hHeld
    clear hK K
    try simp only [Act.put, pA, pB, pC]
    refine wpAnyF_ready [16] (by kernel_rfl) (by simp) ?_
    refine AllReadyF.con 16 rfl (fun K hK => ?g9ro19) ?g9rm19
    case g9rm19 => exact AllReadyF.nil
    (refine step_append (B := p.B) rfl _ _ _ _ rfl ii (.int .i64 0) 8 Try.underlying22 hii hz0i hz1i hz2i rfl rfl (OW.own1' how hk) _ rfl 1 _ (src_rw (P := Try.prog) (tx := 22) Try.underlying22 rn15 1 1 rfl (by simp [Value.oneCell'])) (by simp only [maxLen]; omega) (by omega) hBW ?_; intro a16 cap16 W16 ho16 hc16 hn16); (replace row := row.chg hc16 (fun h => by have := h.2.1; omega)); (replace rx := rx.chg hc16 (fun h => by have := h.2.1; omega)); (replace htb := tb_push htb (j := k * 3 + 1) (by omega) (by rw [upd_ne _ _ (by omega)]; exact hn16) hch.size); (replace hch := hch.trans hc16 (fun i hi h => .inr (.inr ⟨_, by omega, h.1⟩))); (replace hBW := Nat.le_trans hBW hc16.size); (replace how := OW.push1 how hk (Nat.succ_pos _) ho16 hc16 hn16); clear ho16 hc16 hn16 rn15
    refine hK.out _ _ ?g9rs19 (fun hHeld => ?g9rt19)
    case g9rs19 => (try dsimp only); (first | exact HU.out.2 | exact ⟨(row.cell _).trans hcR, (row.cell _).trans hcD, (row.cell _).trans hcV⟩)
    try dsimp only at hHeld
    clear hK K
    try simp only [Act.put, pA, pB, pC]
    refine wpAnyF_ready [22] (by kernel_rfl) (by simp) ?_
    refine AllReadyF.con 22 rfl (fun K hK => ?g9ro20) ?g9rm20
    case g9rm20 => exact AllReadyF.nil
    (refine step_nothing rfl _ _ _ _ rfl iv Try.underlying40 hiv hz1v rfl (OW.own2' how hk).le _ rfl ((Sl.nil (fun _ => True) _ 2 none).src (P := Try.prog) (tx := 40) Try.underlying40 (fun u h => by cases h)) ?_); (replace htb := tb_push htb (j := k * 3 + 2) (a' := aa (k * 3 + 2)) (W := w) (by omega) (fun g hg => .inl (by rw [upd_ne _ _ (by omega), upd_ne _ _ (by omega)]; exact hg)) (Nat.le_refl _)); (replace how := OW.same2 how)
    refine hK.out _ _ ?g9rs20 (fun hHeld => ?g9rt20)
    case g9rs20 => (try dsimp only); (first | exact HU.out.2 | exact ⟨(row.cell _).trans hcR, (row.cell _).trans hcD, (row.cell _).trans hcV⟩)
    try dsimp only at hHeld
    clear hK K
    try simp only [Act.put, pA, pB, pC]
    refine wpAnyF_ready [23] (by kernel_rfl) (by simp) ?_
    refine AllReadyF.lst 23 rfl (by kernel_rfl) (fun K hK => ?g9ro21) ?g9rm21
    case g9rm21 => exact AllReadyF.nil
    (obtain ⟨c0, c1, c2⟩ := hHeld); (have qf := row.frozen); (have ql := row.lt); go_simp
    refine hK.out _ _ ?_
    clear hK K
    try simp only [Act.put, pA, pB, pC]
    refine wpAnyF_ready [24] (by kernel_rfl) (by simp) ?_
    refine AllReadyF.lst 24 rfl (by kernel_rfl) (fun K hK => ?g9ro22) ?g9rm22
    case g9rm22 => exact AllReadyF.nil
    go_simp
    refine hK.out _ _ ?_
    clear hK K
    try simp only [Act.put, pA, pB, pC]
    refine wpAnyF_ready [25] (by kernel_rfl) (by simp) ?_
    refine AllReadyF.lst 25 rfl (by kernel_rfl) (fun K hK => ?g9ro23) ?g9rm23
    case g9rm23 => exact AllReadyF.nil
    go_simp
    refine hK.out _ _ ?_
    clear hK K
    try simp only [Act.put, pA, pB, pC]
    refine wpAnyF_ready [26] (by kernel_rfl) (by simp) ?_
    refine AllReadyF.lst 26 rfl (by kernel_rfl) (fun K hK => ?g9ro24) ?g9rm24
    case g9rm24 => exact AllReadyF.nil
    go_simp
    refine hK.out _ _ ?_
    clear hK K
    try simp only [Act.put, pA, pB, pC]
    refine wpAnyF_ready [27] (by kernel_rfl) (by simp) ?_
    refine AllReadyF.lst 27 rfl (by kernel_rfl) (fun K hK => ?g9ro25) ?g9rm25
    case g9rm25 => exact AllReadyF.nil
    go_simp
    refine hK.out _ _ ?_
    clear hK K
    try simp only [Act.put, pA, pB, pC]
    refine wpAnyF_ready [28] (by kernel_rfl) (by simp) ?_
    refine AllReadyF.lst 28 rfl (by kernel_rfl) (fun K hK => ?g9ro26) ?g9rm26
    case g9rm26 => exact AllReadyF.nil
    go_simp
    refine hK.out _ _ ?_
    clear hK K
    try simp only [Act.put, pA, pB, pC]
    refine wpAnyF_ready [29] (by kernel_rfl) (by simp) ?_
    refine AllReadyF.lst 29 rfl (by kernel_rfl) (fun K hK => ?g9ro27) ?g9rm27
    case g9rm27 => exact AllReadyF.nil
    go_simp
    refine hK.out _ _ ?_
    clear hK K
    try simp only [Act.put, pA, pB, pC]
    refine wpAnyF_ready [30] (by kernel_rfl) (by simp) ?_
    refine AllReadyF.lst 30 rfl (by kernel_rfl) (fun K hK => ?g9ro28) ?g9rm28
    case g9rm28 => exact AllReadyF.nil
    go_simp
    refine hK.out _ _ ?_
    clear hK K
    try simp only [Act.put, pA, pB, pC]
    refine wpAnyF_ready [31] (by kernel_rfl) (by simp) ?_
    refine AllReadyF.lst 31 rfl (by kernel_rfl) (fun K hK => ?g9ro29) ?g9rm29
    case g9rm29 => exact AllReadyF.nil
    go_simp
    refine hK.out _ _ ?_
    clear hK K
    try simp only [Act.put, pA, pB, pC]
    refine wpAnyF_done (by kernel_rfl) ?_
    have hfin := CT.fin (L := cut4 G k ++ [⟨r, d, none⟩]) hk row HT.out.size hH HT.out.lt (by simpa only [celR_snoc, celD_snoc, celV_none, List.length_append, List.length_singleton] using how)
    simp only [celV_none, List.length_append, List.length_singleton] at hfin
    have hch2 := ((hch.setCell (p := ⟨p.bc, k * 3, none⟩) (.inr (.inr (.inl rfl))) (.slice a9 ((cut4 G k).length + 1) cap9)).setCell (p := ⟨p.bc, k * 3 + 1, none⟩) (.inr (.inr (.inl rfl))) (.slice a16 ((cut4 G k).length + 1) cap16)).setCell (p := ⟨p.bc, k * 3 + 2, none⟩) (.inr (.inr (.inl rfl))) (.slice (aa (k * 3 + 2)) (celV (cut4 G k)).length (cc (k * 3 + 2)))
    have hne : p.bx ≠ p.bc := hbd.2.2.1
    have rx2 := ((rx.other (p := ⟨p.bc, k * 3, none⟩) hne (.slice a9 ((cut4 G k).length + 1) cap9)).other (p := ⟨p.bc, k * 3 + 1, none⟩) hne (.slice a16 ((cut4 G k).length + 1) cap16)).other (p := ⟨p.bc, k * 3 + 2, none⟩) hne (.slice (aa (k * 3 + 2)) (celV (cut4 G k)).length (cc (k * 3 + 2)))
    clear row rx how hch
    go_wp2_with fail
    refine bodyPost_end (v := .tuple #[]) (by simp [results, Try.results73, go_sem]) rfl ?_
    have hok : ∀ b, b < w.heap.size → p.ok b → ¬ p.ch aa b ∧ p.ok b := fun b _ hb => ⟨H.out.okch hb, hb⟩
    refine ⟨rfl, _, ⟨by rw [mny_add hk _ ho']; exact rx2, H.out.s.go hch2 hok (by decide), H.out.kids.go hch2 hok, H.out.lvs.go hch2 hok, ⟨_, _, hfin.congr (fun j _ => cut4_add _ ho' j)⟩, by have := hch2.size; have := hbd; omega⟩, hch2, htb⟩
   case g9rm17 =>
   exact AllReadyF.nil
  case g9rm3 =>
  refine AllReadyF.con 15 rfl (fun K hK => ?g9ro30) ?g9rm30
  case g9ro30 =>
   go_simp; refine gen_w (fun X hX => ?_); (have hb := OW.nb how hX); (have rn15 := OW.nr how hX); (have hl15 := fun j g (hj : j < p.m * 3) hg => (how.lt j g hj hg).1); (replace row := row.below hb); (replace rx := rx.below hb); (replace hch := hch.trans (chF hb) (fun i hi h => h.elim)); (try replace rn8 := rn8.below hb); (replace how := how.below hb); (replace hBW := Nat.le_trans hBW hb.size); clear hb hX
   refine hK.out _ _ ?g9rs30 (fun hHeld => ?g9rt30)
   case g9rs30 => (try dsimp only); (first | exact HU.out.2 | exact ⟨(row.cell _).trans hcR, (row.cell _).trans hcD, (row.cell _).trans hcV⟩)
   try dsimp only at hHeld
   clear hK K
   try simp only [Act.put, pA, pB, pC]
   refine wpAnyF_ready [8] (by kernel_rfl) (by simp) ?_
   refine AllReadyF.con 8 rfl (fun K hK => ?g9ro31) ?g9rm31
   case g9rm31 => exact AllReadyF.nil
   go_simp; refine gen_w (fun X hX => ?_); (have hb := OW.nb how hX); (have rn8 := OW.nr how hX); (replace row := row.below hb); (replace rx := rx.below hb); (replace hch := hch.trans (chF hb) (fun i hi h => h.elim));  (replace rn15 := rn15.below hb) ; (replace how := how.below hb); (replace hBW := Nat.le_trans hBW hb.size); clear hb hX
   refine hK.out _ _ ?g9rs31 (fun hHeld => ?g9rt31)
   case g9rs31 => (try dsimp only); (first | exact HU.out.2 | exact ⟨(row.cell _).trans hcR, (row.cell _).trans hcD, (row.cell _).trans hcV⟩)
   try dsimp only at hHeld
   clear hK K
   try simp only [Act.put, pA, pB, pC]
   refine wpAnyF_ready [9] (by kernel_rfl) (by simp) ?_
   refine AllReadyF.con 9 rfl (fun K hK => ?g9ro32) ?g9rm32
   case g9rm32 => exact AllReadyF.nil
   (refine step_append (B := p.B) rfl _ _ _ _ rfl ii (.int .i64 0) 8 Try.underlying22 hii hz0i hz1i hz2i rfl rfl (OW.own0 how hk) _ rfl 1 _ (src_rw (P := Try.prog) (tx := 22) Try.underlying22 rn8 1 1 rfl (by simp [Value.oneCell'])) (by simp only [maxLen]; omega) (by omega) hBW ?_; intro a9 cap9 W9 ho9 hc9 hn9);  (replace rn15 := rn15.chg hc9 (fun h => Nat.lt_irrefl _ (hl15 _ _ (by omega) h.1))) ; (replace row := row.chg hc9 (fun h => by have := h.2.1; omega)); (replace rx := rx.chg hc9 (fun h => by have := h.2.1; omega)); (replace htb := tb_push htb (j := k * 3) (by omega) hn9 hch.size); (replace hch := hch.trans hc9 (fun i hi h => .inr (.inr ⟨_, by omega, h.1⟩))); (replace hBW := Nat.le_trans hBW hc9.size); (replace how := OW.push0 how hk (Nat.succ_pos _) ho9 hc9 hn9); clear ho9 hc9 hn9 rn8
   refine hK.out _ _ ?g9rs32 (fun hHeld => ?g9rt32)
   case g9rs32 => (try dsimp only); (first | exact HU.out.2 | exact ⟨(row.cell _).trans hcR, (row.cell _).trans hcD, (row.cell _).trans hcV⟩)
   try dsimp only at hHeld
   clear hK K
   try simp only [Act.put, pA, pB, pC]
   refine wpAnyF_ready [16] (by kernel_rfl) (by simp) ?_
   refine AllReadyF.con 16 rfl (fun K hK => ?g9ro33) ?g9rm33
   case g9rm33 => exact AllReadyF.nil
   (refine step_append (B := p.B) rfl _ _ _ _ rfl ii (.int .i64 0) 8 Try.underlying22 hii hz0i hz1i hz2i rfl rfl (OW.own1' how hk) _ rfl 1 _ (src_rw (P := Try.prog) (tx := 22) Try.underlying22 rn15 1 1 rfl (by simp [Value.oneCell'])) (by simp only [maxLen]; omega) (by omega) hBW ?_; intro a16 cap16 W16 ho16 hc16 hn16); (replace row := row.chg hc16 (fun h => by have := h.2.1; omega)); (replace rx := rx.chg hc16 (fun h => by have := h.2.1; omega)); (replace htb := tb_push htb (j := k * 3 + 1) (by omega) (by rw [upd_ne _ _ (by omega)]; exact hn16) hch.size); (replace hch := hch.trans hc16 (fun i hi h => .inr (.inr ⟨_, by omega, h.1⟩))); (replace hBW := Nat.le_trans hBW hc16.size); (replace how := OW.push1 how hk (Nat.succ_pos _) ho16 hc16 hn16); clear ho16 hc16 hn16 rn15
   refine hK.out _ _ ?g9rs33 (fun hHeld => ?g9rt33)
   case g9rs33 => (try dsimp only); (first | exact HU.out.2 | exact ⟨(row.cell _).trans hcR, (row.cell _).trans hcD, (row.cell _).trans hcV⟩)
   try dsimp only at hHeld
   clear hK K
   try simp only [Act.put, pA, pB, pC]
   refine wpAnyF_ready [22] (by kernel_rfl) (by simp) ?_
   refine AllReadyF.con 22 rfl (fun K hK => ?g9ro34) ?g9rm34
   case g9rm34 => exact AllReadyF.nil
   (refine step_nothing rfl _ _ _ _ rfl iv Try.underlying40 hiv hz1v rfl (OW.own2' how hk).le _ rfl ((Sl.nil (fun _ => True) _ 2 none).src (P := Try.prog) (tx := 40) Try.underlying40 (fun u h => by cases h)) ?_); (replace htb := tb_push htb (j := k * 3 + 2) (a' := aa (k * 3 + 2)) (W := w) (by omega) (fun g hg => .inl (by rw [upd_ne _ _ (by omega), upd_ne _ _ (by omega)]; exact hg)) (Nat.le_refl _)); (replace how := OW.same2 how)
   refine hK.out _ _ ?g9rs34 (fun hHeld => ?g9rt34)
   case g9rs34 => (try dsimp only); (first | exact HU.out.2 | exact ⟨(row.cell _).trans hcR, (row.cell _).trans hcD, (row.cell _).trans hcV⟩)
   try dsimp only at hHeld
   clear hK K
   try simp only [Act.put, pA, pB, pC]
   refine wpAnyF_ready [23] (by kernel_rfl) (by simp) ?_
   refine AllReadyF.lst 23 rfl (by kernel_rfl) (fun K hK => ?g9ro35) ?g9rm35
   case g9rm35 => exact AllReadyF.nil
   (obtain ⟨c0, c1, c2⟩ := hHeld); (have qf := row.frozen); (have ql := row.lt); go_simp
   refine hK.out _ _ ?_
   clear hK K
   try simp only [Act.put, pA, pB, pC]
   refine wpAnyF_ready [24] (by kernel_rfl) (by simp) ?_
   refine AllReadyF.lst 24 rfl (by kernel_rfl) (fun K hK => ?g9ro36) ?g9rm36
   case g9rm36 => exact AllReadyF.nil
   go_simp
   refine hK.out _ _ ?_
   clear hK K
   try simp only [Act.put, pA, pB, pC]
   refine wpAnyF_ready [25] (by kernel_rfl) (by simp) ?_
   refine AllReadyF.lst 25 rfl (by kernel_rfl) (fun K hK => ?g9ro37) ?g9rm37
   case g9rm37 => exact AllReadyF.nil
   go_simp
   refine hK.out _ _ ?_
   clear hK K
   try simp only [Act.put, pA, pB, pC]
   refine wpAnyF_ready [26] (by kernel_rfl) (by simp) ?_
   refine AllReadyF.lst 26 rfl (by kernel_rfl) (fun K hK => ?g9ro38) ?g9rm38
   case g9rm38 => exact AllReadyF.nil
   go_simp
   refine hK.out _ _ ?_
   clear hK K
   try simp only [Act.put, pA, pB, pC]
   refine wpAnyF_ready [27] (by kernel_rfl) (by simp) ?_
   refine AllReadyF.lst 27 rfl (by kernel_rfl) (fun K hK => ?g9ro39) ?g9rm39
   case g9rm39 => exact AllReadyF.nil
   go_simp
   refine hK.out _ _ ?_
   clear hK K
   try simp only [Act.put, pA, pB, pC]
   refine wpAnyF_ready [28] (by kernel_rfl) (by simp) ?_
   refine AllReadyF.lst 28 rfl (by kernel_rfl) (fun K hK => ?g9ro40) ?g9rm40
   case g9rm40 => exact AllReadyF.nil
   go_simp
   refine hK.out _ _ ?_
   clear hK K
   try simp only [Act.put, pA, pB, pC]
   refine wpAnyF_ready [29] (by kernel_rfl) (by simp) ?_
   refine AllReadyF.lst 29 rfl (by kernel_rfl) (fun K hK => ?g9ro41) ?g9rm41
   case g9rm41 => exact AllReadyF.nil
   go_simp
   refine hK.out _ _ ?_
   clear hK K
   try simp only [Act.put, pA, pB, pC]
   refine wpAnyF_ready [30] (by kernel_rfl) (by simp) ?_
   refine AllReadyF.lst 30 rfl (by kernel_rfl) (fun K hK => ?g9ro42) ?g9rm42
   case g9rm42 => exact AllReadyF.nil
   go_simp
   refine hK.out _ _ ?_
   clear hK K
   try simp only [Act.put, pA, pB, pC]
   refine wpAnyF_ready [31] (by kernel_rfl) (by simp) ?_
   refine AllReadyF.lst 31 rfl (by kernel_rfl) (fun K hK => ?g9ro43) ?g9rm43
   case g9rm43 => exact AllReadyF.nil
   go_simp
   refine hK.out _ _ ?_
   clear hK K
   try simp only [Act.put, pA, pB, pC]
   refine wpAnyF_done (by kernel_rfl) ?_
   have hfin := CT.fin (L := cut4 G k ++ [⟨r, d, none⟩]) hk row HT.out.size hH HT.out.lt (by simpa only [celR_snoc, celD_snoc, celV_none, List.length_append, List.length_singleton] using how)
   simp only [celV_none, List.length_append, List.length_singleton] at hfin
   have hch2 := ((hch.setCell (p := ⟨p.bc, k * 3, none⟩) (.inr (.inr (.inl rfl))) (.slice a9 ((cut4 G k).length + 1) cap9)).setCell (p := ⟨p.bc, k * 3 + 1, none⟩) (.inr (.inr (.inl rfl))) (.slice a16 ((cut4 G k).length + 1) cap16)).setCell (p := ⟨p.bc, k * 3 + 2, none⟩) (.inr (.inr (.inl rfl))) (.slice (aa (k * 3 + 2)) (celV (cut4 G k)).length (cc (k * 3 + 2)))
   have hne : p.bx ≠ p.bc := hbd.2.2.1
   have rx2 := ((rx.other (p := ⟨p.bc, k * 3, none⟩) hne (.slice a9 ((cut4 G k).length + 1) cap9)).other (p := ⟨p.bc, k * 3 + 1, none⟩) hne (.slice a16 ((cut4 G k).length + 1) cap16)).other (p := ⟨p.bc, k * 3 + 2, none⟩) hne (.slice (aa (k * 3 + 2)) (celV (cut4 G k)).length (cc (k * 3 + 2)))
   clear row rx how hch
   go_wp2_with fail
   refine bodyPost_end (v := .tuple #[]) (by simp [results, Try.results73, go_sem]) rfl ?_
   have hok : ∀ b, b < w.heap.size → p.ok b → ¬ p.ch aa b ∧ p.ok b := fun b _ hb => ⟨H.out.okch hb, hb⟩
   refine ⟨rfl, _, ⟨by rw [mny_add hk _ ho']; exact rx2, H.out.s.go hch2 hok (by decide), H.out.kids.go hch2 hok, H.out.lvs.go hch2 hok, ⟨_, _, hfin.congr (fun j _ => cut4_add _ ho' j)⟩, by have := hch2.size; have := hbd; omega⟩, hch2, htb⟩
  case g9rm30 =>
  exact AllReadyF.nil
end Go.Proofs.Ytjbkjfefjhbolaa
namespace Go.Proofs.Ytjbkjfefjhbolaa
open Go.RowKit Go.Shr
set_option maxHeartbeats 2000000 in
set_option maxRecDepth 100000 in
theorem cell_some (p : SP) (G : Nat → List Cel) (aa : Nat → Option Addr) (k : Nat) (hk : k < p.m) (r d : Nat) (x : Vc) (w0 : World) (w : World) (h0 : Str p w0 G aa) (hb0 : Below w0.heap.size w0 w) (rv : Rw w w0.heap.size #[.int .i64 x.n, .string x.s] 44) :
  Calls Try.prog 73 #[.pointer (some ⟨p.bx, 0, none⟩), .int .i64 (k : Int), .int .i64 (r : Int), .int .i64 (d : Int), .slice (some ⟨w0.heap.size, 0, none⟩) 1 1] w (CellQ p (upd G k (G k ++ [⟨r, d, some x⟩])) aa w) := by
 obtain ⟨ii, hii, hz0i, hz1i, hz2i⟩ := info_parts info_i
 obtain ⟨iv, hiv, hz0v, hz1v, hz2v⟩ := info_parts info_vl
 have h := h0.below hb0
 obtain ⟨cur, cc, ht0⟩ := h0.tab
 have hlv : ∀ j g, j < p.m * 3 → blk (aa j) g → g < w0.heap.size := fun j g hj hg => (ht0.ow.lt j g hj hg).1
 have ht := ht0.below hb0
 have RV := Lib.hid rv
 clear ht0 h0 hb0 rv
 have hbd := h.bds
 have q3 : w.cell? ⟨p.bx, 3, none⟩ = some (.slice (some ⟨p.bc, 0, none⟩) p.m p.m) := h.row.cell 3
 have u0 := ht.cell0 hk
 have hlen : (cut4 G k).length = min 4000 (G k).length := by unfold cut4; rw [List.length_take]
 have hk0 : (0 : Int) ≤ (k : Int) := by omega
 have hk1 : (k : Int) < (p.m : Int) := by omega
 have H := Lib.hid h; have HT := Lib.hid ht
 by_cases ho : 4000 ≤ (G k).length
 ·have hl4 : ((cut4 G k).length : Int) ≥ 4000 := by omega
  have q4 : w.cell? ⟨p.bx, 4, none⟩ = some (.bool (mny p.m G)) := h.row.cell 4
  have qf := h.row.frozen
  have ql := h.row.lt
  clear h ht hlen
  go_enter Try.func73, Try.ntmps73
  go_wp2_with fail
  refine bodyPost_end (v := .tuple #[]) (by simp [results, Try.results73, go_sem]) rfl ?_
  have hch : Chg (fun b => b = p.bx) w (w.setCell ⟨p.bx, 4, none⟩ (.bool true)) := (Chg.refl (fun b => b = p.bx) w).setCell (p := ⟨p.bx, 4, none⟩) (.inr rfl) _
  have hok : ∀ b, b < w.heap.size → p.ok b → ¬ (fun b => b = p.bx) b ∧ p.ok b := fun b _ hb => ⟨hb.2.1, hb⟩
  refine ⟨rfl, aa, ⟨?_, H.out.s.go hch hok (by decide), H.out.kids.go hch hok, H.out.lvs.go hch hok, ⟨cur, cc, (HT.out.chg hch (fun g _ hg h2 => by have h3 : g = p.bx := h2; omega)).congr (fun j _ => cut4_over _ ho j)⟩, by simpa using hbd⟩, hch.mono (fun b _ hb => .inl hb), fun b hb => .inl hb⟩
  have := H.out.row.set 4 (.bool true)
  rw [mny_over hk _ ho]
  exact this
 ·have ho' : (G k).length < 4000 := by omega
  have hl4 : ¬ ((cut4 G k).length : Int) ≥ 4000 := by omega
  have hlm : (cut4 G k).length ≤ 4000 := by omega
  have u1 := ht.cell1 hk
  have u2 := ht.cell2 hk
  have hvl := celV_le (cut4 G k)
  have hH := ht.hds
  have hcR := (hH (k * 3) (by omega)).trans (by rw [(n0 _ k).1])
  have hcD := (hH (k * 3 + 1) (by omega)).trans (by rw [(n1 _ k).1])
  have hcV := (hH (k * 3 + 2) (by omega)).trans (by rw [(n2 _ k).1])
  have HU := Lib.hid (And.intro q3 (And.intro u0 (And.intro u1 u2)))
  clear h hlen
  have hCL : ∀ c : Cel, (cut4 G k ++ [c]).length = (cut4 G k).length + 1 := fun c => by simp
  go_enter Try.func73, Try.ntmps73
  go_wp2_with fail
  refine wp_region_F (fun w' => w'.cell? ⟨p.bc, k * 3, none⟩ = some (.slice (aa (k * 3)) (cut4 G k).length (cc (k * 3))) ∧ w'.cell? ⟨p.bc, k * 3 + 1, none⟩ = some (.slice (aa (k * 3 + 1)) (cut4 G k).length (cc (k * 3 + 1))) ∧ w'.cell? ⟨p.bc, k * 3 + 2, none⟩ = some (.slice (aa (k * 3 + 2)) (celV (cut4 G k)).length (cc (k * 3 + 2)))) [1, 2, 23, 24, 25, 26, 27, 28, 29, 30, 31] (by kernel_rfl) ?g10rgS (fun hHeld => ?g10rgR)
  case g10rgS => (try dsimp only); (first | exact HU.out.2 | exact ⟨(row.cell _).trans hcR, (row.cell _).trans hcD, (row.cell _).trans hcV⟩)
  try dsimp only at hHeld
  obtain ⟨W, hW⟩ : ∃ W, W = w.drew := ⟨_, rfl⟩; rw [← hW] at hHeld ⊢; (have row := Rw.ren hW HT.out.row.drew); (have how : OW p.B W (p.m * 3) tyC szC aa (nC (cut4 G)) cc (xC (cut4 G)) := by rw [hW]; exact HT.out.ow.below (b0 w).drew); (have rx := Rw.ren hW H.out.row.drew); (have hch : Chg (p.ch aa) w W := by rw [hW]; exact (Chg.refl (p.ch aa) w).drew); (have hBW : p.B ≤ W.heap.size := by rw [hW]; exact hbd.2.2.2.2.2); (have htb : ∀ b, p.tb aa b → p.tb aa b ∨ w.heap.size ≤ b := fun b hb => .inl hb); (have rv := Rw.ren hW RV.out.drew); clear hW
  refine wpAnyF_take0 1 (oi := ⟨some 27, .move (.tmp 10), 141, "shred.go:57", #[{ on := 25, ground := Go.Ground.gcOnly Go.Departure.lateStores }], none⟩) (v := ?g10rv1) rfl (by kernel_rfl) (fun _ _ _ h => h) (by rfl) ?g10ry1 ?g10rr1
  case g10ry1 => intro w0' _; go_simp; try with_reducible rfl
  try simp only [Act.put, pA, pB, pC]
  refine wpAnyF_take0 2 (oi := ⟨some 28, .move (.tmp 10), 141, "shred.go:57", #[{ on := 28, ground := Go.Ground.gcOnly Go.Departure.lateStores }], none⟩) (v := ?g10rv2) rfl (by kernel_rfl) (fun _ _ _ h => h) (by rfl) ?g10ry2 ?g10rr2
  case g10ry2 => intro w0' _; go_simp; try with_reducible rfl
  try simp only [Act.put, pA, pB, pC]
  refine wpAnyF_mono (F := [23, 24, 25, 26, 27, 28, 29, 30, 31]) (by simp) _ _ _ _ ?_
  refine wpAnyF_tks [0, 3, 4, 5, 6, 7, 10, 11, 12, 13, 14, 17, 18, 19, 20, 21] 14 (by kernel_rfl) (fun _ _ _ _ _ h => h) (by assumption) ?_
  iterate 16 ((apply YA.take rfl (by rfl); case hy => intro w hSw; obtain ⟨s1, s2, s3⟩ := hSw; go_simp; try with_reducible rfl); try simp only [Act.put, pA, pB, pC])
  refine YA.nil ?_
  refine wpAnyF_ready [8, 15] (by kernel_rfl) (by simp) ?_
  refine AllReadyF.con 8 rfl (fun K hK => ?g10ro3) ?g10rm3
  case g10ro3 =>
   go_simp; refine gen_w (fun X hX => ?_); (have hb := OW.nb how hX); (have rn8 := OW.nr how hX); (replace row := row.below hb); (replace rx := rx.below hb); (replace hch := hch.trans (chF hb) (fun i hi h => h.elim)); (replace rv := rv.below hb);  skip; (replace how := how.below hb); (replace hBW := Nat.le_trans hBW hb.size); clear hb hX
   refine hK.out _ _ ?g10rs3 (fun hHeld => ?g10rt3)
   case g10rs3 => (try dsimp only); (first | exact HU.out.2 | exact ⟨(row.cell _).trans hcR, (row.cell _).trans hcD, (row.cell _).trans hcV⟩)
   try dsimp only at hHeld
   clear hK K
   try simp only [Act.put, pA, pB, pC]
   refine wpAnyF_ready [9, 15] (by kernel_rfl) (by simp) ?_
   refine AllReadyF.con 9 rfl (fun K hK => ?g10ro4) ?g10rm4
   case g10ro4 =>
    (refine step_append (B := p.B) rfl _ _ _ _ rfl ii (.int .i64 0) 8 Try.underlying22 hii hz0i hz1i hz2i rfl rfl (OW.own0 how hk) _ rfl 1 _ (src_rw (P := Try.prog) (tx := 22) Try.underlying22 rn8 1 1 rfl (by simp [Value.oneCell'])) (by simp only [maxLen]; omega) (by omega) hBW ?_; intro a9 cap9 W9 ho9 hc9 hn9); (replace rv := rv.chg hc9 (fun h => Nat.lt_irrefl _ (hlv _ _ (by omega) h.1)));  skip; (replace row := row.chg hc9 (fun h => by have := h.2.1; omega)); (replace rx := rx.chg hc9 (fun h => by have := h.2.1; omega)); (replace htb := tb_push htb (j := k * 3) (by omega) hn9 hch.size); (replace hch := hch.trans hc9 (fun i hi h => .inr (.inr ⟨_, by omega, h.1⟩))); (replace hBW := Nat.le_trans hBW hc9.size); (replace how := OW.push0 how hk (Nat.succ_pos _) ho9 hc9 hn9); clear ho9 hc9 hn9 rn8
    refine hK.out _ _ ?g10rs4 (fun hHeld => ?g10rt4)
    case g10rs4 => (try dsimp only); (first | exact HU.out.2 | exact ⟨(row.cell _).trans hcR, (row.cell _).trans hcD, (row.cell _).trans hcV⟩)
    try dsimp only at hHeld
    clear hK K
    try simp only [Act.put, pA, pB, pC]
    refine wpAnyF_ready [15] (by kernel_rfl) (by simp) ?_
    refine AllReadyF.con 15 rfl (fun K hK => ?g10ro5) ?g10rm5
    case g10rm5 => exact AllReadyF.nil
    go_simp; refine gen_w (fun X hX => ?_); (have hb := OW.nb how hX); (have rn15 := OW.nr how hX); (have hl15 := fun j g (hj : j < p.m * 3) hg => (how.lt j g hj hg).1); (replace row := row.below hb); (replace rx := rx.below hb); (replace hch := hch.trans (chF hb) (fun i hi h => h.elim)); (replace rv := rv.below hb); (try replace rn8 := rn8.below hb); (replace how := how.below hb); (replace hBW := Nat.le_trans hBW hb.size); clear hb hX
    refine hK.out _ _ ?g10rs5 (fun hHeld => ?g10rt5)
    case g10rs5 => (try dsimp only); (first | exact HU.out.2 | exact ⟨(row.cell _).trans hcR, (row.cell _).trans hcD, (row.cell _).trans hcV⟩)
    try dsimp only at hHeld
    clear hK K
    try simp only [Act.put, pA, pB, pC]
    refine wpAnyF_ready [16] (by kernel_rfl) (by simp) ?_
    refine AllReadyF.con 16 rfl (fun K hK => ?g10ro6) ?g10rm6
    case g10rm6 => exact AllReadyF.nil
    (refine step_append (B := p.B) rfl _ _ _ _ rfl ii (.int .i64 0) 8 Try.underlying22 hii hz0i hz1i hz2i rfl rfl (OW.own1' how hk) _ rfl 1 _ (src_rw (P := Try.prog) (tx := 22) Try.underlying22 rn15 1 1 rfl (by simp [Value.oneCell'])) (by simp only [maxLen]; omega) (by omega) hBW ?_; intro a16 cap16 W16 ho16 hc16 hn16); (replace rv := rv.chg hc16 (fun h => Nat.lt_irrefl _ (hlv _ _ (by omega) h.1))); (replace row := row.chg hc16 (fun h => by have := h.2.1; omega)); (replace rx := rx.chg hc16 (fun h => by have := h.2.1; omega)); (replace htb := tb_push htb (j := k * 3 + 1) (by omega) (by rw [upd_ne _ _ (by omega)]; exact hn16) hch.size); (replace hch := hch.trans hc16 (fun i hi h => .inr (.inr ⟨_, by omega, h.1⟩))); (replace hBW := Nat.le_trans hBW hc16.size); (replace how := OW.push1 how hk (Nat.succ_pos _) ho16 hc16 hn16); clear ho16 hc16 hn16 rn15
    refine hK.out _ _ ?g10rs6 (fun hHeld => ?g10rt6)
    case g10rs6 => (try dsimp only); (first | exact HU.out.2 | exact ⟨(row.cell _).trans hcR, (row.cell _).trans hcD, (row.cell _).trans hcV⟩)
    try dsimp only at hHeld
    clear hK K
    try simp only [Act.put, pA, pB, pC]
    refine wpAnyF_ready [22] (by kernel_rfl) (by simp) ?_
    refine AllReadyF.con 22 rfl (fun K hK => ?g10ro7) ?g10rm7
    case g10rm7 => exact AllReadyF.nil
    (refine step_append (B := p.B) rfl _ _ _ _ rfl iv (.agg #[.int .i64 0, .string ByteArray.empty]) 24 Try.underlying40 hiv hz0v hz1v hz2v rfl rfl (OW.own2' how hk) _ rfl 1 _ (src_rw (P := Try.prog) (tx := 40) Try.underlying40 rv 1 2 rfl (by simp [Value.oneCell'])) (by simp only [maxLen]; omega) (by omega) hBW ?_; intro a22 cap22 W22 ho22 hc22 hn22); (replace row := row.chg hc22 (fun h => by have := h.2.1; omega)); (replace rx := rx.chg hc22 (fun h => by have := h.2.1; omega)); (replace htb := tb_push htb (j := k * 3 + 2) (by omega) (by rw [upd_ne _ _ (by omega), upd_ne _ _ (by omega)]; exact hn22) hch.size); (replace hch := hch.trans hc22 (fun i hi h => .inr (.inr ⟨_, by omega, h.1⟩))); (replace hBW := Nat.le_trans hBW hc22.size); (replace how := OW.push2 how hk (Nat.succ_pos _) ho22 hc22 hn22); clear ho22 hc22 hn22 rv
    refine hK.out _ _ ?g10rs7 (fun hHeld => ?g10rt7)
    case g10rs7 => (try dsimp only); (first | exact HU.out.2 | exact ⟨(row.cell _).trans hcR, (row.cell _).trans hcD, (row.cell _).trans hcV⟩)
    try dsimp only at hHeld
    clear hK K
    try simp only [Act.put, pA, pB, pC]
    refine wpAnyF_ready [23] (by kernel_rfl) (by simp) ?_
    refine AllReadyF.lst 23 rfl (by kernel_rfl) (fun K hK => ?g10ro8) ?g10rm8
    case g10rm8 => exact AllReadyF.nil
    (obtain ⟨c0, c1, c2⟩ := hHeld); (have qf := row.frozen); (have ql := row.lt); go_simp
    refine hK.out _ _ ?_
    clear hK K
    try simp only [Act.put, pA, pB, pC]
    refine wpAnyF_ready [24] (by kernel_rfl) (by simp) ?_
    refine AllReadyF.lst 24 rfl (by kernel_rfl) (fun K hK => ?g10ro9) ?g10rm9
    case g10rm9 => exact AllReadyF.nil
    go_simp
    refine hK.out _ _ ?_
    clear hK K
    try simp only [Act.put, pA, pB, pC]
    refine wpAnyF_ready [25] (by kernel_rfl) (by simp) ?_
    refine AllReadyF.lst 25 rfl (by kernel_rfl) (fun K hK => ?g10ro10) ?g10rm10
    case g10rm10 => exact AllReadyF.nil
    go_simp
    refine hK.out _ _ ?_
    clear hK K
    try simp only [Act.put, pA, pB, pC]
    refine wpAnyF_ready [26] (by kernel_rfl) (by simp) ?_
    refine AllReadyF.lst 26 rfl (by kernel_rfl) (fun K hK => ?g10ro11) ?g10rm11
    case g10rm11 => exact AllReadyF.nil
    go_simp
    refine hK.out _ _ ?_
    clear hK K
    try simp only [Act.put, pA, pB, pC]
    refine wpAnyF_ready [27] (by kernel_rfl) (by simp) ?_
    refine AllReadyF.lst 27 rfl (by kernel_rfl) (fun K hK => ?g10ro12) ?g10rm12
    case g10rm12 => exact AllReadyF.nil
    go_simp
    refine hK.out _ _ ?_
    clear hK K
    try simp only [Act.put, pA, pB, pC]
    refine wpAnyF_ready [28] (by kernel_rfl) (by simp) ?_
    refine AllReadyF.lst 28 rfl (by kernel_rfl) (fun K hK => ?g10ro13) ?g10rm13
    case g10rm13 => exact AllReadyF.nil
    go_simp
    refine hK.out _ _ ?_
    clear hK K
    try simp only [Act.put, pA, pB, pC]
    refine wpAnyF_ready [29] (by kernel_rfl) (by simp) ?_
    refine AllReadyF.lst 29 rfl (by kernel_rfl) (fun K hK => ?g10ro14) ?g10rm14
    case g10rm14 => exact AllReadyF.nil
    go_simp
    refine hK.out _ _ ?_
    clear hK K
    try simp only [Act.put, pA, pB, pC]
    refine wpAnyF_ready [30] (by kernel_rfl) (by simp) ?_
    refine AllReadyF.lst 30 rfl (by kernel_rfl) (fun K hK => ?g10ro15) ?g10rm15
    case g10rm15 => exact AllReadyF.nil
    go_simp
    refine hK.out _ _ ?_
    clear hK K
    try simp only [Act.put, pA, pB, pC]
    refine wpAnyF_ready [31] (by kernel_rfl) (by simp) ?_
    refine AllReadyF.lst 31 rfl (by kernel_rfl) (fun K hK => ?g10ro16) ?g10rm16
    case g10rm16 => exact AllReadyF.nil
    go_simp
    refine hK.out _ _ ?_
    clear hK K
    try simp only [Act.put, pA, pB, pC]
    refine wpAnyF_done (by kernel_rfl) ?_
    have hfin := CT.fin (L := cut4 G k ++ [⟨r, d, some x⟩]) hk row HT.out.size hH HT.out.lt (by simpa only [celR_snoc, celD_snoc, celV_some, vcs_snoc, List.length_append, List.length_singleton] using how)
    simp only [celV_some, vcs_snoc, List.length_append, List.length_singleton] at hfin
    have hch2 := ((hch.setCell (p := ⟨p.bc, k * 3, none⟩) (.inr (.inr (.inl rfl))) (.slice a9 ((cut4 G k).length + 1) cap9)).setCell (p := ⟨p.bc, k * 3 + 1, none⟩) (.inr (.inr (.inl rfl))) (.slice a16 ((cut4 G k).length + 1) cap16)).setCell (p := ⟨p.bc, k * 3 + 2, none⟩) (.inr (.inr (.inl rfl))) (.slice a22 ((celV (cut4 G k)).length + 1) cap22)
    have hne : p.bx ≠ p.bc := hbd.2.2.1
    have rx2 := ((rx.other (p := ⟨p.bc, k * 3, none⟩) hne (.slice a9 ((cut4 G k).length + 1) cap9)).other (p := ⟨p.bc, k * 3 + 1, none⟩) hne (.slice a16 ((cut4 G k).length + 1) cap16)).other (p := ⟨p.bc, k * 3 + 2, none⟩) hne (.slice a22 ((celV (cut4 G k)).length + 1) cap22)
    clear row rx how hch
    go_wp2_with fail
    refine bodyPost_end (v := .tuple #[]) (by simp [results, Try.results73, go_sem]) rfl ?_
    have hok : ∀ b, b < w.heap.size → p.ok b → ¬ p.ch aa b ∧ p.ok b := fun b _ hb => ⟨H.out.okch hb, hb⟩
    refine ⟨rfl, _, ⟨by rw [mny_add hk _ ho']; exact rx2, H.out.s.go hch2 hok (by decide), H.out.kids.go hch2 hok, H.out.lvs.go hch2 hok, ⟨_, _, hfin.congr (fun j _ => cut4_add _ ho' j)⟩, by have := hch2.size; have := hbd; omega⟩, hch2, htb⟩
   case g10rm4 =>
   refine AllReadyF.con 15 rfl (fun K hK => ?g10ro17) ?g10rm17
   case g10ro17 =>
    go_simp; refine gen_w (fun X hX => ?_); (have hb := OW.nb how hX); (have rn15 := OW.nr how hX); (have hl15 := fun j g (hj : j < p.m * 3) hg => (how.lt j g hj hg).1); (replace row := row.below hb); (replace rx := rx.below hb); (replace hch := hch.trans (chF hb) (fun i hi h => h.elim)); (replace rv := rv.below hb); (try replace rn8 := rn8.below hb); (replace how := how.below hb); (replace hBW := Nat.le_trans hBW hb.size); clear hb hX
    refine hK.out _ _ ?g10rs17 (fun hHeld => ?g10rt17)
    case g10rs17 => (try dsimp only); (first | exact HU.out.2 | exact ⟨(row.cell _).trans hcR, (row.cell _).trans hcD, (row.cell _).trans hcV⟩)
    try dsimp only at hHeld
    clear hK K
    try simp only [Act.put, pA, pB, pC]
    refine wpAnyF_ready [9] (by kernel_rfl) (by simp) ?_
    refine AllReadyF.con 9 rfl (fun K hK => ?g10ro18) ?g10rm18
    case g10rm18 => exact AllReadyF.nil
    (refine step_append (B := p.B) rfl _ _ _ _ rfl ii (.int .i64 0) 8 Try.underlying22 hii hz0i hz1i hz2i rfl rfl (OW.own0 how hk) _ rfl 1 _ (src_rw (P := Try.prog) (tx := 22) Try.underlying22 rn8 1 1 rfl (by simp [Value.oneCell'])) (by simp only [maxLen]; omega) (by omega) hBW ?_; intro a9 cap9 W9 ho9 hc9 hn9); (replace rv := rv.chg hc9 (fun h => Nat.lt_irrefl _ (hlv _ _ (by omega) h.1)));  (replace rn15 := rn15.chg hc9 (fun h => Nat.lt_irrefl _ (hl15 _ _ (by omega) h.1))) ; (replace row := row.chg hc9 (fun h => by have := h.2.1; omega)); (replace rx := rx.chg hc9 (fun h => by have := h.2.1; omega)); (replace htb := tb_push htb (j := k * 3) (by omega) hn9 hch.size); (replace hch := hch.trans hc9 (fun i hi h => .inr (.inr ⟨_, by omega, h.1⟩))); (replace hBW := Nat.le_trans hBW hc9.size); (replace how := OW.push0 how hk (Nat.succ_pos _) ho9 hc9 hn9); clear ho9 hc9 hn9 rn8
    refine hK.out _ _ ?g10rs18 (fun hHeld => ?g10rt18)
    case g10rs18 => (try dsimp only); (first | exact HU.out.2 | exact ⟨(row.cell _).trans hcR, (row.cell _).trans hcD, (row.cell _).trans hcV⟩)
    try dsimp only at hHeld
    clear hK K
    try simp only [Act.put, pA, pB, pC]
    refine wpAnyF_ready [16] (by kernel_rfl) (by simp) ?_
    refine AllReadyF.con 16 rfl (fun K hK => ?g10ro19) ?g10rm19
    case g10rm19 => exact AllReadyF.nil
    (refine step_append (B := p.B) rfl _ _ _ _ rfl ii (.int .i64 0) 8 Try.underlying22 hii hz0i hz1i hz2i rfl rfl (OW.own1' how hk) _ rfl 1 _ (src_rw (P := Try.prog) (tx := 22) Try.underlying22 rn15 1 1 rfl (by simp [Value.oneCell'])) (by simp only [maxLen]; omega) (by omega) hBW ?_; intro a16 cap16 W16 ho16 hc16 hn16); (replace rv := rv.chg hc16 (fun h => Nat.lt_irrefl _ (hlv _ _ (by omega) h.1))); (replace row := row.chg hc16 (fun h => by have := h.2.1; omega)); (replace rx := rx.chg hc16 (fun h => by have := h.2.1; omega)); (replace htb := tb_push htb (j := k * 3 + 1) (by omega) (by rw [upd_ne _ _ (by omega)]; exact hn16) hch.size); (replace hch := hch.trans hc16 (fun i hi h => .inr (.inr ⟨_, by omega, h.1⟩))); (replace hBW := Nat.le_trans hBW hc16.size); (replace how := OW.push1 how hk (Nat.succ_pos _) ho16 hc16 hn16); clear ho16 hc16 hn16 rn15
    refine hK.out _ _ ?g10rs19 (fun hHeld => ?g10rt19)
    case g10rs19 => (try dsimp only); (first | exact HU.out.2 | exact ⟨(row.cell _).trans hcR, (row.cell _).trans hcD, (row.cell _).trans hcV⟩)
    try dsimp only at hHeld
    clear hK K
    try simp only [Act.put, pA, pB, pC]
    refine wpAnyF_ready [22] (by kernel_rfl) (by simp) ?_
    refine AllReadyF.con 22 rfl (fun K hK => ?g10ro20) ?g10rm20
    case g10rm20 => exact AllReadyF.nil
    (refine step_append (B := p.B) rfl _ _ _ _ rfl iv (.agg #[.int .i64 0, .string ByteArray.empty]) 24 Try.underlying40 hiv hz0v hz1v hz2v rfl rfl (OW.own2' how hk) _ rfl 1 _ (src_rw (P := Try.prog) (tx := 40) Try.underlying40 rv 1 2 rfl (by simp [Value.oneCell'])) (by simp only [maxLen]; omega) (by omega) hBW ?_; intro a22 cap22 W22 ho22 hc22 hn22); (replace row := row.chg hc22 (fun h => by have := h.2.1; omega)); (replace rx := rx.chg hc22 (fun h => by have := h.2.1; omega)); (replace htb := tb_push htb (j := k * 3 + 2) (by omega) (by rw [upd_ne _ _ (by omega), upd_ne _ _ (by omega)]; exact hn22) hch.size); (replace hch := hch.trans hc22 (fun i hi h => .inr (.inr ⟨_, by omega, h.1⟩))); (replace hBW := Nat.le_trans hBW hc22.size); (replace how := OW.push2 how hk (Nat.succ_pos _) ho22 hc22 hn22); clear ho22 hc22 hn22 rv
    refine hK.out _ _ ?g10rs20 (fun hHeld => ?g10rt20)
    case g10rs20 => (try dsimp only); (first | exact HU.out.2 | exact ⟨(row.cell _).trans hcR, (row.cell _).trans hcD, (row.cell _).trans hcV⟩)
    try dsimp only at hHeld
    clear hK K
    try simp only [Act.put, pA, pB, pC]
    refine wpAnyF_ready [23] (by kernel_rfl) (by simp) ?_
    refine AllReadyF.lst 23 rfl (by kernel_rfl) (fun K hK => ?g10ro21) ?g10rm21
    case g10rm21 => exact AllReadyF.nil
    (obtain ⟨c0, c1, c2⟩ := hHeld); (have qf := row.frozen); (have ql := row.lt); go_simp
    refine hK.out _ _ ?_
    clear hK K
    try simp only [Act.put, pA, pB, pC]
    refine wpAnyF_ready [24] (by kernel_rfl) (by simp) ?_
    refine AllReadyF.lst 24 rfl (by kernel_rfl) (fun K hK => ?g10ro22) ?g10rm22
    case g10rm22 => exact AllReadyF.nil
    go_simp
    refine hK.out _ _ ?_
    clear hK K
    try simp only [Act.put, pA, pB, pC]
    refine wpAnyF_ready [25] (by kernel_rfl) (by simp) ?_
    refine AllReadyF.lst 25 rfl (by kernel_rfl) (fun K hK => ?g10ro23) ?g10rm23
    case g10rm23 => exact AllReadyF.nil
    go_simp
    refine hK.out _ _ ?_
    clear hK K
    try simp only [Act.put, pA, pB, pC]
    refine wpAnyF_ready [26] (by kernel_rfl) (by simp) ?_
    refine AllReadyF.lst 26 rfl (by kernel_rfl) (fun K hK => ?g10ro24) ?g10rm24
    case g10rm24 => exact AllReadyF.nil
    go_simp
    refine hK.out _ _ ?_
    clear hK K
    try simp only [Act.put, pA, pB, pC]
    refine wpAnyF_ready [27] (by kernel_rfl) (by simp) ?_
    refine AllReadyF.lst 27 rfl (by kernel_rfl) (fun K hK => ?g10ro25) ?g10rm25
    case g10rm25 => exact AllReadyF.nil
    go_simp
    refine hK.out _ _ ?_
    clear hK K
    try simp only [Act.put, pA, pB, pC]
    refine wpAnyF_ready [28] (by kernel_rfl) (by simp) ?_
    refine AllReadyF.lst 28 rfl (by kernel_rfl) (fun K hK => ?g10ro26) ?g10rm26
    case g10rm26 => exact AllReadyF.nil
    go_simp
    refine hK.out _ _ ?_
    clear hK K
    try simp only [Act.put, pA, pB, pC]
    refine wpAnyF_ready [29] (by kernel_rfl) (by simp) ?_
    refine AllReadyF.lst 29 rfl (by kernel_rfl) (fun K hK => ?g10ro27) ?g10rm27
    case g10rm27 => exact AllReadyF.nil
    go_simp
    refine hK.out _ _ ?_
    clear hK K
    try simp only [Act.put, pA, pB, pC]
    refine wpAnyF_ready [30] (by kernel_rfl) (by simp) ?_
    refine AllReadyF.lst 30 rfl (by kernel_rfl) (fun K hK => ?g10ro28) ?g10rm28
    case g10rm28 => exact AllReadyF.nil
    go_simp
    refine hK.out _ _ ?_
    clear hK K
    try simp only [Act.put, pA, pB, pC]
    refine wpAnyF_ready [31] (by kernel_rfl) (by simp) ?_
    refine AllReadyF.lst 31 rfl (by kernel_rfl) (fun K hK => ?g10ro29) ?g10rm29
    case g10rm29 => exact AllReadyF.nil
    go_simp
    refine hK.out _ _ ?_
    clear hK K
    try simp only [Act.put, pA, pB, pC]
    refine wpAnyF_done (by kernel_rfl) ?_
    have hfin := CT.fin (L := cut4 G k ++ [⟨r, d, some x⟩]) hk row HT.out.size hH HT.out.lt (by simpa only [celR_snoc, celD_snoc, celV_some, vcs_snoc, List.length_append, List.length_singleton] using how)
    simp only [celV_some, vcs_snoc, List.length_append, List.length_singleton] at hfin
    have hch2 := ((hch.setCell (p := ⟨p.bc, k * 3, none⟩) (.inr (.inr (.inl rfl))) (.slice a9 ((cut4 G k).length + 1) cap9)).setCell (p := ⟨p.bc, k * 3 + 1, none⟩) (.inr (.inr (.inl rfl))) (.slice a16 ((cut4 G k).length + 1) cap16)).setCell (p := ⟨p.bc, k * 3 + 2, none⟩) (.inr (.inr (.inl rfl))) (.slice a22 ((celV (cut4 G k)).length + 1) cap22)
    have hne : p.bx ≠ p.bc := hbd.2.2.1
    have rx2 := ((rx.other (p := ⟨p.bc, k * 3, none⟩) hne (.slice a9 ((cut4 G k).length + 1) cap9)).other (p := ⟨p.bc, k * 3 + 1, none⟩) hne (.slice a16 ((cut4 G k).length + 1) cap16)).other (p := ⟨p.bc, k * 3 + 2, none⟩) hne (.slice a22 ((celV (cut4 G k)).length + 1) cap22)
    clear row rx how hch
    go_wp2_with fail
    refine bodyPost_end (v := .tuple #[]) (by simp [results, Try.results73, go_sem]) rfl ?_
    have hok : ∀ b, b < w.heap.size → p.ok b → ¬ p.ch aa b ∧ p.ok b := fun b _ hb => ⟨H.out.okch hb, hb⟩
    refine ⟨rfl, _, ⟨by rw [mny_add hk _ ho']; exact rx2, H.out.s.go hch2 hok (by decide), H.out.kids.go hch2 hok, H.out.lvs.go hch2 hok, ⟨_, _, hfin.congr (fun j _ => cut4_add _ ho' j)⟩, by have := hch2.size; have := hbd; omega⟩, hch2, htb⟩
   case g10rm17 =>
   exact AllReadyF.nil
  case g10rm3 =>
  refine AllReadyF.con 15 rfl (fun K hK => ?g10ro30) ?g10rm30
  case g10ro30 =>
   go_simp; refine gen_w (fun X hX => ?_); (have hb := OW.nb how hX); (have rn15 := OW.nr how hX); (have hl15 := fun j g (hj : j < p.m * 3) hg => (how.lt j g hj hg).1); (replace row := row.below hb); (replace rx := rx.below hb); (replace hch := hch.trans (chF hb) (fun i hi h => h.elim)); (replace rv := rv.below hb); (try replace rn8 := rn8.below hb); (replace how := how.below hb); (replace hBW := Nat.le_trans hBW hb.size); clear hb hX
   refine hK.out _ _ ?g10rs30 (fun hHeld => ?g10rt30)
   case g10rs30 => (try dsimp only); (first | exact HU.out.2 | exact ⟨(row.cell _).trans hcR, (row.cell _).trans hcD, (row.cell _).trans hcV⟩)
   try dsimp only at hHeld
   clear hK K
   try simp only [Act.put, pA, pB, pC]
   refine wpAnyF_ready [8] (by kernel_rfl) (by simp) ?_
   refine AllReadyF.con 8 rfl (fun K hK => ?g10ro31) ?g10rm31
   case g10rm31 => exact AllReadyF.nil
   go_simp; refine gen_w (fun X hX => ?_); (have hb := OW.nb how hX); (have rn8 := OW.nr how hX); (replace row := row.below hb); (replace rx := rx.below hb); (replace hch := hch.trans (chF hb) (fun i hi h => h.elim)); (replace rv := rv.below hb);  (replace rn15 := rn15.below hb) ; (replace how := how.below hb); (replace hBW := Nat.le_trans hBW hb.size); clear hb hX
   refine hK.out _ _ ?g10rs31 (fun hHeld => ?g10rt31)
   case g10rs31 => (try dsimp only); (first | exact HU.out.2 | exact ⟨(row.cell _).trans hcR, (row.cell _).trans hcD, (row.cell _).trans hcV⟩)
   try dsimp only at hHeld
   clear hK K
   try simp only [Act.put, pA, pB, pC]
   refine wpAnyF_ready [9] (by kernel_rfl) (by simp) ?_
   refine AllReadyF.con 9 rfl (fun K hK => ?g10ro32) ?g10rm32
   case g10rm32 => exact AllReadyF.nil
   (refine step_append (B := p.B) rfl _ _ _ _ rfl ii (.int .i64 0) 8 Try.underlying22 hii hz0i hz1i hz2i rfl rfl (OW.own0 how hk) _ rfl 1 _ (src_rw (P := Try.prog) (tx := 22) Try.underlying22 rn8 1 1 rfl (by simp [Value.oneCell'])) (by simp only [maxLen]; omega) (by omega) hBW ?_; intro a9 cap9 W9 ho9 hc9 hn9); (replace rv := rv.chg hc9 (fun h => Nat.lt_irrefl _ (hlv _ _ (by omega) h.1)));  (replace rn15 := rn15.chg hc9 (fun h => Nat.lt_irrefl _ (hl15 _ _ (by omega) h.1))) ; (replace row := row.chg hc9 (fun h => by have := h.2.1; omega)); (replace rx := rx.chg hc9 (fun h => by have := h.2.1; omega)); (replace htb := tb_push htb (j := k * 3) (by omega) hn9 hch.size); (replace hch := hch.trans hc9 (fun i hi h => .inr (.inr ⟨_, by omega, h.1⟩))); (replace hBW := Nat.le_trans hBW hc9.size); (replace how := OW.push0 how hk (Nat.succ_pos _) ho9 hc9 hn9); clear ho9 hc9 hn9 rn8
   refine hK.out _ _ ?g10rs32 (fun hHeld => ?g10rt32)
   case g10rs32 => (try dsimp only); (first | exact HU.out.2 | exact ⟨(row.cell _).trans hcR, (row.cell _).trans hcD, (row.cell _).trans hcV⟩)
   try dsimp only at hHeld
   clear hK K
   try simp only [Act.put, pA, pB, pC]
   refine wpAnyF_ready [16] (by kernel_rfl) (by simp) ?_
   refine AllReadyF.con 16 rfl (fun K hK => ?g10ro33) ?g10rm33
   case g10rm33 => exact AllReadyF.nil
   (refine step_append (B := p.B) rfl _ _ _ _ rfl ii (.int .i64 0) 8 Try.underlying22 hii hz0i hz1i hz2i rfl rfl (OW.own1' how hk) _ rfl 1 _ (src_rw (P := Try.prog) (tx := 22) Try.underlying22 rn15 1 1 rfl (by simp [Value.oneCell'])) (by simp only [maxLen]; omega) (by omega) hBW ?_; intro a16 cap16 W16 ho16 hc16 hn16); (replace rv := rv.chg hc16 (fun h => Nat.lt_irrefl _ (hlv _ _ (by omega) h.1))); (replace row := row.chg hc16 (fun h => by have := h.2.1; omega)); (replace rx := rx.chg hc16 (fun h => by have := h.2.1; omega)); (replace htb := tb_push htb (j := k * 3 + 1) (by omega) (by rw [upd_ne _ _ (by omega)]; exact hn16) hch.size); (replace hch := hch.trans hc16 (fun i hi h => .inr (.inr ⟨_, by omega, h.1⟩))); (replace hBW := Nat.le_trans hBW hc16.size); (replace how := OW.push1 how hk (Nat.succ_pos _) ho16 hc16 hn16); clear ho16 hc16 hn16 rn15
   refine hK.out _ _ ?g10rs33 (fun hHeld => ?g10rt33)
   case g10rs33 => (try dsimp only); (first | exact HU.out.2 | exact ⟨(row.cell _).trans hcR, (row.cell _).trans hcD, (row.cell _).trans hcV⟩)
   try dsimp only at hHeld
   clear hK K
   try simp only [Act.put, pA, pB, pC]
   refine wpAnyF_ready [22] (by kernel_rfl) (by simp) ?_
   refine AllReadyF.con 22 rfl (fun K hK => ?g10ro34) ?g10rm34
   case g10rm34 => exact AllReadyF.nil
   (refine step_append (B := p.B) rfl _ _ _ _ rfl iv (.agg #[.int .i64 0, .string ByteArray.empty]) 24 Try.underlying40 hiv hz0v hz1v hz2v rfl rfl (OW.own2' how hk) _ rfl 1 _ (src_rw (P := Try.prog) (tx := 40) Try.underlying40 rv 1 2 rfl (by simp [Value.oneCell'])) (by simp only [maxLen]; omega) (by omega) hBW ?_; intro a22 cap22 W22 ho22 hc22 hn22); (replace row := row.chg hc22 (fun h => by have := h.2.1; omega)); (replace rx := rx.chg hc22 (fun h => by have := h.2.1; omega)); (replace htb := tb_push htb (j := k * 3 + 2) (by omega) (by rw [upd_ne _ _ (by omega), upd_ne _ _ (by omega)]; exact hn22) hch.size); (replace hch := hch.trans hc22 (fun i hi h => .inr (.inr ⟨_, by omega, h.1⟩))); (replace hBW := Nat.le_trans hBW hc22.size); (replace how := OW.push2 how hk (Nat.succ_pos _) ho22 hc22 hn22); clear ho22 hc22 hn22 rv
   refine hK.out _ _ ?g10rs34 (fun hHeld => ?g10rt34)
   case g10rs34 => (try dsimp only); (first | exact HU.out.2 | exact ⟨(row.cell _).trans hcR, (row.cell _).trans hcD, (row.cell _).trans hcV⟩)
   try dsimp only at hHeld
   clear hK K
   try simp only [Act.put, pA, pB, pC]
   refine wpAnyF_ready [23] (by kernel_rfl) (by simp) ?_
   refine AllReadyF.lst 23 rfl (by kernel_rfl) (fun K hK => ?g10ro35) ?g10rm35
   case g10rm35 => exact AllReadyF.nil
   (obtain ⟨c0, c1, c2⟩ := hHeld); (have qf := row.frozen); (have ql := row.lt); go_simp
   refine hK.out _ _ ?_
   clear hK K
   try simp only [Act.put, pA, pB, pC]
   refine wpAnyF_ready [24] (by kernel_rfl) (by simp) ?_
   refine AllReadyF.lst 24 rfl (by kernel_rfl) (fun K hK => ?g10ro36) ?g10rm36
   case g10rm36 => exact AllReadyF.nil
   go_simp
   refine hK.out _ _ ?_
   clear hK K
   try simp only [Act.put, pA, pB, pC]
   refine wpAnyF_ready [25] (by kernel_rfl) (by simp) ?_
   refine AllReadyF.lst 25 rfl (by kernel_rfl) (fun K hK => ?g10ro37) ?g10rm37
   case g10rm37 => exact AllReadyF.nil
   go_simp
   refine hK.out _ _ ?_
   clear hK K
   try simp only [Act.put, pA, pB, pC]
   refine wpAnyF_ready [26] (by kernel_rfl) (by simp) ?_
   refine AllReadyF.lst 26 rfl (by kernel_rfl) (fun K hK => ?g10ro38) ?g10rm38
   case g10rm38 => exact AllReadyF.nil
   go_simp
   refine hK.out _ _ ?_
   clear hK K
   try simp only [Act.put, pA, pB, pC]
   refine wpAnyF_ready [27] (by kernel_rfl) (by simp) ?_
   refine AllReadyF.lst 27 rfl (by kernel_rfl) (fun K hK => ?g10ro39) ?g10rm39
   case g10rm39 => exact AllReadyF.nil
   go_simp
   refine hK.out _ _ ?_
   clear hK K
   try simp only [Act.put, pA, pB, pC]
   refine wpAnyF_ready [28] (by kernel_rfl) (by simp) ?_
   refine AllReadyF.lst 28 rfl (by kernel_rfl) (fun K hK => ?g10ro40) ?g10rm40
   case g10rm40 => exact AllReadyF.nil
   go_simp
   refine hK.out _ _ ?_
   clear hK K
   try simp only [Act.put, pA, pB, pC]
   refine wpAnyF_ready [29] (by kernel_rfl) (by simp) ?_
   refine AllReadyF.lst 29 rfl (by kernel_rfl) (fun K hK => ?g10ro41) ?g10rm41
   case g10rm41 => exact AllReadyF.nil
   go_simp
   refine hK.out _ _ ?_
   clear hK K
   try simp only [Act.put, pA, pB, pC]
   refine wpAnyF_ready [30] (by kernel_rfl) (by simp) ?_
   refine AllReadyF.lst 30 rfl (by kernel_rfl) (fun K hK => ?g10ro42) ?g10rm42
   case g10rm42 => exact AllReadyF.nil
   go_simp
   refine hK.out _ _ ?_
   clear hK K
   try simp only [Act.put, pA, pB, pC]
   refine wpAnyF_ready [31] (by kernel_rfl) (by simp) ?_
   refine AllReadyF.lst 31 rfl (by kernel_rfl) (fun K hK => ?g10ro43) ?g10rm43
   case g10rm43 => exact AllReadyF.nil
   go_simp
   refine hK.out _ _ ?_
   clear hK K
   try simp only [Act.put, pA, pB, pC]
   refine wpAnyF_done (by kernel_rfl) ?_
   have hfin := CT.fin (L := cut4 G k ++ [⟨r, d, some x⟩]) hk row HT.out.size hH HT.out.lt (by simpa only [celR_snoc, celD_snoc, celV_some, vcs_snoc, List.length_append, List.length_singleton] using how)
   simp only [celV_some, vcs_snoc, List.length_append, List.length_singleton] at hfin
   have hch2 := ((hch.setCell (p := ⟨p.bc, k * 3, none⟩) (.inr (.inr (.inl rfl))) (.slice a9 ((cut4 G k).length + 1) cap9)).setCell (p := ⟨p.bc, k * 3 + 1, none⟩) (.inr (.inr (.inl rfl))) (.slice a16 ((cut4 G k).length + 1) cap16)).setCell (p := ⟨p.bc, k * 3 + 2, none⟩) (.inr (.inr (.inl rfl))) (.slice a22 ((celV (cut4 G k)).length + 1) cap22)
   have hne : p.bx ≠ p.bc := hbd.2.2.1
   have rx2 := ((rx.other (p := ⟨p.bc, k * 3, none⟩) hne (.slice a9 ((cut4 G k).length + 1) cap9)).other (p := ⟨p.bc, k * 3 + 1, none⟩) hne (.slice a16 ((cut4 G k).length + 1) cap16)).other (p := ⟨p.bc, k * 3 + 2, none⟩) hne (.slice a22 ((celV (cut4 G k)).length + 1) cap22)
   clear row rx how hch
   go_wp2_with fail
   refine bodyPost_end (v := .tuple #[]) (by simp [results, Try.results73, go_sem]) rfl ?_
   have hok : ∀ b, b < w.heap.size → p.ok b → ¬ p.ch aa b ∧ p.ok b := fun b _ hb => ⟨H.out.okch hb, hb⟩
   refine ⟨rfl, _, ⟨by rw [mny_add hk _ ho']; exact rx2, H.out.s.go hch2 hok (by decide), H.out.kids.go hch2 hok, H.out.lvs.go hch2 hok, ⟨_, _, hfin.congr (fun j _ => cut4_add _ ho' j)⟩, by have := hch2.size; have := hbd; omega⟩, hch2, htb⟩
  case g10rm30 =>
  exact AllReadyF.nil
end Go.Proofs.Ytjbkjfefjhbolaa
