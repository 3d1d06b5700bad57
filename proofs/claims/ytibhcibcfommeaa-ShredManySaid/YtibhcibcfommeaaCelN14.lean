/-
  The walk of cell, without a value.
-/
import Derived.Test.YtibhcibcfommeaaStr14
import Derived.Deep.CutRange
set_option linter.unusedSimpArgs false
namespace Go.Proofs.Ytibhcibcfommeaa
open Go.RowKit Go.Shr
set_option maxHeartbeats 2000000 in
set_option maxRecDepth 100000 in
theorem cell_none (p : SP) (G : Nat → List Cel) (aa : Nat → Option Addr) (k : Nat) (hk : k < p.m) (r d : Nat) (w : World) (h : Str p w G aa) :
    Calls Try.prog 51 #[.pointer (some ⟨p.bx, 0, none⟩), .int .i64 (k : Int), .int .i64 (r : Int), .int .i64 (d : Int), .slice none 0 0] w (CellQ p (upd G k (G k ++ [⟨r, d, none⟩])) aa w) := by
  obtain ⟨ii, hii, hz0i, hz1i, hz2i⟩ := info_parts info_i
  obtain ⟨iv, hiv, hz0v, hz1v, hz2v⟩ := info_parts info_vl
  obtain ⟨cur, cc, ht⟩ := h.tab
  have hbd := h.bds
  have q3 : w.cell? ⟨p.bx, 3, none⟩ = some (.slice (some ⟨p.bc, 0, none⟩) p.m p.m) := h.row.cell 3
  have u0 := ht.cell0 hk
  have hlen : (cut4 G k).length = min 4000 (G k).length := by unfold cut4; rw [List.length_take]
  have hk0 : (0 : Int) ≤ (k : Int) := by omega
  have hk1 : (k : Int) < (p.m : Int) := by omega
  have H := Lib.hid h; have HT := Lib.hid ht
  by_cases ho : 4000 ≤ (G k).length
  · have hl4 : ((cut4 G k).length : Int) ≥ 4000 := by omega
    have q4 : w.cell? ⟨p.bx, 4, none⟩ = some (.bool (mny p.m G)) := h.row.cell 4
    have qf := h.row.frozen
    have ql := h.row.lt
    clear h ht hlen
    go_enter Try.func51, Try.ntmps51
    go_wp2_with fail
    refine bodyPost_end (v := .tuple #[]) (by simp [results, Try.results51, go_sem]) rfl ?_
    have hch : Chg (fun b => b = p.bx) w (w.setCell ⟨p.bx, 4, none⟩ (.bool true)) := (Chg.refl (fun b => b = p.bx) w).setCell (p := ⟨p.bx, 4, none⟩) (.inr rfl) _
    have hok : ∀ b, b < w.heap.size → p.ok b → ¬ (fun b => b = p.bx) b ∧ p.ok b := fun b _ hb => ⟨hb.2.1, hb⟩
    refine ⟨rfl, aa, ⟨?_, H.out.s.go hch hok (by decide), H.out.kids.go hch hok, H.out.lvs.go hch hok, ⟨cur, cc, (HT.out.chg hch (fun g _ hg h2 => by have h3 : g = p.bx := h2; omega)).congr (fun j _ => cut4_over _ ho j)⟩, by simpa using hbd⟩, hch.mono (fun b _ hb => .inl hb), fun b hb => .inl hb⟩
    have := H.out.row.set 4 (.bool true)
    rw [mny_over hk _ ho]
    exact this
  · have ho' : (G k).length < 4000 := by omega
    have hl4 : ¬ ((cut4 G k).length : Int) ≥ 4000 := by omega
    have hlm : (cut4 G k).length ≤ 4000 := by omega
    have u1 := ht.cell1 hk
    have u2 := ht.cell2 hk
    have hvl := celV_le (cut4 G k)
    have hH := ht.hds
    have hcR := (hH (k * 3) (by omega)).trans (by rw [(n0 _ k).1])
    have hcD := (hH (k * 3 + 1) (by omega)).trans (by rw [(n1 _ k).1])
    have hcV := (hH (k * 3 + 2) (by omega)).trans (by rw [(n2 _ k).1])
    have HU := Lib.hid (And.intro q3 (And.intro u0 (And.intro u1 u2)))
    clear h hlen
    have hCL : ∀ c : Cel, (cut4 G k ++ [c]).length = (cut4 G k).length + 1 := fun c => by simp
    go_enter Try.func51, Try.ntmps51
    go_wp2_with fail
    refine Go.Shr.wp_region_F (fun w' => w'.cell? ⟨p.bc, k * 3, none⟩ = some (.slice (aa (k * 3)) (cut4 G k).length (cc (k * 3))) ∧ w'.cell? ⟨p.bc, k * 3 + 1, none⟩ = some (.slice (aa (k * 3 + 1)) (cut4 G k).length (cc (k * 3 + 1))) ∧ w'.cell? ⟨p.bc, k * 3 + 2, none⟩ = some (.slice (aa (k * 3 + 2)) (celV (cut4 G k)).length (cc (k * 3 + 2)))) [1, 2, 23, 24, 25, 26, 27, 28, 29, 30, 31] (by kernel_rfl) ?g9rgS (fun hHeld => ?g9rgR)
    case g9rgS => (try dsimp only); (first | exact HU.out.2 | exact ⟨(row.cell _).trans hcR, (row.cell _).trans hcD, (row.cell _).trans hcV⟩)
    try dsimp only at hHeld
    obtain ⟨W, hW⟩ : ∃ W, W = w.drew := ⟨_, rfl⟩; rw [← hW] at hHeld ⊢; (have row := Rw.ren hW HT.out.row.drew); (have how : OW p.B W (p.m * 3) tyC szC aa (nC (cut4 G)) cc (xC (cut4 G)) := by rw [hW]; exact HT.out.ow.below (b0 w).drew); (have rx := Rw.ren hW H.out.row.drew); (have hch : Chg (p.ch aa) w W := by rw [hW]; exact (Chg.refl (p.ch aa) w).drew); (have hBW : p.B ≤ W.heap.size := by rw [hW]; exact hbd.2.2.2.2.2); (have htb : ∀ b, p.tb aa b → p.tb aa b ∨ w.heap.size ≤ b := fun b hb => .inl hb); clear hW
    refine Go.Shr.wpAnyF_take0 1 (oi := { dst := some 27, op := Go.Op.move (Go.Operand.tmp 10), type := 109, pos := "shred.go:57", after := #[{ on := 25, ground := Go.Ground.gcOnly Go.Departure.lateStores }], guard := none }) (v := ?g9rv1) rfl (by kernel_rfl) (fun _ _ _ h => h) (by rfl) ?g9ry1 ?g9rr1
    case g9ry1 => intro w0' _; go_simp; try with_reducible rfl
    try simp only [Act.put, List.setIfInBounds_toArray, List.set_cons_zero, List.set_cons_succ]
    refine Go.Shr.wpAnyF_take0 2 (oi := { dst := some 28, op := Go.Op.move (Go.Operand.tmp 10), type := 109, pos := "shred.go:57", after := #[{ on := 28, ground := Go.Ground.gcOnly Go.Departure.lateStores }], guard := none }) (v := ?g9rv2) rfl (by kernel_rfl) (fun _ _ _ h => h) (by rfl) ?g9ry2 ?g9rr2
    case g9ry2 => intro w0' _; go_simp; try with_reducible rfl
    try simp only [Act.put, List.setIfInBounds_toArray, List.set_cons_zero, List.set_cons_succ]
    refine Go.Shr.wpAnyF_mono (F := [23, 24, 25, 26, 27, 28, 29, 30, 31]) (by simp) _ _ _ _ ?_
    refine Go.Shr.wpAnyF_take 0 (oi := { dst := some 26, op := Go.Op.move (Go.Operand.tmp 10), type := 109, pos := "shred.go:57", after := #[], guard := none }) (v := ?g9rv3) rfl (by kernel_rfl) (fun _ _ _ h => h) (by assumption) (by rfl) ?g9ry3 ?g9rr3
    case g9ry3 => intro w hSw; obtain ⟨s1, s2, s3⟩ := hSw; go_simp; try with_reducible rfl
    try simp only [Act.put, List.setIfInBounds_toArray, List.set_cons_zero, List.set_cons_succ]
    refine Go.Shr.wpAnyF_take 3 (oi := { dst := some 29, op := Go.Op.move (Go.Operand.tmp 10), type := 109, pos := "shred.go:57", after := #[], guard := none }) (v := ?g9rv4) rfl (by kernel_rfl) (fun _ _ _ h => h) (by assumption) (by rfl) ?g9ry4 ?g9rr4
    case g9ry4 => intro w hSw; obtain ⟨s1, s2, s3⟩ := hSw; go_simp; try with_reducible rfl
    try simp only [Act.put, List.setIfInBounds_toArray, List.set_cons_zero, List.set_cons_succ]
    refine Go.Shr.wpAnyF_take 4 (oi := { dst := some 30, op := Go.Op.nilCheck (Go.Operand.tmp 29), type := 0, pos := "shred.go:57", after := #[{ on := 3, ground := Go.Ground.data }], guard := none }) (v := ?g9rv5) rfl (by kernel_rfl) (fun _ _ _ h => h) (by assumption) (by rfl) ?g9ry5 ?g9rr5
    case g9ry5 => intro w hSw; obtain ⟨s1, s2, s3⟩ := hSw; go_simp; try with_reducible rfl
    try simp only [Act.put, List.setIfInBounds_toArray, List.set_cons_zero, List.set_cons_succ]
    refine Go.Shr.wpAnyF_take 5 (oi := { dst := some 31, op := Go.Op.fieldAddr 46 (Go.Operand.tmp 30) 0, type := 0, pos := "shred.go:57", after := #[{ on := 4, ground := Go.Ground.data }], guard := none }) (v := ?g9rv6) rfl (by kernel_rfl) (fun _ _ _ h => h) (by assumption) (by rfl) ?g9ry6 ?g9rr6
    case g9ry6 => intro w hSw; obtain ⟨s1, s2, s3⟩ := hSw; go_simp; try with_reducible rfl
    try simp only [Act.put, List.setIfInBounds_toArray, List.set_cons_zero, List.set_cons_succ]
    refine Go.Shr.wpAnyF_take 6 (oi := { dst := some 32, op := Go.Op.load 22 (Go.Operand.tmp 31), type := 22, pos := "shred.go:57", after := #[{ on := 5, ground := Go.Ground.data }], guard := none }) (v := ?g9rv7) rfl (by kernel_rfl) (fun _ _ _ h => h) (by assumption) (by rfl) ?g9ry7 ?g9rr7
    case g9ry7 => intro w hSw; obtain ⟨s1, s2, s3⟩ := hSw; go_simp; try with_reducible rfl
    try simp only [Act.put, List.setIfInBounds_toArray, List.set_cons_zero, List.set_cons_succ]
    refine Go.Shr.wpAnyF_take 7 (oi := { dst := some 33, op := Go.Op.move (Go.Operand.tmp 2), type := 3, pos := "shred.go:57", after := #[], guard := none }) (v := ?g9rv8) rfl (by kernel_rfl) (fun _ _ _ h => h) (by assumption) (by rfl) ?g9ry8 ?g9rr8
    case g9ry8 => intro w hSw; obtain ⟨s1, s2, s3⟩ := hSw; go_simp; try with_reducible rfl
    try simp only [Act.put, List.setIfInBounds_toArray, List.set_cons_zero, List.set_cons_succ]
    refine Go.Shr.wpAnyF_take 10 (oi := { dst := some 36, op := Go.Op.move (Go.Operand.tmp 10), type := 109, pos := "shred.go:57", after := #[], guard := none }) (v := ?g9rv9) rfl (by kernel_rfl) (fun _ _ _ h => h) (by assumption) (by rfl) ?g9ry9 ?g9rr9
    case g9ry9 => intro w hSw; obtain ⟨s1, s2, s3⟩ := hSw; go_simp; try with_reducible rfl
    try simp only [Act.put, List.setIfInBounds_toArray, List.set_cons_zero, List.set_cons_succ]
    refine Go.Shr.wpAnyF_take 11 (oi := { dst := some 37, op := Go.Op.nilCheck (Go.Operand.tmp 36), type := 0, pos := "shred.go:57", after := #[{ on := 10, ground := Go.Ground.data }], guard := none }) (v := ?g9rv10) rfl (by kernel_rfl) (fun _ _ _ h => h) (by assumption) (by rfl) ?g9ry10 ?g9rr10
    case g9ry10 => intro w hSw; obtain ⟨s1, s2, s3⟩ := hSw; go_simp; try with_reducible rfl
    try simp only [Act.put, List.setIfInBounds_toArray, List.set_cons_zero, List.set_cons_succ]
    refine Go.Shr.wpAnyF_take 12 (oi := { dst := some 38, op := Go.Op.fieldAddr 46 (Go.Operand.tmp 37) 1, type := 0, pos := "shred.go:57", after := #[{ on := 11, ground := Go.Ground.data }], guard := none }) (v := ?g9rv11) rfl (by kernel_rfl) (fun _ _ _ h => h) (by assumption) (by rfl) ?g9ry11 ?g9rr11
    case g9ry11 => intro w hSw; obtain ⟨s1, s2, s3⟩ := hSw; go_simp; try with_reducible rfl
    try simp only [Act.put, List.setIfInBounds_toArray, List.set_cons_zero, List.set_cons_succ]
    refine Go.Shr.wpAnyF_take 13 (oi := { dst := some 39, op := Go.Op.load 22 (Go.Operand.tmp 38), type := 22, pos := "shred.go:57", after := #[{ on := 12, ground := Go.Ground.data }], guard := none }) (v := ?g9rv12) rfl (by kernel_rfl) (fun _ _ _ h => h) (by assumption) (by rfl) ?g9ry12 ?g9rr12
    case g9ry12 => intro w hSw; obtain ⟨s1, s2, s3⟩ := hSw; go_simp; try with_reducible rfl
    try simp only [Act.put, List.setIfInBounds_toArray, List.set_cons_zero, List.set_cons_succ]
    refine Go.Shr.wpAnyF_take 14 (oi := { dst := some 40, op := Go.Op.move (Go.Operand.tmp 3), type := 3, pos := "shred.go:57", after := #[], guard := none }) (v := ?g9rv13) rfl (by kernel_rfl) (fun _ _ _ h => h) (by assumption) (by rfl) ?g9ry13 ?g9rr13
    case g9ry13 => intro w hSw; obtain ⟨s1, s2, s3⟩ := hSw; go_simp; try with_reducible rfl
    try simp only [Act.put, List.setIfInBounds_toArray, List.set_cons_zero, List.set_cons_succ]
    refine Go.Shr.wpAnyF_take 17 (oi := { dst := some 43, op := Go.Op.move (Go.Operand.tmp 10), type := 109, pos := "shred.go:57", after := #[], guard := none }) (v := ?g9rv14) rfl (by kernel_rfl) (fun _ _ _ h => h) (by assumption) (by rfl) ?g9ry14 ?g9rr14
    case g9ry14 => intro w hSw; obtain ⟨s1, s2, s3⟩ := hSw; go_simp; try with_reducible rfl
    try simp only [Act.put, List.setIfInBounds_toArray, List.set_cons_zero, List.set_cons_succ]
    refine Go.Shr.wpAnyF_take 18 (oi := { dst := some 44, op := Go.Op.nilCheck (Go.Operand.tmp 43), type := 0, pos := "shred.go:57", after := #[{ on := 17, ground := Go.Ground.data }], guard := none }) (v := ?g9rv15) rfl (by kernel_rfl) (fun _ _ _ h => h) (by assumption) (by rfl) ?g9ry15 ?g9rr15
    case g9ry15 => intro w hSw; obtain ⟨s1, s2, s3⟩ := hSw; go_simp; try with_reducible rfl
    try simp only [Act.put, List.setIfInBounds_toArray, List.set_cons_zero, List.set_cons_succ]
    refine Go.Shr.wpAnyF_take 19 (oi := { dst := some 45, op := Go.Op.fieldAddr 46 (Go.Operand.tmp 44) 2, type := 0, pos := "shred.go:57", after := #[{ on := 18, ground := Go.Ground.data }], guard := none }) (v := ?g9rv16) rfl (by kernel_rfl) (fun _ _ _ h => h) (by assumption) (by rfl) ?g9ry16 ?g9rr16
    case g9ry16 => intro w hSw; obtain ⟨s1, s2, s3⟩ := hSw; go_simp; try with_reducible rfl
    try simp only [Act.put, List.setIfInBounds_toArray, List.set_cons_zero, List.set_cons_succ]
    refine Go.Shr.wpAnyF_take 20 (oi := { dst := some 46, op := Go.Op.load 44 (Go.Operand.tmp 45), type := 44, pos := "shred.go:57", after := #[{ on := 19, ground := Go.Ground.data }], guard := none }) (v := ?g9rv17) rfl (by kernel_rfl) (fun _ _ _ h => h) (by assumption) (by rfl) ?g9ry17 ?g9rr17
    case g9ry17 => intro w hSw; obtain ⟨s1, s2, s3⟩ := hSw; go_simp; try with_reducible rfl
    try simp only [Act.put, List.setIfInBounds_toArray, List.set_cons_zero, List.set_cons_succ]
    refine Go.Shr.wpAnyF_take 21 (oi := { dst := some 47, op := Go.Op.move (Go.Operand.tmp 4), type := 44, pos := "shred.go:57", after := #[], guard := none }) (v := ?g9rv18) rfl (by kernel_rfl) (fun _ _ _ h => h) (by assumption) (by rfl) ?g9ry18 ?g9rr18
    case g9ry18 => intro w hSw; obtain ⟨s1, s2, s3⟩ := hSw; go_simp; try with_reducible rfl
    try simp only [Act.put, List.setIfInBounds_toArray, List.set_cons_zero, List.set_cons_succ]
    refine Go.Shr.wpAnyF_ready [8, 15] (by kernel_rfl) (by simp) ?_
    refine Go.Shr.AllReadyF.cons 8 (o := { dst := some 34, op := Go.Op.buildSlice 22 1 #[(0, Go.Operand.tmp 33)], type := 22, pos := "shred.go:57", after := #[{ on := 7, ground := Go.Ground.data }], guard := none }) rfl (fun K hK => ?g9ro19) ?g9rm19
    case g9ro19 =>
      go_simp; refine gen_w (fun X hX => ?_); (have hb := OW.nb how hX); (have rn8 := OW.nr how hX); (replace row := row.below hb); (replace rx := rx.below hb); (replace hch := hch.trans (chF hb) (fun i hi h => h.elim));  skip; (replace how := how.below hb); (replace hBW := Nat.le_trans hBW hb.size); clear hb hX
      refine hK.out _ _ ?g9rs19 (fun hHeld => ?g9rt19)
      case g9rs19 => (try dsimp only); (first | exact HU.out.2 | exact ⟨(row.cell _).trans hcR, (row.cell _).trans hcD, (row.cell _).trans hcV⟩)
      try dsimp only at hHeld
      clear hK K
      try simp only [Act.put, List.setIfInBounds_toArray, List.set_cons_zero, List.set_cons_succ]
      refine Go.Shr.wpAnyF_ready [9, 15] (by kernel_rfl) (by simp) ?_
      refine Go.Shr.AllReadyF.cons 9 (o := { dst := some 35, op := Go.Op.call { callee := Go.Callee.builtin Go.Builtin.append, args := #[Go.Operand.tmp 32, Go.Operand.tmp 34], argTypes := #[22, 22] }, type := 22, pos := "shred.go:57", after := #[{ on := 6, ground := Go.Ground.data }, { on := 8, ground := Go.Ground.data }], guard := none }) rfl (fun K hK => ?g9ro20) ?g9rm20
      case g9ro20 =>
        (refine step_append (B := p.B) rfl _ _ _ _ rfl ii (.int .i64 0) 8 Try.underlying22 hii hz0i hz1i hz2i rfl rfl (OW.own0 how hk) _ rfl 1 _ (src_rw (P := Try.prog) (tx := 22) Try.underlying22 rn8 1 1 rfl (by simp [Value.oneCell'])) (by simp only [maxLen]; omega) (by omega) hBW ?_; intro a9 cap9 W9 ho9 hc9 hn9);  skip; (replace row := row.chg hc9 (fun h => by have := h.2.1; omega)); (replace rx := rx.chg hc9 (fun h => by have := h.2.1; omega)); (replace htb := tb_push htb (j := k * 3) (by omega) hn9 hch.size); (replace hch := hch.trans hc9 (fun i hi h => .inr (.inr ⟨_, by omega, h.1⟩))); (replace hBW := Nat.le_trans hBW hc9.size); (replace how := OW.push0 how hk (Nat.succ_pos _) ho9 hc9 hn9); clear ho9 hc9 hn9 rn8
        refine hK.out _ _ ?g9rs20 (fun hHeld => ?g9rt20)
        case g9rs20 => (try dsimp only); (first | exact HU.out.2 | exact ⟨(row.cell _).trans hcR, (row.cell _).trans hcD, (row.cell _).trans hcV⟩)
        try dsimp only at hHeld
        clear hK K
        try simp only [Act.put, List.setIfInBounds_toArray, List.set_cons_zero, List.set_cons_succ]
        refine Go.Shr.wpAnyF_ready [15] (by kernel_rfl) (by simp) ?_
        refine Go.Shr.AllReadyF.cons 15 (o := { dst := some 41, op := Go.Op.buildSlice 22 1 #[(0, Go.Operand.tmp 40)], type := 22, pos := "shred.go:57", after := #[{ on := 14, ground := Go.Ground.data }], guard := none }) rfl (fun K hK => ?g9ro21) ?g9rm21
        case g9rm21 => exact Go.Shr.AllReadyF.nil
        go_simp; refine gen_w (fun X hX => ?_); (have hb := OW.nb how hX); (have rn15 := OW.nr how hX); (have hl15 := fun j g (hj : j < p.m * 3) hg => (how.lt j g hj hg).1); (replace row := row.below hb); (replace rx := rx.below hb); (replace hch := hch.trans (chF hb) (fun i hi h => h.elim)); (try replace rn8 := rn8.below hb); (replace how := how.below hb); (replace hBW := Nat.le_trans hBW hb.size); clear hb hX
        refine hK.out _ _ ?g9rs21 (fun hHeld => ?g9rt21)
        case g9rs21 => (try dsimp only); (first | exact HU.out.2 | exact ⟨(row.cell _).trans hcR, (row.cell _).trans hcD, (row.cell _).trans hcV⟩)
        try dsimp only at hHeld
        clear hK K
        try simp only [Act.put, List.setIfInBounds_toArray, List.set_cons_zero, List.set_cons_succ]
        refine Go.Shr.wpAnyF_ready [16] (by kernel_rfl) (by simp) ?_
        refine Go.Shr.AllReadyF.cons 16 (o := { dst := some 42, op := Go.Op.call { callee := Go.Callee.builtin Go.Builtin.append, args := #[Go.Operand.tmp 39, Go.Operand.tmp 41], argTypes := #[22, 22] }, type := 22, pos := "shred.go:57", after := #[{ on := 13, ground := Go.Ground.data }, { on := 15, ground := Go.Ground.data }, { on := 9, ground := Go.Ground.chain }], guard := none }) rfl (fun K hK => ?g9ro22) ?g9rm22
        case g9rm22 => exact Go.Shr.AllReadyF.nil
        (refine step_append (B := p.B) rfl _ _ _ _ rfl ii (.int .i64 0) 8 Try.underlying22 hii hz0i hz1i hz2i rfl rfl (OW.own1' how hk) _ rfl 1 _ (src_rw (P := Try.prog) (tx := 22) Try.underlying22 rn15 1 1 rfl (by simp [Value.oneCell'])) (by simp only [maxLen]; omega) (by omega) hBW ?_; intro a16 cap16 W16 ho16 hc16 hn16); (replace row := row.chg hc16 (fun h => by have := h.2.1; omega)); (replace rx := rx.chg hc16 (fun h => by have := h.2.1; omega)); (replace htb := tb_push htb (j := k * 3 + 1) (by omega) (by rw [upd_ne _ _ (by omega)]; exact hn16) hch.size); (replace hch := hch.trans hc16 (fun i hi h => .inr (.inr ⟨_, by omega, h.1⟩))); (replace hBW := Nat.le_trans hBW hc16.size); (replace how := OW.push1 how hk (Nat.succ_pos _) ho16 hc16 hn16); clear ho16 hc16 hn16 rn15
        refine hK.out _ _ ?g9rs22 (fun hHeld => ?g9rt22)
        case g9rs22 => (try dsimp only); (first | exact HU.out.2 | exact ⟨(row.cell _).trans hcR, (row.cell _).trans hcD, (row.cell _).trans hcV⟩)
        try dsimp only at hHeld
        clear hK K
        try simp only [Act.put, List.setIfInBounds_toArray, List.set_cons_zero, List.set_cons_succ]
        refine Go.Shr.wpAnyF_ready [22] (by kernel_rfl) (by simp) ?_
        refine Go.Shr.AllReadyF.cons 22 (o := { dst := some 48, op := Go.Op.call { callee := Go.Callee.builtin Go.Builtin.append, args := #[Go.Operand.tmp 46, Go.Operand.tmp 47], argTypes := #[44, 44] }, type := 44, pos := "shred.go:57", after := #[{ on := 20, ground := Go.Ground.data }, { on := 21, ground := Go.Ground.data }, { on := 16, ground := Go.Ground.chain }], guard := none }) rfl (fun K hK => ?g9ro23) ?g9rm23
        case g9rm23 => exact Go.Shr.AllReadyF.nil
        (refine step_nothing rfl _ _ _ _ rfl iv Try.underlying44 hiv hz1v rfl (OW.own2' how hk).le _ rfl ((Sl.nil (fun _ => True) _ 2 none).src (P := Try.prog) (tx := 44) Try.underlying44 (fun u h => by cases h)) ?_); (replace htb := tb_push htb (j := k * 3 + 2) (a' := aa (k * 3 + 2)) (W := w) (by omega) (fun g hg => .inl (by rw [upd_ne _ _ (by omega), upd_ne _ _ (by omega)]; exact hg)) (Nat.le_refl _)); (replace how := OW.same2 how)
        refine hK.out _ _ ?g9rs23 (fun hHeld => ?g9rt23)
        case g9rs23 => (try dsimp only); (first | exact HU.out.2 | exact ⟨(row.cell _).trans hcR, (row.cell _).trans hcD, (row.cell _).trans hcV⟩)
        try dsimp only at hHeld
        clear hK K
        try simp only [Act.put, List.setIfInBounds_toArray, List.set_cons_zero, List.set_cons_succ]
        refine Go.Shr.wpAnyF_ready [23] (by kernel_rfl) (by simp) ?_
        refine Go.Shr.AllReadyF.last 23 (o := { dst := some 49, op := Go.Op.nilCheck (Go.Operand.tmp 26), type := 0, pos := "shred.go:57", after := #[{ on := 0, ground := Go.Ground.data }, { on := 0, ground := Go.Ground.phase }, { on := 1, ground := Go.Ground.textOnly Go.Departure.lateStores }, { on := 2, ground := Go.Ground.textOnly Go.Departure.lateStores }, { on := 3, ground := Go.Ground.phase }, { on := 4, ground := Go.Ground.phase }, { on := 5, ground := Go.Ground.phase }, { on := 6, ground := Go.Ground.phase }, { on := 7, ground := Go.Ground.phase }, { on := 8, ground := Go.Ground.phase }, { on := 9, ground := Go.Ground.phase }, { on := 10, ground := Go.Ground.textOnly Go.Departure.lateStores }, { on := 11, ground := Go.Ground.textOnly Go.Departure.lateStoresUnsure }, { on := 12, ground := Go.Ground.textOnly Go.Departure.lateStoresUnsure }, { on := 13, ground := Go.Ground.phase }, { on := 14, ground := Go.Ground.textOnly Go.Departure.lateStores }, { on := 15, ground := Go.Ground.textOnly Go.Departure.lateStoresUnsure }, { on := 16, ground := Go.Ground.phase }, { on := 17, ground := Go.Ground.textOnly Go.Departure.lateStores }, { on := 18, ground := Go.Ground.textOnly Go.Departure.lateStoresUnsure }, { on := 19, ground := Go.Ground.textOnly Go.Departure.lateStoresUnsure }, { on := 20, ground := Go.Ground.phase }, { on := 21, ground := Go.Ground.textOnly Go.Departure.lateStores }, { on := 22, ground := Go.Ground.phase }], guard := none }) rfl (by kernel_rfl) (fun K hK => ?g9ro24) ?g9rm24
        case g9rm24 => exact Go.Shr.AllReadyF.nil
        (obtain ⟨c0, c1, c2⟩ := hHeld); (have qf := row.frozen); (have ql := row.lt); go_simp
        refine hK.out _ _ ?_
        clear hK K
        try simp only [Act.put, List.setIfInBounds_toArray, List.set_cons_zero, List.set_cons_succ]
        refine Go.Shr.wpAnyF_ready [24] (by kernel_rfl) (by simp) ?_
        refine Go.Shr.AllReadyF.last 24 (o := { dst := some 50, op := Go.Op.fieldAddr 46 (Go.Operand.tmp 49) 0, type := 0, pos := "shred.go:57", after := #[{ on := 23, ground := Go.Ground.data }, { on := 0, ground := Go.Ground.phase }, { on := 1, ground := Go.Ground.textOnly Go.Departure.lateStores }, { on := 2, ground := Go.Ground.textOnly Go.Departure.lateStores }, { on := 3, ground := Go.Ground.phase }, { on := 4, ground := Go.Ground.phase }, { on := 5, ground := Go.Ground.phase }, { on := 6, ground := Go.Ground.phase }, { on := 7, ground := Go.Ground.phase }, { on := 8, ground := Go.Ground.phase }, { on := 9, ground := Go.Ground.phase }, { on := 10, ground := Go.Ground.textOnly Go.Departure.lateStores }, { on := 11, ground := Go.Ground.textOnly Go.Departure.lateStoresUnsure }, { on := 12, ground := Go.Ground.textOnly Go.Departure.lateStoresUnsure }, { on := 13, ground := Go.Ground.phase }, { on := 14, ground := Go.Ground.textOnly Go.Departure.lateStores }, { on := 15, ground := Go.Ground.textOnly Go.Departure.lateStoresUnsure }, { on := 16, ground := Go.Ground.phase }, { on := 17, ground := Go.Ground.textOnly Go.Departure.lateStores }, { on := 18, ground := Go.Ground.textOnly Go.Departure.lateStoresUnsure }, { on := 19, ground := Go.Ground.textOnly Go.Departure.lateStoresUnsure }, { on := 20, ground := Go.Ground.phase }, { on := 21, ground := Go.Ground.textOnly Go.Departure.lateStores }, { on := 22, ground := Go.Ground.phase }], guard := none }) rfl (by kernel_rfl) (fun K hK => ?g9ro25) ?g9rm25
        case g9rm25 => exact Go.Shr.AllReadyF.nil
        go_simp
        refine hK.out _ _ ?_
        clear hK K
        try simp only [Act.put, List.setIfInBounds_toArray, List.set_cons_zero, List.set_cons_succ]
        refine Go.Shr.wpAnyF_ready [25] (by kernel_rfl) (by simp) ?_
        refine Go.Shr.AllReadyF.last 25 (o := { dst := none, op := Go.Op.store 22 (Go.Operand.tmp 50) (Go.Operand.tmp 35), type := 0, pos := "shred.go:57", after := #[{ on := 24, ground := Go.Ground.data }, { on := 9, ground := Go.Ground.data }, { on := 22, ground := Go.Ground.chain }, { on := 0, ground := Go.Ground.phase }, { on := 1, ground := Go.Ground.textOnly Go.Departure.lateStores }, { on := 2, ground := Go.Ground.textOnly Go.Departure.lateStores }, { on := 3, ground := Go.Ground.phase }, { on := 4, ground := Go.Ground.phase }, { on := 5, ground := Go.Ground.phase }, { on := 6, ground := Go.Ground.phase }, { on := 7, ground := Go.Ground.phase }, { on := 8, ground := Go.Ground.phase }, { on := 9, ground := Go.Ground.phase }, { on := 10, ground := Go.Ground.textOnly Go.Departure.lateStores }, { on := 11, ground := Go.Ground.textOnly Go.Departure.lateStoresUnsure }, { on := 12, ground := Go.Ground.textOnly Go.Departure.lateStoresUnsure }, { on := 13, ground := Go.Ground.phase }, { on := 14, ground := Go.Ground.textOnly Go.Departure.lateStores }, { on := 15, ground := Go.Ground.textOnly Go.Departure.lateStoresUnsure }, { on := 16, ground := Go.Ground.phase }, { on := 17, ground := Go.Ground.textOnly Go.Departure.lateStores }, { on := 18, ground := Go.Ground.textOnly Go.Departure.lateStoresUnsure }, { on := 19, ground := Go.Ground.textOnly Go.Departure.lateStoresUnsure }, { on := 20, ground := Go.Ground.phase }, { on := 21, ground := Go.Ground.textOnly Go.Departure.lateStores }, { on := 22, ground := Go.Ground.phase }], guard := none }) rfl (by kernel_rfl) (fun K hK => ?g9ro26) ?g9rm26
        case g9rm26 => exact Go.Shr.AllReadyF.nil
        go_simp
        refine hK.out _ _ ?_
        clear hK K
        try simp only [Act.put, List.setIfInBounds_toArray, List.set_cons_zero, List.set_cons_succ]
        refine Go.Shr.wpAnyF_ready [26] (by kernel_rfl) (by simp) ?_
        refine Go.Shr.AllReadyF.last 26 (o := { dst := some 51, op := Go.Op.nilCheck (Go.Operand.tmp 27), type := 0, pos := "shred.go:57", after := #[{ on := 1, ground := Go.Ground.data }, { on := 0, ground := Go.Ground.phase }, { on := 1, ground := Go.Ground.phase }, { on := 2, ground := Go.Ground.textOnly Go.Departure.lateStores }, { on := 3, ground := Go.Ground.phase }, { on := 4, ground := Go.Ground.phase }, { on := 5, ground := Go.Ground.phase }, { on := 6, ground := Go.Ground.phase }, { on := 7, ground := Go.Ground.phase }, { on := 8, ground := Go.Ground.phase }, { on := 9, ground := Go.Ground.phase }, { on := 10, ground := Go.Ground.phase }, { on := 11, ground := Go.Ground.phase }, { on := 12, ground := Go.Ground.phase }, { on := 13, ground := Go.Ground.phase }, { on := 14, ground := Go.Ground.phase }, { on := 15, ground := Go.Ground.phase }, { on := 16, ground := Go.Ground.phase }, { on := 17, ground := Go.Ground.textOnly Go.Departure.lateStores }, { on := 18, ground := Go.Ground.textOnly Go.Departure.lateStoresUnsure }, { on := 19, ground := Go.Ground.textOnly Go.Departure.lateStoresUnsure }, { on := 20, ground := Go.Ground.phase }, { on := 21, ground := Go.Ground.textOnly Go.Departure.lateStores }, { on := 22, ground := Go.Ground.phase }, { on := 23, ground := Go.Ground.phase }, { on := 24, ground := Go.Ground.phase }, { on := 25, ground := Go.Ground.phase }], guard := none }) rfl (by kernel_rfl) (fun K hK => ?g9ro27) ?g9rm27
        case g9rm27 => exact Go.Shr.AllReadyF.nil
        go_simp
        refine hK.out _ _ ?_
        clear hK K
        try simp only [Act.put, List.setIfInBounds_toArray, List.set_cons_zero, List.set_cons_succ]
        refine Go.Shr.wpAnyF_ready [27] (by kernel_rfl) (by simp) ?_
        refine Go.Shr.AllReadyF.last 27 (o := { dst := some 52, op := Go.Op.fieldAddr 46 (Go.Operand.tmp 51) 1, type := 0, pos := "shred.go:57", after := #[{ on := 26, ground := Go.Ground.data }, { on := 0, ground := Go.Ground.phase }, { on := 1, ground := Go.Ground.phase }, { on := 2, ground := Go.Ground.textOnly Go.Departure.lateStores }, { on := 3, ground := Go.Ground.phase }, { on := 4, ground := Go.Ground.phase }, { on := 5, ground := Go.Ground.phase }, { on := 6, ground := Go.Ground.phase }, { on := 7, ground := Go.Ground.phase }, { on := 8, ground := Go.Ground.phase }, { on := 9, ground := Go.Ground.phase }, { on := 10, ground := Go.Ground.phase }, { on := 11, ground := Go.Ground.phase }, { on := 12, ground := Go.Ground.phase }, { on := 13, ground := Go.Ground.phase }, { on := 14, ground := Go.Ground.phase }, { on := 15, ground := Go.Ground.phase }, { on := 16, ground := Go.Ground.phase }, { on := 17, ground := Go.Ground.textOnly Go.Departure.lateStores }, { on := 18, ground := Go.Ground.textOnly Go.Departure.lateStoresUnsure }, { on := 19, ground := Go.Ground.textOnly Go.Departure.lateStoresUnsure }, { on := 20, ground := Go.Ground.phase }, { on := 21, ground := Go.Ground.textOnly Go.Departure.lateStores }, { on := 22, ground := Go.Ground.phase }, { on := 23, ground := Go.Ground.phase }, { on := 24, ground := Go.Ground.phase }, { on := 25, ground := Go.Ground.phase }], guard := none }) rfl (by kernel_rfl) (fun K hK => ?g9ro28) ?g9rm28
        case g9rm28 => exact Go.Shr.AllReadyF.nil
        go_simp
        refine hK.out _ _ ?_
        clear hK K
        try simp only [Act.put, List.setIfInBounds_toArray, List.set_cons_zero, List.set_cons_succ]
        refine Go.Shr.wpAnyF_ready [28] (by kernel_rfl) (by simp) ?_
        refine Go.Shr.AllReadyF.last 28 (o := { dst := none, op := Go.Op.store 22 (Go.Operand.tmp 52) (Go.Operand.tmp 42), type := 0, pos := "shred.go:57", after := #[{ on := 27, ground := Go.Ground.data }, { on := 16, ground := Go.Ground.data }, { on := 25, ground := Go.Ground.chain }, { on := 0, ground := Go.Ground.phase }, { on := 1, ground := Go.Ground.phase }, { on := 2, ground := Go.Ground.textOnly Go.Departure.lateStores }, { on := 3, ground := Go.Ground.phase }, { on := 4, ground := Go.Ground.phase }, { on := 5, ground := Go.Ground.phase }, { on := 6, ground := Go.Ground.phase }, { on := 7, ground := Go.Ground.phase }, { on := 8, ground := Go.Ground.phase }, { on := 9, ground := Go.Ground.phase }, { on := 10, ground := Go.Ground.phase }, { on := 11, ground := Go.Ground.phase }, { on := 12, ground := Go.Ground.phase }, { on := 13, ground := Go.Ground.phase }, { on := 14, ground := Go.Ground.phase }, { on := 15, ground := Go.Ground.phase }, { on := 16, ground := Go.Ground.phase }, { on := 17, ground := Go.Ground.textOnly Go.Departure.lateStores }, { on := 18, ground := Go.Ground.textOnly Go.Departure.lateStoresUnsure }, { on := 19, ground := Go.Ground.textOnly Go.Departure.lateStoresUnsure }, { on := 20, ground := Go.Ground.phase }, { on := 21, ground := Go.Ground.textOnly Go.Departure.lateStores }, { on := 22, ground := Go.Ground.phase }, { on := 23, ground := Go.Ground.phase }, { on := 24, ground := Go.Ground.phase }, { on := 25, ground := Go.Ground.phase }], guard := none }) rfl (by kernel_rfl) (fun K hK => ?g9ro29) ?g9rm29
        case g9rm29 => exact Go.Shr.AllReadyF.nil
        go_simp
        refine hK.out _ _ ?_
        clear hK K
        try simp only [Act.put, List.setIfInBounds_toArray, List.set_cons_zero, List.set_cons_succ]
        refine Go.Shr.wpAnyF_ready [29] (by kernel_rfl) (by simp) ?_
        refine Go.Shr.AllReadyF.last 29 (o := { dst := some 53, op := Go.Op.nilCheck (Go.Operand.tmp 28), type := 0, pos := "shred.go:57", after := #[{ on := 2, ground := Go.Ground.data }, { on := 0, ground := Go.Ground.phase }, { on := 1, ground := Go.Ground.phase }, { on := 2, ground := Go.Ground.phase }, { on := 3, ground := Go.Ground.phase }, { on := 4, ground := Go.Ground.phase }, { on := 5, ground := Go.Ground.phase }, { on := 6, ground := Go.Ground.phase }, { on := 7, ground := Go.Ground.phase }, { on := 8, ground := Go.Ground.phase }, { on := 9, ground := Go.Ground.phase }, { on := 10, ground := Go.Ground.phase }, { on := 11, ground := Go.Ground.phase }, { on := 12, ground := Go.Ground.phase }, { on := 13, ground := Go.Ground.phase }, { on := 14, ground := Go.Ground.phase }, { on := 15, ground := Go.Ground.phase }, { on := 16, ground := Go.Ground.phase }, { on := 17, ground := Go.Ground.phase }, { on := 18, ground := Go.Ground.phase }, { on := 19, ground := Go.Ground.phase }, { on := 20, ground := Go.Ground.phase }, { on := 21, ground := Go.Ground.phase }, { on := 22, ground := Go.Ground.phase }, { on := 23, ground := Go.Ground.phase }, { on := 24, ground := Go.Ground.phase }, { on := 25, ground := Go.Ground.phase }, { on := 26, ground := Go.Ground.phase }, { on := 27, ground := Go.Ground.phase }, { on := 28, ground := Go.Ground.phase }], guard := none }) rfl (by kernel_rfl) (fun K hK => ?g9ro30) ?g9rm30
        case g9rm30 => exact Go.Shr.AllReadyF.nil
        go_simp
        refine hK.out _ _ ?_
        clear hK K
        try simp only [Act.put, List.setIfInBounds_toArray, List.set_cons_zero, List.set_cons_succ]
        refine Go.Shr.wpAnyF_ready [30] (by kernel_rfl) (by simp) ?_
        refine Go.Shr.AllReadyF.last 30 (o := { dst := some 54, op := Go.Op.fieldAddr 46 (Go.Operand.tmp 53) 2, type := 0, pos := "shred.go:57", after := #[{ on := 29, ground := Go.Ground.data }, { on := 0, ground := Go.Ground.phase }, { on := 1, ground := Go.Ground.phase }, { on := 2, ground := Go.Ground.phase }, { on := 3, ground := Go.Ground.phase }, { on := 4, ground := Go.Ground.phase }, { on := 5, ground := Go.Ground.phase }, { on := 6, ground := Go.Ground.phase }, { on := 7, ground := Go.Ground.phase }, { on := 8, ground := Go.Ground.phase }, { on := 9, ground := Go.Ground.phase }, { on := 10, ground := Go.Ground.phase }, { on := 11, ground := Go.Ground.phase }, { on := 12, ground := Go.Ground.phase }, { on := 13, ground := Go.Ground.phase }, { on := 14, ground := Go.Ground.phase }, { on := 15, ground := Go.Ground.phase }, { on := 16, ground := Go.Ground.phase }, { on := 17, ground := Go.Ground.phase }, { on := 18, ground := Go.Ground.phase }, { on := 19, ground := Go.Ground.phase }, { on := 20, ground := Go.Ground.phase }, { on := 21, ground := Go.Ground.phase }, { on := 22, ground := Go.Ground.phase }, { on := 23, ground := Go.Ground.phase }, { on := 24, ground := Go.Ground.phase }, { on := 25, ground := Go.Ground.phase }, { on := 26, ground := Go.Ground.phase }, { on := 27, ground := Go.Ground.phase }, { on := 28, ground := Go.Ground.phase }], guard := none }) rfl (by kernel_rfl) (fun K hK => ?g9ro31) ?g9rm31
        case g9rm31 => exact Go.Shr.AllReadyF.nil
        go_simp
        refine hK.out _ _ ?_
        clear hK K
        try simp only [Act.put, List.setIfInBounds_toArray, List.set_cons_zero, List.set_cons_succ]
        refine Go.Shr.wpAnyF_ready [31] (by kernel_rfl) (by simp) ?_
        refine Go.Shr.AllReadyF.last 31 (o := { dst := none, op := Go.Op.store 44 (Go.Operand.tmp 54) (Go.Operand.tmp 48), type := 0, pos := "shred.go:57", after := #[{ on := 30, ground := Go.Ground.data }, { on := 22, ground := Go.Ground.data }, { on := 28, ground := Go.Ground.chain }, { on := 0, ground := Go.Ground.phase }, { on := 1, ground := Go.Ground.phase }, { on := 2, ground := Go.Ground.phase }, { on := 3, ground := Go.Ground.phase }, { on := 4, ground := Go.Ground.phase }, { on := 5, ground := Go.Ground.phase }, { on := 6, ground := Go.Ground.phase }, { on := 7, ground := Go.Ground.phase }, { on := 8, ground := Go.Ground.phase }, { on := 9, ground := Go.Ground.phase }, { on := 10, ground := Go.Ground.phase }, { on := 11, ground := Go.Ground.phase }, { on := 12, ground := Go.Ground.phase }, { on := 13, ground := Go.Ground.phase }, { on := 14, ground := Go.Ground.phase }, { on := 15, ground := Go.Ground.phase }, { on := 16, ground := Go.Ground.phase }, { on := 17, ground := Go.Ground.phase }, { on := 18, ground := Go.Ground.phase }, { on := 19, ground := Go.Ground.phase }, { on := 20, ground := Go.Ground.phase }, { on := 21, ground := Go.Ground.phase }, { on := 22, ground := Go.Ground.phase }, { on := 23, ground := Go.Ground.phase }, { on := 24, ground := Go.Ground.phase }, { on := 25, ground := Go.Ground.phase }, { on := 26, ground := Go.Ground.phase }, { on := 27, ground := Go.Ground.phase }, { on := 28, ground := Go.Ground.phase }], guard := none }) rfl (by kernel_rfl) (fun K hK => ?g9ro32) ?g9rm32
        case g9rm32 => exact Go.Shr.AllReadyF.nil
        go_simp
        refine hK.out _ _ ?_
        clear hK K
        try simp only [Act.put, List.setIfInBounds_toArray, List.set_cons_zero, List.set_cons_succ]
        refine Go.Shr.wpAnyF_done (by kernel_rfl) ?_
        have hfin := CT.fin (L := cut4 G k ++ [⟨r, d, none⟩]) hk row HT.out.size hH HT.out.lt (by simpa only [celR_snoc, celD_snoc, celV_none, List.length_append, List.length_singleton] using how)
        simp only [celV_none, List.length_append, List.length_singleton] at hfin
        have hch2 := ((hch.setCell (p := ⟨p.bc, k * 3, none⟩) (.inr (.inr (.inl rfl))) (.slice a9 ((cut4 G k).length + 1) cap9)).setCell (p := ⟨p.bc, k * 3 + 1, none⟩) (.inr (.inr (.inl rfl))) (.slice a16 ((cut4 G k).length + 1) cap16)).setCell (p := ⟨p.bc, k * 3 + 2, none⟩) (.inr (.inr (.inl rfl))) (.slice (aa (k * 3 + 2)) (celV (cut4 G k)).length (cc (k * 3 + 2)))
        have hne : p.bx ≠ p.bc := hbd.2.2.1
        have rx2 := ((rx.other (p := ⟨p.bc, k * 3, none⟩) hne (.slice a9 ((cut4 G k).length + 1) cap9)).other (p := ⟨p.bc, k * 3 + 1, none⟩) hne (.slice a16 ((cut4 G k).length + 1) cap16)).other (p := ⟨p.bc, k * 3 + 2, none⟩) hne (.slice (aa (k * 3 + 2)) (celV (cut4 G k)).length (cc (k * 3 + 2)))
        clear row rx how hch
        go_wp2_with fail
        refine bodyPost_end (v := .tuple #[]) (by simp [results, Try.results51, go_sem]) rfl ?_
        have hok : ∀ b, b < w.heap.size → p.ok b → ¬ p.ch aa b ∧ p.ok b := fun b _ hb => ⟨H.out.okch hb, hb⟩
        refine ⟨rfl, _, ⟨by rw [mny_add hk _ ho']; exact rx2, H.out.s.go hch2 hok (by decide), H.out.kids.go hch2 hok, H.out.lvs.go hch2 hok, ⟨_, _, hfin.congr (fun j _ => cut4_add _ ho' j)⟩, by have := hch2.size; have := hbd; omega⟩, hch2, htb⟩
      case g9rm20 =>
      refine Go.Shr.AllReadyF.cons 15 (o := { dst := some 41, op := Go.Op.buildSlice 22 1 #[(0, Go.Operand.tmp 40)], type := 22, pos := "shred.go:57", after := #[{ on := 14, ground := Go.Ground.data }], guard := none }) rfl (fun K hK => ?g9ro33) ?g9rm33
      case g9ro33 =>
        go_simp; refine gen_w (fun X hX => ?_); (have hb := OW.nb how hX); (have rn15 := OW.nr how hX); (have hl15 := fun j g (hj : j < p.m * 3) hg => (how.lt j g hj hg).1); (replace row := row.below hb); (replace rx := rx.below hb); (replace hch := hch.trans (chF hb) (fun i hi h => h.elim)); (try replace rn8 := rn8.below hb); (replace how := how.below hb); (replace hBW := Nat.le_trans hBW hb.size); clear hb hX
        refine hK.out _ _ ?g9rs33 (fun hHeld => ?g9rt33)
        case g9rs33 => (try dsimp only); (first | exact HU.out.2 | exact ⟨(row.cell _).trans hcR, (row.cell _).trans hcD, (row.cell _).trans hcV⟩)
        try dsimp only at hHeld
        clear hK K
        try simp only [Act.put, List.setIfInBounds_toArray, List.set_cons_zero, List.set_cons_succ]
        refine Go.Shr.wpAnyF_ready [9] (by kernel_rfl) (by simp) ?_
        refine Go.Shr.AllReadyF.cons 9 (o := { dst := some 35, op := Go.Op.call { callee := Go.Callee.builtin Go.Builtin.append, args := #[Go.Operand.tmp 32, Go.Operand.tmp 34], argTypes := #[22, 22] }, type := 22, pos := "shred.go:57", after := #[{ on := 6, ground := Go.Ground.data }, { on := 8, ground := Go.Ground.data }], guard := none }) rfl (fun K hK => ?g9ro34) ?g9rm34
        case g9rm34 => exact Go.Shr.AllReadyF.nil
        (refine step_append (B := p.B) rfl _ _ _ _ rfl ii (.int .i64 0) 8 Try.underlying22 hii hz0i hz1i hz2i rfl rfl (OW.own0 how hk) _ rfl 1 _ (src_rw (P := Try.prog) (tx := 22) Try.underlying22 rn8 1 1 rfl (by simp [Value.oneCell'])) (by simp only [maxLen]; omega) (by omega) hBW ?_; intro a9 cap9 W9 ho9 hc9 hn9);  (replace rn15 := rn15.chg hc9 (fun h => Nat.lt_irrefl _ (hl15 _ _ (by omega) h.1))) ; (replace row := row.chg hc9 (fun h => by have := h.2.1; omega)); (replace rx := rx.chg hc9 (fun h => by have := h.2.1; omega)); (replace htb := tb_push htb (j := k * 3) (by omega) hn9 hch.size); (replace hch := hch.trans hc9 (fun i hi h => .inr (.inr ⟨_, by omega, h.1⟩))); (replace hBW := Nat.le_trans hBW hc9.size); (replace how := OW.push0 how hk (Nat.succ_pos _) ho9 hc9 hn9); clear ho9 hc9 hn9 rn8
        refine hK.out _ _ ?g9rs34 (fun hHeld => ?g9rt34)
        case g9rs34 => (try dsimp only); (first | exact HU.out.2 | exact ⟨(row.cell _).trans hcR, (row.cell _).trans hcD, (row.cell _).trans hcV⟩)
        try dsimp only at hHeld
        clear hK K
        try simp only [Act.put, List.setIfInBounds_toArray, List.set_cons_zero, List.set_cons_succ]
        refine Go.Shr.wpAnyF_ready [16] (by kernel_rfl) (by simp) ?_
        refine Go.Shr.AllReadyF.cons 16 (o := { dst := some 42, op := Go.Op.call { callee := Go.Callee.builtin Go.Builtin.append, args := #[Go.Operand.tmp 39, Go.Operand.tmp 41], argTypes := #[22, 22] }, type := 22, pos := "shred.go:57", after := #[{ on := 13, ground := Go.Ground.data }, { on := 15, ground := Go.Ground.data }, { on := 9, ground := Go.Ground.chain }], guard := none }) rfl (fun K hK => ?g9ro35) ?g9rm35
        case g9rm35 => exact Go.Shr.AllReadyF.nil
        (refine step_append (B := p.B) rfl _ _ _ _ rfl ii (.int .i64 0) 8 Try.underlying22 hii hz0i hz1i hz2i rfl rfl (OW.own1' how hk) _ rfl 1 _ (src_rw (P := Try.prog) (tx := 22) Try.underlying22 rn15 1 1 rfl (by simp [Value.oneCell'])) (by simp only [maxLen]; omega) (by omega) hBW ?_; intro a16 cap16 W16 ho16 hc16 hn16); (replace row := row.chg hc16 (fun h => by have := h.2.1; omega)); (replace rx := rx.chg hc16 (fun h => by have := h.2.1; omega)); (replace htb := tb_push htb (j := k * 3 + 1) (by omega) (by rw [upd_ne _ _ (by omega)]; exact hn16) hch.size); (replace hch := hch.trans hc16 (fun i hi h => .inr (.inr ⟨_, by omega, h.1⟩))); (replace hBW := Nat.le_trans hBW hc16.size); (replace how := OW.push1 how hk (Nat.succ_pos _) ho16 hc16 hn16); clear ho16 hc16 hn16 rn15
        refine hK.out _ _ ?g9rs35 (fun hHeld => ?g9rt35)
        case g9rs35 => (try dsimp only); (first | exact HU.out.2 | exact ⟨(row.cell _).trans hcR, (row.cell _).trans hcD, (row.cell _).trans hcV⟩)
        try dsimp only at hHeld
        clear hK K
        try simp only [Act.put, List.setIfInBounds_toArray, List.set_cons_zero, List.set_cons_succ]
        refine Go.Shr.wpAnyF_ready [22] (by kernel_rfl) (by simp) ?_
        refine Go.Shr.AllReadyF.cons 22 (o := { dst := some 48, op := Go.Op.call { callee := Go.Callee.builtin Go.Builtin.append, args := #[Go.Operand.tmp 46, Go.Operand.tmp 47], argTypes := #[44, 44] }, type := 44, pos := "shred.go:57", after := #[{ on := 20, ground := Go.Ground.data }, { on := 21, ground := Go.Ground.data }, { on := 16, ground := Go.Ground.chain }], guard := none }) rfl (fun K hK => ?g9ro36) ?g9rm36
        case g9rm36 => exact Go.Shr.AllReadyF.nil
        (refine step_nothing rfl _ _ _ _ rfl iv Try.underlying44 hiv hz1v rfl (OW.own2' how hk).le _ rfl ((Sl.nil (fun _ => True) _ 2 none).src (P := Try.prog) (tx := 44) Try.underlying44 (fun u h => by cases h)) ?_); (replace htb := tb_push htb (j := k * 3 + 2) (a' := aa (k * 3 + 2)) (W := w) (by omega) (fun g hg => .inl (by rw [upd_ne _ _ (by omega), upd_ne _ _ (by omega)]; exact hg)) (Nat.le_refl _)); (replace how := OW.same2 how)
        refine hK.out _ _ ?g9rs36 (fun hHeld => ?g9rt36)
        case g9rs36 => (try dsimp only); (first | exact HU.out.2 | exact ⟨(row.cell _).trans hcR, (row.cell _).trans hcD, (row.cell _).trans hcV⟩)
        try dsimp only at hHeld
        clear hK K
        try simp only [Act.put, List.setIfInBounds_toArray, List.set_cons_zero, List.set_cons_succ]
        refine Go.Shr.wpAnyF_ready [23] (by kernel_rfl) (by simp) ?_
        refine Go.Shr.AllReadyF.last 23 (o := { dst := some 49, op := Go.Op.nilCheck (Go.Operand.tmp 26), type := 0, pos := "shred.go:57", after := #[{ on := 0, ground := Go.Ground.data }, { on := 0, ground := Go.Ground.phase }, { on := 1, ground := Go.Ground.textOnly Go.Departure.lateStores }, { on := 2, ground := Go.Ground.textOnly Go.Departure.lateStores }, { on := 3, ground := Go.Ground.phase }, { on := 4, ground := Go.Ground.phase }, { on := 5, ground := Go.Ground.phase }, { on := 6, ground := Go.Ground.phase }, { on := 7, ground := Go.Ground.phase }, { on := 8, ground := Go.Ground.phase }, { on := 9, ground := Go.Ground.phase }, { on := 10, ground := Go.Ground.textOnly Go.Departure.lateStores }, { on := 11, ground := Go.Ground.textOnly Go.Departure.lateStoresUnsure }, { on := 12, ground := Go.Ground.textOnly Go.Departure.lateStoresUnsure }, { on := 13, ground := Go.Ground.phase }, { on := 14, ground := Go.Ground.textOnly Go.Departure.lateStores }, { on := 15, ground := Go.Ground.textOnly Go.Departure.lateStoresUnsure }, { on := 16, ground := Go.Ground.phase }, { on := 17, ground := Go.Ground.textOnly Go.Departure.lateStores }, { on := 18, ground := Go.Ground.textOnly Go.Departure.lateStoresUnsure }, { on := 19, ground := Go.Ground.textOnly Go.Departure.lateStoresUnsure }, { on := 20, ground := Go.Ground.phase }, { on := 21, ground := Go.Ground.textOnly Go.Departure.lateStores }, { on := 22, ground := Go.Ground.phase }], guard := none }) rfl (by kernel_rfl) (fun K hK => ?g9ro37) ?g9rm37
        case g9rm37 => exact Go.Shr.AllReadyF.nil
        (obtain ⟨c0, c1, c2⟩ := hHeld); (have qf := row.frozen); (have ql := row.lt); go_simp
        refine hK.out _ _ ?_
        clear hK K
        try simp only [Act.put, List.setIfInBounds_toArray, List.set_cons_zero, List.set_cons_succ]
        refine Go.Shr.wpAnyF_ready [24] (by kernel_rfl) (by simp) ?_
        refine Go.Shr.AllReadyF.last 24 (o := { dst := some 50, op := Go.Op.fieldAddr 46 (Go.Operand.tmp 49) 0, type := 0, pos := "shred.go:57", after := #[{ on := 23, ground := Go.Ground.data }, { on := 0, ground := Go.Ground.phase }, { on := 1, ground := Go.Ground.textOnly Go.Departure.lateStores }, { on := 2, ground := Go.Ground.textOnly Go.Departure.lateStores }, { on := 3, ground := Go.Ground.phase }, { on := 4, ground := Go.Ground.phase }, { on := 5, ground := Go.Ground.phase }, { on := 6, ground := Go.Ground.phase }, { on := 7, ground := Go.Ground.phase }, { on := 8, ground := Go.Ground.phase }, { on := 9, ground := Go.Ground.phase }, { on := 10, ground := Go.Ground.textOnly Go.Departure.lateStores }, { on := 11, ground := Go.Ground.textOnly Go.Departure.lateStoresUnsure }, { on := 12, ground := Go.Ground.textOnly Go.Departure.lateStoresUnsure }, { on := 13, ground := Go.Ground.phase }, { on := 14, ground := Go.Ground.textOnly Go.Departure.lateStores }, { on := 15, ground := Go.Ground.textOnly Go.Departure.lateStoresUnsure }, { on := 16, ground := Go.Ground.phase }, { on := 17, ground := Go.Ground.textOnly Go.Departure.lateStores }, { on := 18, ground := Go.Ground.textOnly Go.Departure.lateStoresUnsure }, { on := 19, ground := Go.Ground.textOnly Go.Departure.lateStoresUnsure }, { on := 20, ground := Go.Ground.phase }, { on := 21, ground := Go.Ground.textOnly Go.Departure.lateStores }, { on := 22, ground := Go.Ground.phase }], guard := none }) rfl (by kernel_rfl) (fun K hK => ?g9ro38) ?g9rm38
        case g9rm38 => exact Go.Shr.AllReadyF.nil
        go_simp
        refine hK.out _ _ ?_
        clear hK K
        try simp only [Act.put, List.setIfInBounds_toArray, List.set_cons_zero, List.set_cons_succ]
        refine Go.Shr.wpAnyF_ready [25] (by kernel_rfl) (by simp) ?_
        refine Go.Shr.AllReadyF.last 25 (o := { dst := none, op := Go.Op.store 22 (Go.Operand.tmp 50) (Go.Operand.tmp 35), type := 0, pos := "shred.go:57", after := #[{ on := 24, ground := Go.Ground.data }, { on := 9, ground := Go.Ground.data }, { on := 22, ground := Go.Ground.chain }, { on := 0, ground := Go.Ground.phase }, { on := 1, ground := Go.Ground.textOnly Go.Departure.lateStores }, { on := 2, ground := Go.Ground.textOnly Go.Departure.lateStores }, { on := 3, ground := Go.Ground.phase }, { on := 4, ground := Go.Ground.phase }, { on := 5, ground := Go.Ground.phase }, { on := 6, ground := Go.Ground.phase }, { on := 7, ground := Go.Ground.phase }, { on := 8, ground := Go.Ground.phase }, { on := 9, ground := Go.Ground.phase }, { on := 10, ground := Go.Ground.textOnly Go.Departure.lateStores }, { on := 11, ground := Go.Ground.textOnly Go.Departure.lateStoresUnsure }, { on := 12, ground := Go.Ground.textOnly Go.Departure.lateStoresUnsure }, { on := 13, ground := Go.Ground.phase }, { on := 14, ground := Go.Ground.textOnly Go.Departure.lateStores }, { on := 15, ground := Go.Ground.textOnly Go.Departure.lateStoresUnsure }, { on := 16, ground := Go.Ground.phase }, { on := 17, ground := Go.Ground.textOnly Go.Departure.lateStores }, { on := 18, ground := Go.Ground.textOnly Go.Departure.lateStoresUnsure }, { on := 19, ground := Go.Ground.textOnly Go.Departure.lateStoresUnsure }, { on := 20, ground := Go.Ground.phase }, { on := 21, ground := Go.Ground.textOnly Go.Departure.lateStores }, { on := 22, ground := Go.Ground.phase }], guard := none }) rfl (by kernel_rfl) (fun K hK => ?g9ro39) ?g9rm39
        case g9rm39 => exact Go.Shr.AllReadyF.nil
        go_simp
        refine hK.out _ _ ?_
        clear hK K
        try simp only [Act.put, List.setIfInBounds_toArray, List.set_cons_zero, List.set_cons_succ]
        refine Go.Shr.wpAnyF_ready [26] (by kernel_rfl) (by simp) ?_
        refine Go.Shr.AllReadyF.last 26 (o := { dst := some 51, op := Go.Op.nilCheck (Go.Operand.tmp 27), type := 0, pos := "shred.go:57", after := #[{ on := 1, ground := Go.Ground.data }, { on := 0, ground := Go.Ground.phase }, { on := 1, ground := Go.Ground.phase }, { on := 2, ground := Go.Ground.textOnly Go.Departure.lateStores }, { on := 3, ground := Go.Ground.phase }, { on := 4, ground := Go.Ground.phase }, { on := 5, ground := Go.Ground.phase }, { on := 6, ground := Go.Ground.phase }, { on := 7, ground := Go.Ground.phase }, { on := 8, ground := Go.Ground.phase }, { on := 9, ground := Go.Ground.phase }, { on := 10, ground := Go.Ground.phase }, { on := 11, ground := Go.Ground.phase }, { on := 12, ground := Go.Ground.phase }, { on := 13, ground := Go.Ground.phase }, { on := 14, ground := Go.Ground.phase }, { on := 15, ground := Go.Ground.phase }, { on := 16, ground := Go.Ground.phase }, { on := 17, ground := Go.Ground.textOnly Go.Departure.lateStores }, { on := 18, ground := Go.Ground.textOnly Go.Departure.lateStoresUnsure }, { on := 19, ground := Go.Ground.textOnly Go.Departure.lateStoresUnsure }, { on := 20, ground := Go.Ground.phase }, { on := 21, ground := Go.Ground.textOnly Go.Departure.lateStores }, { on := 22, ground := Go.Ground.phase }, { on := 23, ground := Go.Ground.phase }, { on := 24, ground := Go.Ground.phase }, { on := 25, ground := Go.Ground.phase }], guard := none }) rfl (by kernel_rfl) (fun K hK => ?g9ro40) ?g9rm40
        case g9rm40 => exact Go.Shr.AllReadyF.nil
        go_simp
        refine hK.out _ _ ?_
        clear hK K
        try simp only [Act.put, List.setIfInBounds_toArray, List.set_cons_zero, List.set_cons_succ]
        refine Go.Shr.wpAnyF_ready [27] (by kernel_rfl) (by simp) ?_
        refine Go.Shr.AllReadyF.last 27 (o := { dst := some 52, op := Go.Op.fieldAddr 46 (Go.Operand.tmp 51) 1, type := 0, pos := "shred.go:57", after := #[{ on := 26, ground := Go.Ground.data }, { on := 0, ground := Go.Ground.phase }, { on := 1, ground := Go.Ground.phase }, { on := 2, ground := Go.Ground.textOnly Go.Departure.lateStores }, { on := 3, ground := Go.Ground.phase }, { on := 4, ground := Go.Ground.phase }, { on := 5, ground := Go.Ground.phase }, { on := 6, ground := Go.Ground.phase }, { on := 7, ground := Go.Ground.phase }, { on := 8, ground := Go.Ground.phase }, { on := 9, ground := Go.Ground.phase }, { on := 10, ground := Go.Ground.phase }, { on := 11, ground := Go.Ground.phase }, { on := 12, ground := Go.Ground.phase }, { on := 13, ground := Go.Ground.phase }, { on := 14, ground := Go.Ground.phase }, { on := 15, ground := Go.Ground.phase }, { on := 16, ground := Go.Ground.phase }, { on := 17, ground := Go.Ground.textOnly Go.Departure.lateStores }, { on := 18, ground := Go.Ground.textOnly Go.Departure.lateStoresUnsure }, { on := 19, ground := Go.Ground.textOnly Go.Departure.lateStoresUnsure }, { on := 20, ground := Go.Ground.phase }, { on := 21, ground := Go.Ground.textOnly Go.Departure.lateStores }, { on := 22, ground := Go.Ground.phase }, { on := 23, ground := Go.Ground.phase }, { on := 24, ground := Go.Ground.phase }, { on := 25, ground := Go.Ground.phase }], guard := none }) rfl (by kernel_rfl) (fun K hK => ?g9ro41) ?g9rm41
        case g9rm41 => exact Go.Shr.AllReadyF.nil
        go_simp
        refine hK.out _ _ ?_
        clear hK K
        try simp only [Act.put, List.setIfInBounds_toArray, List.set_cons_zero, List.set_cons_succ]
        refine Go.Shr.wpAnyF_ready [28] (by kernel_rfl) (by simp) ?_
        refine Go.Shr.AllReadyF.last 28 (o := { dst := none, op := Go.Op.store 22 (Go.Operand.tmp 52) (Go.Operand.tmp 42), type := 0, pos := "shred.go:57", after := #[{ on := 27, ground := Go.Ground.data }, { on := 16, ground := Go.Ground.data }, { on := 25, ground := Go.Ground.chain }, { on := 0, ground := Go.Ground.phase }, { on := 1, ground := Go.Ground.phase }, { on := 2, ground := Go.Ground.textOnly Go.Departure.lateStores }, { on := 3, ground := Go.Ground.phase }, { on := 4, ground := Go.Ground.phase }, { on := 5, ground := Go.Ground.phase }, { on := 6, ground := Go.Ground.phase }, { on := 7, ground := Go.Ground.phase }, { on := 8, ground := Go.Ground.phase }, { on := 9, ground := Go.Ground.phase }, { on := 10, ground := Go.Ground.phase }, { on := 11, ground := Go.Ground.phase }, { on := 12, ground := Go.Ground.phase }, { on := 13, ground := Go.Ground.phase }, { on := 14, ground := Go.Ground.phase }, { on := 15, ground := Go.Ground.phase }, { on := 16, ground := Go.Ground.phase }, { on := 17, ground := Go.Ground.textOnly Go.Departure.lateStores }, { on := 18, ground := Go.Ground.textOnly Go.Departure.lateStoresUnsure }, { on := 19, ground := Go.Ground.textOnly Go.Departure.lateStoresUnsure }, { on := 20, ground := Go.Ground.phase }, { on := 21, ground := Go.Ground.textOnly Go.Departure.lateStores }, { on := 22, ground := Go.Ground.phase }, { on := 23, ground := Go.Ground.phase }, { on := 24, ground := Go.Ground.phase }, { on := 25, ground := Go.Ground.phase }], guard := none }) rfl (by kernel_rfl) (fun K hK => ?g9ro42) ?g9rm42
        case g9rm42 => exact Go.Shr.AllReadyF.nil
        go_simp
        refine hK.out _ _ ?_
        clear hK K
        try simp only [Act.put, List.setIfInBounds_toArray, List.set_cons_zero, List.set_cons_succ]
        refine Go.Shr.wpAnyF_ready [29] (by kernel_rfl) (by simp) ?_
        refine Go.Shr.AllReadyF.last 29 (o := { dst := some 53, op := Go.Op.nilCheck (Go.Operand.tmp 28), type := 0, pos := "shred.go:57", after := #[{ on := 2, ground := Go.Ground.data }, { on := 0, ground := Go.Ground.phase }, { on := 1, ground := Go.Ground.phase }, { on := 2, ground := Go.Ground.phase }, { on := 3, ground := Go.Ground.phase }, { on := 4, ground := Go.Ground.phase }, { on := 5, ground := Go.Ground.phase }, { on := 6, ground := Go.Ground.phase }, { on := 7, ground := Go.Ground.phase }, { on := 8, ground := Go.Ground.phase }, { on := 9, ground := Go.Ground.phase }, { on := 10, ground := Go.Ground.phase }, { on := 11, ground := Go.Ground.phase }, { on := 12, ground := Go.Ground.phase }, { on := 13, ground := Go.Ground.phase }, { on := 14, ground := Go.Ground.phase }, { on := 15, ground := Go.Ground.phase }, { on := 16, ground := Go.Ground.phase }, { on := 17, ground := Go.Ground.phase }, { on := 18, ground := Go.Ground.phase }, { on := 19, ground := Go.Ground.phase }, { on := 20, ground := Go.Ground.phase }, { on := 21, ground := Go.Ground.phase }, { on := 22, ground := Go.Ground.phase }, { on := 23, ground := Go.Ground.phase }, { on := 24, ground := Go.Ground.phase }, { on := 25, ground := Go.Ground.phase }, { on := 26, ground := Go.Ground.phase }, { on := 27, ground := Go.Ground.phase }, { on := 28, ground := Go.Ground.phase }], guard := none }) rfl (by kernel_rfl) (fun K hK => ?g9ro43) ?g9rm43
        case g9rm43 => exact Go.Shr.AllReadyF.nil
        go_simp
        refine hK.out _ _ ?_
        clear hK K
        try simp only [Act.put, List.setIfInBounds_toArray, List.set_cons_zero, List.set_cons_succ]
        refine Go.Shr.wpAnyF_ready [30] (by kernel_rfl) (by simp) ?_
        refine Go.Shr.AllReadyF.last 30 (o := { dst := some 54, op := Go.Op.fieldAddr 46 (Go.Operand.tmp 53) 2, type := 0, pos := "shred.go:57", after := #[{ on := 29, ground := Go.Ground.data }, { on := 0, ground := Go.Ground.phase }, { on := 1, ground := Go.Ground.phase }, { on := 2, ground := Go.Ground.phase }, { on := 3, ground := Go.Ground.phase }, { on := 4, ground := Go.Ground.phase }, { on := 5, ground := Go.Ground.phase }, { on := 6, ground := Go.Ground.phase }, { on := 7, ground := Go.Ground.phase }, { on := 8, ground := Go.Ground.phase }, { on := 9, ground := Go.Ground.phase }, { on := 10, ground := Go.Ground.phase }, { on := 11, ground := Go.Ground.phase }, { on := 12, ground := Go.Ground.phase }, { on := 13, ground := Go.Ground.phase }, { on := 14, ground := Go.Ground.phase }, { on := 15, ground := Go.Ground.phase }, { on := 16, ground := Go.Ground.phase }, { on := 17, ground := Go.Ground.phase }, { on := 18, ground := Go.Ground.phase }, { on := 19, ground := Go.Ground.phase }, { on := 20, ground := Go.Ground.phase }, { on := 21, ground := Go.Ground.phase }, { on := 22, ground := Go.Ground.phase }, { on := 23, ground := Go.Ground.phase }, { on := 24, ground := Go.Ground.phase }, { on := 25, ground := Go.Ground.phase }, { on := 26, ground := Go.Ground.phase }, { on := 27, ground := Go.Ground.phase }, { on := 28, ground := Go.Ground.phase }], guard := none }) rfl (by kernel_rfl) (fun K hK => ?g9ro44) ?g9rm44
        case g9rm44 => exact Go.Shr.AllReadyF.nil
        go_simp
        refine hK.out _ _ ?_
        clear hK K
        try simp only [Act.put, List.setIfInBounds_toArray, List.set_cons_zero, List.set_cons_succ]
        refine Go.Shr.wpAnyF_ready [31] (by kernel_rfl) (by simp) ?_
        refine Go.Shr.AllReadyF.last 31 (o := { dst := none, op := Go.Op.store 44 (Go.Operand.tmp 54) (Go.Operand.tmp 48), type := 0, pos := "shred.go:57", after := #[{ on := 30, ground := Go.Ground.data }, { on := 22, ground := Go.Ground.data }, { on := 28, ground := Go.Ground.chain }, { on := 0, ground := Go.Ground.phase }, { on := 1, ground := Go.Ground.phase }, { on := 2, ground := Go.Ground.phase }, { on := 3, ground := Go.Ground.phase }, { on := 4, ground := Go.Ground.phase }, { on := 5, ground := Go.Ground.phase }, { on := 6, ground := Go.Ground.phase }, { on := 7, ground := Go.Ground.phase }, { on := 8, ground := Go.Ground.phase }, { on := 9, ground := Go.Ground.phase }, { on := 10, ground := Go.Ground.phase }, { on := 11, ground := Go.Ground.phase }, { on := 12, ground := Go.Ground.phase }, { on := 13, ground := Go.Ground.phase }, { on := 14, ground := Go.Ground.phase }, { on := 15, ground := Go.Ground.phase }, { on := 16, ground := Go.Ground.phase }, { on := 17, ground := Go.Ground.phase }, { on := 18, ground := Go.Ground.phase }, { on := 19, ground := Go.Ground.phase }, { on := 20, ground := Go.Ground.phase }, { on := 21, ground := Go.Ground.phase }, { on := 22, ground := Go.Ground.phase }, { on := 23, ground := Go.Ground.phase }, { on := 24, ground := Go.Ground.phase }, { on := 25, ground := Go.Ground.phase }, { on := 26, ground := Go.Ground.phase }, { on := 27, ground := Go.Ground.phase }, { on := 28, ground := Go.Ground.phase }], guard := none }) rfl (by kernel_rfl) (fun K hK => ?g9ro45) ?g9rm45
        case g9rm45 => exact Go.Shr.AllReadyF.nil
        go_simp
        refine hK.out _ _ ?_
        clear hK K
        try simp only [Act.put, List.setIfInBounds_toArray, List.set_cons_zero, List.set_cons_succ]
        refine Go.Shr.wpAnyF_done (by kernel_rfl) ?_
        have hfin := CT.fin (L := cut4 G k ++ [⟨r, d, none⟩]) hk row HT.out.size hH HT.out.lt (by simpa only [celR_snoc, celD_snoc, celV_none, List.length_append, List.length_singleton] using how)
        simp only [celV_none, List.length_append, List.length_singleton] at hfin
        have hch2 := ((hch.setCell (p := ⟨p.bc, k * 3, none⟩) (.inr (.inr (.inl rfl))) (.slice a9 ((cut4 G k).length + 1) cap9)).setCell (p := ⟨p.bc, k * 3 + 1, none⟩) (.inr (.inr (.inl rfl))) (.slice a16 ((cut4 G k).length + 1) cap16)).setCell (p := ⟨p.bc, k * 3 + 2, none⟩) (.inr (.inr (.inl rfl))) (.slice (aa (k * 3 + 2)) (celV (cut4 G k)).length (cc (k * 3 + 2)))
        have hne : p.bx ≠ p.bc := hbd.2.2.1
        have rx2 := ((rx.other (p := ⟨p.bc, k * 3, none⟩) hne (.slice a9 ((cut4 G k).length + 1) cap9)).other (p := ⟨p.bc, k * 3 + 1, none⟩) hne (.slice a16 ((cut4 G k).length + 1) cap16)).other (p := ⟨p.bc, k * 3 + 2, none⟩) hne (.slice (aa (k * 3 + 2)) (celV (cut4 G k)).length (cc (k * 3 + 2)))
        clear row rx how hch
        go_wp2_with fail
        refine bodyPost_end (v := .tuple #[]) (by simp [results, Try.results51, go_sem]) rfl ?_
        have hok : ∀ b, b < w.heap.size → p.ok b → ¬ p.ch aa b ∧ p.ok b := fun b _ hb => ⟨H.out.okch hb, hb⟩
        refine ⟨rfl, _, ⟨by rw [mny_add hk _ ho']; exact rx2, H.out.s.go hch2 hok (by decide), H.out.kids.go hch2 hok, H.out.lvs.go hch2 hok, ⟨_, _, hfin.congr (fun j _ => cut4_add _ ho' j)⟩, by have := hch2.size; have := hbd; omega⟩, hch2, htb⟩
      case g9rm33 =>
      exact Go.Shr.AllReadyF.nil
    case g9rm19 =>
    refine Go.Shr.AllReadyF.cons 15 (o := { dst := some 41, op := Go.Op.buildSlice 22 1 #[(0, Go.Operand.tmp 40)], type := 22, pos := "shred.go:57", after := #[{ on := 14, ground := Go.Ground.data }], guard := none }) rfl (fun K hK => ?g9ro46) ?g9rm46
    case g9ro46 =>
      go_simp; refine gen_w (fun X hX => ?_); (have hb := OW.nb how hX); (have rn15 := OW.nr how hX); (have hl15 := fun j g (hj : j < p.m * 3) hg => (how.lt j g hj hg).1); (replace row := row.below hb); (replace rx := rx.below hb); (replace hch := hch.trans (chF hb) (fun i hi h => h.elim)); (try replace rn8 := rn8.below hb); (replace how := how.below hb); (replace hBW := Nat.le_trans hBW hb.size); clear hb hX
      refine hK.out _ _ ?g9rs46 (fun hHeld => ?g9rt46)
      case g9rs46 => (try dsimp only); (first | exact HU.out.2 | exact ⟨(row.cell _).trans hcR, (row.cell _).trans hcD, (row.cell _).trans hcV⟩)
      try dsimp only at hHeld
      clear hK K
      try simp only [Act.put, List.setIfInBounds_toArray, List.set_cons_zero, List.set_cons_succ]
      refine Go.Shr.wpAnyF_ready [8] (by kernel_rfl) (by simp) ?_
      refine Go.Shr.AllReadyF.cons 8 (o := { dst := some 34, op := Go.Op.buildSlice 22 1 #[(0, Go.Operand.tmp 33)], type := 22, pos := "shred.go:57", after := #[{ on := 7, ground := Go.Ground.data }], guard := none }) rfl (fun K hK => ?g9ro47) ?g9rm47
      case g9rm47 => exact Go.Shr.AllReadyF.nil
      go_simp; refine gen_w (fun X hX => ?_); (have hb := OW.nb how hX); (have rn8 := OW.nr how hX); (replace row := row.below hb); (replace rx := rx.below hb); (replace hch := hch.trans (chF hb) (fun i hi h => h.elim));  (replace rn15 := rn15.below hb) ; (replace how := how.below hb); (replace hBW := Nat.le_trans hBW hb.size); clear hb hX
      refine hK.out _ _ ?g9rs47 (fun hHeld => ?g9rt47)
      case g9rs47 => (try dsimp only); (first | exact HU.out.2 | exact ⟨(row.cell _).trans hcR, (row.cell _).trans hcD, (row.cell _).trans hcV⟩)
      try dsimp only at hHeld
      clear hK K
      try simp only [Act.put, List.setIfInBounds_toArray, List.set_cons_zero, List.set_cons_succ]
      refine Go.Shr.wpAnyF_ready [9] (by kernel_rfl) (by simp) ?_
      refine Go.Shr.AllReadyF.cons 9 (o := { dst := some 35, op := Go.Op.call { callee := Go.Callee.builtin Go.Builtin.append, args := #[Go.Operand.tmp 32, Go.Operand.tmp 34], argTypes := #[22, 22] }, type := 22, pos := "shred.go:57", after := #[{ on := 6, ground := Go.Ground.data }, { on := 8, ground := Go.Ground.data }], guard := none }) rfl (fun K hK => ?g9ro48) ?g9rm48
      case g9rm48 => exact Go.Shr.AllReadyF.nil
      (refine step_append (B := p.B) rfl _ _ _ _ rfl ii (.int .i64 0) 8 Try.underlying22 hii hz0i hz1i hz2i rfl rfl (OW.own0 how hk) _ rfl 1 _ (src_rw (P := Try.prog) (tx := 22) Try.underlying22 rn8 1 1 rfl (by simp [Value.oneCell'])) (by simp only [maxLen]; omega) (by omega) hBW ?_; intro a9 cap9 W9 ho9 hc9 hn9);  (replace rn15 := rn15.chg hc9 (fun h => Nat.lt_irrefl _ (hl15 _ _ (by omega) h.1))) ; (replace row := row.chg hc9 (fun h => by have := h.2.1; omega)); (replace rx := rx.chg hc9 (fun h => by have := h.2.1; omega)); (replace htb := tb_push htb (j := k * 3) (by omega) hn9 hch.size); (replace hch := hch.trans hc9 (fun i hi h => .inr (.inr ⟨_, by omega, h.1⟩))); (replace hBW := Nat.le_trans hBW hc9.size); (replace how := OW.push0 how hk (Nat.succ_pos _) ho9 hc9 hn9); clear ho9 hc9 hn9 rn8
      refine hK.out _ _ ?g9rs48 (fun hHeld => ?g9rt48)
      case g9rs48 => (try dsimp only); (first | exact HU.out.2 | exact ⟨(row.cell _).trans hcR, (row.cell _).trans hcD, (row.cell _).trans hcV⟩)
      try dsimp only at hHeld
      clear hK K
      try simp only [Act.put, List.setIfInBounds_toArray, List.set_cons_zero, List.set_cons_succ]
      refine Go.Shr.wpAnyF_ready [16] (by kernel_rfl) (by simp) ?_
      refine Go.Shr.AllReadyF.cons 16 (o := { dst := some 42, op := Go.Op.call { callee := Go.Callee.builtin Go.Builtin.append, args := #[Go.Operand.tmp 39, Go.Operand.tmp 41], argTypes := #[22, 22] }, type := 22, pos := "shred.go:57", after := #[{ on := 13, ground := Go.Ground.data }, { on := 15, ground := Go.Ground.data }, { on := 9, ground := Go.Ground.chain }], guard := none }) rfl (fun K hK => ?g9ro49) ?g9rm49
      case g9rm49 => exact Go.Shr.AllReadyF.nil
      (refine step_append (B := p.B) rfl _ _ _ _ rfl ii (.int .i64 0) 8 Try.underlying22 hii hz0i hz1i hz2i rfl rfl (OW.own1' how hk) _ rfl 1 _ (src_rw (P := Try.prog) (tx := 22) Try.underlying22 rn15 1 1 rfl (by simp [Value.oneCell'])) (by simp only [maxLen]; omega) (by omega) hBW ?_; intro a16 cap16 W16 ho16 hc16 hn16); (replace row := row.chg hc16 (fun h => by have := h.2.1; omega)); (replace rx := rx.chg hc16 (fun h => by have := h.2.1; omega)); (replace htb := tb_push htb (j := k * 3 + 1) (by omega) (by rw [upd_ne _ _ (by omega)]; exact hn16) hch.size); (replace hch := hch.trans hc16 (fun i hi h => .inr (.inr ⟨_, by omega, h.1⟩))); (replace hBW := Nat.le_trans hBW hc16.size); (replace how := OW.push1 how hk (Nat.succ_pos _) ho16 hc16 hn16); clear ho16 hc16 hn16 rn15
      refine hK.out _ _ ?g9rs49 (fun hHeld => ?g9rt49)
      case g9rs49 => (try dsimp only); (first | exact HU.out.2 | exact ⟨(row.cell _).trans hcR, (row.cell _).trans hcD, (row.cell _).trans hcV⟩)
      try dsimp only at hHeld
      clear hK K
      try simp only [Act.put, List.setIfInBounds_toArray, List.set_cons_zero, List.set_cons_succ]
      refine Go.Shr.wpAnyF_ready [22] (by kernel_rfl) (by simp) ?_
      refine Go.Shr.AllReadyF.cons 22 (o := { dst := some 48, op := Go.Op.call { callee := Go.Callee.builtin Go.Builtin.append, args := #[Go.Operand.tmp 46, Go.Operand.tmp 47], argTypes := #[44, 44] }, type := 44, pos := "shred.go:57", after := #[{ on := 20, ground := Go.Ground.data }, { on := 21, ground := Go.Ground.data }, { on := 16, ground := Go.Ground.chain }], guard := none }) rfl (fun K hK => ?g9ro50) ?g9rm50
      case g9rm50 => exact Go.Shr.AllReadyF.nil
      (refine step_nothing rfl _ _ _ _ rfl iv Try.underlying44 hiv hz1v rfl (OW.own2' how hk).le _ rfl ((Sl.nil (fun _ => True) _ 2 none).src (P := Try.prog) (tx := 44) Try.underlying44 (fun u h => by cases h)) ?_); (replace htb := tb_push htb (j := k * 3 + 2) (a' := aa (k * 3 + 2)) (W := w) (by omega) (fun g hg => .inl (by rw [upd_ne _ _ (by omega), upd_ne _ _ (by omega)]; exact hg)) (Nat.le_refl _)); (replace how := OW.same2 how)
      refine hK.out _ _ ?g9rs50 (fun hHeld => ?g9rt50)
      case g9rs50 => (try dsimp only); (first | exact HU.out.2 | exact ⟨(row.cell _).trans hcR, (row.cell _).trans hcD, (row.cell _).trans hcV⟩)
      try dsimp only at hHeld
      clear hK K
      try simp only [Act.put, List.setIfInBounds_toArray, List.set_cons_zero, List.set_cons_succ]
      refine Go.Shr.wpAnyF_ready [23] (by kernel_rfl) (by simp) ?_
      refine Go.Shr.AllReadyF.last 23 (o := { dst := some 49, op := Go.Op.nilCheck (Go.Operand.tmp 26), type := 0, pos := "shred.go:57", after := #[{ on := 0, ground := Go.Ground.data }, { on := 0, ground := Go.Ground.phase }, { on := 1, ground := Go.Ground.textOnly Go.Departure.lateStores }, { on := 2, ground := Go.Ground.textOnly Go.Departure.lateStores }, { on := 3, ground := Go.Ground.phase }, { on := 4, ground := Go.Ground.phase }, { on := 5, ground := Go.Ground.phase }, { on := 6, ground := Go.Ground.phase }, { on := 7, ground := Go.Ground.phase }, { on := 8, ground := Go.Ground.phase }, { on := 9, ground := Go.Ground.phase }, { on := 10, ground := Go.Ground.textOnly Go.Departure.lateStores }, { on := 11, ground := Go.Ground.textOnly Go.Departure.lateStoresUnsure }, { on := 12, ground := Go.Ground.textOnly Go.Departure.lateStoresUnsure }, { on := 13, ground := Go.Ground.phase }, { on := 14, ground := Go.Ground.textOnly Go.Departure.lateStores }, { on := 15, ground := Go.Ground.textOnly Go.Departure.lateStoresUnsure }, { on := 16, ground := Go.Ground.phase }, { on := 17, ground := Go.Ground.textOnly Go.Departure.lateStores }, { on := 18, ground := Go.Ground.textOnly Go.Departure.lateStoresUnsure }, { on := 19, ground := Go.Ground.textOnly Go.Departure.lateStoresUnsure }, { on := 20, ground := Go.Ground.phase }, { on := 21, ground := Go.Ground.textOnly Go.Departure.lateStores }, { on := 22, ground := Go.Ground.phase }], guard := none }) rfl (by kernel_rfl) (fun K hK => ?g9ro51) ?g9rm51
      case g9rm51 => exact Go.Shr.AllReadyF.nil
      (obtain ⟨c0, c1, c2⟩ := hHeld); (have qf := row.frozen); (have ql := row.lt); go_simp
      refine hK.out _ _ ?_
      clear hK K
      try simp only [Act.put, List.setIfInBounds_toArray, List.set_cons_zero, List.set_cons_succ]
      refine Go.Shr.wpAnyF_ready [24] (by kernel_rfl) (by simp) ?_
      refine Go.Shr.AllReadyF.last 24 (o := { dst := some 50, op := Go.Op.fieldAddr 46 (Go.Operand.tmp 49) 0, type := 0, pos := "shred.go:57", after := #[{ on := 23, ground := Go.Ground.data }, { on := 0, ground := Go.Ground.phase }, { on := 1, ground := Go.Ground.textOnly Go.Departure.lateStores }, { on := 2, ground := Go.Ground.textOnly Go.Departure.lateStores }, { on := 3, ground := Go.Ground.phase }, { on := 4, ground := Go.Ground.phase }, { on := 5, ground := Go.Ground.phase }, { on := 6, ground := Go.Ground.phase }, { on := 7, ground := Go.Ground.phase }, { on := 8, ground := Go.Ground.phase }, { on := 9, ground := Go.Ground.phase }, { on := 10, ground := Go.Ground.textOnly Go.Departure.lateStores }, { on := 11, ground := Go.Ground.textOnly Go.Departure.lateStoresUnsure }, { on := 12, ground := Go.Ground.textOnly Go.Departure.lateStoresUnsure }, { on := 13, ground := Go.Ground.phase }, { on := 14, ground := Go.Ground.textOnly Go.Departure.lateStores }, { on := 15, ground := Go.Ground.textOnly Go.Departure.lateStoresUnsure }, { on := 16, ground := Go.Ground.phase }, { on := 17, ground := Go.Ground.textOnly Go.Departure.lateStores }, { on := 18, ground := Go.Ground.textOnly Go.Departure.lateStoresUnsure }, { on := 19, ground := Go.Ground.textOnly Go.Departure.lateStoresUnsure }, { on := 20, ground := Go.Ground.phase }, { on := 21, ground := Go.Ground.textOnly Go.Departure.lateStores }, { on := 22, ground := Go.Ground.phase }], guard := none }) rfl (by kernel_rfl) (fun K hK => ?g9ro52) ?g9rm52
      case g9rm52 => exact Go.Shr.AllReadyF.nil
      go_simp
      refine hK.out _ _ ?_
      clear hK K
      try simp only [Act.put, List.setIfInBounds_toArray, List.set_cons_zero, List.set_cons_succ]
      refine Go.Shr.wpAnyF_ready [25] (by kernel_rfl) (by simp) ?_
      refine Go.Shr.AllReadyF.last 25 (o := { dst := none, op := Go.Op.store 22 (Go.Operand.tmp 50) (Go.Operand.tmp 35), type := 0, pos := "shred.go:57", after := #[{ on := 24, ground := Go.Ground.data }, { on := 9, ground := Go.Ground.data }, { on := 22, ground := Go.Ground.chain }, { on := 0, ground := Go.Ground.phase }, { on := 1, ground := Go.Ground.textOnly Go.Departure.lateStores }, { on := 2, ground := Go.Ground.textOnly Go.Departure.lateStores }, { on := 3, ground := Go.Ground.phase }, { on := 4, ground := Go.Ground.phase }, { on := 5, ground := Go.Ground.phase }, { on := 6, ground := Go.Ground.phase }, { on := 7, ground := Go.Ground.phase }, { on := 8, ground := Go.Ground.phase }, { on := 9, ground := Go.Ground.phase }, { on := 10, ground := Go.Ground.textOnly Go.Departure.lateStores }, { on := 11, ground := Go.Ground.textOnly Go.Departure.lateStoresUnsure }, { on := 12, ground := Go.Ground.textOnly Go.Departure.lateStoresUnsure }, { on := 13, ground := Go.Ground.phase }, { on := 14, ground := Go.Ground.textOnly Go.Departure.lateStores }, { on := 15, ground := Go.Ground.textOnly Go.Departure.lateStoresUnsure }, { on := 16, ground := Go.Ground.phase }, { on := 17, ground := Go.Ground.textOnly Go.Departure.lateStores }, { on := 18, ground := Go.Ground.textOnly Go.Departure.lateStoresUnsure }, { on := 19, ground := Go.Ground.textOnly Go.Departure.lateStoresUnsure }, { on := 20, ground := Go.Ground.phase }, { on := 21, ground := Go.Ground.textOnly Go.Departure.lateStores }, { on := 22, ground := Go.Ground.phase }], guard := none }) rfl (by kernel_rfl) (fun K hK => ?g9ro53) ?g9rm53
      case g9rm53 => exact Go.Shr.AllReadyF.nil
      go_simp
      refine hK.out _ _ ?_
      clear hK K
      try simp only [Act.put, List.setIfInBounds_toArray, List.set_cons_zero, List.set_cons_succ]
      refine Go.Shr.wpAnyF_ready [26] (by kernel_rfl) (by simp) ?_
      refine Go.Shr.AllReadyF.last 26 (o := { dst := some 51, op := Go.Op.nilCheck (Go.Operand.tmp 27), type := 0, pos := "shred.go:57", after := #[{ on := 1, ground := Go.Ground.data }, { on := 0, ground := Go.Ground.phase }, { on := 1, ground := Go.Ground.phase }, { on := 2, ground := Go.Ground.textOnly Go.Departure.lateStores }, { on := 3, ground := Go.Ground.phase }, { on := 4, ground := Go.Ground.phase }, { on := 5, ground := Go.Ground.phase }, { on := 6, ground := Go.Ground.phase }, { on := 7, ground := Go.Ground.phase }, { on := 8, ground := Go.Ground.phase }, { on := 9, ground := Go.Ground.phase }, { on := 10, ground := Go.Ground.phase }, { on := 11, ground := Go.Ground.phase }, { on := 12, ground := Go.Ground.phase }, { on := 13, ground := Go.Ground.phase }, { on := 14, ground := Go.Ground.phase }, { on := 15, ground := Go.Ground.phase }, { on := 16, ground := Go.Ground.phase }, { on := 17, ground := Go.Ground.textOnly Go.Departure.lateStores }, { on := 18, ground := Go.Ground.textOnly Go.Departure.lateStoresUnsure }, { on := 19, ground := Go.Ground.textOnly Go.Departure.lateStoresUnsure }, { on := 20, ground := Go.Ground.phase }, { on := 21, ground := Go.Ground.textOnly Go.Departure.lateStores }, { on := 22, ground := Go.Ground.phase }, { on := 23, ground := Go.Ground.phase }, { on := 24, ground := Go.Ground.phase }, { on := 25, ground := Go.Ground.phase }], guard := none }) rfl (by kernel_rfl) (fun K hK => ?g9ro54) ?g9rm54
      case g9rm54 => exact Go.Shr.AllReadyF.nil
      go_simp
      refine hK.out _ _ ?_
      clear hK K
      try simp only [Act.put, List.setIfInBounds_toArray, List.set_cons_zero, List.set_cons_succ]
      refine Go.Shr.wpAnyF_ready [27] (by kernel_rfl) (by simp) ?_
      refine Go.Shr.AllReadyF.last 27 (o := { dst := some 52, op := Go.Op.fieldAddr 46 (Go.Operand.tmp 51) 1, type := 0, pos := "shred.go:57", after := #[{ on := 26, ground := Go.Ground.data }, { on := 0, ground := Go.Ground.phase }, { on := 1, ground := Go.Ground.phase }, { on := 2, ground := Go.Ground.textOnly Go.Departure.lateStores }, { on := 3, ground := Go.Ground.phase }, { on := 4, ground := Go.Ground.phase }, { on := 5, ground := Go.Ground.phase }, { on := 6, ground := Go.Ground.phase }, { on := 7, ground := Go.Ground.phase }, { on := 8, ground := Go.Ground.phase }, { on := 9, ground := Go.Ground.phase }, { on := 10, ground := Go.Ground.phase }, { on := 11, ground := Go.Ground.phase }, { on := 12, ground := Go.Ground.phase }, { on := 13, ground := Go.Ground.phase }, { on := 14, ground := Go.Ground.phase }, { on := 15, ground := Go.Ground.phase }, { on := 16, ground := Go.Ground.phase }, { on := 17, ground := Go.Ground.textOnly Go.Departure.lateStores }, { on := 18, ground := Go.Ground.textOnly Go.Departure.lateStoresUnsure }, { on := 19, ground := Go.Ground.textOnly Go.Departure.lateStoresUnsure }, { on := 20, ground := Go.Ground.phase }, { on := 21, ground := Go.Ground.textOnly Go.Departure.lateStores }, { on := 22, ground := Go.Ground.phase }, { on := 23, ground := Go.Ground.phase }, { on := 24, ground := Go.Ground.phase }, { on := 25, ground := Go.Ground.phase }], guard := none }) rfl (by kernel_rfl) (fun K hK => ?g9ro55) ?g9rm55
      case g9rm55 => exact Go.Shr.AllReadyF.nil
      go_simp
      refine hK.out _ _ ?_
      clear hK K
      try simp only [Act.put, List.setIfInBounds_toArray, List.set_cons_zero, List.set_cons_succ]
      refine Go.Shr.wpAnyF_ready [28] (by kernel_rfl) (by simp) ?_
      refine Go.Shr.AllReadyF.last 28 (o := { dst := none, op := Go.Op.store 22 (Go.Operand.tmp 52) (Go.Operand.tmp 42), type := 0, pos := "shred.go:57", after := #[{ on := 27, ground := Go.Ground.data }, { on := 16, ground := Go.Ground.data }, { on := 25, ground := Go.Ground.chain }, { on := 0, ground := Go.Ground.phase }, { on := 1, ground := Go.Ground.phase }, { on := 2, ground := Go.Ground.textOnly Go.Departure.lateStores }, { on := 3, ground := Go.Ground.phase }, { on := 4, ground := Go.Ground.phase }, { on := 5, ground := Go.Ground.phase }, { on := 6, ground := Go.Ground.phase }, { on := 7, ground := Go.Ground.phase }, { on := 8, ground := Go.Ground.phase }, { on := 9, ground := Go.Ground.phase }, { on := 10, ground := Go.Ground.phase }, { on := 11, ground := Go.Ground.phase }, { on := 12, ground := Go.Ground.phase }, { on := 13, ground := Go.Ground.phase }, { on := 14, ground := Go.Ground.phase }, { on := 15, ground := Go.Ground.phase }, { on := 16, ground := Go.Ground.phase }, { on := 17, ground := Go.Ground.textOnly Go.Departure.lateStores }, { on := 18, ground := Go.Ground.textOnly Go.Departure.lateStoresUnsure }, { on := 19, ground := Go.Ground.textOnly Go.Departure.lateStoresUnsure }, { on := 20, ground := Go.Ground.phase }, { on := 21, ground := Go.Ground.textOnly Go.Departure.lateStores }, { on := 22, ground := Go.Ground.phase }, { on := 23, ground := Go.Ground.phase }, { on := 24, ground := Go.Ground.phase }, { on := 25, ground := Go.Ground.phase }], guard := none }) rfl (by kernel_rfl) (fun K hK => ?g9ro56) ?g9rm56
      case g9rm56 => exact Go.Shr.AllReadyF.nil
      go_simp
      refine hK.out _ _ ?_
      clear hK K
      try simp only [Act.put, List.setIfInBounds_toArray, List.set_cons_zero, List.set_cons_succ]
      refine Go.Shr.wpAnyF_ready [29] (by kernel_rfl) (by simp) ?_
      refine Go.Shr.AllReadyF.last 29 (o := { dst := some 53, op := Go.Op.nilCheck (Go.Operand.tmp 28), type := 0, pos := "shred.go:57", after := #[{ on := 2, ground := Go.Ground.data }, { on := 0, ground := Go.Ground.phase }, { on := 1, ground := Go.Ground.phase }, { on := 2, ground := Go.Ground.phase }, { on := 3, ground := Go.Ground.phase }, { on := 4, ground := Go.Ground.phase }, { on := 5, ground := Go.Ground.phase }, { on := 6, ground := Go.Ground.phase }, { on := 7, ground := Go.Ground.phase }, { on := 8, ground := Go.Ground.phase }, { on := 9, ground := Go.Ground.phase }, { on := 10, ground := Go.Ground.phase }, { on := 11, ground := Go.Ground.phase }, { on := 12, ground := Go.Ground.phase }, { on := 13, ground := Go.Ground.phase }, { on := 14, ground := Go.Ground.phase }, { on := 15, ground := Go.Ground.phase }, { on := 16, ground := Go.Ground.phase }, { on := 17, ground := Go.Ground.phase }, { on := 18, ground := Go.Ground.phase }, { on := 19, ground := Go.Ground.phase }, { on := 20, ground := Go.Ground.phase }, { on := 21, ground := Go.Ground.phase }, { on := 22, ground := Go.Ground.phase }, { on := 23, ground := Go.Ground.phase }, { on := 24, ground := Go.Ground.phase }, { on := 25, ground := Go.Ground.phase }, { on := 26, ground := Go.Ground.phase }, { on := 27, ground := Go.Ground.phase }, { on := 28, ground := Go.Ground.phase }], guard := none }) rfl (by kernel_rfl) (fun K hK => ?g9ro57) ?g9rm57
      case g9rm57 => exact Go.Shr.AllReadyF.nil
      go_simp
      refine hK.out _ _ ?_
      clear hK K
      try simp only [Act.put, List.setIfInBounds_toArray, List.set_cons_zero, List.set_cons_succ]
      refine Go.Shr.wpAnyF_ready [30] (by kernel_rfl) (by simp) ?_
      refine Go.Shr.AllReadyF.last 30 (o := { dst := some 54, op := Go.Op.fieldAddr 46 (Go.Operand.tmp 53) 2, type := 0, pos := "shred.go:57", after := #[{ on := 29, ground := Go.Ground.data }, { on := 0, ground := Go.Ground.phase }, { on := 1, ground := Go.Ground.phase }, { on := 2, ground := Go.Ground.phase }, { on := 3, ground := Go.Ground.phase }, { on := 4, ground := Go.Ground.phase }, { on := 5, ground := Go.Ground.phase }, { on := 6, ground := Go.Ground.phase }, { on := 7, ground := Go.Ground.phase }, { on := 8, ground := Go.Ground.phase }, { on := 9, ground := Go.Ground.phase }, { on := 10, ground := Go.Ground.phase }, { on := 11, ground := Go.Ground.phase }, { on := 12, ground := Go.Ground.phase }, { on := 13, ground := Go.Ground.phase }, { on := 14, ground := Go.Ground.phase }, { on := 15, ground := Go.Ground.phase }, { on := 16, ground := Go.Ground.phase }, { on := 17, ground := Go.Ground.phase }, { on := 18, ground := Go.Ground.phase }, { on := 19, ground := Go.Ground.phase }, { on := 20, ground := Go.Ground.phase }, { on := 21, ground := Go.Ground.phase }, { on := 22, ground := Go.Ground.phase }, { on := 23, ground := Go.Ground.phase }, { on := 24, ground := Go.Ground.phase }, { on := 25, ground := Go.Ground.phase }, { on := 26, ground := Go.Ground.phase }, { on := 27, ground := Go.Ground.phase }, { on := 28, ground := Go.Ground.phase }], guard := none }) rfl (by kernel_rfl) (fun K hK => ?g9ro58) ?g9rm58
      case g9rm58 => exact Go.Shr.AllReadyF.nil
      go_simp
      refine hK.out _ _ ?_
      clear hK K
      try simp only [Act.put, List.setIfInBounds_toArray, List.set_cons_zero, List.set_cons_succ]
      refine Go.Shr.wpAnyF_ready [31] (by kernel_rfl) (by simp) ?_
      refine Go.Shr.AllReadyF.last 31 (o := { dst := none, op := Go.Op.store 44 (Go.Operand.tmp 54) (Go.Operand.tmp 48), type := 0, pos := "shred.go:57", after := #[{ on := 30, ground := Go.Ground.data }, { on := 22, ground := Go.Ground.data }, { on := 28, ground := Go.Ground.chain }, { on := 0, ground := Go.Ground.phase }, { on := 1, ground := Go.Ground.phase }, { on := 2, ground := Go.Ground.phase }, { on := 3, ground := Go.Ground.phase }, { on := 4, ground := Go.Ground.phase }, { on := 5, ground := Go.Ground.phase }, { on := 6, ground := Go.Ground.phase }, { on := 7, ground := Go.Ground.phase }, { on := 8, ground := Go.Ground.phase }, { on := 9, ground := Go.Ground.phase }, { on := 10, ground := Go.Ground.phase }, { on := 11, ground := Go.Ground.phase }, { on := 12, ground := Go.Ground.phase }, { on := 13, ground := Go.Ground.phase }, { on := 14, ground := Go.Ground.phase }, { on := 15, ground := Go.Ground.phase }, { on := 16, ground := Go.Ground.phase }, { on := 17, ground := Go.Ground.phase }, { on := 18, ground := Go.Ground.phase }, { on := 19, ground := Go.Ground.phase }, { on := 20, ground := Go.Ground.phase }, { on := 21, ground := Go.Ground.phase }, { on := 22, ground := Go.Ground.phase }, { on := 23, ground := Go.Ground.phase }, { on := 24, ground := Go.Ground.phase }, { on := 25, ground := Go.Ground.phase }, { on := 26, ground := Go.Ground.phase }, { on := 27, ground := Go.Ground.phase }, { on := 28, ground := Go.Ground.phase }], guard := none }) rfl (by kernel_rfl) (fun K hK => ?g9ro59) ?g9rm59
      case g9rm59 => exact Go.Shr.AllReadyF.nil
      go_simp
      refine hK.out _ _ ?_
      clear hK K
      try simp only [Act.put, List.setIfInBounds_toArray, List.set_cons_zero, List.set_cons_succ]
      refine Go.Shr.wpAnyF_done (by kernel_rfl) ?_
      have hfin := CT.fin (L := cut4 G k ++ [⟨r, d, none⟩]) hk row HT.out.size hH HT.out.lt (by simpa only [celR_snoc, celD_snoc, celV_none, List.length_append, List.length_singleton] using how)
      simp only [celV_none, List.length_append, List.length_singleton] at hfin
      have hch2 := ((hch.setCell (p := ⟨p.bc, k * 3, none⟩) (.inr (.inr (.inl rfl))) (.slice a9 ((cut4 G k).length + 1) cap9)).setCell (p := ⟨p.bc, k * 3 + 1, none⟩) (.inr (.inr (.inl rfl))) (.slice a16 ((cut4 G k).length + 1) cap16)).setCell (p := ⟨p.bc, k * 3 + 2, none⟩) (.inr (.inr (.inl rfl))) (.slice (aa (k * 3 + 2)) (celV (cut4 G k)).length (cc (k * 3 + 2)))
      have hne : p.bx ≠ p.bc := hbd.2.2.1
      have rx2 := ((rx.other (p := ⟨p.bc, k * 3, none⟩) hne (.slice a9 ((cut4 G k).length + 1) cap9)).other (p := ⟨p.bc, k * 3 + 1, none⟩) hne (.slice a16 ((cut4 G k).length + 1) cap16)).other (p := ⟨p.bc, k * 3 + 2, none⟩) hne (.slice (aa (k * 3 + 2)) (celV (cut4 G k)).length (cc (k * 3 + 2)))
      clear row rx how hch
      go_wp2_with fail
      refine bodyPost_end (v := .tuple #[]) (by simp [results, Try.results51, go_sem]) rfl ?_
      have hok : ∀ b, b < w.heap.size → p.ok b → ¬ p.ch aa b ∧ p.ok b := fun b _ hb => ⟨H.out.okch hb, hb⟩
      refine ⟨rfl, _, ⟨by rw [mny_add hk _ ho']; exact rx2, H.out.s.go hch2 hok (by decide), H.out.kids.go hch2 hok, H.out.lvs.go hch2 hok, ⟨_, _, hfin.congr (fun j _ => cut4_add _ ho' j)⟩, by have := hch2.size; have := hbd; omega⟩, hch2, htb⟩
    case g9rm46 =>
    exact Go.Shr.AllReadyF.nil
end Go.Proofs.Ytibhcibcfommeaa
