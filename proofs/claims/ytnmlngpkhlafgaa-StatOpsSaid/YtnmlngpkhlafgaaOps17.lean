/-
  The walk of StatOps.
-/
import Derived.Test.YtnmlngpkhlafgaaStat9
import Derived.Deep.CutRange
set_option linter.unusedSimpArgs false
namespace Go.Proofs.Ytnmlngpkhlafgaa
open Go.RowKit Go.Shr
theorem ops_cases (k : Int) (x y : Vl) (hg : goodV k x ∧ goodV k y) :
    (mayV k ⟨0, true, x, x⟩ 0 y = true ∧ mayV k ⟨0, true, x, x⟩ 2 y = false ∧ mayV k ⟨0, true, x, x⟩ 4 y = false ∧ mayV k ⟨0, true, x, x⟩ 1 y = true ∧ mayV k ⟨0, true, x, x⟩ 3 y = false ∧ mayV k ⟨0, true, x, x⟩ 5 y = false ∧ ¬ (x.n = y.n ∧ x.s.toList = y.s.toList)) ∨
    (mayV k ⟨0, true, x, x⟩ 0 y = false ∧ mayV k ⟨0, true, x, x⟩ 2 y = true ∧ mayV k ⟨0, true, x, x⟩ 4 y = false ∧ mayV k ⟨0, true, x, x⟩ 1 y = true ∧ mayV k ⟨0, true, x, x⟩ 3 y = true ∧ mayV k ⟨0, true, x, x⟩ 5 y = false ∧ (x.n = y.n ∧ x.s.toList = y.s.toList)) ∨
    (mayV k ⟨0, true, x, x⟩ 0 y = false ∧ mayV k ⟨0, true, x, x⟩ 2 y = false ∧ mayV k ⟨0, true, x, x⟩ 4 y = true ∧ mayV k ⟨0, true, x, x⟩ 1 y = false ∧ mayV k ⟨0, true, x, x⟩ 3 y = true ∧ mayV k ⟨0, true, x, x⟩ 5 y = false ∧ ¬ (x.n = y.n ∧ x.s.toList = y.s.toList)) := by
  have hcmp : ∀ z : Vl, cmpV k z z = 0 := fun z => by
    have h1 := (not_congr (cmpV_neg k z z)).2 (by rw [lessV_irrefl]; decide)
    have h2 := (not_congr (cmpV_pos k z z)).2 (by rw [lessV_irrefl]; decide)
    omega
  have hne : cmpV k x y ≠ 0 → ¬ (x.n = y.n ∧ x.s.toList = y.s.toList) := by
    intro h ⟨h1, h2⟩
    apply h
    have h3 : x.s = y.s := toList_inj h2
    have : x = y := by cases x; cases y; simp only at h1 h3; rw [h1, h3]
    rw [this]; exact hcmp y
  rcases Int.lt_trichotomy (cmpV k x y) 0 with h | h | h
  · refine .inl ⟨?_, ?_, ?_, ?_, ?_, ?_, hne (by omega)⟩ <;> simp [mayV] <;> omega
  · refine .inr (.inl ⟨?_, ?_, ?_, ?_, ?_, ?_, ?_⟩)
    iterate 6 · simp [mayV, h]
    have h1 : lessV k x y = false := by
      cases hl : lessV k x y with
      | false => rfl
      | true => have := (cmpV_neg k x y).2 hl; omega
    have h2 : lessV k y x = false := by
      cases hl : lessV k y x with
      | false => rfl
      | true => have := (cmpV_pos k x y).2 hl; omega
    rw [lessV_tri k x y hg.1 hg.2 h1 h2]
    exact ⟨rfl, rfl⟩
  · refine .inr (.inr ⟨?_, ?_, ?_, ?_, ?_, ?_, hne (by omega)⟩) <;> simp [mayV] <;> omega
set_option maxHeartbeats 2000000 in
theorem law_ops (kind : Int) (a b : Vl) (w : World) (_ : (Lit.int .i64 kind).wf = true) (_ : a.s.size ≤ maxLen) (_ : b.s.size ≤ maxLen) :
    Calls Try.prog 6 #[.int .i64 kind, .agg #[.int .i64 a.n, .string a.s], .agg #[.int .i64 b.n, .string b.s]] w fun e w' => e = .returned (.bool true) ∧ Below w.heap.size w w' := by
  obtain ⟨an, sa⟩ := a
  obtain ⟨bn, sb⟩ := b
  simp only
  go_enter Try.func6, Try.ntmps6
  go_wp2_with fail
  refine (known_v _).mono ?_
  rintro e w1 ⟨rfl, hb1⟩
  have HB : Below w.heap.size w w1 := bt (ba (ba (Below.refl _ _) _) _) hb1
  have r4 : Rw w1 w.heap.size #[.int .i64 an, .string sa] 35 := Rw.below ((Rw.new w _ _).alloc _) hb1
  have r5 : Rw w1 (w.heap.size + 1) #[.int .i64 bn, .string sb] 35 := Rw.below (Rw.new' (by simp)) hb1
  have c0 : w1.cell? ⟨w.heap.size, 0, none⟩ = some (.int .i64 an) := r4.cell 0
  have c1 : w1.cell? ⟨w.heap.size, 1, none⟩ = some (.string sa) := r4.cell 1
  have c2 : w1.cell? ⟨w.heap.size + 1, 0, none⟩ = some (.int .i64 bn) := r5.cell 0
  have c3 : w1.cell? ⟨w.heap.size + 1, 1, none⟩ = some (.string sb) := r5.cell 1
  have hl4 := r4.lt
  have hl5 := r5.lt
  clear hb1
  by_cases hs : 100 < sa.size
  · go_wp2_with fail
    go_ret
    exact ⟨rfl, HB⟩
  by_cases hs2 : 100 < sb.size
  · go_wp2_with fail
    go_ret
    exact ⟨rfl, HB⟩
  go_wp2_with fail
  refine (within_17 kind 4 w1 (by decide) (by decide)).mono ?_
  rintro e w2 ⟨rfl, rfl⟩
  have k1 := Int.emod_nonneg kind (show (4 : Int) ≠ 0 by decide)
  have k2 := Int.emod_lt_of_pos kind (show (0 : Int) < 4 by decide)
  have k3 : 1 ≤ 1 + kind % 4 := by omega
  have k4 : 1 + kind % 4 ≤ 4 := by omega
  clear k1 k2
  go_wp2_with fail
  generalize 1 + kind % 4 = k at *
  go_cut [8, 9] from 30 to 35 (fun v8 v9 wc => ∃ (b8 b9 : Nat) (x y : Vl), v8 = .pointer (some ⟨b8, 0, none⟩) ∧ v9 = .pointer (some ⟨b9, 0, none⟩) ∧ Hid (goodV k x ∧ goodV k y) ∧ Hid (Rw wc b8 #[.int .i64 x.n, .string x.s] 35) ∧ Hid (Rw wc b9 #[.int .i64 y.n, .string y.s] 35) ∧ Below w.heap.size w wc)
  case first =>
    refine Go.Shr.wp_region_F (fun w' => Rw w' w.heap.size #[.int .i64 an, .string sa] 35 ∧ Rw w' (w.heap.size + 1) #[.int .i64 bn, .string sb] 35) [9] (by kernel_rfl) ?g1rgS (fun hHeld => ?g1rgR)
    case g1rgS => (try dsimp only); (first | exact ⟨r4.drew, r5.drew⟩ | exact ⟨r4, r5⟩)
    try dsimp only at hHeld
    obtain ⟨W, hW⟩ : ∃ W, W = w1.drew := ⟨_, rfl⟩; rw [← hW] at hHeld ⊢; (try replace r4 := Rw.ren hW (Rw.drew r4)); (try replace r5 := Rw.ren hW (Rw.drew r5)); (replace HB := Go.Shr.Below.ren hW (HB.drew)); clear hW c0 c1 c2 c3 hl4 hl5
    refine Go.Shr.wpAnyF_take 0 (oi := { dst := some 30, op := Go.Op.move (Go.Operand.tmp 7), type := 3, pos := "more.go:21", after := #[], guard := none }) (v := ?g1rv1) rfl (by kernel_rfl) (fun _ _ _ h => h) (by assumption) (by rfl) ?g1ry1 ?g1rr1
    case g1ry1 => intro w hSw; (rename_i w2; obtain ⟨g4, g5⟩ := hSw); (have q0 := g4.cell 0); (have q1 := g4.cell 1); (have q2 := g5.cell 0); (have q3 := g5.cell 1); (simp only [List.getElem?_toArray, List.getElem?_cons_zero, List.getElem?_cons_succ] at q0 q1 q2 q3); go_simp; try with_reducible rfl
    try simp only [Act.put, List.setIfInBounds_toArray, List.set_cons_zero, List.set_cons_succ]
    refine Go.Shr.wpAnyF_take 1 (oi := { dst := some 31, op := Go.Op.load 35 (Go.Operand.tmp 4), type := 35, pos := "more.go:21", after := #[], guard := none }) (v := ?g1rv2) rfl (by kernel_rfl) (fun _ _ _ h => h) (by assumption) (by rfl) ?g1ry2 ?g1rr2
    case g1ry2 => intro w hSw; (rename_i w2; obtain ⟨g4, g5⟩ := hSw); (have q0 := g4.cell 0); (have q1 := g4.cell 1); (have q2 := g5.cell 0); (have q3 := g5.cell 1); (simp only [List.getElem?_toArray, List.getElem?_cons_zero, List.getElem?_cons_succ] at q0 q1 q2 q3); go_simp; try with_reducible rfl
    try simp only [Act.put, List.setIfInBounds_toArray, List.set_cons_zero, List.set_cons_succ]
    refine Go.Shr.wpAnyF_take 3 (oi := { dst := some 33, op := Go.Op.move (Go.Operand.tmp 7), type := 3, pos := "more.go:21", after := #[], guard := none }) (v := ?g1rv3) rfl (by kernel_rfl) (fun _ _ _ h => h) (by assumption) (by rfl) ?g1ry3 ?g1rr3
    case g1ry3 => intro w hSw; (rename_i w2; obtain ⟨g4, g5⟩ := hSw); (have q0 := g4.cell 0); (have q1 := g4.cell 1); (have q2 := g5.cell 0); (have q3 := g5.cell 1); (simp only [List.getElem?_toArray, List.getElem?_cons_zero, List.getElem?_cons_succ] at q0 q1 q2 q3); go_simp; try with_reducible rfl
    try simp only [Act.put, List.setIfInBounds_toArray, List.set_cons_zero, List.set_cons_succ]
    refine Go.Shr.wpAnyF_take 4 (oi := { dst := some 34, op := Go.Op.load 35 (Go.Operand.tmp 5), type := 35, pos := "more.go:21", after := #[], guard := none }) (v := ?g1rv4) rfl (by kernel_rfl) (fun _ _ _ h => h) (by assumption) (by rfl) ?g1ry4 ?g1rr4
    case g1ry4 => intro w hSw; (rename_i w2; obtain ⟨g4, g5⟩ := hSw); (have q0 := g4.cell 0); (have q1 := g4.cell 1); (have q2 := g5.cell 0); (have q3 := g5.cell 1); (simp only [List.getElem?_toArray, List.getElem?_cons_zero, List.getElem?_cons_succ] at q0 q1 q2 q3); go_simp; try with_reducible rfl
    try simp only [Act.put, List.setIfInBounds_toArray, List.set_cons_zero, List.set_cons_succ]
    refine Go.Shr.wpAnyF_ready [2, 6, 7] (by kernel_rfl) (by simp) ?_
    refine Go.Shr.AllReadyF.cons 2 (o := { dst := some 32, op := Go.Op.call { callee := Go.Callee.value (Go.Operand.func 18), args := #[Go.Operand.tmp 30, Go.Operand.tmp 31], argTypes := #[3, 35] }, type := 35, pos := "more.go:21", after := #[{ on := 0, ground := Go.Ground.data }, { on := 1, ground := Go.Ground.data }], guard := none }) rfl (fun K hK => ?g1ro5) ?g1rm5
    case g1ro5 =>
      go_simp; refine (good_v k k3 k4 an sa _).mono ?_; rintro e w2 ⟨⟨xn, xs, rfl, gx, _⟩, hb2⟩; dsimp only; refine gen_w (fun W hW => ?_); (try replace r4 := Rw.ren hW (Rw.below r4 hb2)); (try replace r5 := Rw.ren hW (Rw.below r5 hb2)); (try replace r6 := Rw.ren hW (Rw.below r6 hb2)); (try replace r7 := Rw.ren hW (Rw.below r7 hb2)); (replace HB := Go.Shr.Below.ren hW (bt HB hb2)); clear hW
      refine hK.out _ _ ?g1rs5 (fun hHeld => ?g1rt5)
      case g1rs5 => (try dsimp only); (first | exact ⟨r4.drew, r5.drew⟩ | exact ⟨r4, r5⟩)
      try dsimp only at hHeld
      clear hK K
      try simp only [Act.put, List.setIfInBounds_toArray, List.set_cons_zero, List.set_cons_succ]
      refine Go.Shr.wpAnyF_ready [5, 6, 7] (by kernel_rfl) (by simp) ?_
      refine Go.Shr.AllReadyF.cons 5 (o := { dst := some 35, op := Go.Op.call { callee := Go.Callee.value (Go.Operand.func 18), args := #[Go.Operand.tmp 33, Go.Operand.tmp 34], argTypes := #[3, 35] }, type := 35, pos := "more.go:21", after := #[{ on := 3, ground := Go.Ground.data }, { on := 4, ground := Go.Ground.data }, { on := 2, ground := Go.Ground.chain }], guard := none }) rfl (fun K hK => ?g1ro6) ?g1rm6
      case g1ro6 =>
        go_simp; refine (good_v k k3 k4 bn sb _).mono ?_; rintro e w5 ⟨⟨yn, ys, rfl, gy, _⟩, hb5⟩; dsimp only; refine gen_w (fun W hW => ?_); (try replace r4 := Rw.ren hW (Rw.below r4 hb5)); (try replace r5 := Rw.ren hW (Rw.below r5 hb5)); (try replace r6 := Rw.ren hW (Rw.below r6 hb5)); (try replace r7 := Rw.ren hW (Rw.below r7 hb5)); (replace HB := Go.Shr.Below.ren hW (bt HB hb5)); clear hW
        refine hK.out _ _ ?g1rs6 (fun hHeld => ?g1rt6)
        case g1rs6 => (try dsimp only); (first | exact ⟨r4.drew, r5.drew⟩ | exact ⟨r4, r5⟩)
        try dsimp only at hHeld
        clear hK K
        try simp only [Act.put, List.setIfInBounds_toArray, List.set_cons_zero, List.set_cons_succ]
        refine Go.Shr.wpAnyF_ready [6, 7] (by kernel_rfl) (by simp) ?_
        refine Go.Shr.AllReadyF.cons 6 (o := { dst := some 8, op := Go.Op.alloc 35, type := 0, pos := "more.go:21", after := #[], guard := none }) rfl (fun K hK => ?g1ro7) ?g1rm7
        case g1ro7 =>
          (have hx4 := r4.lt); (have hx5 := r5.lt); (try have hbb := r7.lt); go_simp; refine gen_w (fun W hW => ?_); (have r6 := Rw.ren hW (Rw.fresh HB #[.int .i64 0, .string ByteArray.empty] 35)); (try replace r4 := Rw.ren hW (Rw.alloc r4 _)); (try replace r5 := Rw.ren hW (Rw.alloc r5 _)); (try replace r6 := Rw.ren hW (Rw.alloc r6 _)); (try replace r7 := Rw.ren hW (Rw.alloc r7 _)); (replace HB := Go.Shr.Below.ren hW (ba HB _)); clear hW
          refine hK.out _ _ ?g1rs7 (fun hHeld => ?g1rt7)
          case g1rs7 => (try dsimp only); (first | exact ⟨r4.drew, r5.drew⟩ | exact ⟨r4, r5⟩)
          try dsimp only at hHeld
          clear hK K
          try simp only [Act.put, List.setIfInBounds_toArray, List.set_cons_zero, List.set_cons_succ]
          refine Go.Shr.wpAnyF_ready [7] (by kernel_rfl) (by simp) ?_
          refine Go.Shr.AllReadyF.cons 7 (o := { dst := some 9, op := Go.Op.alloc 35, type := 0, pos := "more.go:21", after := #[], guard := none }) rfl (fun K hK => ?g1ro8) ?g1rm8
          case g1rm8 => exact Go.Shr.AllReadyF.nil
          (have hy4 := r4.lt); (have hy5 := r5.lt); (try have hbb := r6.lt); go_simp; refine gen_w (fun W hW => ?_); (have r7 := Rw.ren hW (Rw.fresh HB #[.int .i64 0, .string ByteArray.empty] 35)); (try replace r4 := Rw.ren hW (Rw.alloc r4 _)); (try replace r5 := Rw.ren hW (Rw.alloc r5 _)); (try replace r6 := Rw.ren hW (Rw.alloc r6 _)); (try replace r7 := Rw.ren hW (Rw.alloc r7 _)); (replace HB := Go.Shr.Below.ren hW (ba HB _)); clear hW
          refine hK.out _ _ ?g1rs8 (fun hHeld => ?g1rt8)
          case g1rs8 => (try dsimp only); (first | exact ⟨r4.drew, r5.drew⟩ | exact ⟨r4, r5⟩)
          try dsimp only at hHeld
          clear hK K
          try simp only [Act.put, List.setIfInBounds_toArray, List.set_cons_zero, List.set_cons_succ]
          refine Go.Shr.wpAnyF_ready [8] (by kernel_rfl) (by simp) ?_
          refine Go.Shr.AllReadyF.cons 8 (o := { dst := none, op := Go.Op.store 35 (Go.Operand.tmp 8) (Go.Operand.tmp 32), type := 0, pos := "more.go:21", after := #[{ on := 6, ground := Go.Ground.data }, { on := 2, ground := Go.Ground.data }, { on := 5, ground := Go.Ground.chain }, { on := 0, ground := Go.Ground.phase }, { on := 1, ground := Go.Ground.phase }, { on := 2, ground := Go.Ground.phase }, { on := 3, ground := Go.Ground.textOnly Go.Departure.lateStores }, { on := 4, ground := Go.Ground.textOnly Go.Departure.lateStores }, { on := 5, ground := Go.Ground.textOnly Go.Departure.lateStoresUnsure }, { on := 6, ground := Go.Ground.phase }, { on := 7, ground := Go.Ground.phase }], guard := none }) rfl (fun K hK => ?g1ro9) ?g1rm9
          case g1rm9 => exact Go.Shr.AllReadyF.nil
          (have q6 := r6.cell 0); (have q6' := r6.cell 1); (have qf := r6.frozen); (have ql := r6.lt); (simp only [List.getElem?_toArray, List.getElem?_cons_zero, List.getElem?_cons_succ] at q6 q6'); go_simp; refine gen_w (fun W hW => ?_); (replace r6 := Rw.ren hW ((r6.set 0 _).set 1 _)); (replace r4 := Rw.ren hW ((r4.other (by simp only [ne_eq]; omega) _).other (by simp only [ne_eq]; omega) _)); (replace r5 := Rw.ren hW ((r5.other (by simp only [ne_eq]; omega) _).other (by simp only [ne_eq]; omega) _)); (replace r7 := Rw.ren hW ((r7.other (by simp only [ne_eq]; omega) _).other (by simp only [ne_eq]; omega) _)); (replace HB := Go.Shr.Below.ren hW ((HB.setCell (by simp only; omega) _).setCell (by simp only; omega) _)); clear hW
          refine hK.out _ _ ?g1rs9 (fun hHeld => ?g1rt9)
          case g1rs9 => (try dsimp only); (first | exact ⟨r4.drew, r5.drew⟩ | exact ⟨r4, r5⟩)
          try dsimp only at hHeld
          clear hK K
          try simp only [Act.put, List.setIfInBounds_toArray, List.set_cons_zero, List.set_cons_succ]
          refine Go.Shr.wpAnyF_ready [9] (by kernel_rfl) (by simp) ?_
          refine Go.Shr.AllReadyF.last 9 (o := { dst := none, op := Go.Op.store 35 (Go.Operand.tmp 9) (Go.Operand.tmp 35), type := 0, pos := "more.go:21", after := #[{ on := 7, ground := Go.Ground.data }, { on := 5, ground := Go.Ground.data }, { on := 8, ground := Go.Ground.chain }, { on := 0, ground := Go.Ground.phase }, { on := 1, ground := Go.Ground.phase }, { on := 2, ground := Go.Ground.phase }, { on := 3, ground := Go.Ground.phase }, { on := 4, ground := Go.Ground.phase }, { on := 5, ground := Go.Ground.phase }, { on := 6, ground := Go.Ground.phase }, { on := 7, ground := Go.Ground.phase }, { on := 8, ground := Go.Ground.phase }], guard := none }) rfl (by kernel_rfl) (fun K hK => ?g1ro10) ?g1rm10
          case g1rm10 => exact Go.Shr.AllReadyF.nil
          (have q7 := r7.cell 0); (have q7' := r7.cell 1); (have qf := r7.frozen); (have ql := r7.lt); (simp only [List.getElem?_toArray, List.getElem?_cons_zero, List.getElem?_cons_succ] at q7 q7'); go_simp; refine gen_w (fun W hW => ?_); (replace r7 := Rw.ren hW ((r7.set 0 _).set 1 _)); (replace r6 := Rw.ren hW ((r6.other (by simp only [ne_eq]; omega) _).other (by simp only [ne_eq]; omega) _)); (replace HB := Go.Shr.Below.ren hW ((HB.setCell (by simp only; omega) _).setCell (by simp only; omega) _)); clear hW
          refine hK.out _ _ ?_
          clear hK K
          try simp only [Act.put, List.setIfInBounds_toArray, List.set_cons_zero, List.set_cons_succ]
          refine Go.Shr.wpAnyF_done (by kernel_rfl) ?_
          go_wp2_with fail
          go_meet
          case rel => exact ⟨_, _, ⟨xn, xs⟩, ⟨yn, ys⟩, rfl, rfl, Lib.hid ⟨gx, gy⟩, Lib.hid r6, Lib.hid r7, HB⟩
        case g1rm7 =>
        refine Go.Shr.AllReadyF.cons 7 (o := { dst := some 9, op := Go.Op.alloc 35, type := 0, pos := "more.go:21", after := #[], guard := none }) rfl (fun K hK => ?g1ro11) ?g1rm11
        case g1ro11 =>
          (have hy4 := r4.lt); (have hy5 := r5.lt); (try have hbb := r6.lt); go_simp; refine gen_w (fun W hW => ?_); (have r7 := Rw.ren hW (Rw.fresh HB #[.int .i64 0, .string ByteArray.empty] 35)); (try replace r4 := Rw.ren hW (Rw.alloc r4 _)); (try replace r5 := Rw.ren hW (Rw.alloc r5 _)); (try replace r6 := Rw.ren hW (Rw.alloc r6 _)); (try replace r7 := Rw.ren hW (Rw.alloc r7 _)); (replace HB := Go.Shr.Below.ren hW (ba HB _)); clear hW
          refine hK.out _ _ ?g1rs11 (fun hHeld => ?g1rt11)
          case g1rs11 => (try dsimp only); (first | exact ⟨r4.drew, r5.drew⟩ | exact ⟨r4, r5⟩)
          try dsimp only at hHeld
          clear hK K
          try simp only [Act.put, List.setIfInBounds_toArray, List.set_cons_zero, List.set_cons_succ]
          refine Go.Shr.wpAnyF_ready [6] (by kernel_rfl) (by simp) ?_
          refine Go.Shr.AllReadyF.cons 6 (o := { dst := some 8, op := Go.Op.alloc 35, type := 0, pos := "more.go:21", after := #[], guard := none }) rfl (fun K hK => ?g1ro12) ?g1rm12
          case g1rm12 => exact Go.Shr.AllReadyF.nil
          (have hx4 := r4.lt); (have hx5 := r5.lt); (try have hbb := r7.lt); go_simp; refine gen_w (fun W hW => ?_); (have r6 := Rw.ren hW (Rw.fresh HB #[.int .i64 0, .string ByteArray.empty] 35)); (try replace r4 := Rw.ren hW (Rw.alloc r4 _)); (try replace r5 := Rw.ren hW (Rw.alloc r5 _)); (try replace r6 := Rw.ren hW (Rw.alloc r6 _)); (try replace r7 := Rw.ren hW (Rw.alloc r7 _)); (replace HB := Go.Shr.Below.ren hW (ba HB _)); clear hW
          refine hK.out _ _ ?g1rs12 (fun hHeld => ?g1rt12)
          case g1rs12 => (try dsimp only); (first | exact ⟨r4.drew, r5.drew⟩ | exact ⟨r4, r5⟩)
          try dsimp only at hHeld
          clear hK K
          try simp only [Act.put, List.setIfInBounds_toArray, List.set_cons_zero, List.set_cons_succ]
          refine Go.Shr.wpAnyF_ready [8] (by kernel_rfl) (by simp) ?_
          refine Go.Shr.AllReadyF.cons 8 (o := { dst := none, op := Go.Op.store 35 (Go.Operand.tmp 8) (Go.Operand.tmp 32), type := 0, pos := "more.go:21", after := #[{ on := 6, ground := Go.Ground.data }, { on := 2, ground := Go.Ground.data }, { on := 5, ground := Go.Ground.chain }, { on := 0, ground := Go.Ground.phase }, { on := 1, ground := Go.Ground.phase }, { on := 2, ground := Go.Ground.phase }, { on := 3, ground := Go.Ground.textOnly Go.Departure.lateStores }, { on := 4, ground := Go.Ground.textOnly Go.Departure.lateStores }, { on := 5, ground := Go.Ground.textOnly Go.Departure.lateStoresUnsure }, { on := 6, ground := Go.Ground.phase }, { on := 7, ground := Go.Ground.phase }], guard := none }) rfl (fun K hK => ?g1ro13) ?g1rm13
          case g1rm13 => exact Go.Shr.AllReadyF.nil
          (have q6 := r6.cell 0); (have q6' := r6.cell 1); (have qf := r6.frozen); (have ql := r6.lt); (simp only [List.getElem?_toArray, List.getElem?_cons_zero, List.getElem?_cons_succ] at q6 q6'); go_simp; refine gen_w (fun W hW => ?_); (replace r6 := Rw.ren hW ((r6.set 0 _).set 1 _)); (replace r4 := Rw.ren hW ((r4.other (by simp only [ne_eq]; omega) _).other (by simp only [ne_eq]; omega) _)); (replace r5 := Rw.ren hW ((r5.other (by simp only [ne_eq]; omega) _).other (by simp only [ne_eq]; omega) _)); (replace r7 := Rw.ren hW ((r7.other (by simp only [ne_eq]; omega) _).other (by simp only [ne_eq]; omega) _)); (replace HB := Go.Shr.Below.ren hW ((HB.setCell (by simp only; omega) _).setCell (by simp only; omega) _)); clear hW
          refine hK.out _ _ ?g1rs13 (fun hHeld => ?g1rt13)
          case g1rs13 => (try dsimp only); (first | exact ⟨r4.drew, r5.drew⟩ | exact ⟨r4, r5⟩)
          try dsimp only at hHeld
          clear hK K
          try simp only [Act.put, List.setIfInBounds_toArray, List.set_cons_zero, List.set_cons_succ]
          refine Go.Shr.wpAnyF_ready [9] (by kernel_rfl) (by simp) ?_
          refine Go.Shr.AllReadyF.last 9 (o := { dst := none, op := Go.Op.store 35 (Go.Operand.tmp 9) (Go.Operand.tmp 35), type := 0, pos := "more.go:21", after := #[{ on := 7, ground := Go.Ground.data }, { on := 5, ground := Go.Ground.data }, { on := 8, ground := Go.Ground.chain }, { on := 0, ground := Go.Ground.phase }, { on := 1, ground := Go.Ground.phase }, { on := 2, ground := Go.Ground.phase }, { on := 3, ground := Go.Ground.phase }, { on := 4, ground := Go.Ground.phase }, { on := 5, ground := Go.Ground.phase }, { on := 6, ground := Go.Ground.phase }, { on := 7, ground := Go.Ground.phase }, { on := 8, ground := Go.Ground.phase }], guard := none }) rfl (by kernel_rfl) (fun K hK => ?g1ro14) ?g1rm14
          case g1rm14 => exact Go.Shr.AllReadyF.nil
          (have q7 := r7.cell 0); (have q7' := r7.cell 1); (have qf := r7.frozen); (have ql := r7.lt); (simp only [List.getElem?_toArray, List.getElem?_cons_zero, List.getElem?_cons_succ] at q7 q7'); go_simp; refine gen_w (fun W hW => ?_); (replace r7 := Rw.ren hW ((r7.set 0 _).set 1 _)); (replace r6 := Rw.ren hW ((r6.other (by simp only [ne_eq]; omega) _).other (by simp only [ne_eq]; omega) _)); (replace HB := Go.Shr.Below.ren hW ((HB.setCell (by simp only; omega) _).setCell (by simp only; omega) _)); clear hW
          refine hK.out _ _ ?_
          clear hK K
          try simp only [Act.put, List.setIfInBounds_toArray, List.set_cons_zero, List.set_cons_succ]
          refine Go.Shr.wpAnyF_done (by kernel_rfl) ?_
          go_wp2_with fail
          go_meet
          case rel => exact ⟨_, _, ⟨xn, xs⟩, ⟨yn, ys⟩, rfl, rfl, Lib.hid ⟨gx, gy⟩, Lib.hid r6, Lib.hid r7, HB⟩
        case g1rm11 =>
        exact Go.Shr.AllReadyF.nil
      case g1rm6 =>
      refine Go.Shr.AllReadyF.cons 6 (o := { dst := some 8, op := Go.Op.alloc 35, type := 0, pos := "more.go:21", after := #[], guard := none }) rfl (fun K hK => ?g1ro15) ?g1rm15
      case g1ro15 =>
        (have hx4 := r4.lt); (have hx5 := r5.lt); (try have hbb := r7.lt); go_simp; refine gen_w (fun W hW => ?_); (have r6 := Rw.ren hW (Rw.fresh HB #[.int .i64 0, .string ByteArray.empty] 35)); (try replace r4 := Rw.ren hW (Rw.alloc r4 _)); (try replace r5 := Rw.ren hW (Rw.alloc r5 _)); (try replace r6 := Rw.ren hW (Rw.alloc r6 _)); (try replace r7 := Rw.ren hW (Rw.alloc r7 _)); (replace HB := Go.Shr.Below.ren hW (ba HB _)); clear hW
        refine hK.out _ _ ?g1rs15 (fun hHeld => ?g1rt15)
        case g1rs15 => (try dsimp only); (first | exact ⟨r4.drew, r5.drew⟩ | exact ⟨r4, r5⟩)
        try dsimp only at hHeld
        clear hK K
        try simp only [Act.put, List.setIfInBounds_toArray, List.set_cons_zero, List.set_cons_succ]
        refine Go.Shr.wpAnyF_ready [5, 7] (by kernel_rfl) (by simp) ?_
        refine Go.Shr.AllReadyF.cons 5 (o := { dst := some 35, op := Go.Op.call { callee := Go.Callee.value (Go.Operand.func 18), args := #[Go.Operand.tmp 33, Go.Operand.tmp 34], argTypes := #[3, 35] }, type := 35, pos := "more.go:21", after := #[{ on := 3, ground := Go.Ground.data }, { on := 4, ground := Go.Ground.data }, { on := 2, ground := Go.Ground.chain }], guard := none }) rfl (fun K hK => ?g1ro16) ?g1rm16
        case g1ro16 =>
          go_simp; refine (good_v k k3 k4 bn sb _).mono ?_; rintro e w5 ⟨⟨yn, ys, rfl, gy, _⟩, hb5⟩; dsimp only; refine gen_w (fun W hW => ?_); (try replace r4 := Rw.ren hW (Rw.below r4 hb5)); (try replace r5 := Rw.ren hW (Rw.below r5 hb5)); (try replace r6 := Rw.ren hW (Rw.below r6 hb5)); (try replace r7 := Rw.ren hW (Rw.below r7 hb5)); (replace HB := Go.Shr.Below.ren hW (bt HB hb5)); clear hW
          refine hK.out _ _ ?g1rs16 (fun hHeld => ?g1rt16)
          case g1rs16 => (try dsimp only); (first | exact ⟨r4.drew, r5.drew⟩ | exact ⟨r4, r5⟩)
          try dsimp only at hHeld
          clear hK K
          try simp only [Act.put, List.setIfInBounds_toArray, List.set_cons_zero, List.set_cons_succ]
          refine Go.Shr.wpAnyF_ready [7] (by kernel_rfl) (by simp) ?_
          refine Go.Shr.AllReadyF.cons 7 (o := { dst := some 9, op := Go.Op.alloc 35, type := 0, pos := "more.go:21", after := #[], guard := none }) rfl (fun K hK => ?g1ro17) ?g1rm17
          case g1rm17 => exact Go.Shr.AllReadyF.nil
          (have hy4 := r4.lt); (have hy5 := r5.lt); (try have hbb := r6.lt); go_simp; refine gen_w (fun W hW => ?_); (have r7 := Rw.ren hW (Rw.fresh HB #[.int .i64 0, .string ByteArray.empty] 35)); (try replace r4 := Rw.ren hW (Rw.alloc r4 _)); (try replace r5 := Rw.ren hW (Rw.alloc r5 _)); (try replace r6 := Rw.ren hW (Rw.alloc r6 _)); (try replace r7 := Rw.ren hW (Rw.alloc r7 _)); (replace HB := Go.Shr.Below.ren hW (ba HB _)); clear hW
          refine hK.out _ _ ?g1rs17 (fun hHeld => ?g1rt17)
          case g1rs17 => (try dsimp only); (first | exact ⟨r4.drew, r5.drew⟩ | exact ⟨r4, r5⟩)
          try dsimp only at hHeld
          clear hK K
          try simp only [Act.put, List.setIfInBounds_toArray, List.set_cons_zero, List.set_cons_succ]
          refine Go.Shr.wpAnyF_ready [8] (by kernel_rfl) (by simp) ?_
          refine Go.Shr.AllReadyF.cons 8 (o := { dst := none, op := Go.Op.store 35 (Go.Operand.tmp 8) (Go.Operand.tmp 32), type := 0, pos := "more.go:21", after := #[{ on := 6, ground := Go.Ground.data }, { on := 2, ground := Go.Ground.data }, { on := 5, ground := Go.Ground.chain }, { on := 0, ground := Go.Ground.phase }, { on := 1, ground := Go.Ground.phase }, { on := 2, ground := Go.Ground.phase }, { on := 3, ground := Go.Ground.textOnly Go.Departure.lateStores }, { on := 4, ground := Go.Ground.textOnly Go.Departure.lateStores }, { on := 5, ground := Go.Ground.textOnly Go.Departure.lateStoresUnsure }, { on := 6, ground := Go.Ground.phase }, { on := 7, ground := Go.Ground.phase }], guard := none }) rfl (fun K hK => ?g1ro18) ?g1rm18
          case g1rm18 => exact Go.Shr.AllReadyF.nil
          (have q6 := r6.cell 0); (have q6' := r6.cell 1); (have qf := r6.frozen); (have ql := r6.lt); (simp only [List.getElem?_toArray, List.getElem?_cons_zero, List.getElem?_cons_succ] at q6 q6'); go_simp; refine gen_w (fun W hW => ?_); (replace r6 := Rw.ren hW ((r6.set 0 _).set 1 _)); (replace r4 := Rw.ren hW ((r4.other (by simp only [ne_eq]; omega) _).other (by simp only [ne_eq]; omega) _)); (replace r5 := Rw.ren hW ((r5.other (by simp only [ne_eq]; omega) _).other (by simp only [ne_eq]; omega) _)); (replace r7 := Rw.ren hW ((r7.other (by simp only [ne_eq]; omega) _).other (by simp only [ne_eq]; omega) _)); (replace HB := Go.Shr.Below.ren hW ((HB.setCell (by simp only; omega) _).setCell (by simp only; omega) _)); clear hW
          refine hK.out _ _ ?g1rs18 (fun hHeld => ?g1rt18)
          case g1rs18 => (try dsimp only); (first | exact ⟨r4.drew, r5.drew⟩ | exact ⟨r4, r5⟩)
          try dsimp only at hHeld
          clear hK K
          try simp only [Act.put, List.setIfInBounds_toArray, List.set_cons_zero, List.set_cons_succ]
          refine Go.Shr.wpAnyF_ready [9] (by kernel_rfl) (by simp) ?_
          refine Go.Shr.AllReadyF.last 9 (o := { dst := none, op := Go.Op.store 35 (Go.Operand.tmp 9) (Go.Operand.tmp 35), type := 0, pos := "more.go:21", after := #[{ on := 7, ground := Go.Ground.data }, { on := 5, ground := Go.Ground.data }, { on := 8, ground := Go.Ground.chain }, { on := 0, ground := Go.Ground.phase }, { on := 1, ground := Go.Ground.phase }, { on := 2, ground := Go.Ground.phase }, { on := 3, ground := Go.Ground.phase }, { on := 4, ground := Go.Ground.phase }, { on := 5, ground := Go.Ground.phase }, { on := 6, ground := Go.Ground.phase }, { on := 7, ground := Go.Ground.phase }, { on := 8, ground := Go.Ground.phase }], guard := none }) rfl (by kernel_rfl) (fun K hK => ?g1ro19) ?g1rm19
          case g1rm19 => exact Go.Shr.AllReadyF.nil
          (have q7 := r7.cell 0); (have q7' := r7.cell 1); (have qf := r7.frozen); (have ql := r7.lt); (simp only [List.getElem?_toArray, List.getElem?_cons_zero, List.getElem?_cons_succ] at q7 q7'); go_simp; refine gen_w (fun W hW => ?_); (replace r7 := Rw.ren hW ((r7.set 0 _).set 1 _)); (replace r6 := Rw.ren hW ((r6.other (by simp only [ne_eq]; omega) _).other (by simp only [ne_eq]; omega) _)); (replace HB := Go.Shr.Below.ren hW ((HB.setCell (by simp only; omega) _).setCell (by simp only; omega) _)); clear hW
          refine hK.out _ _ ?_
          clear hK K
          try simp only [Act.put, List.setIfInBounds_toArray, List.set_cons_zero, List.set_cons_succ]
          refine Go.Shr.wpAnyF_done (by kernel_rfl) ?_
          go_wp2_with fail
          go_meet
          case rel => exact ⟨_, _, ⟨xn, xs⟩, ⟨yn, ys⟩, rfl, rfl, Lib.hid ⟨gx, gy⟩, Lib.hid r6, Lib.hid r7, HB⟩
        case g1rm16 =>
        refine Go.Shr.AllReadyF.cons 7 (o := { dst := some 9, op := Go.Op.alloc 35, type := 0, pos := "more.go:21", after := #[], guard := none }) rfl (fun K hK => ?g1ro20) ?g1rm20
        case g1ro20 =>
          (have hy4 := r4.lt); (have hy5 := r5.lt); (try have hbb := r6.lt); go_simp; refine gen_w (fun W hW => ?_); (have r7 := Rw.ren hW (Rw.fresh HB #[.int .i64 0, .string ByteArray.empty] 35)); (try replace r4 := Rw.ren hW (Rw.alloc r4 _)); (try replace r5 := Rw.ren hW (Rw.alloc r5 _)); (try replace r6 := Rw.ren hW (Rw.alloc r6 _)); (try replace r7 := Rw.ren hW (Rw.alloc r7 _)); (replace HB := Go.Shr.Below.ren hW (ba HB _)); clear hW
          refine hK.out _ _ ?g1rs20 (fun hHeld => ?g1rt20)
          case g1rs20 => (try dsimp only); (first | exact ⟨r4.drew, r5.drew⟩ | exact ⟨r4, r5⟩)
          try dsimp only at hHeld
          clear hK K
          try simp only [Act.put, List.setIfInBounds_toArray, List.set_cons_zero, List.set_cons_succ]
          refine Go.Shr.wpAnyF_ready [5] (by kernel_rfl) (by simp) ?_
          refine Go.Shr.AllReadyF.cons 5 (o := { dst := some 35, op := Go.Op.call { callee := Go.Callee.value (Go.Operand.func 18), args := #[Go.Operand.tmp 33, Go.Operand.tmp 34], argTypes := #[3, 35] }, type := 35, pos := "more.go:21", after := #[{ on := 3, ground := Go.Ground.data }, { on := 4, ground := Go.Ground.data }, { on := 2, ground := Go.Ground.chain }], guard := none }) rfl (fun K hK => ?g1ro21) ?g1rm21
          case g1rm21 => exact Go.Shr.AllReadyF.nil
          go_simp; refine (good_v k k3 k4 bn sb _).mono ?_; rintro e w5 ⟨⟨yn, ys, rfl, gy, _⟩, hb5⟩; dsimp only; refine gen_w (fun W hW => ?_); (try replace r4 := Rw.ren hW (Rw.below r4 hb5)); (try replace r5 := Rw.ren hW (Rw.below r5 hb5)); (try replace r6 := Rw.ren hW (Rw.below r6 hb5)); (try replace r7 := Rw.ren hW (Rw.below r7 hb5)); (replace HB := Go.Shr.Below.ren hW (bt HB hb5)); clear hW
          refine hK.out _ _ ?g1rs21 (fun hHeld => ?g1rt21)
          case g1rs21 => (try dsimp only); (first | exact ⟨r4.drew, r5.drew⟩ | exact ⟨r4, r5⟩)
          try dsimp only at hHeld
          clear hK K
          try simp only [Act.put, List.setIfInBounds_toArray, List.set_cons_zero, List.set_cons_succ]
          refine Go.Shr.wpAnyF_ready [8] (by kernel_rfl) (by simp) ?_
          refine Go.Shr.AllReadyF.cons 8 (o := { dst := none, op := Go.Op.store 35 (Go.Operand.tmp 8) (Go.Operand.tmp 32), type := 0, pos := "more.go:21", after := #[{ on := 6, ground := Go.Ground.data }, { on := 2, ground := Go.Ground.data }, { on := 5, ground := Go.Ground.chain }, { on := 0, ground := Go.Ground.phase }, { on := 1, ground := Go.Ground.phase }, { on := 2, ground := Go.Ground.phase }, { on := 3, ground := Go.Ground.textOnly Go.Departure.lateStores }, { on := 4, ground := Go.Ground.textOnly Go.Departure.lateStores }, { on := 5, ground := Go.Ground.textOnly Go.Departure.lateStoresUnsure }, { on := 6, ground := Go.Ground.phase }, { on := 7, ground := Go.Ground.phase }], guard := none }) rfl (fun K hK => ?g1ro22) ?g1rm22
          case g1rm22 => exact Go.Shr.AllReadyF.nil
          (have q6 := r6.cell 0); (have q6' := r6.cell 1); (have qf := r6.frozen); (have ql := r6.lt); (simp only [List.getElem?_toArray, List.getElem?_cons_zero, List.getElem?_cons_succ] at q6 q6'); go_simp; refine gen_w (fun W hW => ?_); (replace r6 := Rw.ren hW ((r6.set 0 _).set 1 _)); (replace r4 := Rw.ren hW ((r4.other (by simp only [ne_eq]; omega) _).other (by simp only [ne_eq]; omega) _)); (replace r5 := Rw.ren hW ((r5.other (by simp only [ne_eq]; omega) _).other (by simp only [ne_eq]; omega) _)); (replace r7 := Rw.ren hW ((r7.other (by simp only [ne_eq]; omega) _).other (by simp only [ne_eq]; omega) _)); (replace HB := Go.Shr.Below.ren hW ((HB.setCell (by simp only; omega) _).setCell (by simp only; omega) _)); clear hW
          refine hK.out _ _ ?g1rs22 (fun hHeld => ?g1rt22)
          case g1rs22 => (try dsimp only); (first | exact ⟨r4.drew, r5.drew⟩ | exact ⟨r4, r5⟩)
          try dsimp only at hHeld
          clear hK K
          try simp only [Act.put, List.setIfInBounds_toArray, List.set_cons_zero, List.set_cons_succ]
          refine Go.Shr.wpAnyF_ready [9] (by kernel_rfl) (by simp) ?_
          refine Go.Shr.AllReadyF.last 9 (o := { dst := none, op := Go.Op.store 35 (Go.Operand.tmp 9) (Go.Operand.tmp 35), type := 0, pos := "more.go:21", after := #[{ on := 7, ground := Go.Ground.data }, { on := 5, ground := Go.Ground.data }, { on := 8, ground := Go.Ground.chain }, { on := 0, ground := Go.Ground.phase }, { on := 1, ground := Go.Ground.phase }, { on := 2, ground := Go.Ground.phase }, { on := 3, ground := Go.Ground.phase }, { on := 4, ground := Go.Ground.phase }, { on := 5, ground := Go.Ground.phase }, { on := 6, ground := Go.Ground.phase }, { on := 7, ground := Go.Ground.phase }, { on := 8, ground := Go.Ground.phase }], guard := none }) rfl (by kernel_rfl) (fun K hK => ?g1ro23) ?g1rm23
          case g1rm23 => exact Go.Shr.AllReadyF.nil
          (have q7 := r7.cell 0); (have q7' := r7.cell 1); (have qf := r7.frozen); (have ql := r7.lt); (simp only [List.getElem?_toArray, List.getElem?_cons_zero, List.getElem?_cons_succ] at q7 q7'); go_simp; refine gen_w (fun W hW => ?_); (replace r7 := Rw.ren hW ((r7.set 0 _).set 1 _)); (replace r6 := Rw.ren hW ((r6.other (by simp only [ne_eq]; omega) _).other (by simp only [ne_eq]; omega) _)); (replace HB := Go.Shr.Below.ren hW ((HB.setCell (by simp only; omega) _).setCell (by simp only; omega) _)); clear hW
          refine hK.out _ _ ?_
          clear hK K
          try simp only [Act.put, List.setIfInBounds_toArray, List.set_cons_zero, List.set_cons_succ]
          refine Go.Shr.wpAnyF_done (by kernel_rfl) ?_
          go_wp2_with fail
          go_meet
          case rel => exact ⟨_, _, ⟨xn, xs⟩, ⟨yn, ys⟩, rfl, rfl, Lib.hid ⟨gx, gy⟩, Lib.hid r6, Lib.hid r7, HB⟩
        case g1rm20 =>
        exact Go.Shr.AllReadyF.nil
      case g1rm15 =>
      refine Go.Shr.AllReadyF.cons 7 (o := { dst := some 9, op := Go.Op.alloc 35, type := 0, pos := "more.go:21", after := #[], guard := none }) rfl (fun K hK => ?g1ro24) ?g1rm24
      case g1ro24 =>
        (have hy4 := r4.lt); (have hy5 := r5.lt); (try have hbb := r6.lt); go_simp; refine gen_w (fun W hW => ?_); (have r7 := Rw.ren hW (Rw.fresh HB #[.int .i64 0, .string ByteArray.empty] 35)); (try replace r4 := Rw.ren hW (Rw.alloc r4 _)); (try replace r5 := Rw.ren hW (Rw.alloc r5 _)); (try replace r6 := Rw.ren hW (Rw.alloc r6 _)); (try replace r7 := Rw.ren hW (Rw.alloc r7 _)); (replace HB := Go.Shr.Below.ren hW (ba HB _)); clear hW
        refine hK.out _ _ ?g1rs24 (fun hHeld => ?g1rt24)
        case g1rs24 => (try dsimp only); (first | exact ⟨r4.drew, r5.drew⟩ | exact ⟨r4, r5⟩)
        try dsimp only at hHeld
        clear hK K
        try simp only [Act.put, List.setIfInBounds_toArray, List.set_cons_zero, List.set_cons_succ]
        refine Go.Shr.wpAnyF_ready [5, 6] (by kernel_rfl) (by simp) ?_
        refine Go.Shr.AllReadyF.cons 5 (o := { dst := some 35, op := Go.Op.call { callee := Go.Callee.value (Go.Operand.func 18), args := #[Go.Operand.tmp 33, Go.Operand.tmp 34], argTypes := #[3, 35] }, type := 35, pos := "more.go:21", after := #[{ on := 3, ground := Go.Ground.data }, { on := 4, ground := Go.Ground.data }, { on := 2, ground := Go.Ground.chain }], guard := none }) rfl (fun K hK => ?g1ro25) ?g1rm25
        case g1ro25 =>
          go_simp; refine (good_v k k3 k4 bn sb _).mono ?_; rintro e w5 ⟨⟨yn, ys, rfl, gy, _⟩, hb5⟩; dsimp only; refine gen_w (fun W hW => ?_); (try replace r4 := Rw.ren hW (Rw.below r4 hb5)); (try replace r5 := Rw.ren hW (Rw.below r5 hb5)); (try replace r6 := Rw.ren hW (Rw.below r6 hb5)); (try replace r7 := Rw.ren hW (Rw.below r7 hb5)); (replace HB := Go.Shr.Below.ren hW (bt HB hb5)); clear hW
          refine hK.out _ _ ?g1rs25 (fun hHeld => ?g1rt25)
          case g1rs25 => (try dsimp only); (first | exact ⟨r4.drew, r5.drew⟩ | exact ⟨r4, r5⟩)
          try dsimp only at hHeld
          clear hK K
          try simp only [Act.put, List.setIfInBounds_toArray, List.set_cons_zero, List.set_cons_succ]
          refine Go.Shr.wpAnyF_ready [6] (by kernel_rfl) (by simp) ?_
          refine Go.Shr.AllReadyF.cons 6 (o := { dst := some 8, op := Go.Op.alloc 35, type := 0, pos := "more.go:21", after := #[], guard := none }) rfl (fun K hK => ?g1ro26) ?g1rm26
          case g1rm26 => exact Go.Shr.AllReadyF.nil
          (have hx4 := r4.lt); (have hx5 := r5.lt); (try have hbb := r7.lt); go_simp; refine gen_w (fun W hW => ?_); (have r6 := Rw.ren hW (Rw.fresh HB #[.int .i64 0, .string ByteArray.empty] 35)); (try replace r4 := Rw.ren hW (Rw.alloc r4 _)); (try replace r5 := Rw.ren hW (Rw.alloc r5 _)); (try replace r6 := Rw.ren hW (Rw.alloc r6 _)); (try replace r7 := Rw.ren hW (Rw.alloc r7 _)); (replace HB := Go.Shr.Below.ren hW (ba HB _)); clear hW
          refine hK.out _ _ ?g1rs26 (fun hHeld => ?g1rt26)
          case g1rs26 => (try dsimp only); (first | exact ⟨r4.drew, r5.drew⟩ | exact ⟨r4, r5⟩)
          try dsimp only at hHeld
          clear hK K
          try simp only [Act.put, List.setIfInBounds_toArray, List.set_cons_zero, List.set_cons_succ]
          refine Go.Shr.wpAnyF_ready [8] (by kernel_rfl) (by simp) ?_
          refine Go.Shr.AllReadyF.cons 8 (o := { dst := none, op := Go.Op.store 35 (Go.Operand.tmp 8) (Go.Operand.tmp 32), type := 0, pos := "more.go:21", after := #[{ on := 6, ground := Go.Ground.data }, { on := 2, ground := Go.Ground.data }, { on := 5, ground := Go.Ground.chain }, { on := 0, ground := Go.Ground.phase }, { on := 1, ground := Go.Ground.phase }, { on := 2, ground := Go.Ground.phase }, { on := 3, ground := Go.Ground.textOnly Go.Departure.lateStores }, { on := 4, ground := Go.Ground.textOnly Go.Departure.lateStores }, { on := 5, ground := Go.Ground.textOnly Go.Departure.lateStoresUnsure }, { on := 6, ground := Go.Ground.phase }, { on := 7, ground := Go.Ground.phase }], guard := none }) rfl (fun K hK => ?g1ro27) ?g1rm27
          case g1rm27 => exact Go.Shr.AllReadyF.nil
          (have q6 := r6.cell 0); (have q6' := r6.cell 1); (have qf := r6.frozen); (have ql := r6.lt); (simp only [List.getElem?_toArray, List.getElem?_cons_zero, List.getElem?_cons_succ] at q6 q6'); go_simp; refine gen_w (fun W hW => ?_); (replace r6 := Rw.ren hW ((r6.set 0 _).set 1 _)); (replace r4 := Rw.ren hW ((r4.other (by simp only [ne_eq]; omega) _).other (by simp only [ne_eq]; omega) _)); (replace r5 := Rw.ren hW ((r5.other (by simp only [ne_eq]; omega) _).other (by simp only [ne_eq]; omega) _)); (replace r7 := Rw.ren hW ((r7.other (by simp only [ne_eq]; omega) _).other (by simp only [ne_eq]; omega) _)); (replace HB := Go.Shr.Below.ren hW ((HB.setCell (by simp only; omega) _).setCell (by simp only; omega) _)); clear hW
          refine hK.out _ _ ?g1rs27 (fun hHeld => ?g1rt27)
          case g1rs27 => (try dsimp only); (first | exact ⟨r4.drew, r5.drew⟩ | exact ⟨r4, r5⟩)
          try dsimp only at hHeld
          clear hK K
          try simp only [Act.put, List.setIfInBounds_toArray, List.set_cons_zero, List.set_cons_succ]
          refine Go.Shr.wpAnyF_ready [9] (by kernel_rfl) (by simp) ?_
          refine Go.Shr.AllReadyF.last 9 (o := { dst := none, op := Go.Op.store 35 (Go.Operand.tmp 9) (Go.Operand.tmp 35), type := 0, pos := "more.go:21", after := #[{ on := 7, ground := Go.Ground.data }, { on := 5, ground := Go.Ground.data }, { on := 8, ground := Go.Ground.chain }, { on := 0, ground := Go.Ground.phase }, { on := 1, ground := Go.Ground.phase }, { on := 2, ground := Go.Ground.phase }, { on := 3, ground := Go.Ground.phase }, { on := 4, ground := Go.Ground.phase }, { on := 5, ground := Go.Ground.phase }, { on := 6, ground := Go.Ground.phase }, { on := 7, ground := Go.Ground.phase }, { on := 8, ground := Go.Ground.phase }], guard := none }) rfl (by kernel_rfl) (fun K hK => ?g1ro28) ?g1rm28
          case g1rm28 => exact Go.Shr.AllReadyF.nil
          (have q7 := r7.cell 0); (have q7' := r7.cell 1); (have qf := r7.frozen); (have ql := r7.lt); (simp only [List.getElem?_toArray, List.getElem?_cons_zero, List.getElem?_cons_succ] at q7 q7'); go_simp; refine gen_w (fun W hW => ?_); (replace r7 := Rw.ren hW ((r7.set 0 _).set 1 _)); (replace r6 := Rw.ren hW ((r6.other (by simp only [ne_eq]; omega) _).other (by simp only [ne_eq]; omega) _)); (replace HB := Go.Shr.Below.ren hW ((HB.setCell (by simp only; omega) _).setCell (by simp only; omega) _)); clear hW
          refine hK.out _ _ ?_
          clear hK K
          try simp only [Act.put, List.setIfInBounds_toArray, List.set_cons_zero, List.set_cons_succ]
          refine Go.Shr.wpAnyF_done (by kernel_rfl) ?_
          go_wp2_with fail
          go_meet
          case rel => exact ⟨_, _, ⟨xn, xs⟩, ⟨yn, ys⟩, rfl, rfl, Lib.hid ⟨gx, gy⟩, Lib.hid r6, Lib.hid r7, HB⟩
        case g1rm25 =>
        refine Go.Shr.AllReadyF.cons 6 (o := { dst := some 8, op := Go.Op.alloc 35, type := 0, pos := "more.go:21", after := #[], guard := none }) rfl (fun K hK => ?g1ro29) ?g1rm29
        case g1ro29 =>
          (have hx4 := r4.lt); (have hx5 := r5.lt); (try have hbb := r7.lt); go_simp; refine gen_w (fun W hW => ?_); (have r6 := Rw.ren hW (Rw.fresh HB #[.int .i64 0, .string ByteArray.empty] 35)); (try replace r4 := Rw.ren hW (Rw.alloc r4 _)); (try replace r5 := Rw.ren hW (Rw.alloc r5 _)); (try replace r6 := Rw.ren hW (Rw.alloc r6 _)); (try replace r7 := Rw.ren hW (Rw.alloc r7 _)); (replace HB := Go.Shr.Below.ren hW (ba HB _)); clear hW
          refine hK.out _ _ ?g1rs29 (fun hHeld => ?g1rt29)
          case g1rs29 => (try dsimp only); (first | exact ⟨r4.drew, r5.drew⟩ | exact ⟨r4, r5⟩)
          try dsimp only at hHeld
          clear hK K
          try simp only [Act.put, List.setIfInBounds_toArray, List.set_cons_zero, List.set_cons_succ]
          refine Go.Shr.wpAnyF_ready [5] (by kernel_rfl) (by simp) ?_
          refine Go.Shr.AllReadyF.cons 5 (o := { dst := some 35, op := Go.Op.call { callee := Go.Callee.value (Go.Operand.func 18), args := #[Go.Operand.tmp 33, Go.Operand.tmp 34], argTypes := #[3, 35] }, type := 35, pos := "more.go:21", after := #[{ on := 3, ground := Go.Ground.data }, { on := 4, ground := Go.Ground.data }, { on := 2, ground := Go.Ground.chain }], guard := none }) rfl (fun K hK => ?g1ro30) ?g1rm30
          case g1rm30 => exact Go.Shr.AllReadyF.nil
          go_simp; refine (good_v k k3 k4 bn sb _).mono ?_; rintro e w5 ⟨⟨yn, ys, rfl, gy, _⟩, hb5⟩; dsimp only; refine gen_w (fun W hW => ?_); (try replace r4 := Rw.ren hW (Rw.below r4 hb5)); (try replace r5 := Rw.ren hW (Rw.below r5 hb5)); (try replace r6 := Rw.ren hW (Rw.below r6 hb5)); (try replace r7 := Rw.ren hW (Rw.below r7 hb5)); (replace HB := Go.Shr.Below.ren hW (bt HB hb5)); clear hW
          refine hK.out _ _ ?g1rs30 (fun hHeld => ?g1rt30)
          case g1rs30 => (try dsimp only); (first | exact ⟨r4.drew, r5.drew⟩ | exact ⟨r4, r5⟩)
          try dsimp only at hHeld
          clear hK K
          try simp only [Act.put, List.setIfInBounds_toArray, List.set_cons_zero, List.set_cons_succ]
          refine Go.Shr.wpAnyF_ready [8] (by kernel_rfl) (by simp) ?_
          refine Go.Shr.AllReadyF.cons 8 (o := { dst := none, op := Go.Op.store 35 (Go.Operand.tmp 8) (Go.Operand.tmp 32), type := 0, pos := "more.go:21", after := #[{ on := 6, ground := Go.Ground.data }, { on := 2, ground := Go.Ground.data }, { on := 5, ground := Go.Ground.chain }, { on := 0, ground := Go.Ground.phase }, { on := 1, ground := Go.Ground.phase }, { on := 2, ground := Go.Ground.phase }, { on := 3, ground := Go.Ground.textOnly Go.Departure.lateStores }, { on := 4, ground := Go.Ground.textOnly Go.Departure.lateStores }, { on := 5, ground := Go.Ground.textOnly Go.Departure.lateStoresUnsure }, { on := 6, ground := Go.Ground.phase }, { on := 7, ground := Go.Ground.phase }], guard := none }) rfl (fun K hK => ?g1ro31) ?g1rm31
          case g1rm31 => exact Go.Shr.AllReadyF.nil
          (have q6 := r6.cell 0); (have q6' := r6.cell 1); (have qf := r6.frozen); (have ql := r6.lt); (simp only [List.getElem?_toArray, List.getElem?_cons_zero, List.getElem?_cons_succ] at q6 q6'); go_simp; refine gen_w (fun W hW => ?_); (replace r6 := Rw.ren hW ((r6.set 0 _).set 1 _)); (replace r4 := Rw.ren hW ((r4.other (by simp only [ne_eq]; omega) _).other (by simp only [ne_eq]; omega) _)); (replace r5 := Rw.ren hW ((r5.other (by simp only [ne_eq]; omega) _).other (by simp only [ne_eq]; omega) _)); (replace r7 := Rw.ren hW ((r7.other (by simp only [ne_eq]; omega) _).other (by simp only [ne_eq]; omega) _)); (replace HB := Go.Shr.Below.ren hW ((HB.setCell (by simp only; omega) _).setCell (by simp only; omega) _)); clear hW
          refine hK.out _ _ ?g1rs31 (fun hHeld => ?g1rt31)
          case g1rs31 => (try dsimp only); (first | exact ⟨r4.drew, r5.drew⟩ | exact ⟨r4, r5⟩)
          try dsimp only at hHeld
          clear hK K
          try simp only [Act.put, List.setIfInBounds_toArray, List.set_cons_zero, List.set_cons_succ]
          refine Go.Shr.wpAnyF_ready [9] (by kernel_rfl) (by simp) ?_
          refine Go.Shr.AllReadyF.last 9 (o := { dst := none, op := Go.Op.store 35 (Go.Operand.tmp 9) (Go.Operand.tmp 35), type := 0, pos := "more.go:21", after := #[{ on := 7, ground := Go.Ground.data }, { on := 5, ground := Go.Ground.data }, { on := 8, ground := Go.Ground.chain }, { on := 0, ground := Go.Ground.phase }, { on := 1, ground := Go.Ground.phase }, { on := 2, ground := Go.Ground.phase }, { on := 3, ground := Go.Ground.phase }, { on := 4, ground := Go.Ground.phase }, { on := 5, ground := Go.Ground.phase }, { on := 6, ground := Go.Ground.phase }, { on := 7, ground := Go.Ground.phase }, { on := 8, ground := Go.Ground.phase }], guard := none }) rfl (by kernel_rfl) (fun K hK => ?g1ro32) ?g1rm32
          case g1rm32 => exact Go.Shr.AllReadyF.nil
          (have q7 := r7.cell 0); (have q7' := r7.cell 1); (have qf := r7.frozen); (have ql := r7.lt); (simp only [List.getElem?_toArray, List.getElem?_cons_zero, List.getElem?_cons_succ] at q7 q7'); go_simp; refine gen_w (fun W hW => ?_); (replace r7 := Rw.ren hW ((r7.set 0 _).set 1 _)); (replace r6 := Rw.ren hW ((r6.other (by simp only [ne_eq]; omega) _).other (by simp only [ne_eq]; omega) _)); (replace HB := Go.Shr.Below.ren hW ((HB.setCell (by simp only; omega) _).setCell (by simp only; omega) _)); clear hW
          refine hK.out _ _ ?_
          clear hK K
          try simp only [Act.put, List.setIfInBounds_toArray, List.set_cons_zero, List.set_cons_succ]
          refine Go.Shr.wpAnyF_done (by kernel_rfl) ?_
          go_wp2_with fail
          go_meet
          case rel => exact ⟨_, _, ⟨xn, xs⟩, ⟨yn, ys⟩, rfl, rfl, Lib.hid ⟨gx, gy⟩, Lib.hid r6, Lib.hid r7, HB⟩
        case g1rm29 =>
        exact Go.Shr.AllReadyF.nil
      case g1rm24 =>
      exact Go.Shr.AllReadyF.nil
    case g1rm5 =>
    refine Go.Shr.AllReadyF.cons 6 (o := { dst := some 8, op := Go.Op.alloc 35, type := 0, pos := "more.go:21", after := #[], guard := none }) rfl (fun K hK => ?g1ro33) ?g1rm33
    case g1ro33 =>
      (have hx4 := r4.lt); (have hx5 := r5.lt); (try have hbb := r7.lt); go_simp; refine gen_w (fun W hW => ?_); (have r6 := Rw.ren hW (Rw.fresh HB #[.int .i64 0, .string ByteArray.empty] 35)); (try replace r4 := Rw.ren hW (Rw.alloc r4 _)); (try replace r5 := Rw.ren hW (Rw.alloc r5 _)); (try replace r6 := Rw.ren hW (Rw.alloc r6 _)); (try replace r7 := Rw.ren hW (Rw.alloc r7 _)); (replace HB := Go.Shr.Below.ren hW (ba HB _)); clear hW
      refine hK.out _ _ ?g1rs33 (fun hHeld => ?g1rt33)
      case g1rs33 => (try dsimp only); (first | exact ⟨r4.drew, r5.drew⟩ | exact ⟨r4, r5⟩)
      try dsimp only at hHeld
      clear hK K
      try simp only [Act.put, List.setIfInBounds_toArray, List.set_cons_zero, List.set_cons_succ]
      refine Go.Shr.wpAnyF_ready [2, 7] (by kernel_rfl) (by simp) ?_
      refine Go.Shr.AllReadyF.cons 2 (o := { dst := some 32, op := Go.Op.call { callee := Go.Callee.value (Go.Operand.func 18), args := #[Go.Operand.tmp 30, Go.Operand.tmp 31], argTypes := #[3, 35] }, type := 35, pos := "more.go:21", after := #[{ on := 0, ground := Go.Ground.data }, { on := 1, ground := Go.Ground.data }], guard := none }) rfl (fun K hK => ?g1ro34) ?g1rm34
      case g1ro34 =>
        go_simp; refine (good_v k k3 k4 an sa _).mono ?_; rintro e w2 ⟨⟨xn, xs, rfl, gx, _⟩, hb2⟩; dsimp only; refine gen_w (fun W hW => ?_); (try replace r4 := Rw.ren hW (Rw.below r4 hb2)); (try replace r5 := Rw.ren hW (Rw.below r5 hb2)); (try replace r6 := Rw.ren hW (Rw.below r6 hb2)); (try replace r7 := Rw.ren hW (Rw.below r7 hb2)); (replace HB := Go.Shr.Below.ren hW (bt HB hb2)); clear hW
        refine hK.out _ _ ?g1rs34 (fun hHeld => ?g1rt34)
        case g1rs34 => (try dsimp only); (first | exact ⟨r4.drew, r5.drew⟩ | exact ⟨r4, r5⟩)
        try dsimp only at hHeld
        clear hK K
        try simp only [Act.put, List.setIfInBounds_toArray, List.set_cons_zero, List.set_cons_succ]
        refine Go.Shr.wpAnyF_ready [5, 7] (by kernel_rfl) (by simp) ?_
        refine Go.Shr.AllReadyF.cons 5 (o := { dst := some 35, op := Go.Op.call { callee := Go.Callee.value (Go.Operand.func 18), args := #[Go.Operand.tmp 33, Go.Operand.tmp 34], argTypes := #[3, 35] }, type := 35, pos := "more.go:21", after := #[{ on := 3, ground := Go.Ground.data }, { on := 4, ground := Go.Ground.data }, { on := 2, ground := Go.Ground.chain }], guard := none }) rfl (fun K hK => ?g1ro35) ?g1rm35
        case g1ro35 =>
          go_simp; refine (good_v k k3 k4 bn sb _).mono ?_; rintro e w5 ⟨⟨yn, ys, rfl, gy, _⟩, hb5⟩; dsimp only; refine gen_w (fun W hW => ?_); (try replace r4 := Rw.ren hW (Rw.below r4 hb5)); (try replace r5 := Rw.ren hW (Rw.below r5 hb5)); (try replace r6 := Rw.ren hW (Rw.below r6 hb5)); (try replace r7 := Rw.ren hW (Rw.below r7 hb5)); (replace HB := Go.Shr.Below.ren hW (bt HB hb5)); clear hW
          refine hK.out _ _ ?g1rs35 (fun hHeld => ?g1rt35)
          case g1rs35 => (try dsimp only); (first | exact ⟨r4.drew, r5.drew⟩ | exact ⟨r4, r5⟩)
          try dsimp only at hHeld
          clear hK K
          try simp only [Act.put, List.setIfInBounds_toArray, List.set_cons_zero, List.set_cons_succ]
          refine Go.Shr.wpAnyF_ready [7] (by kernel_rfl) (by simp) ?_
          refine Go.Shr.AllReadyF.cons 7 (o := { dst := some 9, op := Go.Op.alloc 35, type := 0, pos := "more.go:21", after := #[], guard := none }) rfl (fun K hK => ?g1ro36) ?g1rm36
          case g1rm36 => exact Go.Shr.AllReadyF.nil
          (have hy4 := r4.lt); (have hy5 := r5.lt); (try have hbb := r6.lt); go_simp; refine gen_w (fun W hW => ?_); (have r7 := Rw.ren hW (Rw.fresh HB #[.int .i64 0, .string ByteArray.empty] 35)); (try replace r4 := Rw.ren hW (Rw.alloc r4 _)); (try replace r5 := Rw.ren hW (Rw.alloc r5 _)); (try replace r6 := Rw.ren hW (Rw.alloc r6 _)); (try replace r7 := Rw.ren hW (Rw.alloc r7 _)); (replace HB := Go.Shr.Below.ren hW (ba HB _)); clear hW
          refine hK.out _ _ ?g1rs36 (fun hHeld => ?g1rt36)
          case g1rs36 => (try dsimp only); (first | exact ⟨r4.drew, r5.drew⟩ | exact ⟨r4, r5⟩)
          try dsimp only at hHeld
          clear hK K
          try simp only [Act.put, List.setIfInBounds_toArray, List.set_cons_zero, List.set_cons_succ]
          refine Go.Shr.wpAnyF_ready [8] (by kernel_rfl) (by simp) ?_
          refine Go.Shr.AllReadyF.cons 8 (o := { dst := none, op := Go.Op.store 35 (Go.Operand.tmp 8) (Go.Operand.tmp 32), type := 0, pos := "more.go:21", after := #[{ on := 6, ground := Go.Ground.data }, { on := 2, ground := Go.Ground.data }, { on := 5, ground := Go.Ground.chain }, { on := 0, ground := Go.Ground.phase }, { on := 1, ground := Go.Ground.phase }, { on := 2, ground := Go.Ground.phase }, { on := 3, ground := Go.Ground.textOnly Go.Departure.lateStores }, { on := 4, ground := Go.Ground.textOnly Go.Departure.lateStores }, { on := 5, ground := Go.Ground.textOnly Go.Departure.lateStoresUnsure }, { on := 6, ground := Go.Ground.phase }, { on := 7, ground := Go.Ground.phase }], guard := none }) rfl (fun K hK => ?g1ro37) ?g1rm37
          case g1rm37 => exact Go.Shr.AllReadyF.nil
          (have q6 := r6.cell 0); (have q6' := r6.cell 1); (have qf := r6.frozen); (have ql := r6.lt); (simp only [List.getElem?_toArray, List.getElem?_cons_zero, List.getElem?_cons_succ] at q6 q6'); go_simp; refine gen_w (fun W hW => ?_); (replace r6 := Rw.ren hW ((r6.set 0 _).set 1 _)); (replace r4 := Rw.ren hW ((r4.other (by simp only [ne_eq]; omega) _).other (by simp only [ne_eq]; omega) _)); (replace r5 := Rw.ren hW ((r5.other (by simp only [ne_eq]; omega) _).other (by simp only [ne_eq]; omega) _)); (replace r7 := Rw.ren hW ((r7.other (by simp only [ne_eq]; omega) _).other (by simp only [ne_eq]; omega) _)); (replace HB := Go.Shr.Below.ren hW ((HB.setCell (by simp only; omega) _).setCell (by simp only; omega) _)); clear hW
          refine hK.out _ _ ?g1rs37 (fun hHeld => ?g1rt37)
          case g1rs37 => (try dsimp only); (first | exact ⟨r4.drew, r5.drew⟩ | exact ⟨r4, r5⟩)
          try dsimp only at hHeld
          clear hK K
          try simp only [Act.put, List.setIfInBounds_toArray, List.set_cons_zero, List.set_cons_succ]
          refine Go.Shr.wpAnyF_ready [9] (by kernel_rfl) (by simp) ?_
          refine Go.Shr.AllReadyF.last 9 (o := { dst := none, op := Go.Op.store 35 (Go.Operand.tmp 9) (Go.Operand.tmp 35), type := 0, pos := "more.go:21", after := #[{ on := 7, ground := Go.Ground.data }, { on := 5, ground := Go.Ground.data }, { on := 8, ground := Go.Ground.chain }, { on := 0, ground := Go.Ground.phase }, { on := 1, ground := Go.Ground.phase }, { on := 2, ground := Go.Ground.phase }, { on := 3, ground := Go.Ground.phase }, { on := 4, ground := Go.Ground.phase }, { on := 5, ground := Go.Ground.phase }, { on := 6, ground := Go.Ground.phase }, { on := 7, ground := Go.Ground.phase }, { on := 8, ground := Go.Ground.phase }], guard := none }) rfl (by kernel_rfl) (fun K hK => ?g1ro38) ?g1rm38
          case g1rm38 => exact Go.Shr.AllReadyF.nil
          (have q7 := r7.cell 0); (have q7' := r7.cell 1); (have qf := r7.frozen); (have ql := r7.lt); (simp only [List.getElem?_toArray, List.getElem?_cons_zero, List.getElem?_cons_succ] at q7 q7'); go_simp; refine gen_w (fun W hW => ?_); (replace r7 := Rw.ren hW ((r7.set 0 _).set 1 _)); (replace r6 := Rw.ren hW ((r6.other (by simp only [ne_eq]; omega) _).other (by simp only [ne_eq]; omega) _)); (replace HB := Go.Shr.Below.ren hW ((HB.setCell (by simp only; omega) _).setCell (by simp only; omega) _)); clear hW
          refine hK.out _ _ ?_
          clear hK K
          try simp only [Act.put, List.setIfInBounds_toArray, List.set_cons_zero, List.set_cons_succ]
          refine Go.Shr.wpAnyF_done (by kernel_rfl) ?_
          go_wp2_with fail
          go_meet
          case rel => exact ⟨_, _, ⟨xn, xs⟩, ⟨yn, ys⟩, rfl, rfl, Lib.hid ⟨gx, gy⟩, Lib.hid r6, Lib.hid r7, HB⟩
        case g1rm35 =>
        refine Go.Shr.AllReadyF.cons 7 (o := { dst := some 9, op := Go.Op.alloc 35, type := 0, pos := "more.go:21", after := #[], guard := none }) rfl (fun K hK => ?g1ro39) ?g1rm39
        case g1ro39 =>
          (have hy4 := r4.lt); (have hy5 := r5.lt); (try have hbb := r6.lt); go_simp; refine gen_w (fun W hW => ?_); (have r7 := Rw.ren hW (Rw.fresh HB #[.int .i64 0, .string ByteArray.empty] 35)); (try replace r4 := Rw.ren hW (Rw.alloc r4 _)); (try replace r5 := Rw.ren hW (Rw.alloc r5 _)); (try replace r6 := Rw.ren hW (Rw.alloc r6 _)); (try replace r7 := Rw.ren hW (Rw.alloc r7 _)); (replace HB := Go.Shr.Below.ren hW (ba HB _)); clear hW
          refine hK.out _ _ ?g1rs39 (fun hHeld => ?g1rt39)
          case g1rs39 => (try dsimp only); (first | exact ⟨r4.drew, r5.drew⟩ | exact ⟨r4, r5⟩)
          try dsimp only at hHeld
          clear hK K
          try simp only [Act.put, List.setIfInBounds_toArray, List.set_cons_zero, List.set_cons_succ]
          refine Go.Shr.wpAnyF_ready [5] (by kernel_rfl) (by simp) ?_
          refine Go.Shr.AllReadyF.cons 5 (o := { dst := some 35, op := Go.Op.call { callee := Go.Callee.value (Go.Operand.func 18), args := #[Go.Operand.tmp 33, Go.Operand.tmp 34], argTypes := #[3, 35] }, type := 35, pos := "more.go:21", after := #[{ on := 3, ground := Go.Ground.data }, { on := 4, ground := Go.Ground.data }, { on := 2, ground := Go.Ground.chain }], guard := none }) rfl (fun K hK => ?g1ro40) ?g1rm40
          case g1rm40 => exact Go.Shr.AllReadyF.nil
          go_simp; refine (good_v k k3 k4 bn sb _).mono ?_; rintro e w5 ⟨⟨yn, ys, rfl, gy, _⟩, hb5⟩; dsimp only; refine gen_w (fun W hW => ?_); (try replace r4 := Rw.ren hW (Rw.below r4 hb5)); (try replace r5 := Rw.ren hW (Rw.below r5 hb5)); (try replace r6 := Rw.ren hW (Rw.below r6 hb5)); (try replace r7 := Rw.ren hW (Rw.below r7 hb5)); (replace HB := Go.Shr.Below.ren hW (bt HB hb5)); clear hW
          refine hK.out _ _ ?g1rs40 (fun hHeld => ?g1rt40)
          case g1rs40 => (try dsimp only); (first | exact ⟨r4.drew, r5.drew⟩ | exact ⟨r4, r5⟩)
          try dsimp only at hHeld
          clear hK K
          try simp only [Act.put, List.setIfInBounds_toArray, List.set_cons_zero, List.set_cons_succ]
          refine Go.Shr.wpAnyF_ready [8] (by kernel_rfl) (by simp) ?_
          refine Go.Shr.AllReadyF.cons 8 (o := { dst := none, op := Go.Op.store 35 (Go.Operand.tmp 8) (Go.Operand.tmp 32), type := 0, pos := "more.go:21", after := #[{ on := 6, ground := Go.Ground.data }, { on := 2, ground := Go.Ground.data }, { on := 5, ground := Go.Ground.chain }, { on := 0, ground := Go.Ground.phase }, { on := 1, ground := Go.Ground.phase }, { on := 2, ground := Go.Ground.phase }, { on := 3, ground := Go.Ground.textOnly Go.Departure.lateStores }, { on := 4, ground := Go.Ground.textOnly Go.Departure.lateStores }, { on := 5, ground := Go.Ground.textOnly Go.Departure.lateStoresUnsure }, { on := 6, ground := Go.Ground.phase }, { on := 7, ground := Go.Ground.phase }], guard := none }) rfl (fun K hK => ?g1ro41) ?g1rm41
          case g1rm41 => exact Go.Shr.AllReadyF.nil
          (have q6 := r6.cell 0); (have q6' := r6.cell 1); (have qf := r6.frozen); (have ql := r6.lt); (simp only [List.getElem?_toArray, List.getElem?_cons_zero, List.getElem?_cons_succ] at q6 q6'); go_simp; refine gen_w (fun W hW => ?_); (replace r6 := Rw.ren hW ((r6.set 0 _).set 1 _)); (replace r4 := Rw.ren hW ((r4.other (by simp only [ne_eq]; omega) _).other (by simp only [ne_eq]; omega) _)); (replace r5 := Rw.ren hW ((r5.other (by simp only [ne_eq]; omega) _).other (by simp only [ne_eq]; omega) _)); (replace r7 := Rw.ren hW ((r7.other (by simp only [ne_eq]; omega) _).other (by simp only [ne_eq]; omega) _)); (replace HB := Go.Shr.Below.ren hW ((HB.setCell (by simp only; omega) _).setCell (by simp only; omega) _)); clear hW
          refine hK.out _ _ ?g1rs41 (fun hHeld => ?g1rt41)
          case g1rs41 => (try dsimp only); (first | exact ⟨r4.drew, r5.drew⟩ | exact ⟨r4, r5⟩)
          try dsimp only at hHeld
          clear hK K
          try simp only [Act.put, List.setIfInBounds_toArray, List.set_cons_zero, List.set_cons_succ]
          refine Go.Shr.wpAnyF_ready [9] (by kernel_rfl) (by simp) ?_
          refine Go.Shr.AllReadyF.last 9 (o := { dst := none, op := Go.Op.store 35 (Go.Operand.tmp 9) (Go.Operand.tmp 35), type := 0, pos := "more.go:21", after := #[{ on := 7, ground := Go.Ground.data }, { on := 5, ground := Go.Ground.data }, { on := 8, ground := Go.Ground.chain }, { on := 0, ground := Go.Ground.phase }, { on := 1, ground := Go.Ground.phase }, { on := 2, ground := Go.Ground.phase }, { on := 3, ground := Go.Ground.phase }, { on := 4, ground := Go.Ground.phase }, { on := 5, ground := Go.Ground.phase }, { on := 6, ground := Go.Ground.phase }, { on := 7, ground := Go.Ground.phase }, { on := 8, ground := Go.Ground.phase }], guard := none }) rfl (by kernel_rfl) (fun K hK => ?g1ro42) ?g1rm42
          case g1rm42 => exact Go.Shr.AllReadyF.nil
          (have q7 := r7.cell 0); (have q7' := r7.cell 1); (have qf := r7.frozen); (have ql := r7.lt); (simp only [List.getElem?_toArray, List.getElem?_cons_zero, List.getElem?_cons_succ] at q7 q7'); go_simp; refine gen_w (fun W hW => ?_); (replace r7 := Rw.ren hW ((r7.set 0 _).set 1 _)); (replace r6 := Rw.ren hW ((r6.other (by simp only [ne_eq]; omega) _).other (by simp only [ne_eq]; omega) _)); (replace HB := Go.Shr.Below.ren hW ((HB.setCell (by simp only; omega) _).setCell (by simp only; omega) _)); clear hW
          refine hK.out _ _ ?_
          clear hK K
          try simp only [Act.put, List.setIfInBounds_toArray, List.set_cons_zero, List.set_cons_succ]
          refine Go.Shr.wpAnyF_done (by kernel_rfl) ?_
          go_wp2_with fail
          go_meet
          case rel => exact ⟨_, _, ⟨xn, xs⟩, ⟨yn, ys⟩, rfl, rfl, Lib.hid ⟨gx, gy⟩, Lib.hid r6, Lib.hid r7, HB⟩
        case g1rm39 =>
        exact Go.Shr.AllReadyF.nil
      case g1rm34 =>
      refine Go.Shr.AllReadyF.cons 7 (o := { dst := some 9, op := Go.Op.alloc 35, type := 0, pos := "more.go:21", after := #[], guard := none }) rfl (fun K hK => ?g1ro43) ?g1rm43
      case g1ro43 =>
        (have hy4 := r4.lt); (have hy5 := r5.lt); (try have hbb := r6.lt); go_simp; refine gen_w (fun W hW => ?_); (have r7 := Rw.ren hW (Rw.fresh HB #[.int .i64 0, .string ByteArray.empty] 35)); (try replace r4 := Rw.ren hW (Rw.alloc r4 _)); (try replace r5 := Rw.ren hW (Rw.alloc r5 _)); (try replace r6 := Rw.ren hW (Rw.alloc r6 _)); (try replace r7 := Rw.ren hW (Rw.alloc r7 _)); (replace HB := Go.Shr.Below.ren hW (ba HB _)); clear hW
        refine hK.out _ _ ?g1rs43 (fun hHeld => ?g1rt43)
        case g1rs43 => (try dsimp only); (first | exact ⟨r4.drew, r5.drew⟩ | exact ⟨r4, r5⟩)
        try dsimp only at hHeld
        clear hK K
        try simp only [Act.put, List.setIfInBounds_toArray, List.set_cons_zero, List.set_cons_succ]
        refine Go.Shr.wpAnyF_ready [2] (by kernel_rfl) (by simp) ?_
        refine Go.Shr.AllReadyF.cons 2 (o := { dst := some 32, op := Go.Op.call { callee := Go.Callee.value (Go.Operand.func 18), args := #[Go.Operand.tmp 30, Go.Operand.tmp 31], argTypes := #[3, 35] }, type := 35, pos := "more.go:21", after := #[{ on := 0, ground := Go.Ground.data }, { on := 1, ground := Go.Ground.data }], guard := none }) rfl (fun K hK => ?g1ro44) ?g1rm44
        case g1rm44 => exact Go.Shr.AllReadyF.nil
        go_simp; refine (good_v k k3 k4 an sa _).mono ?_; rintro e w2 ⟨⟨xn, xs, rfl, gx, _⟩, hb2⟩; dsimp only; refine gen_w (fun W hW => ?_); (try replace r4 := Rw.ren hW (Rw.below r4 hb2)); (try replace r5 := Rw.ren hW (Rw.below r5 hb2)); (try replace r6 := Rw.ren hW (Rw.below r6 hb2)); (try replace r7 := Rw.ren hW (Rw.below r7 hb2)); (replace HB := Go.Shr.Below.ren hW (bt HB hb2)); clear hW
        refine hK.out _ _ ?g1rs44 (fun hHeld => ?g1rt44)
        case g1rs44 => (try dsimp only); (first | exact ⟨r4.drew, r5.drew⟩ | exact ⟨r4, r5⟩)
        try dsimp only at hHeld
        clear hK K
        try simp only [Act.put, List.setIfInBounds_toArray, List.set_cons_zero, List.set_cons_succ]
        refine Go.Shr.wpAnyF_ready [5] (by kernel_rfl) (by simp) ?_
        refine Go.Shr.AllReadyF.cons 5 (o := { dst := some 35, op := Go.Op.call { callee := Go.Callee.value (Go.Operand.func 18), args := #[Go.Operand.tmp 33, Go.Operand.tmp 34], argTypes := #[3, 35] }, type := 35, pos := "more.go:21", after := #[{ on := 3, ground := Go.Ground.data }, { on := 4, ground := Go.Ground.data }, { on := 2, ground := Go.Ground.chain }], guard := none }) rfl (fun K hK => ?g1ro45) ?g1rm45
        case g1rm45 => exact Go.Shr.AllReadyF.nil
        go_simp; refine (good_v k k3 k4 bn sb _).mono ?_; rintro e w5 ⟨⟨yn, ys, rfl, gy, _⟩, hb5⟩; dsimp only; refine gen_w (fun W hW => ?_); (try replace r4 := Rw.ren hW (Rw.below r4 hb5)); (try replace r5 := Rw.ren hW (Rw.below r5 hb5)); (try replace r6 := Rw.ren hW (Rw.below r6 hb5)); (try replace r7 := Rw.ren hW (Rw.below r7 hb5)); (replace HB := Go.Shr.Below.ren hW (bt HB hb5)); clear hW
        refine hK.out _ _ ?g1rs45 (fun hHeld => ?g1rt45)
        case g1rs45 => (try dsimp only); (first | exact ⟨r4.drew, r5.drew⟩ | exact ⟨r4, r5⟩)
        try dsimp only at hHeld
        clear hK K
        try simp only [Act.put, List.setIfInBounds_toArray, List.set_cons_zero, List.set_cons_succ]
        refine Go.Shr.wpAnyF_ready [8] (by kernel_rfl) (by simp) ?_
        refine Go.Shr.AllReadyF.cons 8 (o := { dst := none, op := Go.Op.store 35 (Go.Operand.tmp 8) (Go.Operand.tmp 32), type := 0, pos := "more.go:21", after := #[{ on := 6, ground := Go.Ground.data }, { on := 2, ground := Go.Ground.data }, { on := 5, ground := Go.Ground.chain }, { on := 0, ground := Go.Ground.phase }, { on := 1, ground := Go.Ground.phase }, { on := 2, ground := Go.Ground.phase }, { on := 3, ground := Go.Ground.textOnly Go.Departure.lateStores }, { on := 4, ground := Go.Ground.textOnly Go.Departure.lateStores }, { on := 5, ground := Go.Ground.textOnly Go.Departure.lateStoresUnsure }, { on := 6, ground := Go.Ground.phase }, { on := 7, ground := Go.Ground.phase }], guard := none }) rfl (fun K hK => ?g1ro46) ?g1rm46
        case g1rm46 => exact Go.Shr.AllReadyF.nil
        (have q6 := r6.cell 0); (have q6' := r6.cell 1); (have qf := r6.frozen); (have ql := r6.lt); (simp only [List.getElem?_toArray, List.getElem?_cons_zero, List.getElem?_cons_succ] at q6 q6'); go_simp; refine gen_w (fun W hW => ?_); (replace r6 := Rw.ren hW ((r6.set 0 _).set 1 _)); (replace r4 := Rw.ren hW ((r4.other (by simp only [ne_eq]; omega) _).other (by simp only [ne_eq]; omega) _)); (replace r5 := Rw.ren hW ((r5.other (by simp only [ne_eq]; omega) _).other (by simp only [ne_eq]; omega) _)); (replace r7 := Rw.ren hW ((r7.other (by simp only [ne_eq]; omega) _).other (by simp only [ne_eq]; omega) _)); (replace HB := Go.Shr.Below.ren hW ((HB.setCell (by simp only; omega) _).setCell (by simp only; omega) _)); clear hW
        refine hK.out _ _ ?g1rs46 (fun hHeld => ?g1rt46)
        case g1rs46 => (try dsimp only); (first | exact ⟨r4.drew, r5.drew⟩ | exact ⟨r4, r5⟩)
        try dsimp only at hHeld
        clear hK K
        try simp only [Act.put, List.setIfInBounds_toArray, List.set_cons_zero, List.set_cons_succ]
        refine Go.Shr.wpAnyF_ready [9] (by kernel_rfl) (by simp) ?_
        refine Go.Shr.AllReadyF.last 9 (o := { dst := none, op := Go.Op.store 35 (Go.Operand.tmp 9) (Go.Operand.tmp 35), type := 0, pos := "more.go:21", after := #[{ on := 7, ground := Go.Ground.data }, { on := 5, ground := Go.Ground.data }, { on := 8, ground := Go.Ground.chain }, { on := 0, ground := Go.Ground.phase }, { on := 1, ground := Go.Ground.phase }, { on := 2, ground := Go.Ground.phase }, { on := 3, ground := Go.Ground.phase }, { on := 4, ground := Go.Ground.phase }, { on := 5, ground := Go.Ground.phase }, { on := 6, ground := Go.Ground.phase }, { on := 7, ground := Go.Ground.phase }, { on := 8, ground := Go.Ground.phase }], guard := none }) rfl (by kernel_rfl) (fun K hK => ?g1ro47) ?g1rm47
        case g1rm47 => exact Go.Shr.AllReadyF.nil
        (have q7 := r7.cell 0); (have q7' := r7.cell 1); (have qf := r7.frozen); (have ql := r7.lt); (simp only [List.getElem?_toArray, List.getElem?_cons_zero, List.getElem?_cons_succ] at q7 q7'); go_simp; refine gen_w (fun W hW => ?_); (replace r7 := Rw.ren hW ((r7.set 0 _).set 1 _)); (replace r6 := Rw.ren hW ((r6.other (by simp only [ne_eq]; omega) _).other (by simp only [ne_eq]; omega) _)); (replace HB := Go.Shr.Below.ren hW ((HB.setCell (by simp only; omega) _).setCell (by simp only; omega) _)); clear hW
        refine hK.out _ _ ?_
        clear hK K
        try simp only [Act.put, List.setIfInBounds_toArray, List.set_cons_zero, List.set_cons_succ]
        refine Go.Shr.wpAnyF_done (by kernel_rfl) ?_
        go_wp2_with fail
        go_meet
        case rel => exact ⟨_, _, ⟨xn, xs⟩, ⟨yn, ys⟩, rfl, rfl, Lib.hid ⟨gx, gy⟩, Lib.hid r6, Lib.hid r7, HB⟩
      case g1rm43 =>
      exact Go.Shr.AllReadyF.nil
    case g1rm33 =>
    refine Go.Shr.AllReadyF.cons 7 (o := { dst := some 9, op := Go.Op.alloc 35, type := 0, pos := "more.go:21", after := #[], guard := none }) rfl (fun K hK => ?g1ro48) ?g1rm48
    case g1ro48 =>
      (have hy4 := r4.lt); (have hy5 := r5.lt); (try have hbb := r6.lt); go_simp; refine gen_w (fun W hW => ?_); (have r7 := Rw.ren hW (Rw.fresh HB #[.int .i64 0, .string ByteArray.empty] 35)); (try replace r4 := Rw.ren hW (Rw.alloc r4 _)); (try replace r5 := Rw.ren hW (Rw.alloc r5 _)); (try replace r6 := Rw.ren hW (Rw.alloc r6 _)); (try replace r7 := Rw.ren hW (Rw.alloc r7 _)); (replace HB := Go.Shr.Below.ren hW (ba HB _)); clear hW
      refine hK.out _ _ ?g1rs48 (fun hHeld => ?g1rt48)
      case g1rs48 => (try dsimp only); (first | exact ⟨r4.drew, r5.drew⟩ | exact ⟨r4, r5⟩)
      try dsimp only at hHeld
      clear hK K
      try simp only [Act.put, List.setIfInBounds_toArray, List.set_cons_zero, List.set_cons_succ]
      refine Go.Shr.wpAnyF_ready [2, 6] (by kernel_rfl) (by simp) ?_
      refine Go.Shr.AllReadyF.cons 2 (o := { dst := some 32, op := Go.Op.call { callee := Go.Callee.value (Go.Operand.func 18), args := #[Go.Operand.tmp 30, Go.Operand.tmp 31], argTypes := #[3, 35] }, type := 35, pos := "more.go:21", after := #[{ on := 0, ground := Go.Ground.data }, { on := 1, ground := Go.Ground.data }], guard := none }) rfl (fun K hK => ?g1ro49) ?g1rm49
      case g1ro49 =>
        go_simp; refine (good_v k k3 k4 an sa _).mono ?_; rintro e w2 ⟨⟨xn, xs, rfl, gx, _⟩, hb2⟩; dsimp only; refine gen_w (fun W hW => ?_); (try replace r4 := Rw.ren hW (Rw.below r4 hb2)); (try replace r5 := Rw.ren hW (Rw.below r5 hb2)); (try replace r6 := Rw.ren hW (Rw.below r6 hb2)); (try replace r7 := Rw.ren hW (Rw.below r7 hb2)); (replace HB := Go.Shr.Below.ren hW (bt HB hb2)); clear hW
        refine hK.out _ _ ?g1rs49 (fun hHeld => ?g1rt49)
        case g1rs49 => (try dsimp only); (first | exact ⟨r4.drew, r5.drew⟩ | exact ⟨r4, r5⟩)
        try dsimp only at hHeld
        clear hK K
        try simp only [Act.put, List.setIfInBounds_toArray, List.set_cons_zero, List.set_cons_succ]
        refine Go.Shr.wpAnyF_ready [5, 6] (by kernel_rfl) (by simp) ?_
        refine Go.Shr.AllReadyF.cons 5 (o := { dst := some 35, op := Go.Op.call { callee := Go.Callee.value (Go.Operand.func 18), args := #[Go.Operand.tmp 33, Go.Operand.tmp 34], argTypes := #[3, 35] }, type := 35, pos := "more.go:21", after := #[{ on := 3, ground := Go.Ground.data }, { on := 4, ground := Go.Ground.data }, { on := 2, ground := Go.Ground.chain }], guard := none }) rfl (fun K hK => ?g1ro50) ?g1rm50
        case g1ro50 =>
          go_simp; refine (good_v k k3 k4 bn sb _).mono ?_; rintro e w5 ⟨⟨yn, ys, rfl, gy, _⟩, hb5⟩; dsimp only; refine gen_w (fun W hW => ?_); (try replace r4 := Rw.ren hW (Rw.below r4 hb5)); (try replace r5 := Rw.ren hW (Rw.below r5 hb5)); (try replace r6 := Rw.ren hW (Rw.below r6 hb5)); (try replace r7 := Rw.ren hW (Rw.below r7 hb5)); (replace HB := Go.Shr.Below.ren hW (bt HB hb5)); clear hW
          refine hK.out _ _ ?g1rs50 (fun hHeld => ?g1rt50)
          case g1rs50 => (try dsimp only); (first | exact ⟨r4.drew, r5.drew⟩ | exact ⟨r4, r5⟩)
          try dsimp only at hHeld
          clear hK K
          try simp only [Act.put, List.setIfInBounds_toArray, List.set_cons_zero, List.set_cons_succ]
          refine Go.Shr.wpAnyF_ready [6] (by kernel_rfl) (by simp) ?_
          refine Go.Shr.AllReadyF.cons 6 (o := { dst := some 8, op := Go.Op.alloc 35, type := 0, pos := "more.go:21", after := #[], guard := none }) rfl (fun K hK => ?g1ro51) ?g1rm51
          case g1rm51 => exact Go.Shr.AllReadyF.nil
          (have hx4 := r4.lt); (have hx5 := r5.lt); (try have hbb := r7.lt); go_simp; refine gen_w (fun W hW => ?_); (have r6 := Rw.ren hW (Rw.fresh HB #[.int .i64 0, .string ByteArray.empty] 35)); (try replace r4 := Rw.ren hW (Rw.alloc r4 _)); (try replace r5 := Rw.ren hW (Rw.alloc r5 _)); (try replace r6 := Rw.ren hW (Rw.alloc r6 _)); (try replace r7 := Rw.ren hW (Rw.alloc r7 _)); (replace HB := Go.Shr.Below.ren hW (ba HB _)); clear hW
          refine hK.out _ _ ?g1rs51 (fun hHeld => ?g1rt51)
          case g1rs51 => (try dsimp only); (first | exact ⟨r4.drew, r5.drew⟩ | exact ⟨r4, r5⟩)
          try dsimp only at hHeld
          clear hK K
          try simp only [Act.put, List.setIfInBounds_toArray, List.set_cons_zero, List.set_cons_succ]
          refine Go.Shr.wpAnyF_ready [8] (by kernel_rfl) (by simp) ?_
          refine Go.Shr.AllReadyF.cons 8 (o := { dst := none, op := Go.Op.store 35 (Go.Operand.tmp 8) (Go.Operand.tmp 32), type := 0, pos := "more.go:21", after := #[{ on := 6, ground := Go.Ground.data }, { on := 2, ground := Go.Ground.data }, { on := 5, ground := Go.Ground.chain }, { on := 0, ground := Go.Ground.phase }, { on := 1, ground := Go.Ground.phase }, { on := 2, ground := Go.Ground.phase }, { on := 3, ground := Go.Ground.textOnly Go.Departure.lateStores }, { on := 4, ground := Go.Ground.textOnly Go.Departure.lateStores }, { on := 5, ground := Go.Ground.textOnly Go.Departure.lateStoresUnsure }, { on := 6, ground := Go.Ground.phase }, { on := 7, ground := Go.Ground.phase }], guard := none }) rfl (fun K hK => ?g1ro52) ?g1rm52
          case g1rm52 => exact Go.Shr.AllReadyF.nil
          (have q6 := r6.cell 0); (have q6' := r6.cell 1); (have qf := r6.frozen); (have ql := r6.lt); (simp only [List.getElem?_toArray, List.getElem?_cons_zero, List.getElem?_cons_succ] at q6 q6'); go_simp; refine gen_w (fun W hW => ?_); (replace r6 := Rw.ren hW ((r6.set 0 _).set 1 _)); (replace r4 := Rw.ren hW ((r4.other (by simp only [ne_eq]; omega) _).other (by simp only [ne_eq]; omega) _)); (replace r5 := Rw.ren hW ((r5.other (by simp only [ne_eq]; omega) _).other (by simp only [ne_eq]; omega) _)); (replace r7 := Rw.ren hW ((r7.other (by simp only [ne_eq]; omega) _).other (by simp only [ne_eq]; omega) _)); (replace HB := Go.Shr.Below.ren hW ((HB.setCell (by simp only; omega) _).setCell (by simp only; omega) _)); clear hW
          refine hK.out _ _ ?g1rs52 (fun hHeld => ?g1rt52)
          case g1rs52 => (try dsimp only); (first | exact ⟨r4.drew, r5.drew⟩ | exact ⟨r4, r5⟩)
          try dsimp only at hHeld
          clear hK K
          try simp only [Act.put, List.setIfInBounds_toArray, List.set_cons_zero, List.set_cons_succ]
          refine Go.Shr.wpAnyF_ready [9] (by kernel_rfl) (by simp) ?_
          refine Go.Shr.AllReadyF.last 9 (o := { dst := none, op := Go.Op.store 35 (Go.Operand.tmp 9) (Go.Operand.tmp 35), type := 0, pos := "more.go:21", after := #[{ on := 7, ground := Go.Ground.data }, { on := 5, ground := Go.Ground.data }, { on := 8, ground := Go.Ground.chain }, { on := 0, ground := Go.Ground.phase }, { on := 1, ground := Go.Ground.phase }, { on := 2, ground := Go.Ground.phase }, { on := 3, ground := Go.Ground.phase }, { on := 4, ground := Go.Ground.phase }, { on := 5, ground := Go.Ground.phase }, { on := 6, ground := Go.Ground.phase }, { on := 7, ground := Go.Ground.phase }, { on := 8, ground := Go.Ground.phase }], guard := none }) rfl (by kernel_rfl) (fun K hK => ?g1ro53) ?g1rm53
          case g1rm53 => exact Go.Shr.AllReadyF.nil
          (have q7 := r7.cell 0); (have q7' := r7.cell 1); (have qf := r7.frozen); (have ql := r7.lt); (simp only [List.getElem?_toArray, List.getElem?_cons_zero, List.getElem?_cons_succ] at q7 q7'); go_simp; refine gen_w (fun W hW => ?_); (replace r7 := Rw.ren hW ((r7.set 0 _).set 1 _)); (replace r6 := Rw.ren hW ((r6.other (by simp only [ne_eq]; omega) _).other (by simp only [ne_eq]; omega) _)); (replace HB := Go.Shr.Below.ren hW ((HB.setCell (by simp only; omega) _).setCell (by simp only; omega) _)); clear hW
          refine hK.out _ _ ?_
          clear hK K
          try simp only [Act.put, List.setIfInBounds_toArray, List.set_cons_zero, List.set_cons_succ]
          refine Go.Shr.wpAnyF_done (by kernel_rfl) ?_
          go_wp2_with fail
          go_meet
          case rel => exact ⟨_, _, ⟨xn, xs⟩, ⟨yn, ys⟩, rfl, rfl, Lib.hid ⟨gx, gy⟩, Lib.hid r6, Lib.hid r7, HB⟩
        case g1rm50 =>
        refine Go.Shr.AllReadyF.cons 6 (o := { dst := some 8, op := Go.Op.alloc 35, type := 0, pos := "more.go:21", after := #[], guard := none }) rfl (fun K hK => ?g1ro54) ?g1rm54
        case g1ro54 =>
          (have hx4 := r4.lt); (have hx5 := r5.lt); (try have hbb := r7.lt); go_simp; refine gen_w (fun W hW => ?_); (have r6 := Rw.ren hW (Rw.fresh HB #[.int .i64 0, .string ByteArray.empty] 35)); (try replace r4 := Rw.ren hW (Rw.alloc r4 _)); (try replace r5 := Rw.ren hW (Rw.alloc r5 _)); (try replace r6 := Rw.ren hW (Rw.alloc r6 _)); (try replace r7 := Rw.ren hW (Rw.alloc r7 _)); (replace HB := Go.Shr.Below.ren hW (ba HB _)); clear hW
          refine hK.out _ _ ?g1rs54 (fun hHeld => ?g1rt54)
          case g1rs54 => (try dsimp only); (first | exact ⟨r4.drew, r5.drew⟩ | exact ⟨r4, r5⟩)
          try dsimp only at hHeld
          clear hK K
          try simp only [Act.put, List.setIfInBounds_toArray, List.set_cons_zero, List.set_cons_succ]
          refine Go.Shr.wpAnyF_ready [5] (by kernel_rfl) (by simp) ?_
          refine Go.Shr.AllReadyF.cons 5 (o := { dst := some 35, op := Go.Op.call { callee := Go.Callee.value (Go.Operand.func 18), args := #[Go.Operand.tmp 33, Go.Operand.tmp 34], argTypes := #[3, 35] }, type := 35, pos := "more.go:21", after := #[{ on := 3, ground := Go.Ground.data }, { on := 4, ground := Go.Ground.data }, { on := 2, ground := Go.Ground.chain }], guard := none }) rfl (fun K hK => ?g1ro55) ?g1rm55
          case g1rm55 => exact Go.Shr.AllReadyF.nil
          go_simp; refine (good_v k k3 k4 bn sb _).mono ?_; rintro e w5 ⟨⟨yn, ys, rfl, gy, _⟩, hb5⟩; dsimp only; refine gen_w (fun W hW => ?_); (try replace r4 := Rw.ren hW (Rw.below r4 hb5)); (try replace r5 := Rw.ren hW (Rw.below r5 hb5)); (try replace r6 := Rw.ren hW (Rw.below r6 hb5)); (try replace r7 := Rw.ren hW (Rw.below r7 hb5)); (replace HB := Go.Shr.Below.ren hW (bt HB hb5)); clear hW
          refine hK.out _ _ ?g1rs55 (fun hHeld => ?g1rt55)
          case g1rs55 => (try dsimp only); (first | exact ⟨r4.drew, r5.drew⟩ | exact ⟨r4, r5⟩)
          try dsimp only at hHeld
          clear hK K
          try simp only [Act.put, List.setIfInBounds_toArray, List.set_cons_zero, List.set_cons_succ]
          refine Go.Shr.wpAnyF_ready [8] (by kernel_rfl) (by simp) ?_
          refine Go.Shr.AllReadyF.cons 8 (o := { dst := none, op := Go.Op.store 35 (Go.Operand.tmp 8) (Go.Operand.tmp 32), type := 0, pos := "more.go:21", after := #[{ on := 6, ground := Go.Ground.data }, { on := 2, ground := Go.Ground.data }, { on := 5, ground := Go.Ground.chain }, { on := 0, ground := Go.Ground.phase }, { on := 1, ground := Go.Ground.phase }, { on := 2, ground := Go.Ground.phase }, { on := 3, ground := Go.Ground.textOnly Go.Departure.lateStores }, { on := 4, ground := Go.Ground.textOnly Go.Departure.lateStores }, { on := 5, ground := Go.Ground.textOnly Go.Departure.lateStoresUnsure }, { on := 6, ground := Go.Ground.phase }, { on := 7, ground := Go.Ground.phase }], guard := none }) rfl (fun K hK => ?g1ro56) ?g1rm56
          case g1rm56 => exact Go.Shr.AllReadyF.nil
          (have q6 := r6.cell 0); (have q6' := r6.cell 1); (have qf := r6.frozen); (have ql := r6.lt); (simp only [List.getElem?_toArray, List.getElem?_cons_zero, List.getElem?_cons_succ] at q6 q6'); go_simp; refine gen_w (fun W hW => ?_); (replace r6 := Rw.ren hW ((r6.set 0 _).set 1 _)); (replace r4 := Rw.ren hW ((r4.other (by simp only [ne_eq]; omega) _).other (by simp only [ne_eq]; omega) _)); (replace r5 := Rw.ren hW ((r5.other (by simp only [ne_eq]; omega) _).other (by simp only [ne_eq]; omega) _)); (replace r7 := Rw.ren hW ((r7.other (by simp only [ne_eq]; omega) _).other (by simp only [ne_eq]; omega) _)); (replace HB := Go.Shr.Below.ren hW ((HB.setCell (by simp only; omega) _).setCell (by simp only; omega) _)); clear hW
          refine hK.out _ _ ?g1rs56 (fun hHeld => ?g1rt56)
          case g1rs56 => (try dsimp only); (first | exact ⟨r4.drew, r5.drew⟩ | exact ⟨r4, r5⟩)
          try dsimp only at hHeld
          clear hK K
          try simp only [Act.put, List.setIfInBounds_toArray, List.set_cons_zero, List.set_cons_succ]
          refine Go.Shr.wpAnyF_ready [9] (by kernel_rfl) (by simp) ?_
          refine Go.Shr.AllReadyF.last 9 (o := { dst := none, op := Go.Op.store 35 (Go.Operand.tmp 9) (Go.Operand.tmp 35), type := 0, pos := "more.go:21", after := #[{ on := 7, ground := Go.Ground.data }, { on := 5, ground := Go.Ground.data }, { on := 8, ground := Go.Ground.chain }, { on := 0, ground := Go.Ground.phase }, { on := 1, ground := Go.Ground.phase }, { on := 2, ground := Go.Ground.phase }, { on := 3, ground := Go.Ground.phase }, { on := 4, ground := Go.Ground.phase }, { on := 5, ground := Go.Ground.phase }, { on := 6, ground := Go.Ground.phase }, { on := 7, ground := Go.Ground.phase }, { on := 8, ground := Go.Ground.phase }], guard := none }) rfl (by kernel_rfl) (fun K hK => ?g1ro57) ?g1rm57
          case g1rm57 => exact Go.Shr.AllReadyF.nil
          (have q7 := r7.cell 0); (have q7' := r7.cell 1); (have qf := r7.frozen); (have ql := r7.lt); (simp only [List.getElem?_toArray, List.getElem?_cons_zero, List.getElem?_cons_succ] at q7 q7'); go_simp; refine gen_w (fun W hW => ?_); (replace r7 := Rw.ren hW ((r7.set 0 _).set 1 _)); (replace r6 := Rw.ren hW ((r6.other (by simp only [ne_eq]; omega) _).other (by simp only [ne_eq]; omega) _)); (replace HB := Go.Shr.Below.ren hW ((HB.setCell (by simp only; omega) _).setCell (by simp only; omega) _)); clear hW
          refine hK.out _ _ ?_
          clear hK K
          try simp only [Act.put, List.setIfInBounds_toArray, List.set_cons_zero, List.set_cons_succ]
          refine Go.Shr.wpAnyF_done (by kernel_rfl) ?_
          go_wp2_with fail
          go_meet
          case rel => exact ⟨_, _, ⟨xn, xs⟩, ⟨yn, ys⟩, rfl, rfl, Lib.hid ⟨gx, gy⟩, Lib.hid r6, Lib.hid r7, HB⟩
        case g1rm54 =>
        exact Go.Shr.AllReadyF.nil
      case g1rm49 =>
      refine Go.Shr.AllReadyF.cons 6 (o := { dst := some 8, op := Go.Op.alloc 35, type := 0, pos := "more.go:21", after := #[], guard := none }) rfl (fun K hK => ?g1ro58) ?g1rm58
      case g1ro58 =>
        (have hx4 := r4.lt); (have hx5 := r5.lt); (try have hbb := r7.lt); go_simp; refine gen_w (fun W hW => ?_); (have r6 := Rw.ren hW (Rw.fresh HB #[.int .i64 0, .string ByteArray.empty] 35)); (try replace r4 := Rw.ren hW (Rw.alloc r4 _)); (try replace r5 := Rw.ren hW (Rw.alloc r5 _)); (try replace r6 := Rw.ren hW (Rw.alloc r6 _)); (try replace r7 := Rw.ren hW (Rw.alloc r7 _)); (replace HB := Go.Shr.Below.ren hW (ba HB _)); clear hW
        refine hK.out _ _ ?g1rs58 (fun hHeld => ?g1rt58)
        case g1rs58 => (try dsimp only); (first | exact ⟨r4.drew, r5.drew⟩ | exact ⟨r4, r5⟩)
        try dsimp only at hHeld
        clear hK K
        try simp only [Act.put, List.setIfInBounds_toArray, List.set_cons_zero, List.set_cons_succ]
        refine Go.Shr.wpAnyF_ready [2] (by kernel_rfl) (by simp) ?_
        refine Go.Shr.AllReadyF.cons 2 (o := { dst := some 32, op := Go.Op.call { callee := Go.Callee.value (Go.Operand.func 18), args := #[Go.Operand.tmp 30, Go.Operand.tmp 31], argTypes := #[3, 35] }, type := 35, pos := "more.go:21", after := #[{ on := 0, ground := Go.Ground.data }, { on := 1, ground := Go.Ground.data }], guard := none }) rfl (fun K hK => ?g1ro59) ?g1rm59
        case g1rm59 => exact Go.Shr.AllReadyF.nil
        go_simp; refine (good_v k k3 k4 an sa _).mono ?_; rintro e w2 ⟨⟨xn, xs, rfl, gx, _⟩, hb2⟩; dsimp only; refine gen_w (fun W hW => ?_); (try replace r4 := Rw.ren hW (Rw.below r4 hb2)); (try replace r5 := Rw.ren hW (Rw.below r5 hb2)); (try replace r6 := Rw.ren hW (Rw.below r6 hb2)); (try replace r7 := Rw.ren hW (Rw.below r7 hb2)); (replace HB := Go.Shr.Below.ren hW (bt HB hb2)); clear hW
        refine hK.out _ _ ?g1rs59 (fun hHeld => ?g1rt59)
        case g1rs59 => (try dsimp only); (first | exact ⟨r4.drew, r5.drew⟩ | exact ⟨r4, r5⟩)
        try dsimp only at hHeld
        clear hK K
        try simp only [Act.put, List.setIfInBounds_toArray, List.set_cons_zero, List.set_cons_succ]
        refine Go.Shr.wpAnyF_ready [5] (by kernel_rfl) (by simp) ?_
        refine Go.Shr.AllReadyF.cons 5 (o := { dst := some 35, op := Go.Op.call { callee := Go.Callee.value (Go.Operand.func 18), args := #[Go.Operand.tmp 33, Go.Operand.tmp 34], argTypes := #[3, 35] }, type := 35, pos := "more.go:21", after := #[{ on := 3, ground := Go.Ground.data }, { on := 4, ground := Go.Ground.data }, { on := 2, ground := Go.Ground.chain }], guard := none }) rfl (fun K hK => ?g1ro60) ?g1rm60
        case g1rm60 => exact Go.Shr.AllReadyF.nil
        go_simp; refine (good_v k k3 k4 bn sb _).mono ?_; rintro e w5 ⟨⟨yn, ys, rfl, gy, _⟩, hb5⟩; dsimp only; refine gen_w (fun W hW => ?_); (try replace r4 := Rw.ren hW (Rw.below r4 hb5)); (try replace r5 := Rw.ren hW (Rw.below r5 hb5)); (try replace r6 := Rw.ren hW (Rw.below r6 hb5)); (try replace r7 := Rw.ren hW (Rw.below r7 hb5)); (replace HB := Go.Shr.Below.ren hW (bt HB hb5)); clear hW
        refine hK.out _ _ ?g1rs60 (fun hHeld => ?g1rt60)
        case g1rs60 => (try dsimp only); (first | exact ⟨r4.drew, r5.drew⟩ | exact ⟨r4, r5⟩)
        try dsimp only at hHeld
        clear hK K
        try simp only [Act.put, List.setIfInBounds_toArray, List.set_cons_zero, List.set_cons_succ]
        refine Go.Shr.wpAnyF_ready [8] (by kernel_rfl) (by simp) ?_
        refine Go.Shr.AllReadyF.cons 8 (o := { dst := none, op := Go.Op.store 35 (Go.Operand.tmp 8) (Go.Operand.tmp 32), type := 0, pos := "more.go:21", after := #[{ on := 6, ground := Go.Ground.data }, { on := 2, ground := Go.Ground.data }, { on := 5, ground := Go.Ground.chain }, { on := 0, ground := Go.Ground.phase }, { on := 1, ground := Go.Ground.phase }, { on := 2, ground := Go.Ground.phase }, { on := 3, ground := Go.Ground.textOnly Go.Departure.lateStores }, { on := 4, ground := Go.Ground.textOnly Go.Departure.lateStores }, { on := 5, ground := Go.Ground.textOnly Go.Departure.lateStoresUnsure }, { on := 6, ground := Go.Ground.phase }, { on := 7, ground := Go.Ground.phase }], guard := none }) rfl (fun K hK => ?g1ro61) ?g1rm61
        case g1rm61 => exact Go.Shr.AllReadyF.nil
        (have q6 := r6.cell 0); (have q6' := r6.cell 1); (have qf := r6.frozen); (have ql := r6.lt); (simp only [List.getElem?_toArray, List.getElem?_cons_zero, List.getElem?_cons_succ] at q6 q6'); go_simp; refine gen_w (fun W hW => ?_); (replace r6 := Rw.ren hW ((r6.set 0 _).set 1 _)); (replace r4 := Rw.ren hW ((r4.other (by simp only [ne_eq]; omega) _).other (by simp only [ne_eq]; omega) _)); (replace r5 := Rw.ren hW ((r5.other (by simp only [ne_eq]; omega) _).other (by simp only [ne_eq]; omega) _)); (replace r7 := Rw.ren hW ((r7.other (by simp only [ne_eq]; omega) _).other (by simp only [ne_eq]; omega) _)); (replace HB := Go.Shr.Below.ren hW ((HB.setCell (by simp only; omega) _).setCell (by simp only; omega) _)); clear hW
        refine hK.out _ _ ?g1rs61 (fun hHeld => ?g1rt61)
        case g1rs61 => (try dsimp only); (first | exact ⟨r4.drew, r5.drew⟩ | exact ⟨r4, r5⟩)
        try dsimp only at hHeld
        clear hK K
        try simp only [Act.put, List.setIfInBounds_toArray, List.set_cons_zero, List.set_cons_succ]
        refine Go.Shr.wpAnyF_ready [9] (by kernel_rfl) (by simp) ?_
        refine Go.Shr.AllReadyF.last 9 (o := { dst := none, op := Go.Op.store 35 (Go.Operand.tmp 9) (Go.Operand.tmp 35), type := 0, pos := "more.go:21", after := #[{ on := 7, ground := Go.Ground.data }, { on := 5, ground := Go.Ground.data }, { on := 8, ground := Go.Ground.chain }, { on := 0, ground := Go.Ground.phase }, { on := 1, ground := Go.Ground.phase }, { on := 2, ground := Go.Ground.phase }, { on := 3, ground := Go.Ground.phase }, { on := 4, ground := Go.Ground.phase }, { on := 5, ground := Go.Ground.phase }, { on := 6, ground := Go.Ground.phase }, { on := 7, ground := Go.Ground.phase }, { on := 8, ground := Go.Ground.phase }], guard := none }) rfl (by kernel_rfl) (fun K hK => ?g1ro62) ?g1rm62
        case g1rm62 => exact Go.Shr.AllReadyF.nil
        (have q7 := r7.cell 0); (have q7' := r7.cell 1); (have qf := r7.frozen); (have ql := r7.lt); (simp only [List.getElem?_toArray, List.getElem?_cons_zero, List.getElem?_cons_succ] at q7 q7'); go_simp; refine gen_w (fun W hW => ?_); (replace r7 := Rw.ren hW ((r7.set 0 _).set 1 _)); (replace r6 := Rw.ren hW ((r6.other (by simp only [ne_eq]; omega) _).other (by simp only [ne_eq]; omega) _)); (replace HB := Go.Shr.Below.ren hW ((HB.setCell (by simp only; omega) _).setCell (by simp only; omega) _)); clear hW
        refine hK.out _ _ ?_
        clear hK K
        try simp only [Act.put, List.setIfInBounds_toArray, List.set_cons_zero, List.set_cons_succ]
        refine Go.Shr.wpAnyF_done (by kernel_rfl) ?_
        go_wp2_with fail
        go_meet
        case rel => exact ⟨_, _, ⟨xn, xs⟩, ⟨yn, ys⟩, rfl, rfl, Lib.hid ⟨gx, gy⟩, Lib.hid r6, Lib.hid r7, HB⟩
      case g1rm58 =>
      exact Go.Shr.AllReadyF.nil
    case g1rm48 =>
    exact Go.Shr.AllReadyF.nil
  case rest =>
    obtain ⟨b8, b9, x, y, rfl, rfl, HG, R8, R9, hb⟩ := hcut
    clear r4 r5 c0 c1 c2 c3 hl4 hl5 HB
    have q0 : wc.cell? ⟨b8, 0, none⟩ = some (.int .i64 x.n) := R8.out.cell 0
    have q1 : wc.cell? ⟨b8, 1, none⟩ = some (.string x.s) := R8.out.cell 1
    have ql := R8.out.lt
    go_upto_region 8 with fail
    obtain ⟨W, hW⟩ : ∃ W, W = (wc.alloc (.cells #[.int .i64 0, .bool true, .int .i64 x.n, .string x.s, .int .i64 x.n, .string x.s] 37)) := ⟨_, rfl⟩
    have r10 := Rw.ren hW (Rw.new wc #[.int .i64 0, .bool true, .int .i64 x.n, .string x.s, .int .i64 x.n, .string x.s] 37)
    have r8 := Rw.ren hW (R8.out.alloc _)
    have r9 := Rw.ren hW (R9.out.alloc _)
    have HB := Go.Shr.Below.ren hW (ba hb _)
    rw [← hW]
    clear hW q0 q1 hb
    generalize wc.heap.size = b10 at *
    obtain ⟨s, hs⟩ : ∃ s : St, s = ⟨0, true, x, x⟩ := ⟨_, rfl⟩
    have hX := ops_cases k x y HG.out
    rw [← hs] at hX
    have hsv : s.v = .agg #[.int .i64 0, .bool true, .int .i64 x.n, .string x.s, .int .i64 x.n, .string x.s] := by rw [hs]; rfl
    generalize hL : mayV k s 0 y = L at *
    generalize hE : mayV k s 2 y = E at *
    generalize hM : mayV k s 4 y = M at *
    generalize hLE : mayV k s 1 y = LE at *
    generalize hGE : mayV k s 3 y = GE at *
    generalize hNU : mayV k s 5 y = NU at *
    have HX := Lib.hid hX; have HSV := Lib.hid hsv; have HL := Lib.hid hL; have HE := Lib.hid hE; have HM := Lib.hid hM; have HLE := Lib.hid hLE; have HGE := Lib.hid hGE; have HNU := Lib.hid hNU
    clear hX hsv hL hE hM hLE hGE hNU hs
    have hmay : ∀ (op : Int) (W : World), Calls Try.prog 19 #[.int .i64 k, .agg #[.int .i64 0, .bool true, .int .i64 x.n, .string x.s, .int .i64 x.n, .string x.s], .int .i64 op, .agg #[.int .i64 y.n, .string y.s]] W fun e w' => e = .returned (.bool (mayV k s op y)) ∧ Below W.heap.size W w' := fun op W => by
      have := may_v k s op y W
      rw [HSV.out] at this
      exact this
    have HMAY := Lib.hid hmay; clear hmay
    refine Go.Shr.wp_region_F (fun w' => Rw w' b10 #[.int .i64 0, .bool true, .int .i64 x.n, .string x.s, .int .i64 x.n, .string x.s] 37 ∧ Rw w' b9 #[.int .i64 y.n, .string y.s] 35 ∧ Rw w' b8 #[.int .i64 x.n, .string x.s] 35) [] (by kernel_rfl) ?g2rgS (fun hHeld => ?g2rgR)
    case g2rgS => (try dsimp only); (first | exact ⟨r10.drew, r9.drew, r8.drew⟩ | exact ⟨hHeld.1.below hb1, hHeld.2.1.below hb1, hHeld.2.2.below hb1⟩ | exact ⟨hHeld.1.below hb2, hHeld.2.1.below hb2, hHeld.2.2.below hb2⟩)
    try dsimp only at hHeld
    refine Go.Shr.wpAnyF_take 0 (oi := { dst := some 39, op := Go.Op.move (Go.Operand.tmp 7), type := 3, pos := "more.go:23", after := #[], guard := none }) (v := ?g2rv1) rfl (by kernel_rfl) (fun _ _ _ h => h) (by assumption) (by rfl) ?g2ry1 ?g2rr1
    case g2ry1 => intro w hSw; (rename_i w2; obtain ⟨g10, g9, _⟩ := hSw); (have p0 := g10.cell 0); (have p1 := g10.cell 1); (have p2 := g10.cell 2); (have p3 := g10.cell 3); (have p4 := g10.cell 4); (have p5 := g10.cell 5); (have q2 := g9.cell 0); (have q3 := g9.cell 1); (simp only [List.getElem?_toArray, List.getElem?_cons_zero, List.getElem?_cons_succ] at p0 p1 p2 p3 p4 p5 q2 q3); go_simp; try with_reducible rfl
    try simp only [Act.put, List.setIfInBounds_toArray, List.set_cons_zero, List.set_cons_succ]
    refine Go.Shr.wpAnyF_take 1 (oi := { dst := some 40, op := Go.Op.load 37 (Go.Operand.tmp 10), type := 37, pos := "more.go:23", after := #[], guard := none }) (v := ?g2rv2) rfl (by kernel_rfl) (fun _ _ _ h => h) (by assumption) (by rfl) ?g2ry2 ?g2rr2
    case g2ry2 => intro w hSw; (rename_i w2; obtain ⟨g10, g9, _⟩ := hSw); (have p0 := g10.cell 0); (have p1 := g10.cell 1); (have p2 := g10.cell 2); (have p3 := g10.cell 3); (have p4 := g10.cell 4); (have p5 := g10.cell 5); (have q2 := g9.cell 0); (have q3 := g9.cell 1); (simp only [List.getElem?_toArray, List.getElem?_cons_zero, List.getElem?_cons_succ] at p0 p1 p2 p3 p4 p5 q2 q3); go_simp; try with_reducible rfl
    try simp only [Act.put, List.setIfInBounds_toArray, List.set_cons_zero, List.set_cons_succ]
    refine Go.Shr.wpAnyF_take 2 (oi := { dst := some 41, op := Go.Op.load 35 (Go.Operand.tmp 9), type := 35, pos := "more.go:23", after := #[], guard := none }) (v := ?g2rv3) rfl (by kernel_rfl) (fun _ _ _ h => h) (by assumption) (by rfl) ?g2ry3 ?g2rr3
    case g2ry3 => intro w hSw; (rename_i w2; obtain ⟨g10, g9, _⟩ := hSw); (have p0 := g10.cell 0); (have p1 := g10.cell 1); (have p2 := g10.cell 2); (have p3 := g10.cell 3); (have p4 := g10.cell 4); (have p5 := g10.cell 5); (have q2 := g9.cell 0); (have q3 := g9.cell 1); (simp only [List.getElem?_toArray, List.getElem?_cons_zero, List.getElem?_cons_succ] at p0 p1 p2 p3 p4 p5 q2 q3); go_simp; try with_reducible rfl
    try simp only [Act.put, List.setIfInBounds_toArray, List.set_cons_zero, List.set_cons_succ]
    refine Go.Shr.wpAnyF_take 4 (oi := { dst := some 43, op := Go.Op.move (Go.Operand.tmp 7), type := 3, pos := "more.go:23", after := #[], guard := none }) (v := ?g2rv4) rfl (by kernel_rfl) (fun _ _ _ h => h) (by assumption) (by rfl) ?g2ry4 ?g2rr4
    case g2ry4 => intro w hSw; (rename_i w2; obtain ⟨g10, g9, _⟩ := hSw); (have p0 := g10.cell 0); (have p1 := g10.cell 1); (have p2 := g10.cell 2); (have p3 := g10.cell 3); (have p4 := g10.cell 4); (have p5 := g10.cell 5); (have q2 := g9.cell 0); (have q3 := g9.cell 1); (simp only [List.getElem?_toArray, List.getElem?_cons_zero, List.getElem?_cons_succ] at p0 p1 p2 p3 p4 p5 q2 q3); go_simp; try with_reducible rfl
    try simp only [Act.put, List.setIfInBounds_toArray, List.set_cons_zero, List.set_cons_succ]
    refine Go.Shr.wpAnyF_take 5 (oi := { dst := some 44, op := Go.Op.load 37 (Go.Operand.tmp 10), type := 37, pos := "more.go:23", after := #[], guard := none }) (v := ?g2rv5) rfl (by kernel_rfl) (fun _ _ _ h => h) (by assumption) (by rfl) ?g2ry5 ?g2rr5
    case g2ry5 => intro w hSw; (rename_i w2; obtain ⟨g10, g9, _⟩ := hSw); (have p0 := g10.cell 0); (have p1 := g10.cell 1); (have p2 := g10.cell 2); (have p3 := g10.cell 3); (have p4 := g10.cell 4); (have p5 := g10.cell 5); (have q2 := g9.cell 0); (have q3 := g9.cell 1); (simp only [List.getElem?_toArray, List.getElem?_cons_zero, List.getElem?_cons_succ] at p0 p1 p2 p3 p4 p5 q2 q3); go_simp; try with_reducible rfl
    try simp only [Act.put, List.setIfInBounds_toArray, List.set_cons_zero, List.set_cons_succ]
    refine Go.Shr.wpAnyF_take 6 (oi := { dst := some 45, op := Go.Op.load 35 (Go.Operand.tmp 9), type := 35, pos := "more.go:23", after := #[], guard := none }) (v := ?g2rv6) rfl (by kernel_rfl) (fun _ _ _ h => h) (by assumption) (by rfl) ?g2ry6 ?g2rr6
    case g2ry6 => intro w hSw; (rename_i w2; obtain ⟨g10, g9, _⟩ := hSw); (have p0 := g10.cell 0); (have p1 := g10.cell 1); (have p2 := g10.cell 2); (have p3 := g10.cell 3); (have p4 := g10.cell 4); (have p5 := g10.cell 5); (have q2 := g9.cell 0); (have q3 := g9.cell 1); (simp only [List.getElem?_toArray, List.getElem?_cons_zero, List.getElem?_cons_succ] at p0 p1 p2 p3 p4 p5 q2 q3); go_simp; try with_reducible rfl
    try simp only [Act.put, List.setIfInBounds_toArray, List.set_cons_zero, List.set_cons_succ]
    refine Go.Shr.wpAnyF_ready [3] (by kernel_rfl) (by simp) ?_
    refine Go.Shr.AllReadyF.cons 3 (o := { dst := some 42, op := Go.Op.call { callee := Go.Callee.value (Go.Operand.func 19), args := #[Go.Operand.tmp 39, Go.Operand.tmp 40, Go.Operand.const (Go.Value.int Go.IntKind.i64 0), Go.Operand.tmp 41], argTypes := #[3, 37, 3, 35] }, type := 4, pos := "more.go:23", after := #[{ on := 0, ground := Go.Ground.data }, { on := 1, ground := Go.Ground.data }, { on := 2, ground := Go.Ground.data }], guard := none }) rfl (fun K hK => ?g2ro7) ?g2rm7
    case g2rm7 => exact Go.Shr.AllReadyF.nil
    go_simp; refine (HMAY.out _ _).mono ?_; rintro e w2 ⟨rfl, hb1⟩; rw [HL.out]; dsimp only
    refine hK.out _ _ ?g2rs7 (fun hHeld => ?g2rt7)
    case g2rs7 => (try dsimp only); (first | exact ⟨r10.drew, r9.drew, r8.drew⟩ | exact ⟨hHeld.1.below hb1, hHeld.2.1.below hb1, hHeld.2.2.below hb1⟩ | exact ⟨hHeld.1.below hb2, hHeld.2.1.below hb2, hHeld.2.2.below hb2⟩)
    try dsimp only at hHeld
    clear hK K
    try simp only [Act.put, List.setIfInBounds_toArray, List.set_cons_zero, List.set_cons_succ]
    refine Go.Shr.wpAnyF_ready [7] (by kernel_rfl) (by simp) ?_
    refine Go.Shr.AllReadyF.cons 7 (o := { dst := some 46, op := Go.Op.call { callee := Go.Callee.value (Go.Operand.func 19), args := #[Go.Operand.tmp 43, Go.Operand.tmp 44, Go.Operand.const (Go.Value.int Go.IntKind.i64 2), Go.Operand.tmp 45], argTypes := #[3, 37, 3, 35] }, type := 4, pos := "more.go:23", after := #[{ on := 4, ground := Go.Ground.data }, { on := 5, ground := Go.Ground.data }, { on := 6, ground := Go.Ground.data }, { on := 3, ground := Go.Ground.chain }], guard := none }) rfl (fun K hK => ?g2ro8) ?g2rm8
    case g2rm8 => exact Go.Shr.AllReadyF.nil
    go_simp; refine (HMAY.out _ _).mono ?_; rintro e w3 ⟨rfl, hb2⟩; rw [HE.out]; dsimp only
    refine hK.out _ _ ?g2rs8 (fun hHeld => ?g2rt8)
    case g2rs8 => (try dsimp only); (first | exact ⟨r10.drew, r9.drew, r8.drew⟩ | exact ⟨hHeld.1.below hb1, hHeld.2.1.below hb1, hHeld.2.2.below hb1⟩ | exact ⟨hHeld.1.below hb2, hHeld.2.1.below hb2, hHeld.2.2.below hb2⟩)
    try dsimp only at hHeld
    clear hK K
    try simp only [Act.put, List.setIfInBounds_toArray, List.set_cons_zero, List.set_cons_succ]
    refine Go.Shr.wpAnyF_take 8 (oi := { dst := some 11, op := Go.Op.assign (Go.Operand.tmp 42), type := 4, pos := "more.go:23", after := #[{ on := 3, ground := Go.Ground.data }, { on := 7, ground := Go.Ground.chain }, { on := 0, ground := Go.Ground.phase }, { on := 1, ground := Go.Ground.phase }, { on := 2, ground := Go.Ground.phase }, { on := 3, ground := Go.Ground.phase }, { on := 4, ground := Go.Ground.textOnly Go.Departure.lateStores }, { on := 5, ground := Go.Ground.textOnly Go.Departure.lateStores }, { on := 6, ground := Go.Ground.textOnly Go.Departure.lateStores }, { on := 7, ground := Go.Ground.textOnly Go.Departure.lateStoresUnsure }], guard := none }) (v := ?g2rv9) rfl (by kernel_rfl) (fun _ _ _ h => h) (by assumption) (by rfl) ?g2ry9 ?g2rr9
    case g2ry9 => intro w hSw; (rename_i w2; obtain ⟨g10, g9, _⟩ := hSw); (have p0 := g10.cell 0); (have p1 := g10.cell 1); (have p2 := g10.cell 2); (have p3 := g10.cell 3); (have p4 := g10.cell 4); (have p5 := g10.cell 5); (have q2 := g9.cell 0); (have q3 := g9.cell 1); (simp only [List.getElem?_toArray, List.getElem?_cons_zero, List.getElem?_cons_succ] at p0 p1 p2 p3 p4 p5 q2 q3); go_simp; try with_reducible rfl
    try simp only [Act.put, List.setIfInBounds_toArray, List.set_cons_zero, List.set_cons_succ]
    refine Go.Shr.wpAnyF_take 9 (oi := { dst := some 12, op := Go.Op.assign (Go.Operand.tmp 46), type := 4, pos := "more.go:23", after := #[{ on := 7, ground := Go.Ground.data }, { on := 8, ground := Go.Ground.chain }, { on := 0, ground := Go.Ground.phase }, { on := 1, ground := Go.Ground.phase }, { on := 2, ground := Go.Ground.phase }, { on := 3, ground := Go.Ground.phase }, { on := 4, ground := Go.Ground.phase }, { on := 5, ground := Go.Ground.phase }, { on := 6, ground := Go.Ground.phase }, { on := 7, ground := Go.Ground.phase }, { on := 8, ground := Go.Ground.phase }], guard := none }) (v := ?g2rv10) rfl (by kernel_rfl) (fun _ _ _ h => h) (by assumption) (by rfl) ?g2ry10 ?g2rr10
    case g2ry10 => intro w hSw; (rename_i w2; obtain ⟨g10, g9, _⟩ := hSw); (have p0 := g10.cell 0); (have p1 := g10.cell 1); (have p2 := g10.cell 2); (have p3 := g10.cell 3); (have p4 := g10.cell 4); (have p5 := g10.cell 5); (have q2 := g9.cell 0); (have q3 := g9.cell 1); (simp only [List.getElem?_toArray, List.getElem?_cons_zero, List.getElem?_cons_succ] at p0 p1 p2 p3 p4 p5 q2 q3); go_simp; try with_reducible rfl
    try simp only [Act.put, List.setIfInBounds_toArray, List.set_cons_zero, List.set_cons_succ]
    refine Go.Shr.wpAnyF_done (by kernel_rfl) ?_
    have HBw3 : Below w.heap.size w w3 := bt (bt HB.drew hb1) hb2
    clear r8 r9 r10 HB hb1 hb2
    obtain ⟨r10, r9, r8⟩ := hHeld
    have q0 : w3.cell? ⟨b8, 0, none⟩ = some (.int .i64 x.n) := r8.cell 0
    have q1 : w3.cell? ⟨b8, 1, none⟩ = some (.string x.s) := r8.cell 1
    have q2 : w3.cell? ⟨b9, 0, none⟩ = some (.int .i64 y.n) := r9.cell 0
    have q3 : w3.cell? ⟨b9, 1, none⟩ = some (.string y.s) := r9.cell 1
    have p0 : w3.cell? ⟨b10, 0, none⟩ = some (.int .i64 0) := r10.cell 0
    have p1 : w3.cell? ⟨b10, 1, none⟩ = some (.bool true) := r10.cell 1
    have p2 : w3.cell? ⟨b10, 2, none⟩ = some (.int .i64 x.n) := r10.cell 2
    have p3 : w3.cell? ⟨b10, 3, none⟩ = some (.string x.s) := r10.cell 3
    have p4 : w3.cell? ⟨b10, 4, none⟩ = some (.int .i64 x.n) := r10.cell 4
    have p5 : w3.cell? ⟨b10, 5, none⟩ = some (.string x.s) := r10.cell 5
    clear r8 r9 r10 hHeld
    go_wp2_with fail
    refine (HMAY.out _ _).mono ?_
    rintro e w4 ⟨rfl, hb4⟩
    rw [HM.out]
    have HB4 := Lib.hid (bt HBw3 hb4)
    obtain ⟨hc4, hf4⟩ := bcell hb4
    have z8 : b8 < w3.heap.size := World.block_lt_of_cell? w3 _ q0
    have z9 : b9 < w3.heap.size := World.block_lt_of_cell? w3 _ q2
    have z10 : b10 < w3.heap.size := World.block_lt_of_cell? w3 _ p0
    replace q0 := (hc4 b8 0 z8).trans q0
    replace q1 := (hc4 b8 1 z8).trans q1
    replace q2 := (hc4 b9 0 z9).trans q2
    replace q3 := (hc4 b9 1 z9).trans q3
    replace p0 := (hc4 b10 0 z10).trans p0
    replace p1 := (hc4 b10 1 z10).trans p1
    replace p2 := (hc4 b10 2 z10).trans p2
    replace p3 := (hc4 b10 3 z10).trans p3
    replace p4 := (hc4 b10 4 z10).trans p4
    replace p5 := (hc4 b10 5 z10).trans p5
    clear hc4 hf4 z8 z9 z10 hb4 HBw3 ql HM HL HE
    obtain ⟨xn, xs⟩ := x
    obtain ⟨yn, ys⟩ := y
    simp only at HMAY HX q0 q1 q2 q3 p2 p3 p4 p5 ⊢
    clear HG HSV
    have fin : ∀ (W : World) {L M LE GE NU : Bool} {b : Bool}, Hid (mayV k s 1 ⟨yn, ys⟩ = LE) → Hid (mayV k s 3 ⟨yn, ys⟩ = GE) → Hid (mayV k s 5 ⟨yn, ys⟩ = NU) → b = true → True := fun _ _ _ _ _ _ _ _ _ _ _ => trivial
    clear fin
    rcases HX.out with ⟨rfl, rfl, rfl, rfl, rfl, rfl, hne⟩ | ⟨rfl, rfl, rfl, rfl, rfl, rfl, hne1, hne2⟩ | ⟨rfl, rfl, rfl, rfl, rfl, rfl, hne⟩
    · clear HX
      by_cases hn : xn = yn
      · subst hn
        have hs : (xs.toList == ys.toList) = false := beq_eq_false_iff_ne.2 (fun h => hne ⟨rfl, h⟩)
        have hs2 : ¬ xs.toList = ys.toList := fun h => hne ⟨rfl, h⟩
        clear hne
        go_wp2_with fail
        refine (HMAY.out _ _).mono ?_
        rintro e w5 ⟨rfl, hb5⟩
        rw [HLE.out]
        have HB5 := Lib.hid (bt HB4.out hb5)
        obtain ⟨hc4, hf4⟩ := bcell hb5
        have z9 : b9 < w4.heap.size := World.block_lt_of_cell? w4 _ q2
        have z10 : b10 < w4.heap.size := World.block_lt_of_cell? w4 _ p0
        replace q2 := (hc4 b9 0 z9).trans q2
        replace q3 := (hc4 b9 1 z9).trans q3
        replace p0 := (hc4 b10 0 z10).trans p0
        replace p1 := (hc4 b10 1 z10).trans p1
        replace p2 := (hc4 b10 2 z10).trans p2
        replace p3 := (hc4 b10 3 z10).trans p3
        replace p4 := (hc4 b10 4 z10).trans p4
        replace p5 := (hc4 b10 5 z10).trans p5
        clear hc4 hf4 z9 z10 hb5 q0 q1
        go_wp2_with fail
        refine (HMAY.out _ _).mono ?_
        rintro e w6 ⟨rfl, hb5⟩
        rw [HGE.out]
        have HB6 := Lib.hid (bt HB5.out hb5)
        obtain ⟨hc4, hf4⟩ := bcell hb5
        have z9 : b9 < w5.heap.size := World.block_lt_of_cell? w5 _ q2
        have z10 : b10 < w5.heap.size := World.block_lt_of_cell? w5 _ p0
        replace q2 := (hc4 b9 0 z9).trans q2
        replace q3 := (hc4 b9 1 z9).trans q3
        replace p0 := (hc4 b10 0 z10).trans p0
        replace p1 := (hc4 b10 1 z10).trans p1
        replace p2 := (hc4 b10 2 z10).trans p2
        replace p3 := (hc4 b10 3 z10).trans p3
        replace p4 := (hc4 b10 4 z10).trans p4
        replace p5 := (hc4 b10 5 z10).trans p5
        clear hc4 hf4 z9 z10 hb5
        go_wp2_with fail
        refine (HMAY.out _ _).mono ?_
        rintro e w7 ⟨rfl, hb5⟩
        rw [HNU.out]
        have HB7 := Lib.hid (bt HB6.out hb5)
        clear hb5
        go_wp2_with fail
        go_ret
        exact ⟨rfl, HB7.out⟩
      · have hs : (xn == yn) = false := beq_eq_false_iff_ne.2 hn
        clear hne
        go_wp2_with fail
        refine (HMAY.out _ _).mono ?_
        rintro e w5 ⟨rfl, hb5⟩
        rw [HLE.out]
        have HB5 := Lib.hid (bt HB4.out hb5)
        obtain ⟨hc4, hf4⟩ := bcell hb5
        have z9 : b9 < w4.heap.size := World.block_lt_of_cell? w4 _ q2
        have z10 : b10 < w4.heap.size := World.block_lt_of_cell? w4 _ p0
        replace q2 := (hc4 b9 0 z9).trans q2
        replace q3 := (hc4 b9 1 z9).trans q3
        replace p0 := (hc4 b10 0 z10).trans p0
        replace p1 := (hc4 b10 1 z10).trans p1
        replace p2 := (hc4 b10 2 z10).trans p2
        replace p3 := (hc4 b10 3 z10).trans p3
        replace p4 := (hc4 b10 4 z10).trans p4
        replace p5 := (hc4 b10 5 z10).trans p5
        clear hc4 hf4 z9 z10 hb5 q0 q1
        go_wp2_with fail
        refine (HMAY.out _ _).mono ?_
        rintro e w6 ⟨rfl, hb5⟩
        rw [HGE.out]
        have HB6 := Lib.hid (bt HB5.out hb5)
        obtain ⟨hc4, hf4⟩ := bcell hb5
        have z9 : b9 < w5.heap.size := World.block_lt_of_cell? w5 _ q2
        have z10 : b10 < w5.heap.size := World.block_lt_of_cell? w5 _ p0
        replace q2 := (hc4 b9 0 z9).trans q2
        replace q3 := (hc4 b9 1 z9).trans q3
        replace p0 := (hc4 b10 0 z10).trans p0
        replace p1 := (hc4 b10 1 z10).trans p1
        replace p2 := (hc4 b10 2 z10).trans p2
        replace p3 := (hc4 b10 3 z10).trans p3
        replace p4 := (hc4 b10 4 z10).trans p4
        replace p5 := (hc4 b10 5 z10).trans p5
        clear hc4 hf4 z9 z10 hb5
        go_wp2_with fail
        refine (HMAY.out _ _).mono ?_
        rintro e w7 ⟨rfl, hb5⟩
        rw [HNU.out]
        have HB7 := Lib.hid (bt HB6.out hb5)
        clear hb5
        go_wp2_with fail
        go_ret
        exact ⟨rfl, HB7.out⟩
    · obtain rfl : xn = yn := hne1
      obtain rfl : xs = ys := toList_inj hne2
      clear HX hne2
      go_wp2_with fail
      refine (HMAY.out _ _).mono ?_
      rintro e w5 ⟨rfl, hb5⟩
      rw [HLE.out]
      have HB5 := Lib.hid (bt HB4.out hb5)
      obtain ⟨hc4, hf4⟩ := bcell hb5
      have z9 : b9 < w4.heap.size := World.block_lt_of_cell? w4 _ q2
      have z10 : b10 < w4.heap.size := World.block_lt_of_cell? w4 _ p0
      replace q2 := (hc4 b9 0 z9).trans q2
      replace q3 := (hc4 b9 1 z9).trans q3
      replace p0 := (hc4 b10 0 z10).trans p0
      replace p1 := (hc4 b10 1 z10).trans p1
      replace p2 := (hc4 b10 2 z10).trans p2
      replace p3 := (hc4 b10 3 z10).trans p3
      replace p4 := (hc4 b10 4 z10).trans p4
      replace p5 := (hc4 b10 5 z10).trans p5
      clear hc4 hf4 z9 z10 hb5 q0 q1
      go_wp2_with fail
      refine (HMAY.out _ _).mono ?_
      rintro e w6 ⟨rfl, hb5⟩
      rw [HGE.out]
      have HB6 := Lib.hid (bt HB5.out hb5)
      obtain ⟨hc4, hf4⟩ := bcell hb5
      have z9 : b9 < w5.heap.size := World.block_lt_of_cell? w5 _ q2
      have z10 : b10 < w5.heap.size := World.block_lt_of_cell? w5 _ p0
      replace q2 := (hc4 b9 0 z9).trans q2
      replace q3 := (hc4 b9 1 z9).trans q3
      replace p0 := (hc4 b10 0 z10).trans p0
      replace p1 := (hc4 b10 1 z10).trans p1
      replace p2 := (hc4 b10 2 z10).trans p2
      replace p3 := (hc4 b10 3 z10).trans p3
      replace p4 := (hc4 b10 4 z10).trans p4
      replace p5 := (hc4 b10 5 z10).trans p5
      clear hc4 hf4 z9 z10 hb5
      go_wp2_with fail
      refine (HMAY.out _ _).mono ?_
      rintro e w7 ⟨rfl, hb5⟩
      rw [HNU.out]
      have HB7 := Lib.hid (bt HB6.out hb5)
      clear hb5
      go_wp2_with fail
      go_ret
      exact ⟨rfl, HB7.out⟩
    · clear HX
      by_cases hn : xn = yn
      · subst hn
        have hs : (xs.toList == ys.toList) = false := beq_eq_false_iff_ne.2 (fun h => hne ⟨rfl, h⟩)
        have hs2 : ¬ xs.toList = ys.toList := fun h => hne ⟨rfl, h⟩
        clear hne
        go_wp2_with fail
        refine (HMAY.out _ _).mono ?_
        rintro e w5 ⟨rfl, hb5⟩
        rw [HLE.out]
        have HB5 := Lib.hid (bt HB4.out hb5)
        obtain ⟨hc4, hf4⟩ := bcell hb5
        have z9 : b9 < w4.heap.size := World.block_lt_of_cell? w4 _ q2
        have z10 : b10 < w4.heap.size := World.block_lt_of_cell? w4 _ p0
        replace q2 := (hc4 b9 0 z9).trans q2
        replace q3 := (hc4 b9 1 z9).trans q3
        replace p0 := (hc4 b10 0 z10).trans p0
        replace p1 := (hc4 b10 1 z10).trans p1
        replace p2 := (hc4 b10 2 z10).trans p2
        replace p3 := (hc4 b10 3 z10).trans p3
        replace p4 := (hc4 b10 4 z10).trans p4
        replace p5 := (hc4 b10 5 z10).trans p5
        clear hc4 hf4 z9 z10 hb5 q0 q1
        go_wp2_with fail
        refine (HMAY.out _ _).mono ?_
        rintro e w6 ⟨rfl, hb5⟩
        rw [HGE.out]
        have HB6 := Lib.hid (bt HB5.out hb5)
        obtain ⟨hc4, hf4⟩ := bcell hb5
        have z9 : b9 < w5.heap.size := World.block_lt_of_cell? w5 _ q2
        have z10 : b10 < w5.heap.size := World.block_lt_of_cell? w5 _ p0
        replace q2 := (hc4 b9 0 z9).trans q2
        replace q3 := (hc4 b9 1 z9).trans q3
        replace p0 := (hc4 b10 0 z10).trans p0
        replace p1 := (hc4 b10 1 z10).trans p1
        replace p2 := (hc4 b10 2 z10).trans p2
        replace p3 := (hc4 b10 3 z10).trans p3
        replace p4 := (hc4 b10 4 z10).trans p4
        replace p5 := (hc4 b10 5 z10).trans p5
        clear hc4 hf4 z9 z10 hb5
        go_wp2_with fail
        refine (HMAY.out _ _).mono ?_
        rintro e w7 ⟨rfl, hb5⟩
        rw [HNU.out]
        have HB7 := Lib.hid (bt HB6.out hb5)
        clear hb5
        go_wp2_with fail
        go_ret
        exact ⟨rfl, HB7.out⟩
      · have hs : (xn == yn) = false := beq_eq_false_iff_ne.2 hn
        clear hne
        go_wp2_with fail
        refine (HMAY.out _ _).mono ?_
        rintro e w5 ⟨rfl, hb5⟩
        rw [HLE.out]
        have HB5 := Lib.hid (bt HB4.out hb5)
        obtain ⟨hc4, hf4⟩ := bcell hb5
        have z9 : b9 < w4.heap.size := World.block_lt_of_cell? w4 _ q2
        have z10 : b10 < w4.heap.size := World.block_lt_of_cell? w4 _ p0
        replace q2 := (hc4 b9 0 z9).trans q2
        replace q3 := (hc4 b9 1 z9).trans q3
        replace p0 := (hc4 b10 0 z10).trans p0
        replace p1 := (hc4 b10 1 z10).trans p1
        replace p2 := (hc4 b10 2 z10).trans p2
        replace p3 := (hc4 b10 3 z10).trans p3
        replace p4 := (hc4 b10 4 z10).trans p4
        replace p5 := (hc4 b10 5 z10).trans p5
        clear hc4 hf4 z9 z10 hb5 q0 q1
        go_wp2_with fail
        refine (HMAY.out _ _).mono ?_
        rintro e w6 ⟨rfl, hb5⟩
        rw [HGE.out]
        have HB6 := Lib.hid (bt HB5.out hb5)
        obtain ⟨hc4, hf4⟩ := bcell hb5
        have z9 : b9 < w5.heap.size := World.block_lt_of_cell? w5 _ q2
        have z10 : b10 < w5.heap.size := World.block_lt_of_cell? w5 _ p0
        replace q2 := (hc4 b9 0 z9).trans q2
        replace q3 := (hc4 b9 1 z9).trans q3
        replace p0 := (hc4 b10 0 z10).trans p0
        replace p1 := (hc4 b10 1 z10).trans p1
        replace p2 := (hc4 b10 2 z10).trans p2
        replace p3 := (hc4 b10 3 z10).trans p3
        replace p4 := (hc4 b10 4 z10).trans p4
        replace p5 := (hc4 b10 5 z10).trans p5
        clear hc4 hf4 z9 z10 hb5
        go_wp2_with fail
        refine (HMAY.out _ _).mono ?_
        rintro e w7 ⟨rfl, hb5⟩
        rw [HNU.out]
        have HB7 := Lib.hid (bt HB6.out hb5)
        clear hb5
        go_wp2_with fail
        go_ret
        exact ⟨rfl, HB7.out⟩
end Go.Proofs.Ytnmlngpkhlafgaa
