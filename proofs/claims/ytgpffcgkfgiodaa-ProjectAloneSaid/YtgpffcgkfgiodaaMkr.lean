/-
  The walks of chapter 8's maker of records.
-/
import Derived.Test.YtgpffcgkfgiodaaMkrP
import Derived.Test.YtgpffcgkfgiodaaMk
import Derived.Test.YtgpffcgkfgiodaaW8
set_option linter.unusedSimpArgs false
namespace Go.Proofs.Ytgpffcgkfgiodaa
open Go.RowKit Go.Shr
/-- A maker that has come to a number. -/
structure MC where
  M : Nat
  sa : Option Addr
  pa : Option Addr
  na : Option Addr
  sc : Nat
  pc : Nat
  nc : Nat
structure Mkr (w : World) (c : MC) (l : List Fl) (P ns : List Int) (k : Nat) : Prop where
  rw : Rw w c.M #[.slice c.sa l.length c.sc, .slice c.pa l.length c.pc, .slice c.na ns.length c.nc, .int .i64 (k : Int)] 71
  s : Sl (fun b => b < c.M) w 4 c.sa l.length c.sc (fls l)
  p : Sl (fun b => b < c.M) w 1 c.pa l.length c.pc (ints P)
  n : Sl (fun b => b < c.M) w 1 c.na ns.length c.nc (ints ns)
  lt : k ≤ ns.length
section
variable {w w' : World} {c : MC} {l : List Fl} {P ns : List Int} {k : Nat}
theorem Mkr.chg {S : Nat → Prop} (h : Mkr w c l P ns k) (hc : Chg S w w') (hn : ∀ k, k ≤ c.M → ¬ S k) : Mkr w' c l P ns k :=
  ⟨h.rw.chg hc (hn c.M (Nat.le_refl _)), h.s.chg hc (fun k hk => hn k (Nat.le_of_lt hk)), h.p.chg hc (fun k hk => hn k (Nat.le_of_lt hk)), h.n.chg hc (fun k hk => hn k (Nat.le_of_lt hk)), h.lt⟩
theorem Mkr.below (h : Mkr w c l P ns k) (hb : Below w.heap.size w w') : Mkr w' c l P ns k := h.chg (Chg.ofBelow hb) (fun k hk h2 => by have := h.rw.lt; omega)
theorem Mkr.drew (h : Mkr w c l P ns k) : Mkr w.drew c l P ns k := h.below (Below.refl _ _).drew
theorem Mkr.put (h : Mkr w c l P ns k) {j : Nat} (hj : j ≤ ns.length) : Mkr (w.setCell ⟨c.M, 3, none⟩ (.int .i64 (j : Int))) c l P ns j := by
  have hc : Chg (fun b => b = c.M) w (w.setCell ⟨c.M, 3, none⟩ (.int .i64 (j : Int))) := (Chg.refl (fun b => b = c.M) w).setCell (p := ⟨c.M, 3, none⟩) (.inr rfl) _
  exact ⟨h.rw.set 3 _, h.s.chg hc (fun k hk => by omega), h.p.chg hc (fun k hk => by omega), h.n.chg hc (fun k hk => by omega), hj⟩
end
set_option maxHeartbeats 1000000 in
theorem next_v {c : MC} {l : List Fl} {P ns : List Int} {k : Nat} (w : World) (h : Mkr w c l P ns k) :
    Calls Try.prog 48 #[.pointer (some ⟨c.M, 0, none⟩)] w fun e w' => e = .returned (.int .i64 (ns.getD k 0)) ∧ Mkr w' c l P ns (nextA ns k) ∧ Chg (fun b => b = c.M) w w' := by
  obtain ⟨M, sa, pa, na, sc, pc, nc⟩ := c
  have hr := h.rw
  have hkl := h.lt
  have hmx := Nat.le_trans h.n.le h.n.max
  unfold maxLen at hmx
  dsimp only at *
  have H := Lib.hid h
  by_cases hk : k < ns.length
  · have hE : Hid (nextA ns k = k + 1) := Lib.hid (by unfold nextA; rw [if_pos hk])
    have hG : Hid (ns.getD k 0 = ns[k]) := Lib.hid (by rw [List.getD_eq_getElem?_getD, List.getElem?_eq_getElem hk]; rfl)
    have HP := Lib.hid (h.put (j := k + 1) hk)
    obtain ⟨b, off, rfl, hb, hc⟩ := h.n.pos (by omega)
    have c0 := hc _ _ (ints_get ns k hk)
    generalize ns[k] = x at *
    have hlt := hr.lt
    have hfr := hr.frozen
    have q3 : w.cell? ⟨M, 3, none⟩ = some (.int .i64 (k : Int)) := hr.cell 3
    clear h hc
    have HR := Lib.hid hr; clear hr
    have hkk : ((k : Int) < (ns.length : Int)) := by omega
    generalize hnl : ns.length = n at *
    have HNL := Lib.hid hnl; clear hnl
    go_enter Try.func48, Try.ntmps48
    go_wp2_with fail
    refine Go.Shr.wp_region_F (fun w' => w'.cell? ⟨M, 3, none⟩ = some (.int .i64 (k : Int)) ∧ w'.cell? ⟨M, 2, none⟩ = some (.slice (some ⟨b, off, none⟩) n nc)) [9] (by kernel_rfl) ?g2rgS (fun hHeld => ?g2rgR)
    case g2rgS => (try dsimp only); (exact ⟨q3, HR.out.cell 2⟩)
    try dsimp only at hHeld
    refine Go.Shr.wpAnyF_take 0 (oi := { dst := some 3, op := Go.Op.move (Go.Operand.tmp 0), type := 69, pos := "law.go:37", after := #[], guard := none }) (v := ?g2rv1) rfl (by kernel_rfl) (fun _ _ _ h => h) (by assumption) (by rfl) ?g2ry1 ?g2rr1
    case g2ry1 => intro w hSw; obtain ⟨g1, g2⟩ := hSw; go_simp; try with_reducible rfl
    try simp only [Act.put, List.setIfInBounds_toArray, List.set_cons_zero, List.set_cons_succ]
    refine Go.Shr.wpAnyF_take 1 (oi := { dst := some 4, op := Go.Op.nilCheck (Go.Operand.tmp 3), type := 0, pos := "law.go:37", after := #[{ on := 0, ground := Go.Ground.data }], guard := none }) (v := ?g2rv2) rfl (by kernel_rfl) (fun _ _ _ h => h) (by assumption) (by rfl) ?g2ry2 ?g2rr2
    case g2ry2 => intro w hSw; obtain ⟨g1, g2⟩ := hSw; go_simp; try with_reducible rfl
    try simp only [Act.put, List.setIfInBounds_toArray, List.set_cons_zero, List.set_cons_succ]
    refine Go.Shr.wpAnyF_take 2 (oi := { dst := some 5, op := Go.Op.fieldAddr 71 (Go.Operand.tmp 4) 3, type := 0, pos := "law.go:37", after := #[{ on := 1, ground := Go.Ground.data }], guard := none }) (v := ?g2rv3) rfl (by kernel_rfl) (fun _ _ _ h => h) (by assumption) (by rfl) ?g2ry3 ?g2rr3
    case g2ry3 => intro w hSw; obtain ⟨g1, g2⟩ := hSw; go_simp; try with_reducible rfl
    try simp only [Act.put, List.setIfInBounds_toArray, List.set_cons_zero, List.set_cons_succ]
    refine Go.Shr.wpAnyF_take 3 (oi := { dst := some 6, op := Go.Op.load 3 (Go.Operand.tmp 5), type := 3, pos := "law.go:37", after := #[{ on := 2, ground := Go.Ground.data }], guard := none }) (v := ?g2rv4) rfl (by kernel_rfl) (fun _ _ _ h => h) (by assumption) (by rfl) ?g2ry4 ?g2rr4
    case g2ry4 => intro w hSw; obtain ⟨g1, g2⟩ := hSw; go_simp; try with_reducible rfl
    try simp only [Act.put, List.setIfInBounds_toArray, List.set_cons_zero, List.set_cons_succ]
    refine Go.Shr.wpAnyF_take 4 (oi := { dst := some 7, op := Go.Op.move (Go.Operand.tmp 0), type := 69, pos := "law.go:37", after := #[], guard := none }) (v := ?g2rv5) rfl (by kernel_rfl) (fun _ _ _ h => h) (by assumption) (by rfl) ?g2ry5 ?g2rr5
    case g2ry5 => intro w hSw; obtain ⟨g1, g2⟩ := hSw; go_simp; try with_reducible rfl
    try simp only [Act.put, List.setIfInBounds_toArray, List.set_cons_zero, List.set_cons_succ]
    refine Go.Shr.wpAnyF_take 5 (oi := { dst := some 8, op := Go.Op.nilCheck (Go.Operand.tmp 7), type := 0, pos := "law.go:37", after := #[{ on := 4, ground := Go.Ground.data }], guard := none }) (v := ?g2rv6) rfl (by kernel_rfl) (fun _ _ _ h => h) (by assumption) (by rfl) ?g2ry6 ?g2rr6
    case g2ry6 => intro w hSw; obtain ⟨g1, g2⟩ := hSw; go_simp; try with_reducible rfl
    try simp only [Act.put, List.setIfInBounds_toArray, List.set_cons_zero, List.set_cons_succ]
    refine Go.Shr.wpAnyF_take 6 (oi := { dst := some 9, op := Go.Op.fieldAddr 71 (Go.Operand.tmp 8) 2, type := 0, pos := "law.go:37", after := #[{ on := 5, ground := Go.Ground.data }], guard := none }) (v := ?g2rv7) rfl (by kernel_rfl) (fun _ _ _ h => h) (by assumption) (by rfl) ?g2ry7 ?g2rr7
    case g2ry7 => intro w hSw; obtain ⟨g1, g2⟩ := hSw; go_simp; try with_reducible rfl
    try simp only [Act.put, List.setIfInBounds_toArray, List.set_cons_zero, List.set_cons_succ]
    refine Go.Shr.wpAnyF_take 7 (oi := { dst := some 10, op := Go.Op.load 22 (Go.Operand.tmp 9), type := 22, pos := "law.go:37", after := #[{ on := 6, ground := Go.Ground.data }], guard := none }) (v := ?g2rv8) rfl (by kernel_rfl) (fun _ _ _ h => h) (by assumption) (by rfl) ?g2ry8 ?g2rr8
    case g2ry8 => intro w hSw; obtain ⟨g1, g2⟩ := hSw; go_simp; try with_reducible rfl
    try simp only [Act.put, List.setIfInBounds_toArray, List.set_cons_zero, List.set_cons_succ]
    refine Go.Shr.wpAnyF_take 8 (oi := { dst := some 11, op := Go.Op.call { callee := Go.Callee.builtin Go.Builtin.len, args := #[Go.Operand.tmp 10], argTypes := #[22] }, type := 3, pos := "law.go:37", after := #[{ on := 7, ground := Go.Ground.data }], guard := none }) (v := ?g2rv9) rfl (by kernel_rfl) (fun _ _ _ h => h) (by assumption) (by rfl) ?g2ry9 ?g2rr9
    case g2ry9 => intro w hSw; obtain ⟨g1, g2⟩ := hSw; go_simp; try with_reducible rfl
    try simp only [Act.put, List.setIfInBounds_toArray, List.set_cons_zero, List.set_cons_succ]
    refine Go.Shr.wpAnyF_ready [9] (by kernel_rfl) (by simp) ?_
    refine Go.Shr.AllReadyF.last 9 (o := { dst := some 12, op := Go.Op.binOp Go.BinOp.geq 3 (Go.Operand.tmp 6) (Go.Operand.tmp 11) 3, type := 4, pos := "law.go:37", after := #[{ on := 3, ground := Go.Ground.data }, { on := 8, ground := Go.Ground.data }], guard := none }) rfl (by kernel_rfl) (fun K hK => ?g2ro10) ?g2rm10
    case g2rm10 => exact Go.Shr.AllReadyF.nil
    go_simp
    refine hK.out _ _ ?_
    clear hK K
    try simp only [Act.put, List.setIfInBounds_toArray, List.set_cons_zero, List.set_cons_succ]
    refine Go.Shr.wpAnyF_done (by kernel_rfl) ?_
    have p0 := (HR.out.set 3 (.int .i64 ((k : Int) + 1)))
    have p3 : (w.setCell ⟨M, 3, none⟩ (.int .i64 ((k : Int) + 1))).cell? ⟨M, 3, none⟩ = some (.int .i64 ((k : Int) + 1)) := p0.cell 3
    have p2 : (w.setCell ⟨M, 3, none⟩ (.int .i64 ((k : Int) + 1))).cell? ⟨M, 2, none⟩ = some (.slice (some ⟨b, off, none⟩) n nc) := p0.cell 2
    have pn : (w.setCell ⟨M, 3, none⟩ (.int .i64 ((k : Int) + 1))).cell? ⟨b, off + k, none⟩ = some (.int .i64 x) := by
      have h := HP.out.n
      have h2 := ((Chg.refl (fun b => b = M) w).setCell (p := ⟨M, 3, none⟩) (.inr rfl) (.int .i64 ((k : Int) + 1))).keep c0 (by omega)
      exact h2
    have P2 := Lib.hid p2; have P3 := Lib.hid p3; have PN := Lib.hid pn
    clear p0 p2 p3 pn hHeld c0
    have q2 : w.cell? ⟨M, 2, none⟩ = some (.slice (some ⟨b, off, none⟩) n nc) := HR.out.cell 2
    go_wp2_with fail
    have hwk : IntKind.i64.wrap (k : Int) = (k : Int) := IntWalk.i64_in _ ⟨by omega, by omega⟩
    have hk0 : (0 : Int) ≤ (k : Int) := by omega
    refine Go.Shr.wp_region_F (fun w' => w'.cell? ⟨M, 3, none⟩ = some (.int .i64 ((k : Int) + 1)) ∧ w'.cell? ⟨M, 2, none⟩ = some (.slice (some ⟨b, off, none⟩) n nc) ∧ w'.cell? ⟨b, off + k, none⟩ = some (.int .i64 x)) [11] (by kernel_rfl) ?g3rgS (fun hHeld => ?g3rgR)
    case g3rgS => (try dsimp only); (exact ⟨P3.out, P2.out, PN.out⟩)
    try dsimp only at hHeld
    refine Go.Shr.wpAnyF_take 0 (oi := { dst := some 20, op := Go.Op.move (Go.Operand.tmp 0), type := 69, pos := "law.go:41", after := #[], guard := none }) (v := ?g3rv1) rfl (by kernel_rfl) (fun _ _ _ h => h) (by assumption) (by rfl) ?g3ry1 ?g3rr1
    case g3ry1 => intro w hSw; obtain ⟨g1, g2, g3⟩ := hSw; go_simp; try with_reducible rfl
    try simp only [Act.put, List.setIfInBounds_toArray, List.set_cons_zero, List.set_cons_succ]
    refine Go.Shr.wpAnyF_take 1 (oi := { dst := some 21, op := Go.Op.nilCheck (Go.Operand.tmp 20), type := 0, pos := "law.go:41", after := #[{ on := 0, ground := Go.Ground.data }], guard := none }) (v := ?g3rv2) rfl (by kernel_rfl) (fun _ _ _ h => h) (by assumption) (by rfl) ?g3ry2 ?g3rr2
    case g3ry2 => intro w hSw; obtain ⟨g1, g2, g3⟩ := hSw; go_simp; try with_reducible rfl
    try simp only [Act.put, List.setIfInBounds_toArray, List.set_cons_zero, List.set_cons_succ]
    refine Go.Shr.wpAnyF_take 2 (oi := { dst := some 22, op := Go.Op.fieldAddr 71 (Go.Operand.tmp 21) 2, type := 0, pos := "law.go:41", after := #[{ on := 1, ground := Go.Ground.data }], guard := none }) (v := ?g3rv3) rfl (by kernel_rfl) (fun _ _ _ h => h) (by assumption) (by rfl) ?g3ry3 ?g3rr3
    case g3ry3 => intro w hSw; obtain ⟨g1, g2, g3⟩ := hSw; go_simp; try with_reducible rfl
    try simp only [Act.put, List.setIfInBounds_toArray, List.set_cons_zero, List.set_cons_succ]
    refine Go.Shr.wpAnyF_take 3 (oi := { dst := some 23, op := Go.Op.load 22 (Go.Operand.tmp 22), type := 22, pos := "law.go:41", after := #[{ on := 2, ground := Go.Ground.data }], guard := none }) (v := ?g3rv4) rfl (by kernel_rfl) (fun _ _ _ h => h) (by assumption) (by rfl) ?g3ry4 ?g3rr4
    case g3ry4 => intro w hSw; obtain ⟨g1, g2, g3⟩ := hSw; go_simp; try with_reducible rfl
    try simp only [Act.put, List.setIfInBounds_toArray, List.set_cons_zero, List.set_cons_succ]
    refine Go.Shr.wpAnyF_take 4 (oi := { dst := some 24, op := Go.Op.move (Go.Operand.tmp 0), type := 69, pos := "law.go:41", after := #[], guard := none }) (v := ?g3rv5) rfl (by kernel_rfl) (fun _ _ _ h => h) (by assumption) (by rfl) ?g3ry5 ?g3rr5
    case g3ry5 => intro w hSw; obtain ⟨g1, g2, g3⟩ := hSw; go_simp; try with_reducible rfl
    try simp only [Act.put, List.setIfInBounds_toArray, List.set_cons_zero, List.set_cons_succ]
    refine Go.Shr.wpAnyF_take 5 (oi := { dst := some 25, op := Go.Op.nilCheck (Go.Operand.tmp 24), type := 0, pos := "law.go:41", after := #[{ on := 4, ground := Go.Ground.data }], guard := none }) (v := ?g3rv6) rfl (by kernel_rfl) (fun _ _ _ h => h) (by assumption) (by rfl) ?g3ry6 ?g3rr6
    case g3ry6 => intro w hSw; obtain ⟨g1, g2, g3⟩ := hSw; go_simp; try with_reducible rfl
    try simp only [Act.put, List.setIfInBounds_toArray, List.set_cons_zero, List.set_cons_succ]
    refine Go.Shr.wpAnyF_take 6 (oi := { dst := some 26, op := Go.Op.fieldAddr 71 (Go.Operand.tmp 25) 3, type := 0, pos := "law.go:41", after := #[{ on := 5, ground := Go.Ground.data }], guard := none }) (v := ?g3rv7) rfl (by kernel_rfl) (fun _ _ _ h => h) (by assumption) (by rfl) ?g3ry7 ?g3rr7
    case g3ry7 => intro w hSw; obtain ⟨g1, g2, g3⟩ := hSw; go_simp; try with_reducible rfl
    try simp only [Act.put, List.setIfInBounds_toArray, List.set_cons_zero, List.set_cons_succ]
    refine Go.Shr.wpAnyF_take 7 (oi := { dst := some 27, op := Go.Op.load 3 (Go.Operand.tmp 26), type := 3, pos := "law.go:41", after := #[{ on := 6, ground := Go.Ground.data }], guard := none }) (v := ?g3rv8) rfl (by kernel_rfl) (fun _ _ _ h => h) (by assumption) (by rfl) ?g3ry8 ?g3rr8
    case g3ry8 => intro w hSw; obtain ⟨g1, g2, g3⟩ := hSw; go_simp; try with_reducible rfl
    try simp only [Act.put, List.setIfInBounds_toArray, List.set_cons_zero, List.set_cons_succ]
    refine Go.Shr.wpAnyF_take 8 (oi := { dst := some 28, op := Go.Op.binOp Go.BinOp.sub 3 (Go.Operand.tmp 27) (Go.Operand.const (Go.Value.int Go.IntKind.i64 1)) 3, type := 3, pos := "law.go:41", after := #[{ on := 7, ground := Go.Ground.data }], guard := none }) (v := ?g3rv9) rfl (by kernel_rfl) (fun _ _ _ h => h) (by assumption) (by rfl) ?g3ry9 ?g3rr9
    case g3ry9 => intro w hSw; obtain ⟨g1, g2, g3⟩ := hSw; go_simp; try with_reducible rfl
    try simp only [Act.put, List.setIfInBounds_toArray, List.set_cons_zero, List.set_cons_succ]
    refine Go.Shr.wpAnyF_take 9 (oi := { dst := some 29, op := Go.Op.indexAddr 22 (Go.Operand.tmp 23) (Go.Operand.tmp 28), type := 0, pos := "law.go:41", after := #[{ on := 3, ground := Go.Ground.data }, { on := 8, ground := Go.Ground.data }], guard := none }) (v := ?g3rv10) rfl (by kernel_rfl) (fun _ _ _ h => h) (by assumption) (by rfl) ?g3ry10 ?g3rr10
    case g3ry10 => intro w hSw; obtain ⟨g1, g2, g3⟩ := hSw; go_simp; try with_reducible rfl
    try simp only [Act.put, List.setIfInBounds_toArray, List.set_cons_zero, List.set_cons_succ]
    refine Go.Shr.wpAnyF_take 10 (oi := { dst := some 30, op := Go.Op.load 3 (Go.Operand.tmp 29), type := 3, pos := "law.go:41", after := #[{ on := 9, ground := Go.Ground.data }], guard := none }) (v := ?g3rv11) rfl (by kernel_rfl) (fun _ _ _ h => h) (by assumption) (by rfl) ?g3ry11 ?g3rr11
    case g3ry11 => intro w hSw; obtain ⟨g1, g2, g3⟩ := hSw; go_simp; try with_reducible rfl
    try simp only [Act.put, List.setIfInBounds_toArray, List.set_cons_zero, List.set_cons_succ]
    refine Go.Shr.wpAnyF_ready [11] (by kernel_rfl) (by simp) ?_
    refine Go.Shr.AllReadyF.last 11 (o := { dst := some 2, op := Go.Op.assign (Go.Operand.tmp 30), type := 3, pos := "law.go:41", after := #[{ on := 10, ground := Go.Ground.data }, { on := 0, ground := Go.Ground.phase }, { on := 1, ground := Go.Ground.phase }, { on := 2, ground := Go.Ground.phase }, { on := 3, ground := Go.Ground.phase }, { on := 4, ground := Go.Ground.phase }, { on := 5, ground := Go.Ground.phase }, { on := 6, ground := Go.Ground.phase }, { on := 7, ground := Go.Ground.phase }, { on := 8, ground := Go.Ground.phase }, { on := 9, ground := Go.Ground.phase }, { on := 10, ground := Go.Ground.phase }], guard := none }) rfl (by kernel_rfl) (fun K hK => ?g3ro12) ?g3rm12
    case g3rm12 => exact Go.Shr.AllReadyF.nil
    go_simp
    refine hK.out _ _ ?_
    clear hK K
    try simp only [Act.put, List.setIfInBounds_toArray, List.set_cons_zero, List.set_cons_succ]
    refine Go.Shr.wpAnyF_done (by kernel_rfl) ?_
    go_wp2_with fail
    go_ret
    refine ⟨ret_i hG.out.symm, ?_, ((((Chg.refl (fun b => b = M) w)).setCell (p := ⟨M, 3, none⟩) (.inr rfl) _)).drew.drew⟩
    rw [hE.out]
    exact HP.out.drew.drew
  · have hE : Hid (nextA ns k = k) := Lib.hid (by unfold nextA; rw [if_neg hk])
    have hG : Hid (ns.getD k 0 = 0) := Lib.hid (by rw [List.getD_eq_getElem?_getD, List.getElem?_eq_none (by omega)]; rfl)
    have q3 : w.cell? ⟨M, 3, none⟩ = some (.int .i64 (k : Int)) := hr.cell 3
    have hlt := hr.lt
    clear h
    have HR := Lib.hid hr; clear hr
    have hkk : ¬ ((k : Int) < (ns.length : Int)) := by omega
    generalize hnl : ns.length = n at *
    have HNL := Lib.hid hnl; clear hnl
    go_enter Try.func48, Try.ntmps48
    go_wp2_with fail
    refine Go.Shr.wp_region_F (fun w' => w'.cell? ⟨M, 3, none⟩ = some (.int .i64 (k : Int)) ∧ w'.cell? ⟨M, 2, none⟩ = some (.slice na n nc)) [9] (by kernel_rfl) ?g4rgS (fun hHeld => ?g4rgR)
    case g4rgS => (try dsimp only); (exact ⟨q3, HR.out.cell 2⟩)
    try dsimp only at hHeld
    refine Go.Shr.wpAnyF_take 0 (oi := { dst := some 3, op := Go.Op.move (Go.Operand.tmp 0), type := 69, pos := "law.go:37", after := #[], guard := none }) (v := ?g4rv1) rfl (by kernel_rfl) (fun _ _ _ h => h) (by assumption) (by rfl) ?g4ry1 ?g4rr1
    case g4ry1 => intro w hSw; obtain ⟨g1, g2⟩ := hSw; go_simp; try with_reducible rfl
    try simp only [Act.put, List.setIfInBounds_toArray, List.set_cons_zero, List.set_cons_succ]
    refine Go.Shr.wpAnyF_take 1 (oi := { dst := some 4, op := Go.Op.nilCheck (Go.Operand.tmp 3), type := 0, pos := "law.go:37", after := #[{ on := 0, ground := Go.Ground.data }], guard := none }) (v := ?g4rv2) rfl (by kernel_rfl) (fun _ _ _ h => h) (by assumption) (by rfl) ?g4ry2 ?g4rr2
    case g4ry2 => intro w hSw; obtain ⟨g1, g2⟩ := hSw; go_simp; try with_reducible rfl
    try simp only [Act.put, List.setIfInBounds_toArray, List.set_cons_zero, List.set_cons_succ]
    refine Go.Shr.wpAnyF_take 2 (oi := { dst := some 5, op := Go.Op.fieldAddr 71 (Go.Operand.tmp 4) 3, type := 0, pos := "law.go:37", after := #[{ on := 1, ground := Go.Ground.data }], guard := none }) (v := ?g4rv3) rfl (by kernel_rfl) (fun _ _ _ h => h) (by assumption) (by rfl) ?g4ry3 ?g4rr3
    case g4ry3 => intro w hSw; obtain ⟨g1, g2⟩ := hSw; go_simp; try with_reducible rfl
    try simp only [Act.put, List.setIfInBounds_toArray, List.set_cons_zero, List.set_cons_succ]
    refine Go.Shr.wpAnyF_take 3 (oi := { dst := some 6, op := Go.Op.load 3 (Go.Operand.tmp 5), type := 3, pos := "law.go:37", after := #[{ on := 2, ground := Go.Ground.data }], guard := none }) (v := ?g4rv4) rfl (by kernel_rfl) (fun _ _ _ h => h) (by assumption) (by rfl) ?g4ry4 ?g4rr4
    case g4ry4 => intro w hSw; obtain ⟨g1, g2⟩ := hSw; go_simp; try with_reducible rfl
    try simp only [Act.put, List.setIfInBounds_toArray, List.set_cons_zero, List.set_cons_succ]
    refine Go.Shr.wpAnyF_take 4 (oi := { dst := some 7, op := Go.Op.move (Go.Operand.tmp 0), type := 69, pos := "law.go:37", after := #[], guard := none }) (v := ?g4rv5) rfl (by kernel_rfl) (fun _ _ _ h => h) (by assumption) (by rfl) ?g4ry5 ?g4rr5
    case g4ry5 => intro w hSw; obtain ⟨g1, g2⟩ := hSw; go_simp; try with_reducible rfl
    try simp only [Act.put, List.setIfInBounds_toArray, List.set_cons_zero, List.set_cons_succ]
    refine Go.Shr.wpAnyF_take 5 (oi := { dst := some 8, op := Go.Op.nilCheck (Go.Operand.tmp 7), type := 0, pos := "law.go:37", after := #[{ on := 4, ground := Go.Ground.data }], guard := none }) (v := ?g4rv6) rfl (by kernel_rfl) (fun _ _ _ h => h) (by assumption) (by rfl) ?g4ry6 ?g4rr6
    case g4ry6 => intro w hSw; obtain ⟨g1, g2⟩ := hSw; go_simp; try with_reducible rfl
    try simp only [Act.put, List.setIfInBounds_toArray, List.set_cons_zero, List.set_cons_succ]
    refine Go.Shr.wpAnyF_take 6 (oi := { dst := some 9, op := Go.Op.fieldAddr 71 (Go.Operand.tmp 8) 2, type := 0, pos := "law.go:37", after := #[{ on := 5, ground := Go.Ground.data }], guard := none }) (v := ?g4rv7) rfl (by kernel_rfl) (fun _ _ _ h => h) (by assumption) (by rfl) ?g4ry7 ?g4rr7
    case g4ry7 => intro w hSw; obtain ⟨g1, g2⟩ := hSw; go_simp; try with_reducible rfl
    try simp only [Act.put, List.setIfInBounds_toArray, List.set_cons_zero, List.set_cons_succ]
    refine Go.Shr.wpAnyF_take 7 (oi := { dst := some 10, op := Go.Op.load 22 (Go.Operand.tmp 9), type := 22, pos := "law.go:37", after := #[{ on := 6, ground := Go.Ground.data }], guard := none }) (v := ?g4rv8) rfl (by kernel_rfl) (fun _ _ _ h => h) (by assumption) (by rfl) ?g4ry8 ?g4rr8
    case g4ry8 => intro w hSw; obtain ⟨g1, g2⟩ := hSw; go_simp; try with_reducible rfl
    try simp only [Act.put, List.setIfInBounds_toArray, List.set_cons_zero, List.set_cons_succ]
    refine Go.Shr.wpAnyF_take 8 (oi := { dst := some 11, op := Go.Op.call { callee := Go.Callee.builtin Go.Builtin.len, args := #[Go.Operand.tmp 10], argTypes := #[22] }, type := 3, pos := "law.go:37", after := #[{ on := 7, ground := Go.Ground.data }], guard := none }) (v := ?g4rv9) rfl (by kernel_rfl) (fun _ _ _ h => h) (by assumption) (by rfl) ?g4ry9 ?g4rr9
    case g4ry9 => intro w hSw; obtain ⟨g1, g2⟩ := hSw; go_simp; try with_reducible rfl
    try simp only [Act.put, List.setIfInBounds_toArray, List.set_cons_zero, List.set_cons_succ]
    refine Go.Shr.wpAnyF_ready [9] (by kernel_rfl) (by simp) ?_
    refine Go.Shr.AllReadyF.last 9 (o := { dst := some 12, op := Go.Op.binOp Go.BinOp.geq 3 (Go.Operand.tmp 6) (Go.Operand.tmp 11) 3, type := 4, pos := "law.go:37", after := #[{ on := 3, ground := Go.Ground.data }, { on := 8, ground := Go.Ground.data }], guard := none }) rfl (by kernel_rfl) (fun K hK => ?g4ro10) ?g4rm10
    case g4rm10 => exact Go.Shr.AllReadyF.nil
    go_simp
    refine hK.out _ _ ?_
    clear hK K
    try simp only [Act.put, List.setIfInBounds_toArray, List.set_cons_zero, List.set_cons_succ]
    refine Go.Shr.wpAnyF_done (by kernel_rfl) ?_
    go_wp2_with fail
    go_ret
    exact ⟨ret_i hG.out.symm, by rw [hE.out]; exact H.out.drew, (Chg.refl _ _).drew⟩
/-- What a record's maker returns. -/
def ValQ (c : MC) (l : List Fl) (P ns : List Int) (r : Tr × Nat) (w : World) (e : Ending) (w' : World) : Prop :=
  ∃ a m cap, e = .returned (.agg #[.int .i64 r.1.n, .string r.1.s, .slice a m cap]) ∧ TrG (fun b => w.heap.size ≤ b) w' r.1 [.int .i64 r.1.n, .string r.1.s, .slice a m cap] ∧ Mkr w' c l P ns r.2 ∧ Chg (fun b => b = c.M) w w'
def ValOk (c : MC) (l : List Fl) (P ns : List Int) (sh : Sh) : Prop :=
  ∀ (i k : Nat) (w : World), Mkr w c l P ns k → Ix l (fun v => kidsOf P v) i sh → GoodS sh → Calls Try.prog 35 #[.pointer (some ⟨c.M, 0, none⟩), .int .i64 (i : Int)] w (ValQ c l P ns (mkT ns sh k) w)
theorem ValQ.leaf {c : MC} {l : List Fl} {P ns : List Int} {r : Tr × Nat} {w w1 : World} (hr : r.1.kids = []) (hs : r.1.s.size ≤ maxLen) (hm : Mkr w1 c l P ns r.2) (hc : Chg (fun b => b = c.M) (w.alloc (.cells #[.int .i64 0, .string ByteArray.empty, .slice none 0 0] 48)) w1) (hM : c.M < w.heap.size) :
    ValQ c l P ns r w (.returned (.agg #[.int .i64 r.1.n, .string r.1.s, .slice none 0 0])) (((w1.setCell ⟨w.heap.size, 0, none⟩ (.int .i64 r.1.n)).setCell ⟨w.heap.size, 1, none⟩ (.string r.1.s)).setCell ⟨w.heap.size, 2, none⟩ (.slice none 0 0)) := by
  have h2 : Chg (fun b => b = w.heap.size) w1 (((w1.setCell ⟨w.heap.size, 0, none⟩ (.int .i64 r.1.n)).setCell ⟨w.heap.size, 1, none⟩ (.string r.1.s)).setCell ⟨w.heap.size, 2, none⟩ (.slice none 0 0)) := (((Chg.refl (fun b => b = w.heap.size) w1).setCell (p := ⟨w.heap.size, 0, none⟩) (.inr rfl) _).setCell (p := ⟨w.heap.size, 1, none⟩) (.inr rfl) _).setCell (p := ⟨w.heap.size, 2, none⟩) (.inr rfl) _
  refine ⟨none, 0, 0, rfl, ?_, hm.chg h2 (fun k hk => by omega), (((Chg.refl (fun b => b = c.M) w).alloc _).trans hc (fun _ _ h => h)).trans h2 (fun i hi h => by omega)⟩
  obtain ⟨⟨n, s, ks⟩, k⟩ := r
  simp only [Tr.kids] at hr
  subst hr
  exact TrG.leaf hs
theorem sz0 : (⟨#[]⟩ : ByteArray).size ≤ maxLen := by decide
theorem abc_sz (m : Nat) : (abc.extract 0 m).size ≤ maxLen := by
  have h : abc.size = 12 := rfl
  simp only [ByteArray.size_extract, maxLen]; omega
set_option maxHeartbeats 4000000 in
theorem value_leaf {c : MC} {l : List Fl} {P ns : List Int} (hns : ∀ z ∈ ns, (Lit.int .i64 z).wf = true) (sh : Sh) (hk : sh.kind ≠ 0) : ValOk c l P ns sh := by
  intro i k w h hix hg
  obtain ⟨nm, rp, kd, ks⟩ := sh
  simp only [Sh.kind] at hk
  simp only [Ix] at hix
  simp only [GoodS] at hg
  obtain ⟨_, _, hk0, hk4, hks, _, _⟩ := hg
  obtain ⟨hix1, _, _⟩ := hix
  obtain ⟨hil, hie⟩ := List.getElem?_eq_some_iff.1 hix1
  obtain ⟨_, _, f2, _⟩ := fls_get l i hil
  rw [hie] at f2
  dsimp only at f2
  have hMl := h.rw.lt
  have hmx := Nat.le_trans h.s.le h.s.max
  unfold maxLen at hmx
  obtain ⟨sb, soff, hsa, hsb, hsc⟩ := h.s.pos (by omega)
  replace f2 := hsc _ _ f2
  rw [← Nat.add_assoc] at f2
  have H := Lib.hid h
  have hxb : -9223372036854775808 ≤ ns.getD k 0 ∧ ns.getD k 0 ≤ 9223372036854775807 := by
    rw [List.getD_eq_getElem?_getD]
    cases hg : ns[k]? with
    | none => simp
    | some x =>
      have := hns x (List.mem_of_getElem? hg)
      simp [Lit.wf, IntKind.min, IntKind.max, IntKind.bits, IntKind.signed] at this
      simp; omega
  have HS := Lib.hid hsa; have HKS := Lib.hid hks
  clear h hsc hix1 hie hks hsa
  go_enter Try.func35, Try.ntmps35
  go_wp2_with fail
  refine cgen (fun wA hwA => ?_)
  have hA : Below w.heap.size w wA := by rw [hwA]; exact ba (b0 w) _
  have rA : Rw wA w.heap.size #[.int .i64 0, .string ByteArray.empty, .slice none 0 0] 48 := by rw [hwA]; exact Rw.new w _ _
  have HWA : Hid (wA = w.alloc (.cells #[.int .i64 0, .string ByteArray.empty, .slice none 0 0] 48)) := Lib.hid hwA
  clear hwA
  have hm0 := H.out.below hA
  refine (next_v wA hm0).mono ?_
  rintro e w1 ⟨rfl, hm1, hc1⟩
  have r1 := rA.chg hc1 (show ¬ (w.heap.size = c.M) by omega)
  have r1l := r1.lt
  have r1f := r1.frozen
  have hSb := cb hA f2
  replace f2 := hc1.keep hSb (show ¬ (sb = c.M) by omega)
  have q0 : w1.cell? ⟨c.M, 0, none⟩ = some (.slice (some ⟨sb, soff, none⟩) l.length c.sc) := by rw [hm1.rw.cell, HS.out]; rfl
  have z0 : w1.cell? ⟨w.heap.size, 0, none⟩ = some (.int .i64 0) := r1.cell 0
  have z1 : w1.cell? ⟨w.heap.size, 1, none⟩ = some (.string ByteArray.empty) := r1.cell 1
  have z2 : w1.cell? ⟨w.heap.size, 2, none⟩ = some (.slice none 0 0) := r1.cell 2
  rw [HWA.out] at hc1
  have HM1 := Lib.hid hm1; have HC1 := Lib.hid hc1
  have hk : kd = 1 ∨ kd = 2 ∨ kd = 3 ∨ kd = 4 := by omega
  clear hm1 hc1 r1 rA hA hm0 hSb HKS hk0 hk4 hns
  have HX : Hid (ns.getD k 0 = ns.getD k 0) := Lib.hid rfl
  rcases hk with rfl | rfl | rfl | rfl
  · have HT : Hid (mkT ns (.mk nm rp 1 ks) k = (.mk ((ns.getD k 0) % 2) ⟨#[]⟩ [], nextA ns k)) := Lib.hid (by simp [mkT])
    generalize ns.getD k 0 = x at *
    go_wp2_with fail
    refine (within_8 x 2 w1 (by decide) (by decide)).mono ?_
    rintro e w2 ⟨rfl, rfl⟩
    go_wp2_with fail
    refine bodyPost_ret (v := .agg #[.int .i64 (x % 2), .string ⟨#[]⟩, .slice none 0 0]) (by simp [results, Try.results35, go_sem, z0, z1, z2]) rfl ?_
    rw [HT.out]
    exact ValQ.leaf rfl sz0 HM1.out HC1.out hMl
  · have HT : Hid (mkT ns (.mk nm rp 2 ks) k = (.mk ((ns.getD k 0) % 300 - 100) ⟨#[]⟩ [], nextA ns k)) := Lib.hid (by simp [mkT])
    generalize ns.getD k 0 = x at *
    have m1 := Int.emod_nonneg x (show (300 : Int) ≠ 0 by decide)
    have m2 := Int.emod_lt_of_pos x (show (0 : Int) < 300 by decide)
    go_wp2_with fail
    refine (within_8 x 300 w1 (by decide) (by decide)).mono ?_
    rintro e w2 ⟨rfl, rfl⟩
    go_wp2_with fail
    refine bodyPost_ret (v := .agg #[.int .i64 (x % 300 - 100), .string ⟨#[]⟩, .slice none 0 0]) (by simp [results, Try.results35, go_sem, z0, z1, z2]) rfl ?_
    rw [HT.out]
    exact ValQ.leaf rfl sz0 HM1.out HC1.out hMl
  · have HT : Hid (mkT ns (.mk nm rp 3 ks) k = (.mk (ns.getD k 0) ⟨#[]⟩ [], nextA ns k)) := Lib.hid (by simp [mkT])
    generalize ns.getD k 0 = x at *
    go_wp2_with fail
    refine bodyPost_ret (v := .agg #[.int .i64 x, .string ⟨#[]⟩, .slice none 0 0]) (by simp [results, Try.results35, go_sem, z0, z1, z2]) rfl ?_
    rw [HT.out]
    exact ValQ.leaf rfl sz0 HM1.out HC1.out hMl
  · have HT : Hid (mkT ns (.mk nm rp 4 ks) k = (.mk 0 (abc.extract 0 ((ns.getD k 0) % 9).toNat) [], nextA ns k)) := Lib.hid (by simp [mkT])
    generalize ns.getD k 0 = x at *
    have m1 := Int.emod_nonneg x (show (9 : Int) ≠ 0 by decide)
    have m2 := Int.emod_lt_of_pos x (show (0 : Int) < 9 by decide)
    go_wp2_with fail
    refine (within_8 x 9 w1 (by decide) (by decide)).mono ?_
    rintro e w2 ⟨rfl, rfl⟩
    go_wp2_with fail
    refine bodyPost_ret (v := .agg #[.int .i64 0, .string ((⟨#[97, 98, 99, 97, 98, 99, 97, 98, 99, 97, 98, 99]⟩ : ByteArray).extract 0 (x % 9).toNat), .slice none 0 0]) (by simp [results, Try.results35, go_sem, z0, z1, z2]) rfl ?_
    rw [HT.out]
    exact ValQ.leaf rfl (abc_sz _) HM1.out HC1.out hMl
end Go.Proofs.Ytgpffcgkfgiodaa
