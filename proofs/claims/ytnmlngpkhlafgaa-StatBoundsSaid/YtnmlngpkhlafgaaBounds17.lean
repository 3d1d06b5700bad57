/-
  The walk of StatBounds.
-/
import Derived.Test.YtnmlngpkhlafgaaStat9
import Derived.Test.YtnmlngpkhlafgaaStat7
import Derived.Test.YtnmlngpkhlafgaaRws
set_option linter.unusedSimpArgs false
namespace Go.Proofs.Ytnmlngpkhlafgaa
open Go.RowKit Go.Shr
def eqV (x y : Vl) : Bool := x.n == y.n && x.s.toList == y.s.toList
theorem eqlv_exec (ev : Operand → Value) (d : Option Tmp) (x y : Operand) (t : TypeId) (pos : String) (af : Array Edge) (gd : Option (Nat × Bool)) (a b : Vl) (w : World) (hx : ev x = .agg #[.int .i64 a.n, .string a.s]) (hy : ev y = .agg #[.int .i64 b.n, .string b.s]) :
    (execOp ev { dst := d, op := .binOp .eql 35 x y 35, type := t, pos := pos, after := af, guard := gd }).run Try.prog w = .ok (.value (.bool (eqV a b))) w := by
  unfold execOp eqV
  simp only [hx, hy]
  go_simp
  by_cases h1 : a.n = b.n <;> by_cases h2 : a.s.toList = b.s.toList <;> simp [h1, h2]
theorem eqV_of {x y : Vl} (h : eqV x y = true) : x = y := by
  simp [eqV] at h
  obtain ⟨h1, h2⟩ := h
  have := toList_inj h2
  cases x; cases y; simp_all
theorem eqV_refl (x : Vl) : eqV x x = true := by simp [eqV]
/-- A value stands among these, or nothing stands at all. -/
def hasV (n : Nat) (l : List Vl) (m : Vl) : Bool := decide (n = 0) || l.any fun x => eqV x m
theorem hasV_snoc (n : Nat) (l : List Vl) (x m : Vl) : hasV n (l ++ [x]) m = (hasV n l m || eqV x m) := by simp [hasV, Bool.or_assoc]
theorem bounds_17 (k : Int) (l : List Vl) (n : Nat) (hn : l.length = n) : hasV n l (ofS k 0 l).mn = true ∧ hasV n l (ofS k 0 l).mx = true ∧ (ofS k 0 l).has = decide (0 < n) ∧ (ofS k 0 l).nulls = 0 ∧ (∀ x ∈ l, ¬ cmpV k x (ofS k 0 l).mn < 0 ∧ ¬ 0 < cmpV k x (ofS k 0 l).mx) ∧ ((∀ x ∈ l, goodV k x ∧ x.s.size ≤ 100) → 0 < n → (ofS k 0 l).mn.s.size ≤ 1000 ∧ (ofS k 0 l).mx.s.size ≤ 1000) := by
  refine ⟨?_, ?_, ?_, ofS_nulls _ _ _, ?_, ?_⟩
  · by_cases h : l = []
    · subst h; simp at hn; subst hn; rfl
    · have := (ofS_bounds k 0 l h).1
      simp only [hasV, Bool.or_eq_true, List.any_eq_true]
      exact .inr ⟨_, this, eqV_refl _⟩
  · by_cases h : l = []
    · subst h; simp at hn; subst hn; rfl
    · have := (ofS_bounds k 0 l h).2.1
      simp only [hasV, Bool.or_eq_true, List.any_eq_true]
      exact .inr ⟨_, this, eqV_refl _⟩
  · rw [ofS_has]
    cases l with
    | nil => simp at hn; subst hn; rfl
    | cons x l => simp at hn; subst hn; simp
  · intro x hx
    have h : l ≠ [] := List.ne_nil_of_mem hx
    have := (ofS_bounds k 0 l h).2.2 x hx
    rw [cmpV_neg, cmpV_pos, this.1, this.2]
    exact ⟨by decide, by decide⟩
  · intro h h0
    have hb := ofS_bounds k 0 l (by rintro rfl; simp at hn; omega)
    have h1 := (h _ hb.1).2
    have h2 := (h _ hb.2.1).2
    exact ⟨by omega, by omega⟩
set_option maxHeartbeats 2000000 in
theorem law_bounds (kind : Int) (a : Option Addr) (n cap : Nat) (l : List Vl) (w : World) (_ : (Lit.int .i64 kind).wf = true) (hl : Sl (fun b => b < w.heap.size) w 2 a n cap (vls l)) :
    Calls Try.prog 4 #[.int .i64 kind, .slice a n cap] w fun e w' => e = .returned (.bool true) ∧ Below w.heap.size w w' := by
  have HL := Lib.hid hl; clear hl
  go_enter Try.func4, Try.ntmps4
  go_wp2_with fail
  refine (known_v _).mono ?_
  rintro e w1 ⟨rfl, hb1⟩
  have HB := Lib.hid hb1
  have HL1 := Lib.hid ((HL.out.below hb1).mono (ok' := fun b => b < w1.heap.size) (fun k hk _ => hk) (by decide)); clear hb1 HL
  go_wp2_with fail
  refine (within_17 kind 4 w1 (by decide) (by decide)).mono ?_
  rintro e w2 ⟨rfl, rfl⟩
  have k1 := Int.emod_nonneg kind (show (4 : Int) ≠ 0 by decide)
  have k2 := Int.emod_lt_of_pos kind (show (0 : Int) < 4 by decide)
  have k3 : 1 ≤ 1 + kind % 4 := by omega
  have k4 : 1 + kind % 4 ≤ 4 := by omega
  clear k1 k2
  go_wp2_with fail
  refine (all_v _ k3 k4 a n cap l _ HL1.out).mono ?_
  rintro e w3 ⟨a', m, cap', r, rfl, hm, hr, ho, hb3⟩
  have HB3 := Lib.hid (bt HB.out hb3)
  generalize 1 + kind % 4 = k at *
  have hsl := ho.sl
  have hlen : r.length = m := by have := ho.len; rw [vls_length] at this; omega
  have HS3 := Lib.hid (hsl.mono (ok' := fun b => b < w3.heap.size) (fun k hk _ => hk) (by decide))
  have HR := Lib.hid hr
  clear hb3 ho hsl HL1 HB hr
  go_wp2_with fail
  refine (column_v a' m cap' r none 0 0 [] w3 HS3.out hm (Sl.nil _ _ _ _)).mono ?_
  rintro e w4 ⟨aR, nR, cR, aD, cD, aV, nV, cV, rfl, hsD, hsV, hb4⟩
  rw [filtB_none] at hsV
  have hnV : nV = m := by have := hsV.len; rw [vls_length] at this; omega
  subst hnV
  have HB4 := Lib.hid (bt HB3.out hb4)
  have HS4 := Lib.hid ((HS3.out.below hb4).mono (ok' := fun b => b < w4.heap.size) (fun k hk _ => hk) (by decide))
  have HSV := Lib.hid hsV
  clear hb4 hsD hsV HB3 HS3
  go_wp2_with fail
  have hof := of_v k 0 0 1 aR aD aV nR cR nV cD nV cV r _ ((HSV.out.below (ba (ba (b0 w4) (.cells #[.int .i64 0, .int .i64 0, .int .i64 1, .int .i64 k] 28)) (.cells #[.slice aR nR cR, .slice aD nV cD, .slice aV nV cV] 31))).mono (ok' := fun b => b < ((w4.alloc (.cells #[.int .i64 0, .int .i64 0, .int .i64 1, .int .i64 k] 28)).alloc (.cells #[.slice aR nR cR, .slice aD nV cD, .slice aV nV cV] 31)).heap.size) (fun k hk _ => hk) (by decide)) (by omega) (Nat.le_refl _)
  rw [Int.sub_self] at hof
  refine hof.mono ?_
  clear hof
  rintro e w5 ⟨rfl, hb5⟩
  obtain ⟨b1, b2, b3, b4, b5, b7⟩ := bounds_17 k r nV hlen
  replace b7 := b7 HR.out
  generalize ofS k 0 r = s at *
  simp only [St.v]
  have HB5 := Lib.hid (bt (ba (ba HB4.out _) _) hb5)
  have HB45 := Lib.hid (bt (ba (ba (b0 w4) _) _) hb5)
  have b6 : (nV : Int) = 0 → nV = 0 := by omega
  have C1 := Lib.hid b1; have C2 := Lib.hid b2; have C3 := Lib.hid b3; have C4 := Lib.hid b4; have C5 := Lib.hid b5; have C7 := Lib.hid b7
  have hz : w4.heap.size + 1 < w5.heap.size := by have := HB45.out.size; have h2 := hb5.size; simp at h2; omega
  clear b1 b2 b3 b4 b5 b6 b7 hb5 HB4
  go_wp2_with fail
  have hr := (Rws.nil w5).new #[.int .i64 s.nulls, .bool s.has, .int .i64 s.mn.n, .string s.mn.s, .int .i64 s.mx.n, .string s.mx.s] 37
  have HR9 := Lib.hid hr; clear hr
  go_loopw [10, 11, 12] (fun lo hi i wr => ∃ j : Nat, i = .int .i64 j ∧ j ≤ nV ∧ lo = .bool (hasV nV (r.take j) s.mn) ∧ hi = .bool (hasV nV (r.take j) s.mx) ∧ Hid (Rws wr [(w5.heap.size, #[.int .i64 s.nulls, .bool s.has, .int .i64 s.mn.n, .string s.mn.s, .int .i64 s.mx.n, .string s.mx.s], 37)]) ∧ Hid (Below w4.heap.size w4 wr) ∧ Hid (Below w.heap.size w wr))
    (fun _ _ i _ => nV - (intOf i).toNat)
  case atStart =>
    refine ⟨0, rfl, Nat.zero_le _, ?_, ?_, HR9, Lib.hid (ba HB45.out _), Lib.hid (ba HB5.out _)⟩
    · simp only [List.take_zero, hasV, List.any_nil, Bool.or_false]; congr 1; rw [Bool.eq_iff_iff]; simp
    · simp only [List.take_zero, hasV, List.any_nil, Bool.or_false]; congr 1; rw [Bool.eq_iff_iff]; simp
  case round =>
    obtain ⟨j, rfl, hj, rfl, rfl, HR9', HBr, HBw⟩ := hrel
    by_cases hlt : j < nV
    · obtain ⟨b, off, rfl, hbb, hcc⟩ := HS4.out.pos (by omega)
      obtain ⟨e1, e2⟩ := vls_get r j (by omega)
      replace e1 := cb HBr.out (hcc _ _ e1)
      replace e2 := cb HBr.out (hcc _ _ e2)
      rw [← Nat.add_assoc] at e2
      clear hcc hbb
      have hx := C5.out r[j] (List.getElem_mem (by omega))
      have hxs : r[j].s.size ≤ 1000 := by have := (HR.out r[j] (List.getElem_mem (by omega))).2; omega
      obtain ⟨hx1, hx2⟩ := hx
      have hxj : r.take (j + 1) = r.take j ++ [r[j]] := List.take_succ_eq_append_getElem (by omega)
      have t1 : hasV nV (r.take (j + 1)) s.mn = (hasV nV (r.take j) s.mn || eqV r[j] s.mn) := by rw [hxj, hasV_snoc]
      have t2 : hasV nV (r.take (j + 1)) s.mx = (hasV nV (r.take j) s.mx || eqV r[j] s.mx) := by rw [hxj, hasV_snoc]
      generalize hasV nV (r.take j) s.mn = lo at *
      generalize hasV nV (r.take j) s.mx = hi at *
      generalize r[j] = x at *
      have hc1 : Hid (cmpV k x s.mn = cmpV k x s.mn) := Lib.hid rfl
      obtain ⟨p1, hp1⟩ : ∃ p, cmpV k x s.mn = p := ⟨_, rfl⟩
      obtain ⟨p2, hp2⟩ : ∃ p, cmpV k x s.mx = p := ⟨_, rfl⟩
      rw [hp1] at hx1
      rw [hp2] at hx2
      have T1 := Lib.hid t1; have T2 := Lib.hid t2; have P1 := Lib.hid hp1; have P2 := Lib.hid hp2
      clear t1 t2 hp1 hp2 hxj hc1
      obtain ⟨hmn, hmx⟩ := C7.out (by omega)
      have hq1 : decide (p1 < 0) = false := decide_eq_false (by omega)
      have hq2 : decide (0 < p2) = false := decide_eq_false (by omega)
      go_wp2_with fail
      refine Go.Shr.wp_region_F (fun w' => Rws w' [(w5.heap.size, #[.int .i64 s.nulls, .bool s.has, .int .i64 s.mn.n, .string s.mn.s, .int .i64 s.mx.n, .string s.mx.s], 37)] ∧ w'.cell? ⟨b, off + j * 2, none⟩ = some (.int .i64 x.n) ∧ w'.cell? ⟨b, off + j * 2 + 1, none⟩ = some (.string x.s)) [] (by kernel_rfl) ?g1rgS (fun hHeld => ?g1rgR)
      case g1rgS => (try dsimp only); (first | exact ⟨HR9'.out.drew, e1, e2⟩ | exact ⟨hHeld.1.below hb6, cb hb6 hHeld.2.1, cb hb6 hHeld.2.2⟩ | exact ⟨hHeld.1.below hb7, cb hb7 hHeld.2.1, cb hb7 hHeld.2.2⟩)
      try dsimp only at hHeld
      refine Go.Shr.wpAnyF_take 0 (oi := { dst := some 43, op := Go.Op.move (Go.Operand.tmp 5), type := 3, pos := "law.go:100", after := #[], guard := none }) (v := ?g1rv1) rfl (by kernel_rfl) (fun _ _ _ h => h) (by assumption) (by rfl) ?g1ry1 ?g1rr1
      case g1ry1 => intro w hSw; (rename_i w; obtain ⟨g0, g1, g2⟩ := hSw); (have q2 := g0.cell 0 2 rfl rfl); (have q3 := g0.cell 0 3 rfl rfl); (have q4 := g0.cell 0 4 rfl rfl); (have q5 := g0.cell 0 5 rfl rfl); go_simp; try with_reducible rfl
      try simp only [Act.put, List.setIfInBounds_toArray, List.set_cons_zero, List.set_cons_succ]
      refine Go.Shr.wpAnyF_take 1 (oi := { dst := some 44, op := Go.Op.move (Go.Operand.tmp 6), type := 22, pos := "law.go:100", after := #[], guard := none }) (v := ?g1rv2) rfl (by kernel_rfl) (fun _ _ _ h => h) (by assumption) (by rfl) ?g1ry2 ?g1rr2
      case g1ry2 => intro w hSw; (rename_i w; obtain ⟨g0, g1, g2⟩ := hSw); (have q2 := g0.cell 0 2 rfl rfl); (have q3 := g0.cell 0 3 rfl rfl); (have q4 := g0.cell 0 4 rfl rfl); (have q5 := g0.cell 0 5 rfl rfl); go_simp; try with_reducible rfl
      try simp only [Act.put, List.setIfInBounds_toArray, List.set_cons_zero, List.set_cons_succ]
      refine Go.Shr.wpAnyF_take 2 (oi := { dst := some 45, op := Go.Op.move (Go.Operand.tmp 12), type := 3, pos := "law.go:100", after := #[], guard := none }) (v := ?g1rv3) rfl (by kernel_rfl) (fun _ _ _ h => h) (by assumption) (by rfl) ?g1ry3 ?g1rr3
      case g1ry3 => intro w hSw; (rename_i w; obtain ⟨g0, g1, g2⟩ := hSw); (have q2 := g0.cell 0 2 rfl rfl); (have q3 := g0.cell 0 3 rfl rfl); (have q4 := g0.cell 0 4 rfl rfl); (have q5 := g0.cell 0 5 rfl rfl); go_simp; try with_reducible rfl
      try simp only [Act.put, List.setIfInBounds_toArray, List.set_cons_zero, List.set_cons_succ]
      refine Go.Shr.wpAnyF_take 3 (oi := { dst := some 46, op := Go.Op.indexAddr 22 (Go.Operand.tmp 44) (Go.Operand.tmp 45), type := 0, pos := "law.go:100", after := #[{ on := 1, ground := Go.Ground.data }, { on := 2, ground := Go.Ground.data }], guard := none }) (v := ?g1rv4) rfl (by kernel_rfl) (fun _ _ _ h => h) (by assumption) (by rfl) ?g1ry4 ?g1rr4
      case g1ry4 => intro w hSw; (rename_i w; obtain ⟨g0, g1, g2⟩ := hSw); (have q2 := g0.cell 0 2 rfl rfl); (have q3 := g0.cell 0 3 rfl rfl); (have q4 := g0.cell 0 4 rfl rfl); (have q5 := g0.cell 0 5 rfl rfl); go_simp; try with_reducible rfl
      try simp only [Act.put, List.setIfInBounds_toArray, List.set_cons_zero, List.set_cons_succ]
      refine Go.Shr.wpAnyF_take 4 (oi := { dst := some 47, op := Go.Op.load 35 (Go.Operand.tmp 46), type := 35, pos := "law.go:100", after := #[{ on := 3, ground := Go.Ground.data }], guard := none }) (v := ?g1rv5) rfl (by kernel_rfl) (fun _ _ _ h => h) (by assumption) (by rfl) ?g1ry5 ?g1rr5
      case g1ry5 => intro w hSw; (rename_i w; obtain ⟨g0, g1, g2⟩ := hSw); (have q2 := g0.cell 0 2 rfl rfl); (have q3 := g0.cell 0 3 rfl rfl); (have q4 := g0.cell 0 4 rfl rfl); (have q5 := g0.cell 0 5 rfl rfl); go_simp; try with_reducible rfl
      try simp only [Act.put, List.setIfInBounds_toArray, List.set_cons_zero, List.set_cons_succ]
      refine Go.Shr.wpAnyF_take 5 (oi := { dst := some 48, op := Go.Op.fieldAddr 37 (Go.Operand.tmp 9) 2, type := 0, pos := "law.go:100", after := #[], guard := none }) (v := ?g1rv6) rfl (by kernel_rfl) (fun _ _ _ h => h) (by assumption) (by rfl) ?g1ry6 ?g1rr6
      case g1ry6 => intro w hSw; (rename_i w; obtain ⟨g0, g1, g2⟩ := hSw); (have q2 := g0.cell 0 2 rfl rfl); (have q3 := g0.cell 0 3 rfl rfl); (have q4 := g0.cell 0 4 rfl rfl); (have q5 := g0.cell 0 5 rfl rfl); go_simp; try with_reducible rfl
      try simp only [Act.put, List.setIfInBounds_toArray, List.set_cons_zero, List.set_cons_succ]
      refine Go.Shr.wpAnyF_take 6 (oi := { dst := some 49, op := Go.Op.load 35 (Go.Operand.tmp 48), type := 35, pos := "law.go:100", after := #[{ on := 5, ground := Go.Ground.data }], guard := none }) (v := ?g1rv7) rfl (by kernel_rfl) (fun _ _ _ h => h) (by assumption) (by rfl) ?g1ry7 ?g1rr7
      case g1ry7 => intro w hSw; (rename_i w; obtain ⟨g0, g1, g2⟩ := hSw); (have q2 := g0.cell 0 2 rfl rfl); (have q3 := g0.cell 0 3 rfl rfl); (have q4 := g0.cell 0 4 rfl rfl); (have q5 := g0.cell 0 5 rfl rfl); go_simp; try with_reducible rfl
      try simp only [Act.put, List.setIfInBounds_toArray, List.set_cons_zero, List.set_cons_succ]
      refine Go.Shr.wpAnyF_ready [7] (by kernel_rfl) (by simp) ?_
      refine Go.Shr.AllReadyF.cons 7 (o := { dst := some 50, op := Go.Op.call { callee := Go.Callee.value (Go.Operand.func 17), args := #[Go.Operand.tmp 43, Go.Operand.tmp 47, Go.Operand.tmp 49], argTypes := #[3, 35, 35] }, type := 3, pos := "law.go:100", after := #[{ on := 0, ground := Go.Ground.data }, { on := 4, ground := Go.Ground.data }, { on := 6, ground := Go.Ground.data }], guard := none }) rfl (fun K hK => ?g1ro8) ?g1rm8
      case g1rm8 => exact Go.Shr.AllReadyF.nil
      go_simp; refine (rcompare_v k x s.mn _ hxs hmn).mono ?_; rintro e w6 ⟨rfl, hb6⟩; rw [P1.out]; dsimp only
      refine hK.out _ _ ?g1rs8 (fun hHeld => ?g1rt8)
      case g1rs8 => (try dsimp only); (first | exact ⟨HR9'.out.drew, e1, e2⟩ | exact ⟨hHeld.1.below hb6, cb hb6 hHeld.2.1, cb hb6 hHeld.2.2⟩ | exact ⟨hHeld.1.below hb7, cb hb7 hHeld.2.1, cb hb7 hHeld.2.2⟩)
      try dsimp only at hHeld
      clear hK K
      try simp only [Act.put, List.setIfInBounds_toArray, List.set_cons_zero, List.set_cons_succ]
      refine Go.Shr.wpAnyF_take 8 (oi := { dst := some 51, op := Go.Op.binOp Go.BinOp.lss 3 (Go.Operand.tmp 50) (Go.Operand.const (Go.Value.int Go.IntKind.i64 0)) 3, type := 4, pos := "law.go:100", after := #[{ on := 7, ground := Go.Ground.data }], guard := none }) (v := ?g1rv9) rfl (by kernel_rfl) (fun _ _ _ h => h) (by assumption) (by rfl) ?g1ry9 ?g1rr9
      case g1ry9 => intro w hSw; (rename_i w; obtain ⟨g0, g1, g2⟩ := hSw); (have q2 := g0.cell 0 2 rfl rfl); (have q3 := g0.cell 0 3 rfl rfl); (have q4 := g0.cell 0 4 rfl rfl); (have q5 := g0.cell 0 5 rfl rfl); go_simp; try with_reducible rfl
      try simp only [Act.put, List.setIfInBounds_toArray, List.set_cons_zero, List.set_cons_succ]
      refine Go.Shr.wpAnyF_take 9 (oi := { dst := some 52, op := Go.Op.move (Go.Operand.tmp 51), type := 4, pos := "law.go:100", after := #[{ on := 8, ground := Go.Ground.data }, { on := 7, ground := Go.Ground.chain }], guard := none }) (v := ?g1rv10) rfl (by kernel_rfl) (fun _ _ _ h => h) (by assumption) (by rfl) ?g1ry10 ?g1rr10
      case g1ry10 => intro w hSw; (rename_i w; obtain ⟨g0, g1, g2⟩ := hSw); (have q2 := g0.cell 0 2 rfl rfl); (have q3 := g0.cell 0 3 rfl rfl); (have q4 := g0.cell 0 4 rfl rfl); (have q5 := g0.cell 0 5 rfl rfl); go_simp; try with_reducible rfl
      try simp only [Act.put, List.setIfInBounds_toArray, List.set_cons_zero, List.set_cons_succ]
      first
        | refine Go.Shr.wpAnyF_skip 10 (oi := { dst := some 53, op := Go.Op.move (Go.Operand.tmp 5), type := 3, pos := "law.go:100", after := #[{ on := 9, ground := Go.Ground.guard }], guard := some (9, false) }) rfl (by kernel_rfl) (fun _ _ _ h => h) (by assumption) (by rfl) ?_
        | (refine Go.Shr.wpAnyF_take 10 (oi := { dst := some 53, op := Go.Op.move (Go.Operand.tmp 5), type := 3, pos := "law.go:100", after := #[{ on := 9, ground := Go.Ground.guard }], guard := some (9, false) }) (v := ?g1rv11) rfl (by kernel_rfl) (fun _ _ _ h => h) (by assumption) (by rfl) ?g1ry11 ?g1rr11
           case g1ry11 => intro w hSw; (rename_i w; obtain ⟨g0, g1, g2⟩ := hSw); (have q2 := g0.cell 0 2 rfl rfl); (have q3 := g0.cell 0 3 rfl rfl); (have q4 := g0.cell 0 4 rfl rfl); (have q5 := g0.cell 0 5 rfl rfl); go_simp; try with_reducible rfl)
      try simp only [Act.put, List.setIfInBounds_toArray, List.set_cons_zero, List.set_cons_succ]
      first
        | refine Go.Shr.wpAnyF_skip 11 (oi := { dst := some 54, op := Go.Op.move (Go.Operand.tmp 6), type := 22, pos := "law.go:100", after := #[{ on := 9, ground := Go.Ground.guard }], guard := some (9, false) }) rfl (by kernel_rfl) (fun _ _ _ h => h) (by assumption) (by rfl) ?_
        | (refine Go.Shr.wpAnyF_take 11 (oi := { dst := some 54, op := Go.Op.move (Go.Operand.tmp 6), type := 22, pos := "law.go:100", after := #[{ on := 9, ground := Go.Ground.guard }], guard := some (9, false) }) (v := ?g1rv12) rfl (by kernel_rfl) (fun _ _ _ h => h) (by assumption) (by rfl) ?g1ry12 ?g1rr12
           case g1ry12 => intro w hSw; (rename_i w; obtain ⟨g0, g1, g2⟩ := hSw); (have q2 := g0.cell 0 2 rfl rfl); (have q3 := g0.cell 0 3 rfl rfl); (have q4 := g0.cell 0 4 rfl rfl); (have q5 := g0.cell 0 5 rfl rfl); go_simp; try with_reducible rfl)
      try simp only [Act.put, List.setIfInBounds_toArray, List.set_cons_zero, List.set_cons_succ]
      first
        | refine Go.Shr.wpAnyF_skip 12 (oi := { dst := some 55, op := Go.Op.move (Go.Operand.tmp 12), type := 3, pos := "law.go:100", after := #[{ on := 9, ground := Go.Ground.guard }], guard := some (9, false) }) rfl (by kernel_rfl) (fun _ _ _ h => h) (by assumption) (by rfl) ?_
        | (refine Go.Shr.wpAnyF_take 12 (oi := { dst := some 55, op := Go.Op.move (Go.Operand.tmp 12), type := 3, pos := "law.go:100", after := #[{ on := 9, ground := Go.Ground.guard }], guard := some (9, false) }) (v := ?g1rv13) rfl (by kernel_rfl) (fun _ _ _ h => h) (by assumption) (by rfl) ?g1ry13 ?g1rr13
           case g1ry13 => intro w hSw; (rename_i w; obtain ⟨g0, g1, g2⟩ := hSw); (have q2 := g0.cell 0 2 rfl rfl); (have q3 := g0.cell 0 3 rfl rfl); (have q4 := g0.cell 0 4 rfl rfl); (have q5 := g0.cell 0 5 rfl rfl); go_simp; try with_reducible rfl)
      try simp only [Act.put, List.setIfInBounds_toArray, List.set_cons_zero, List.set_cons_succ]
      first
        | refine Go.Shr.wpAnyF_skip 13 (oi := { dst := some 56, op := Go.Op.indexAddr 22 (Go.Operand.tmp 54) (Go.Operand.tmp 55), type := 0, pos := "law.go:100", after := #[{ on := 11, ground := Go.Ground.data }, { on := 12, ground := Go.Ground.data }, { on := 9, ground := Go.Ground.guard }], guard := some (9, false) }) rfl (by kernel_rfl) (fun _ _ _ h => h) (by assumption) (by rfl) ?_
        | (refine Go.Shr.wpAnyF_take 13 (oi := { dst := some 56, op := Go.Op.indexAddr 22 (Go.Operand.tmp 54) (Go.Operand.tmp 55), type := 0, pos := "law.go:100", after := #[{ on := 11, ground := Go.Ground.data }, { on := 12, ground := Go.Ground.data }, { on := 9, ground := Go.Ground.guard }], guard := some (9, false) }) (v := ?g1rv14) rfl (by kernel_rfl) (fun _ _ _ h => h) (by assumption) (by rfl) ?g1ry14 ?g1rr14
           case g1ry14 => intro w hSw; (rename_i w; obtain ⟨g0, g1, g2⟩ := hSw); (have q2 := g0.cell 0 2 rfl rfl); (have q3 := g0.cell 0 3 rfl rfl); (have q4 := g0.cell 0 4 rfl rfl); (have q5 := g0.cell 0 5 rfl rfl); go_simp; try with_reducible rfl)
      try simp only [Act.put, List.setIfInBounds_toArray, List.set_cons_zero, List.set_cons_succ]
      first
        | refine Go.Shr.wpAnyF_skip 14 (oi := { dst := some 57, op := Go.Op.load 35 (Go.Operand.tmp 56), type := 35, pos := "law.go:100", after := #[{ on := 13, ground := Go.Ground.data }, { on := 9, ground := Go.Ground.guard }], guard := some (9, false) }) rfl (by kernel_rfl) (fun _ _ _ h => h) (by assumption) (by rfl) ?_
        | (refine Go.Shr.wpAnyF_take 14 (oi := { dst := some 57, op := Go.Op.load 35 (Go.Operand.tmp 56), type := 35, pos := "law.go:100", after := #[{ on := 13, ground := Go.Ground.data }, { on := 9, ground := Go.Ground.guard }], guard := some (9, false) }) (v := ?g1rv15) rfl (by kernel_rfl) (fun _ _ _ h => h) (by assumption) (by rfl) ?g1ry15 ?g1rr15
           case g1ry15 => intro w hSw; (rename_i w; obtain ⟨g0, g1, g2⟩ := hSw); (have q2 := g0.cell 0 2 rfl rfl); (have q3 := g0.cell 0 3 rfl rfl); (have q4 := g0.cell 0 4 rfl rfl); (have q5 := g0.cell 0 5 rfl rfl); go_simp; try with_reducible rfl)
      try simp only [Act.put, List.setIfInBounds_toArray, List.set_cons_zero, List.set_cons_succ]
      first
        | refine Go.Shr.wpAnyF_skip 15 (oi := { dst := some 58, op := Go.Op.fieldAddr 37 (Go.Operand.tmp 9) 3, type := 0, pos := "law.go:100", after := #[{ on := 9, ground := Go.Ground.guard }], guard := some (9, false) }) rfl (by kernel_rfl) (fun _ _ _ h => h) (by assumption) (by rfl) ?_
        | (refine Go.Shr.wpAnyF_take 15 (oi := { dst := some 58, op := Go.Op.fieldAddr 37 (Go.Operand.tmp 9) 3, type := 0, pos := "law.go:100", after := #[{ on := 9, ground := Go.Ground.guard }], guard := some (9, false) }) (v := ?g1rv16) rfl (by kernel_rfl) (fun _ _ _ h => h) (by assumption) (by rfl) ?g1ry16 ?g1rr16
           case g1ry16 => intro w hSw; (rename_i w; obtain ⟨g0, g1, g2⟩ := hSw); (have q2 := g0.cell 0 2 rfl rfl); (have q3 := g0.cell 0 3 rfl rfl); (have q4 := g0.cell 0 4 rfl rfl); (have q5 := g0.cell 0 5 rfl rfl); go_simp; try with_reducible rfl)
      try simp only [Act.put, List.setIfInBounds_toArray, List.set_cons_zero, List.set_cons_succ]
      first
        | refine Go.Shr.wpAnyF_skip 16 (oi := { dst := some 59, op := Go.Op.load 35 (Go.Operand.tmp 58), type := 35, pos := "law.go:100", after := #[{ on := 15, ground := Go.Ground.data }, { on := 9, ground := Go.Ground.guard }], guard := some (9, false) }) rfl (by kernel_rfl) (fun _ _ _ h => h) (by assumption) (by rfl) ?_
        | (refine Go.Shr.wpAnyF_take 16 (oi := { dst := some 59, op := Go.Op.load 35 (Go.Operand.tmp 58), type := 35, pos := "law.go:100", after := #[{ on := 15, ground := Go.Ground.data }, { on := 9, ground := Go.Ground.guard }], guard := some (9, false) }) (v := ?g1rv17) rfl (by kernel_rfl) (fun _ _ _ h => h) (by assumption) (by rfl) ?g1ry17 ?g1rr17
           case g1ry17 => intro w hSw; (rename_i w; obtain ⟨g0, g1, g2⟩ := hSw); (have q2 := g0.cell 0 2 rfl rfl); (have q3 := g0.cell 0 3 rfl rfl); (have q4 := g0.cell 0 4 rfl rfl); (have q5 := g0.cell 0 5 rfl rfl); go_simp; try with_reducible rfl)
      try simp only [Act.put, List.setIfInBounds_toArray, List.set_cons_zero, List.set_cons_succ]
      refine Go.Shr.wpAnyF_ready [17] (by kernel_rfl) (by simp) ?_
      refine Go.Shr.AllReadyF.cons 17 (o := { dst := some 60, op := Go.Op.call { callee := Go.Callee.value (Go.Operand.func 17), args := #[Go.Operand.tmp 53, Go.Operand.tmp 57, Go.Operand.tmp 59], argTypes := #[3, 35, 35] }, type := 3, pos := "law.go:100", after := #[{ on := 10, ground := Go.Ground.data }, { on := 14, ground := Go.Ground.data }, { on := 16, ground := Go.Ground.data }, { on := 9, ground := Go.Ground.chain }, { on := 9, ground := Go.Ground.guard }], guard := some (9, false) }) rfl (fun K hK => ?g1ro18) ?g1rm18
      case g1rm18 => exact Go.Shr.AllReadyF.nil
      go_simp; refine (rcompare_v k x s.mx _ hxs hmx).mono ?_; rintro e w7 ⟨rfl, hb7⟩; rw [P2.out]; dsimp only
      refine hK.out _ _ ?g1rs18 (fun hHeld => ?g1rt18)
      case g1rs18 => (try dsimp only); (first | exact ⟨HR9'.out.drew, e1, e2⟩ | exact ⟨hHeld.1.below hb6, cb hb6 hHeld.2.1, cb hb6 hHeld.2.2⟩ | exact ⟨hHeld.1.below hb7, cb hb7 hHeld.2.1, cb hb7 hHeld.2.2⟩)
      try dsimp only at hHeld
      clear hK K
      try simp only [Act.put, List.setIfInBounds_toArray, List.set_cons_zero, List.set_cons_succ]
      first
        | refine Go.Shr.wpAnyF_skip 18 (oi := { dst := some 61, op := Go.Op.binOp Go.BinOp.gtr 3 (Go.Operand.tmp 60) (Go.Operand.const (Go.Value.int Go.IntKind.i64 0)) 3, type := 4, pos := "law.go:100", after := #[{ on := 17, ground := Go.Ground.data }, { on := 9, ground := Go.Ground.guard }], guard := some (9, false) }) rfl (by kernel_rfl) (fun _ _ _ h => h) (by assumption) (by rfl) ?_
        | (refine Go.Shr.wpAnyF_take 18 (oi := { dst := some 61, op := Go.Op.binOp Go.BinOp.gtr 3 (Go.Operand.tmp 60) (Go.Operand.const (Go.Value.int Go.IntKind.i64 0)) 3, type := 4, pos := "law.go:100", after := #[{ on := 17, ground := Go.Ground.data }, { on := 9, ground := Go.Ground.guard }], guard := some (9, false) }) (v := ?g1rv19) rfl (by kernel_rfl) (fun _ _ _ h => h) (by assumption) (by rfl) ?g1ry19 ?g1rr19
           case g1ry19 => intro w hSw; (rename_i w; obtain ⟨g0, g1, g2⟩ := hSw); (have q2 := g0.cell 0 2 rfl rfl); (have q3 := g0.cell 0 3 rfl rfl); (have q4 := g0.cell 0 4 rfl rfl); (have q5 := g0.cell 0 5 rfl rfl); go_simp; try with_reducible rfl)
      try simp only [Act.put, List.setIfInBounds_toArray, List.set_cons_zero, List.set_cons_succ]
      refine Go.Shr.wpAnyF_take 19 (oi := { dst := some 62, op := Go.Op.pick (Go.Operand.tmp 52) (Go.Operand.const (Go.Value.bool true)) (Go.Operand.tmp 61), type := 4, pos := "law.go:100", after := #[{ on := 9, ground := Go.Ground.data }, { on := 18, ground := Go.Ground.data }], guard := none }) (v := ?g1rv20) rfl (by kernel_rfl) (fun _ _ _ h => h) (by assumption) (by rfl) ?g1ry20 ?g1rr20
      case g1ry20 => intro w hSw; (rename_i w; obtain ⟨g0, g1, g2⟩ := hSw); (have q2 := g0.cell 0 2 rfl rfl); (have q3 := g0.cell 0 3 rfl rfl); (have q4 := g0.cell 0 4 rfl rfl); (have q5 := g0.cell 0 5 rfl rfl); go_simp; try with_reducible rfl
      try simp only [Act.put, List.setIfInBounds_toArray, List.set_cons_zero, List.set_cons_succ]
      refine Go.Shr.wpAnyF_done (by kernel_rfl) ?_
      have HB7 := Lib.hid (bt (bt HBr.out.drew hb6) hb7).drew
      have HBw7 := Lib.hid (bt (bt HBw.out.drew hb6) hb7).drew
      clear hb6 hb7 e1 e2
      cases lo <;> cases hi
      · go_wp2_with fail
        refine Go.Shr.wp_region_F (fun w' => Rws w' [(w5.heap.size, #[.int .i64 s.nulls, .bool s.has, .int .i64 s.mn.n, .string s.mn.s, .int .i64 s.mx.n, .string s.mx.s], 37)] ∧ w'.cell? ⟨b, off + j * 2, none⟩ = some (.int .i64 x.n) ∧ w'.cell? ⟨b, off + j * 2 + 1, none⟩ = some (.string x.s)) [] (by kernel_rfl) ?g2rgS (fun hHeld => ?g2rgR)
        case g2rgS => (try dsimp only); (exact ⟨hHeld.1.drew, hHeld.2⟩)
        try dsimp only at hHeld
        refine Go.Shr.wpAnyF_take 0 (oi := { dst := some 63, op := Go.Op.move (Go.Operand.tmp 10), type := 4, pos := "law.go:103", after := #[], guard := none }) (v := ?g2rv1) rfl (by kernel_rfl) (fun _ _ _ h => h) (by assumption) (by rfl) ?g2ry1 ?g2rr1
        case g2ry1 => intro w hSw; (rename_i w; obtain ⟨g0, g1, g2⟩ := hSw); (have q2 := g0.cell 0 2 rfl rfl); (have q3 := g0.cell 0 3 rfl rfl); (have q4 := g0.cell 0 4 rfl rfl); (have q5 := g0.cell 0 5 rfl rfl); go_simp; try with_reducible rfl
        try simp only [Act.put, List.setIfInBounds_toArray, List.set_cons_zero, List.set_cons_succ]
        refine Go.Shr.wpAnyF_take 1 (oi := { dst := some 64, op := Go.Op.move (Go.Operand.tmp 63), type := 4, pos := "law.go:103", after := #[{ on := 0, ground := Go.Ground.data }], guard := none }) (v := ?g2rv2) rfl (by kernel_rfl) (fun _ _ _ h => h) (by assumption) (by rfl) ?g2ry2 ?g2rr2
        case g2ry2 => intro w hSw; (rename_i w; obtain ⟨g0, g1, g2⟩ := hSw); (have q2 := g0.cell 0 2 rfl rfl); (have q3 := g0.cell 0 3 rfl rfl); (have q4 := g0.cell 0 4 rfl rfl); (have q5 := g0.cell 0 5 rfl rfl); go_simp; try with_reducible rfl
        try simp only [Act.put, List.setIfInBounds_toArray, List.set_cons_zero, List.set_cons_succ]
        first
          | refine Go.Shr.wpAnyF_skip 2 (oi := { dst := some 65, op := Go.Op.move (Go.Operand.tmp 6), type := 22, pos := "law.go:103", after := #[{ on := 1, ground := Go.Ground.guard }], guard := some (1, false) }) rfl (by kernel_rfl) (fun _ _ _ h => h) (by assumption) (by rfl) ?_
          | (refine Go.Shr.wpAnyF_take 2 (oi := { dst := some 65, op := Go.Op.move (Go.Operand.tmp 6), type := 22, pos := "law.go:103", after := #[{ on := 1, ground := Go.Ground.guard }], guard := some (1, false) }) (v := ?g2rv3) rfl (by kernel_rfl) (fun _ _ _ h => h) (by assumption) (by rfl) ?g2ry3 ?g2rr3
             case g2ry3 => intro w hSw; (rename_i w; obtain ⟨g0, g1, g2⟩ := hSw); (have q2 := g0.cell 0 2 rfl rfl); (have q3 := g0.cell 0 3 rfl rfl); (have q4 := g0.cell 0 4 rfl rfl); (have q5 := g0.cell 0 5 rfl rfl); go_simp; try with_reducible rfl)
        try simp only [Act.put, List.setIfInBounds_toArray, List.set_cons_zero, List.set_cons_succ]
        first
          | refine Go.Shr.wpAnyF_skip 3 (oi := { dst := some 66, op := Go.Op.move (Go.Operand.tmp 12), type := 3, pos := "law.go:103", after := #[{ on := 1, ground := Go.Ground.guard }], guard := some (1, false) }) rfl (by kernel_rfl) (fun _ _ _ h => h) (by assumption) (by rfl) ?_
          | (refine Go.Shr.wpAnyF_take 3 (oi := { dst := some 66, op := Go.Op.move (Go.Operand.tmp 12), type := 3, pos := "law.go:103", after := #[{ on := 1, ground := Go.Ground.guard }], guard := some (1, false) }) (v := ?g2rv4) rfl (by kernel_rfl) (fun _ _ _ h => h) (by assumption) (by rfl) ?g2ry4 ?g2rr4
             case g2ry4 => intro w hSw; (rename_i w; obtain ⟨g0, g1, g2⟩ := hSw); (have q2 := g0.cell 0 2 rfl rfl); (have q3 := g0.cell 0 3 rfl rfl); (have q4 := g0.cell 0 4 rfl rfl); (have q5 := g0.cell 0 5 rfl rfl); go_simp; try with_reducible rfl)
        try simp only [Act.put, List.setIfInBounds_toArray, List.set_cons_zero, List.set_cons_succ]
        first
          | refine Go.Shr.wpAnyF_skip 4 (oi := { dst := some 67, op := Go.Op.indexAddr 22 (Go.Operand.tmp 65) (Go.Operand.tmp 66), type := 0, pos := "law.go:103", after := #[{ on := 2, ground := Go.Ground.data }, { on := 3, ground := Go.Ground.data }, { on := 1, ground := Go.Ground.guard }], guard := some (1, false) }) rfl (by kernel_rfl) (fun _ _ _ h => h) (by assumption) (by rfl) ?_
          | (refine Go.Shr.wpAnyF_take 4 (oi := { dst := some 67, op := Go.Op.indexAddr 22 (Go.Operand.tmp 65) (Go.Operand.tmp 66), type := 0, pos := "law.go:103", after := #[{ on := 2, ground := Go.Ground.data }, { on := 3, ground := Go.Ground.data }, { on := 1, ground := Go.Ground.guard }], guard := some (1, false) }) (v := ?g2rv5) rfl (by kernel_rfl) (fun _ _ _ h => h) (by assumption) (by rfl) ?g2ry5 ?g2rr5
             case g2ry5 => intro w hSw; (rename_i w; obtain ⟨g0, g1, g2⟩ := hSw); (have q2 := g0.cell 0 2 rfl rfl); (have q3 := g0.cell 0 3 rfl rfl); (have q4 := g0.cell 0 4 rfl rfl); (have q5 := g0.cell 0 5 rfl rfl); go_simp; try with_reducible rfl)
        try simp only [Act.put, List.setIfInBounds_toArray, List.set_cons_zero, List.set_cons_succ]
        first
          | refine Go.Shr.wpAnyF_skip 5 (oi := { dst := some 68, op := Go.Op.load 35 (Go.Operand.tmp 67), type := 35, pos := "law.go:103", after := #[{ on := 4, ground := Go.Ground.data }, { on := 1, ground := Go.Ground.guard }], guard := some (1, false) }) rfl (by kernel_rfl) (fun _ _ _ h => h) (by assumption) (by rfl) ?_
          | (refine Go.Shr.wpAnyF_take 5 (oi := { dst := some 68, op := Go.Op.load 35 (Go.Operand.tmp 67), type := 35, pos := "law.go:103", after := #[{ on := 4, ground := Go.Ground.data }, { on := 1, ground := Go.Ground.guard }], guard := some (1, false) }) (v := ?g2rv6) rfl (by kernel_rfl) (fun _ _ _ h => h) (by assumption) (by rfl) ?g2ry6 ?g2rr6
             case g2ry6 => intro w hSw; (rename_i w; obtain ⟨g0, g1, g2⟩ := hSw); (have q2 := g0.cell 0 2 rfl rfl); (have q3 := g0.cell 0 3 rfl rfl); (have q4 := g0.cell 0 4 rfl rfl); (have q5 := g0.cell 0 5 rfl rfl); go_simp; try with_reducible rfl)
        try simp only [Act.put, List.setIfInBounds_toArray, List.set_cons_zero, List.set_cons_succ]
        first
          | refine Go.Shr.wpAnyF_skip 6 (oi := { dst := some 69, op := Go.Op.fieldAddr 37 (Go.Operand.tmp 9) 2, type := 0, pos := "law.go:103", after := #[{ on := 1, ground := Go.Ground.guard }], guard := some (1, false) }) rfl (by kernel_rfl) (fun _ _ _ h => h) (by assumption) (by rfl) ?_
          | (refine Go.Shr.wpAnyF_take 6 (oi := { dst := some 69, op := Go.Op.fieldAddr 37 (Go.Operand.tmp 9) 2, type := 0, pos := "law.go:103", after := #[{ on := 1, ground := Go.Ground.guard }], guard := some (1, false) }) (v := ?g2rv7) rfl (by kernel_rfl) (fun _ _ _ h => h) (by assumption) (by rfl) ?g2ry7 ?g2rr7
             case g2ry7 => intro w hSw; (rename_i w; obtain ⟨g0, g1, g2⟩ := hSw); (have q2 := g0.cell 0 2 rfl rfl); (have q3 := g0.cell 0 3 rfl rfl); (have q4 := g0.cell 0 4 rfl rfl); (have q5 := g0.cell 0 5 rfl rfl); go_simp; try with_reducible rfl)
        try simp only [Act.put, List.setIfInBounds_toArray, List.set_cons_zero, List.set_cons_succ]
        first
          | refine Go.Shr.wpAnyF_skip 7 (oi := { dst := some 70, op := Go.Op.load 35 (Go.Operand.tmp 69), type := 35, pos := "law.go:103", after := #[{ on := 6, ground := Go.Ground.data }, { on := 1, ground := Go.Ground.guard }], guard := some (1, false) }) rfl (by kernel_rfl) (fun _ _ _ h => h) (by assumption) (by rfl) ?_
          | (refine Go.Shr.wpAnyF_take 7 (oi := { dst := some 70, op := Go.Op.load 35 (Go.Operand.tmp 69), type := 35, pos := "law.go:103", after := #[{ on := 6, ground := Go.Ground.data }, { on := 1, ground := Go.Ground.guard }], guard := some (1, false) }) (v := ?g2rv8) rfl (by kernel_rfl) (fun _ _ _ h => h) (by assumption) (by rfl) ?g2ry8 ?g2rr8
             case g2ry8 => intro w hSw; (rename_i w; obtain ⟨g0, g1, g2⟩ := hSw); (have q2 := g0.cell 0 2 rfl rfl); (have q3 := g0.cell 0 3 rfl rfl); (have q4 := g0.cell 0 4 rfl rfl); (have q5 := g0.cell 0 5 rfl rfl); go_simp; try with_reducible rfl)
        try simp only [Act.put, List.setIfInBounds_toArray, List.set_cons_zero, List.set_cons_succ]
        first
          | refine Go.Shr.wpAnyF_skip 8 (oi := { dst := some 71, op := Go.Op.binOp Go.BinOp.eql 35 (Go.Operand.tmp 68) (Go.Operand.tmp 70) 35, type := 4, pos := "law.go:103", after := #[{ on := 5, ground := Go.Ground.data }, { on := 7, ground := Go.Ground.data }, { on := 1, ground := Go.Ground.guard }], guard := some (1, false) }) rfl (by kernel_rfl) (fun _ _ _ h => h) (by assumption) (by rfl) ?_
          | (refine Go.Shr.wpAnyF_take 8 (oi := { dst := some 71, op := Go.Op.binOp Go.BinOp.eql 35 (Go.Operand.tmp 68) (Go.Operand.tmp 70) 35, type := 4, pos := "law.go:103", after := #[{ on := 5, ground := Go.Ground.data }, { on := 7, ground := Go.Ground.data }, { on := 1, ground := Go.Ground.guard }], guard := some (1, false) }) (v := ?g2rv9) rfl (by kernel_rfl) (fun _ _ _ h => h) (by assumption) (by rfl) ?g2ry9 ?g2rr9
             case g2ry9 => intro w hSw; (rename_i w; obtain ⟨g0, g1, g2⟩ := hSw); (have q2 := g0.cell 0 2 rfl rfl); (have q3 := g0.cell 0 3 rfl rfl); (have q4 := g0.cell 0 4 rfl rfl); (have q5 := g0.cell 0 5 rfl rfl); (refine eqlv_exec _ _ _ _ _ _ _ _ x s.mn _ ?_ ?_ <;> rfl))
        try simp only [Act.put, List.setIfInBounds_toArray, List.set_cons_zero, List.set_cons_succ]
        refine Go.Shr.wpAnyF_take 9 (oi := { dst := some 72, op := Go.Op.pick (Go.Operand.tmp 64) (Go.Operand.const (Go.Value.bool true)) (Go.Operand.tmp 71), type := 4, pos := "law.go:103", after := #[{ on := 1, ground := Go.Ground.data }, { on := 8, ground := Go.Ground.data }], guard := none }) (v := ?g2rv10) rfl (by kernel_rfl) (fun _ _ _ h => h) (by assumption) (by rfl) ?g2ry10 ?g2rr10
        case g2ry10 => intro w hSw; (rename_i w; obtain ⟨g0, g1, g2⟩ := hSw); (have q2 := g0.cell 0 2 rfl rfl); (have q3 := g0.cell 0 3 rfl rfl); (have q4 := g0.cell 0 4 rfl rfl); (have q5 := g0.cell 0 5 rfl rfl); go_simp; try with_reducible rfl
        try simp only [Act.put, List.setIfInBounds_toArray, List.set_cons_zero, List.set_cons_succ]
        refine Go.Shr.wpAnyF_take 10 (oi := { dst := some 73, op := Go.Op.move (Go.Operand.tmp 11), type := 4, pos := "law.go:103", after := #[], guard := none }) (v := ?g2rv11) rfl (by kernel_rfl) (fun _ _ _ h => h) (by assumption) (by rfl) ?g2ry11 ?g2rr11
        case g2ry11 => intro w hSw; (rename_i w; obtain ⟨g0, g1, g2⟩ := hSw); (have q2 := g0.cell 0 2 rfl rfl); (have q3 := g0.cell 0 3 rfl rfl); (have q4 := g0.cell 0 4 rfl rfl); (have q5 := g0.cell 0 5 rfl rfl); go_simp; try with_reducible rfl
        try simp only [Act.put, List.setIfInBounds_toArray, List.set_cons_zero, List.set_cons_succ]
        refine Go.Shr.wpAnyF_take 11 (oi := { dst := some 74, op := Go.Op.move (Go.Operand.tmp 73), type := 4, pos := "law.go:103", after := #[{ on := 10, ground := Go.Ground.data }, { on := 1, ground := Go.Ground.chain }], guard := none }) (v := ?g2rv12) rfl (by kernel_rfl) (fun _ _ _ h => h) (by assumption) (by rfl) ?g2ry12 ?g2rr12
        case g2ry12 => intro w hSw; (rename_i w; obtain ⟨g0, g1, g2⟩ := hSw); (have q2 := g0.cell 0 2 rfl rfl); (have q3 := g0.cell 0 3 rfl rfl); (have q4 := g0.cell 0 4 rfl rfl); (have q5 := g0.cell 0 5 rfl rfl); go_simp; try with_reducible rfl
        try simp only [Act.put, List.setIfInBounds_toArray, List.set_cons_zero, List.set_cons_succ]
        first
          | refine Go.Shr.wpAnyF_skip 12 (oi := { dst := some 75, op := Go.Op.move (Go.Operand.tmp 6), type := 22, pos := "law.go:103", after := #[{ on := 11, ground := Go.Ground.guard }, { on := 20, ground := Go.Ground.gcOnly Go.Departure.lateStores }], guard := some (11, false) }) rfl (by kernel_rfl) (fun _ _ _ h => h) (by assumption) (by rfl) ?_
          | (refine Go.Shr.wpAnyF_take 12 (oi := { dst := some 75, op := Go.Op.move (Go.Operand.tmp 6), type := 22, pos := "law.go:103", after := #[{ on := 11, ground := Go.Ground.guard }, { on := 20, ground := Go.Ground.gcOnly Go.Departure.lateStores }], guard := some (11, false) }) (v := ?g2rv13) rfl (by kernel_rfl) (fun _ _ _ h => h) (by assumption) (by rfl) ?g2ry13 ?g2rr13
             case g2ry13 => intro w hSw; (rename_i w; obtain ⟨g0, g1, g2⟩ := hSw); (have q2 := g0.cell 0 2 rfl rfl); (have q3 := g0.cell 0 3 rfl rfl); (have q4 := g0.cell 0 4 rfl rfl); (have q5 := g0.cell 0 5 rfl rfl); go_simp; try with_reducible rfl)
        try simp only [Act.put, List.setIfInBounds_toArray, List.set_cons_zero, List.set_cons_succ]
        first
          | refine Go.Shr.wpAnyF_skip 13 (oi := { dst := some 76, op := Go.Op.move (Go.Operand.tmp 12), type := 3, pos := "law.go:103", after := #[{ on := 11, ground := Go.Ground.guard }, { on := 20, ground := Go.Ground.gcOnly Go.Departure.lateStores }], guard := some (11, false) }) rfl (by kernel_rfl) (fun _ _ _ h => h) (by assumption) (by rfl) ?_
          | (refine Go.Shr.wpAnyF_take 13 (oi := { dst := some 76, op := Go.Op.move (Go.Operand.tmp 12), type := 3, pos := "law.go:103", after := #[{ on := 11, ground := Go.Ground.guard }, { on := 20, ground := Go.Ground.gcOnly Go.Departure.lateStores }], guard := some (11, false) }) (v := ?g2rv14) rfl (by kernel_rfl) (fun _ _ _ h => h) (by assumption) (by rfl) ?g2ry14 ?g2rr14
             case g2ry14 => intro w hSw; (rename_i w; obtain ⟨g0, g1, g2⟩ := hSw); (have q2 := g0.cell 0 2 rfl rfl); (have q3 := g0.cell 0 3 rfl rfl); (have q4 := g0.cell 0 4 rfl rfl); (have q5 := g0.cell 0 5 rfl rfl); go_simp; try with_reducible rfl)
        try simp only [Act.put, List.setIfInBounds_toArray, List.set_cons_zero, List.set_cons_succ]
        first
          | refine Go.Shr.wpAnyF_skip 14 (oi := { dst := some 77, op := Go.Op.indexAddr 22 (Go.Operand.tmp 75) (Go.Operand.tmp 76), type := 0, pos := "law.go:103", after := #[{ on := 12, ground := Go.Ground.data }, { on := 13, ground := Go.Ground.data }, { on := 11, ground := Go.Ground.guard }, { on := 20, ground := Go.Ground.gcOnly Go.Departure.lateStores }], guard := some (11, false) }) rfl (by kernel_rfl) (fun _ _ _ h => h) (by assumption) (by rfl) ?_
          | (refine Go.Shr.wpAnyF_take 14 (oi := { dst := some 77, op := Go.Op.indexAddr 22 (Go.Operand.tmp 75) (Go.Operand.tmp 76), type := 0, pos := "law.go:103", after := #[{ on := 12, ground := Go.Ground.data }, { on := 13, ground := Go.Ground.data }, { on := 11, ground := Go.Ground.guard }, { on := 20, ground := Go.Ground.gcOnly Go.Departure.lateStores }], guard := some (11, false) }) (v := ?g2rv15) rfl (by kernel_rfl) (fun _ _ _ h => h) (by assumption) (by rfl) ?g2ry15 ?g2rr15
             case g2ry15 => intro w hSw; (rename_i w; obtain ⟨g0, g1, g2⟩ := hSw); (have q2 := g0.cell 0 2 rfl rfl); (have q3 := g0.cell 0 3 rfl rfl); (have q4 := g0.cell 0 4 rfl rfl); (have q5 := g0.cell 0 5 rfl rfl); go_simp; try with_reducible rfl)
        try simp only [Act.put, List.setIfInBounds_toArray, List.set_cons_zero, List.set_cons_succ]
        first
          | refine Go.Shr.wpAnyF_skip 15 (oi := { dst := some 78, op := Go.Op.load 35 (Go.Operand.tmp 77), type := 35, pos := "law.go:103", after := #[{ on := 14, ground := Go.Ground.data }, { on := 11, ground := Go.Ground.guard }, { on := 20, ground := Go.Ground.gcOnly Go.Departure.lateStores }], guard := some (11, false) }) rfl (by kernel_rfl) (fun _ _ _ h => h) (by assumption) (by rfl) ?_
          | (refine Go.Shr.wpAnyF_take 15 (oi := { dst := some 78, op := Go.Op.load 35 (Go.Operand.tmp 77), type := 35, pos := "law.go:103", after := #[{ on := 14, ground := Go.Ground.data }, { on := 11, ground := Go.Ground.guard }, { on := 20, ground := Go.Ground.gcOnly Go.Departure.lateStores }], guard := some (11, false) }) (v := ?g2rv16) rfl (by kernel_rfl) (fun _ _ _ h => h) (by assumption) (by rfl) ?g2ry16 ?g2rr16
             case g2ry16 => intro w hSw; (rename_i w; obtain ⟨g0, g1, g2⟩ := hSw); (have q2 := g0.cell 0 2 rfl rfl); (have q3 := g0.cell 0 3 rfl rfl); (have q4 := g0.cell 0 4 rfl rfl); (have q5 := g0.cell 0 5 rfl rfl); go_simp; try with_reducible rfl)
        try simp only [Act.put, List.setIfInBounds_toArray, List.set_cons_zero, List.set_cons_succ]
        first
          | refine Go.Shr.wpAnyF_skip 16 (oi := { dst := some 79, op := Go.Op.fieldAddr 37 (Go.Operand.tmp 9) 3, type := 0, pos := "law.go:103", after := #[{ on := 11, ground := Go.Ground.guard }, { on := 20, ground := Go.Ground.gcOnly Go.Departure.lateStores }], guard := some (11, false) }) rfl (by kernel_rfl) (fun _ _ _ h => h) (by assumption) (by rfl) ?_
          | (refine Go.Shr.wpAnyF_take 16 (oi := { dst := some 79, op := Go.Op.fieldAddr 37 (Go.Operand.tmp 9) 3, type := 0, pos := "law.go:103", after := #[{ on := 11, ground := Go.Ground.guard }, { on := 20, ground := Go.Ground.gcOnly Go.Departure.lateStores }], guard := some (11, false) }) (v := ?g2rv17) rfl (by kernel_rfl) (fun _ _ _ h => h) (by assumption) (by rfl) ?g2ry17 ?g2rr17
             case g2ry17 => intro w hSw; (rename_i w; obtain ⟨g0, g1, g2⟩ := hSw); (have q2 := g0.cell 0 2 rfl rfl); (have q3 := g0.cell 0 3 rfl rfl); (have q4 := g0.cell 0 4 rfl rfl); (have q5 := g0.cell 0 5 rfl rfl); go_simp; try with_reducible rfl)
        try simp only [Act.put, List.setIfInBounds_toArray, List.set_cons_zero, List.set_cons_succ]
        first
          | refine Go.Shr.wpAnyF_skip 17 (oi := { dst := some 80, op := Go.Op.load 35 (Go.Operand.tmp 79), type := 35, pos := "law.go:103", after := #[{ on := 16, ground := Go.Ground.data }, { on := 11, ground := Go.Ground.guard }, { on := 20, ground := Go.Ground.gcOnly Go.Departure.lateStores }], guard := some (11, false) }) rfl (by kernel_rfl) (fun _ _ _ h => h) (by assumption) (by rfl) ?_
          | (refine Go.Shr.wpAnyF_take 17 (oi := { dst := some 80, op := Go.Op.load 35 (Go.Operand.tmp 79), type := 35, pos := "law.go:103", after := #[{ on := 16, ground := Go.Ground.data }, { on := 11, ground := Go.Ground.guard }, { on := 20, ground := Go.Ground.gcOnly Go.Departure.lateStores }], guard := some (11, false) }) (v := ?g2rv18) rfl (by kernel_rfl) (fun _ _ _ h => h) (by assumption) (by rfl) ?g2ry18 ?g2rr18
             case g2ry18 => intro w hSw; (rename_i w; obtain ⟨g0, g1, g2⟩ := hSw); (have q2 := g0.cell 0 2 rfl rfl); (have q3 := g0.cell 0 3 rfl rfl); (have q4 := g0.cell 0 4 rfl rfl); (have q5 := g0.cell 0 5 rfl rfl); go_simp; try with_reducible rfl)
        try simp only [Act.put, List.setIfInBounds_toArray, List.set_cons_zero, List.set_cons_succ]
        first
          | refine Go.Shr.wpAnyF_skip 18 (oi := { dst := some 81, op := Go.Op.binOp Go.BinOp.eql 35 (Go.Operand.tmp 78) (Go.Operand.tmp 80) 35, type := 4, pos := "law.go:103", after := #[{ on := 15, ground := Go.Ground.data }, { on := 17, ground := Go.Ground.data }, { on := 11, ground := Go.Ground.guard }, { on := 20, ground := Go.Ground.gcOnly Go.Departure.lateStores }], guard := some (11, false) }) rfl (by kernel_rfl) (fun _ _ _ h => h) (by assumption) (by rfl) ?_
          | (refine Go.Shr.wpAnyF_take 18 (oi := { dst := some 81, op := Go.Op.binOp Go.BinOp.eql 35 (Go.Operand.tmp 78) (Go.Operand.tmp 80) 35, type := 4, pos := "law.go:103", after := #[{ on := 15, ground := Go.Ground.data }, { on := 17, ground := Go.Ground.data }, { on := 11, ground := Go.Ground.guard }, { on := 20, ground := Go.Ground.gcOnly Go.Departure.lateStores }], guard := some (11, false) }) (v := ?g2rv19) rfl (by kernel_rfl) (fun _ _ _ h => h) (by assumption) (by rfl) ?g2ry19 ?g2rr19
             case g2ry19 => intro w hSw; (rename_i w; obtain ⟨g0, g1, g2⟩ := hSw); (have q2 := g0.cell 0 2 rfl rfl); (have q3 := g0.cell 0 3 rfl rfl); (have q4 := g0.cell 0 4 rfl rfl); (have q5 := g0.cell 0 5 rfl rfl); (refine eqlv_exec _ _ _ _ _ _ _ _ x s.mx _ ?_ ?_ <;> rfl))
        try simp only [Act.put, List.setIfInBounds_toArray, List.set_cons_zero, List.set_cons_succ]
        refine Go.Shr.wpAnyF_take 19 (oi := { dst := some 82, op := Go.Op.pick (Go.Operand.tmp 74) (Go.Operand.const (Go.Value.bool true)) (Go.Operand.tmp 81), type := 4, pos := "law.go:103", after := #[{ on := 11, ground := Go.Ground.data }, { on := 18, ground := Go.Ground.data }, { on := 20, ground := Go.Ground.gcOnly Go.Departure.lateStores }], guard := none }) (v := ?g2rv20) rfl (by kernel_rfl) (fun _ _ _ h => h) (by assumption) (by rfl) ?g2ry20 ?g2rr20
        case g2ry20 => intro w hSw; (rename_i w; obtain ⟨g0, g1, g2⟩ := hSw); (have q2 := g0.cell 0 2 rfl rfl); (have q3 := g0.cell 0 3 rfl rfl); (have q4 := g0.cell 0 4 rfl rfl); (have q5 := g0.cell 0 5 rfl rfl); go_simp; try with_reducible rfl
        try simp only [Act.put, List.setIfInBounds_toArray, List.set_cons_zero, List.set_cons_succ]
        refine Go.Shr.wpAnyF_take 20 (oi := { dst := some 10, op := Go.Op.assign (Go.Operand.tmp 72), type := 4, pos := "law.go:103", after := #[{ on := 9, ground := Go.Ground.data }, { on := 11, ground := Go.Ground.chain }, { on := 0, ground := Go.Ground.phase }, { on := 1, ground := Go.Ground.phase }, { on := 2, ground := Go.Ground.phase }, { on := 3, ground := Go.Ground.phase }, { on := 4, ground := Go.Ground.phase }, { on := 5, ground := Go.Ground.phase }, { on := 6, ground := Go.Ground.phase }, { on := 7, ground := Go.Ground.phase }, { on := 8, ground := Go.Ground.phase }, { on := 9, ground := Go.Ground.phase }, { on := 10, ground := Go.Ground.textOnly Go.Departure.lateStores }, { on := 11, ground := Go.Ground.textOnly Go.Departure.lateStores }, { on := 12, ground := Go.Ground.textOnly Go.Departure.lateStores }, { on := 13, ground := Go.Ground.textOnly Go.Departure.lateStores }, { on := 14, ground := Go.Ground.textOnly Go.Departure.lateStores }, { on := 15, ground := Go.Ground.textOnly Go.Departure.lateStores }, { on := 16, ground := Go.Ground.textOnly Go.Departure.lateStores }, { on := 17, ground := Go.Ground.textOnly Go.Departure.lateStores }, { on := 18, ground := Go.Ground.textOnly Go.Departure.lateStores }, { on := 19, ground := Go.Ground.textOnly Go.Departure.lateStores }], guard := none }) (v := ?g2rv21) rfl (by kernel_rfl) (fun _ _ _ h => h) (by assumption) (by rfl) ?g2ry21 ?g2rr21
        case g2ry21 => intro w hSw; (rename_i w; obtain ⟨g0, g1, g2⟩ := hSw); (have q2 := g0.cell 0 2 rfl rfl); (have q3 := g0.cell 0 3 rfl rfl); (have q4 := g0.cell 0 4 rfl rfl); (have q5 := g0.cell 0 5 rfl rfl); go_simp; try with_reducible rfl
        try simp only [Act.put, List.setIfInBounds_toArray, List.set_cons_zero, List.set_cons_succ]
        refine Go.Shr.wpAnyF_take 21 (oi := { dst := some 11, op := Go.Op.assign (Go.Operand.tmp 82), type := 4, pos := "law.go:103", after := #[{ on := 19, ground := Go.Ground.data }, { on := 20, ground := Go.Ground.chain }, { on := 0, ground := Go.Ground.phase }, { on := 1, ground := Go.Ground.phase }, { on := 2, ground := Go.Ground.phase }, { on := 3, ground := Go.Ground.phase }, { on := 4, ground := Go.Ground.phase }, { on := 5, ground := Go.Ground.phase }, { on := 6, ground := Go.Ground.phase }, { on := 7, ground := Go.Ground.phase }, { on := 8, ground := Go.Ground.phase }, { on := 9, ground := Go.Ground.phase }, { on := 10, ground := Go.Ground.phase }, { on := 11, ground := Go.Ground.phase }, { on := 12, ground := Go.Ground.phase }, { on := 13, ground := Go.Ground.phase }, { on := 14, ground := Go.Ground.phase }, { on := 15, ground := Go.Ground.phase }, { on := 16, ground := Go.Ground.phase }, { on := 17, ground := Go.Ground.phase }, { on := 18, ground := Go.Ground.phase }, { on := 19, ground := Go.Ground.phase }, { on := 20, ground := Go.Ground.phase }], guard := none }) (v := ?g2rv22) rfl (by kernel_rfl) (fun _ _ _ h => h) (by assumption) (by rfl) ?g2ry22 ?g2rr22
        case g2ry22 => intro w hSw; (rename_i w; obtain ⟨g0, g1, g2⟩ := hSw); (have q2 := g0.cell 0 2 rfl rfl); (have q3 := g0.cell 0 3 rfl rfl); (have q4 := g0.cell 0 4 rfl rfl); (have q5 := g0.cell 0 5 rfl rfl); go_simp; try with_reducible rfl
        try simp only [Act.put, List.setIfInBounds_toArray, List.set_cons_zero, List.set_cons_succ]
        refine Go.Shr.wpAnyF_done (by kernel_rfl) ?_
        go_wp2_with fail
        go_roundw
        case rel => exact ⟨j + 1, by go_num, by omega, by rw [T1.out]; first | rfl | simp, by rw [T2.out]; first | rfl | simp, Lib.hid hHeld.1.drew, Lib.hid HB7.out, Lib.hid HBw7.out⟩
        case measure => simp [intOf]; omega
      · go_wp2_with fail
        refine Go.Shr.wp_region_F (fun w' => Rws w' [(w5.heap.size, #[.int .i64 s.nulls, .bool s.has, .int .i64 s.mn.n, .string s.mn.s, .int .i64 s.mx.n, .string s.mx.s], 37)] ∧ w'.cell? ⟨b, off + j * 2, none⟩ = some (.int .i64 x.n) ∧ w'.cell? ⟨b, off + j * 2 + 1, none⟩ = some (.string x.s)) [] (by kernel_rfl) ?g3rgS (fun hHeld => ?g3rgR)
        case g3rgS => (try dsimp only); (exact ⟨hHeld.1.drew, hHeld.2⟩)
        try dsimp only at hHeld
        refine Go.Shr.wpAnyF_take 0 (oi := { dst := some 63, op := Go.Op.move (Go.Operand.tmp 10), type := 4, pos := "law.go:103", after := #[], guard := none }) (v := ?g3rv1) rfl (by kernel_rfl) (fun _ _ _ h => h) (by assumption) (by rfl) ?g3ry1 ?g3rr1
        case g3ry1 => intro w hSw; (rename_i w; obtain ⟨g0, g1, g2⟩ := hSw); (have q2 := g0.cell 0 2 rfl rfl); (have q3 := g0.cell 0 3 rfl rfl); (have q4 := g0.cell 0 4 rfl rfl); (have q5 := g0.cell 0 5 rfl rfl); go_simp; try with_reducible rfl
        try simp only [Act.put, List.setIfInBounds_toArray, List.set_cons_zero, List.set_cons_succ]
        refine Go.Shr.wpAnyF_take 1 (oi := { dst := some 64, op := Go.Op.move (Go.Operand.tmp 63), type := 4, pos := "law.go:103", after := #[{ on := 0, ground := Go.Ground.data }], guard := none }) (v := ?g3rv2) rfl (by kernel_rfl) (fun _ _ _ h => h) (by assumption) (by rfl) ?g3ry2 ?g3rr2
        case g3ry2 => intro w hSw; (rename_i w; obtain ⟨g0, g1, g2⟩ := hSw); (have q2 := g0.cell 0 2 rfl rfl); (have q3 := g0.cell 0 3 rfl rfl); (have q4 := g0.cell 0 4 rfl rfl); (have q5 := g0.cell 0 5 rfl rfl); go_simp; try with_reducible rfl
        try simp only [Act.put, List.setIfInBounds_toArray, List.set_cons_zero, List.set_cons_succ]
        first
          | refine Go.Shr.wpAnyF_skip 2 (oi := { dst := some 65, op := Go.Op.move (Go.Operand.tmp 6), type := 22, pos := "law.go:103", after := #[{ on := 1, ground := Go.Ground.guard }], guard := some (1, false) }) rfl (by kernel_rfl) (fun _ _ _ h => h) (by assumption) (by rfl) ?_
          | (refine Go.Shr.wpAnyF_take 2 (oi := { dst := some 65, op := Go.Op.move (Go.Operand.tmp 6), type := 22, pos := "law.go:103", after := #[{ on := 1, ground := Go.Ground.guard }], guard := some (1, false) }) (v := ?g3rv3) rfl (by kernel_rfl) (fun _ _ _ h => h) (by assumption) (by rfl) ?g3ry3 ?g3rr3
             case g3ry3 => intro w hSw; (rename_i w; obtain ⟨g0, g1, g2⟩ := hSw); (have q2 := g0.cell 0 2 rfl rfl); (have q3 := g0.cell 0 3 rfl rfl); (have q4 := g0.cell 0 4 rfl rfl); (have q5 := g0.cell 0 5 rfl rfl); go_simp; try with_reducible rfl)
        try simp only [Act.put, List.setIfInBounds_toArray, List.set_cons_zero, List.set_cons_succ]
        first
          | refine Go.Shr.wpAnyF_skip 3 (oi := { dst := some 66, op := Go.Op.move (Go.Operand.tmp 12), type := 3, pos := "law.go:103", after := #[{ on := 1, ground := Go.Ground.guard }], guard := some (1, false) }) rfl (by kernel_rfl) (fun _ _ _ h => h) (by assumption) (by rfl) ?_
          | (refine Go.Shr.wpAnyF_take 3 (oi := { dst := some 66, op := Go.Op.move (Go.Operand.tmp 12), type := 3, pos := "law.go:103", after := #[{ on := 1, ground := Go.Ground.guard }], guard := some (1, false) }) (v := ?g3rv4) rfl (by kernel_rfl) (fun _ _ _ h => h) (by assumption) (by rfl) ?g3ry4 ?g3rr4
             case g3ry4 => intro w hSw; (rename_i w; obtain ⟨g0, g1, g2⟩ := hSw); (have q2 := g0.cell 0 2 rfl rfl); (have q3 := g0.cell 0 3 rfl rfl); (have q4 := g0.cell 0 4 rfl rfl); (have q5 := g0.cell 0 5 rfl rfl); go_simp; try with_reducible rfl)
        try simp only [Act.put, List.setIfInBounds_toArray, List.set_cons_zero, List.set_cons_succ]
        first
          | refine Go.Shr.wpAnyF_skip 4 (oi := { dst := some 67, op := Go.Op.indexAddr 22 (Go.Operand.tmp 65) (Go.Operand.tmp 66), type := 0, pos := "law.go:103", after := #[{ on := 2, ground := Go.Ground.data }, { on := 3, ground := Go.Ground.data }, { on := 1, ground := Go.Ground.guard }], guard := some (1, false) }) rfl (by kernel_rfl) (fun _ _ _ h => h) (by assumption) (by rfl) ?_
          | (refine Go.Shr.wpAnyF_take 4 (oi := { dst := some 67, op := Go.Op.indexAddr 22 (Go.Operand.tmp 65) (Go.Operand.tmp 66), type := 0, pos := "law.go:103", after := #[{ on := 2, ground := Go.Ground.data }, { on := 3, ground := Go.Ground.data }, { on := 1, ground := Go.Ground.guard }], guard := some (1, false) }) (v := ?g3rv5) rfl (by kernel_rfl) (fun _ _ _ h => h) (by assumption) (by rfl) ?g3ry5 ?g3rr5
             case g3ry5 => intro w hSw; (rename_i w; obtain ⟨g0, g1, g2⟩ := hSw); (have q2 := g0.cell 0 2 rfl rfl); (have q3 := g0.cell 0 3 rfl rfl); (have q4 := g0.cell 0 4 rfl rfl); (have q5 := g0.cell 0 5 rfl rfl); go_simp; try with_reducible rfl)
        try simp only [Act.put, List.setIfInBounds_toArray, List.set_cons_zero, List.set_cons_succ]
        first
          | refine Go.Shr.wpAnyF_skip 5 (oi := { dst := some 68, op := Go.Op.load 35 (Go.Operand.tmp 67), type := 35, pos := "law.go:103", after := #[{ on := 4, ground := Go.Ground.data }, { on := 1, ground := Go.Ground.guard }], guard := some (1, false) }) rfl (by kernel_rfl) (fun _ _ _ h => h) (by assumption) (by rfl) ?_
          | (refine Go.Shr.wpAnyF_take 5 (oi := { dst := some 68, op := Go.Op.load 35 (Go.Operand.tmp 67), type := 35, pos := "law.go:103", after := #[{ on := 4, ground := Go.Ground.data }, { on := 1, ground := Go.Ground.guard }], guard := some (1, false) }) (v := ?g3rv6) rfl (by kernel_rfl) (fun _ _ _ h => h) (by assumption) (by rfl) ?g3ry6 ?g3rr6
             case g3ry6 => intro w hSw; (rename_i w; obtain ⟨g0, g1, g2⟩ := hSw); (have q2 := g0.cell 0 2 rfl rfl); (have q3 := g0.cell 0 3 rfl rfl); (have q4 := g0.cell 0 4 rfl rfl); (have q5 := g0.cell 0 5 rfl rfl); go_simp; try with_reducible rfl)
        try simp only [Act.put, List.setIfInBounds_toArray, List.set_cons_zero, List.set_cons_succ]
        first
          | refine Go.Shr.wpAnyF_skip 6 (oi := { dst := some 69, op := Go.Op.fieldAddr 37 (Go.Operand.tmp 9) 2, type := 0, pos := "law.go:103", after := #[{ on := 1, ground := Go.Ground.guard }], guard := some (1, false) }) rfl (by kernel_rfl) (fun _ _ _ h => h) (by assumption) (by rfl) ?_
          | (refine Go.Shr.wpAnyF_take 6 (oi := { dst := some 69, op := Go.Op.fieldAddr 37 (Go.Operand.tmp 9) 2, type := 0, pos := "law.go:103", after := #[{ on := 1, ground := Go.Ground.guard }], guard := some (1, false) }) (v := ?g3rv7) rfl (by kernel_rfl) (fun _ _ _ h => h) (by assumption) (by rfl) ?g3ry7 ?g3rr7
             case g3ry7 => intro w hSw; (rename_i w; obtain ⟨g0, g1, g2⟩ := hSw); (have q2 := g0.cell 0 2 rfl rfl); (have q3 := g0.cell 0 3 rfl rfl); (have q4 := g0.cell 0 4 rfl rfl); (have q5 := g0.cell 0 5 rfl rfl); go_simp; try with_reducible rfl)
        try simp only [Act.put, List.setIfInBounds_toArray, List.set_cons_zero, List.set_cons_succ]
        first
          | refine Go.Shr.wpAnyF_skip 7 (oi := { dst := some 70, op := Go.Op.load 35 (Go.Operand.tmp 69), type := 35, pos := "law.go:103", after := #[{ on := 6, ground := Go.Ground.data }, { on := 1, ground := Go.Ground.guard }], guard := some (1, false) }) rfl (by kernel_rfl) (fun _ _ _ h => h) (by assumption) (by rfl) ?_
          | (refine Go.Shr.wpAnyF_take 7 (oi := { dst := some 70, op := Go.Op.load 35 (Go.Operand.tmp 69), type := 35, pos := "law.go:103", after := #[{ on := 6, ground := Go.Ground.data }, { on := 1, ground := Go.Ground.guard }], guard := some (1, false) }) (v := ?g3rv8) rfl (by kernel_rfl) (fun _ _ _ h => h) (by assumption) (by rfl) ?g3ry8 ?g3rr8
             case g3ry8 => intro w hSw; (rename_i w; obtain ⟨g0, g1, g2⟩ := hSw); (have q2 := g0.cell 0 2 rfl rfl); (have q3 := g0.cell 0 3 rfl rfl); (have q4 := g0.cell 0 4 rfl rfl); (have q5 := g0.cell 0 5 rfl rfl); go_simp; try with_reducible rfl)
        try simp only [Act.put, List.setIfInBounds_toArray, List.set_cons_zero, List.set_cons_succ]
        first
          | refine Go.Shr.wpAnyF_skip 8 (oi := { dst := some 71, op := Go.Op.binOp Go.BinOp.eql 35 (Go.Operand.tmp 68) (Go.Operand.tmp 70) 35, type := 4, pos := "law.go:103", after := #[{ on := 5, ground := Go.Ground.data }, { on := 7, ground := Go.Ground.data }, { on := 1, ground := Go.Ground.guard }], guard := some (1, false) }) rfl (by kernel_rfl) (fun _ _ _ h => h) (by assumption) (by rfl) ?_
          | (refine Go.Shr.wpAnyF_take 8 (oi := { dst := some 71, op := Go.Op.binOp Go.BinOp.eql 35 (Go.Operand.tmp 68) (Go.Operand.tmp 70) 35, type := 4, pos := "law.go:103", after := #[{ on := 5, ground := Go.Ground.data }, { on := 7, ground := Go.Ground.data }, { on := 1, ground := Go.Ground.guard }], guard := some (1, false) }) (v := ?g3rv9) rfl (by kernel_rfl) (fun _ _ _ h => h) (by assumption) (by rfl) ?g3ry9 ?g3rr9
             case g3ry9 => intro w hSw; (rename_i w; obtain ⟨g0, g1, g2⟩ := hSw); (have q2 := g0.cell 0 2 rfl rfl); (have q3 := g0.cell 0 3 rfl rfl); (have q4 := g0.cell 0 4 rfl rfl); (have q5 := g0.cell 0 5 rfl rfl); (refine eqlv_exec _ _ _ _ _ _ _ _ x s.mn _ ?_ ?_ <;> rfl))
        try simp only [Act.put, List.setIfInBounds_toArray, List.set_cons_zero, List.set_cons_succ]
        refine Go.Shr.wpAnyF_take 9 (oi := { dst := some 72, op := Go.Op.pick (Go.Operand.tmp 64) (Go.Operand.const (Go.Value.bool true)) (Go.Operand.tmp 71), type := 4, pos := "law.go:103", after := #[{ on := 1, ground := Go.Ground.data }, { on := 8, ground := Go.Ground.data }], guard := none }) (v := ?g3rv10) rfl (by kernel_rfl) (fun _ _ _ h => h) (by assumption) (by rfl) ?g3ry10 ?g3rr10
        case g3ry10 => intro w hSw; (rename_i w; obtain ⟨g0, g1, g2⟩ := hSw); (have q2 := g0.cell 0 2 rfl rfl); (have q3 := g0.cell 0 3 rfl rfl); (have q4 := g0.cell 0 4 rfl rfl); (have q5 := g0.cell 0 5 rfl rfl); go_simp; try with_reducible rfl
        try simp only [Act.put, List.setIfInBounds_toArray, List.set_cons_zero, List.set_cons_succ]
        refine Go.Shr.wpAnyF_take 10 (oi := { dst := some 73, op := Go.Op.move (Go.Operand.tmp 11), type := 4, pos := "law.go:103", after := #[], guard := none }) (v := ?g3rv11) rfl (by kernel_rfl) (fun _ _ _ h => h) (by assumption) (by rfl) ?g3ry11 ?g3rr11
        case g3ry11 => intro w hSw; (rename_i w; obtain ⟨g0, g1, g2⟩ := hSw); (have q2 := g0.cell 0 2 rfl rfl); (have q3 := g0.cell 0 3 rfl rfl); (have q4 := g0.cell 0 4 rfl rfl); (have q5 := g0.cell 0 5 rfl rfl); go_simp; try with_reducible rfl
        try simp only [Act.put, List.setIfInBounds_toArray, List.set_cons_zero, List.set_cons_succ]
        refine Go.Shr.wpAnyF_take 11 (oi := { dst := some 74, op := Go.Op.move (Go.Operand.tmp 73), type := 4, pos := "law.go:103", after := #[{ on := 10, ground := Go.Ground.data }, { on := 1, ground := Go.Ground.chain }], guard := none }) (v := ?g3rv12) rfl (by kernel_rfl) (fun _ _ _ h => h) (by assumption) (by rfl) ?g3ry12 ?g3rr12
        case g3ry12 => intro w hSw; (rename_i w; obtain ⟨g0, g1, g2⟩ := hSw); (have q2 := g0.cell 0 2 rfl rfl); (have q3 := g0.cell 0 3 rfl rfl); (have q4 := g0.cell 0 4 rfl rfl); (have q5 := g0.cell 0 5 rfl rfl); go_simp; try with_reducible rfl
        try simp only [Act.put, List.setIfInBounds_toArray, List.set_cons_zero, List.set_cons_succ]
        first
          | refine Go.Shr.wpAnyF_skip 12 (oi := { dst := some 75, op := Go.Op.move (Go.Operand.tmp 6), type := 22, pos := "law.go:103", after := #[{ on := 11, ground := Go.Ground.guard }, { on := 20, ground := Go.Ground.gcOnly Go.Departure.lateStores }], guard := some (11, false) }) rfl (by kernel_rfl) (fun _ _ _ h => h) (by assumption) (by rfl) ?_
          | (refine Go.Shr.wpAnyF_take 12 (oi := { dst := some 75, op := Go.Op.move (Go.Operand.tmp 6), type := 22, pos := "law.go:103", after := #[{ on := 11, ground := Go.Ground.guard }, { on := 20, ground := Go.Ground.gcOnly Go.Departure.lateStores }], guard := some (11, false) }) (v := ?g3rv13) rfl (by kernel_rfl) (fun _ _ _ h => h) (by assumption) (by rfl) ?g3ry13 ?g3rr13
             case g3ry13 => intro w hSw; (rename_i w; obtain ⟨g0, g1, g2⟩ := hSw); (have q2 := g0.cell 0 2 rfl rfl); (have q3 := g0.cell 0 3 rfl rfl); (have q4 := g0.cell 0 4 rfl rfl); (have q5 := g0.cell 0 5 rfl rfl); go_simp; try with_reducible rfl)
        try simp only [Act.put, List.setIfInBounds_toArray, List.set_cons_zero, List.set_cons_succ]
        first
          | refine Go.Shr.wpAnyF_skip 13 (oi := { dst := some 76, op := Go.Op.move (Go.Operand.tmp 12), type := 3, pos := "law.go:103", after := #[{ on := 11, ground := Go.Ground.guard }, { on := 20, ground := Go.Ground.gcOnly Go.Departure.lateStores }], guard := some (11, false) }) rfl (by kernel_rfl) (fun _ _ _ h => h) (by assumption) (by rfl) ?_
          | (refine Go.Shr.wpAnyF_take 13 (oi := { dst := some 76, op := Go.Op.move (Go.Operand.tmp 12), type := 3, pos := "law.go:103", after := #[{ on := 11, ground := Go.Ground.guard }, { on := 20, ground := Go.Ground.gcOnly Go.Departure.lateStores }], guard := some (11, false) }) (v := ?g3rv14) rfl (by kernel_rfl) (fun _ _ _ h => h) (by assumption) (by rfl) ?g3ry14 ?g3rr14
             case g3ry14 => intro w hSw; (rename_i w; obtain ⟨g0, g1, g2⟩ := hSw); (have q2 := g0.cell 0 2 rfl rfl); (have q3 := g0.cell 0 3 rfl rfl); (have q4 := g0.cell 0 4 rfl rfl); (have q5 := g0.cell 0 5 rfl rfl); go_simp; try with_reducible rfl)
        try simp only [Act.put, List.setIfInBounds_toArray, List.set_cons_zero, List.set_cons_succ]
        first
          | refine Go.Shr.wpAnyF_skip 14 (oi := { dst := some 77, op := Go.Op.indexAddr 22 (Go.Operand.tmp 75) (Go.Operand.tmp 76), type := 0, pos := "law.go:103", after := #[{ on := 12, ground := Go.Ground.data }, { on := 13, ground := Go.Ground.data }, { on := 11, ground := Go.Ground.guard }, { on := 20, ground := Go.Ground.gcOnly Go.Departure.lateStores }], guard := some (11, false) }) rfl (by kernel_rfl) (fun _ _ _ h => h) (by assumption) (by rfl) ?_
          | (refine Go.Shr.wpAnyF_take 14 (oi := { dst := some 77, op := Go.Op.indexAddr 22 (Go.Operand.tmp 75) (Go.Operand.tmp 76), type := 0, pos := "law.go:103", after := #[{ on := 12, ground := Go.Ground.data }, { on := 13, ground := Go.Ground.data }, { on := 11, ground := Go.Ground.guard }, { on := 20, ground := Go.Ground.gcOnly Go.Departure.lateStores }], guard := some (11, false) }) (v := ?g3rv15) rfl (by kernel_rfl) (fun _ _ _ h => h) (by assumption) (by rfl) ?g3ry15 ?g3rr15
             case g3ry15 => intro w hSw; (rename_i w; obtain ⟨g0, g1, g2⟩ := hSw); (have q2 := g0.cell 0 2 rfl rfl); (have q3 := g0.cell 0 3 rfl rfl); (have q4 := g0.cell 0 4 rfl rfl); (have q5 := g0.cell 0 5 rfl rfl); go_simp; try with_reducible rfl)
        try simp only [Act.put, List.setIfInBounds_toArray, List.set_cons_zero, List.set_cons_succ]
        first
          | refine Go.Shr.wpAnyF_skip 15 (oi := { dst := some 78, op := Go.Op.load 35 (Go.Operand.tmp 77), type := 35, pos := "law.go:103", after := #[{ on := 14, ground := Go.Ground.data }, { on := 11, ground := Go.Ground.guard }, { on := 20, ground := Go.Ground.gcOnly Go.Departure.lateStores }], guard := some (11, false) }) rfl (by kernel_rfl) (fun _ _ _ h => h) (by assumption) (by rfl) ?_
          | (refine Go.Shr.wpAnyF_take 15 (oi := { dst := some 78, op := Go.Op.load 35 (Go.Operand.tmp 77), type := 35, pos := "law.go:103", after := #[{ on := 14, ground := Go.Ground.data }, { on := 11, ground := Go.Ground.guard }, { on := 20, ground := Go.Ground.gcOnly Go.Departure.lateStores }], guard := some (11, false) }) (v := ?g3rv16) rfl (by kernel_rfl) (fun _ _ _ h => h) (by assumption) (by rfl) ?g3ry16 ?g3rr16
             case g3ry16 => intro w hSw; (rename_i w; obtain ⟨g0, g1, g2⟩ := hSw); (have q2 := g0.cell 0 2 rfl rfl); (have q3 := g0.cell 0 3 rfl rfl); (have q4 := g0.cell 0 4 rfl rfl); (have q5 := g0.cell 0 5 rfl rfl); go_simp; try with_reducible rfl)
        try simp only [Act.put, List.setIfInBounds_toArray, List.set_cons_zero, List.set_cons_succ]
        first
          | refine Go.Shr.wpAnyF_skip 16 (oi := { dst := some 79, op := Go.Op.fieldAddr 37 (Go.Operand.tmp 9) 3, type := 0, pos := "law.go:103", after := #[{ on := 11, ground := Go.Ground.guard }, { on := 20, ground := Go.Ground.gcOnly Go.Departure.lateStores }], guard := some (11, false) }) rfl (by kernel_rfl) (fun _ _ _ h => h) (by assumption) (by rfl) ?_
          | (refine Go.Shr.wpAnyF_take 16 (oi := { dst := some 79, op := Go.Op.fieldAddr 37 (Go.Operand.tmp 9) 3, type := 0, pos := "law.go:103", after := #[{ on := 11, ground := Go.Ground.guard }, { on := 20, ground := Go.Ground.gcOnly Go.Departure.lateStores }], guard := some (11, false) }) (v := ?g3rv17) rfl (by kernel_rfl) (fun _ _ _ h => h) (by assumption) (by rfl) ?g3ry17 ?g3rr17
             case g3ry17 => intro w hSw; (rename_i w; obtain ⟨g0, g1, g2⟩ := hSw); (have q2 := g0.cell 0 2 rfl rfl); (have q3 := g0.cell 0 3 rfl rfl); (have q4 := g0.cell 0 4 rfl rfl); (have q5 := g0.cell 0 5 rfl rfl); go_simp; try with_reducible rfl)
        try simp only [Act.put, List.setIfInBounds_toArray, List.set_cons_zero, List.set_cons_succ]
        first
          | refine Go.Shr.wpAnyF_skip 17 (oi := { dst := some 80, op := Go.Op.load 35 (Go.Operand.tmp 79), type := 35, pos := "law.go:103", after := #[{ on := 16, ground := Go.Ground.data }, { on := 11, ground := Go.Ground.guard }, { on := 20, ground := Go.Ground.gcOnly Go.Departure.lateStores }], guard := some (11, false) }) rfl (by kernel_rfl) (fun _ _ _ h => h) (by assumption) (by rfl) ?_
          | (refine Go.Shr.wpAnyF_take 17 (oi := { dst := some 80, op := Go.Op.load 35 (Go.Operand.tmp 79), type := 35, pos := "law.go:103", after := #[{ on := 16, ground := Go.Ground.data }, { on := 11, ground := Go.Ground.guard }, { on := 20, ground := Go.Ground.gcOnly Go.Departure.lateStores }], guard := some (11, false) }) (v := ?g3rv18) rfl (by kernel_rfl) (fun _ _ _ h => h) (by assumption) (by rfl) ?g3ry18 ?g3rr18
             case g3ry18 => intro w hSw; (rename_i w; obtain ⟨g0, g1, g2⟩ := hSw); (have q2 := g0.cell 0 2 rfl rfl); (have q3 := g0.cell 0 3 rfl rfl); (have q4 := g0.cell 0 4 rfl rfl); (have q5 := g0.cell 0 5 rfl rfl); go_simp; try with_reducible rfl)
        try simp only [Act.put, List.setIfInBounds_toArray, List.set_cons_zero, List.set_cons_succ]
        first
          | refine Go.Shr.wpAnyF_skip 18 (oi := { dst := some 81, op := Go.Op.binOp Go.BinOp.eql 35 (Go.Operand.tmp 78) (Go.Operand.tmp 80) 35, type := 4, pos := "law.go:103", after := #[{ on := 15, ground := Go.Ground.data }, { on := 17, ground := Go.Ground.data }, { on := 11, ground := Go.Ground.guard }, { on := 20, ground := Go.Ground.gcOnly Go.Departure.lateStores }], guard := some (11, false) }) rfl (by kernel_rfl) (fun _ _ _ h => h) (by assumption) (by rfl) ?_
          | (refine Go.Shr.wpAnyF_take 18 (oi := { dst := some 81, op := Go.Op.binOp Go.BinOp.eql 35 (Go.Operand.tmp 78) (Go.Operand.tmp 80) 35, type := 4, pos := "law.go:103", after := #[{ on := 15, ground := Go.Ground.data }, { on := 17, ground := Go.Ground.data }, { on := 11, ground := Go.Ground.guard }, { on := 20, ground := Go.Ground.gcOnly Go.Departure.lateStores }], guard := some (11, false) }) (v := ?g3rv19) rfl (by kernel_rfl) (fun _ _ _ h => h) (by assumption) (by rfl) ?g3ry19 ?g3rr19
             case g3ry19 => intro w hSw; (rename_i w; obtain ⟨g0, g1, g2⟩ := hSw); (have q2 := g0.cell 0 2 rfl rfl); (have q3 := g0.cell 0 3 rfl rfl); (have q4 := g0.cell 0 4 rfl rfl); (have q5 := g0.cell 0 5 rfl rfl); (refine eqlv_exec _ _ _ _ _ _ _ _ x s.mx _ ?_ ?_ <;> rfl))
        try simp only [Act.put, List.setIfInBounds_toArray, List.set_cons_zero, List.set_cons_succ]
        refine Go.Shr.wpAnyF_take 19 (oi := { dst := some 82, op := Go.Op.pick (Go.Operand.tmp 74) (Go.Operand.const (Go.Value.bool true)) (Go.Operand.tmp 81), type := 4, pos := "law.go:103", after := #[{ on := 11, ground := Go.Ground.data }, { on := 18, ground := Go.Ground.data }, { on := 20, ground := Go.Ground.gcOnly Go.Departure.lateStores }], guard := none }) (v := ?g3rv20) rfl (by kernel_rfl) (fun _ _ _ h => h) (by assumption) (by rfl) ?g3ry20 ?g3rr20
        case g3ry20 => intro w hSw; (rename_i w; obtain ⟨g0, g1, g2⟩ := hSw); (have q2 := g0.cell 0 2 rfl rfl); (have q3 := g0.cell 0 3 rfl rfl); (have q4 := g0.cell 0 4 rfl rfl); (have q5 := g0.cell 0 5 rfl rfl); go_simp; try with_reducible rfl
        try simp only [Act.put, List.setIfInBounds_toArray, List.set_cons_zero, List.set_cons_succ]
        refine Go.Shr.wpAnyF_take 20 (oi := { dst := some 10, op := Go.Op.assign (Go.Operand.tmp 72), type := 4, pos := "law.go:103", after := #[{ on := 9, ground := Go.Ground.data }, { on := 11, ground := Go.Ground.chain }, { on := 0, ground := Go.Ground.phase }, { on := 1, ground := Go.Ground.phase }, { on := 2, ground := Go.Ground.phase }, { on := 3, ground := Go.Ground.phase }, { on := 4, ground := Go.Ground.phase }, { on := 5, ground := Go.Ground.phase }, { on := 6, ground := Go.Ground.phase }, { on := 7, ground := Go.Ground.phase }, { on := 8, ground := Go.Ground.phase }, { on := 9, ground := Go.Ground.phase }, { on := 10, ground := Go.Ground.textOnly Go.Departure.lateStores }, { on := 11, ground := Go.Ground.textOnly Go.Departure.lateStores }, { on := 12, ground := Go.Ground.textOnly Go.Departure.lateStores }, { on := 13, ground := Go.Ground.textOnly Go.Departure.lateStores }, { on := 14, ground := Go.Ground.textOnly Go.Departure.lateStores }, { on := 15, ground := Go.Ground.textOnly Go.Departure.lateStores }, { on := 16, ground := Go.Ground.textOnly Go.Departure.lateStores }, { on := 17, ground := Go.Ground.textOnly Go.Departure.lateStores }, { on := 18, ground := Go.Ground.textOnly Go.Departure.lateStores }, { on := 19, ground := Go.Ground.textOnly Go.Departure.lateStores }], guard := none }) (v := ?g3rv21) rfl (by kernel_rfl) (fun _ _ _ h => h) (by assumption) (by rfl) ?g3ry21 ?g3rr21
        case g3ry21 => intro w hSw; (rename_i w; obtain ⟨g0, g1, g2⟩ := hSw); (have q2 := g0.cell 0 2 rfl rfl); (have q3 := g0.cell 0 3 rfl rfl); (have q4 := g0.cell 0 4 rfl rfl); (have q5 := g0.cell 0 5 rfl rfl); go_simp; try with_reducible rfl
        try simp only [Act.put, List.setIfInBounds_toArray, List.set_cons_zero, List.set_cons_succ]
        refine Go.Shr.wpAnyF_take 21 (oi := { dst := some 11, op := Go.Op.assign (Go.Operand.tmp 82), type := 4, pos := "law.go:103", after := #[{ on := 19, ground := Go.Ground.data }, { on := 20, ground := Go.Ground.chain }, { on := 0, ground := Go.Ground.phase }, { on := 1, ground := Go.Ground.phase }, { on := 2, ground := Go.Ground.phase }, { on := 3, ground := Go.Ground.phase }, { on := 4, ground := Go.Ground.phase }, { on := 5, ground := Go.Ground.phase }, { on := 6, ground := Go.Ground.phase }, { on := 7, ground := Go.Ground.phase }, { on := 8, ground := Go.Ground.phase }, { on := 9, ground := Go.Ground.phase }, { on := 10, ground := Go.Ground.phase }, { on := 11, ground := Go.Ground.phase }, { on := 12, ground := Go.Ground.phase }, { on := 13, ground := Go.Ground.phase }, { on := 14, ground := Go.Ground.phase }, { on := 15, ground := Go.Ground.phase }, { on := 16, ground := Go.Ground.phase }, { on := 17, ground := Go.Ground.phase }, { on := 18, ground := Go.Ground.phase }, { on := 19, ground := Go.Ground.phase }, { on := 20, ground := Go.Ground.phase }], guard := none }) (v := ?g3rv22) rfl (by kernel_rfl) (fun _ _ _ h => h) (by assumption) (by rfl) ?g3ry22 ?g3rr22
        case g3ry22 => intro w hSw; (rename_i w; obtain ⟨g0, g1, g2⟩ := hSw); (have q2 := g0.cell 0 2 rfl rfl); (have q3 := g0.cell 0 3 rfl rfl); (have q4 := g0.cell 0 4 rfl rfl); (have q5 := g0.cell 0 5 rfl rfl); go_simp; try with_reducible rfl
        try simp only [Act.put, List.setIfInBounds_toArray, List.set_cons_zero, List.set_cons_succ]
        refine Go.Shr.wpAnyF_done (by kernel_rfl) ?_
        go_wp2_with fail
        go_roundw
        case rel => exact ⟨j + 1, by go_num, by omega, by rw [T1.out]; first | rfl | simp, by rw [T2.out]; first | rfl | simp, Lib.hid hHeld.1.drew, Lib.hid HB7.out, Lib.hid HBw7.out⟩
        case measure => simp [intOf]; omega
      · go_wp2_with fail
        refine Go.Shr.wp_region_F (fun w' => Rws w' [(w5.heap.size, #[.int .i64 s.nulls, .bool s.has, .int .i64 s.mn.n, .string s.mn.s, .int .i64 s.mx.n, .string s.mx.s], 37)] ∧ w'.cell? ⟨b, off + j * 2, none⟩ = some (.int .i64 x.n) ∧ w'.cell? ⟨b, off + j * 2 + 1, none⟩ = some (.string x.s)) [] (by kernel_rfl) ?g4rgS (fun hHeld => ?g4rgR)
        case g4rgS => (try dsimp only); (exact ⟨hHeld.1.drew, hHeld.2⟩)
        try dsimp only at hHeld
        refine Go.Shr.wpAnyF_take 0 (oi := { dst := some 63, op := Go.Op.move (Go.Operand.tmp 10), type := 4, pos := "law.go:103", after := #[], guard := none }) (v := ?g4rv1) rfl (by kernel_rfl) (fun _ _ _ h => h) (by assumption) (by rfl) ?g4ry1 ?g4rr1
        case g4ry1 => intro w hSw; (rename_i w; obtain ⟨g0, g1, g2⟩ := hSw); (have q2 := g0.cell 0 2 rfl rfl); (have q3 := g0.cell 0 3 rfl rfl); (have q4 := g0.cell 0 4 rfl rfl); (have q5 := g0.cell 0 5 rfl rfl); go_simp; try with_reducible rfl
        try simp only [Act.put, List.setIfInBounds_toArray, List.set_cons_zero, List.set_cons_succ]
        refine Go.Shr.wpAnyF_take 1 (oi := { dst := some 64, op := Go.Op.move (Go.Operand.tmp 63), type := 4, pos := "law.go:103", after := #[{ on := 0, ground := Go.Ground.data }], guard := none }) (v := ?g4rv2) rfl (by kernel_rfl) (fun _ _ _ h => h) (by assumption) (by rfl) ?g4ry2 ?g4rr2
        case g4ry2 => intro w hSw; (rename_i w; obtain ⟨g0, g1, g2⟩ := hSw); (have q2 := g0.cell 0 2 rfl rfl); (have q3 := g0.cell 0 3 rfl rfl); (have q4 := g0.cell 0 4 rfl rfl); (have q5 := g0.cell 0 5 rfl rfl); go_simp; try with_reducible rfl
        try simp only [Act.put, List.setIfInBounds_toArray, List.set_cons_zero, List.set_cons_succ]
        first
          | refine Go.Shr.wpAnyF_skip 2 (oi := { dst := some 65, op := Go.Op.move (Go.Operand.tmp 6), type := 22, pos := "law.go:103", after := #[{ on := 1, ground := Go.Ground.guard }], guard := some (1, false) }) rfl (by kernel_rfl) (fun _ _ _ h => h) (by assumption) (by rfl) ?_
          | (refine Go.Shr.wpAnyF_take 2 (oi := { dst := some 65, op := Go.Op.move (Go.Operand.tmp 6), type := 22, pos := "law.go:103", after := #[{ on := 1, ground := Go.Ground.guard }], guard := some (1, false) }) (v := ?g4rv3) rfl (by kernel_rfl) (fun _ _ _ h => h) (by assumption) (by rfl) ?g4ry3 ?g4rr3
             case g4ry3 => intro w hSw; (rename_i w; obtain ⟨g0, g1, g2⟩ := hSw); (have q2 := g0.cell 0 2 rfl rfl); (have q3 := g0.cell 0 3 rfl rfl); (have q4 := g0.cell 0 4 rfl rfl); (have q5 := g0.cell 0 5 rfl rfl); go_simp; try with_reducible rfl)
        try simp only [Act.put, List.setIfInBounds_toArray, List.set_cons_zero, List.set_cons_succ]
        first
          | refine Go.Shr.wpAnyF_skip 3 (oi := { dst := some 66, op := Go.Op.move (Go.Operand.tmp 12), type := 3, pos := "law.go:103", after := #[{ on := 1, ground := Go.Ground.guard }], guard := some (1, false) }) rfl (by kernel_rfl) (fun _ _ _ h => h) (by assumption) (by rfl) ?_
          | (refine Go.Shr.wpAnyF_take 3 (oi := { dst := some 66, op := Go.Op.move (Go.Operand.tmp 12), type := 3, pos := "law.go:103", after := #[{ on := 1, ground := Go.Ground.guard }], guard := some (1, false) }) (v := ?g4rv4) rfl (by kernel_rfl) (fun _ _ _ h => h) (by assumption) (by rfl) ?g4ry4 ?g4rr4
             case g4ry4 => intro w hSw; (rename_i w; obtain ⟨g0, g1, g2⟩ := hSw); (have q2 := g0.cell 0 2 rfl rfl); (have q3 := g0.cell 0 3 rfl rfl); (have q4 := g0.cell 0 4 rfl rfl); (have q5 := g0.cell 0 5 rfl rfl); go_simp; try with_reducible rfl)
        try simp only [Act.put, List.setIfInBounds_toArray, List.set_cons_zero, List.set_cons_succ]
        first
          | refine Go.Shr.wpAnyF_skip 4 (oi := { dst := some 67, op := Go.Op.indexAddr 22 (Go.Operand.tmp 65) (Go.Operand.tmp 66), type := 0, pos := "law.go:103", after := #[{ on := 2, ground := Go.Ground.data }, { on := 3, ground := Go.Ground.data }, { on := 1, ground := Go.Ground.guard }], guard := some (1, false) }) rfl (by kernel_rfl) (fun _ _ _ h => h) (by assumption) (by rfl) ?_
          | (refine Go.Shr.wpAnyF_take 4 (oi := { dst := some 67, op := Go.Op.indexAddr 22 (Go.Operand.tmp 65) (Go.Operand.tmp 66), type := 0, pos := "law.go:103", after := #[{ on := 2, ground := Go.Ground.data }, { on := 3, ground := Go.Ground.data }, { on := 1, ground := Go.Ground.guard }], guard := some (1, false) }) (v := ?g4rv5) rfl (by kernel_rfl) (fun _ _ _ h => h) (by assumption) (by rfl) ?g4ry5 ?g4rr5
             case g4ry5 => intro w hSw; (rename_i w; obtain ⟨g0, g1, g2⟩ := hSw); (have q2 := g0.cell 0 2 rfl rfl); (have q3 := g0.cell 0 3 rfl rfl); (have q4 := g0.cell 0 4 rfl rfl); (have q5 := g0.cell 0 5 rfl rfl); go_simp; try with_reducible rfl)
        try simp only [Act.put, List.setIfInBounds_toArray, List.set_cons_zero, List.set_cons_succ]
        first
          | refine Go.Shr.wpAnyF_skip 5 (oi := { dst := some 68, op := Go.Op.load 35 (Go.Operand.tmp 67), type := 35, pos := "law.go:103", after := #[{ on := 4, ground := Go.Ground.data }, { on := 1, ground := Go.Ground.guard }], guard := some (1, false) }) rfl (by kernel_rfl) (fun _ _ _ h => h) (by assumption) (by rfl) ?_
          | (refine Go.Shr.wpAnyF_take 5 (oi := { dst := some 68, op := Go.Op.load 35 (Go.Operand.tmp 67), type := 35, pos := "law.go:103", after := #[{ on := 4, ground := Go.Ground.data }, { on := 1, ground := Go.Ground.guard }], guard := some (1, false) }) (v := ?g4rv6) rfl (by kernel_rfl) (fun _ _ _ h => h) (by assumption) (by rfl) ?g4ry6 ?g4rr6
             case g4ry6 => intro w hSw; (rename_i w; obtain ⟨g0, g1, g2⟩ := hSw); (have q2 := g0.cell 0 2 rfl rfl); (have q3 := g0.cell 0 3 rfl rfl); (have q4 := g0.cell 0 4 rfl rfl); (have q5 := g0.cell 0 5 rfl rfl); go_simp; try with_reducible rfl)
        try simp only [Act.put, List.setIfInBounds_toArray, List.set_cons_zero, List.set_cons_succ]
        first
          | refine Go.Shr.wpAnyF_skip 6 (oi := { dst := some 69, op := Go.Op.fieldAddr 37 (Go.Operand.tmp 9) 2, type := 0, pos := "law.go:103", after := #[{ on := 1, ground := Go.Ground.guard }], guard := some (1, false) }) rfl (by kernel_rfl) (fun _ _ _ h => h) (by assumption) (by rfl) ?_
          | (refine Go.Shr.wpAnyF_take 6 (oi := { dst := some 69, op := Go.Op.fieldAddr 37 (Go.Operand.tmp 9) 2, type := 0, pos := "law.go:103", after := #[{ on := 1, ground := Go.Ground.guard }], guard := some (1, false) }) (v := ?g4rv7) rfl (by kernel_rfl) (fun _ _ _ h => h) (by assumption) (by rfl) ?g4ry7 ?g4rr7
             case g4ry7 => intro w hSw; (rename_i w; obtain ⟨g0, g1, g2⟩ := hSw); (have q2 := g0.cell 0 2 rfl rfl); (have q3 := g0.cell 0 3 rfl rfl); (have q4 := g0.cell 0 4 rfl rfl); (have q5 := g0.cell 0 5 rfl rfl); go_simp; try with_reducible rfl)
        try simp only [Act.put, List.setIfInBounds_toArray, List.set_cons_zero, List.set_cons_succ]
        first
          | refine Go.Shr.wpAnyF_skip 7 (oi := { dst := some 70, op := Go.Op.load 35 (Go.Operand.tmp 69), type := 35, pos := "law.go:103", after := #[{ on := 6, ground := Go.Ground.data }, { on := 1, ground := Go.Ground.guard }], guard := some (1, false) }) rfl (by kernel_rfl) (fun _ _ _ h => h) (by assumption) (by rfl) ?_
          | (refine Go.Shr.wpAnyF_take 7 (oi := { dst := some 70, op := Go.Op.load 35 (Go.Operand.tmp 69), type := 35, pos := "law.go:103", after := #[{ on := 6, ground := Go.Ground.data }, { on := 1, ground := Go.Ground.guard }], guard := some (1, false) }) (v := ?g4rv8) rfl (by kernel_rfl) (fun _ _ _ h => h) (by assumption) (by rfl) ?g4ry8 ?g4rr8
             case g4ry8 => intro w hSw; (rename_i w; obtain ⟨g0, g1, g2⟩ := hSw); (have q2 := g0.cell 0 2 rfl rfl); (have q3 := g0.cell 0 3 rfl rfl); (have q4 := g0.cell 0 4 rfl rfl); (have q5 := g0.cell 0 5 rfl rfl); go_simp; try with_reducible rfl)
        try simp only [Act.put, List.setIfInBounds_toArray, List.set_cons_zero, List.set_cons_succ]
        first
          | refine Go.Shr.wpAnyF_skip 8 (oi := { dst := some 71, op := Go.Op.binOp Go.BinOp.eql 35 (Go.Operand.tmp 68) (Go.Operand.tmp 70) 35, type := 4, pos := "law.go:103", after := #[{ on := 5, ground := Go.Ground.data }, { on := 7, ground := Go.Ground.data }, { on := 1, ground := Go.Ground.guard }], guard := some (1, false) }) rfl (by kernel_rfl) (fun _ _ _ h => h) (by assumption) (by rfl) ?_
          | (refine Go.Shr.wpAnyF_take 8 (oi := { dst := some 71, op := Go.Op.binOp Go.BinOp.eql 35 (Go.Operand.tmp 68) (Go.Operand.tmp 70) 35, type := 4, pos := "law.go:103", after := #[{ on := 5, ground := Go.Ground.data }, { on := 7, ground := Go.Ground.data }, { on := 1, ground := Go.Ground.guard }], guard := some (1, false) }) (v := ?g4rv9) rfl (by kernel_rfl) (fun _ _ _ h => h) (by assumption) (by rfl) ?g4ry9 ?g4rr9
             case g4ry9 => intro w hSw; (rename_i w; obtain ⟨g0, g1, g2⟩ := hSw); (have q2 := g0.cell 0 2 rfl rfl); (have q3 := g0.cell 0 3 rfl rfl); (have q4 := g0.cell 0 4 rfl rfl); (have q5 := g0.cell 0 5 rfl rfl); (refine eqlv_exec _ _ _ _ _ _ _ _ x s.mn _ ?_ ?_ <;> rfl))
        try simp only [Act.put, List.setIfInBounds_toArray, List.set_cons_zero, List.set_cons_succ]
        refine Go.Shr.wpAnyF_take 9 (oi := { dst := some 72, op := Go.Op.pick (Go.Operand.tmp 64) (Go.Operand.const (Go.Value.bool true)) (Go.Operand.tmp 71), type := 4, pos := "law.go:103", after := #[{ on := 1, ground := Go.Ground.data }, { on := 8, ground := Go.Ground.data }], guard := none }) (v := ?g4rv10) rfl (by kernel_rfl) (fun _ _ _ h => h) (by assumption) (by rfl) ?g4ry10 ?g4rr10
        case g4ry10 => intro w hSw; (rename_i w; obtain ⟨g0, g1, g2⟩ := hSw); (have q2 := g0.cell 0 2 rfl rfl); (have q3 := g0.cell 0 3 rfl rfl); (have q4 := g0.cell 0 4 rfl rfl); (have q5 := g0.cell 0 5 rfl rfl); go_simp; try with_reducible rfl
        try simp only [Act.put, List.setIfInBounds_toArray, List.set_cons_zero, List.set_cons_succ]
        refine Go.Shr.wpAnyF_take 10 (oi := { dst := some 73, op := Go.Op.move (Go.Operand.tmp 11), type := 4, pos := "law.go:103", after := #[], guard := none }) (v := ?g4rv11) rfl (by kernel_rfl) (fun _ _ _ h => h) (by assumption) (by rfl) ?g4ry11 ?g4rr11
        case g4ry11 => intro w hSw; (rename_i w; obtain ⟨g0, g1, g2⟩ := hSw); (have q2 := g0.cell 0 2 rfl rfl); (have q3 := g0.cell 0 3 rfl rfl); (have q4 := g0.cell 0 4 rfl rfl); (have q5 := g0.cell 0 5 rfl rfl); go_simp; try with_reducible rfl
        try simp only [Act.put, List.setIfInBounds_toArray, List.set_cons_zero, List.set_cons_succ]
        refine Go.Shr.wpAnyF_take 11 (oi := { dst := some 74, op := Go.Op.move (Go.Operand.tmp 73), type := 4, pos := "law.go:103", after := #[{ on := 10, ground := Go.Ground.data }, { on := 1, ground := Go.Ground.chain }], guard := none }) (v := ?g4rv12) rfl (by kernel_rfl) (fun _ _ _ h => h) (by assumption) (by rfl) ?g4ry12 ?g4rr12
        case g4ry12 => intro w hSw; (rename_i w; obtain ⟨g0, g1, g2⟩ := hSw); (have q2 := g0.cell 0 2 rfl rfl); (have q3 := g0.cell 0 3 rfl rfl); (have q4 := g0.cell 0 4 rfl rfl); (have q5 := g0.cell 0 5 rfl rfl); go_simp; try with_reducible rfl
        try simp only [Act.put, List.setIfInBounds_toArray, List.set_cons_zero, List.set_cons_succ]
        first
          | refine Go.Shr.wpAnyF_skip 12 (oi := { dst := some 75, op := Go.Op.move (Go.Operand.tmp 6), type := 22, pos := "law.go:103", after := #[{ on := 11, ground := Go.Ground.guard }, { on := 20, ground := Go.Ground.gcOnly Go.Departure.lateStores }], guard := some (11, false) }) rfl (by kernel_rfl) (fun _ _ _ h => h) (by assumption) (by rfl) ?_
          | (refine Go.Shr.wpAnyF_take 12 (oi := { dst := some 75, op := Go.Op.move (Go.Operand.tmp 6), type := 22, pos := "law.go:103", after := #[{ on := 11, ground := Go.Ground.guard }, { on := 20, ground := Go.Ground.gcOnly Go.Departure.lateStores }], guard := some (11, false) }) (v := ?g4rv13) rfl (by kernel_rfl) (fun _ _ _ h => h) (by assumption) (by rfl) ?g4ry13 ?g4rr13
             case g4ry13 => intro w hSw; (rename_i w; obtain ⟨g0, g1, g2⟩ := hSw); (have q2 := g0.cell 0 2 rfl rfl); (have q3 := g0.cell 0 3 rfl rfl); (have q4 := g0.cell 0 4 rfl rfl); (have q5 := g0.cell 0 5 rfl rfl); go_simp; try with_reducible rfl)
        try simp only [Act.put, List.setIfInBounds_toArray, List.set_cons_zero, List.set_cons_succ]
        first
          | refine Go.Shr.wpAnyF_skip 13 (oi := { dst := some 76, op := Go.Op.move (Go.Operand.tmp 12), type := 3, pos := "law.go:103", after := #[{ on := 11, ground := Go.Ground.guard }, { on := 20, ground := Go.Ground.gcOnly Go.Departure.lateStores }], guard := some (11, false) }) rfl (by kernel_rfl) (fun _ _ _ h => h) (by assumption) (by rfl) ?_
          | (refine Go.Shr.wpAnyF_take 13 (oi := { dst := some 76, op := Go.Op.move (Go.Operand.tmp 12), type := 3, pos := "law.go:103", after := #[{ on := 11, ground := Go.Ground.guard }, { on := 20, ground := Go.Ground.gcOnly Go.Departure.lateStores }], guard := some (11, false) }) (v := ?g4rv14) rfl (by kernel_rfl) (fun _ _ _ h => h) (by assumption) (by rfl) ?g4ry14 ?g4rr14
             case g4ry14 => intro w hSw; (rename_i w; obtain ⟨g0, g1, g2⟩ := hSw); (have q2 := g0.cell 0 2 rfl rfl); (have q3 := g0.cell 0 3 rfl rfl); (have q4 := g0.cell 0 4 rfl rfl); (have q5 := g0.cell 0 5 rfl rfl); go_simp; try with_reducible rfl)
        try simp only [Act.put, List.setIfInBounds_toArray, List.set_cons_zero, List.set_cons_succ]
        first
          | refine Go.Shr.wpAnyF_skip 14 (oi := { dst := some 77, op := Go.Op.indexAddr 22 (Go.Operand.tmp 75) (Go.Operand.tmp 76), type := 0, pos := "law.go:103", after := #[{ on := 12, ground := Go.Ground.data }, { on := 13, ground := Go.Ground.data }, { on := 11, ground := Go.Ground.guard }, { on := 20, ground := Go.Ground.gcOnly Go.Departure.lateStores }], guard := some (11, false) }) rfl (by kernel_rfl) (fun _ _ _ h => h) (by assumption) (by rfl) ?_
          | (refine Go.Shr.wpAnyF_take 14 (oi := { dst := some 77, op := Go.Op.indexAddr 22 (Go.Operand.tmp 75) (Go.Operand.tmp 76), type := 0, pos := "law.go:103", after := #[{ on := 12, ground := Go.Ground.data }, { on := 13, ground := Go.Ground.data }, { on := 11, ground := Go.Ground.guard }, { on := 20, ground := Go.Ground.gcOnly Go.Departure.lateStores }], guard := some (11, false) }) (v := ?g4rv15) rfl (by kernel_rfl) (fun _ _ _ h => h) (by assumption) (by rfl) ?g4ry15 ?g4rr15
             case g4ry15 => intro w hSw; (rename_i w; obtain ⟨g0, g1, g2⟩ := hSw); (have q2 := g0.cell 0 2 rfl rfl); (have q3 := g0.cell 0 3 rfl rfl); (have q4 := g0.cell 0 4 rfl rfl); (have q5 := g0.cell 0 5 rfl rfl); go_simp; try with_reducible rfl)
        try simp only [Act.put, List.setIfInBounds_toArray, List.set_cons_zero, List.set_cons_succ]
        first
          | refine Go.Shr.wpAnyF_skip 15 (oi := { dst := some 78, op := Go.Op.load 35 (Go.Operand.tmp 77), type := 35, pos := "law.go:103", after := #[{ on := 14, ground := Go.Ground.data }, { on := 11, ground := Go.Ground.guard }, { on := 20, ground := Go.Ground.gcOnly Go.Departure.lateStores }], guard := some (11, false) }) rfl (by kernel_rfl) (fun _ _ _ h => h) (by assumption) (by rfl) ?_
          | (refine Go.Shr.wpAnyF_take 15 (oi := { dst := some 78, op := Go.Op.load 35 (Go.Operand.tmp 77), type := 35, pos := "law.go:103", after := #[{ on := 14, ground := Go.Ground.data }, { on := 11, ground := Go.Ground.guard }, { on := 20, ground := Go.Ground.gcOnly Go.Departure.lateStores }], guard := some (11, false) }) (v := ?g4rv16) rfl (by kernel_rfl) (fun _ _ _ h => h) (by assumption) (by rfl) ?g4ry16 ?g4rr16
             case g4ry16 => intro w hSw; (rename_i w; obtain ⟨g0, g1, g2⟩ := hSw); (have q2 := g0.cell 0 2 rfl rfl); (have q3 := g0.cell 0 3 rfl rfl); (have q4 := g0.cell 0 4 rfl rfl); (have q5 := g0.cell 0 5 rfl rfl); go_simp; try with_reducible rfl)
        try simp only [Act.put, List.setIfInBounds_toArray, List.set_cons_zero, List.set_cons_succ]
        first
          | refine Go.Shr.wpAnyF_skip 16 (oi := { dst := some 79, op := Go.Op.fieldAddr 37 (Go.Operand.tmp 9) 3, type := 0, pos := "law.go:103", after := #[{ on := 11, ground := Go.Ground.guard }, { on := 20, ground := Go.Ground.gcOnly Go.Departure.lateStores }], guard := some (11, false) }) rfl (by kernel_rfl) (fun _ _ _ h => h) (by assumption) (by rfl) ?_
          | (refine Go.Shr.wpAnyF_take 16 (oi := { dst := some 79, op := Go.Op.fieldAddr 37 (Go.Operand.tmp 9) 3, type := 0, pos := "law.go:103", after := #[{ on := 11, ground := Go.Ground.guard }, { on := 20, ground := Go.Ground.gcOnly Go.Departure.lateStores }], guard := some (11, false) }) (v := ?g4rv17) rfl (by kernel_rfl) (fun _ _ _ h => h) (by assumption) (by rfl) ?g4ry17 ?g4rr17
             case g4ry17 => intro w hSw; (rename_i w; obtain ⟨g0, g1, g2⟩ := hSw); (have q2 := g0.cell 0 2 rfl rfl); (have q3 := g0.cell 0 3 rfl rfl); (have q4 := g0.cell 0 4 rfl rfl); (have q5 := g0.cell 0 5 rfl rfl); go_simp; try with_reducible rfl)
        try simp only [Act.put, List.setIfInBounds_toArray, List.set_cons_zero, List.set_cons_succ]
        first
          | refine Go.Shr.wpAnyF_skip 17 (oi := { dst := some 80, op := Go.Op.load 35 (Go.Operand.tmp 79), type := 35, pos := "law.go:103", after := #[{ on := 16, ground := Go.Ground.data }, { on := 11, ground := Go.Ground.guard }, { on := 20, ground := Go.Ground.gcOnly Go.Departure.lateStores }], guard := some (11, false) }) rfl (by kernel_rfl) (fun _ _ _ h => h) (by assumption) (by rfl) ?_
          | (refine Go.Shr.wpAnyF_take 17 (oi := { dst := some 80, op := Go.Op.load 35 (Go.Operand.tmp 79), type := 35, pos := "law.go:103", after := #[{ on := 16, ground := Go.Ground.data }, { on := 11, ground := Go.Ground.guard }, { on := 20, ground := Go.Ground.gcOnly Go.Departure.lateStores }], guard := some (11, false) }) (v := ?g4rv18) rfl (by kernel_rfl) (fun _ _ _ h => h) (by assumption) (by rfl) ?g4ry18 ?g4rr18
             case g4ry18 => intro w hSw; (rename_i w; obtain ⟨g0, g1, g2⟩ := hSw); (have q2 := g0.cell 0 2 rfl rfl); (have q3 := g0.cell 0 3 rfl rfl); (have q4 := g0.cell 0 4 rfl rfl); (have q5 := g0.cell 0 5 rfl rfl); go_simp; try with_reducible rfl)
        try simp only [Act.put, List.setIfInBounds_toArray, List.set_cons_zero, List.set_cons_succ]
        first
          | refine Go.Shr.wpAnyF_skip 18 (oi := { dst := some 81, op := Go.Op.binOp Go.BinOp.eql 35 (Go.Operand.tmp 78) (Go.Operand.tmp 80) 35, type := 4, pos := "law.go:103", after := #[{ on := 15, ground := Go.Ground.data }, { on := 17, ground := Go.Ground.data }, { on := 11, ground := Go.Ground.guard }, { on := 20, ground := Go.Ground.gcOnly Go.Departure.lateStores }], guard := some (11, false) }) rfl (by kernel_rfl) (fun _ _ _ h => h) (by assumption) (by rfl) ?_
          | (refine Go.Shr.wpAnyF_take 18 (oi := { dst := some 81, op := Go.Op.binOp Go.BinOp.eql 35 (Go.Operand.tmp 78) (Go.Operand.tmp 80) 35, type := 4, pos := "law.go:103", after := #[{ on := 15, ground := Go.Ground.data }, { on := 17, ground := Go.Ground.data }, { on := 11, ground := Go.Ground.guard }, { on := 20, ground := Go.Ground.gcOnly Go.Departure.lateStores }], guard := some (11, false) }) (v := ?g4rv19) rfl (by kernel_rfl) (fun _ _ _ h => h) (by assumption) (by rfl) ?g4ry19 ?g4rr19
             case g4ry19 => intro w hSw; (rename_i w; obtain ⟨g0, g1, g2⟩ := hSw); (have q2 := g0.cell 0 2 rfl rfl); (have q3 := g0.cell 0 3 rfl rfl); (have q4 := g0.cell 0 4 rfl rfl); (have q5 := g0.cell 0 5 rfl rfl); (refine eqlv_exec _ _ _ _ _ _ _ _ x s.mx _ ?_ ?_ <;> rfl))
        try simp only [Act.put, List.setIfInBounds_toArray, List.set_cons_zero, List.set_cons_succ]
        refine Go.Shr.wpAnyF_take 19 (oi := { dst := some 82, op := Go.Op.pick (Go.Operand.tmp 74) (Go.Operand.const (Go.Value.bool true)) (Go.Operand.tmp 81), type := 4, pos := "law.go:103", after := #[{ on := 11, ground := Go.Ground.data }, { on := 18, ground := Go.Ground.data }, { on := 20, ground := Go.Ground.gcOnly Go.Departure.lateStores }], guard := none }) (v := ?g4rv20) rfl (by kernel_rfl) (fun _ _ _ h => h) (by assumption) (by rfl) ?g4ry20 ?g4rr20
        case g4ry20 => intro w hSw; (rename_i w; obtain ⟨g0, g1, g2⟩ := hSw); (have q2 := g0.cell 0 2 rfl rfl); (have q3 := g0.cell 0 3 rfl rfl); (have q4 := g0.cell 0 4 rfl rfl); (have q5 := g0.cell 0 5 rfl rfl); go_simp; try with_reducible rfl
        try simp only [Act.put, List.setIfInBounds_toArray, List.set_cons_zero, List.set_cons_succ]
        refine Go.Shr.wpAnyF_take 20 (oi := { dst := some 10, op := Go.Op.assign (Go.Operand.tmp 72), type := 4, pos := "law.go:103", after := #[{ on := 9, ground := Go.Ground.data }, { on := 11, ground := Go.Ground.chain }, { on := 0, ground := Go.Ground.phase }, { on := 1, ground := Go.Ground.phase }, { on := 2, ground := Go.Ground.phase }, { on := 3, ground := Go.Ground.phase }, { on := 4, ground := Go.Ground.phase }, { on := 5, ground := Go.Ground.phase }, { on := 6, ground := Go.Ground.phase }, { on := 7, ground := Go.Ground.phase }, { on := 8, ground := Go.Ground.phase }, { on := 9, ground := Go.Ground.phase }, { on := 10, ground := Go.Ground.textOnly Go.Departure.lateStores }, { on := 11, ground := Go.Ground.textOnly Go.Departure.lateStores }, { on := 12, ground := Go.Ground.textOnly Go.Departure.lateStores }, { on := 13, ground := Go.Ground.textOnly Go.Departure.lateStores }, { on := 14, ground := Go.Ground.textOnly Go.Departure.lateStores }, { on := 15, ground := Go.Ground.textOnly Go.Departure.lateStores }, { on := 16, ground := Go.Ground.textOnly Go.Departure.lateStores }, { on := 17, ground := Go.Ground.textOnly Go.Departure.lateStores }, { on := 18, ground := Go.Ground.textOnly Go.Departure.lateStores }, { on := 19, ground := Go.Ground.textOnly Go.Departure.lateStores }], guard := none }) (v := ?g4rv21) rfl (by kernel_rfl) (fun _ _ _ h => h) (by assumption) (by rfl) ?g4ry21 ?g4rr21
        case g4ry21 => intro w hSw; (rename_i w; obtain ⟨g0, g1, g2⟩ := hSw); (have q2 := g0.cell 0 2 rfl rfl); (have q3 := g0.cell 0 3 rfl rfl); (have q4 := g0.cell 0 4 rfl rfl); (have q5 := g0.cell 0 5 rfl rfl); go_simp; try with_reducible rfl
        try simp only [Act.put, List.setIfInBounds_toArray, List.set_cons_zero, List.set_cons_succ]
        refine Go.Shr.wpAnyF_take 21 (oi := { dst := some 11, op := Go.Op.assign (Go.Operand.tmp 82), type := 4, pos := "law.go:103", after := #[{ on := 19, ground := Go.Ground.data }, { on := 20, ground := Go.Ground.chain }, { on := 0, ground := Go.Ground.phase }, { on := 1, ground := Go.Ground.phase }, { on := 2, ground := Go.Ground.phase }, { on := 3, ground := Go.Ground.phase }, { on := 4, ground := Go.Ground.phase }, { on := 5, ground := Go.Ground.phase }, { on := 6, ground := Go.Ground.phase }, { on := 7, ground := Go.Ground.phase }, { on := 8, ground := Go.Ground.phase }, { on := 9, ground := Go.Ground.phase }, { on := 10, ground := Go.Ground.phase }, { on := 11, ground := Go.Ground.phase }, { on := 12, ground := Go.Ground.phase }, { on := 13, ground := Go.Ground.phase }, { on := 14, ground := Go.Ground.phase }, { on := 15, ground := Go.Ground.phase }, { on := 16, ground := Go.Ground.phase }, { on := 17, ground := Go.Ground.phase }, { on := 18, ground := Go.Ground.phase }, { on := 19, ground := Go.Ground.phase }, { on := 20, ground := Go.Ground.phase }], guard := none }) (v := ?g4rv22) rfl (by kernel_rfl) (fun _ _ _ h => h) (by assumption) (by rfl) ?g4ry22 ?g4rr22
        case g4ry22 => intro w hSw; (rename_i w; obtain ⟨g0, g1, g2⟩ := hSw); (have q2 := g0.cell 0 2 rfl rfl); (have q3 := g0.cell 0 3 rfl rfl); (have q4 := g0.cell 0 4 rfl rfl); (have q5 := g0.cell 0 5 rfl rfl); go_simp; try with_reducible rfl
        try simp only [Act.put, List.setIfInBounds_toArray, List.set_cons_zero, List.set_cons_succ]
        refine Go.Shr.wpAnyF_done (by kernel_rfl) ?_
        go_wp2_with fail
        go_roundw
        case rel => exact ⟨j + 1, by go_num, by omega, by rw [T1.out]; first | rfl | simp, by rw [T2.out]; first | rfl | simp, Lib.hid hHeld.1.drew, Lib.hid HB7.out, Lib.hid HBw7.out⟩
        case measure => simp [intOf]; omega
      · go_wp2_with fail
        refine Go.Shr.wp_region_F (fun w' => Rws w' [(w5.heap.size, #[.int .i64 s.nulls, .bool s.has, .int .i64 s.mn.n, .string s.mn.s, .int .i64 s.mx.n, .string s.mx.s], 37)] ∧ w'.cell? ⟨b, off + j * 2, none⟩ = some (.int .i64 x.n) ∧ w'.cell? ⟨b, off + j * 2 + 1, none⟩ = some (.string x.s)) [] (by kernel_rfl) ?g5rgS (fun hHeld => ?g5rgR)
        case g5rgS => (try dsimp only); (exact ⟨hHeld.1.drew, hHeld.2⟩)
        try dsimp only at hHeld
        refine Go.Shr.wpAnyF_take 0 (oi := { dst := some 63, op := Go.Op.move (Go.Operand.tmp 10), type := 4, pos := "law.go:103", after := #[], guard := none }) (v := ?g5rv1) rfl (by kernel_rfl) (fun _ _ _ h => h) (by assumption) (by rfl) ?g5ry1 ?g5rr1
        case g5ry1 => intro w hSw; (rename_i w; obtain ⟨g0, g1, g2⟩ := hSw); (have q2 := g0.cell 0 2 rfl rfl); (have q3 := g0.cell 0 3 rfl rfl); (have q4 := g0.cell 0 4 rfl rfl); (have q5 := g0.cell 0 5 rfl rfl); go_simp; try with_reducible rfl
        try simp only [Act.put, List.setIfInBounds_toArray, List.set_cons_zero, List.set_cons_succ]
        refine Go.Shr.wpAnyF_take 1 (oi := { dst := some 64, op := Go.Op.move (Go.Operand.tmp 63), type := 4, pos := "law.go:103", after := #[{ on := 0, ground := Go.Ground.data }], guard := none }) (v := ?g5rv2) rfl (by kernel_rfl) (fun _ _ _ h => h) (by assumption) (by rfl) ?g5ry2 ?g5rr2
        case g5ry2 => intro w hSw; (rename_i w; obtain ⟨g0, g1, g2⟩ := hSw); (have q2 := g0.cell 0 2 rfl rfl); (have q3 := g0.cell 0 3 rfl rfl); (have q4 := g0.cell 0 4 rfl rfl); (have q5 := g0.cell 0 5 rfl rfl); go_simp; try with_reducible rfl
        try simp only [Act.put, List.setIfInBounds_toArray, List.set_cons_zero, List.set_cons_succ]
        first
          | refine Go.Shr.wpAnyF_skip 2 (oi := { dst := some 65, op := Go.Op.move (Go.Operand.tmp 6), type := 22, pos := "law.go:103", after := #[{ on := 1, ground := Go.Ground.guard }], guard := some (1, false) }) rfl (by kernel_rfl) (fun _ _ _ h => h) (by assumption) (by rfl) ?_
          | (refine Go.Shr.wpAnyF_take 2 (oi := { dst := some 65, op := Go.Op.move (Go.Operand.tmp 6), type := 22, pos := "law.go:103", after := #[{ on := 1, ground := Go.Ground.guard }], guard := some (1, false) }) (v := ?g5rv3) rfl (by kernel_rfl) (fun _ _ _ h => h) (by assumption) (by rfl) ?g5ry3 ?g5rr3
             case g5ry3 => intro w hSw; (rename_i w; obtain ⟨g0, g1, g2⟩ := hSw); (have q2 := g0.cell 0 2 rfl rfl); (have q3 := g0.cell 0 3 rfl rfl); (have q4 := g0.cell 0 4 rfl rfl); (have q5 := g0.cell 0 5 rfl rfl); go_simp; try with_reducible rfl)
        try simp only [Act.put, List.setIfInBounds_toArray, List.set_cons_zero, List.set_cons_succ]
        first
          | refine Go.Shr.wpAnyF_skip 3 (oi := { dst := some 66, op := Go.Op.move (Go.Operand.tmp 12), type := 3, pos := "law.go:103", after := #[{ on := 1, ground := Go.Ground.guard }], guard := some (1, false) }) rfl (by kernel_rfl) (fun _ _ _ h => h) (by assumption) (by rfl) ?_
          | (refine Go.Shr.wpAnyF_take 3 (oi := { dst := some 66, op := Go.Op.move (Go.Operand.tmp 12), type := 3, pos := "law.go:103", after := #[{ on := 1, ground := Go.Ground.guard }], guard := some (1, false) }) (v := ?g5rv4) rfl (by kernel_rfl) (fun _ _ _ h => h) (by assumption) (by rfl) ?g5ry4 ?g5rr4
             case g5ry4 => intro w hSw; (rename_i w; obtain ⟨g0, g1, g2⟩ := hSw); (have q2 := g0.cell 0 2 rfl rfl); (have q3 := g0.cell 0 3 rfl rfl); (have q4 := g0.cell 0 4 rfl rfl); (have q5 := g0.cell 0 5 rfl rfl); go_simp; try with_reducible rfl)
        try simp only [Act.put, List.setIfInBounds_toArray, List.set_cons_zero, List.set_cons_succ]
        first
          | refine Go.Shr.wpAnyF_skip 4 (oi := { dst := some 67, op := Go.Op.indexAddr 22 (Go.Operand.tmp 65) (Go.Operand.tmp 66), type := 0, pos := "law.go:103", after := #[{ on := 2, ground := Go.Ground.data }, { on := 3, ground := Go.Ground.data }, { on := 1, ground := Go.Ground.guard }], guard := some (1, false) }) rfl (by kernel_rfl) (fun _ _ _ h => h) (by assumption) (by rfl) ?_
          | (refine Go.Shr.wpAnyF_take 4 (oi := { dst := some 67, op := Go.Op.indexAddr 22 (Go.Operand.tmp 65) (Go.Operand.tmp 66), type := 0, pos := "law.go:103", after := #[{ on := 2, ground := Go.Ground.data }, { on := 3, ground := Go.Ground.data }, { on := 1, ground := Go.Ground.guard }], guard := some (1, false) }) (v := ?g5rv5) rfl (by kernel_rfl) (fun _ _ _ h => h) (by assumption) (by rfl) ?g5ry5 ?g5rr5
             case g5ry5 => intro w hSw; (rename_i w; obtain ⟨g0, g1, g2⟩ := hSw); (have q2 := g0.cell 0 2 rfl rfl); (have q3 := g0.cell 0 3 rfl rfl); (have q4 := g0.cell 0 4 rfl rfl); (have q5 := g0.cell 0 5 rfl rfl); go_simp; try with_reducible rfl)
        try simp only [Act.put, List.setIfInBounds_toArray, List.set_cons_zero, List.set_cons_succ]
        first
          | refine Go.Shr.wpAnyF_skip 5 (oi := { dst := some 68, op := Go.Op.load 35 (Go.Operand.tmp 67), type := 35, pos := "law.go:103", after := #[{ on := 4, ground := Go.Ground.data }, { on := 1, ground := Go.Ground.guard }], guard := some (1, false) }) rfl (by kernel_rfl) (fun _ _ _ h => h) (by assumption) (by rfl) ?_
          | (refine Go.Shr.wpAnyF_take 5 (oi := { dst := some 68, op := Go.Op.load 35 (Go.Operand.tmp 67), type := 35, pos := "law.go:103", after := #[{ on := 4, ground := Go.Ground.data }, { on := 1, ground := Go.Ground.guard }], guard := some (1, false) }) (v := ?g5rv6) rfl (by kernel_rfl) (fun _ _ _ h => h) (by assumption) (by rfl) ?g5ry6 ?g5rr6
             case g5ry6 => intro w hSw; (rename_i w; obtain ⟨g0, g1, g2⟩ := hSw); (have q2 := g0.cell 0 2 rfl rfl); (have q3 := g0.cell 0 3 rfl rfl); (have q4 := g0.cell 0 4 rfl rfl); (have q5 := g0.cell 0 5 rfl rfl); go_simp; try with_reducible rfl)
        try simp only [Act.put, List.setIfInBounds_toArray, List.set_cons_zero, List.set_cons_succ]
        first
          | refine Go.Shr.wpAnyF_skip 6 (oi := { dst := some 69, op := Go.Op.fieldAddr 37 (Go.Operand.tmp 9) 2, type := 0, pos := "law.go:103", after := #[{ on := 1, ground := Go.Ground.guard }], guard := some (1, false) }) rfl (by kernel_rfl) (fun _ _ _ h => h) (by assumption) (by rfl) ?_
          | (refine Go.Shr.wpAnyF_take 6 (oi := { dst := some 69, op := Go.Op.fieldAddr 37 (Go.Operand.tmp 9) 2, type := 0, pos := "law.go:103", after := #[{ on := 1, ground := Go.Ground.guard }], guard := some (1, false) }) (v := ?g5rv7) rfl (by kernel_rfl) (fun _ _ _ h => h) (by assumption) (by rfl) ?g5ry7 ?g5rr7
             case g5ry7 => intro w hSw; (rename_i w; obtain ⟨g0, g1, g2⟩ := hSw); (have q2 := g0.cell 0 2 rfl rfl); (have q3 := g0.cell 0 3 rfl rfl); (have q4 := g0.cell 0 4 rfl rfl); (have q5 := g0.cell 0 5 rfl rfl); go_simp; try with_reducible rfl)
        try simp only [Act.put, List.setIfInBounds_toArray, List.set_cons_zero, List.set_cons_succ]
        first
          | refine Go.Shr.wpAnyF_skip 7 (oi := { dst := some 70, op := Go.Op.load 35 (Go.Operand.tmp 69), type := 35, pos := "law.go:103", after := #[{ on := 6, ground := Go.Ground.data }, { on := 1, ground := Go.Ground.guard }], guard := some (1, false) }) rfl (by kernel_rfl) (fun _ _ _ h => h) (by assumption) (by rfl) ?_
          | (refine Go.Shr.wpAnyF_take 7 (oi := { dst := some 70, op := Go.Op.load 35 (Go.Operand.tmp 69), type := 35, pos := "law.go:103", after := #[{ on := 6, ground := Go.Ground.data }, { on := 1, ground := Go.Ground.guard }], guard := some (1, false) }) (v := ?g5rv8) rfl (by kernel_rfl) (fun _ _ _ h => h) (by assumption) (by rfl) ?g5ry8 ?g5rr8
             case g5ry8 => intro w hSw; (rename_i w; obtain ⟨g0, g1, g2⟩ := hSw); (have q2 := g0.cell 0 2 rfl rfl); (have q3 := g0.cell 0 3 rfl rfl); (have q4 := g0.cell 0 4 rfl rfl); (have q5 := g0.cell 0 5 rfl rfl); go_simp; try with_reducible rfl)
        try simp only [Act.put, List.setIfInBounds_toArray, List.set_cons_zero, List.set_cons_succ]
        first
          | refine Go.Shr.wpAnyF_skip 8 (oi := { dst := some 71, op := Go.Op.binOp Go.BinOp.eql 35 (Go.Operand.tmp 68) (Go.Operand.tmp 70) 35, type := 4, pos := "law.go:103", after := #[{ on := 5, ground := Go.Ground.data }, { on := 7, ground := Go.Ground.data }, { on := 1, ground := Go.Ground.guard }], guard := some (1, false) }) rfl (by kernel_rfl) (fun _ _ _ h => h) (by assumption) (by rfl) ?_
          | (refine Go.Shr.wpAnyF_take 8 (oi := { dst := some 71, op := Go.Op.binOp Go.BinOp.eql 35 (Go.Operand.tmp 68) (Go.Operand.tmp 70) 35, type := 4, pos := "law.go:103", after := #[{ on := 5, ground := Go.Ground.data }, { on := 7, ground := Go.Ground.data }, { on := 1, ground := Go.Ground.guard }], guard := some (1, false) }) (v := ?g5rv9) rfl (by kernel_rfl) (fun _ _ _ h => h) (by assumption) (by rfl) ?g5ry9 ?g5rr9
             case g5ry9 => intro w hSw; (rename_i w; obtain ⟨g0, g1, g2⟩ := hSw); (have q2 := g0.cell 0 2 rfl rfl); (have q3 := g0.cell 0 3 rfl rfl); (have q4 := g0.cell 0 4 rfl rfl); (have q5 := g0.cell 0 5 rfl rfl); (refine eqlv_exec _ _ _ _ _ _ _ _ x s.mn _ ?_ ?_ <;> rfl))
        try simp only [Act.put, List.setIfInBounds_toArray, List.set_cons_zero, List.set_cons_succ]
        refine Go.Shr.wpAnyF_take 9 (oi := { dst := some 72, op := Go.Op.pick (Go.Operand.tmp 64) (Go.Operand.const (Go.Value.bool true)) (Go.Operand.tmp 71), type := 4, pos := "law.go:103", after := #[{ on := 1, ground := Go.Ground.data }, { on := 8, ground := Go.Ground.data }], guard := none }) (v := ?g5rv10) rfl (by kernel_rfl) (fun _ _ _ h => h) (by assumption) (by rfl) ?g5ry10 ?g5rr10
        case g5ry10 => intro w hSw; (rename_i w; obtain ⟨g0, g1, g2⟩ := hSw); (have q2 := g0.cell 0 2 rfl rfl); (have q3 := g0.cell 0 3 rfl rfl); (have q4 := g0.cell 0 4 rfl rfl); (have q5 := g0.cell 0 5 rfl rfl); go_simp; try with_reducible rfl
        try simp only [Act.put, List.setIfInBounds_toArray, List.set_cons_zero, List.set_cons_succ]
        refine Go.Shr.wpAnyF_take 10 (oi := { dst := some 73, op := Go.Op.move (Go.Operand.tmp 11), type := 4, pos := "law.go:103", after := #[], guard := none }) (v := ?g5rv11) rfl (by kernel_rfl) (fun _ _ _ h => h) (by assumption) (by rfl) ?g5ry11 ?g5rr11
        case g5ry11 => intro w hSw; (rename_i w; obtain ⟨g0, g1, g2⟩ := hSw); (have q2 := g0.cell 0 2 rfl rfl); (have q3 := g0.cell 0 3 rfl rfl); (have q4 := g0.cell 0 4 rfl rfl); (have q5 := g0.cell 0 5 rfl rfl); go_simp; try with_reducible rfl
        try simp only [Act.put, List.setIfInBounds_toArray, List.set_cons_zero, List.set_cons_succ]
        refine Go.Shr.wpAnyF_take 11 (oi := { dst := some 74, op := Go.Op.move (Go.Operand.tmp 73), type := 4, pos := "law.go:103", after := #[{ on := 10, ground := Go.Ground.data }, { on := 1, ground := Go.Ground.chain }], guard := none }) (v := ?g5rv12) rfl (by kernel_rfl) (fun _ _ _ h => h) (by assumption) (by rfl) ?g5ry12 ?g5rr12
        case g5ry12 => intro w hSw; (rename_i w; obtain ⟨g0, g1, g2⟩ := hSw); (have q2 := g0.cell 0 2 rfl rfl); (have q3 := g0.cell 0 3 rfl rfl); (have q4 := g0.cell 0 4 rfl rfl); (have q5 := g0.cell 0 5 rfl rfl); go_simp; try with_reducible rfl
        try simp only [Act.put, List.setIfInBounds_toArray, List.set_cons_zero, List.set_cons_succ]
        first
          | refine Go.Shr.wpAnyF_skip 12 (oi := { dst := some 75, op := Go.Op.move (Go.Operand.tmp 6), type := 22, pos := "law.go:103", after := #[{ on := 11, ground := Go.Ground.guard }, { on := 20, ground := Go.Ground.gcOnly Go.Departure.lateStores }], guard := some (11, false) }) rfl (by kernel_rfl) (fun _ _ _ h => h) (by assumption) (by rfl) ?_
          | (refine Go.Shr.wpAnyF_take 12 (oi := { dst := some 75, op := Go.Op.move (Go.Operand.tmp 6), type := 22, pos := "law.go:103", after := #[{ on := 11, ground := Go.Ground.guard }, { on := 20, ground := Go.Ground.gcOnly Go.Departure.lateStores }], guard := some (11, false) }) (v := ?g5rv13) rfl (by kernel_rfl) (fun _ _ _ h => h) (by assumption) (by rfl) ?g5ry13 ?g5rr13
             case g5ry13 => intro w hSw; (rename_i w; obtain ⟨g0, g1, g2⟩ := hSw); (have q2 := g0.cell 0 2 rfl rfl); (have q3 := g0.cell 0 3 rfl rfl); (have q4 := g0.cell 0 4 rfl rfl); (have q5 := g0.cell 0 5 rfl rfl); go_simp; try with_reducible rfl)
        try simp only [Act.put, List.setIfInBounds_toArray, List.set_cons_zero, List.set_cons_succ]
        first
          | refine Go.Shr.wpAnyF_skip 13 (oi := { dst := some 76, op := Go.Op.move (Go.Operand.tmp 12), type := 3, pos := "law.go:103", after := #[{ on := 11, ground := Go.Ground.guard }, { on := 20, ground := Go.Ground.gcOnly Go.Departure.lateStores }], guard := some (11, false) }) rfl (by kernel_rfl) (fun _ _ _ h => h) (by assumption) (by rfl) ?_
          | (refine Go.Shr.wpAnyF_take 13 (oi := { dst := some 76, op := Go.Op.move (Go.Operand.tmp 12), type := 3, pos := "law.go:103", after := #[{ on := 11, ground := Go.Ground.guard }, { on := 20, ground := Go.Ground.gcOnly Go.Departure.lateStores }], guard := some (11, false) }) (v := ?g5rv14) rfl (by kernel_rfl) (fun _ _ _ h => h) (by assumption) (by rfl) ?g5ry14 ?g5rr14
             case g5ry14 => intro w hSw; (rename_i w; obtain ⟨g0, g1, g2⟩ := hSw); (have q2 := g0.cell 0 2 rfl rfl); (have q3 := g0.cell 0 3 rfl rfl); (have q4 := g0.cell 0 4 rfl rfl); (have q5 := g0.cell 0 5 rfl rfl); go_simp; try with_reducible rfl)
        try simp only [Act.put, List.setIfInBounds_toArray, List.set_cons_zero, List.set_cons_succ]
        first
          | refine Go.Shr.wpAnyF_skip 14 (oi := { dst := some 77, op := Go.Op.indexAddr 22 (Go.Operand.tmp 75) (Go.Operand.tmp 76), type := 0, pos := "law.go:103", after := #[{ on := 12, ground := Go.Ground.data }, { on := 13, ground := Go.Ground.data }, { on := 11, ground := Go.Ground.guard }, { on := 20, ground := Go.Ground.gcOnly Go.Departure.lateStores }], guard := some (11, false) }) rfl (by kernel_rfl) (fun _ _ _ h => h) (by assumption) (by rfl) ?_
          | (refine Go.Shr.wpAnyF_take 14 (oi := { dst := some 77, op := Go.Op.indexAddr 22 (Go.Operand.tmp 75) (Go.Operand.tmp 76), type := 0, pos := "law.go:103", after := #[{ on := 12, ground := Go.Ground.data }, { on := 13, ground := Go.Ground.data }, { on := 11, ground := Go.Ground.guard }, { on := 20, ground := Go.Ground.gcOnly Go.Departure.lateStores }], guard := some (11, false) }) (v := ?g5rv15) rfl (by kernel_rfl) (fun _ _ _ h => h) (by assumption) (by rfl) ?g5ry15 ?g5rr15
             case g5ry15 => intro w hSw; (rename_i w; obtain ⟨g0, g1, g2⟩ := hSw); (have q2 := g0.cell 0 2 rfl rfl); (have q3 := g0.cell 0 3 rfl rfl); (have q4 := g0.cell 0 4 rfl rfl); (have q5 := g0.cell 0 5 rfl rfl); go_simp; try with_reducible rfl)
        try simp only [Act.put, List.setIfInBounds_toArray, List.set_cons_zero, List.set_cons_succ]
        first
          | refine Go.Shr.wpAnyF_skip 15 (oi := { dst := some 78, op := Go.Op.load 35 (Go.Operand.tmp 77), type := 35, pos := "law.go:103", after := #[{ on := 14, ground := Go.Ground.data }, { on := 11, ground := Go.Ground.guard }, { on := 20, ground := Go.Ground.gcOnly Go.Departure.lateStores }], guard := some (11, false) }) rfl (by kernel_rfl) (fun _ _ _ h => h) (by assumption) (by rfl) ?_
          | (refine Go.Shr.wpAnyF_take 15 (oi := { dst := some 78, op := Go.Op.load 35 (Go.Operand.tmp 77), type := 35, pos := "law.go:103", after := #[{ on := 14, ground := Go.Ground.data }, { on := 11, ground := Go.Ground.guard }, { on := 20, ground := Go.Ground.gcOnly Go.Departure.lateStores }], guard := some (11, false) }) (v := ?g5rv16) rfl (by kernel_rfl) (fun _ _ _ h => h) (by assumption) (by rfl) ?g5ry16 ?g5rr16
             case g5ry16 => intro w hSw; (rename_i w; obtain ⟨g0, g1, g2⟩ := hSw); (have q2 := g0.cell 0 2 rfl rfl); (have q3 := g0.cell 0 3 rfl rfl); (have q4 := g0.cell 0 4 rfl rfl); (have q5 := g0.cell 0 5 rfl rfl); go_simp; try with_reducible rfl)
        try simp only [Act.put, List.setIfInBounds_toArray, List.set_cons_zero, List.set_cons_succ]
        first
          | refine Go.Shr.wpAnyF_skip 16 (oi := { dst := some 79, op := Go.Op.fieldAddr 37 (Go.Operand.tmp 9) 3, type := 0, pos := "law.go:103", after := #[{ on := 11, ground := Go.Ground.guard }, { on := 20, ground := Go.Ground.gcOnly Go.Departure.lateStores }], guard := some (11, false) }) rfl (by kernel_rfl) (fun _ _ _ h => h) (by assumption) (by rfl) ?_
          | (refine Go.Shr.wpAnyF_take 16 (oi := { dst := some 79, op := Go.Op.fieldAddr 37 (Go.Operand.tmp 9) 3, type := 0, pos := "law.go:103", after := #[{ on := 11, ground := Go.Ground.guard }, { on := 20, ground := Go.Ground.gcOnly Go.Departure.lateStores }], guard := some (11, false) }) (v := ?g5rv17) rfl (by kernel_rfl) (fun _ _ _ h => h) (by assumption) (by rfl) ?g5ry17 ?g5rr17
             case g5ry17 => intro w hSw; (rename_i w; obtain ⟨g0, g1, g2⟩ := hSw); (have q2 := g0.cell 0 2 rfl rfl); (have q3 := g0.cell 0 3 rfl rfl); (have q4 := g0.cell 0 4 rfl rfl); (have q5 := g0.cell 0 5 rfl rfl); go_simp; try with_reducible rfl)
        try simp only [Act.put, List.setIfInBounds_toArray, List.set_cons_zero, List.set_cons_succ]
        first
          | refine Go.Shr.wpAnyF_skip 17 (oi := { dst := some 80, op := Go.Op.load 35 (Go.Operand.tmp 79), type := 35, pos := "law.go:103", after := #[{ on := 16, ground := Go.Ground.data }, { on := 11, ground := Go.Ground.guard }, { on := 20, ground := Go.Ground.gcOnly Go.Departure.lateStores }], guard := some (11, false) }) rfl (by kernel_rfl) (fun _ _ _ h => h) (by assumption) (by rfl) ?_
          | (refine Go.Shr.wpAnyF_take 17 (oi := { dst := some 80, op := Go.Op.load 35 (Go.Operand.tmp 79), type := 35, pos := "law.go:103", after := #[{ on := 16, ground := Go.Ground.data }, { on := 11, ground := Go.Ground.guard }, { on := 20, ground := Go.Ground.gcOnly Go.Departure.lateStores }], guard := some (11, false) }) (v := ?g5rv18) rfl (by kernel_rfl) (fun _ _ _ h => h) (by assumption) (by rfl) ?g5ry18 ?g5rr18
             case g5ry18 => intro w hSw; (rename_i w; obtain ⟨g0, g1, g2⟩ := hSw); (have q2 := g0.cell 0 2 rfl rfl); (have q3 := g0.cell 0 3 rfl rfl); (have q4 := g0.cell 0 4 rfl rfl); (have q5 := g0.cell 0 5 rfl rfl); go_simp; try with_reducible rfl)
        try simp only [Act.put, List.setIfInBounds_toArray, List.set_cons_zero, List.set_cons_succ]
        first
          | refine Go.Shr.wpAnyF_skip 18 (oi := { dst := some 81, op := Go.Op.binOp Go.BinOp.eql 35 (Go.Operand.tmp 78) (Go.Operand.tmp 80) 35, type := 4, pos := "law.go:103", after := #[{ on := 15, ground := Go.Ground.data }, { on := 17, ground := Go.Ground.data }, { on := 11, ground := Go.Ground.guard }, { on := 20, ground := Go.Ground.gcOnly Go.Departure.lateStores }], guard := some (11, false) }) rfl (by kernel_rfl) (fun _ _ _ h => h) (by assumption) (by rfl) ?_
          | (refine Go.Shr.wpAnyF_take 18 (oi := { dst := some 81, op := Go.Op.binOp Go.BinOp.eql 35 (Go.Operand.tmp 78) (Go.Operand.tmp 80) 35, type := 4, pos := "law.go:103", after := #[{ on := 15, ground := Go.Ground.data }, { on := 17, ground := Go.Ground.data }, { on := 11, ground := Go.Ground.guard }, { on := 20, ground := Go.Ground.gcOnly Go.Departure.lateStores }], guard := some (11, false) }) (v := ?g5rv19) rfl (by kernel_rfl) (fun _ _ _ h => h) (by assumption) (by rfl) ?g5ry19 ?g5rr19
             case g5ry19 => intro w hSw; (rename_i w; obtain ⟨g0, g1, g2⟩ := hSw); (have q2 := g0.cell 0 2 rfl rfl); (have q3 := g0.cell 0 3 rfl rfl); (have q4 := g0.cell 0 4 rfl rfl); (have q5 := g0.cell 0 5 rfl rfl); (refine eqlv_exec _ _ _ _ _ _ _ _ x s.mx _ ?_ ?_ <;> rfl))
        try simp only [Act.put, List.setIfInBounds_toArray, List.set_cons_zero, List.set_cons_succ]
        refine Go.Shr.wpAnyF_take 19 (oi := { dst := some 82, op := Go.Op.pick (Go.Operand.tmp 74) (Go.Operand.const (Go.Value.bool true)) (Go.Operand.tmp 81), type := 4, pos := "law.go:103", after := #[{ on := 11, ground := Go.Ground.data }, { on := 18, ground := Go.Ground.data }, { on := 20, ground := Go.Ground.gcOnly Go.Departure.lateStores }], guard := none }) (v := ?g5rv20) rfl (by kernel_rfl) (fun _ _ _ h => h) (by assumption) (by rfl) ?g5ry20 ?g5rr20
        case g5ry20 => intro w hSw; (rename_i w; obtain ⟨g0, g1, g2⟩ := hSw); (have q2 := g0.cell 0 2 rfl rfl); (have q3 := g0.cell 0 3 rfl rfl); (have q4 := g0.cell 0 4 rfl rfl); (have q5 := g0.cell 0 5 rfl rfl); go_simp; try with_reducible rfl
        try simp only [Act.put, List.setIfInBounds_toArray, List.set_cons_zero, List.set_cons_succ]
        refine Go.Shr.wpAnyF_take 20 (oi := { dst := some 10, op := Go.Op.assign (Go.Operand.tmp 72), type := 4, pos := "law.go:103", after := #[{ on := 9, ground := Go.Ground.data }, { on := 11, ground := Go.Ground.chain }, { on := 0, ground := Go.Ground.phase }, { on := 1, ground := Go.Ground.phase }, { on := 2, ground := Go.Ground.phase }, { on := 3, ground := Go.Ground.phase }, { on := 4, ground := Go.Ground.phase }, { on := 5, ground := Go.Ground.phase }, { on := 6, ground := Go.Ground.phase }, { on := 7, ground := Go.Ground.phase }, { on := 8, ground := Go.Ground.phase }, { on := 9, ground := Go.Ground.phase }, { on := 10, ground := Go.Ground.textOnly Go.Departure.lateStores }, { on := 11, ground := Go.Ground.textOnly Go.Departure.lateStores }, { on := 12, ground := Go.Ground.textOnly Go.Departure.lateStores }, { on := 13, ground := Go.Ground.textOnly Go.Departure.lateStores }, { on := 14, ground := Go.Ground.textOnly Go.Departure.lateStores }, { on := 15, ground := Go.Ground.textOnly Go.Departure.lateStores }, { on := 16, ground := Go.Ground.textOnly Go.Departure.lateStores }, { on := 17, ground := Go.Ground.textOnly Go.Departure.lateStores }, { on := 18, ground := Go.Ground.textOnly Go.Departure.lateStores }, { on := 19, ground := Go.Ground.textOnly Go.Departure.lateStores }], guard := none }) (v := ?g5rv21) rfl (by kernel_rfl) (fun _ _ _ h => h) (by assumption) (by rfl) ?g5ry21 ?g5rr21
        case g5ry21 => intro w hSw; (rename_i w; obtain ⟨g0, g1, g2⟩ := hSw); (have q2 := g0.cell 0 2 rfl rfl); (have q3 := g0.cell 0 3 rfl rfl); (have q4 := g0.cell 0 4 rfl rfl); (have q5 := g0.cell 0 5 rfl rfl); go_simp; try with_reducible rfl
        try simp only [Act.put, List.setIfInBounds_toArray, List.set_cons_zero, List.set_cons_succ]
        refine Go.Shr.wpAnyF_take 21 (oi := { dst := some 11, op := Go.Op.assign (Go.Operand.tmp 82), type := 4, pos := "law.go:103", after := #[{ on := 19, ground := Go.Ground.data }, { on := 20, ground := Go.Ground.chain }, { on := 0, ground := Go.Ground.phase }, { on := 1, ground := Go.Ground.phase }, { on := 2, ground := Go.Ground.phase }, { on := 3, ground := Go.Ground.phase }, { on := 4, ground := Go.Ground.phase }, { on := 5, ground := Go.Ground.phase }, { on := 6, ground := Go.Ground.phase }, { on := 7, ground := Go.Ground.phase }, { on := 8, ground := Go.Ground.phase }, { on := 9, ground := Go.Ground.phase }, { on := 10, ground := Go.Ground.phase }, { on := 11, ground := Go.Ground.phase }, { on := 12, ground := Go.Ground.phase }, { on := 13, ground := Go.Ground.phase }, { on := 14, ground := Go.Ground.phase }, { on := 15, ground := Go.Ground.phase }, { on := 16, ground := Go.Ground.phase }, { on := 17, ground := Go.Ground.phase }, { on := 18, ground := Go.Ground.phase }, { on := 19, ground := Go.Ground.phase }, { on := 20, ground := Go.Ground.phase }], guard := none }) (v := ?g5rv22) rfl (by kernel_rfl) (fun _ _ _ h => h) (by assumption) (by rfl) ?g5ry22 ?g5rr22
        case g5ry22 => intro w hSw; (rename_i w; obtain ⟨g0, g1, g2⟩ := hSw); (have q2 := g0.cell 0 2 rfl rfl); (have q3 := g0.cell 0 3 rfl rfl); (have q4 := g0.cell 0 4 rfl rfl); (have q5 := g0.cell 0 5 rfl rfl); go_simp; try with_reducible rfl
        try simp only [Act.put, List.setIfInBounds_toArray, List.set_cons_zero, List.set_cons_succ]
        refine Go.Shr.wpAnyF_done (by kernel_rfl) ?_
        go_wp2_with fail
        go_roundw
        case rel => exact ⟨j + 1, by go_num, by omega, by rw [T1.out]; first | rfl | simp, by rw [T2.out]; first | rfl | simp, Lib.hid hHeld.1.drew, Lib.hid HB7.out, Lib.hid HBw7.out⟩
        case measure => simp [intOf]; omega
    · obtain rfl : j = nV := by omega
      have ht : r.take j = r := List.take_of_length_le (by omega)
      rw [ht, C1.out, C2.out]
      have d0 := HR9'.out.cell 0 0 rfl rfl
      have d1 := HR9'.out.cell 0 1 rfl rfl
      have HBW := Lib.hid HBw.out
      rw [C3.out] at d1
      rw [C4.out] at d0
      by_cases h0 : 0 < j
      · have h1 : decide (0 < j) = true := decide_eq_true h0
        rw [h1] at d1
        go_wp2_with fail
        go_ret
        exact ⟨rfl, HBW.out⟩
      · have h1 : decide (0 < j) = false := decide_eq_false h0
        rw [h1] at d1
        obtain rfl : j = 0 := by omega
        go_wp2_with fail
        go_ret
        exact ⟨rfl, HBW.out⟩
end Go.Proofs.Ytnmlngpkhlafgaa
