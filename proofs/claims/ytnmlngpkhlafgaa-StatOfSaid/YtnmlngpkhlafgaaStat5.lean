/-
  The walk of Of.
-/
import Derived.Test.YtnmlngpkhlafgaaStat4
set_option linter.unusedSimpArgs false
namespace Go.Proofs.Ytnmlngpkhlafgaa
open Go.RowKit Go.Shr
set_option maxHeartbeats 1000000 in
theorem of_v (k : Int) (f1 f2 f3 : Int) (aR aD aV : Option Addr) (nR cR nD cD nV cV : Nat) (l : List Vl) (w : World) (hl : Sl (fun b => b < w.heap.size) w 2 aV nV cV (vls l)) (hn : nD ≤ 1000) (hv : nV ≤ nD) :
    Calls Try.prog 12 #[.agg #[.int .i64 f1, .int .i64 f2, .int .i64 f3, .int .i64 k], .agg #[.slice aR nR cR, .slice aD nD cD, .slice aV nV cV]] w fun e w' => e = .returned (ofS k ((nD : Int) - nV) l).v ∧ Below w.heap.size w w' := by
  have hlen : l.length = nV := by have := hl.len; rw [vls_length] at this; omega
  have hcell : ∀ j (hj : j < l.length), ∃ b off, aV = some ⟨b, off, none⟩ ∧ w.cell? ⟨b, off + j * 2, none⟩ = some (.int .i64 l[j].n) ∧ w.cell? ⟨b, off + j * 2 + 1, none⟩ = some (.string l[j].s) := fun j hj => by
    obtain ⟨b, off, h1, _, h3⟩ := hl.pos (by omega)
    have := vls_get l j (by omega)
    exact ⟨b, off, h1, h3 _ _ this.1, by rw [Nat.add_assoc]; exact h3 _ _ this.2⟩
  have HC := Lib.hid hcell; clear hcell
  have HL := Lib.hid hl; clear hl
  have hmax : (max ((nD : Int) - nV) 0) = (nD : Int) - nV := by omega
  have hk0 : 0 ≤ (nD : Int) - nV := by omega
  go_enter Try.func12, Try.ntmps12
  go_wp2_with fail
  refine wp_gotoloop 0 (fun a' wr => ∃ (j : Nat) (x : St) (u7 u8 u9 u10 u11 u12 u13 u14 u15 u16 u17 u18 u19 u20 u21 u22 u23 u24 u25 u26 u27 u28 u29 u30 u31 u32 u33 u34 u35 u36 u37 u38 : Value), a' = { tmps := #[.agg #[.int .i64 f1, .int .i64 f2, .int .i64 f3, .int .i64 k], .agg #[.slice aR nR cR, .slice aD nD cD, .slice aV nV cV], .pointer (some ⟨w.heap.size, 0, none⟩), .pointer (some ⟨w.heap.size + 1, 0, none⟩), .pointer (some ⟨w.heap.size + 1 + 1, 0, none⟩), .pointer (some ⟨w.heap.size + 1 + 1 + 1, 0, none⟩), .int .i64 j, u7, u8, u9, u10, u11, u12, u13, u14, u15, u16, u17, u18, u19, u20, u21, u22, u23, u24, u25, u26, u27, u28, u29, u30, u31, u32, u33, u34, u35, u36, u37, u38], defers := [] } ∧ j ≤ nV ∧ Hid (x = ofS k ((nD : Int) - nV) (l.take j)) ∧ x.nulls = (nD : Int) - nV ∧
      Hid (Rw wr w.heap.size #[.int .i64 f1, .int .i64 f2, .int .i64 f3, .int .i64 k] 28) ∧ Hid (Rw wr (w.heap.size + 1) #[.slice aR nR cR, .slice aD nD cD, .slice aV nV cV] 31) ∧ Hid (Rw wr (w.heap.size + 1 + 1) #[.int .i64 0, .bool false, .int .i64 0, .string ByteArray.empty, .int .i64 0, .string ByteArray.empty] 37) ∧ Hid (Rw wr (w.heap.size + 1 + 1 + 1) #[.int .i64 x.nulls, .bool x.has, .int .i64 x.mn.n, .string x.mn.s, .int .i64 x.mx.n, .string x.mx.s] 37) ∧ Below w.heap.size w wr)
    (fun a' _ => nV - (intOf (a'.tmps.getD 6 undef)).toNat) rfl ?pass ?first
  case first =>
    intro hp; have HP := Lib.hid hp; clear hp
    apply wp_seq_k; intro K hK; have HK := Lib.hid hK; clear hK
    go_wp2_with fail
    apply HK.out
    apply wp_seq_k; intro K2 hK2; have HK2 := Lib.hid hK2; clear hK2
    go_wp2_with fail
    apply HK2.out
    refine wp_label_seq (HP.out _ _ ⟨0, ⟨(nD : Int) - nV, false, Vl.zero, Vl.zero⟩, _, _, _, _, _, _, _, _, _, _, _, _, _, _, _, _, _, _, _, _, _, _, _, _, _, _, _, _, _, _, _, _, rfl, Nat.zero_le _, Lib.hid rfl, rfl, Lib.hid ?_, Lib.hid ?_, Lib.hid ?_, Lib.hid ?_, ?_⟩)
    iterate 4 · repeat (first | exact Rw.new' (by simp; done) | refine Rw.alloc ?_ _)
    · repeat (first | with_reducible exact Below.refl _ _ | refine ba ?_ _)
  case pass =>
    rintro a' wr ⟨j, x, u7, u8, u9, u10, u11, u12, u13, u14, u15, u16, u17, u18, u19, u20, u21, u22, u23, u24, u25, u26, u27, u28, u29, u30, u31, u32, u33, u34, u35, u36, u37, u38, rfl, hj, hx, hxn, HR0, HR1, HR2, HR3, hb⟩
    have c0 : wr.cell? ⟨w.heap.size, 3, none⟩ = some (.int .i64 k) := HR0.out.cell 3
    have c1 : wr.cell? ⟨w.heap.size + 1, 2, none⟩ = some (.slice aV nV cV) := HR1.out.cell 2
    have d0 : wr.cell? ⟨w.heap.size + 1 + 1 + 1, 0, none⟩ = some (.int .i64 x.nulls) := HR3.out.cell 0
    have d1 : wr.cell? ⟨w.heap.size + 1 + 1 + 1, 1, none⟩ = some (.bool x.has) := HR3.out.cell 1
    have d2 : wr.cell? ⟨w.heap.size + 1 + 1 + 1, 2, none⟩ = some (.int .i64 x.mn.n) := HR3.out.cell 2
    have d3 : wr.cell? ⟨w.heap.size + 1 + 1 + 1, 3, none⟩ = some (.string x.mn.s) := HR3.out.cell 3
    have d4 : wr.cell? ⟨w.heap.size + 1 + 1 + 1, 4, none⟩ = some (.int .i64 x.mx.n) := HR3.out.cell 4
    have d5 : wr.cell? ⟨w.heap.size + 1 + 1 + 1, 5, none⟩ = some (.string x.mx.s) := HR3.out.cell 5
    have g2 : ∀ i, wr.frozen? ⟨w.heap.size + 1 + 1, i, none⟩ = false := HR2.out.frozen
    have g3 : ∀ i, wr.frozen? ⟨w.heap.size + 1 + 1 + 1, i, none⟩ = false := HR3.out.frozen
    have hr2 := HR2.out.lt
    have hxn1 : 0 ≤ x.nulls ∧ x.nulls ≤ 100000 := by omega
    have HXN := Lib.hid hxn; clear hxn
    have HXB := Lib.hid hxn1; clear hxn1
    have hr3 := HR3.out.lt
    by_cases hlt : j < nV
    · have hd : ((j : Int) == (nV : Int)) = false := beq_eq_false_iff_ne.2 (by omega)
      obtain ⟨b, off, rfl, e1, e2⟩ := HC.out j (by omega)
      replace e1 : wr.cell? ⟨b, off + j * 2, none⟩ = some (.int .i64 l[j].n) := (hb.cell (p := ⟨b, off + j * 2, none⟩) (World.block_lt_of_cell? w ⟨b, off + j * 2, none⟩ e1)).trans e1
      replace e2 : wr.cell? ⟨b, off + j * 2 + 1, none⟩ = some (.string l[j].s) := (hb.cell (p := ⟨b, off + j * 2 + 1, none⟩) (World.block_lt_of_cell? w ⟨b, off + j * 2 + 1, none⟩ e2)).trans e2
      have hbw : b < wr.heap.size := World.block_lt_of_cell? wr _ e1
      go_wp2_with fail
      refine Go.Shr.wp_region_F (fun w' => w'.cell? ⟨w.heap.size, 3, none⟩ = some (.int .i64 k) ∧ w'.cell? ⟨w.heap.size + 1, 2, none⟩ = some (.slice (some ⟨b, off, none⟩) nV cV) ∧ w'.cell? ⟨w.heap.size + 1 + 1 + 1, 0, none⟩ = some (.int .i64 x.nulls) ∧ w'.cell? ⟨w.heap.size + 1 + 1 + 1, 1, none⟩ = some (.bool x.has) ∧ w'.cell? ⟨w.heap.size + 1 + 1 + 1, 2, none⟩ = some (.int .i64 x.mn.n) ∧ w'.cell? ⟨w.heap.size + 1 + 1 + 1, 3, none⟩ = some (.string x.mn.s) ∧ w'.cell? ⟨w.heap.size + 1 + 1 + 1, 4, none⟩ = some (.int .i64 x.mx.n) ∧ w'.cell? ⟨w.heap.size + 1 + 1 + 1, 5, none⟩ = some (.string x.mx.s) ∧ w'.cell? ⟨b, off + j * 2, none⟩ = some (.int .i64 l[j].n) ∧ w'.cell? ⟨b, off + j * 2 + 1, none⟩ = some (.string l[j].s)) [15] (by kernel_rfl) ?g1rgS (fun hHeld => ?g1rgR)
      case g1rgS => (try dsimp only); (first | exact ⟨c0, c1, d0, d1, d2, d3, d4, d5, e1, e2⟩ | (obtain ⟨hcc, hff⟩ := bcell HB1.out; exact ⟨(hcc _ _ (by omega)).trans c0, (hcc _ _ (by omega)).trans c1, (hcc _ _ (by omega)).trans d0, (hcc _ _ (by omega)).trans d1, (hcc _ _ (by omega)).trans d2, (hcc _ _ (by omega)).trans d3, (hcc _ _ (by omega)).trans d4, (hcc _ _ (by omega)).trans d5, (hcc _ _ hbw).trans e1, (hcc _ _ hbw).trans e2⟩))
      try dsimp only at hHeld
      refine Go.Shr.wpAnyF_take 0 (oi := { dst := some 22, op := Go.Op.fieldAddr 28 (Go.Operand.tmp 2) 3, type := 0, pos := "stat.go:17", after := #[], guard := none }) (v := ?g1rv1) rfl (by kernel_rfl) (fun _ _ _ h => h) (by assumption) (by rfl) ?g1ry1 ?g1rr1
      case g1ry1 => intro w hSw; obtain ⟨q1, q2, q3, q4, q5, q6, q7, q8, q9, q10⟩ := hSw; go_simp; try with_reducible rfl
      try simp only [Act.put, List.setIfInBounds_toArray, List.set_cons_zero, List.set_cons_succ]
      refine Go.Shr.wpAnyF_take 1 (oi := { dst := some 23, op := Go.Op.load 3 (Go.Operand.tmp 22), type := 3, pos := "stat.go:17", after := #[{ on := 0, ground := Go.Ground.data }], guard := none }) (v := ?g1rv2) rfl (by kernel_rfl) (fun _ _ _ h => h) (by assumption) (by rfl) ?g1ry2 ?g1rr2
      case g1ry2 => intro w hSw; obtain ⟨q1, q2, q3, q4, q5, q6, q7, q8, q9, q10⟩ := hSw; go_simp; try with_reducible rfl
      try simp only [Act.put, List.setIfInBounds_toArray, List.set_cons_zero, List.set_cons_succ]
      refine Go.Shr.wpAnyF_take 2 (oi := { dst := some 24, op := Go.Op.load 37 (Go.Operand.tmp 5), type := 37, pos := "stat.go:17", after := #[], guard := none }) (v := ?g1rv3) rfl (by kernel_rfl) (fun _ _ _ h => h) (by assumption) (by rfl) ?g1ry3 ?g1rr3
      case g1ry3 => intro w hSw; obtain ⟨q1, q2, q3, q4, q5, q6, q7, q8, q9, q10⟩ := hSw; go_simp; try with_reducible rfl
      try simp only [Act.put, List.setIfInBounds_toArray, List.set_cons_zero, List.set_cons_succ]
      refine Go.Shr.wpAnyF_take 3 (oi := { dst := some 25, op := Go.Op.fieldAddr 31 (Go.Operand.tmp 3) 2, type := 0, pos := "stat.go:17", after := #[], guard := none }) (v := ?g1rv4) rfl (by kernel_rfl) (fun _ _ _ h => h) (by assumption) (by rfl) ?g1ry4 ?g1rr4
      case g1ry4 => intro w hSw; obtain ⟨q1, q2, q3, q4, q5, q6, q7, q8, q9, q10⟩ := hSw; go_simp; try with_reducible rfl
      try simp only [Act.put, List.setIfInBounds_toArray, List.set_cons_zero, List.set_cons_succ]
      refine Go.Shr.wpAnyF_take 4 (oi := { dst := some 26, op := Go.Op.load 22 (Go.Operand.tmp 25), type := 22, pos := "stat.go:17", after := #[{ on := 3, ground := Go.Ground.data }], guard := none }) (v := ?g1rv5) rfl (by kernel_rfl) (fun _ _ _ h => h) (by assumption) (by rfl) ?g1ry5 ?g1rr5
      case g1ry5 => intro w hSw; obtain ⟨q1, q2, q3, q4, q5, q6, q7, q8, q9, q10⟩ := hSw; go_simp; try with_reducible rfl
      try simp only [Act.put, List.setIfInBounds_toArray, List.set_cons_zero, List.set_cons_succ]
      refine Go.Shr.wpAnyF_take 5 (oi := { dst := some 27, op := Go.Op.move (Go.Operand.tmp 6), type := 3, pos := "stat.go:17", after := #[], guard := none }) (v := ?g1rv6) rfl (by kernel_rfl) (fun _ _ _ h => h) (by assumption) (by rfl) ?g1ry6 ?g1rr6
      case g1ry6 => intro w hSw; obtain ⟨q1, q2, q3, q4, q5, q6, q7, q8, q9, q10⟩ := hSw; go_simp; try with_reducible rfl
      try simp only [Act.put, List.setIfInBounds_toArray, List.set_cons_zero, List.set_cons_succ]
      refine Go.Shr.wpAnyF_take 6 (oi := { dst := some 28, op := Go.Op.indexAddr 22 (Go.Operand.tmp 26) (Go.Operand.tmp 27), type := 0, pos := "stat.go:17", after := #[{ on := 4, ground := Go.Ground.data }, { on := 5, ground := Go.Ground.data }], guard := none }) (v := ?g1rv7) rfl (by kernel_rfl) (fun _ _ _ h => h) (by assumption) (by rfl) ?g1ry7 ?g1rr7
      case g1ry7 => intro w hSw; obtain ⟨q1, q2, q3, q4, q5, q6, q7, q8, q9, q10⟩ := hSw; go_simp; try with_reducible rfl
      try simp only [Act.put, List.setIfInBounds_toArray, List.set_cons_zero, List.set_cons_succ]
      refine Go.Shr.wpAnyF_take 7 (oi := { dst := some 29, op := Go.Op.load 35 (Go.Operand.tmp 28), type := 35, pos := "stat.go:17", after := #[{ on := 6, ground := Go.Ground.data }], guard := none }) (v := ?g1rv8) rfl (by kernel_rfl) (fun _ _ _ h => h) (by assumption) (by rfl) ?g1ry8 ?g1rr8
      case g1ry8 => intro w hSw; obtain ⟨q1, q2, q3, q4, q5, q6, q7, q8, q9, q10⟩ := hSw; go_simp; try with_reducible rfl
      try simp only [Act.put, List.setIfInBounds_toArray, List.set_cons_zero, List.set_cons_succ]
      refine Go.Shr.wpAnyF_take 8 (oi := { dst := some 30, op := Go.Op.fieldAddr 31 (Go.Operand.tmp 3) 2, type := 0, pos := "stat.go:17", after := #[], guard := none }) (v := ?g1rv9) rfl (by kernel_rfl) (fun _ _ _ h => h) (by assumption) (by rfl) ?g1ry9 ?g1rr9
      case g1ry9 => intro w hSw; obtain ⟨q1, q2, q3, q4, q5, q6, q7, q8, q9, q10⟩ := hSw; go_simp; try with_reducible rfl
      try simp only [Act.put, List.setIfInBounds_toArray, List.set_cons_zero, List.set_cons_succ]
      refine Go.Shr.wpAnyF_take 9 (oi := { dst := some 31, op := Go.Op.load 22 (Go.Operand.tmp 30), type := 22, pos := "stat.go:17", after := #[{ on := 8, ground := Go.Ground.data }], guard := none }) (v := ?g1rv10) rfl (by kernel_rfl) (fun _ _ _ h => h) (by assumption) (by rfl) ?g1ry10 ?g1rr10
      case g1ry10 => intro w hSw; obtain ⟨q1, q2, q3, q4, q5, q6, q7, q8, q9, q10⟩ := hSw; go_simp; try with_reducible rfl
      try simp only [Act.put, List.setIfInBounds_toArray, List.set_cons_zero, List.set_cons_succ]
      refine Go.Shr.wpAnyF_take 10 (oi := { dst := some 32, op := Go.Op.move (Go.Operand.tmp 6), type := 3, pos := "stat.go:17", after := #[], guard := none }) (v := ?g1rv11) rfl (by kernel_rfl) (fun _ _ _ h => h) (by assumption) (by rfl) ?g1ry11 ?g1rr11
      case g1ry11 => intro w hSw; obtain ⟨q1, q2, q3, q4, q5, q6, q7, q8, q9, q10⟩ := hSw; go_simp; try with_reducible rfl
      try simp only [Act.put, List.setIfInBounds_toArray, List.set_cons_zero, List.set_cons_succ]
      refine Go.Shr.wpAnyF_take 11 (oi := { dst := some 33, op := Go.Op.indexAddr 22 (Go.Operand.tmp 31) (Go.Operand.tmp 32), type := 0, pos := "stat.go:17", after := #[{ on := 9, ground := Go.Ground.data }, { on := 10, ground := Go.Ground.data }], guard := none }) (v := ?g1rv12) rfl (by kernel_rfl) (fun _ _ _ h => h) (by assumption) (by rfl) ?g1ry12 ?g1rr12
      case g1ry12 => intro w hSw; obtain ⟨q1, q2, q3, q4, q5, q6, q7, q8, q9, q10⟩ := hSw; go_simp; try with_reducible rfl
      try simp only [Act.put, List.setIfInBounds_toArray, List.set_cons_zero, List.set_cons_succ]
      refine Go.Shr.wpAnyF_take 12 (oi := { dst := some 34, op := Go.Op.load 35 (Go.Operand.tmp 33), type := 35, pos := "stat.go:17", after := #[{ on := 11, ground := Go.Ground.data }], guard := none }) (v := ?g1rv13) rfl (by kernel_rfl) (fun _ _ _ h => h) (by assumption) (by rfl) ?g1ry13 ?g1rr13
      case g1ry13 => intro w hSw; obtain ⟨q1, q2, q3, q4, q5, q6, q7, q8, q9, q10⟩ := hSw; go_simp; try with_reducible rfl
      try simp only [Act.put, List.setIfInBounds_toArray, List.set_cons_zero, List.set_cons_succ]
      refine Go.Shr.wpAnyF_take 13 (oi := { dst := some 35, op := Go.Op.build 37 #[(1, Go.Operand.const (Go.Value.bool true)), (2, Go.Operand.tmp 29), (3, Go.Operand.tmp 34)], type := 37, pos := "stat.go:17", after := #[{ on := 7, ground := Go.Ground.data }, { on := 12, ground := Go.Ground.data }], guard := none }) (v := ?g1rv14) rfl (by kernel_rfl) (fun _ _ _ h => h) (by assumption) (by rfl) ?g1ry14 ?g1rr14
      case g1ry14 => intro w hSw; obtain ⟨q1, q2, q3, q4, q5, q6, q7, q8, q9, q10⟩ := hSw; go_simp; try with_reducible rfl
      try simp only [Act.put, List.setIfInBounds_toArray, List.set_cons_zero, List.set_cons_succ]
      refine Go.Shr.wpAnyF_ready [14] (by kernel_rfl) (by simp) ?_
      refine Go.Shr.AllReadyF.cons 14 (o := { dst := some 36, op := Go.Op.call { callee := Go.Callee.value (Go.Operand.func 13), args := #[Go.Operand.tmp 23, Go.Operand.tmp 24, Go.Operand.tmp 35], argTypes := #[3, 37, 37] }, type := 37, pos := "stat.go:17", after := #[{ on := 1, ground := Go.Ground.data }, { on := 2, ground := Go.Ground.data }, { on := 13, ground := Go.Ground.data }], guard := none }) rfl (fun K hK => ?g1ro15) ?g1rm15
      case g1rm15 => exact Go.Shr.AllReadyF.nil
      go_simp; refine (join_s k x (oneS l[j]) _ HXB.out ⟨by simp [oneS], by simp [oneS]⟩).mono ?_; rintro e w1 ⟨rfl, hb1⟩; have HB1 := Lib.hid (show Below wr.heap.size wr w1 from (Below.refl _ _).drew.trans hb1); clear hb1; obtain ⟨z0, z1, z2, z3, z4, z5, z6, z7, z8, z9⟩ := hHeld; generalize hy : joinS k x (oneS l[j]) = y; have HY := Lib.hid hy; clear hy; simp only [St.v]
      refine hK.out _ _ ?g1rs15 (fun hHeld => ?g1rt15)
      case g1rs15 => (try dsimp only); (first | exact ⟨c0, c1, d0, d1, d2, d3, d4, d5, e1, e2⟩ | (obtain ⟨hcc, hff⟩ := bcell HB1.out; exact ⟨(hcc _ _ (by omega)).trans c0, (hcc _ _ (by omega)).trans c1, (hcc _ _ (by omega)).trans d0, (hcc _ _ (by omega)).trans d1, (hcc _ _ (by omega)).trans d2, (hcc _ _ (by omega)).trans d3, (hcc _ _ (by omega)).trans d4, (hcc _ _ (by omega)).trans d5, (hcc _ _ hbw).trans e1, (hcc _ _ hbw).trans e2⟩))
      try dsimp only at hHeld
      clear hK K
      try simp only [Act.put, List.setIfInBounds_toArray, List.set_cons_zero, List.set_cons_succ]
      refine Go.Shr.wpAnyF_ready [15] (by kernel_rfl) (by simp) ?_
      refine Go.Shr.AllReadyF.last 15 (o := { dst := none, op := Go.Op.store 37 (Go.Operand.tmp 5) (Go.Operand.tmp 36), type := 0, pos := "stat.go:17", after := #[{ on := 14, ground := Go.Ground.data }, { on := 14, ground := Go.Ground.chain }, { on := 0, ground := Go.Ground.phase }, { on := 1, ground := Go.Ground.phase }, { on := 2, ground := Go.Ground.phase }, { on := 3, ground := Go.Ground.phase }, { on := 4, ground := Go.Ground.phase }, { on := 5, ground := Go.Ground.phase }, { on := 6, ground := Go.Ground.phase }, { on := 7, ground := Go.Ground.phase }, { on := 8, ground := Go.Ground.phase }, { on := 9, ground := Go.Ground.phase }, { on := 10, ground := Go.Ground.phase }, { on := 11, ground := Go.Ground.phase }, { on := 12, ground := Go.Ground.phase }, { on := 13, ground := Go.Ground.phase }, { on := 14, ground := Go.Ground.phase }], guard := none }) rfl (by kernel_rfl) (fun K hK => ?g1ro16) ?g1rm16
      case g1rm16 => exact Go.Shr.AllReadyF.nil
      obtain ⟨z0, z1, z2, z3, z4, z5, z6, z7, z8, z9⟩ := hHeld; have gg : ∀ i, w1.frozen? ⟨w.heap.size + 1 + 1 + 1, i, none⟩ = false := fun i => ((bcell HB1.out).2 _ _ hr3).trans (g3 i); go_simp
      refine hK.out _ _ ?_
      clear hK K
      try simp only [Act.put, List.setIfInBounds_toArray, List.set_cons_zero, List.set_cons_succ]
      refine Go.Shr.wpAnyF_done (by kernel_rfl) ?_
      go_wp2_with fail
      have HX2 : Hid (y = ofS k ((nD : Int) - nV) (l.take (j + 1))) := Lib.hid (by rw [← HY.out, hx.out, ← ofS_snoc, List.take_succ_eq_append_getElem (by omega)])
      have hy0 : y.nulls = (nD : Int) - nV := by rw [HX2.out, ofS_nulls]
      have hcl := bcell HB1.out
      have hR0 := HR0.out.below HB1.out
      have hR1 := HR1.out.below HB1.out
      have hR2 := HR2.out.below HB1.out
      have hR3 := HR3.out.below HB1.out
      have hsw := hb.size
      refine Go.wp_goto ?_
      change Exit.jump 0 (fun a' w' => _ ∧ _) _ (Exit.goto 0) _ _
      delta Exit.jump
      dsimp only
      refine ⟨rfl, ⟨j + 1, y, _, _, _, _, _, _, _, _, _, _, _, _, _, _, _, _, _, _, _, _, _, _, _, _, _, _, _, _, _, _, _, _, by congr 1, by omega, HX2, hy0, Lib.hid ?_, Lib.hid ?_, Lib.hid ?_, Lib.hid ?_, ?_⟩, ?_⟩
      · iterate 6 refine Rw.other ?_ (by simp only [ne_eq]; omega) _
        exact hR0
      · iterate 6 refine Rw.other ?_ (by simp only [ne_eq]; omega) _
        exact hR1
      · iterate 6 refine Rw.other ?_ (by simp only [ne_eq]; omega) _
        exact hR2
      · exact (((((hR3.set 0 _).set 1 _).set 2 _).set 3 _).set 4 _).set 5 _
      · have hB : Below w.heap.size w w1 := bt hb HB1.out
        iterate 6 refine Below.setCell ?_ (by simp; omega) _
        exact hB
      · simp [intOf]; omega
    · obtain rfl : j = nV := by omega
      have f0 : wr.cell? ⟨w.heap.size + 1 + 1, 0, none⟩ = some (.int .i64 0) := HR2.out.cell 0
      have f1 : wr.cell? ⟨w.heap.size + 1 + 1, 1, none⟩ = some (.bool false) := HR2.out.cell 1
      have f2 : wr.cell? ⟨w.heap.size + 1 + 1, 2, none⟩ = some (.int .i64 0) := HR2.out.cell 2
      have f3 : wr.cell? ⟨w.heap.size + 1 + 1, 3, none⟩ = some (.string ByteArray.empty) := HR2.out.cell 3
      have f4 : wr.cell? ⟨w.heap.size + 1 + 1, 4, none⟩ = some (.int .i64 0) := HR2.out.cell 4
      have f5 : wr.cell? ⟨w.heap.size + 1 + 1, 5, none⟩ = some (.string ByteArray.empty) := HR2.out.cell 5
      go_wp2_with fail
      simp only [Exit.jump]
      refine bodyPost_ret (v := .agg #[.int .i64 x.nulls, .bool x.has, .int .i64 x.mn.n, .string x.mn.s, .int .i64 x.mx.n, .string x.mx.s]) (by simp [results, Try.results12, go_sem, f0, f1, f2, f3, f4, f5]) rfl ⟨?_, ?_⟩
      · have := hx.out
        rw [List.take_of_length_le (by omega)] at this
        rw [← this]; rfl
      · iterate 6 refine Below.setCell ?_ (by simp; omega) _
        exact hb
end Go.Proofs.Ytnmlngpkhlafgaa
