/-
  The walk of the reference's Of.
-/
import Derived.Test.YtnmlngpkhlafgaaStat5
set_option linter.unusedSimpArgs false
namespace Go.Proofs.Ytnmlngpkhlafgaa
open Go.RowKit Go.Shr
def cntN (dl : Int) (ds : List Int) : Nat := (ds.filter fun d => d != dl).length
theorem cntN_snoc (dl : Int) (ds : List Int) (d : Int) : cntN dl (ds ++ [d]) = cntN dl ds + (if d = dl then 0 else 1) := by
  unfold cntN; rw [List.filter_append, List.length_append]
  congr 1
  by_cases h : d = dl <;> simp [h]
theorem cntN_le (dl : Int) (ds : List Int) : cntN dl ds ≤ ds.length := List.length_filter_le _ _
set_option maxHeartbeats 1000000 in
theorem rof_v (k : Int) (f1 f2 dl : Int) (aR aD aV : Option Addr) (nR cR nD cD nV cV : Nat) (l : List Vl) (ds : List Int) (w : World) (hl : Sl (fun b => b < w.heap.size) w 2 aV nV cV (vls l)) (hds : Sl (fun b => b < w.heap.size) w 1 aD nD cD (ds.map fun d => .int .i64 d)) (hn : nD ≤ 1000) (hv : nV ≤ 1000) (hs : ∀ x ∈ l, x.s.size ≤ 1000) :
    Calls Try.prog 15 #[.agg #[.int .i64 f1, .int .i64 f2, .int .i64 dl, .int .i64 k], .agg #[.slice aR nR cR, .slice aD nD cD, .slice aV nV cV]] w fun e w' => e = .returned (ofS k (cntN dl ds) l).v ∧ Below w.heap.size w w' := by
  have hlen : l.length = nV := by have := hl.len; rw [vls_length] at this; omega
  have hlend : ds.length = nD := by have := hds.len; rw [List.length_map] at this; omega
  have hcell : ∀ j (hj : j < l.length), ∃ b off, aV = some ⟨b, off, none⟩ ∧ w.cell? ⟨b, off + j * 2, none⟩ = some (.int .i64 l[j].n) ∧ w.cell? ⟨b, off + j * 2 + 1, none⟩ = some (.string l[j].s) := fun j hj => by
    obtain ⟨b, off, h1, _, h3⟩ := hl.pos (by omega)
    have := vls_get l j (by omega)
    exact ⟨b, off, h1, h3 _ _ this.1, by rw [Nat.add_assoc]; exact h3 _ _ this.2⟩
  have hcelld : ∀ j (hj : j < ds.length), ∃ b off, aD = some ⟨b, off, none⟩ ∧ w.cell? ⟨b, off + j, none⟩ = some (.int .i64 ds[j]) := fun j hj => by
    obtain ⟨b, off, h1, _, h3⟩ := hds.pos (by omega)
    exact ⟨b, off, h1, h3 _ _ (by simp [hj])⟩
  have HC := Lib.hid hcell; clear hcell
  have HD := Lib.hid hcelld; clear hcelld
  have HL := Lib.hid hl; clear hl
  have HDS := Lib.hid hds; clear hds
  have HS := Lib.hid hs; clear hs
  have HCB := Lib.hid (cntN_le dl)
  generalize hm : cntN dl ds = m
  have HM := Lib.hid hm; clear hm
  go_enter Try.func15, Try.ntmps15
  go_wp2_with fail
  go_loopw [6] (fun i wr => ∃ (j : Nat), i = .int .i64 j ∧ j ≤ nD ∧
      Hid (Rw wr w.heap.size #[.int .i64 f1, .int .i64 f2, .int .i64 dl, .int .i64 k] 28) ∧ Hid (Rw wr (w.heap.size + 1) #[.slice aR nR cR, .slice aD nD cD, .slice aV nV cV] 31) ∧ Hid (Rw wr (w.heap.size + 1 + 1) #[.int .i64 0, .bool false, .int .i64 0, .string ByteArray.empty, .int .i64 0, .string ByteArray.empty] 37) ∧
      Hid (Rw wr (w.heap.size + 1 + 1 + 1) #[.int .i64 (cntN dl (ds.take j)), .bool false, .int .i64 0, .string ByteArray.empty, .int .i64 0, .string ByteArray.empty] 37) ∧ Below w.heap.size w wr)
    (fun i _ => nD - (intOf i).toNat)
  case atStart =>
    refine ⟨0, rfl, Nat.zero_le _, Lib.hid ?_, Lib.hid ?_, Lib.hid ?_, Lib.hid ?_, ?_⟩
    iterate 3 · repeat (first | (refine Rw.new' ?_; simp; done) | refine Rw.alloc ?_ _)
    · show Rw _ (w.heap.size + 1 + 1 + 1) #[.int .i64 0, .bool false, .int .i64 0, .string ByteArray.empty, .int .i64 0, .string ByteArray.empty] _
      exact Rw.new' (by simp)
    · repeat (first | with_reducible exact Below.refl _ _ | refine ba ?_ _)
  case round =>
    obtain ⟨j, rfl, hj, HR0, HR1, HR2, HR3, hb⟩ := hrel
    have c0 : wr.cell? ⟨w.heap.size, 2, none⟩ = some (.int .i64 dl) := HR0.out.cell 2
    have c1 : wr.cell? ⟨w.heap.size + 1, 1, none⟩ = some (.slice aD nD cD) := HR1.out.cell 1
    have c2 : wr.cell? ⟨w.heap.size + 1, 2, none⟩ = some (.slice aV nV cV) := HR1.out.cell 2
    have hr3 := HR3.out.lt
    by_cases hlt : j < nD
    · obtain ⟨b, off, rfl, e1⟩ := HD.out j (by omega)
      replace e1 : wr.cell? ⟨b, off + j, none⟩ = some (.int .i64 ds[j]) := (hb.cell (p := ⟨b, off + j, none⟩) (World.block_lt_of_cell? w ⟨b, off + j, none⟩ e1)).trans e1
      have HT : Hid (cntN dl (ds.take (j + 1)) = cntN dl (ds.take j) + (if ds[j] = dl then 0 else 1)) := Lib.hid (by rw [← cntN_snoc, List.take_succ_eq_append_getElem (by omega)])
      have d0 : wr.cell? ⟨w.heap.size + 1 + 1 + 1, 0, none⟩ = some (.int .i64 (cntN dl (ds.take j))) := HR3.out.cell 0
      have g3 : ∀ i, wr.frozen? ⟨w.heap.size + 1 + 1 + 1, i, none⟩ = false := HR3.out.frozen
      have hcb : cntN dl (ds.take j) ≤ 1000 := by have := HCB.out (ds.take j); rw [List.length_take] at this; omega
      by_cases hd : ds[j] = dl
      · have hdb : (ds[j] != dl) = false := by simp [hd]
        have HDD := Lib.hid hd; clear hd
        go_wp2_with fail
        go_quiet (fail)
        go_wp2_with fail
        go_roundw
        case rel =>
          have hq := below_drewN (Below.refl wr.heap.size wr) nq
          exact ⟨j + 1, by go_num, by omega, Lib.hid (HR0.out.below hq), Lib.hid (HR1.out.below hq), Lib.hid (HR2.out.below hq), Lib.hid (by rw [HT.out, if_pos HDD.out]; exact HR3.out.below hq), below_drewN hb nq⟩
        case measure => simp [intOf]; omega
      · have hdb : (ds[j] != dl) = true := by simp [hd]
        have HDD := Lib.hid hd; clear hd
        go_wp2_with fail
        go_quiet (fail)
        have hq := below_drewN (Below.refl wr.heap.size wr) nq
        replace d0 := (hq.cell (p := ⟨w.heap.size + 1 + 1 + 1, 0, none⟩) hr3).trans d0
        replace g3 : ∀ i, (wr.drewN nq).frozen? ⟨w.heap.size + 1 + 1 + 1, i, none⟩ = false := fun i => (hq.frozen (p := ⟨w.heap.size + 1 + 1 + 1, i, none⟩) hr3).trans (g3 i)
        have hsz := hb.size
        go_wp2_with fail
        go_roundw
        case rel =>
          refine ⟨j + 1, by go_num, by omega, Lib.hid ?_, Lib.hid ?_, Lib.hid ?_, Lib.hid ?_, ?_⟩
          · exact (HR0.out.below hq).other (by simp only [ne_eq]; omega) _
          · exact (HR1.out.below hq).other (by simp only [ne_eq]; omega) _
          · exact (HR2.out.below hq).other (by simp only [ne_eq]; omega) _
          · have := (HR3.out.below hq).set 0 (.int .i64 ((cntN dl (ds.take j) : Nat) + 1))
            rw [HT.out, if_neg HDD.out]
            exact this
          · exact (below_drewN hb nq).setCell (by simp; omega) _
        case measure => simp [intOf]; omega
    · have HT : Hid (cntN dl (ds.take j) = m) := Lib.hid (by rw [List.take_of_length_le (by omega)]; exact HM.out)
      rw [HT.out] at HR3
      have hcb : m ≤ 1000 := by have := HCB.out ds; rw [HM.out] at this; omega
      clear HT
      go_wp2_with fail
      go_loopw [7] (fun i wr => ∃ (j : Nat) (x : St), i = .int .i64 j ∧ j ≤ nV ∧ Hid (x = ofS k m (l.take j)) ∧ Hid (x.nulls = m) ∧ Hid (x.mn.s.size ≤ 1000 ∧ x.mx.s.size ≤ 1000) ∧
          Hid (Rw wr w.heap.size #[.int .i64 f1, .int .i64 f2, .int .i64 dl, .int .i64 k] 28) ∧ Hid (Rw wr (w.heap.size + 1) #[.slice aR nR cR, .slice aD nD cD, .slice aV nV cV] 31) ∧ Hid (Rw wr (w.heap.size + 1 + 1) #[.int .i64 0, .bool false, .int .i64 0, .string ByteArray.empty, .int .i64 0, .string ByteArray.empty] 37) ∧
          Hid (Rw wr (w.heap.size + 1 + 1 + 1) #[.int .i64 x.nulls, .bool x.has, .int .i64 x.mn.n, .string x.mn.s, .int .i64 x.mx.n, .string x.mx.s] 37) ∧ Below w.heap.size w wr)
        (fun i _ => nV - (intOf i).toNat)
      case atStart => exact ⟨0, ⟨m, false, Vl.zero, Vl.zero⟩, rfl, Nat.zero_le _, Lib.hid rfl, Lib.hid rfl, Lib.hid ⟨Nat.zero_le _, Nat.zero_le _⟩, HR0, HR1, HR2, HR3, hb⟩
      case round =>
        clear hr3 c0 c1 c2
        obtain ⟨j, x, rfl, hj, hx, HXN, HSB, HR0, HR1, HR2, HR3, hb⟩ := hrel
        have c0 : wr.cell? ⟨w.heap.size, 3, none⟩ = some (.int .i64 k) := HR0.out.cell 3
        have c1 : wr.cell? ⟨w.heap.size + 1, 2, none⟩ = some (.slice aV nV cV) := HR1.out.cell 2
        have d0 : wr.cell? ⟨w.heap.size + 1 + 1 + 1, 0, none⟩ = some (.int .i64 x.nulls) := HR3.out.cell 0
        have d1 : wr.cell? ⟨w.heap.size + 1 + 1 + 1, 1, none⟩ = some (.bool x.has) := HR3.out.cell 1
        have d2 : wr.cell? ⟨w.heap.size + 1 + 1 + 1, 2, none⟩ = some (.int .i64 x.mn.n) := HR3.out.cell 2
        have d3 : wr.cell? ⟨w.heap.size + 1 + 1 + 1, 3, none⟩ = some (.string x.mn.s) := HR3.out.cell 3
        have d4 : wr.cell? ⟨w.heap.size + 1 + 1 + 1, 4, none⟩ = some (.int .i64 x.mx.n) := HR3.out.cell 4
        have d5 : wr.cell? ⟨w.heap.size + 1 + 1 + 1, 5, none⟩ = some (.string x.mx.s) := HR3.out.cell 5
        have g2 : ∀ i, wr.frozen? ⟨w.heap.size + 1 + 1, i, none⟩ = false := HR2.out.frozen
        have g3 : ∀ i, wr.frozen? ⟨w.heap.size + 1 + 1 + 1, i, none⟩ = false := HR3.out.frozen
        have hr2 := HR2.out.lt
        have hxn1 : 0 ≤ x.nulls ∧ x.nulls ≤ 100000 := by have := HXN.out; omega
        have HXB := Lib.hid hxn1; clear hxn1
        have hr3 := HR3.out.lt
        by_cases hlt : j < nV
        · have hd : ((j : Int) == (nV : Int)) = false := beq_eq_false_iff_ne.2 (by omega)
          obtain ⟨b, off, rfl, e1, e2⟩ := HC.out j (by omega)
          replace e1 : wr.cell? ⟨b, off + j * 2, none⟩ = some (.int .i64 l[j].n) := (hb.cell (p := ⟨b, off + j * 2, none⟩) (World.block_lt_of_cell? w ⟨b, off + j * 2, none⟩ e1)).trans e1
          replace e2 : wr.cell? ⟨b, off + j * 2 + 1, none⟩ = some (.string l[j].s) := (hb.cell (p := ⟨b, off + j * 2 + 1, none⟩) (World.block_lt_of_cell? w ⟨b, off + j * 2 + 1, none⟩ e2)).trans e2
          have hbw : b < wr.heap.size := World.block_lt_of_cell? wr _ e1
          go_wp2_with fail
          refine Go.Shr.wp_region_F (fun w' => w'.cell? ⟨w.heap.size, 3, none⟩ = some (.int .i64 k) ∧ w'.cell? ⟨w.heap.size + 1, 2, none⟩ = some (.slice (some ⟨b, off, none⟩) nV cV) ∧ w'.cell? ⟨w.heap.size + 1 + 1 + 1, 0, none⟩ = some (.int .i64 x.nulls) ∧ w'.cell? ⟨w.heap.size + 1 + 1 + 1, 1, none⟩ = some (.bool x.has) ∧ w'.cell? ⟨w.heap.size + 1 + 1 + 1, 2, none⟩ = some (.int .i64 x.mn.n) ∧ w'.cell? ⟨w.heap.size + 1 + 1 + 1, 3, none⟩ = some (.string x.mn.s) ∧ w'.cell? ⟨w.heap.size + 1 + 1 + 1, 4, none⟩ = some (.int .i64 x.mx.n) ∧ w'.cell? ⟨w.heap.size + 1 + 1 + 1, 5, none⟩ = some (.string x.mx.s) ∧ w'.cell? ⟨b, off + j * 2, none⟩ = some (.int .i64 l[j].n) ∧ w'.cell? ⟨b, off + j * 2 + 1, none⟩ = some (.string l[j].s)) [15] (by kernel_rfl) ?g2rgS (fun hHeld => ?g2rgR)
          case g2rgS => (try dsimp only); (first | exact ⟨c0, c1, d0, d1, d2, d3, d4, d5, e1, e2⟩ | (obtain ⟨hcc, hff⟩ := bcell HB1.out; exact ⟨(hcc _ _ (by omega)).trans c0, (hcc _ _ (by omega)).trans c1, (hcc _ _ (by omega)).trans d0, (hcc _ _ (by omega)).trans d1, (hcc _ _ (by omega)).trans d2, (hcc _ _ (by omega)).trans d3, (hcc _ _ (by omega)).trans d4, (hcc _ _ (by omega)).trans d5, (hcc _ _ hbw).trans e1, (hcc _ _ hbw).trans e2⟩))
          try dsimp only at hHeld
          refine Go.Shr.wpAnyF_take 0 (oi := { dst := some 35, op := Go.Op.fieldAddr 28 (Go.Operand.tmp 2) 3, type := 0, pos := "ref.go:18", after := #[], guard := none }) (v := ?g2rv1) rfl (by kernel_rfl) (fun _ _ _ h => h) (by assumption) (by rfl) ?g2ry1 ?g2rr1
          case g2ry1 => intro w hSw; obtain ⟨q1, q2, q3, q4, q5, q6, q7, q8, q9, q10⟩ := hSw; go_simp; try with_reducible rfl
          try simp only [Act.put, List.setIfInBounds_toArray, List.set_cons_zero, List.set_cons_succ]
          refine Go.Shr.wpAnyF_take 1 (oi := { dst := some 36, op := Go.Op.load 3 (Go.Operand.tmp 35), type := 3, pos := "ref.go:18", after := #[{ on := 0, ground := Go.Ground.data }], guard := none }) (v := ?g2rv2) rfl (by kernel_rfl) (fun _ _ _ h => h) (by assumption) (by rfl) ?g2ry2 ?g2rr2
          case g2ry2 => intro w hSw; obtain ⟨q1, q2, q3, q4, q5, q6, q7, q8, q9, q10⟩ := hSw; go_simp; try with_reducible rfl
          try simp only [Act.put, List.setIfInBounds_toArray, List.set_cons_zero, List.set_cons_succ]
          refine Go.Shr.wpAnyF_take 2 (oi := { dst := some 37, op := Go.Op.load 37 (Go.Operand.tmp 5), type := 37, pos := "ref.go:18", after := #[], guard := none }) (v := ?g2rv3) rfl (by kernel_rfl) (fun _ _ _ h => h) (by assumption) (by rfl) ?g2ry3 ?g2rr3
          case g2ry3 => intro w hSw; obtain ⟨q1, q2, q3, q4, q5, q6, q7, q8, q9, q10⟩ := hSw; go_simp; try with_reducible rfl
          try simp only [Act.put, List.setIfInBounds_toArray, List.set_cons_zero, List.set_cons_succ]
          refine Go.Shr.wpAnyF_take 3 (oi := { dst := some 38, op := Go.Op.fieldAddr 31 (Go.Operand.tmp 3) 2, type := 0, pos := "ref.go:18", after := #[], guard := none }) (v := ?g2rv4) rfl (by kernel_rfl) (fun _ _ _ h => h) (by assumption) (by rfl) ?g2ry4 ?g2rr4
          case g2ry4 => intro w hSw; obtain ⟨q1, q2, q3, q4, q5, q6, q7, q8, q9, q10⟩ := hSw; go_simp; try with_reducible rfl
          try simp only [Act.put, List.setIfInBounds_toArray, List.set_cons_zero, List.set_cons_succ]
          refine Go.Shr.wpAnyF_take 4 (oi := { dst := some 39, op := Go.Op.load 22 (Go.Operand.tmp 38), type := 22, pos := "ref.go:18", after := #[{ on := 3, ground := Go.Ground.data }], guard := none }) (v := ?g2rv5) rfl (by kernel_rfl) (fun _ _ _ h => h) (by assumption) (by rfl) ?g2ry5 ?g2rr5
          case g2ry5 => intro w hSw; obtain ⟨q1, q2, q3, q4, q5, q6, q7, q8, q9, q10⟩ := hSw; go_simp; try with_reducible rfl
          try simp only [Act.put, List.setIfInBounds_toArray, List.set_cons_zero, List.set_cons_succ]
          refine Go.Shr.wpAnyF_take 5 (oi := { dst := some 40, op := Go.Op.move (Go.Operand.tmp 7), type := 3, pos := "ref.go:18", after := #[], guard := none }) (v := ?g2rv6) rfl (by kernel_rfl) (fun _ _ _ h => h) (by assumption) (by rfl) ?g2ry6 ?g2rr6
          case g2ry6 => intro w hSw; obtain ⟨q1, q2, q3, q4, q5, q6, q7, q8, q9, q10⟩ := hSw; go_simp; try with_reducible rfl
          try simp only [Act.put, List.setIfInBounds_toArray, List.set_cons_zero, List.set_cons_succ]
          refine Go.Shr.wpAnyF_take 6 (oi := { dst := some 41, op := Go.Op.indexAddr 22 (Go.Operand.tmp 39) (Go.Operand.tmp 40), type := 0, pos := "ref.go:18", after := #[{ on := 4, ground := Go.Ground.data }, { on := 5, ground := Go.Ground.data }], guard := none }) (v := ?g2rv7) rfl (by kernel_rfl) (fun _ _ _ h => h) (by assumption) (by rfl) ?g2ry7 ?g2rr7
          case g2ry7 => intro w hSw; obtain ⟨q1, q2, q3, q4, q5, q6, q7, q8, q9, q10⟩ := hSw; go_simp; try with_reducible rfl
          try simp only [Act.put, List.setIfInBounds_toArray, List.set_cons_zero, List.set_cons_succ]
          refine Go.Shr.wpAnyF_take 7 (oi := { dst := some 42, op := Go.Op.load 35 (Go.Operand.tmp 41), type := 35, pos := "ref.go:18", after := #[{ on := 6, ground := Go.Ground.data }], guard := none }) (v := ?g2rv8) rfl (by kernel_rfl) (fun _ _ _ h => h) (by assumption) (by rfl) ?g2ry8 ?g2rr8
          case g2ry8 => intro w hSw; obtain ⟨q1, q2, q3, q4, q5, q6, q7, q8, q9, q10⟩ := hSw; go_simp; try with_reducible rfl
          try simp only [Act.put, List.setIfInBounds_toArray, List.set_cons_zero, List.set_cons_succ]
          refine Go.Shr.wpAnyF_take 8 (oi := { dst := some 43, op := Go.Op.fieldAddr 31 (Go.Operand.tmp 3) 2, type := 0, pos := "ref.go:18", after := #[], guard := none }) (v := ?g2rv9) rfl (by kernel_rfl) (fun _ _ _ h => h) (by assumption) (by rfl) ?g2ry9 ?g2rr9
          case g2ry9 => intro w hSw; obtain ⟨q1, q2, q3, q4, q5, q6, q7, q8, q9, q10⟩ := hSw; go_simp; try with_reducible rfl
          try simp only [Act.put, List.setIfInBounds_toArray, List.set_cons_zero, List.set_cons_succ]
          refine Go.Shr.wpAnyF_take 9 (oi := { dst := some 44, op := Go.Op.load 22 (Go.Operand.tmp 43), type := 22, pos := "ref.go:18", after := #[{ on := 8, ground := Go.Ground.data }], guard := none }) (v := ?g2rv10) rfl (by kernel_rfl) (fun _ _ _ h => h) (by assumption) (by rfl) ?g2ry10 ?g2rr10
          case g2ry10 => intro w hSw; obtain ⟨q1, q2, q3, q4, q5, q6, q7, q8, q9, q10⟩ := hSw; go_simp; try with_reducible rfl
          try simp only [Act.put, List.setIfInBounds_toArray, List.set_cons_zero, List.set_cons_succ]
          refine Go.Shr.wpAnyF_take 10 (oi := { dst := some 45, op := Go.Op.move (Go.Operand.tmp 7), type := 3, pos := "ref.go:18", after := #[], guard := none }) (v := ?g2rv11) rfl (by kernel_rfl) (fun _ _ _ h => h) (by assumption) (by rfl) ?g2ry11 ?g2rr11
          case g2ry11 => intro w hSw; obtain ⟨q1, q2, q3, q4, q5, q6, q7, q8, q9, q10⟩ := hSw; go_simp; try with_reducible rfl
          try simp only [Act.put, List.setIfInBounds_toArray, List.set_cons_zero, List.set_cons_succ]
          refine Go.Shr.wpAnyF_take 11 (oi := { dst := some 46, op := Go.Op.indexAddr 22 (Go.Operand.tmp 44) (Go.Operand.tmp 45), type := 0, pos := "ref.go:18", after := #[{ on := 9, ground := Go.Ground.data }, { on := 10, ground := Go.Ground.data }], guard := none }) (v := ?g2rv12) rfl (by kernel_rfl) (fun _ _ _ h => h) (by assumption) (by rfl) ?g2ry12 ?g2rr12
          case g2ry12 => intro w hSw; obtain ⟨q1, q2, q3, q4, q5, q6, q7, q8, q9, q10⟩ := hSw; go_simp; try with_reducible rfl
          try simp only [Act.put, List.setIfInBounds_toArray, List.set_cons_zero, List.set_cons_succ]
          refine Go.Shr.wpAnyF_take 12 (oi := { dst := some 47, op := Go.Op.load 35 (Go.Operand.tmp 46), type := 35, pos := "ref.go:18", after := #[{ on := 11, ground := Go.Ground.data }], guard := none }) (v := ?g2rv13) rfl (by kernel_rfl) (fun _ _ _ h => h) (by assumption) (by rfl) ?g2ry13 ?g2rr13
          case g2ry13 => intro w hSw; obtain ⟨q1, q2, q3, q4, q5, q6, q7, q8, q9, q10⟩ := hSw; go_simp; try with_reducible rfl
          try simp only [Act.put, List.setIfInBounds_toArray, List.set_cons_zero, List.set_cons_succ]
          refine Go.Shr.wpAnyF_take 13 (oi := { dst := some 48, op := Go.Op.build 37 #[(1, Go.Operand.const (Go.Value.bool true)), (2, Go.Operand.tmp 42), (3, Go.Operand.tmp 47)], type := 37, pos := "ref.go:18", after := #[{ on := 7, ground := Go.Ground.data }, { on := 12, ground := Go.Ground.data }], guard := none }) (v := ?g2rv14) rfl (by kernel_rfl) (fun _ _ _ h => h) (by assumption) (by rfl) ?g2ry14 ?g2rr14
          case g2ry14 => intro w hSw; obtain ⟨q1, q2, q3, q4, q5, q6, q7, q8, q9, q10⟩ := hSw; go_simp; try with_reducible rfl
          try simp only [Act.put, List.setIfInBounds_toArray, List.set_cons_zero, List.set_cons_succ]
          refine Go.Shr.wpAnyF_ready [14] (by kernel_rfl) (by simp) ?_
          refine Go.Shr.AllReadyF.cons 14 (o := { dst := some 49, op := Go.Op.call { callee := Go.Callee.value (Go.Operand.func 21), args := #[Go.Operand.tmp 36, Go.Operand.tmp 37, Go.Operand.tmp 48], argTypes := #[3, 37, 37] }, type := 37, pos := "ref.go:18", after := #[{ on := 1, ground := Go.Ground.data }, { on := 2, ground := Go.Ground.data }, { on := 13, ground := Go.Ground.data }], guard := none }) rfl (fun K hK => ?g2ro15) ?g2rm15
          case g2rm15 => exact Go.Shr.AllReadyF.nil
          go_simp; refine (rjoin_s k x (oneS l[j]) _ HXB.out ⟨by simp [oneS], by simp [oneS]⟩ ⟨HSB.out.1, HSB.out.2, HS.out _ (List.getElem_mem (by omega)), HS.out _ (List.getElem_mem (by omega))⟩).mono ?_; rintro e w1 ⟨rfl, hb1⟩; have HB1 := Lib.hid (show Below wr.heap.size wr w1 from (Below.refl _ _).drew.trans hb1); clear hb1; obtain ⟨z0, z1, z2, z3, z4, z5, z6, z7, z8, z9⟩ := hHeld; generalize hy : joinS k x (oneS l[j]) = y; have HY := Lib.hid hy; clear hy; simp only [St.v]
          refine hK.out _ _ ?g2rs15 (fun hHeld => ?g2rt15)
          case g2rs15 => (try dsimp only); (first | exact ⟨c0, c1, d0, d1, d2, d3, d4, d5, e1, e2⟩ | (obtain ⟨hcc, hff⟩ := bcell HB1.out; exact ⟨(hcc _ _ (by omega)).trans c0, (hcc _ _ (by omega)).trans c1, (hcc _ _ (by omega)).trans d0, (hcc _ _ (by omega)).trans d1, (hcc _ _ (by omega)).trans d2, (hcc _ _ (by omega)).trans d3, (hcc _ _ (by omega)).trans d4, (hcc _ _ (by omega)).trans d5, (hcc _ _ hbw).trans e1, (hcc _ _ hbw).trans e2⟩))
          try dsimp only at hHeld
          clear hK K
          try simp only [Act.put, List.setIfInBounds_toArray, List.set_cons_zero, List.set_cons_succ]
          refine Go.Shr.wpAnyF_ready [15] (by kernel_rfl) (by simp) ?_
          refine Go.Shr.AllReadyF.last 15 (o := { dst := none, op := Go.Op.store 37 (Go.Operand.tmp 5) (Go.Operand.tmp 49), type := 0, pos := "ref.go:18", after := #[{ on := 14, ground := Go.Ground.data }, { on := 14, ground := Go.Ground.chain }, { on := 0, ground := Go.Ground.phase }, { on := 1, ground := Go.Ground.phase }, { on := 2, ground := Go.Ground.phase }, { on := 3, ground := Go.Ground.phase }, { on := 4, ground := Go.Ground.phase }, { on := 5, ground := Go.Ground.phase }, { on := 6, ground := Go.Ground.phase }, { on := 7, ground := Go.Ground.phase }, { on := 8, ground := Go.Ground.phase }, { on := 9, ground := Go.Ground.phase }, { on := 10, ground := Go.Ground.phase }, { on := 11, ground := Go.Ground.phase }, { on := 12, ground := Go.Ground.phase }, { on := 13, ground := Go.Ground.phase }, { on := 14, ground := Go.Ground.phase }], guard := none }) rfl (by kernel_rfl) (fun K hK => ?g2ro16) ?g2rm16
          case g2rm16 => exact Go.Shr.AllReadyF.nil
          obtain ⟨z0, z1, z2, z3, z4, z5, z6, z7, z8, z9⟩ := hHeld; have gg : ∀ i, w1.frozen? ⟨w.heap.size + 1 + 1 + 1, i, none⟩ = false := fun i => ((bcell HB1.out).2 _ _ hr3).trans (g3 i); go_simp
          refine hK.out _ _ ?_
          clear hK K
          try simp only [Act.put, List.setIfInBounds_toArray, List.set_cons_zero, List.set_cons_succ]
          refine Go.Shr.wpAnyF_done (by kernel_rfl) ?_
          go_wp2_with fail
          have HX2 : Hid (y = ofS k m (l.take (j + 1))) := Lib.hid (by rw [← HY.out, hx.out, ← ofS_snoc, List.take_succ_eq_append_getElem (by omega)])
          have hy0 : y.nulls = m := by rw [HX2.out, ofS_nulls]
          have hys : y.mn.s.size ≤ 1000 ∧ y.mx.s.size ≤ 1000 := by
            have hne : l.take (j + 1) ≠ [] := by
              intro h
              have h2 : (l.take (j + 1)).length = 0 := by rw [h]; rfl
              rw [List.length_take] at h2
              omega
            have := ofS_bounds k m _ hne
            rw [← HX2.out] at this
            exact ⟨HS.out _ (List.mem_of_mem_take this.1), HS.out _ (List.mem_of_mem_take this.2.1)⟩
          have hR0 := HR0.out.below HB1.out
          have hR1 := HR1.out.below HB1.out
          have hR2 := HR2.out.below HB1.out
          have hR3 := HR3.out.below HB1.out
          have hsw := hb.size
          go_roundw
          case rel =>
            refine ⟨j + 1, y, by go_num, by omega, HX2, Lib.hid hy0, Lib.hid hys, Lib.hid ?_, Lib.hid ?_, Lib.hid ?_, Lib.hid ?_, ?_⟩
            · iterate 6 refine Rw.other ?_ (by simp only [ne_eq]; omega) _
              exact hR0
            · iterate 6 refine Rw.other ?_ (by simp only [ne_eq]; omega) _
              exact hR1
            · iterate 6 refine Rw.other ?_ (by simp only [ne_eq]; omega) _
              exact hR2
            · exact (((((hR3.set 0 _).set 1 _).set 2 _).set 3 _).set 4 _).set 5 _
            · have hB : Below w.heap.size w w1 := bt hb HB1.out
              iterate 6 refine Below.setCell ?_ (by simp; omega) _
              exact hB
          case measure => simp [intOf]; omega
        · have hjn : j = nV := by omega
          have HJN := Lib.hid hjn; clear hjn
          have f0 : wr.cell? ⟨w.heap.size + 1 + 1, 0, none⟩ = some (.int .i64 0) := HR2.out.cell 0
          have f1 : wr.cell? ⟨w.heap.size + 1 + 1, 1, none⟩ = some (.bool false) := HR2.out.cell 1
          have f2 : wr.cell? ⟨w.heap.size + 1 + 1, 2, none⟩ = some (.int .i64 0) := HR2.out.cell 2
          have f3 : wr.cell? ⟨w.heap.size + 1 + 1, 3, none⟩ = some (.string ByteArray.empty) := HR2.out.cell 3
          have f4 : wr.cell? ⟨w.heap.size + 1 + 1, 4, none⟩ = some (.int .i64 0) := HR2.out.cell 4
          have f5 : wr.cell? ⟨w.heap.size + 1 + 1, 5, none⟩ = some (.string ByteArray.empty) := HR2.out.cell 5
          go_wp2_with fail
          refine bodyPost_ret (v := .agg #[.int .i64 x.nulls, .bool x.has, .int .i64 x.mn.n, .string x.mn.s, .int .i64 x.mx.n, .string x.mx.s]) (by simp [results, Try.results15, go_sem, f0, f1, f2, f3, f4, f5]) rfl ⟨?_, ?_⟩
          · have := hx.out
            rw [List.take_of_length_le (by have := HJN.out; omega)] at this
            rw [← this]; rfl
          · iterate 6 refine Below.setCell ?_ (by simp; omega) _
            exact hb
end Go.Proofs.Ytnmlngpkhlafgaa
