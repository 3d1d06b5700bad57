/-
  The walk of column.
-/
import Derived.Test.YtnmlngpkhlafgaaCol
set_option linter.unusedSimpArgs false
namespace Go.Proofs.Ytnmlngpkhlafgaa
open Go.RowKit Go.Shr
set_option maxHeartbeats 2000000 in
theorem column_v (a : Option Addr) (n cap : Nat) (l : List Vl) (ab : Option Addr) (nb cb : Nat) (bs : List Bool) (W0 : World) (hl : Sl (fun b => b < W0.heap.size) W0 2 a n cap (vls l)) (hn : n ≤ 60) (hbs : Sl (fun b => b < W0.heap.size) W0 1 ab nb cb (bools bs)) :
    Calls Try.prog 11 #[.slice a n cap, .slice ab nb cb] W0 fun e w' => ∃ aR nR cR aD cD aV nV cV, e = .returned (.tuple #[.agg #[.int .i64 0, .int .i64 0, .int .i64 1, .int .i64 0], .agg #[.slice aR nR cR, .slice aD n cD, .slice aV nV cV]]) ∧
      Sl (fun b => b < w'.heap.size) w' 1 aD n cD (ints (lvB l bs)) ∧ Sl (fun b => b < w'.heap.size) w' 2 aV nV cV (vls (filtB l bs)) ∧ Below W0.heap.size W0 w' := by
  obtain ⟨iv, hiv, hz0v, hz1v, hz2v⟩ := info_parts info_v
  obtain ⟨ii, hii, hz0i, hz1i, hz2i⟩ := info_parts info_i
  have hlen : l.length = n := by have := hl.len; rw [vls_length] at this; omega
  have hlenb : bs.length = nb := by have := hbs.len; simp only [bools, List.length_map] at this; omega
  have hcell : ∀ j (hj : j < l.length), ∃ b off, a = some ⟨b, off, none⟩ ∧ W0.cell? ⟨b, off + j * 2, none⟩ = some (.int .i64 l[j].n) ∧ W0.cell? ⟨b, off + j * 2 + 1, none⟩ = some (.string l[j].s) := fun j hj => by
    obtain ⟨b, off, h1, _, h3⟩ := hl.pos (by omega)
    have := vls_get l j (by omega)
    exact ⟨b, off, h1, h3 _ _ this.1, by rw [Nat.add_assoc]; exact h3 _ _ this.2⟩
  have hcellb : ∀ j (hj : j < bs.length), ∃ b off, ab = some ⟨b, off, none⟩ ∧ W0.cell? ⟨b, off + j, none⟩ = some (.bool bs[j]) := fun j hj => by
    obtain ⟨b, off, h1, _, h3⟩ := hbs.pos (by omega)
    exact ⟨b, off, h1, h3 _ _ (by simp [bools, hj])⟩
  have HC := Lib.hid hcell; clear hcell
  have HCB := Lib.hid hcellb; clear hcellb
  have HL := Lib.hid hl; clear hl
  have HBS := Lib.hid hbs; clear hbs
  go_enter Try.func11, Try.ntmps11
  go_wp2_with fail
  go_loopw [7] (fun i wr => ∃ (j : Nat) (aR aD aV : Option Addr) (cR cD nV cV : Nat) (xR : List Value), i = .int .i64 j ∧ j ≤ n ∧ Hid (ColI W0.heap.size wr j aR cR aD cD aV nV cV xR (lvB (l.take j) bs) (filtB (l.take j) bs)) ∧ Below W0.heap.size W0 wr)
    (fun i _ => n - (intOf i).toNat)
  case atStart =>
    refine ⟨0, none, none, none, 0, 0, 0, 0, [], rfl, Nat.zero_le _, Lib.hid ⟨?_, ?_, ?_, Own.nil _ _ _ _, Own.nil _ _ _ _, Own.nil _ _ _ _, fun k ⟨_, _, h⟩ => (by cases h), fun k ⟨_, _, h⟩ => (by cases h), fun k ⟨_, _, h⟩ => (by cases h), fun k ⟨_, _, h⟩ => (by cases h), fun k ⟨_, _, h⟩ => (by cases h), fun k ⟨_, _, h⟩ => (by cases h)⟩, ?_⟩
    iterate 3 · repeat (first | (refine Rw.new' ?_; simp; done) | refine Rw.alloc ?_ _)
    · repeat (first | with_reducible exact Below.refl _ _ | refine ba ?_ _)
  case round =>
    obtain ⟨j, aR, aD, aV, cR, cD, nV, cV, xR, rfl, hj, HI, hb⟩ := hrel
    have hr2 := HI.out.r2.lt
    have c2 : wr.cell? ⟨W0.heap.size + 1 + 1, 2, none⟩ = some (.slice aV nV cV) := HI.out.r2.cell 2
    have hnV : nV ≤ 60 := by
      have h1 := HI.out.oV.len
      have h2 := filtB_count (l.take j) bs
      rw [vls_length] at h1
      rw [List.length_take] at h2
      omega
    by_cases hlt : j < n
    · obtain ⟨b, off, rfl, e1, e2⟩ := HC.out j (by omega)
      have hbw : b < W0.heap.size := World.block_lt_of_cell? W0 _ e1
      replace e1 : wr.cell? ⟨b, off + j * 2, none⟩ = some (.int .i64 l[j].n) := (hb.cell (p := ⟨b, off + j * 2, none⟩) hbw).trans e1
      replace e2 : wr.cell? ⟨b, off + j * 2 + 1, none⟩ = some (.string l[j].s) := (hb.cell (p := ⟨b, off + j * 2 + 1, none⟩) hbw).trans e2
      have hsz := hb.size
      have HF : Hid (filtB (l.take (j + 1)) bs = filtB (l.take j) bs ++ (if bs.getD j true then [l[j]] else [])) := Lib.hid (by
        rw [List.take_succ_eq_append_getElem (by omega), filtB_snoc, List.length_take, show min j l.length = j by omega])
      have HLV : Hid (lvB (l.take (j + 1)) bs = lvB (l.take j) bs ++ [if bs.getD j true then 1 else 0]) := Lib.hid (by
        rw [List.take_succ_eq_append_getElem (by omega), lvB_snoc, List.length_take, show min j l.length = j by omega])
      have hcase : (∃ (h : j < bs.length), bs[j] = false) ∨ (∃ (h : j < bs.length), bs[j] = true) ∨ ¬ j < bs.length := by
        by_cases h : j < bs.length
        · cases hh : bs[j]
          · exact .inl ⟨h, hh⟩
          · exact .inr (.inl ⟨h, hh⟩)
        · exact .inr (.inr h)
      rcases hcase with ⟨hjb, hv⟩ | ⟨hjb, hv⟩ | hjb
      case inl =>
        have HG : Hid (bs.getD j true = false) := Lib.hid (by rw [List.getD_eq_getElem?_getD, List.getElem?_eq_getElem hjb, hv]; rfl)
        rw [HG.out] at HF HLV
        simp only [if_neg (show ¬ (false = true) by decide), List.append_nil] at HF HLV
        obtain ⟨bb, offb, rfl, e3⟩ := HCB.out j hjb
        replace e3 : wr.cell? ⟨bb, offb + j, none⟩ = some (.bool false) := (hb.cell (p := ⟨bb, offb + j, none⟩) (World.block_lt_of_cell? W0 _ e3)).trans (by rw [e3, hv])
        clear hv
        go_wp2_with fail
        obtain ⟨wz, hwz, aZ, nZ, cZ, hnZ, KI, KB⟩ : ∃ wz, wr = wz ∧ ∃ aZ nZ cZ, nZ ≤ 61 ∧ Hid (ColI W0.heap.size wz j aR cR aD cD aZ nZ cZ xR (lvB (l.take j) bs) (filtB (l.take (j + 1)) bs)) ∧ Hid (Below W0.heap.size W0 wz) :=
          ⟨wr, rfl, aV, nV, cV, by omega, (by rw [HF.out]; exact HI), Lib.hid hb⟩
        rw [hwz]
        clear hwz
        clear hnV
        have hsz2 := KB.out.size
        have hr3 := KI.out.r2.lt
        refine Go.Shr.wp_region_F (fun w' => Rw w' (W0.heap.size + 1 + 1) #[.slice aR j cR, .slice aD j cD, .slice aZ nZ cZ] 31) [10, 11, 12] (by kernel_rfl) ?g3rgS (fun hHeld => ?g3rgR)
        case g3rgS => (try dsimp only); (first | exact KI.out.r2.drew | exact hHeld.alloc _ | exact hHeld.chg hc8 (by rintro ⟨_, h, _⟩; omega) | exact hHeld.chg hc5 (by rintro ⟨_, h, _⟩; omega))
        try dsimp only at hHeld
        refine Go.Shr.wpAnyF_take 0 (oi := { dst := some 36, op := Go.Op.fieldAddr 31 (Go.Operand.tmp 6) 0, type := 0, pos := "law.go:34", after := #[], guard := none }) (v := ?g3rv1) rfl (by kernel_rfl) (fun _ _ _ h => h) (by assumption) (by rfl) ?g3ry1 ?g3rr1
        case g3ry1 => intro w hSw; (have q0 : w.cell? ⟨W0.heap.size + 1 + 1, 0, none⟩ = some (.slice aR j cR) := hSw.cell 0); (have q1 : w.cell? ⟨W0.heap.size + 1 + 1, 1, none⟩ = some (.slice aD j cD) := hSw.cell 1); go_simp; try with_reducible rfl
        try simp only [Act.put, List.setIfInBounds_toArray, List.set_cons_zero, List.set_cons_succ]
        refine Go.Shr.wpAnyF_take 1 (oi := { dst := some 37, op := Go.Op.load 29 (Go.Operand.tmp 36), type := 29, pos := "law.go:34", after := #[{ on := 0, ground := Go.Ground.data }], guard := none }) (v := ?g3rv2) rfl (by kernel_rfl) (fun _ _ _ h => h) (by assumption) (by rfl) ?g3ry2 ?g3rr2
        case g3ry2 => intro w hSw; (have q0 : w.cell? ⟨W0.heap.size + 1 + 1, 0, none⟩ = some (.slice aR j cR) := hSw.cell 0); (have q1 : w.cell? ⟨W0.heap.size + 1 + 1, 1, none⟩ = some (.slice aD j cD) := hSw.cell 1); go_simp; try with_reducible rfl
        try simp only [Act.put, List.setIfInBounds_toArray, List.set_cons_zero, List.set_cons_succ]
        refine Go.Shr.wpAnyF_take 4 (oi := { dst := some 40, op := Go.Op.fieldAddr 31 (Go.Operand.tmp 6) 1, type := 0, pos := "law.go:34", after := #[], guard := none }) (v := ?g3rv3) rfl (by kernel_rfl) (fun _ _ _ h => h) (by assumption) (by rfl) ?g3ry3 ?g3rr3
        case g3ry3 => intro w hSw; (have q0 : w.cell? ⟨W0.heap.size + 1 + 1, 0, none⟩ = some (.slice aR j cR) := hSw.cell 0); (have q1 : w.cell? ⟨W0.heap.size + 1 + 1, 1, none⟩ = some (.slice aD j cD) := hSw.cell 1); go_simp; try with_reducible rfl
        try simp only [Act.put, List.setIfInBounds_toArray, List.set_cons_zero, List.set_cons_succ]
        refine Go.Shr.wpAnyF_take 5 (oi := { dst := some 41, op := Go.Op.load 29 (Go.Operand.tmp 40), type := 29, pos := "law.go:34", after := #[{ on := 4, ground := Go.Ground.data }], guard := none }) (v := ?g3rv4) rfl (by kernel_rfl) (fun _ _ _ h => h) (by assumption) (by rfl) ?g3ry4 ?g3rr4
        case g3ry4 => intro w hSw; (have q0 : w.cell? ⟨W0.heap.size + 1 + 1, 0, none⟩ = some (.slice aR j cR) := hSw.cell 0); (have q1 : w.cell? ⟨W0.heap.size + 1 + 1, 1, none⟩ = some (.slice aD j cD) := hSw.cell 1); go_simp; try with_reducible rfl
        try simp only [Act.put, List.setIfInBounds_toArray, List.set_cons_zero, List.set_cons_succ]
        refine Go.Shr.wpAnyF_take 6 (oi := { dst := some 42, op := Go.Op.move (Go.Operand.tmp 8), type := 3, pos := "law.go:34", after := #[], guard := none }) (v := ?g3rv5) rfl (by kernel_rfl) (fun _ _ _ h => h) (by assumption) (by rfl) ?g3ry5 ?g3rr5
        case g3ry5 => intro w hSw; (have q0 : w.cell? ⟨W0.heap.size + 1 + 1, 0, none⟩ = some (.slice aR j cR) := hSw.cell 0); (have q1 : w.cell? ⟨W0.heap.size + 1 + 1, 1, none⟩ = some (.slice aD j cD) := hSw.cell 1); go_simp; try with_reducible rfl
        try simp only [Act.put, List.setIfInBounds_toArray, List.set_cons_zero, List.set_cons_succ]
        refine Go.Shr.wpAnyF_ready [2, 7] (by kernel_rfl) (by simp) ?_
        refine Go.Shr.AllReadyF.cons 2 (o := { dst := some 38, op := Go.Op.buildSlice 29 1 #[(0, Go.Operand.const (Go.Value.int Go.IntKind.i64 0))], type := 29, pos := "law.go:34", after := #[], guard := none }) rfl (fun K hK => ?g3ro6) ?g3rm6
        case g3ro6 =>
          go_simp
          refine hK.out _ _ ?g3rs6 (fun hHeld => ?g3rt6)
          case g3rs6 => (try dsimp only); (first | exact KI.out.r2.drew | exact hHeld.alloc _ | exact hHeld.chg hc8 (by rintro ⟨_, h, _⟩; omega) | exact hHeld.chg hc5 (by rintro ⟨_, h, _⟩; omega))
          try dsimp only at hHeld
          clear hK K
          try simp only [Act.put, List.setIfInBounds_toArray, List.set_cons_zero, List.set_cons_succ]
          refine Go.Shr.wpAnyF_ready [3, 7] (by kernel_rfl) (by simp) ?_
          refine Go.Shr.AllReadyF.cons 3 (o := { dst := some 39, op := Go.Op.call { callee := Go.Callee.builtin Go.Builtin.append, args := #[Go.Operand.tmp 37, Go.Operand.tmp 38], argTypes := #[29, 29] }, type := 29, pos := "law.go:34", after := #[{ on := 1, ground := Go.Ground.data }, { on := 2, ground := Go.Ground.data }], guard := none }) rfl (fun K hK => ?g3ro7) ?g3rm7
          case g3ro7 =>
            (refine step_append (B := W0.heap.size + 1 + 1 + 1) rfl _ _ _ _ rfl ii (.int .i64 0) 8 Try.underlying29 hii hz0i hz1i hz2i rfl rfl ((by first | with_reducible exact (KI.out.oR.alloc _).drew | with_reducible exact ((KI.out.oR.alloc _).alloc _).drew)) _ rfl _ _ (src_rw (e' := 3) Try.underlying29 (cur := #[.int .i64 0]) (t := 3) (by repeat (first | (refine Rw.new' ?_; simp; done) | with_reducible refine Rw.alloc ?_ _ | with_reducible refine Rw.drew ?_)) 1 1 (by rfl) (by simp [Value.oneCell'])) (by simp only [maxLen]; omega) (by omega) (by first | omega | (simp; omega) | simp) ?_; intro a5 cap5 w5 ho5 hc5 hn5); (have hc5s := hc5.size); (simp only [World.size_alloc, World.size_drew] at hc5s)
            refine hK.out _ _ ?g3rs7 (fun hHeld => ?g3rt7)
            case g3rs7 => (try dsimp only); (first | exact KI.out.r2.drew | exact hHeld.alloc _ | exact hHeld.chg hc8 (by rintro ⟨_, h, _⟩; omega) | exact hHeld.chg hc5 (by rintro ⟨_, h, _⟩; omega))
            try dsimp only at hHeld
            clear hK K
            try simp only [Act.put, List.setIfInBounds_toArray, List.set_cons_zero, List.set_cons_succ]
            refine Go.Shr.wpAnyF_take 9 (oi := { dst := some 45, op := Go.Op.fieldAddr 31 (Go.Operand.tmp 6) 0, type := 0, pos := "law.go:34", after := #[{ on := 0, ground := Go.Ground.phase }, { on := 1, ground := Go.Ground.phase }, { on := 2, ground := Go.Ground.phase }, { on := 3, ground := Go.Ground.phase }, { on := 4, ground := Go.Ground.phase }, { on := 5, ground := Go.Ground.phase }, { on := 6, ground := Go.Ground.textOnly Go.Departure.lateStores }, { on := 7, ground := Go.Ground.textOnly Go.Departure.lateStores }, { on := 8, ground := Go.Ground.textOnly Go.Departure.lateStoresUnsure }], guard := none }) (v := ?g3rv8) rfl (by kernel_rfl) (fun _ _ _ h => h) (by assumption) (by rfl) ?g3ry8 ?g3rr8
            case g3ry8 => intro w hSw; (have q0 : w.cell? ⟨W0.heap.size + 1 + 1, 0, none⟩ = some (.slice aR j cR) := hSw.cell 0); (have q1 : w.cell? ⟨W0.heap.size + 1 + 1, 1, none⟩ = some (.slice aD j cD) := hSw.cell 1); go_simp; try with_reducible rfl
            try simp only [Act.put, List.setIfInBounds_toArray, List.set_cons_zero, List.set_cons_succ]
            refine Go.Shr.wpAnyF_ready [7] (by kernel_rfl) (by simp) ?_
            refine Go.Shr.AllReadyF.cons 7 (o := { dst := some 43, op := Go.Op.buildSlice 29 1 #[(0, Go.Operand.tmp 42)], type := 29, pos := "law.go:34", after := #[{ on := 6, ground := Go.Ground.data }], guard := none }) rfl (fun K hK => ?g3ro9) ?g3rm9
            case g3rm9 => exact Go.Shr.AllReadyF.nil
            go_simp
            refine hK.out _ _ ?g3rs9 (fun hHeld => ?g3rt9)
            case g3rs9 => (try dsimp only); (first | exact KI.out.r2.drew | exact hHeld.alloc _ | exact hHeld.chg hc8 (by rintro ⟨_, h, _⟩; omega) | exact hHeld.chg hc5 (by rintro ⟨_, h, _⟩; omega))
            try dsimp only at hHeld
            clear hK K
            try simp only [Act.put, List.setIfInBounds_toArray, List.set_cons_zero, List.set_cons_succ]
            refine Go.Shr.wpAnyF_ready [8] (by kernel_rfl) (by simp) ?_
            refine Go.Shr.AllReadyF.cons 8 (o := { dst := some 44, op := Go.Op.call { callee := Go.Callee.builtin Go.Builtin.append, args := #[Go.Operand.tmp 41, Go.Operand.tmp 43], argTypes := #[29, 29] }, type := 29, pos := "law.go:34", after := #[{ on := 5, ground := Go.Ground.data }, { on := 7, ground := Go.Ground.data }, { on := 3, ground := Go.Ground.chain }], guard := none }) rfl (fun K hK => ?g3ro10) ?g3rm10
            case g3rm10 => exact Go.Shr.AllReadyF.nil
            (have HRW5 : ∀ {b : Nat} {cur : Array Value} {t : TypeId}, Rw _ b cur t → wz.heap.size ≤ b → Rw w5 b cur t := fun h hb => h.chg hc5 (by rintro ⟨h1, _⟩; have := KI.out.bR _ h1; omega)); (have hD5 : Own (W0.heap.size + 1 + 1 + 1) w5 3 1 aD j cD (ints (lvB (l.take j) bs)) := Own.chg (by first | with_reducible exact (KI.out.oD.alloc _).drew | with_reducible exact ((KI.out.oD.alloc _).alloc _).drew) hc5 (fun k h1 h2 => KI.out.dRD k h2.1 h1)); (refine step_append (B := W0.heap.size + 1 + 1 + 1) rfl _ _ _ _ rfl ii (.int .i64 0) 8 Try.underlying29 hii hz0i hz1i hz2i rfl rfl ((by first | with_reducible exact hD5 | with_reducible exact hD5.alloc _)) _ rfl _ _ (src_rw (e' := 3) Try.underlying29 (cur := #[.int .i64 _]) (t := 3) (by first | (repeat (first | (refine Rw.new' ?_; simp; done) | with_reducible refine Rw.alloc ?_ _ | with_reducible refine Rw.drew ?_)); done | (refine HRW5 ?_ (by simp <;> omega); repeat (first | (refine Rw.new' ?_; simp; done) | with_reducible refine Rw.alloc ?_ _ | with_reducible refine Rw.drew ?_))) 1 1 (by rfl) (by simp [Value.oneCell'])) (by simp only [maxLen]; omega) (by omega) (by first | omega | (simp; omega) | simp) ?_; intro a8 cap8 w8 ho8 hc8 hn8)
            refine hK.out _ _ ?g3rs10 (fun hHeld => ?g3rt10)
            case g3rs10 => (try dsimp only); (first | exact KI.out.r2.drew | exact hHeld.alloc _ | exact hHeld.chg hc8 (by rintro ⟨_, h, _⟩; omega) | exact hHeld.chg hc5 (by rintro ⟨_, h, _⟩; omega))
            try dsimp only at hHeld
            clear hK K
            try simp only [Act.put, List.setIfInBounds_toArray, List.set_cons_zero, List.set_cons_succ]
            refine Go.Shr.wpAnyF_ready [10] (by kernel_rfl) (by simp) ?_
            refine Go.Shr.AllReadyF.last 10 (o := { dst := none, op := Go.Op.store 29 (Go.Operand.tmp 45) (Go.Operand.tmp 39), type := 0, pos := "law.go:34", after := #[{ on := 9, ground := Go.Ground.data }, { on := 3, ground := Go.Ground.data }, { on := 8, ground := Go.Ground.chain }, { on := 0, ground := Go.Ground.phase }, { on := 1, ground := Go.Ground.phase }, { on := 2, ground := Go.Ground.phase }, { on := 3, ground := Go.Ground.phase }, { on := 4, ground := Go.Ground.phase }, { on := 5, ground := Go.Ground.phase }, { on := 6, ground := Go.Ground.textOnly Go.Departure.lateStores }, { on := 7, ground := Go.Ground.textOnly Go.Departure.lateStores }, { on := 8, ground := Go.Ground.textOnly Go.Departure.lateStoresUnsure }], guard := none }) rfl (by kernel_rfl) (fun K hK => ?g3ro11) ?g3rm11
            case g3rm11 => exact Go.Shr.AllReadyF.nil
            (have q0 : w8.cell? ⟨W0.heap.size + 1 + 1, 0, none⟩ = some (.slice aR j cR) := hHeld.cell 0); (have q1 : w8.cell? ⟨W0.heap.size + 1 + 1, 1, none⟩ = some (.slice aD j cD) := hHeld.cell 1); (have q2 := hHeld.frozen); (have hsw8 := hHeld.lt); go_simp
            refine hK.out _ _ ?_
            clear hK K
            try simp only [Act.put, List.setIfInBounds_toArray, List.set_cons_zero, List.set_cons_succ]
            refine Go.Shr.wpAnyF_ready [11] (by kernel_rfl) (by simp) ?_
            refine Go.Shr.AllReadyF.last 11 (o := { dst := some 46, op := Go.Op.fieldAddr 31 (Go.Operand.tmp 6) 1, type := 0, pos := "law.go:34", after := #[{ on := 0, ground := Go.Ground.phase }, { on := 1, ground := Go.Ground.phase }, { on := 2, ground := Go.Ground.phase }, { on := 3, ground := Go.Ground.phase }, { on := 4, ground := Go.Ground.phase }, { on := 5, ground := Go.Ground.phase }, { on := 6, ground := Go.Ground.phase }, { on := 7, ground := Go.Ground.phase }, { on := 8, ground := Go.Ground.phase }, { on := 9, ground := Go.Ground.phase }, { on := 10, ground := Go.Ground.phase }], guard := none }) rfl (by kernel_rfl) (fun K hK => ?g3ro12) ?g3rm12
            case g3rm12 => exact Go.Shr.AllReadyF.nil
            go_simp
            refine hK.out _ _ ?_
            clear hK K
            try simp only [Act.put, List.setIfInBounds_toArray, List.set_cons_zero, List.set_cons_succ]
            refine Go.Shr.wpAnyF_ready [12] (by kernel_rfl) (by simp) ?_
            refine Go.Shr.AllReadyF.last 12 (o := { dst := none, op := Go.Op.store 29 (Go.Operand.tmp 46) (Go.Operand.tmp 44), type := 0, pos := "law.go:34", after := #[{ on := 11, ground := Go.Ground.data }, { on := 8, ground := Go.Ground.data }, { on := 10, ground := Go.Ground.chain }, { on := 0, ground := Go.Ground.phase }, { on := 1, ground := Go.Ground.phase }, { on := 2, ground := Go.Ground.phase }, { on := 3, ground := Go.Ground.phase }, { on := 4, ground := Go.Ground.phase }, { on := 5, ground := Go.Ground.phase }, { on := 6, ground := Go.Ground.phase }, { on := 7, ground := Go.Ground.phase }, { on := 8, ground := Go.Ground.phase }, { on := 9, ground := Go.Ground.phase }, { on := 10, ground := Go.Ground.phase }], guard := none }) rfl (by kernel_rfl) (fun K hK => ?g3ro13) ?g3rm13
            case g3rm13 => exact Go.Shr.AllReadyF.nil
            go_simp
            refine hK.out _ _ ?_
            clear hK K
            try simp only [Act.put, List.setIfInBounds_toArray, List.set_cons_zero, List.set_cons_succ]
            refine Go.Shr.wpAnyF_done (by kernel_rfl) ?_
            go_wp2_with fail
            have hB5 : Below W0.heap.size W0 w5 := Chg.bt (by first | with_reducible exact (ba KB.out _).drew | with_reducible exact (ba (ba KB.out _) _).drew) hc5 (fun i hi h => by omega)
            have hB8 : Below W0.heap.size W0 w8 := Chg.bt (by first | with_reducible exact hB5 | with_reducible exact ba hB5 _) hc8 (fun i hi h => by omega)
            go_roundw
            case rel =>
              refine ⟨j + 1, a5, a8, aZ, cap5, cap8, nZ, cZ, _, by go_num, by omega, Lib.hid (by
                rw [HLV.out]
                exact KI.out.pushRD (by first | with_reducible exact (ba (Below.refl _ _) _).drew | with_reducible exact (ba (ba (Below.refl _ _) _) _).drew) hc5 ho5 hn5 (by first | with_reducible exact Below.refl _ _ | with_reducible exact ba (Below.refl _ _) _) hc8 ho8 hn8), ?_⟩
              exact (hB8.setCell (by simp; omega) _).setCell (by simp; omega) _
            case measure => simp [intOf]; omega
          case g3rm7 =>
          refine Go.Shr.AllReadyF.cons 7 (o := { dst := some 43, op := Go.Op.buildSlice 29 1 #[(0, Go.Operand.tmp 42)], type := 29, pos := "law.go:34", after := #[{ on := 6, ground := Go.Ground.data }], guard := none }) rfl (fun K hK => ?g3ro14) ?g3rm14
          case g3ro14 =>
            go_simp
            refine hK.out _ _ ?g3rs14 (fun hHeld => ?g3rt14)
            case g3rs14 => (try dsimp only); (first | exact KI.out.r2.drew | exact hHeld.alloc _ | exact hHeld.chg hc8 (by rintro ⟨_, h, _⟩; omega) | exact hHeld.chg hc5 (by rintro ⟨_, h, _⟩; omega))
            try dsimp only at hHeld
            clear hK K
            try simp only [Act.put, List.setIfInBounds_toArray, List.set_cons_zero, List.set_cons_succ]
            refine Go.Shr.wpAnyF_ready [3] (by kernel_rfl) (by simp) ?_
            refine Go.Shr.AllReadyF.cons 3 (o := { dst := some 39, op := Go.Op.call { callee := Go.Callee.builtin Go.Builtin.append, args := #[Go.Operand.tmp 37, Go.Operand.tmp 38], argTypes := #[29, 29] }, type := 29, pos := "law.go:34", after := #[{ on := 1, ground := Go.Ground.data }, { on := 2, ground := Go.Ground.data }], guard := none }) rfl (fun K hK => ?g3ro15) ?g3rm15
            case g3rm15 => exact Go.Shr.AllReadyF.nil
            (refine step_append (B := W0.heap.size + 1 + 1 + 1) rfl _ _ _ _ rfl ii (.int .i64 0) 8 Try.underlying29 hii hz0i hz1i hz2i rfl rfl ((by first | with_reducible exact (KI.out.oR.alloc _).drew | with_reducible exact ((KI.out.oR.alloc _).alloc _).drew)) _ rfl _ _ (src_rw (e' := 3) Try.underlying29 (cur := #[.int .i64 0]) (t := 3) (by repeat (first | (refine Rw.new' ?_; simp; done) | with_reducible refine Rw.alloc ?_ _ | with_reducible refine Rw.drew ?_)) 1 1 (by rfl) (by simp [Value.oneCell'])) (by simp only [maxLen]; omega) (by omega) (by first | omega | (simp; omega) | simp) ?_; intro a5 cap5 w5 ho5 hc5 hn5); (have hc5s := hc5.size); (simp only [World.size_alloc, World.size_drew] at hc5s)
            refine hK.out _ _ ?g3rs15 (fun hHeld => ?g3rt15)
            case g3rs15 => (try dsimp only); (first | exact KI.out.r2.drew | exact hHeld.alloc _ | exact hHeld.chg hc8 (by rintro ⟨_, h, _⟩; omega) | exact hHeld.chg hc5 (by rintro ⟨_, h, _⟩; omega))
            try dsimp only at hHeld
            clear hK K
            try simp only [Act.put, List.setIfInBounds_toArray, List.set_cons_zero, List.set_cons_succ]
            refine Go.Shr.wpAnyF_take 9 (oi := { dst := some 45, op := Go.Op.fieldAddr 31 (Go.Operand.tmp 6) 0, type := 0, pos := "law.go:34", after := #[{ on := 0, ground := Go.Ground.phase }, { on := 1, ground := Go.Ground.phase }, { on := 2, ground := Go.Ground.phase }, { on := 3, ground := Go.Ground.phase }, { on := 4, ground := Go.Ground.phase }, { on := 5, ground := Go.Ground.phase }, { on := 6, ground := Go.Ground.textOnly Go.Departure.lateStores }, { on := 7, ground := Go.Ground.textOnly Go.Departure.lateStores }, { on := 8, ground := Go.Ground.textOnly Go.Departure.lateStoresUnsure }], guard := none }) (v := ?g3rv16) rfl (by kernel_rfl) (fun _ _ _ h => h) (by assumption) (by rfl) ?g3ry16 ?g3rr16
            case g3ry16 => intro w hSw; (have q0 : w.cell? ⟨W0.heap.size + 1 + 1, 0, none⟩ = some (.slice aR j cR) := hSw.cell 0); (have q1 : w.cell? ⟨W0.heap.size + 1 + 1, 1, none⟩ = some (.slice aD j cD) := hSw.cell 1); go_simp; try with_reducible rfl
            try simp only [Act.put, List.setIfInBounds_toArray, List.set_cons_zero, List.set_cons_succ]
            refine Go.Shr.wpAnyF_ready [8] (by kernel_rfl) (by simp) ?_
            refine Go.Shr.AllReadyF.cons 8 (o := { dst := some 44, op := Go.Op.call { callee := Go.Callee.builtin Go.Builtin.append, args := #[Go.Operand.tmp 41, Go.Operand.tmp 43], argTypes := #[29, 29] }, type := 29, pos := "law.go:34", after := #[{ on := 5, ground := Go.Ground.data }, { on := 7, ground := Go.Ground.data }, { on := 3, ground := Go.Ground.chain }], guard := none }) rfl (fun K hK => ?g3ro17) ?g3rm17
            case g3rm17 => exact Go.Shr.AllReadyF.nil
            (have HRW5 : ∀ {b : Nat} {cur : Array Value} {t : TypeId}, Rw _ b cur t → wz.heap.size ≤ b → Rw w5 b cur t := fun h hb => h.chg hc5 (by rintro ⟨h1, _⟩; have := KI.out.bR _ h1; omega)); (have hD5 : Own (W0.heap.size + 1 + 1 + 1) w5 3 1 aD j cD (ints (lvB (l.take j) bs)) := Own.chg (by first | with_reducible exact (KI.out.oD.alloc _).drew | with_reducible exact ((KI.out.oD.alloc _).alloc _).drew) hc5 (fun k h1 h2 => KI.out.dRD k h2.1 h1)); (refine step_append (B := W0.heap.size + 1 + 1 + 1) rfl _ _ _ _ rfl ii (.int .i64 0) 8 Try.underlying29 hii hz0i hz1i hz2i rfl rfl ((by first | with_reducible exact hD5 | with_reducible exact hD5.alloc _)) _ rfl _ _ (src_rw (e' := 3) Try.underlying29 (cur := #[.int .i64 _]) (t := 3) (by first | (repeat (first | (refine Rw.new' ?_; simp; done) | with_reducible refine Rw.alloc ?_ _ | with_reducible refine Rw.drew ?_)); done | (refine HRW5 ?_ (by simp <;> omega); repeat (first | (refine Rw.new' ?_; simp; done) | with_reducible refine Rw.alloc ?_ _ | with_reducible refine Rw.drew ?_))) 1 1 (by rfl) (by simp [Value.oneCell'])) (by simp only [maxLen]; omega) (by omega) (by first | omega | (simp; omega) | simp) ?_; intro a8 cap8 w8 ho8 hc8 hn8)
            refine hK.out _ _ ?g3rs17 (fun hHeld => ?g3rt17)
            case g3rs17 => (try dsimp only); (first | exact KI.out.r2.drew | exact hHeld.alloc _ | exact hHeld.chg hc8 (by rintro ⟨_, h, _⟩; omega) | exact hHeld.chg hc5 (by rintro ⟨_, h, _⟩; omega))
            try dsimp only at hHeld
            clear hK K
            try simp only [Act.put, List.setIfInBounds_toArray, List.set_cons_zero, List.set_cons_succ]
            refine Go.Shr.wpAnyF_ready [10] (by kernel_rfl) (by simp) ?_
            refine Go.Shr.AllReadyF.last 10 (o := { dst := none, op := Go.Op.store 29 (Go.Operand.tmp 45) (Go.Operand.tmp 39), type := 0, pos := "law.go:34", after := #[{ on := 9, ground := Go.Ground.data }, { on := 3, ground := Go.Ground.data }, { on := 8, ground := Go.Ground.chain }, { on := 0, ground := Go.Ground.phase }, { on := 1, ground := Go.Ground.phase }, { on := 2, ground := Go.Ground.phase }, { on := 3, ground := Go.Ground.phase }, { on := 4, ground := Go.Ground.phase }, { on := 5, ground := Go.Ground.phase }, { on := 6, ground := Go.Ground.textOnly Go.Departure.lateStores }, { on := 7, ground := Go.Ground.textOnly Go.Departure.lateStores }, { on := 8, ground := Go.Ground.textOnly Go.Departure.lateStoresUnsure }], guard := none }) rfl (by kernel_rfl) (fun K hK => ?g3ro18) ?g3rm18
            case g3rm18 => exact Go.Shr.AllReadyF.nil
            (have q0 : w8.cell? ⟨W0.heap.size + 1 + 1, 0, none⟩ = some (.slice aR j cR) := hHeld.cell 0); (have q1 : w8.cell? ⟨W0.heap.size + 1 + 1, 1, none⟩ = some (.slice aD j cD) := hHeld.cell 1); (have q2 := hHeld.frozen); (have hsw8 := hHeld.lt); go_simp
            refine hK.out _ _ ?_
            clear hK K
            try simp only [Act.put, List.setIfInBounds_toArray, List.set_cons_zero, List.set_cons_succ]
            refine Go.Shr.wpAnyF_ready [11] (by kernel_rfl) (by simp) ?_
            refine Go.Shr.AllReadyF.last 11 (o := { dst := some 46, op := Go.Op.fieldAddr 31 (Go.Operand.tmp 6) 1, type := 0, pos := "law.go:34", after := #[{ on := 0, ground := Go.Ground.phase }, { on := 1, ground := Go.Ground.phase }, { on := 2, ground := Go.Ground.phase }, { on := 3, ground := Go.Ground.phase }, { on := 4, ground := Go.Ground.phase }, { on := 5, ground := Go.Ground.phase }, { on := 6, ground := Go.Ground.phase }, { on := 7, ground := Go.Ground.phase }, { on := 8, ground := Go.Ground.phase }, { on := 9, ground := Go.Ground.phase }, { on := 10, ground := Go.Ground.phase }], guard := none }) rfl (by kernel_rfl) (fun K hK => ?g3ro19) ?g3rm19
            case g3rm19 => exact Go.Shr.AllReadyF.nil
            go_simp
            refine hK.out _ _ ?_
            clear hK K
            try simp only [Act.put, List.setIfInBounds_toArray, List.set_cons_zero, List.set_cons_succ]
            refine Go.Shr.wpAnyF_ready [12] (by kernel_rfl) (by simp) ?_
            refine Go.Shr.AllReadyF.last 12 (o := { dst := none, op := Go.Op.store 29 (Go.Operand.tmp 46) (Go.Operand.tmp 44), type := 0, pos := "law.go:34", after := #[{ on := 11, ground := Go.Ground.data }, { on := 8, ground := Go.Ground.data }, { on := 10, ground := Go.Ground.chain }, { on := 0, ground := Go.Ground.phase }, { on := 1, ground := Go.Ground.phase }, { on := 2, ground := Go.Ground.phase }, { on := 3, ground := Go.Ground.phase }, { on := 4, ground := Go.Ground.phase }, { on := 5, ground := Go.Ground.phase }, { on := 6, ground := Go.Ground.phase }, { on := 7, ground := Go.Ground.phase }, { on := 8, ground := Go.Ground.phase }, { on := 9, ground := Go.Ground.phase }, { on := 10, ground := Go.Ground.phase }], guard := none }) rfl (by kernel_rfl) (fun K hK => ?g3ro20) ?g3rm20
            case g3rm20 => exact Go.Shr.AllReadyF.nil
            go_simp
            refine hK.out _ _ ?_
            clear hK K
            try simp only [Act.put, List.setIfInBounds_toArray, List.set_cons_zero, List.set_cons_succ]
            refine Go.Shr.wpAnyF_done (by kernel_rfl) ?_
            go_wp2_with fail
            have hB5 : Below W0.heap.size W0 w5 := Chg.bt (by first | with_reducible exact (ba KB.out _).drew | with_reducible exact (ba (ba KB.out _) _).drew) hc5 (fun i hi h => by omega)
            have hB8 : Below W0.heap.size W0 w8 := Chg.bt (by first | with_reducible exact hB5 | with_reducible exact ba hB5 _) hc8 (fun i hi h => by omega)
            go_roundw
            case rel =>
              refine ⟨j + 1, a5, a8, aZ, cap5, cap8, nZ, cZ, _, by go_num, by omega, Lib.hid (by
                rw [HLV.out]
                exact KI.out.pushRD (by first | with_reducible exact (ba (Below.refl _ _) _).drew | with_reducible exact (ba (ba (Below.refl _ _) _) _).drew) hc5 ho5 hn5 (by first | with_reducible exact Below.refl _ _ | with_reducible exact ba (Below.refl _ _) _) hc8 ho8 hn8), ?_⟩
              exact (hB8.setCell (by simp; omega) _).setCell (by simp; omega) _
            case measure => simp [intOf]; omega
          case g3rm14 =>
          exact Go.Shr.AllReadyF.nil
        case g3rm6 =>
        refine Go.Shr.AllReadyF.cons 7 (o := { dst := some 43, op := Go.Op.buildSlice 29 1 #[(0, Go.Operand.tmp 42)], type := 29, pos := "law.go:34", after := #[{ on := 6, ground := Go.Ground.data }], guard := none }) rfl (fun K hK => ?g3ro21) ?g3rm21
        case g3ro21 =>
          go_simp
          refine hK.out _ _ ?g3rs21 (fun hHeld => ?g3rt21)
          case g3rs21 => (try dsimp only); (first | exact KI.out.r2.drew | exact hHeld.alloc _ | exact hHeld.chg hc8 (by rintro ⟨_, h, _⟩; omega) | exact hHeld.chg hc5 (by rintro ⟨_, h, _⟩; omega))
          try dsimp only at hHeld
          clear hK K
          try simp only [Act.put, List.setIfInBounds_toArray, List.set_cons_zero, List.set_cons_succ]
          refine Go.Shr.wpAnyF_ready [2] (by kernel_rfl) (by simp) ?_
          refine Go.Shr.AllReadyF.cons 2 (o := { dst := some 38, op := Go.Op.buildSlice 29 1 #[(0, Go.Operand.const (Go.Value.int Go.IntKind.i64 0))], type := 29, pos := "law.go:34", after := #[], guard := none }) rfl (fun K hK => ?g3ro22) ?g3rm22
          case g3rm22 => exact Go.Shr.AllReadyF.nil
          go_simp
          refine hK.out _ _ ?g3rs22 (fun hHeld => ?g3rt22)
          case g3rs22 => (try dsimp only); (first | exact KI.out.r2.drew | exact hHeld.alloc _ | exact hHeld.chg hc8 (by rintro ⟨_, h, _⟩; omega) | exact hHeld.chg hc5 (by rintro ⟨_, h, _⟩; omega))
          try dsimp only at hHeld
          clear hK K
          try simp only [Act.put, List.setIfInBounds_toArray, List.set_cons_zero, List.set_cons_succ]
          refine Go.Shr.wpAnyF_ready [3] (by kernel_rfl) (by simp) ?_
          refine Go.Shr.AllReadyF.cons 3 (o := { dst := some 39, op := Go.Op.call { callee := Go.Callee.builtin Go.Builtin.append, args := #[Go.Operand.tmp 37, Go.Operand.tmp 38], argTypes := #[29, 29] }, type := 29, pos := "law.go:34", after := #[{ on := 1, ground := Go.Ground.data }, { on := 2, ground := Go.Ground.data }], guard := none }) rfl (fun K hK => ?g3ro23) ?g3rm23
          case g3rm23 => exact Go.Shr.AllReadyF.nil
          (refine step_append (B := W0.heap.size + 1 + 1 + 1) rfl _ _ _ _ rfl ii (.int .i64 0) 8 Try.underlying29 hii hz0i hz1i hz2i rfl rfl ((by first | with_reducible exact (KI.out.oR.alloc _).drew | with_reducible exact ((KI.out.oR.alloc _).alloc _).drew)) _ rfl _ _ (src_rw (e' := 3) Try.underlying29 (cur := #[.int .i64 0]) (t := 3) (by repeat (first | (refine Rw.new' ?_; simp; done) | with_reducible refine Rw.alloc ?_ _ | with_reducible refine Rw.drew ?_)) 1 1 (by rfl) (by simp [Value.oneCell'])) (by simp only [maxLen]; omega) (by omega) (by first | omega | (simp; omega) | simp) ?_; intro a5 cap5 w5 ho5 hc5 hn5); (have hc5s := hc5.size); (simp only [World.size_alloc, World.size_drew] at hc5s)
          refine hK.out _ _ ?g3rs23 (fun hHeld => ?g3rt23)
          case g3rs23 => (try dsimp only); (first | exact KI.out.r2.drew | exact hHeld.alloc _ | exact hHeld.chg hc8 (by rintro ⟨_, h, _⟩; omega) | exact hHeld.chg hc5 (by rintro ⟨_, h, _⟩; omega))
          try dsimp only at hHeld
          clear hK K
          try simp only [Act.put, List.setIfInBounds_toArray, List.set_cons_zero, List.set_cons_succ]
          refine Go.Shr.wpAnyF_take 9 (oi := { dst := some 45, op := Go.Op.fieldAddr 31 (Go.Operand.tmp 6) 0, type := 0, pos := "law.go:34", after := #[{ on := 0, ground := Go.Ground.phase }, { on := 1, ground := Go.Ground.phase }, { on := 2, ground := Go.Ground.phase }, { on := 3, ground := Go.Ground.phase }, { on := 4, ground := Go.Ground.phase }, { on := 5, ground := Go.Ground.phase }, { on := 6, ground := Go.Ground.textOnly Go.Departure.lateStores }, { on := 7, ground := Go.Ground.textOnly Go.Departure.lateStores }, { on := 8, ground := Go.Ground.textOnly Go.Departure.lateStoresUnsure }], guard := none }) (v := ?g3rv24) rfl (by kernel_rfl) (fun _ _ _ h => h) (by assumption) (by rfl) ?g3ry24 ?g3rr24
          case g3ry24 => intro w hSw; (have q0 : w.cell? ⟨W0.heap.size + 1 + 1, 0, none⟩ = some (.slice aR j cR) := hSw.cell 0); (have q1 : w.cell? ⟨W0.heap.size + 1 + 1, 1, none⟩ = some (.slice aD j cD) := hSw.cell 1); go_simp; try with_reducible rfl
          try simp only [Act.put, List.setIfInBounds_toArray, List.set_cons_zero, List.set_cons_succ]
          refine Go.Shr.wpAnyF_ready [8] (by kernel_rfl) (by simp) ?_
          refine Go.Shr.AllReadyF.cons 8 (o := { dst := some 44, op := Go.Op.call { callee := Go.Callee.builtin Go.Builtin.append, args := #[Go.Operand.tmp 41, Go.Operand.tmp 43], argTypes := #[29, 29] }, type := 29, pos := "law.go:34", after := #[{ on := 5, ground := Go.Ground.data }, { on := 7, ground := Go.Ground.data }, { on := 3, ground := Go.Ground.chain }], guard := none }) rfl (fun K hK => ?g3ro25) ?g3rm25
          case g3rm25 => exact Go.Shr.AllReadyF.nil
          (have HRW5 : ∀ {b : Nat} {cur : Array Value} {t : TypeId}, Rw _ b cur t → wz.heap.size ≤ b → Rw w5 b cur t := fun h hb => h.chg hc5 (by rintro ⟨h1, _⟩; have := KI.out.bR _ h1; omega)); (have hD5 : Own (W0.heap.size + 1 + 1 + 1) w5 3 1 aD j cD (ints (lvB (l.take j) bs)) := Own.chg (by first | with_reducible exact (KI.out.oD.alloc _).drew | with_reducible exact ((KI.out.oD.alloc _).alloc _).drew) hc5 (fun k h1 h2 => KI.out.dRD k h2.1 h1)); (refine step_append (B := W0.heap.size + 1 + 1 + 1) rfl _ _ _ _ rfl ii (.int .i64 0) 8 Try.underlying29 hii hz0i hz1i hz2i rfl rfl ((by first | with_reducible exact hD5 | with_reducible exact hD5.alloc _)) _ rfl _ _ (src_rw (e' := 3) Try.underlying29 (cur := #[.int .i64 _]) (t := 3) (by first | (repeat (first | (refine Rw.new' ?_; simp; done) | with_reducible refine Rw.alloc ?_ _ | with_reducible refine Rw.drew ?_)); done | (refine HRW5 ?_ (by simp <;> omega); repeat (first | (refine Rw.new' ?_; simp; done) | with_reducible refine Rw.alloc ?_ _ | with_reducible refine Rw.drew ?_))) 1 1 (by rfl) (by simp [Value.oneCell'])) (by simp only [maxLen]; omega) (by omega) (by first | omega | (simp; omega) | simp) ?_; intro a8 cap8 w8 ho8 hc8 hn8)
          refine hK.out _ _ ?g3rs25 (fun hHeld => ?g3rt25)
          case g3rs25 => (try dsimp only); (first | exact KI.out.r2.drew | exact hHeld.alloc _ | exact hHeld.chg hc8 (by rintro ⟨_, h, _⟩; omega) | exact hHeld.chg hc5 (by rintro ⟨_, h, _⟩; omega))
          try dsimp only at hHeld
          clear hK K
          try simp only [Act.put, List.setIfInBounds_toArray, List.set_cons_zero, List.set_cons_succ]
          refine Go.Shr.wpAnyF_ready [10] (by kernel_rfl) (by simp) ?_
          refine Go.Shr.AllReadyF.last 10 (o := { dst := none, op := Go.Op.store 29 (Go.Operand.tmp 45) (Go.Operand.tmp 39), type := 0, pos := "law.go:34", after := #[{ on := 9, ground := Go.Ground.data }, { on := 3, ground := Go.Ground.data }, { on := 8, ground := Go.Ground.chain }, { on := 0, ground := Go.Ground.phase }, { on := 1, ground := Go.Ground.phase }, { on := 2, ground := Go.Ground.phase }, { on := 3, ground := Go.Ground.phase }, { on := 4, ground := Go.Ground.phase }, { on := 5, ground := Go.Ground.phase }, { on := 6, ground := Go.Ground.textOnly Go.Departure.lateStores }, { on := 7, ground := Go.Ground.textOnly Go.Departure.lateStores }, { on := 8, ground := Go.Ground.textOnly Go.Departure.lateStoresUnsure }], guard := none }) rfl (by kernel_rfl) (fun K hK => ?g3ro26) ?g3rm26
          case g3rm26 => exact Go.Shr.AllReadyF.nil
          (have q0 : w8.cell? ⟨W0.heap.size + 1 + 1, 0, none⟩ = some (.slice aR j cR) := hHeld.cell 0); (have q1 : w8.cell? ⟨W0.heap.size + 1 + 1, 1, none⟩ = some (.slice aD j cD) := hHeld.cell 1); (have q2 := hHeld.frozen); (have hsw8 := hHeld.lt); go_simp
          refine hK.out _ _ ?_
          clear hK K
          try simp only [Act.put, List.setIfInBounds_toArray, List.set_cons_zero, List.set_cons_succ]
          refine Go.Shr.wpAnyF_ready [11] (by kernel_rfl) (by simp) ?_
          refine Go.Shr.AllReadyF.last 11 (o := { dst := some 46, op := Go.Op.fieldAddr 31 (Go.Operand.tmp 6) 1, type := 0, pos := "law.go:34", after := #[{ on := 0, ground := Go.Ground.phase }, { on := 1, ground := Go.Ground.phase }, { on := 2, ground := Go.Ground.phase }, { on := 3, ground := Go.Ground.phase }, { on := 4, ground := Go.Ground.phase }, { on := 5, ground := Go.Ground.phase }, { on := 6, ground := Go.Ground.phase }, { on := 7, ground := Go.Ground.phase }, { on := 8, ground := Go.Ground.phase }, { on := 9, ground := Go.Ground.phase }, { on := 10, ground := Go.Ground.phase }], guard := none }) rfl (by kernel_rfl) (fun K hK => ?g3ro27) ?g3rm27
          case g3rm27 => exact Go.Shr.AllReadyF.nil
          go_simp
          refine hK.out _ _ ?_
          clear hK K
          try simp only [Act.put, List.setIfInBounds_toArray, List.set_cons_zero, List.set_cons_succ]
          refine Go.Shr.wpAnyF_ready [12] (by kernel_rfl) (by simp) ?_
          refine Go.Shr.AllReadyF.last 12 (o := { dst := none, op := Go.Op.store 29 (Go.Operand.tmp 46) (Go.Operand.tmp 44), type := 0, pos := "law.go:34", after := #[{ on := 11, ground := Go.Ground.data }, { on := 8, ground := Go.Ground.data }, { on := 10, ground := Go.Ground.chain }, { on := 0, ground := Go.Ground.phase }, { on := 1, ground := Go.Ground.phase }, { on := 2, ground := Go.Ground.phase }, { on := 3, ground := Go.Ground.phase }, { on := 4, ground := Go.Ground.phase }, { on := 5, ground := Go.Ground.phase }, { on := 6, ground := Go.Ground.phase }, { on := 7, ground := Go.Ground.phase }, { on := 8, ground := Go.Ground.phase }, { on := 9, ground := Go.Ground.phase }, { on := 10, ground := Go.Ground.phase }], guard := none }) rfl (by kernel_rfl) (fun K hK => ?g3ro28) ?g3rm28
          case g3rm28 => exact Go.Shr.AllReadyF.nil
          go_simp
          refine hK.out _ _ ?_
          clear hK K
          try simp only [Act.put, List.setIfInBounds_toArray, List.set_cons_zero, List.set_cons_succ]
          refine Go.Shr.wpAnyF_done (by kernel_rfl) ?_
          go_wp2_with fail
          have hB5 : Below W0.heap.size W0 w5 := Chg.bt (by first | with_reducible exact (ba KB.out _).drew | with_reducible exact (ba (ba KB.out _) _).drew) hc5 (fun i hi h => by omega)
          have hB8 : Below W0.heap.size W0 w8 := Chg.bt (by first | with_reducible exact hB5 | with_reducible exact ba hB5 _) hc8 (fun i hi h => by omega)
          go_roundw
          case rel =>
            refine ⟨j + 1, a5, a8, aZ, cap5, cap8, nZ, cZ, _, by go_num, by omega, Lib.hid (by
              rw [HLV.out]
              exact KI.out.pushRD (by first | with_reducible exact (ba (Below.refl _ _) _).drew | with_reducible exact (ba (ba (Below.refl _ _) _) _).drew) hc5 ho5 hn5 (by first | with_reducible exact Below.refl _ _ | with_reducible exact ba (Below.refl _ _) _) hc8 ho8 hn8), ?_⟩
            exact (hB8.setCell (by simp; omega) _).setCell (by simp; omega) _
          case measure => simp [intOf]; omega
        case g3rm21 =>
        exact Go.Shr.AllReadyF.nil
      case inr.inl =>
        have HG : Hid (bs.getD j true = true) := Lib.hid (by rw [List.getD_eq_getElem?_getD, List.getElem?_eq_getElem hjb, hv]; rfl)
        rw [HG.out] at HF HLV
        simp only [if_true] at HF HLV
        obtain ⟨bb, offb, rfl, e3⟩ := HCB.out j hjb
        replace e3 : wr.cell? ⟨bb, offb + j, none⟩ = some (.bool true) := (hb.cell (p := ⟨bb, offb + j, none⟩) (World.block_lt_of_cell? W0 _ e3)).trans (by rw [e3, hv])
        clear hv
        go_wp2_with fail
        refine Go.Shr.wp_region_F (fun w' => Rw w' (W0.heap.size + 1 + 1) #[.slice aR j cR, .slice aD j cD, .slice aV nV cV] 31 ∧ w'.cell? ⟨b, off + j * 2, none⟩ = some (.int .i64 l[j].n) ∧ w'.cell? ⟨b, off + j * 2 + 1, none⟩ = some (.string l[j].s)) [9] (by kernel_rfl) ?g4rgS (fun hHeld => ?g4rgR)
        case g4rgS => (try dsimp only); (first | exact ⟨HI.out.r2.drew, e1, e2⟩ | exact ⟨hHeld.1.alloc _, Chg.keep ((Chg.refl (fun _ => False) _).alloc _) hHeld.2.1 id, Chg.keep ((Chg.refl (fun _ => False) _).alloc _) hHeld.2.2 id⟩ | exact ⟨hHeld.1.chg hc3 (by rintro ⟨_, h, _⟩; omega), Chg.keep hc3 hHeld.2.1 (by rintro ⟨_, h, _⟩; omega), Chg.keep hc3 hHeld.2.2 (by rintro ⟨_, h, _⟩; omega)⟩)
        try dsimp only at hHeld
        refine Go.Shr.wpAnyF_take 0 (oi := { dst := some 27, op := Go.Op.fieldAddr 31 (Go.Operand.tmp 6) 2, type := 0, pos := "law.go:32", after := #[], guard := none }) (v := ?g4rv1) rfl (by kernel_rfl) (fun _ _ _ h => h) (by assumption) (by rfl) ?g4ry1 ?g4rr1
        case g4ry1 => intro w hSw; (obtain ⟨hS0, q1, q2⟩ := hSw); (have q0 : w.cell? ⟨W0.heap.size + 1 + 1, 2, none⟩ = some (.slice aV nV cV) := hS0.cell 2); go_simp; try with_reducible rfl
        try simp only [Act.put, List.setIfInBounds_toArray, List.set_cons_zero, List.set_cons_succ]
        refine Go.Shr.wpAnyF_take 1 (oi := { dst := some 28, op := Go.Op.load 22 (Go.Operand.tmp 27), type := 22, pos := "law.go:32", after := #[{ on := 0, ground := Go.Ground.data }], guard := none }) (v := ?g4rv2) rfl (by kernel_rfl) (fun _ _ _ h => h) (by assumption) (by rfl) ?g4ry2 ?g4rr2
        case g4ry2 => intro w hSw; (obtain ⟨hS0, q1, q2⟩ := hSw); (have q0 : w.cell? ⟨W0.heap.size + 1 + 1, 2, none⟩ = some (.slice aV nV cV) := hS0.cell 2); go_simp; try with_reducible rfl
        try simp only [Act.put, List.setIfInBounds_toArray, List.set_cons_zero, List.set_cons_succ]
        refine Go.Shr.wpAnyF_take 2 (oi := { dst := some 29, op := Go.Op.move (Go.Operand.tmp 0), type := 22, pos := "law.go:32", after := #[], guard := none }) (v := ?g4rv3) rfl (by kernel_rfl) (fun _ _ _ h => h) (by assumption) (by rfl) ?g4ry3 ?g4rr3
        case g4ry3 => intro w hSw; (obtain ⟨hS0, q1, q2⟩ := hSw); (have q0 : w.cell? ⟨W0.heap.size + 1 + 1, 2, none⟩ = some (.slice aV nV cV) := hS0.cell 2); go_simp; try with_reducible rfl
        try simp only [Act.put, List.setIfInBounds_toArray, List.set_cons_zero, List.set_cons_succ]
        refine Go.Shr.wpAnyF_take 3 (oi := { dst := some 30, op := Go.Op.move (Go.Operand.tmp 7), type := 3, pos := "law.go:32", after := #[], guard := none }) (v := ?g4rv4) rfl (by kernel_rfl) (fun _ _ _ h => h) (by assumption) (by rfl) ?g4ry4 ?g4rr4
        case g4ry4 => intro w hSw; (obtain ⟨hS0, q1, q2⟩ := hSw); (have q0 : w.cell? ⟨W0.heap.size + 1 + 1, 2, none⟩ = some (.slice aV nV cV) := hS0.cell 2); go_simp; try with_reducible rfl
        try simp only [Act.put, List.setIfInBounds_toArray, List.set_cons_zero, List.set_cons_succ]
        refine Go.Shr.wpAnyF_take 4 (oi := { dst := some 31, op := Go.Op.indexAddr 22 (Go.Operand.tmp 29) (Go.Operand.tmp 30), type := 0, pos := "law.go:32", after := #[{ on := 2, ground := Go.Ground.data }, { on := 3, ground := Go.Ground.data }], guard := none }) (v := ?g4rv5) rfl (by kernel_rfl) (fun _ _ _ h => h) (by assumption) (by rfl) ?g4ry5 ?g4rr5
        case g4ry5 => intro w hSw; (obtain ⟨hS0, q1, q2⟩ := hSw); (have q0 : w.cell? ⟨W0.heap.size + 1 + 1, 2, none⟩ = some (.slice aV nV cV) := hS0.cell 2); go_simp; try with_reducible rfl
        try simp only [Act.put, List.setIfInBounds_toArray, List.set_cons_zero, List.set_cons_succ]
        refine Go.Shr.wpAnyF_take 5 (oi := { dst := some 32, op := Go.Op.load 35 (Go.Operand.tmp 31), type := 35, pos := "law.go:32", after := #[{ on := 4, ground := Go.Ground.data }], guard := none }) (v := ?g4rv6) rfl (by kernel_rfl) (fun _ _ _ h => h) (by assumption) (by rfl) ?g4ry6 ?g4rr6
        case g4ry6 => intro w hSw; (obtain ⟨hS0, q1, q2⟩ := hSw); (have q0 : w.cell? ⟨W0.heap.size + 1 + 1, 2, none⟩ = some (.slice aV nV cV) := hS0.cell 2); go_simp; try with_reducible rfl
        try simp only [Act.put, List.setIfInBounds_toArray, List.set_cons_zero, List.set_cons_succ]
        refine Go.Shr.wpAnyF_ready [6] (by kernel_rfl) (by simp) ?_
        refine Go.Shr.AllReadyF.cons 6 (o := { dst := some 33, op := Go.Op.buildSlice 22 1 #[(0, Go.Operand.tmp 32)], type := 22, pos := "law.go:32", after := #[{ on := 5, ground := Go.Ground.data }], guard := none }) rfl (fun K hK => ?g4ro7) ?g4rm7
        case g4rm7 => exact Go.Shr.AllReadyF.nil
        go_simp
        refine hK.out _ _ ?g4rs7 (fun hHeld => ?g4rt7)
        case g4rs7 => (try dsimp only); (first | exact ⟨HI.out.r2.drew, e1, e2⟩ | exact ⟨hHeld.1.alloc _, Chg.keep ((Chg.refl (fun _ => False) _).alloc _) hHeld.2.1 id, Chg.keep ((Chg.refl (fun _ => False) _).alloc _) hHeld.2.2 id⟩ | exact ⟨hHeld.1.chg hc3 (by rintro ⟨_, h, _⟩; omega), Chg.keep hc3 hHeld.2.1 (by rintro ⟨_, h, _⟩; omega), Chg.keep hc3 hHeld.2.2 (by rintro ⟨_, h, _⟩; omega)⟩)
        try dsimp only at hHeld
        clear hK K
        try simp only [Act.put, List.setIfInBounds_toArray, List.set_cons_zero, List.set_cons_succ]
        refine Go.Shr.wpAnyF_ready [7] (by kernel_rfl) (by simp) ?_
        refine Go.Shr.AllReadyF.cons 7 (o := { dst := some 34, op := Go.Op.call { callee := Go.Callee.builtin Go.Builtin.append, args := #[Go.Operand.tmp 28, Go.Operand.tmp 33], argTypes := #[22, 22] }, type := 22, pos := "law.go:32", after := #[{ on := 1, ground := Go.Ground.data }, { on := 6, ground := Go.Ground.data }], guard := none }) rfl (fun K hK => ?g4ro8) ?g4rm8
        case g4rm8 => exact Go.Shr.AllReadyF.nil
        (refine step_append (B := W0.heap.size + 1 + 1 + 1) rfl _ _ _ _ rfl iv (.agg #[.int .i64 0, .string ByteArray.empty]) 24 Try.underlying22 hiv hz0v hz1v hz2v rfl rfl (HI.out.oV.drew.alloc _) _ rfl _ _ (src_rw (e' := 35) Try.underlying22 (cur := #[.int .i64 l[j].n, .string l[j].s]) (t := 35) (by refine Rw.new' ?_; simp) 1 2 (by rfl) (by simp [Value.oneCell'])) (by simp only [maxLen]; omega) (by omega) (by first | omega | (simp; omega) | simp) ?_; intro a3 cap3 w3 ho3 hc3 hn3)
        refine hK.out _ _ ?g4rs8 (fun hHeld => ?g4rt8)
        case g4rs8 => (try dsimp only); (first | exact ⟨HI.out.r2.drew, e1, e2⟩ | exact ⟨hHeld.1.alloc _, Chg.keep ((Chg.refl (fun _ => False) _).alloc _) hHeld.2.1 id, Chg.keep ((Chg.refl (fun _ => False) _).alloc _) hHeld.2.2 id⟩ | exact ⟨hHeld.1.chg hc3 (by rintro ⟨_, h, _⟩; omega), Chg.keep hc3 hHeld.2.1 (by rintro ⟨_, h, _⟩; omega), Chg.keep hc3 hHeld.2.2 (by rintro ⟨_, h, _⟩; omega)⟩)
        try dsimp only at hHeld
        clear hK K
        try simp only [Act.put, List.setIfInBounds_toArray, List.set_cons_zero, List.set_cons_succ]
        refine Go.Shr.wpAnyF_take 8 (oi := { dst := some 35, op := Go.Op.fieldAddr 31 (Go.Operand.tmp 6) 2, type := 0, pos := "law.go:32", after := #[{ on := 0, ground := Go.Ground.phase }, { on := 1, ground := Go.Ground.phase }, { on := 2, ground := Go.Ground.phase }, { on := 3, ground := Go.Ground.phase }, { on := 4, ground := Go.Ground.phase }, { on := 5, ground := Go.Ground.phase }, { on := 6, ground := Go.Ground.phase }, { on := 7, ground := Go.Ground.phase }], guard := none }) (v := ?g4rv9) rfl (by kernel_rfl) (fun _ _ _ h => h) (by assumption) (by rfl) ?g4ry9 ?g4rr9
        case g4ry9 => intro w hSw; (obtain ⟨hS0, q1, q2⟩ := hSw); (have q0 : w.cell? ⟨W0.heap.size + 1 + 1, 2, none⟩ = some (.slice aV nV cV) := hS0.cell 2); go_simp; try with_reducible rfl
        try simp only [Act.put, List.setIfInBounds_toArray, List.set_cons_zero, List.set_cons_succ]
        refine Go.Shr.wpAnyF_ready [9] (by kernel_rfl) (by simp) ?_
        refine Go.Shr.AllReadyF.last 9 (o := { dst := none, op := Go.Op.store 22 (Go.Operand.tmp 35) (Go.Operand.tmp 34), type := 0, pos := "law.go:32", after := #[{ on := 8, ground := Go.Ground.data }, { on := 7, ground := Go.Ground.data }, { on := 7, ground := Go.Ground.chain }, { on := 0, ground := Go.Ground.phase }, { on := 1, ground := Go.Ground.phase }, { on := 2, ground := Go.Ground.phase }, { on := 3, ground := Go.Ground.phase }, { on := 4, ground := Go.Ground.phase }, { on := 5, ground := Go.Ground.phase }, { on := 6, ground := Go.Ground.phase }, { on := 7, ground := Go.Ground.phase }], guard := none }) rfl (by kernel_rfl) (fun K hK => ?g4ro10) ?g4rm10
        case g4rm10 => exact Go.Shr.AllReadyF.nil
        (have q0 : w3.cell? ⟨W0.heap.size + 1 + 1, 2, none⟩ = some (.slice aV nV cV) := hHeld.1.cell 2); (have q1 := hHeld.1.frozen); (have hsw3 := hHeld.1.lt); go_simp
        refine hK.out _ _ ?_
        clear hK K
        try simp only [Act.put, List.setIfInBounds_toArray, List.set_cons_zero, List.set_cons_succ]
        refine Go.Shr.wpAnyF_done (by kernel_rfl) ?_
        obtain ⟨wz, hwz, aZ, nZ, cZ, hnZ, KI, KB⟩ : ∃ wz, (w3.setCell ⟨W0.heap.size + 1 + 1, 2, none⟩ (.slice a3 (nV + 1) cap3)) = wz ∧ ∃ aZ nZ cZ, nZ ≤ 61 ∧ Hid (ColI W0.heap.size wz j aR cR aD cD aZ nZ cZ xR (lvB (l.take j) bs) (filtB (l.take (j + 1)) bs)) ∧ Hid (Below W0.heap.size W0 wz) :=
          ⟨_, rfl, a3, nV + 1, cap3, by omega, Lib.hid (by rw [HF.out]; exact HI.out.pushV (x := l[j]) ((Below.refl _ _).drew.alloc (by simp) _) hc3 ho3 hn3), Lib.hid ((Chg.bt (ba hb.drew _) hc3 (fun i hi h => by omega)).setCell (by simp; omega) _)⟩
        rw [hwz]
        clear hwz ho3 hc3 hn3
        go_wp2_with fail
        clear hnV
        have hsz2 := KB.out.size
        have hr3 := KI.out.r2.lt
        refine Go.Shr.wp_region_F (fun w' => Rw w' (W0.heap.size + 1 + 1) #[.slice aR j cR, .slice aD j cD, .slice aZ nZ cZ] 31) [10, 11, 12] (by kernel_rfl) ?g5rgS (fun hHeld => ?g5rgR)
        case g5rgS => (try dsimp only); (first | exact KI.out.r2.drew | exact hHeld.alloc _ | exact hHeld.chg hc8 (by rintro ⟨_, h, _⟩; omega) | exact hHeld.chg hc5 (by rintro ⟨_, h, _⟩; omega))
        try dsimp only at hHeld
        refine Go.Shr.wpAnyF_take 0 (oi := { dst := some 36, op := Go.Op.fieldAddr 31 (Go.Operand.tmp 6) 0, type := 0, pos := "law.go:34", after := #[], guard := none }) (v := ?g5rv1) rfl (by kernel_rfl) (fun _ _ _ h => h) (by assumption) (by rfl) ?g5ry1 ?g5rr1
        case g5ry1 => intro w hSw; (have q0 : w.cell? ⟨W0.heap.size + 1 + 1, 0, none⟩ = some (.slice aR j cR) := hSw.cell 0); (have q1 : w.cell? ⟨W0.heap.size + 1 + 1, 1, none⟩ = some (.slice aD j cD) := hSw.cell 1); go_simp; try with_reducible rfl
        try simp only [Act.put, List.setIfInBounds_toArray, List.set_cons_zero, List.set_cons_succ]
        refine Go.Shr.wpAnyF_take 1 (oi := { dst := some 37, op := Go.Op.load 29 (Go.Operand.tmp 36), type := 29, pos := "law.go:34", after := #[{ on := 0, ground := Go.Ground.data }], guard := none }) (v := ?g5rv2) rfl (by kernel_rfl) (fun _ _ _ h => h) (by assumption) (by rfl) ?g5ry2 ?g5rr2
        case g5ry2 => intro w hSw; (have q0 : w.cell? ⟨W0.heap.size + 1 + 1, 0, none⟩ = some (.slice aR j cR) := hSw.cell 0); (have q1 : w.cell? ⟨W0.heap.size + 1 + 1, 1, none⟩ = some (.slice aD j cD) := hSw.cell 1); go_simp; try with_reducible rfl
        try simp only [Act.put, List.setIfInBounds_toArray, List.set_cons_zero, List.set_cons_succ]
        refine Go.Shr.wpAnyF_take 4 (oi := { dst := some 40, op := Go.Op.fieldAddr 31 (Go.Operand.tmp 6) 1, type := 0, pos := "law.go:34", after := #[], guard := none }) (v := ?g5rv3) rfl (by kernel_rfl) (fun _ _ _ h => h) (by assumption) (by rfl) ?g5ry3 ?g5rr3
        case g5ry3 => intro w hSw; (have q0 : w.cell? ⟨W0.heap.size + 1 + 1, 0, none⟩ = some (.slice aR j cR) := hSw.cell 0); (have q1 : w.cell? ⟨W0.heap.size + 1 + 1, 1, none⟩ = some (.slice aD j cD) := hSw.cell 1); go_simp; try with_reducible rfl
        try simp only [Act.put, List.setIfInBounds_toArray, List.set_cons_zero, List.set_cons_succ]
        refine Go.Shr.wpAnyF_take 5 (oi := { dst := some 41, op := Go.Op.load 29 (Go.Operand.tmp 40), type := 29, pos := "law.go:34", after := #[{ on := 4, ground := Go.Ground.data }], guard := none }) (v := ?g5rv4) rfl (by kernel_rfl) (fun _ _ _ h => h) (by assumption) (by rfl) ?g5ry4 ?g5rr4
        case g5ry4 => intro w hSw; (have q0 : w.cell? ⟨W0.heap.size + 1 + 1, 0, none⟩ = some (.slice aR j cR) := hSw.cell 0); (have q1 : w.cell? ⟨W0.heap.size + 1 + 1, 1, none⟩ = some (.slice aD j cD) := hSw.cell 1); go_simp; try with_reducible rfl
        try simp only [Act.put, List.setIfInBounds_toArray, List.set_cons_zero, List.set_cons_succ]
        refine Go.Shr.wpAnyF_take 6 (oi := { dst := some 42, op := Go.Op.move (Go.Operand.tmp 8), type := 3, pos := "law.go:34", after := #[], guard := none }) (v := ?g5rv5) rfl (by kernel_rfl) (fun _ _ _ h => h) (by assumption) (by rfl) ?g5ry5 ?g5rr5
        case g5ry5 => intro w hSw; (have q0 : w.cell? ⟨W0.heap.size + 1 + 1, 0, none⟩ = some (.slice aR j cR) := hSw.cell 0); (have q1 : w.cell? ⟨W0.heap.size + 1 + 1, 1, none⟩ = some (.slice aD j cD) := hSw.cell 1); go_simp; try with_reducible rfl
        try simp only [Act.put, List.setIfInBounds_toArray, List.set_cons_zero, List.set_cons_succ]
        refine Go.Shr.wpAnyF_ready [2, 7] (by kernel_rfl) (by simp) ?_
        refine Go.Shr.AllReadyF.cons 2 (o := { dst := some 38, op := Go.Op.buildSlice 29 1 #[(0, Go.Operand.const (Go.Value.int Go.IntKind.i64 0))], type := 29, pos := "law.go:34", after := #[], guard := none }) rfl (fun K hK => ?g5ro6) ?g5rm6
        case g5ro6 =>
          go_simp
          refine hK.out _ _ ?g5rs6 (fun hHeld => ?g5rt6)
          case g5rs6 => (try dsimp only); (first | exact KI.out.r2.drew | exact hHeld.alloc _ | exact hHeld.chg hc8 (by rintro ⟨_, h, _⟩; omega) | exact hHeld.chg hc5 (by rintro ⟨_, h, _⟩; omega))
          try dsimp only at hHeld
          clear hK K
          try simp only [Act.put, List.setIfInBounds_toArray, List.set_cons_zero, List.set_cons_succ]
          refine Go.Shr.wpAnyF_ready [3, 7] (by kernel_rfl) (by simp) ?_
          refine Go.Shr.AllReadyF.cons 3 (o := { dst := some 39, op := Go.Op.call { callee := Go.Callee.builtin Go.Builtin.append, args := #[Go.Operand.tmp 37, Go.Operand.tmp 38], argTypes := #[29, 29] }, type := 29, pos := "law.go:34", after := #[{ on := 1, ground := Go.Ground.data }, { on := 2, ground := Go.Ground.data }], guard := none }) rfl (fun K hK => ?g5ro7) ?g5rm7
          case g5ro7 =>
            (refine step_append (B := W0.heap.size + 1 + 1 + 1) rfl _ _ _ _ rfl ii (.int .i64 0) 8 Try.underlying29 hii hz0i hz1i hz2i rfl rfl ((by first | with_reducible exact (KI.out.oR.alloc _).drew | with_reducible exact ((KI.out.oR.alloc _).alloc _).drew)) _ rfl _ _ (src_rw (e' := 3) Try.underlying29 (cur := #[.int .i64 0]) (t := 3) (by repeat (first | (refine Rw.new' ?_; simp; done) | with_reducible refine Rw.alloc ?_ _ | with_reducible refine Rw.drew ?_)) 1 1 (by rfl) (by simp [Value.oneCell'])) (by simp only [maxLen]; omega) (by omega) (by first | omega | (simp; omega) | simp) ?_; intro a5 cap5 w5 ho5 hc5 hn5); (have hc5s := hc5.size); (simp only [World.size_alloc, World.size_drew] at hc5s)
            refine hK.out _ _ ?g5rs7 (fun hHeld => ?g5rt7)
            case g5rs7 => (try dsimp only); (first | exact KI.out.r2.drew | exact hHeld.alloc _ | exact hHeld.chg hc8 (by rintro ⟨_, h, _⟩; omega) | exact hHeld.chg hc5 (by rintro ⟨_, h, _⟩; omega))
            try dsimp only at hHeld
            clear hK K
            try simp only [Act.put, List.setIfInBounds_toArray, List.set_cons_zero, List.set_cons_succ]
            refine Go.Shr.wpAnyF_take 9 (oi := { dst := some 45, op := Go.Op.fieldAddr 31 (Go.Operand.tmp 6) 0, type := 0, pos := "law.go:34", after := #[{ on := 0, ground := Go.Ground.phase }, { on := 1, ground := Go.Ground.phase }, { on := 2, ground := Go.Ground.phase }, { on := 3, ground := Go.Ground.phase }, { on := 4, ground := Go.Ground.phase }, { on := 5, ground := Go.Ground.phase }, { on := 6, ground := Go.Ground.textOnly Go.Departure.lateStores }, { on := 7, ground := Go.Ground.textOnly Go.Departure.lateStores }, { on := 8, ground := Go.Ground.textOnly Go.Departure.lateStoresUnsure }], guard := none }) (v := ?g5rv8) rfl (by kernel_rfl) (fun _ _ _ h => h) (by assumption) (by rfl) ?g5ry8 ?g5rr8
            case g5ry8 => intro w hSw; (have q0 : w.cell? ⟨W0.heap.size + 1 + 1, 0, none⟩ = some (.slice aR j cR) := hSw.cell 0); (have q1 : w.cell? ⟨W0.heap.size + 1 + 1, 1, none⟩ = some (.slice aD j cD) := hSw.cell 1); go_simp; try with_reducible rfl
            try simp only [Act.put, List.setIfInBounds_toArray, List.set_cons_zero, List.set_cons_succ]
            refine Go.Shr.wpAnyF_ready [7] (by kernel_rfl) (by simp) ?_
            refine Go.Shr.AllReadyF.cons 7 (o := { dst := some 43, op := Go.Op.buildSlice 29 1 #[(0, Go.Operand.tmp 42)], type := 29, pos := "law.go:34", after := #[{ on := 6, ground := Go.Ground.data }], guard := none }) rfl (fun K hK => ?g5ro9) ?g5rm9
            case g5rm9 => exact Go.Shr.AllReadyF.nil
            go_simp
            refine hK.out _ _ ?g5rs9 (fun hHeld => ?g5rt9)
            case g5rs9 => (try dsimp only); (first | exact KI.out.r2.drew | exact hHeld.alloc _ | exact hHeld.chg hc8 (by rintro ⟨_, h, _⟩; omega) | exact hHeld.chg hc5 (by rintro ⟨_, h, _⟩; omega))
            try dsimp only at hHeld
            clear hK K
            try simp only [Act.put, List.setIfInBounds_toArray, List.set_cons_zero, List.set_cons_succ]
            refine Go.Shr.wpAnyF_ready [8] (by kernel_rfl) (by simp) ?_
            refine Go.Shr.AllReadyF.cons 8 (o := { dst := some 44, op := Go.Op.call { callee := Go.Callee.builtin Go.Builtin.append, args := #[Go.Operand.tmp 41, Go.Operand.tmp 43], argTypes := #[29, 29] }, type := 29, pos := "law.go:34", after := #[{ on := 5, ground := Go.Ground.data }, { on := 7, ground := Go.Ground.data }, { on := 3, ground := Go.Ground.chain }], guard := none }) rfl (fun K hK => ?g5ro10) ?g5rm10
            case g5rm10 => exact Go.Shr.AllReadyF.nil
            (have HRW5 : ∀ {b : Nat} {cur : Array Value} {t : TypeId}, Rw _ b cur t → wz.heap.size ≤ b → Rw w5 b cur t := fun h hb => h.chg hc5 (by rintro ⟨h1, _⟩; have := KI.out.bR _ h1; omega)); (have hD5 : Own (W0.heap.size + 1 + 1 + 1) w5 3 1 aD j cD (ints (lvB (l.take j) bs)) := Own.chg (by first | with_reducible exact (KI.out.oD.alloc _).drew | with_reducible exact ((KI.out.oD.alloc _).alloc _).drew) hc5 (fun k h1 h2 => KI.out.dRD k h2.1 h1)); (refine step_append (B := W0.heap.size + 1 + 1 + 1) rfl _ _ _ _ rfl ii (.int .i64 0) 8 Try.underlying29 hii hz0i hz1i hz2i rfl rfl ((by first | with_reducible exact hD5 | with_reducible exact hD5.alloc _)) _ rfl _ _ (src_rw (e' := 3) Try.underlying29 (cur := #[.int .i64 _]) (t := 3) (by first | (repeat (first | (refine Rw.new' ?_; simp; done) | with_reducible refine Rw.alloc ?_ _ | with_reducible refine Rw.drew ?_)); done | (refine HRW5 ?_ (by simp <;> omega); repeat (first | (refine Rw.new' ?_; simp; done) | with_reducible refine Rw.alloc ?_ _ | with_reducible refine Rw.drew ?_))) 1 1 (by rfl) (by simp [Value.oneCell'])) (by simp only [maxLen]; omega) (by omega) (by first | omega | (simp; omega) | simp) ?_; intro a8 cap8 w8 ho8 hc8 hn8)
            refine hK.out _ _ ?g5rs10 (fun hHeld => ?g5rt10)
            case g5rs10 => (try dsimp only); (first | exact KI.out.r2.drew | exact hHeld.alloc _ | exact hHeld.chg hc8 (by rintro ⟨_, h, _⟩; omega) | exact hHeld.chg hc5 (by rintro ⟨_, h, _⟩; omega))
            try dsimp only at hHeld
            clear hK K
            try simp only [Act.put, List.setIfInBounds_toArray, List.set_cons_zero, List.set_cons_succ]
            refine Go.Shr.wpAnyF_ready [10] (by kernel_rfl) (by simp) ?_
            refine Go.Shr.AllReadyF.last 10 (o := { dst := none, op := Go.Op.store 29 (Go.Operand.tmp 45) (Go.Operand.tmp 39), type := 0, pos := "law.go:34", after := #[{ on := 9, ground := Go.Ground.data }, { on := 3, ground := Go.Ground.data }, { on := 8, ground := Go.Ground.chain }, { on := 0, ground := Go.Ground.phase }, { on := 1, ground := Go.Ground.phase }, { on := 2, ground := Go.Ground.phase }, { on := 3, ground := Go.Ground.phase }, { on := 4, ground := Go.Ground.phase }, { on := 5, ground := Go.Ground.phase }, { on := 6, ground := Go.Ground.textOnly Go.Departure.lateStores }, { on := 7, ground := Go.Ground.textOnly Go.Departure.lateStores }, { on := 8, ground := Go.Ground.textOnly Go.Departure.lateStoresUnsure }], guard := none }) rfl (by kernel_rfl) (fun K hK => ?g5ro11) ?g5rm11
            case g5rm11 => exact Go.Shr.AllReadyF.nil
            (have q0 : w8.cell? ⟨W0.heap.size + 1 + 1, 0, none⟩ = some (.slice aR j cR) := hHeld.cell 0); (have q1 : w8.cell? ⟨W0.heap.size + 1 + 1, 1, none⟩ = some (.slice aD j cD) := hHeld.cell 1); (have q2 := hHeld.frozen); (have hsw8 := hHeld.lt); go_simp
            refine hK.out _ _ ?_
            clear hK K
            try simp only [Act.put, List.setIfInBounds_toArray, List.set_cons_zero, List.set_cons_succ]
            refine Go.Shr.wpAnyF_ready [11] (by kernel_rfl) (by simp) ?_
            refine Go.Shr.AllReadyF.last 11 (o := { dst := some 46, op := Go.Op.fieldAddr 31 (Go.Operand.tmp 6) 1, type := 0, pos := "law.go:34", after := #[{ on := 0, ground := Go.Ground.phase }, { on := 1, ground := Go.Ground.phase }, { on := 2, ground := Go.Ground.phase }, { on := 3, ground := Go.Ground.phase }, { on := 4, ground := Go.Ground.phase }, { on := 5, ground := Go.Ground.phase }, { on := 6, ground := Go.Ground.phase }, { on := 7, ground := Go.Ground.phase }, { on := 8, ground := Go.Ground.phase }, { on := 9, ground := Go.Ground.phase }, { on := 10, ground := Go.Ground.phase }], guard := none }) rfl (by kernel_rfl) (fun K hK => ?g5ro12) ?g5rm12
            case g5rm12 => exact Go.Shr.AllReadyF.nil
            go_simp
            refine hK.out _ _ ?_
            clear hK K
            try simp only [Act.put, List.setIfInBounds_toArray, List.set_cons_zero, List.set_cons_succ]
            refine Go.Shr.wpAnyF_ready [12] (by kernel_rfl) (by simp) ?_
            refine Go.Shr.AllReadyF.last 12 (o := { dst := none, op := Go.Op.store 29 (Go.Operand.tmp 46) (Go.Operand.tmp 44), type := 0, pos := "law.go:34", after := #[{ on := 11, ground := Go.Ground.data }, { on := 8, ground := Go.Ground.data }, { on := 10, ground := Go.Ground.chain }, { on := 0, ground := Go.Ground.phase }, { on := 1, ground := Go.Ground.phase }, { on := 2, ground := Go.Ground.phase }, { on := 3, ground := Go.Ground.phase }, { on := 4, ground := Go.Ground.phase }, { on := 5, ground := Go.Ground.phase }, { on := 6, ground := Go.Ground.phase }, { on := 7, ground := Go.Ground.phase }, { on := 8, ground := Go.Ground.phase }, { on := 9, ground := Go.Ground.phase }, { on := 10, ground := Go.Ground.phase }], guard := none }) rfl (by kernel_rfl) (fun K hK => ?g5ro13) ?g5rm13
            case g5rm13 => exact Go.Shr.AllReadyF.nil
            go_simp
            refine hK.out _ _ ?_
            clear hK K
            try simp only [Act.put, List.setIfInBounds_toArray, List.set_cons_zero, List.set_cons_succ]
            refine Go.Shr.wpAnyF_done (by kernel_rfl) ?_
            go_wp2_with fail
            have hB5 : Below W0.heap.size W0 w5 := Chg.bt (by first | with_reducible exact (ba KB.out _).drew | with_reducible exact (ba (ba KB.out _) _).drew) hc5 (fun i hi h => by omega)
            have hB8 : Below W0.heap.size W0 w8 := Chg.bt (by first | with_reducible exact hB5 | with_reducible exact ba hB5 _) hc8 (fun i hi h => by omega)
            go_roundw
            case rel =>
              refine ⟨j + 1, a5, a8, aZ, cap5, cap8, nZ, cZ, _, by go_num, by omega, Lib.hid (by
                rw [HLV.out]
                exact KI.out.pushRD (by first | with_reducible exact (ba (Below.refl _ _) _).drew | with_reducible exact (ba (ba (Below.refl _ _) _) _).drew) hc5 ho5 hn5 (by first | with_reducible exact Below.refl _ _ | with_reducible exact ba (Below.refl _ _) _) hc8 ho8 hn8), ?_⟩
              exact (hB8.setCell (by simp; omega) _).setCell (by simp; omega) _
            case measure => simp [intOf]; omega
          case g5rm7 =>
          refine Go.Shr.AllReadyF.cons 7 (o := { dst := some 43, op := Go.Op.buildSlice 29 1 #[(0, Go.Operand.tmp 42)], type := 29, pos := "law.go:34", after := #[{ on := 6, ground := Go.Ground.data }], guard := none }) rfl (fun K hK => ?g5ro14) ?g5rm14
          case g5ro14 =>
            go_simp
            refine hK.out _ _ ?g5rs14 (fun hHeld => ?g5rt14)
            case g5rs14 => (try dsimp only); (first | exact KI.out.r2.drew | exact hHeld.alloc _ | exact hHeld.chg hc8 (by rintro ⟨_, h, _⟩; omega) | exact hHeld.chg hc5 (by rintro ⟨_, h, _⟩; omega))
            try dsimp only at hHeld
            clear hK K
            try simp only [Act.put, List.setIfInBounds_toArray, List.set_cons_zero, List.set_cons_succ]
            refine Go.Shr.wpAnyF_ready [3] (by kernel_rfl) (by simp) ?_
            refine Go.Shr.AllReadyF.cons 3 (o := { dst := some 39, op := Go.Op.call { callee := Go.Callee.builtin Go.Builtin.append, args := #[Go.Operand.tmp 37, Go.Operand.tmp 38], argTypes := #[29, 29] }, type := 29, pos := "law.go:34", after := #[{ on := 1, ground := Go.Ground.data }, { on := 2, ground := Go.Ground.data }], guard := none }) rfl (fun K hK => ?g5ro15) ?g5rm15
            case g5rm15 => exact Go.Shr.AllReadyF.nil
            (refine step_append (B := W0.heap.size + 1 + 1 + 1) rfl _ _ _ _ rfl ii (.int .i64 0) 8 Try.underlying29 hii hz0i hz1i hz2i rfl rfl ((by first | with_reducible exact (KI.out.oR.alloc _).drew | with_reducible exact ((KI.out.oR.alloc _).alloc _).drew)) _ rfl _ _ (src_rw (e' := 3) Try.underlying29 (cur := #[.int .i64 0]) (t := 3) (by repeat (first | (refine Rw.new' ?_; simp; done) | with_reducible refine Rw.alloc ?_ _ | with_reducible refine Rw.drew ?_)) 1 1 (by rfl) (by simp [Value.oneCell'])) (by simp only [maxLen]; omega) (by omega) (by first | omega | (simp; omega) | simp) ?_; intro a5 cap5 w5 ho5 hc5 hn5); (have hc5s := hc5.size); (simp only [World.size_alloc, World.size_drew] at hc5s)
            refine hK.out _ _ ?g5rs15 (fun hHeld => ?g5rt15)
            case g5rs15 => (try dsimp only); (first | exact KI.out.r2.drew | exact hHeld.alloc _ | exact hHeld.chg hc8 (by rintro ⟨_, h, _⟩; omega) | exact hHeld.chg hc5 (by rintro ⟨_, h, _⟩; omega))
            try dsimp only at hHeld
            clear hK K
            try simp only [Act.put, List.setIfInBounds_toArray, List.set_cons_zero, List.set_cons_succ]
            refine Go.Shr.wpAnyF_take 9 (oi := { dst := some 45, op := Go.Op.fieldAddr 31 (Go.Operand.tmp 6) 0, type := 0, pos := "law.go:34", after := #[{ on := 0, ground := Go.Ground.phase }, { on := 1, ground := Go.Ground.phase }, { on := 2, ground := Go.Ground.phase }, { on := 3, ground := Go.Ground.phase }, { on := 4, ground := Go.Ground.phase }, { on := 5, ground := Go.Ground.phase }, { on := 6, ground := Go.Ground.textOnly Go.Departure.lateStores }, { on := 7, ground := Go.Ground.textOnly Go.Departure.lateStores }, { on := 8, ground := Go.Ground.textOnly Go.Departure.lateStoresUnsure }], guard := none }) (v := ?g5rv16) rfl (by kernel_rfl) (fun _ _ _ h => h) (by assumption) (by rfl) ?g5ry16 ?g5rr16
            case g5ry16 => intro w hSw; (have q0 : w.cell? ⟨W0.heap.size + 1 + 1, 0, none⟩ = some (.slice aR j cR) := hSw.cell 0); (have q1 : w.cell? ⟨W0.heap.size + 1 + 1, 1, none⟩ = some (.slice aD j cD) := hSw.cell 1); go_simp; try with_reducible rfl
            try simp only [Act.put, List.setIfInBounds_toArray, List.set_cons_zero, List.set_cons_succ]
            refine Go.Shr.wpAnyF_ready [8] (by kernel_rfl) (by simp) ?_
            refine Go.Shr.AllReadyF.cons 8 (o := { dst := some 44, op := Go.Op.call { callee := Go.Callee.builtin Go.Builtin.append, args := #[Go.Operand.tmp 41, Go.Operand.tmp 43], argTypes := #[29, 29] }, type := 29, pos := "law.go:34", after := #[{ on := 5, ground := Go.Ground.data }, { on := 7, ground := Go.Ground.data }, { on := 3, ground := Go.Ground.chain }], guard := none }) rfl (fun K hK => ?g5ro17) ?g5rm17
            case g5rm17 => exact Go.Shr.AllReadyF.nil
            (have HRW5 : ∀ {b : Nat} {cur : Array Value} {t : TypeId}, Rw _ b cur t → wz.heap.size ≤ b → Rw w5 b cur t := fun h hb => h.chg hc5 (by rintro ⟨h1, _⟩; have := KI.out.bR _ h1; omega)); (have hD5 : Own (W0.heap.size + 1 + 1 + 1) w5 3 1 aD j cD (ints (lvB (l.take j) bs)) := Own.chg (by first | with_reducible exact (KI.out.oD.alloc _).drew | with_reducible exact ((KI.out.oD.alloc _).alloc _).drew) hc5 (fun k h1 h2 => KI.out.dRD k h2.1 h1)); (refine step_append (B := W0.heap.size + 1 + 1 + 1) rfl _ _ _ _ rfl ii (.int .i64 0) 8 Try.underlying29 hii hz0i hz1i hz2i rfl rfl ((by first | with_reducible exact hD5 | with_reducible exact hD5.alloc _)) _ rfl _ _ (src_rw (e' := 3) Try.underlying29 (cur := #[.int .i64 _]) (t := 3) (by first | (repeat (first | (refine Rw.new' ?_; simp; done) | with_reducible refine Rw.alloc ?_ _ | with_reducible refine Rw.drew ?_)); done | (refine HRW5 ?_ (by simp <;> omega); repeat (first | (refine Rw.new' ?_; simp; done) | with_reducible refine Rw.alloc ?_ _ | with_reducible refine Rw.drew ?_))) 1 1 (by rfl) (by simp [Value.oneCell'])) (by simp only [maxLen]; omega) (by omega) (by first | omega | (simp; omega) | simp) ?_; intro a8 cap8 w8 ho8 hc8 hn8)
            refine hK.out _ _ ?g5rs17 (fun hHeld => ?g5rt17)
            case g5rs17 => (try dsimp only); (first | exact KI.out.r2.drew | exact hHeld.alloc _ | exact hHeld.chg hc8 (by rintro ⟨_, h, _⟩; omega) | exact hHeld.chg hc5 (by rintro ⟨_, h, _⟩; omega))
            try dsimp only at hHeld
            clear hK K
            try simp only [Act.put, List.setIfInBounds_toArray, List.set_cons_zero, List.set_cons_succ]
            refine Go.Shr.wpAnyF_ready [10] (by kernel_rfl) (by simp) ?_
            refine Go.Shr.AllReadyF.last 10 (o := { dst := none, op := Go.Op.store 29 (Go.Operand.tmp 45) (Go.Operand.tmp 39), type := 0, pos := "law.go:34", after := #[{ on := 9, ground := Go.Ground.data }, { on := 3, ground := Go.Ground.data }, { on := 8, ground := Go.Ground.chain }, { on := 0, ground := Go.Ground.phase }, { on := 1, ground := Go.Ground.phase }, { on := 2, ground := Go.Ground.phase }, { on := 3, ground := Go.Ground.phase }, { on := 4, ground := Go.Ground.phase }, { on := 5, ground := Go.Ground.phase }, { on := 6, ground := Go.Ground.textOnly Go.Departure.lateStores }, { on := 7, ground := Go.Ground.textOnly Go.Departure.lateStores }, { on := 8, ground := Go.Ground.textOnly Go.Departure.lateStoresUnsure }], guard := none }) rfl (by kernel_rfl) (fun K hK => ?g5ro18) ?g5rm18
            case g5rm18 => exact Go.Shr.AllReadyF.nil
            (have q0 : w8.cell? ⟨W0.heap.size + 1 + 1, 0, none⟩ = some (.slice aR j cR) := hHeld.cell 0); (have q1 : w8.cell? ⟨W0.heap.size + 1 + 1, 1, none⟩ = some (.slice aD j cD) := hHeld.cell 1); (have q2 := hHeld.frozen); (have hsw8 := hHeld.lt); go_simp
            refine hK.out _ _ ?_
            clear hK K
            try simp only [Act.put, List.setIfInBounds_toArray, List.set_cons_zero, List.set_cons_succ]
            refine Go.Shr.wpAnyF_ready [11] (by kernel_rfl) (by simp) ?_
            refine Go.Shr.AllReadyF.last 11 (o := { dst := some 46, op := Go.Op.fieldAddr 31 (Go.Operand.tmp 6) 1, type := 0, pos := "law.go:34", after := #[{ on := 0, ground := Go.Ground.phase }, { on := 1, ground := Go.Ground.phase }, { on := 2, ground := Go.Ground.phase }, { on := 3, ground := Go.Ground.phase }, { on := 4, ground := Go.Ground.phase }, { on := 5, ground := Go.Ground.phase }, { on := 6, ground := Go.Ground.phase }, { on := 7, ground := Go.Ground.phase }, { on := 8, ground := Go.Ground.phase }, { on := 9, ground := Go.Ground.phase }, { on := 10, ground := Go.Ground.phase }], guard := none }) rfl (by kernel_rfl) (fun K hK => ?g5ro19) ?g5rm19
            case g5rm19 => exact Go.Shr.AllReadyF.nil
            go_simp
            refine hK.out _ _ ?_
            clear hK K
            try simp only [Act.put, List.setIfInBounds_toArray, List.set_cons_zero, List.set_cons_succ]
            refine Go.Shr.wpAnyF_ready [12] (by kernel_rfl) (by simp) ?_
            refine Go.Shr.AllReadyF.last 12 (o := { dst := none, op := Go.Op.store 29 (Go.Operand.tmp 46) (Go.Operand.tmp 44), type := 0, pos := "law.go:34", after := #[{ on := 11, ground := Go.Ground.data }, { on := 8, ground := Go.Ground.data }, { on := 10, ground := Go.Ground.chain }, { on := 0, ground := Go.Ground.phase }, { on := 1, ground := Go.Ground.phase }, { on := 2, ground := Go.Ground.phase }, { on := 3, ground := Go.Ground.phase }, { on := 4, ground := Go.Ground.phase }, { on := 5, ground := Go.Ground.phase }, { on := 6, ground := Go.Ground.phase }, { on := 7, ground := Go.Ground.phase }, { on := 8, ground := Go.Ground.phase }, { on := 9, ground := Go.Ground.phase }, { on := 10, ground := Go.Ground.phase }], guard := none }) rfl (by kernel_rfl) (fun K hK => ?g5ro20) ?g5rm20
            case g5rm20 => exact Go.Shr.AllReadyF.nil
            go_simp
            refine hK.out _ _ ?_
            clear hK K
            try simp only [Act.put, List.setIfInBounds_toArray, List.set_cons_zero, List.set_cons_succ]
            refine Go.Shr.wpAnyF_done (by kernel_rfl) ?_
            go_wp2_with fail
            have hB5 : Below W0.heap.size W0 w5 := Chg.bt (by first | with_reducible exact (ba KB.out _).drew | with_reducible exact (ba (ba KB.out _) _).drew) hc5 (fun i hi h => by omega)
            have hB8 : Below W0.heap.size W0 w8 := Chg.bt (by first | with_reducible exact hB5 | with_reducible exact ba hB5 _) hc8 (fun i hi h => by omega)
            go_roundw
            case rel =>
              refine ⟨j + 1, a5, a8, aZ, cap5, cap8, nZ, cZ, _, by go_num, by omega, Lib.hid (by
                rw [HLV.out]
                exact KI.out.pushRD (by first | with_reducible exact (ba (Below.refl _ _) _).drew | with_reducible exact (ba (ba (Below.refl _ _) _) _).drew) hc5 ho5 hn5 (by first | with_reducible exact Below.refl _ _ | with_reducible exact ba (Below.refl _ _) _) hc8 ho8 hn8), ?_⟩
              exact (hB8.setCell (by simp; omega) _).setCell (by simp; omega) _
            case measure => simp [intOf]; omega
          case g5rm14 =>
          exact Go.Shr.AllReadyF.nil
        case g5rm6 =>
        refine Go.Shr.AllReadyF.cons 7 (o := { dst := some 43, op := Go.Op.buildSlice 29 1 #[(0, Go.Operand.tmp 42)], type := 29, pos := "law.go:34", after := #[{ on := 6, ground := Go.Ground.data }], guard := none }) rfl (fun K hK => ?g5ro21) ?g5rm21
        case g5ro21 =>
          go_simp
          refine hK.out _ _ ?g5rs21 (fun hHeld => ?g5rt21)
          case g5rs21 => (try dsimp only); (first | exact KI.out.r2.drew | exact hHeld.alloc _ | exact hHeld.chg hc8 (by rintro ⟨_, h, _⟩; omega) | exact hHeld.chg hc5 (by rintro ⟨_, h, _⟩; omega))
          try dsimp only at hHeld
          clear hK K
          try simp only [Act.put, List.setIfInBounds_toArray, List.set_cons_zero, List.set_cons_succ]
          refine Go.Shr.wpAnyF_ready [2] (by kernel_rfl) (by simp) ?_
          refine Go.Shr.AllReadyF.cons 2 (o := { dst := some 38, op := Go.Op.buildSlice 29 1 #[(0, Go.Operand.const (Go.Value.int Go.IntKind.i64 0))], type := 29, pos := "law.go:34", after := #[], guard := none }) rfl (fun K hK => ?g5ro22) ?g5rm22
          case g5rm22 => exact Go.Shr.AllReadyF.nil
          go_simp
          refine hK.out _ _ ?g5rs22 (fun hHeld => ?g5rt22)
          case g5rs22 => (try dsimp only); (first | exact KI.out.r2.drew | exact hHeld.alloc _ | exact hHeld.chg hc8 (by rintro ⟨_, h, _⟩; omega) | exact hHeld.chg hc5 (by rintro ⟨_, h, _⟩; omega))
          try dsimp only at hHeld
          clear hK K
          try simp only [Act.put, List.setIfInBounds_toArray, List.set_cons_zero, List.set_cons_succ]
          refine Go.Shr.wpAnyF_ready [3] (by kernel_rfl) (by simp) ?_
          refine Go.Shr.AllReadyF.cons 3 (o := { dst := some 39, op := Go.Op.call { callee := Go.Callee.builtin Go.Builtin.append, args := #[Go.Operand.tmp 37, Go.Operand.tmp 38], argTypes := #[29, 29] }, type := 29, pos := "law.go:34", after := #[{ on := 1, ground := Go.Ground.data }, { on := 2, ground := Go.Ground.data }], guard := none }) rfl (fun K hK => ?g5ro23) ?g5rm23
          case g5rm23 => exact Go.Shr.AllReadyF.nil
          (refine step_append (B := W0.heap.size + 1 + 1 + 1) rfl _ _ _ _ rfl ii (.int .i64 0) 8 Try.underlying29 hii hz0i hz1i hz2i rfl rfl ((by first | with_reducible exact (KI.out.oR.alloc _).drew | with_reducible exact ((KI.out.oR.alloc _).alloc _).drew)) _ rfl _ _ (src_rw (e' := 3) Try.underlying29 (cur := #[.int .i64 0]) (t := 3) (by repeat (first | (refine Rw.new' ?_; simp; done) | with_reducible refine Rw.alloc ?_ _ | with_reducible refine Rw.drew ?_)) 1 1 (by rfl) (by simp [Value.oneCell'])) (by simp only [maxLen]; omega) (by omega) (by first | omega | (simp; omega) | simp) ?_; intro a5 cap5 w5 ho5 hc5 hn5); (have hc5s := hc5.size); (simp only [World.size_alloc, World.size_drew] at hc5s)
          refine hK.out _ _ ?g5rs23 (fun hHeld => ?g5rt23)
          case g5rs23 => (try dsimp only); (first | exact KI.out.r2.drew | exact hHeld.alloc _ | exact hHeld.chg hc8 (by rintro ⟨_, h, _⟩; omega) | exact hHeld.chg hc5 (by rintro ⟨_, h, _⟩; omega))
          try dsimp only at hHeld
          clear hK K
          try simp only [Act.put, List.setIfInBounds_toArray, List.set_cons_zero, List.set_cons_succ]
          refine Go.Shr.wpAnyF_take 9 (oi := { dst := some 45, op := Go.Op.fieldAddr 31 (Go.Operand.tmp 6) 0, type := 0, pos := "law.go:34", after := #[{ on := 0, ground := Go.Ground.phase }, { on := 1, ground := Go.Ground.phase }, { on := 2, ground := Go.Ground.phase }, { on := 3, ground := Go.Ground.phase }, { on := 4, ground := Go.Ground.phase }, { on := 5, ground := Go.Ground.phase }, { on := 6, ground := Go.Ground.textOnly Go.Departure.lateStores }, { on := 7, ground := Go.Ground.textOnly Go.Departure.lateStores }, { on := 8, ground := Go.Ground.textOnly Go.Departure.lateStoresUnsure }], guard := none }) (v := ?g5rv24) rfl (by kernel_rfl) (fun _ _ _ h => h) (by assumption) (by rfl) ?g5ry24 ?g5rr24
          case g5ry24 => intro w hSw; (have q0 : w.cell? ⟨W0.heap.size + 1 + 1, 0, none⟩ = some (.slice aR j cR) := hSw.cell 0); (have q1 : w.cell? ⟨W0.heap.size + 1 + 1, 1, none⟩ = some (.slice aD j cD) := hSw.cell 1); go_simp; try with_reducible rfl
          try simp only [Act.put, List.setIfInBounds_toArray, List.set_cons_zero, List.set_cons_succ]
          refine Go.Shr.wpAnyF_ready [8] (by kernel_rfl) (by simp) ?_
          refine Go.Shr.AllReadyF.cons 8 (o := { dst := some 44, op := Go.Op.call { callee := Go.Callee.builtin Go.Builtin.append, args := #[Go.Operand.tmp 41, Go.Operand.tmp 43], argTypes := #[29, 29] }, type := 29, pos := "law.go:34", after := #[{ on := 5, ground := Go.Ground.data }, { on := 7, ground := Go.Ground.data }, { on := 3, ground := Go.Ground.chain }], guard := none }) rfl (fun K hK => ?g5ro25) ?g5rm25
          case g5rm25 => exact Go.Shr.AllReadyF.nil
          (have HRW5 : ∀ {b : Nat} {cur : Array Value} {t : TypeId}, Rw _ b cur t → wz.heap.size ≤ b → Rw w5 b cur t := fun h hb => h.chg hc5 (by rintro ⟨h1, _⟩; have := KI.out.bR _ h1; omega)); (have hD5 : Own (W0.heap.size + 1 + 1 + 1) w5 3 1 aD j cD (ints (lvB (l.take j) bs)) := Own.chg (by first | with_reducible exact (KI.out.oD.alloc _).drew | with_reducible exact ((KI.out.oD.alloc _).alloc _).drew) hc5 (fun k h1 h2 => KI.out.dRD k h2.1 h1)); (refine step_append (B := W0.heap.size + 1 + 1 + 1) rfl _ _ _ _ rfl ii (.int .i64 0) 8 Try.underlying29 hii hz0i hz1i hz2i rfl rfl ((by first | with_reducible exact hD5 | with_reducible exact hD5.alloc _)) _ rfl _ _ (src_rw (e' := 3) Try.underlying29 (cur := #[.int .i64 _]) (t := 3) (by first | (repeat (first | (refine Rw.new' ?_; simp; done) | with_reducible refine Rw.alloc ?_ _ | with_reducible refine Rw.drew ?_)); done | (refine HRW5 ?_ (by simp <;> omega); repeat (first | (refine Rw.new' ?_; simp; done) | with_reducible refine Rw.alloc ?_ _ | with_reducible refine Rw.drew ?_))) 1 1 (by rfl) (by simp [Value.oneCell'])) (by simp only [maxLen]; omega) (by omega) (by first | omega | (simp; omega) | simp) ?_; intro a8 cap8 w8 ho8 hc8 hn8)
          refine hK.out _ _ ?g5rs25 (fun hHeld => ?g5rt25)
          case g5rs25 => (try dsimp only); (first | exact KI.out.r2.drew | exact hHeld.alloc _ | exact hHeld.chg hc8 (by rintro ⟨_, h, _⟩; omega) | exact hHeld.chg hc5 (by rintro ⟨_, h, _⟩; omega))
          try dsimp only at hHeld
          clear hK K
          try simp only [Act.put, List.setIfInBounds_toArray, List.set_cons_zero, List.set_cons_succ]
          refine Go.Shr.wpAnyF_ready [10] (by kernel_rfl) (by simp) ?_
          refine Go.Shr.AllReadyF.last 10 (o := { dst := none, op := Go.Op.store 29 (Go.Operand.tmp 45) (Go.Operand.tmp 39), type := 0, pos := "law.go:34", after := #[{ on := 9, ground := Go.Ground.data }, { on := 3, ground := Go.Ground.data }, { on := 8, ground := Go.Ground.chain }, { on := 0, ground := Go.Ground.phase }, { on := 1, ground := Go.Ground.phase }, { on := 2, ground := Go.Ground.phase }, { on := 3, ground := Go.Ground.phase }, { on := 4, ground := Go.Ground.phase }, { on := 5, ground := Go.Ground.phase }, { on := 6, ground := Go.Ground.textOnly Go.Departure.lateStores }, { on := 7, ground := Go.Ground.textOnly Go.Departure.lateStores }, { on := 8, ground := Go.Ground.textOnly Go.Departure.lateStoresUnsure }], guard := none }) rfl (by kernel_rfl) (fun K hK => ?g5ro26) ?g5rm26
          case g5rm26 => exact Go.Shr.AllReadyF.nil
          (have q0 : w8.cell? ⟨W0.heap.size + 1 + 1, 0, none⟩ = some (.slice aR j cR) := hHeld.cell 0); (have q1 : w8.cell? ⟨W0.heap.size + 1 + 1, 1, none⟩ = some (.slice aD j cD) := hHeld.cell 1); (have q2 := hHeld.frozen); (have hsw8 := hHeld.lt); go_simp
          refine hK.out _ _ ?_
          clear hK K
          try simp only [Act.put, List.setIfInBounds_toArray, List.set_cons_zero, List.set_cons_succ]
          refine Go.Shr.wpAnyF_ready [11] (by kernel_rfl) (by simp) ?_
          refine Go.Shr.AllReadyF.last 11 (o := { dst := some 46, op := Go.Op.fieldAddr 31 (Go.Operand.tmp 6) 1, type := 0, pos := "law.go:34", after := #[{ on := 0, ground := Go.Ground.phase }, { on := 1, ground := Go.Ground.phase }, { on := 2, ground := Go.Ground.phase }, { on := 3, ground := Go.Ground.phase }, { on := 4, ground := Go.Ground.phase }, { on := 5, ground := Go.Ground.phase }, { on := 6, ground := Go.Ground.phase }, { on := 7, ground := Go.Ground.phase }, { on := 8, ground := Go.Ground.phase }, { on := 9, ground := Go.Ground.phase }, { on := 10, ground := Go.Ground.phase }], guard := none }) rfl (by kernel_rfl) (fun K hK => ?g5ro27) ?g5rm27
          case g5rm27 => exact Go.Shr.AllReadyF.nil
          go_simp
          refine hK.out _ _ ?_
          clear hK K
          try simp only [Act.put, List.setIfInBounds_toArray, List.set_cons_zero, List.set_cons_succ]
          refine Go.Shr.wpAnyF_ready [12] (by kernel_rfl) (by simp) ?_
          refine Go.Shr.AllReadyF.last 12 (o := { dst := none, op := Go.Op.store 29 (Go.Operand.tmp 46) (Go.Operand.tmp 44), type := 0, pos := "law.go:34", after := #[{ on := 11, ground := Go.Ground.data }, { on := 8, ground := Go.Ground.data }, { on := 10, ground := Go.Ground.chain }, { on := 0, ground := Go.Ground.phase }, { on := 1, ground := Go.Ground.phase }, { on := 2, ground := Go.Ground.phase }, { on := 3, ground := Go.Ground.phase }, { on := 4, ground := Go.Ground.phase }, { on := 5, ground := Go.Ground.phase }, { on := 6, ground := Go.Ground.phase }, { on := 7, ground := Go.Ground.phase }, { on := 8, ground := Go.Ground.phase }, { on := 9, ground := Go.Ground.phase }, { on := 10, ground := Go.Ground.phase }], guard := none }) rfl (by kernel_rfl) (fun K hK => ?g5ro28) ?g5rm28
          case g5rm28 => exact Go.Shr.AllReadyF.nil
          go_simp
          refine hK.out _ _ ?_
          clear hK K
          try simp only [Act.put, List.setIfInBounds_toArray, List.set_cons_zero, List.set_cons_succ]
          refine Go.Shr.wpAnyF_done (by kernel_rfl) ?_
          go_wp2_with fail
          have hB5 : Below W0.heap.size W0 w5 := Chg.bt (by first | with_reducible exact (ba KB.out _).drew | with_reducible exact (ba (ba KB.out _) _).drew) hc5 (fun i hi h => by omega)
          have hB8 : Below W0.heap.size W0 w8 := Chg.bt (by first | with_reducible exact hB5 | with_reducible exact ba hB5 _) hc8 (fun i hi h => by omega)
          go_roundw
          case rel =>
            refine ⟨j + 1, a5, a8, aZ, cap5, cap8, nZ, cZ, _, by go_num, by omega, Lib.hid (by
              rw [HLV.out]
              exact KI.out.pushRD (by first | with_reducible exact (ba (Below.refl _ _) _).drew | with_reducible exact (ba (ba (Below.refl _ _) _) _).drew) hc5 ho5 hn5 (by first | with_reducible exact Below.refl _ _ | with_reducible exact ba (Below.refl _ _) _) hc8 ho8 hn8), ?_⟩
            exact (hB8.setCell (by simp; omega) _).setCell (by simp; omega) _
          case measure => simp [intOf]; omega
        case g5rm21 =>
        exact Go.Shr.AllReadyF.nil
      case inr.inr =>
        have HG : Hid (bs.getD j true = true) := Lib.hid (by rw [List.getD_eq_getElem?_getD, List.getElem?_eq_none (by omega)]; rfl)
        rw [HG.out] at HF HLV
        simp only [if_true] at HF HLV
        go_wp2_with fail
        refine Go.Shr.wp_region_F (fun w' => Rw w' (W0.heap.size + 1 + 1) #[.slice aR j cR, .slice aD j cD, .slice aV nV cV] 31 ∧ w'.cell? ⟨b, off + j * 2, none⟩ = some (.int .i64 l[j].n) ∧ w'.cell? ⟨b, off + j * 2 + 1, none⟩ = some (.string l[j].s)) [9] (by kernel_rfl) ?g6rgS (fun hHeld => ?g6rgR)
        case g6rgS => (try dsimp only); (first | exact ⟨HI.out.r2.drew, e1, e2⟩ | exact ⟨hHeld.1.alloc _, Chg.keep ((Chg.refl (fun _ => False) _).alloc _) hHeld.2.1 id, Chg.keep ((Chg.refl (fun _ => False) _).alloc _) hHeld.2.2 id⟩ | exact ⟨hHeld.1.chg hc3 (by rintro ⟨_, h, _⟩; omega), Chg.keep hc3 hHeld.2.1 (by rintro ⟨_, h, _⟩; omega), Chg.keep hc3 hHeld.2.2 (by rintro ⟨_, h, _⟩; omega)⟩)
        try dsimp only at hHeld
        refine Go.Shr.wpAnyF_take 0 (oi := { dst := some 27, op := Go.Op.fieldAddr 31 (Go.Operand.tmp 6) 2, type := 0, pos := "law.go:32", after := #[], guard := none }) (v := ?g6rv1) rfl (by kernel_rfl) (fun _ _ _ h => h) (by assumption) (by rfl) ?g6ry1 ?g6rr1
        case g6ry1 => intro w hSw; (obtain ⟨hS0, q1, q2⟩ := hSw); (have q0 : w.cell? ⟨W0.heap.size + 1 + 1, 2, none⟩ = some (.slice aV nV cV) := hS0.cell 2); go_simp; try with_reducible rfl
        try simp only [Act.put, List.setIfInBounds_toArray, List.set_cons_zero, List.set_cons_succ]
        refine Go.Shr.wpAnyF_take 1 (oi := { dst := some 28, op := Go.Op.load 22 (Go.Operand.tmp 27), type := 22, pos := "law.go:32", after := #[{ on := 0, ground := Go.Ground.data }], guard := none }) (v := ?g6rv2) rfl (by kernel_rfl) (fun _ _ _ h => h) (by assumption) (by rfl) ?g6ry2 ?g6rr2
        case g6ry2 => intro w hSw; (obtain ⟨hS0, q1, q2⟩ := hSw); (have q0 : w.cell? ⟨W0.heap.size + 1 + 1, 2, none⟩ = some (.slice aV nV cV) := hS0.cell 2); go_simp; try with_reducible rfl
        try simp only [Act.put, List.setIfInBounds_toArray, List.set_cons_zero, List.set_cons_succ]
        refine Go.Shr.wpAnyF_take 2 (oi := { dst := some 29, op := Go.Op.move (Go.Operand.tmp 0), type := 22, pos := "law.go:32", after := #[], guard := none }) (v := ?g6rv3) rfl (by kernel_rfl) (fun _ _ _ h => h) (by assumption) (by rfl) ?g6ry3 ?g6rr3
        case g6ry3 => intro w hSw; (obtain ⟨hS0, q1, q2⟩ := hSw); (have q0 : w.cell? ⟨W0.heap.size + 1 + 1, 2, none⟩ = some (.slice aV nV cV) := hS0.cell 2); go_simp; try with_reducible rfl
        try simp only [Act.put, List.setIfInBounds_toArray, List.set_cons_zero, List.set_cons_succ]
        refine Go.Shr.wpAnyF_take 3 (oi := { dst := some 30, op := Go.Op.move (Go.Operand.tmp 7), type := 3, pos := "law.go:32", after := #[], guard := none }) (v := ?g6rv4) rfl (by kernel_rfl) (fun _ _ _ h => h) (by assumption) (by rfl) ?g6ry4 ?g6rr4
        case g6ry4 => intro w hSw; (obtain ⟨hS0, q1, q2⟩ := hSw); (have q0 : w.cell? ⟨W0.heap.size + 1 + 1, 2, none⟩ = some (.slice aV nV cV) := hS0.cell 2); go_simp; try with_reducible rfl
        try simp only [Act.put, List.setIfInBounds_toArray, List.set_cons_zero, List.set_cons_succ]
        refine Go.Shr.wpAnyF_take 4 (oi := { dst := some 31, op := Go.Op.indexAddr 22 (Go.Operand.tmp 29) (Go.Operand.tmp 30), type := 0, pos := "law.go:32", after := #[{ on := 2, ground := Go.Ground.data }, { on := 3, ground := Go.Ground.data }], guard := none }) (v := ?g6rv5) rfl (by kernel_rfl) (fun _ _ _ h => h) (by assumption) (by rfl) ?g6ry5 ?g6rr5
        case g6ry5 => intro w hSw; (obtain ⟨hS0, q1, q2⟩ := hSw); (have q0 : w.cell? ⟨W0.heap.size + 1 + 1, 2, none⟩ = some (.slice aV nV cV) := hS0.cell 2); go_simp; try with_reducible rfl
        try simp only [Act.put, List.setIfInBounds_toArray, List.set_cons_zero, List.set_cons_succ]
        refine Go.Shr.wpAnyF_take 5 (oi := { dst := some 32, op := Go.Op.load 35 (Go.Operand.tmp 31), type := 35, pos := "law.go:32", after := #[{ on := 4, ground := Go.Ground.data }], guard := none }) (v := ?g6rv6) rfl (by kernel_rfl) (fun _ _ _ h => h) (by assumption) (by rfl) ?g6ry6 ?g6rr6
        case g6ry6 => intro w hSw; (obtain ⟨hS0, q1, q2⟩ := hSw); (have q0 : w.cell? ⟨W0.heap.size + 1 + 1, 2, none⟩ = some (.slice aV nV cV) := hS0.cell 2); go_simp; try with_reducible rfl
        try simp only [Act.put, List.setIfInBounds_toArray, List.set_cons_zero, List.set_cons_succ]
        refine Go.Shr.wpAnyF_ready [6] (by kernel_rfl) (by simp) ?_
        refine Go.Shr.AllReadyF.cons 6 (o := { dst := some 33, op := Go.Op.buildSlice 22 1 #[(0, Go.Operand.tmp 32)], type := 22, pos := "law.go:32", after := #[{ on := 5, ground := Go.Ground.data }], guard := none }) rfl (fun K hK => ?g6ro7) ?g6rm7
        case g6rm7 => exact Go.Shr.AllReadyF.nil
        go_simp
        refine hK.out _ _ ?g6rs7 (fun hHeld => ?g6rt7)
        case g6rs7 => (try dsimp only); (first | exact ⟨HI.out.r2.drew, e1, e2⟩ | exact ⟨hHeld.1.alloc _, Chg.keep ((Chg.refl (fun _ => False) _).alloc _) hHeld.2.1 id, Chg.keep ((Chg.refl (fun _ => False) _).alloc _) hHeld.2.2 id⟩ | exact ⟨hHeld.1.chg hc3 (by rintro ⟨_, h, _⟩; omega), Chg.keep hc3 hHeld.2.1 (by rintro ⟨_, h, _⟩; omega), Chg.keep hc3 hHeld.2.2 (by rintro ⟨_, h, _⟩; omega)⟩)
        try dsimp only at hHeld
        clear hK K
        try simp only [Act.put, List.setIfInBounds_toArray, List.set_cons_zero, List.set_cons_succ]
        refine Go.Shr.wpAnyF_ready [7] (by kernel_rfl) (by simp) ?_
        refine Go.Shr.AllReadyF.cons 7 (o := { dst := some 34, op := Go.Op.call { callee := Go.Callee.builtin Go.Builtin.append, args := #[Go.Operand.tmp 28, Go.Operand.tmp 33], argTypes := #[22, 22] }, type := 22, pos := "law.go:32", after := #[{ on := 1, ground := Go.Ground.data }, { on := 6, ground := Go.Ground.data }], guard := none }) rfl (fun K hK => ?g6ro8) ?g6rm8
        case g6rm8 => exact Go.Shr.AllReadyF.nil
        (refine step_append (B := W0.heap.size + 1 + 1 + 1) rfl _ _ _ _ rfl iv (.agg #[.int .i64 0, .string ByteArray.empty]) 24 Try.underlying22 hiv hz0v hz1v hz2v rfl rfl (HI.out.oV.drew.alloc _) _ rfl _ _ (src_rw (e' := 35) Try.underlying22 (cur := #[.int .i64 l[j].n, .string l[j].s]) (t := 35) (by refine Rw.new' ?_; simp) 1 2 (by rfl) (by simp [Value.oneCell'])) (by simp only [maxLen]; omega) (by omega) (by first | omega | (simp; omega) | simp) ?_; intro a3 cap3 w3 ho3 hc3 hn3)
        refine hK.out _ _ ?g6rs8 (fun hHeld => ?g6rt8)
        case g6rs8 => (try dsimp only); (first | exact ⟨HI.out.r2.drew, e1, e2⟩ | exact ⟨hHeld.1.alloc _, Chg.keep ((Chg.refl (fun _ => False) _).alloc _) hHeld.2.1 id, Chg.keep ((Chg.refl (fun _ => False) _).alloc _) hHeld.2.2 id⟩ | exact ⟨hHeld.1.chg hc3 (by rintro ⟨_, h, _⟩; omega), Chg.keep hc3 hHeld.2.1 (by rintro ⟨_, h, _⟩; omega), Chg.keep hc3 hHeld.2.2 (by rintro ⟨_, h, _⟩; omega)⟩)
        try dsimp only at hHeld
        clear hK K
        try simp only [Act.put, List.setIfInBounds_toArray, List.set_cons_zero, List.set_cons_succ]
        refine Go.Shr.wpAnyF_take 8 (oi := { dst := some 35, op := Go.Op.fieldAddr 31 (Go.Operand.tmp 6) 2, type := 0, pos := "law.go:32", after := #[{ on := 0, ground := Go.Ground.phase }, { on := 1, ground := Go.Ground.phase }, { on := 2, ground := Go.Ground.phase }, { on := 3, ground := Go.Ground.phase }, { on := 4, ground := Go.Ground.phase }, { on := 5, ground := Go.Ground.phase }, { on := 6, ground := Go.Ground.phase }, { on := 7, ground := Go.Ground.phase }], guard := none }) (v := ?g6rv9) rfl (by kernel_rfl) (fun _ _ _ h => h) (by assumption) (by rfl) ?g6ry9 ?g6rr9
        case g6ry9 => intro w hSw; (obtain ⟨hS0, q1, q2⟩ := hSw); (have q0 : w.cell? ⟨W0.heap.size + 1 + 1, 2, none⟩ = some (.slice aV nV cV) := hS0.cell 2); go_simp; try with_reducible rfl
        try simp only [Act.put, List.setIfInBounds_toArray, List.set_cons_zero, List.set_cons_succ]
        refine Go.Shr.wpAnyF_ready [9] (by kernel_rfl) (by simp) ?_
        refine Go.Shr.AllReadyF.last 9 (o := { dst := none, op := Go.Op.store 22 (Go.Operand.tmp 35) (Go.Operand.tmp 34), type := 0, pos := "law.go:32", after := #[{ on := 8, ground := Go.Ground.data }, { on := 7, ground := Go.Ground.data }, { on := 7, ground := Go.Ground.chain }, { on := 0, ground := Go.Ground.phase }, { on := 1, ground := Go.Ground.phase }, { on := 2, ground := Go.Ground.phase }, { on := 3, ground := Go.Ground.phase }, { on := 4, ground := Go.Ground.phase }, { on := 5, ground := Go.Ground.phase }, { on := 6, ground := Go.Ground.phase }, { on := 7, ground := Go.Ground.phase }], guard := none }) rfl (by kernel_rfl) (fun K hK => ?g6ro10) ?g6rm10
        case g6rm10 => exact Go.Shr.AllReadyF.nil
        (have q0 : w3.cell? ⟨W0.heap.size + 1 + 1, 2, none⟩ = some (.slice aV nV cV) := hHeld.1.cell 2); (have q1 := hHeld.1.frozen); (have hsw3 := hHeld.1.lt); go_simp
        refine hK.out _ _ ?_
        clear hK K
        try simp only [Act.put, List.setIfInBounds_toArray, List.set_cons_zero, List.set_cons_succ]
        refine Go.Shr.wpAnyF_done (by kernel_rfl) ?_
        obtain ⟨wz, hwz, aZ, nZ, cZ, hnZ, KI, KB⟩ : ∃ wz, (w3.setCell ⟨W0.heap.size + 1 + 1, 2, none⟩ (.slice a3 (nV + 1) cap3)) = wz ∧ ∃ aZ nZ cZ, nZ ≤ 61 ∧ Hid (ColI W0.heap.size wz j aR cR aD cD aZ nZ cZ xR (lvB (l.take j) bs) (filtB (l.take (j + 1)) bs)) ∧ Hid (Below W0.heap.size W0 wz) :=
          ⟨_, rfl, a3, nV + 1, cap3, by omega, Lib.hid (by rw [HF.out]; exact HI.out.pushV (x := l[j]) ((Below.refl _ _).drew.alloc (by simp) _) hc3 ho3 hn3), Lib.hid ((Chg.bt (ba hb.drew _) hc3 (fun i hi h => by omega)).setCell (by simp; omega) _)⟩
        rw [hwz]
        clear hwz ho3 hc3 hn3
        go_wp2_with fail
        clear hnV
        have hsz2 := KB.out.size
        have hr3 := KI.out.r2.lt
        refine Go.Shr.wp_region_F (fun w' => Rw w' (W0.heap.size + 1 + 1) #[.slice aR j cR, .slice aD j cD, .slice aZ nZ cZ] 31) [10, 11, 12] (by kernel_rfl) ?g7rgS (fun hHeld => ?g7rgR)
        case g7rgS => (try dsimp only); (first | exact KI.out.r2.drew | exact hHeld.alloc _ | exact hHeld.chg hc8 (by rintro ⟨_, h, _⟩; omega) | exact hHeld.chg hc5 (by rintro ⟨_, h, _⟩; omega))
        try dsimp only at hHeld
        refine Go.Shr.wpAnyF_take 0 (oi := { dst := some 36, op := Go.Op.fieldAddr 31 (Go.Operand.tmp 6) 0, type := 0, pos := "law.go:34", after := #[], guard := none }) (v := ?g7rv1) rfl (by kernel_rfl) (fun _ _ _ h => h) (by assumption) (by rfl) ?g7ry1 ?g7rr1
        case g7ry1 => intro w hSw; (have q0 : w.cell? ⟨W0.heap.size + 1 + 1, 0, none⟩ = some (.slice aR j cR) := hSw.cell 0); (have q1 : w.cell? ⟨W0.heap.size + 1 + 1, 1, none⟩ = some (.slice aD j cD) := hSw.cell 1); go_simp; try with_reducible rfl
        try simp only [Act.put, List.setIfInBounds_toArray, List.set_cons_zero, List.set_cons_succ]
        refine Go.Shr.wpAnyF_take 1 (oi := { dst := some 37, op := Go.Op.load 29 (Go.Operand.tmp 36), type := 29, pos := "law.go:34", after := #[{ on := 0, ground := Go.Ground.data }], guard := none }) (v := ?g7rv2) rfl (by kernel_rfl) (fun _ _ _ h => h) (by assumption) (by rfl) ?g7ry2 ?g7rr2
        case g7ry2 => intro w hSw; (have q0 : w.cell? ⟨W0.heap.size + 1 + 1, 0, none⟩ = some (.slice aR j cR) := hSw.cell 0); (have q1 : w.cell? ⟨W0.heap.size + 1 + 1, 1, none⟩ = some (.slice aD j cD) := hSw.cell 1); go_simp; try with_reducible rfl
        try simp only [Act.put, List.setIfInBounds_toArray, List.set_cons_zero, List.set_cons_succ]
        refine Go.Shr.wpAnyF_take 4 (oi := { dst := some 40, op := Go.Op.fieldAddr 31 (Go.Operand.tmp 6) 1, type := 0, pos := "law.go:34", after := #[], guard := none }) (v := ?g7rv3) rfl (by kernel_rfl) (fun _ _ _ h => h) (by assumption) (by rfl) ?g7ry3 ?g7rr3
        case g7ry3 => intro w hSw; (have q0 : w.cell? ⟨W0.heap.size + 1 + 1, 0, none⟩ = some (.slice aR j cR) := hSw.cell 0); (have q1 : w.cell? ⟨W0.heap.size + 1 + 1, 1, none⟩ = some (.slice aD j cD) := hSw.cell 1); go_simp; try with_reducible rfl
        try simp only [Act.put, List.setIfInBounds_toArray, List.set_cons_zero, List.set_cons_succ]
        refine Go.Shr.wpAnyF_take 5 (oi := { dst := some 41, op := Go.Op.load 29 (Go.Operand.tmp 40), type := 29, pos := "law.go:34", after := #[{ on := 4, ground := Go.Ground.data }], guard := none }) (v := ?g7rv4) rfl (by kernel_rfl) (fun _ _ _ h => h) (by assumption) (by rfl) ?g7ry4 ?g7rr4
        case g7ry4 => intro w hSw; (have q0 : w.cell? ⟨W0.heap.size + 1 + 1, 0, none⟩ = some (.slice aR j cR) := hSw.cell 0); (have q1 : w.cell? ⟨W0.heap.size + 1 + 1, 1, none⟩ = some (.slice aD j cD) := hSw.cell 1); go_simp; try with_reducible rfl
        try simp only [Act.put, List.setIfInBounds_toArray, List.set_cons_zero, List.set_cons_succ]
        refine Go.Shr.wpAnyF_take 6 (oi := { dst := some 42, op := Go.Op.move (Go.Operand.tmp 8), type := 3, pos := "law.go:34", after := #[], guard := none }) (v := ?g7rv5) rfl (by kernel_rfl) (fun _ _ _ h => h) (by assumption) (by rfl) ?g7ry5 ?g7rr5
        case g7ry5 => intro w hSw; (have q0 : w.cell? ⟨W0.heap.size + 1 + 1, 0, none⟩ = some (.slice aR j cR) := hSw.cell 0); (have q1 : w.cell? ⟨W0.heap.size + 1 + 1, 1, none⟩ = some (.slice aD j cD) := hSw.cell 1); go_simp; try with_reducible rfl
        try simp only [Act.put, List.setIfInBounds_toArray, List.set_cons_zero, List.set_cons_succ]
        refine Go.Shr.wpAnyF_ready [2, 7] (by kernel_rfl) (by simp) ?_
        refine Go.Shr.AllReadyF.cons 2 (o := { dst := some 38, op := Go.Op.buildSlice 29 1 #[(0, Go.Operand.const (Go.Value.int Go.IntKind.i64 0))], type := 29, pos := "law.go:34", after := #[], guard := none }) rfl (fun K hK => ?g7ro6) ?g7rm6
        case g7ro6 =>
          go_simp
          refine hK.out _ _ ?g7rs6 (fun hHeld => ?g7rt6)
          case g7rs6 => (try dsimp only); (first | exact KI.out.r2.drew | exact hHeld.alloc _ | exact hHeld.chg hc8 (by rintro ⟨_, h, _⟩; omega) | exact hHeld.chg hc5 (by rintro ⟨_, h, _⟩; omega))
          try dsimp only at hHeld
          clear hK K
          try simp only [Act.put, List.setIfInBounds_toArray, List.set_cons_zero, List.set_cons_succ]
          refine Go.Shr.wpAnyF_ready [3, 7] (by kernel_rfl) (by simp) ?_
          refine Go.Shr.AllReadyF.cons 3 (o := { dst := some 39, op := Go.Op.call { callee := Go.Callee.builtin Go.Builtin.append, args := #[Go.Operand.tmp 37, Go.Operand.tmp 38], argTypes := #[29, 29] }, type := 29, pos := "law.go:34", after := #[{ on := 1, ground := Go.Ground.data }, { on := 2, ground := Go.Ground.data }], guard := none }) rfl (fun K hK => ?g7ro7) ?g7rm7
          case g7ro7 =>
            (refine step_append (B := W0.heap.size + 1 + 1 + 1) rfl _ _ _ _ rfl ii (.int .i64 0) 8 Try.underlying29 hii hz0i hz1i hz2i rfl rfl ((by first | with_reducible exact (KI.out.oR.alloc _).drew | with_reducible exact ((KI.out.oR.alloc _).alloc _).drew)) _ rfl _ _ (src_rw (e' := 3) Try.underlying29 (cur := #[.int .i64 0]) (t := 3) (by repeat (first | (refine Rw.new' ?_; simp; done) | with_reducible refine Rw.alloc ?_ _ | with_reducible refine Rw.drew ?_)) 1 1 (by rfl) (by simp [Value.oneCell'])) (by simp only [maxLen]; omega) (by omega) (by first | omega | (simp; omega) | simp) ?_; intro a5 cap5 w5 ho5 hc5 hn5); (have hc5s := hc5.size); (simp only [World.size_alloc, World.size_drew] at hc5s)
            refine hK.out _ _ ?g7rs7 (fun hHeld => ?g7rt7)
            case g7rs7 => (try dsimp only); (first | exact KI.out.r2.drew | exact hHeld.alloc _ | exact hHeld.chg hc8 (by rintro ⟨_, h, _⟩; omega) | exact hHeld.chg hc5 (by rintro ⟨_, h, _⟩; omega))
            try dsimp only at hHeld
            clear hK K
            try simp only [Act.put, List.setIfInBounds_toArray, List.set_cons_zero, List.set_cons_succ]
            refine Go.Shr.wpAnyF_take 9 (oi := { dst := some 45, op := Go.Op.fieldAddr 31 (Go.Operand.tmp 6) 0, type := 0, pos := "law.go:34", after := #[{ on := 0, ground := Go.Ground.phase }, { on := 1, ground := Go.Ground.phase }, { on := 2, ground := Go.Ground.phase }, { on := 3, ground := Go.Ground.phase }, { on := 4, ground := Go.Ground.phase }, { on := 5, ground := Go.Ground.phase }, { on := 6, ground := Go.Ground.textOnly Go.Departure.lateStores }, { on := 7, ground := Go.Ground.textOnly Go.Departure.lateStores }, { on := 8, ground := Go.Ground.textOnly Go.Departure.lateStoresUnsure }], guard := none }) (v := ?g7rv8) rfl (by kernel_rfl) (fun _ _ _ h => h) (by assumption) (by rfl) ?g7ry8 ?g7rr8
            case g7ry8 => intro w hSw; (have q0 : w.cell? ⟨W0.heap.size + 1 + 1, 0, none⟩ = some (.slice aR j cR) := hSw.cell 0); (have q1 : w.cell? ⟨W0.heap.size + 1 + 1, 1, none⟩ = some (.slice aD j cD) := hSw.cell 1); go_simp; try with_reducible rfl
            try simp only [Act.put, List.setIfInBounds_toArray, List.set_cons_zero, List.set_cons_succ]
            refine Go.Shr.wpAnyF_ready [7] (by kernel_rfl) (by simp) ?_
            refine Go.Shr.AllReadyF.cons 7 (o := { dst := some 43, op := Go.Op.buildSlice 29 1 #[(0, Go.Operand.tmp 42)], type := 29, pos := "law.go:34", after := #[{ on := 6, ground := Go.Ground.data }], guard := none }) rfl (fun K hK => ?g7ro9) ?g7rm9
            case g7rm9 => exact Go.Shr.AllReadyF.nil
            go_simp
            refine hK.out _ _ ?g7rs9 (fun hHeld => ?g7rt9)
            case g7rs9 => (try dsimp only); (first | exact KI.out.r2.drew | exact hHeld.alloc _ | exact hHeld.chg hc8 (by rintro ⟨_, h, _⟩; omega) | exact hHeld.chg hc5 (by rintro ⟨_, h, _⟩; omega))
            try dsimp only at hHeld
            clear hK K
            try simp only [Act.put, List.setIfInBounds_toArray, List.set_cons_zero, List.set_cons_succ]
            refine Go.Shr.wpAnyF_ready [8] (by kernel_rfl) (by simp) ?_
            refine Go.Shr.AllReadyF.cons 8 (o := { dst := some 44, op := Go.Op.call { callee := Go.Callee.builtin Go.Builtin.append, args := #[Go.Operand.tmp 41, Go.Operand.tmp 43], argTypes := #[29, 29] }, type := 29, pos := "law.go:34", after := #[{ on := 5, ground := Go.Ground.data }, { on := 7, ground := Go.Ground.data }, { on := 3, ground := Go.Ground.chain }], guard := none }) rfl (fun K hK => ?g7ro10) ?g7rm10
            case g7rm10 => exact Go.Shr.AllReadyF.nil
            (have HRW5 : ∀ {b : Nat} {cur : Array Value} {t : TypeId}, Rw _ b cur t → wz.heap.size ≤ b → Rw w5 b cur t := fun h hb => h.chg hc5 (by rintro ⟨h1, _⟩; have := KI.out.bR _ h1; omega)); (have hD5 : Own (W0.heap.size + 1 + 1 + 1) w5 3 1 aD j cD (ints (lvB (l.take j) bs)) := Own.chg (by first | with_reducible exact (KI.out.oD.alloc _).drew | with_reducible exact ((KI.out.oD.alloc _).alloc _).drew) hc5 (fun k h1 h2 => KI.out.dRD k h2.1 h1)); (refine step_append (B := W0.heap.size + 1 + 1 + 1) rfl _ _ _ _ rfl ii (.int .i64 0) 8 Try.underlying29 hii hz0i hz1i hz2i rfl rfl ((by first | with_reducible exact hD5 | with_reducible exact hD5.alloc _)) _ rfl _ _ (src_rw (e' := 3) Try.underlying29 (cur := #[.int .i64 _]) (t := 3) (by first | (repeat (first | (refine Rw.new' ?_; simp; done) | with_reducible refine Rw.alloc ?_ _ | with_reducible refine Rw.drew ?_)); done | (refine HRW5 ?_ (by simp <;> omega); repeat (first | (refine Rw.new' ?_; simp; done) | with_reducible refine Rw.alloc ?_ _ | with_reducible refine Rw.drew ?_))) 1 1 (by rfl) (by simp [Value.oneCell'])) (by simp only [maxLen]; omega) (by omega) (by first | omega | (simp; omega) | simp) ?_; intro a8 cap8 w8 ho8 hc8 hn8)
            refine hK.out _ _ ?g7rs10 (fun hHeld => ?g7rt10)
            case g7rs10 => (try dsimp only); (first | exact KI.out.r2.drew | exact hHeld.alloc _ | exact hHeld.chg hc8 (by rintro ⟨_, h, _⟩; omega) | exact hHeld.chg hc5 (by rintro ⟨_, h, _⟩; omega))
            try dsimp only at hHeld
            clear hK K
            try simp only [Act.put, List.setIfInBounds_toArray, List.set_cons_zero, List.set_cons_succ]
            refine Go.Shr.wpAnyF_ready [10] (by kernel_rfl) (by simp) ?_
            refine Go.Shr.AllReadyF.last 10 (o := { dst := none, op := Go.Op.store 29 (Go.Operand.tmp 45) (Go.Operand.tmp 39), type := 0, pos := "law.go:34", after := #[{ on := 9, ground := Go.Ground.data }, { on := 3, ground := Go.Ground.data }, { on := 8, ground := Go.Ground.chain }, { on := 0, ground := Go.Ground.phase }, { on := 1, ground := Go.Ground.phase }, { on := 2, ground := Go.Ground.phase }, { on := 3, ground := Go.Ground.phase }, { on := 4, ground := Go.Ground.phase }, { on := 5, ground := Go.Ground.phase }, { on := 6, ground := Go.Ground.textOnly Go.Departure.lateStores }, { on := 7, ground := Go.Ground.textOnly Go.Departure.lateStores }, { on := 8, ground := Go.Ground.textOnly Go.Departure.lateStoresUnsure }], guard := none }) rfl (by kernel_rfl) (fun K hK => ?g7ro11) ?g7rm11
            case g7rm11 => exact Go.Shr.AllReadyF.nil
            (have q0 : w8.cell? ⟨W0.heap.size + 1 + 1, 0, none⟩ = some (.slice aR j cR) := hHeld.cell 0); (have q1 : w8.cell? ⟨W0.heap.size + 1 + 1, 1, none⟩ = some (.slice aD j cD) := hHeld.cell 1); (have q2 := hHeld.frozen); (have hsw8 := hHeld.lt); go_simp
            refine hK.out _ _ ?_
            clear hK K
            try simp only [Act.put, List.setIfInBounds_toArray, List.set_cons_zero, List.set_cons_succ]
            refine Go.Shr.wpAnyF_ready [11] (by kernel_rfl) (by simp) ?_
            refine Go.Shr.AllReadyF.last 11 (o := { dst := some 46, op := Go.Op.fieldAddr 31 (Go.Operand.tmp 6) 1, type := 0, pos := "law.go:34", after := #[{ on := 0, ground := Go.Ground.phase }, { on := 1, ground := Go.Ground.phase }, { on := 2, ground := Go.Ground.phase }, { on := 3, ground := Go.Ground.phase }, { on := 4, ground := Go.Ground.phase }, { on := 5, ground := Go.Ground.phase }, { on := 6, ground := Go.Ground.phase }, { on := 7, ground := Go.Ground.phase }, { on := 8, ground := Go.Ground.phase }, { on := 9, ground := Go.Ground.phase }, { on := 10, ground := Go.Ground.phase }], guard := none }) rfl (by kernel_rfl) (fun K hK => ?g7ro12) ?g7rm12
            case g7rm12 => exact Go.Shr.AllReadyF.nil
            go_simp
            refine hK.out _ _ ?_
            clear hK K
            try simp only [Act.put, List.setIfInBounds_toArray, List.set_cons_zero, List.set_cons_succ]
            refine Go.Shr.wpAnyF_ready [12] (by kernel_rfl) (by simp) ?_
            refine Go.Shr.AllReadyF.last 12 (o := { dst := none, op := Go.Op.store 29 (Go.Operand.tmp 46) (Go.Operand.tmp 44), type := 0, pos := "law.go:34", after := #[{ on := 11, ground := Go.Ground.data }, { on := 8, ground := Go.Ground.data }, { on := 10, ground := Go.Ground.chain }, { on := 0, ground := Go.Ground.phase }, { on := 1, ground := Go.Ground.phase }, { on := 2, ground := Go.Ground.phase }, { on := 3, ground := Go.Ground.phase }, { on := 4, ground := Go.Ground.phase }, { on := 5, ground := Go.Ground.phase }, { on := 6, ground := Go.Ground.phase }, { on := 7, ground := Go.Ground.phase }, { on := 8, ground := Go.Ground.phase }, { on := 9, ground := Go.Ground.phase }, { on := 10, ground := Go.Ground.phase }], guard := none }) rfl (by kernel_rfl) (fun K hK => ?g7ro13) ?g7rm13
            case g7rm13 => exact Go.Shr.AllReadyF.nil
            go_simp
            refine hK.out _ _ ?_
            clear hK K
            try simp only [Act.put, List.setIfInBounds_toArray, List.set_cons_zero, List.set_cons_succ]
            refine Go.Shr.wpAnyF_done (by kernel_rfl) ?_
            go_wp2_with fail
            have hB5 : Below W0.heap.size W0 w5 := Chg.bt (by first | with_reducible exact (ba KB.out _).drew | with_reducible exact (ba (ba KB.out _) _).drew) hc5 (fun i hi h => by omega)
            have hB8 : Below W0.heap.size W0 w8 := Chg.bt (by first | with_reducible exact hB5 | with_reducible exact ba hB5 _) hc8 (fun i hi h => by omega)
            go_roundw
            case rel =>
              refine ⟨j + 1, a5, a8, aZ, cap5, cap8, nZ, cZ, _, by go_num, by omega, Lib.hid (by
                rw [HLV.out]
                exact KI.out.pushRD (by first | with_reducible exact (ba (Below.refl _ _) _).drew | with_reducible exact (ba (ba (Below.refl _ _) _) _).drew) hc5 ho5 hn5 (by first | with_reducible exact Below.refl _ _ | with_reducible exact ba (Below.refl _ _) _) hc8 ho8 hn8), ?_⟩
              exact (hB8.setCell (by simp; omega) _).setCell (by simp; omega) _
            case measure => simp [intOf]; omega
          case g7rm7 =>
          refine Go.Shr.AllReadyF.cons 7 (o := { dst := some 43, op := Go.Op.buildSlice 29 1 #[(0, Go.Operand.tmp 42)], type := 29, pos := "law.go:34", after := #[{ on := 6, ground := Go.Ground.data }], guard := none }) rfl (fun K hK => ?g7ro14) ?g7rm14
          case g7ro14 =>
            go_simp
            refine hK.out _ _ ?g7rs14 (fun hHeld => ?g7rt14)
            case g7rs14 => (try dsimp only); (first | exact KI.out.r2.drew | exact hHeld.alloc _ | exact hHeld.chg hc8 (by rintro ⟨_, h, _⟩; omega) | exact hHeld.chg hc5 (by rintro ⟨_, h, _⟩; omega))
            try dsimp only at hHeld
            clear hK K
            try simp only [Act.put, List.setIfInBounds_toArray, List.set_cons_zero, List.set_cons_succ]
            refine Go.Shr.wpAnyF_ready [3] (by kernel_rfl) (by simp) ?_
            refine Go.Shr.AllReadyF.cons 3 (o := { dst := some 39, op := Go.Op.call { callee := Go.Callee.builtin Go.Builtin.append, args := #[Go.Operand.tmp 37, Go.Operand.tmp 38], argTypes := #[29, 29] }, type := 29, pos := "law.go:34", after := #[{ on := 1, ground := Go.Ground.data }, { on := 2, ground := Go.Ground.data }], guard := none }) rfl (fun K hK => ?g7ro15) ?g7rm15
            case g7rm15 => exact Go.Shr.AllReadyF.nil
            (refine step_append (B := W0.heap.size + 1 + 1 + 1) rfl _ _ _ _ rfl ii (.int .i64 0) 8 Try.underlying29 hii hz0i hz1i hz2i rfl rfl ((by first | with_reducible exact (KI.out.oR.alloc _).drew | with_reducible exact ((KI.out.oR.alloc _).alloc _).drew)) _ rfl _ _ (src_rw (e' := 3) Try.underlying29 (cur := #[.int .i64 0]) (t := 3) (by repeat (first | (refine Rw.new' ?_; simp; done) | with_reducible refine Rw.alloc ?_ _ | with_reducible refine Rw.drew ?_)) 1 1 (by rfl) (by simp [Value.oneCell'])) (by simp only [maxLen]; omega) (by omega) (by first | omega | (simp; omega) | simp) ?_; intro a5 cap5 w5 ho5 hc5 hn5); (have hc5s := hc5.size); (simp only [World.size_alloc, World.size_drew] at hc5s)
            refine hK.out _ _ ?g7rs15 (fun hHeld => ?g7rt15)
            case g7rs15 => (try dsimp only); (first | exact KI.out.r2.drew | exact hHeld.alloc _ | exact hHeld.chg hc8 (by rintro ⟨_, h, _⟩; omega) | exact hHeld.chg hc5 (by rintro ⟨_, h, _⟩; omega))
            try dsimp only at hHeld
            clear hK K
            try simp only [Act.put, List.setIfInBounds_toArray, List.set_cons_zero, List.set_cons_succ]
            refine Go.Shr.wpAnyF_take 9 (oi := { dst := some 45, op := Go.Op.fieldAddr 31 (Go.Operand.tmp 6) 0, type := 0, pos := "law.go:34", after := #[{ on := 0, ground := Go.Ground.phase }, { on := 1, ground := Go.Ground.phase }, { on := 2, ground := Go.Ground.phase }, { on := 3, ground := Go.Ground.phase }, { on := 4, ground := Go.Ground.phase }, { on := 5, ground := Go.Ground.phase }, { on := 6, ground := Go.Ground.textOnly Go.Departure.lateStores }, { on := 7, ground := Go.Ground.textOnly Go.Departure.lateStores }, { on := 8, ground := Go.Ground.textOnly Go.Departure.lateStoresUnsure }], guard := none }) (v := ?g7rv16) rfl (by kernel_rfl) (fun _ _ _ h => h) (by assumption) (by rfl) ?g7ry16 ?g7rr16
            case g7ry16 => intro w hSw; (have q0 : w.cell? ⟨W0.heap.size + 1 + 1, 0, none⟩ = some (.slice aR j cR) := hSw.cell 0); (have q1 : w.cell? ⟨W0.heap.size + 1 + 1, 1, none⟩ = some (.slice aD j cD) := hSw.cell 1); go_simp; try with_reducible rfl
            try simp only [Act.put, List.setIfInBounds_toArray, List.set_cons_zero, List.set_cons_succ]
            refine Go.Shr.wpAnyF_ready [8] (by kernel_rfl) (by simp) ?_
            refine Go.Shr.AllReadyF.cons 8 (o := { dst := some 44, op := Go.Op.call { callee := Go.Callee.builtin Go.Builtin.append, args := #[Go.Operand.tmp 41, Go.Operand.tmp 43], argTypes := #[29, 29] }, type := 29, pos := "law.go:34", after := #[{ on := 5, ground := Go.Ground.data }, { on := 7, ground := Go.Ground.data }, { on := 3, ground := Go.Ground.chain }], guard := none }) rfl (fun K hK => ?g7ro17) ?g7rm17
            case g7rm17 => exact Go.Shr.AllReadyF.nil
            (have HRW5 : ∀ {b : Nat} {cur : Array Value} {t : TypeId}, Rw _ b cur t → wz.heap.size ≤ b → Rw w5 b cur t := fun h hb => h.chg hc5 (by rintro ⟨h1, _⟩; have := KI.out.bR _ h1; omega)); (have hD5 : Own (W0.heap.size + 1 + 1 + 1) w5 3 1 aD j cD (ints (lvB (l.take j) bs)) := Own.chg (by first | with_reducible exact (KI.out.oD.alloc _).drew | with_reducible exact ((KI.out.oD.alloc _).alloc _).drew) hc5 (fun k h1 h2 => KI.out.dRD k h2.1 h1)); (refine step_append (B := W0.heap.size + 1 + 1 + 1) rfl _ _ _ _ rfl ii (.int .i64 0) 8 Try.underlying29 hii hz0i hz1i hz2i rfl rfl ((by first | with_reducible exact hD5 | with_reducible exact hD5.alloc _)) _ rfl _ _ (src_rw (e' := 3) Try.underlying29 (cur := #[.int .i64 _]) (t := 3) (by first | (repeat (first | (refine Rw.new' ?_; simp; done) | with_reducible refine Rw.alloc ?_ _ | with_reducible refine Rw.drew ?_)); done | (refine HRW5 ?_ (by simp <;> omega); repeat (first | (refine Rw.new' ?_; simp; done) | with_reducible refine Rw.alloc ?_ _ | with_reducible refine Rw.drew ?_))) 1 1 (by rfl) (by simp [Value.oneCell'])) (by simp only [maxLen]; omega) (by omega) (by first | omega | (simp; omega) | simp) ?_; intro a8 cap8 w8 ho8 hc8 hn8)
            refine hK.out _ _ ?g7rs17 (fun hHeld => ?g7rt17)
            case g7rs17 => (try dsimp only); (first | exact KI.out.r2.drew | exact hHeld.alloc _ | exact hHeld.chg hc8 (by rintro ⟨_, h, _⟩; omega) | exact hHeld.chg hc5 (by rintro ⟨_, h, _⟩; omega))
            try dsimp only at hHeld
            clear hK K
            try simp only [Act.put, List.setIfInBounds_toArray, List.set_cons_zero, List.set_cons_succ]
            refine Go.Shr.wpAnyF_ready [10] (by kernel_rfl) (by simp) ?_
            refine Go.Shr.AllReadyF.last 10 (o := { dst := none, op := Go.Op.store 29 (Go.Operand.tmp 45) (Go.Operand.tmp 39), type := 0, pos := "law.go:34", after := #[{ on := 9, ground := Go.Ground.data }, { on := 3, ground := Go.Ground.data }, { on := 8, ground := Go.Ground.chain }, { on := 0, ground := Go.Ground.phase }, { on := 1, ground := Go.Ground.phase }, { on := 2, ground := Go.Ground.phase }, { on := 3, ground := Go.Ground.phase }, { on := 4, ground := Go.Ground.phase }, { on := 5, ground := Go.Ground.phase }, { on := 6, ground := Go.Ground.textOnly Go.Departure.lateStores }, { on := 7, ground := Go.Ground.textOnly Go.Departure.lateStores }, { on := 8, ground := Go.Ground.textOnly Go.Departure.lateStoresUnsure }], guard := none }) rfl (by kernel_rfl) (fun K hK => ?g7ro18) ?g7rm18
            case g7rm18 => exact Go.Shr.AllReadyF.nil
            (have q0 : w8.cell? ⟨W0.heap.size + 1 + 1, 0, none⟩ = some (.slice aR j cR) := hHeld.cell 0); (have q1 : w8.cell? ⟨W0.heap.size + 1 + 1, 1, none⟩ = some (.slice aD j cD) := hHeld.cell 1); (have q2 := hHeld.frozen); (have hsw8 := hHeld.lt); go_simp
            refine hK.out _ _ ?_
            clear hK K
            try simp only [Act.put, List.setIfInBounds_toArray, List.set_cons_zero, List.set_cons_succ]
            refine Go.Shr.wpAnyF_ready [11] (by kernel_rfl) (by simp) ?_
            refine Go.Shr.AllReadyF.last 11 (o := { dst := some 46, op := Go.Op.fieldAddr 31 (Go.Operand.tmp 6) 1, type := 0, pos := "law.go:34", after := #[{ on := 0, ground := Go.Ground.phase }, { on := 1, ground := Go.Ground.phase }, { on := 2, ground := Go.Ground.phase }, { on := 3, ground := Go.Ground.phase }, { on := 4, ground := Go.Ground.phase }, { on := 5, ground := Go.Ground.phase }, { on := 6, ground := Go.Ground.phase }, { on := 7, ground := Go.Ground.phase }, { on := 8, ground := Go.Ground.phase }, { on := 9, ground := Go.Ground.phase }, { on := 10, ground := Go.Ground.phase }], guard := none }) rfl (by kernel_rfl) (fun K hK => ?g7ro19) ?g7rm19
            case g7rm19 => exact Go.Shr.AllReadyF.nil
            go_simp
            refine hK.out _ _ ?_
            clear hK K
            try simp only [Act.put, List.setIfInBounds_toArray, List.set_cons_zero, List.set_cons_succ]
            refine Go.Shr.wpAnyF_ready [12] (by kernel_rfl) (by simp) ?_
            refine Go.Shr.AllReadyF.last 12 (o := { dst := none, op := Go.Op.store 29 (Go.Operand.tmp 46) (Go.Operand.tmp 44), type := 0, pos := "law.go:34", after := #[{ on := 11, ground := Go.Ground.data }, { on := 8, ground := Go.Ground.data }, { on := 10, ground := Go.Ground.chain }, { on := 0, ground := Go.Ground.phase }, { on := 1, ground := Go.Ground.phase }, { on := 2, ground := Go.Ground.phase }, { on := 3, ground := Go.Ground.phase }, { on := 4, ground := Go.Ground.phase }, { on := 5, ground := Go.Ground.phase }, { on := 6, ground := Go.Ground.phase }, { on := 7, ground := Go.Ground.phase }, { on := 8, ground := Go.Ground.phase }, { on := 9, ground := Go.Ground.phase }, { on := 10, ground := Go.Ground.phase }], guard := none }) rfl (by kernel_rfl) (fun K hK => ?g7ro20) ?g7rm20
            case g7rm20 => exact Go.Shr.AllReadyF.nil
            go_simp
            refine hK.out _ _ ?_
            clear hK K
            try simp only [Act.put, List.setIfInBounds_toArray, List.set_cons_zero, List.set_cons_succ]
            refine Go.Shr.wpAnyF_done (by kernel_rfl) ?_
            go_wp2_with fail
            have hB5 : Below W0.heap.size W0 w5 := Chg.bt (by first | with_reducible exact (ba KB.out _).drew | with_reducible exact (ba (ba KB.out _) _).drew) hc5 (fun i hi h => by omega)
            have hB8 : Below W0.heap.size W0 w8 := Chg.bt (by first | with_reducible exact hB5 | with_reducible exact ba hB5 _) hc8 (fun i hi h => by omega)
            go_roundw
            case rel =>
              refine ⟨j + 1, a5, a8, aZ, cap5, cap8, nZ, cZ, _, by go_num, by omega, Lib.hid (by
                rw [HLV.out]
                exact KI.out.pushRD (by first | with_reducible exact (ba (Below.refl _ _) _).drew | with_reducible exact (ba (ba (Below.refl _ _) _) _).drew) hc5 ho5 hn5 (by first | with_reducible exact Below.refl _ _ | with_reducible exact ba (Below.refl _ _) _) hc8 ho8 hn8), ?_⟩
              exact (hB8.setCell (by simp; omega) _).setCell (by simp; omega) _
            case measure => simp [intOf]; omega
          case g7rm14 =>
          exact Go.Shr.AllReadyF.nil
        case g7rm6 =>
        refine Go.Shr.AllReadyF.cons 7 (o := { dst := some 43, op := Go.Op.buildSlice 29 1 #[(0, Go.Operand.tmp 42)], type := 29, pos := "law.go:34", after := #[{ on := 6, ground := Go.Ground.data }], guard := none }) rfl (fun K hK => ?g7ro21) ?g7rm21
        case g7ro21 =>
          go_simp
          refine hK.out _ _ ?g7rs21 (fun hHeld => ?g7rt21)
          case g7rs21 => (try dsimp only); (first | exact KI.out.r2.drew | exact hHeld.alloc _ | exact hHeld.chg hc8 (by rintro ⟨_, h, _⟩; omega) | exact hHeld.chg hc5 (by rintro ⟨_, h, _⟩; omega))
          try dsimp only at hHeld
          clear hK K
          try simp only [Act.put, List.setIfInBounds_toArray, List.set_cons_zero, List.set_cons_succ]
          refine Go.Shr.wpAnyF_ready [2] (by kernel_rfl) (by simp) ?_
          refine Go.Shr.AllReadyF.cons 2 (o := { dst := some 38, op := Go.Op.buildSlice 29 1 #[(0, Go.Operand.const (Go.Value.int Go.IntKind.i64 0))], type := 29, pos := "law.go:34", after := #[], guard := none }) rfl (fun K hK => ?g7ro22) ?g7rm22
          case g7rm22 => exact Go.Shr.AllReadyF.nil
          go_simp
          refine hK.out _ _ ?g7rs22 (fun hHeld => ?g7rt22)
          case g7rs22 => (try dsimp only); (first | exact KI.out.r2.drew | exact hHeld.alloc _ | exact hHeld.chg hc8 (by rintro ⟨_, h, _⟩; omega) | exact hHeld.chg hc5 (by rintro ⟨_, h, _⟩; omega))
          try dsimp only at hHeld
          clear hK K
          try simp only [Act.put, List.setIfInBounds_toArray, List.set_cons_zero, List.set_cons_succ]
          refine Go.Shr.wpAnyF_ready [3] (by kernel_rfl) (by simp) ?_
          refine Go.Shr.AllReadyF.cons 3 (o := { dst := some 39, op := Go.Op.call { callee := Go.Callee.builtin Go.Builtin.append, args := #[Go.Operand.tmp 37, Go.Operand.tmp 38], argTypes := #[29, 29] }, type := 29, pos := "law.go:34", after := #[{ on := 1, ground := Go.Ground.data }, { on := 2, ground := Go.Ground.data }], guard := none }) rfl (fun K hK => ?g7ro23) ?g7rm23
          case g7rm23 => exact Go.Shr.AllReadyF.nil
          (refine step_append (B := W0.heap.size + 1 + 1 + 1) rfl _ _ _ _ rfl ii (.int .i64 0) 8 Try.underlying29 hii hz0i hz1i hz2i rfl rfl ((by first | with_reducible exact (KI.out.oR.alloc _).drew | with_reducible exact ((KI.out.oR.alloc _).alloc _).drew)) _ rfl _ _ (src_rw (e' := 3) Try.underlying29 (cur := #[.int .i64 0]) (t := 3) (by repeat (first | (refine Rw.new' ?_; simp; done) | with_reducible refine Rw.alloc ?_ _ | with_reducible refine Rw.drew ?_)) 1 1 (by rfl) (by simp [Value.oneCell'])) (by simp only [maxLen]; omega) (by omega) (by first | omega | (simp; omega) | simp) ?_; intro a5 cap5 w5 ho5 hc5 hn5); (have hc5s := hc5.size); (simp only [World.size_alloc, World.size_drew] at hc5s)
          refine hK.out _ _ ?g7rs23 (fun hHeld => ?g7rt23)
          case g7rs23 => (try dsimp only); (first | exact KI.out.r2.drew | exact hHeld.alloc _ | exact hHeld.chg hc8 (by rintro ⟨_, h, _⟩; omega) | exact hHeld.chg hc5 (by rintro ⟨_, h, _⟩; omega))
          try dsimp only at hHeld
          clear hK K
          try simp only [Act.put, List.setIfInBounds_toArray, List.set_cons_zero, List.set_cons_succ]
          refine Go.Shr.wpAnyF_take 9 (oi := { dst := some 45, op := Go.Op.fieldAddr 31 (Go.Operand.tmp 6) 0, type := 0, pos := "law.go:34", after := #[{ on := 0, ground := Go.Ground.phase }, { on := 1, ground := Go.Ground.phase }, { on := 2, ground := Go.Ground.phase }, { on := 3, ground := Go.Ground.phase }, { on := 4, ground := Go.Ground.phase }, { on := 5, ground := Go.Ground.phase }, { on := 6, ground := Go.Ground.textOnly Go.Departure.lateStores }, { on := 7, ground := Go.Ground.textOnly Go.Departure.lateStores }, { on := 8, ground := Go.Ground.textOnly Go.Departure.lateStoresUnsure }], guard := none }) (v := ?g7rv24) rfl (by kernel_rfl) (fun _ _ _ h => h) (by assumption) (by rfl) ?g7ry24 ?g7rr24
          case g7ry24 => intro w hSw; (have q0 : w.cell? ⟨W0.heap.size + 1 + 1, 0, none⟩ = some (.slice aR j cR) := hSw.cell 0); (have q1 : w.cell? ⟨W0.heap.size + 1 + 1, 1, none⟩ = some (.slice aD j cD) := hSw.cell 1); go_simp; try with_reducible rfl
          try simp only [Act.put, List.setIfInBounds_toArray, List.set_cons_zero, List.set_cons_succ]
          refine Go.Shr.wpAnyF_ready [8] (by kernel_rfl) (by simp) ?_
          refine Go.Shr.AllReadyF.cons 8 (o := { dst := some 44, op := Go.Op.call { callee := Go.Callee.builtin Go.Builtin.append, args := #[Go.Operand.tmp 41, Go.Operand.tmp 43], argTypes := #[29, 29] }, type := 29, pos := "law.go:34", after := #[{ on := 5, ground := Go.Ground.data }, { on := 7, ground := Go.Ground.data }, { on := 3, ground := Go.Ground.chain }], guard := none }) rfl (fun K hK => ?g7ro25) ?g7rm25
          case g7rm25 => exact Go.Shr.AllReadyF.nil
          (have HRW5 : ∀ {b : Nat} {cur : Array Value} {t : TypeId}, Rw _ b cur t → wz.heap.size ≤ b → Rw w5 b cur t := fun h hb => h.chg hc5 (by rintro ⟨h1, _⟩; have := KI.out.bR _ h1; omega)); (have hD5 : Own (W0.heap.size + 1 + 1 + 1) w5 3 1 aD j cD (ints (lvB (l.take j) bs)) := Own.chg (by first | with_reducible exact (KI.out.oD.alloc _).drew | with_reducible exact ((KI.out.oD.alloc _).alloc _).drew) hc5 (fun k h1 h2 => KI.out.dRD k h2.1 h1)); (refine step_append (B := W0.heap.size + 1 + 1 + 1) rfl _ _ _ _ rfl ii (.int .i64 0) 8 Try.underlying29 hii hz0i hz1i hz2i rfl rfl ((by first | with_reducible exact hD5 | with_reducible exact hD5.alloc _)) _ rfl _ _ (src_rw (e' := 3) Try.underlying29 (cur := #[.int .i64 _]) (t := 3) (by first | (repeat (first | (refine Rw.new' ?_; simp; done) | with_reducible refine Rw.alloc ?_ _ | with_reducible refine Rw.drew ?_)); done | (refine HRW5 ?_ (by simp <;> omega); repeat (first | (refine Rw.new' ?_; simp; done) | with_reducible refine Rw.alloc ?_ _ | with_reducible refine Rw.drew ?_))) 1 1 (by rfl) (by simp [Value.oneCell'])) (by simp only [maxLen]; omega) (by omega) (by first | omega | (simp; omega) | simp) ?_; intro a8 cap8 w8 ho8 hc8 hn8)
          refine hK.out _ _ ?g7rs25 (fun hHeld => ?g7rt25)
          case g7rs25 => (try dsimp only); (first | exact KI.out.r2.drew | exact hHeld.alloc _ | exact hHeld.chg hc8 (by rintro ⟨_, h, _⟩; omega) | exact hHeld.chg hc5 (by rintro ⟨_, h, _⟩; omega))
          try dsimp only at hHeld
          clear hK K
          try simp only [Act.put, List.setIfInBounds_toArray, List.set_cons_zero, List.set_cons_succ]
          refine Go.Shr.wpAnyF_ready [10] (by kernel_rfl) (by simp) ?_
          refine Go.Shr.AllReadyF.last 10 (o := { dst := none, op := Go.Op.store 29 (Go.Operand.tmp 45) (Go.Operand.tmp 39), type := 0, pos := "law.go:34", after := #[{ on := 9, ground := Go.Ground.data }, { on := 3, ground := Go.Ground.data }, { on := 8, ground := Go.Ground.chain }, { on := 0, ground := Go.Ground.phase }, { on := 1, ground := Go.Ground.phase }, { on := 2, ground := Go.Ground.phase }, { on := 3, ground := Go.Ground.phase }, { on := 4, ground := Go.Ground.phase }, { on := 5, ground := Go.Ground.phase }, { on := 6, ground := Go.Ground.textOnly Go.Departure.lateStores }, { on := 7, ground := Go.Ground.textOnly Go.Departure.lateStores }, { on := 8, ground := Go.Ground.textOnly Go.Departure.lateStoresUnsure }], guard := none }) rfl (by kernel_rfl) (fun K hK => ?g7ro26) ?g7rm26
          case g7rm26 => exact Go.Shr.AllReadyF.nil
          (have q0 : w8.cell? ⟨W0.heap.size + 1 + 1, 0, none⟩ = some (.slice aR j cR) := hHeld.cell 0); (have q1 : w8.cell? ⟨W0.heap.size + 1 + 1, 1, none⟩ = some (.slice aD j cD) := hHeld.cell 1); (have q2 := hHeld.frozen); (have hsw8 := hHeld.lt); go_simp
          refine hK.out _ _ ?_
          clear hK K
          try simp only [Act.put, List.setIfInBounds_toArray, List.set_cons_zero, List.set_cons_succ]
          refine Go.Shr.wpAnyF_ready [11] (by kernel_rfl) (by simp) ?_
          refine Go.Shr.AllReadyF.last 11 (o := { dst := some 46, op := Go.Op.fieldAddr 31 (Go.Operand.tmp 6) 1, type := 0, pos := "law.go:34", after := #[{ on := 0, ground := Go.Ground.phase }, { on := 1, ground := Go.Ground.phase }, { on := 2, ground := Go.Ground.phase }, { on := 3, ground := Go.Ground.phase }, { on := 4, ground := Go.Ground.phase }, { on := 5, ground := Go.Ground.phase }, { on := 6, ground := Go.Ground.phase }, { on := 7, ground := Go.Ground.phase }, { on := 8, ground := Go.Ground.phase }, { on := 9, ground := Go.Ground.phase }, { on := 10, ground := Go.Ground.phase }], guard := none }) rfl (by kernel_rfl) (fun K hK => ?g7ro27) ?g7rm27
          case g7rm27 => exact Go.Shr.AllReadyF.nil
          go_simp
          refine hK.out _ _ ?_
          clear hK K
          try simp only [Act.put, List.setIfInBounds_toArray, List.set_cons_zero, List.set_cons_succ]
          refine Go.Shr.wpAnyF_ready [12] (by kernel_rfl) (by simp) ?_
          refine Go.Shr.AllReadyF.last 12 (o := { dst := none, op := Go.Op.store 29 (Go.Operand.tmp 46) (Go.Operand.tmp 44), type := 0, pos := "law.go:34", after := #[{ on := 11, ground := Go.Ground.data }, { on := 8, ground := Go.Ground.data }, { on := 10, ground := Go.Ground.chain }, { on := 0, ground := Go.Ground.phase }, { on := 1, ground := Go.Ground.phase }, { on := 2, ground := Go.Ground.phase }, { on := 3, ground := Go.Ground.phase }, { on := 4, ground := Go.Ground.phase }, { on := 5, ground := Go.Ground.phase }, { on := 6, ground := Go.Ground.phase }, { on := 7, ground := Go.Ground.phase }, { on := 8, ground := Go.Ground.phase }, { on := 9, ground := Go.Ground.phase }, { on := 10, ground := Go.Ground.phase }], guard := none }) rfl (by kernel_rfl) (fun K hK => ?g7ro28) ?g7rm28
          case g7rm28 => exact Go.Shr.AllReadyF.nil
          go_simp
          refine hK.out _ _ ?_
          clear hK K
          try simp only [Act.put, List.setIfInBounds_toArray, List.set_cons_zero, List.set_cons_succ]
          refine Go.Shr.wpAnyF_done (by kernel_rfl) ?_
          go_wp2_with fail
          have hB5 : Below W0.heap.size W0 w5 := Chg.bt (by first | with_reducible exact (ba KB.out _).drew | with_reducible exact (ba (ba KB.out _) _).drew) hc5 (fun i hi h => by omega)
          have hB8 : Below W0.heap.size W0 w8 := Chg.bt (by first | with_reducible exact hB5 | with_reducible exact ba hB5 _) hc8 (fun i hi h => by omega)
          go_roundw
          case rel =>
            refine ⟨j + 1, a5, a8, aZ, cap5, cap8, nZ, cZ, _, by go_num, by omega, Lib.hid (by
              rw [HLV.out]
              exact KI.out.pushRD (by first | with_reducible exact (ba (Below.refl _ _) _).drew | with_reducible exact (ba (ba (Below.refl _ _) _) _).drew) hc5 ho5 hn5 (by first | with_reducible exact Below.refl _ _ | with_reducible exact ba (Below.refl _ _) _) hc8 ho8 hn8), ?_⟩
            exact (hB8.setCell (by simp; omega) _).setCell (by simp; omega) _
          case measure => simp [intOf]; omega
        case g7rm21 =>
        exact Go.Shr.AllReadyF.nil
    · have hr0 := HI.out.r0.lt
      have k0 : wr.cell? ⟨W0.heap.size, 0, none⟩ = some (.int .i64 0) := HI.out.r0.cell 0
      have k1 : wr.cell? ⟨W0.heap.size, 1, none⟩ = some (.int .i64 0) := HI.out.r0.cell 1
      have k2 : wr.cell? ⟨W0.heap.size, 2, none⟩ = some (.int .i64 0) := HI.out.r0.cell 2
      have k3 : wr.cell? ⟨W0.heap.size, 3, none⟩ = some (.int .i64 0) := HI.out.r0.cell 3
      have kf := HI.out.r0.frozen
      have m0 : wr.cell? ⟨W0.heap.size + 1, 0, none⟩ = some (.slice none 0 0) := HI.out.r1.cell 0
      have m1 : wr.cell? ⟨W0.heap.size + 1, 1, none⟩ = some (.slice none 0 0) := HI.out.r1.cell 1
      have m2 : wr.cell? ⟨W0.heap.size + 1, 2, none⟩ = some (.slice none 0 0) := HI.out.r1.cell 2
      have mf := HI.out.r1.frozen
      have hr1 := HI.out.r1.lt
      go_wp2_with fail
      refine Go.Shr.wp_region_F (fun w' => Rw w' (W0.heap.size + 1 + 1) #[.slice aR j cR, .slice aD j cD, .slice aV nV cV] 31) [3] (by kernel_rfl) ?g8rgS (fun hHeld => ?g8rgR)
      case g8rgS => (try dsimp only); (first | exact HI.out.r2.drew | (repeat refine Rw.other ?_ (by simp only [ne_eq]; omega) _); exact hHeld)
      try dsimp only at hHeld
      refine Go.Shr.wpAnyF_take 0 (oi := { dst := some 47, op := Go.Op.build 28 #[(2, Go.Operand.const (Go.Value.int Go.IntKind.i64 1))], type := 28, pos := "law.go:36", after := #[], guard := none }) (v := ?g8rv1) rfl (by kernel_rfl) (fun _ _ _ h => h) (by assumption) (by rfl) ?g8ry1 ?g8rr1
      case g8ry1 => intro w hSw; (have q0 : w.cell? ⟨W0.heap.size + 1 + 1, 0, none⟩ = some (.slice aR j cR) := hSw.cell 0); (have q1 : w.cell? ⟨W0.heap.size + 1 + 1, 1, none⟩ = some (.slice aD j cD) := hSw.cell 1); (have q2 : w.cell? ⟨W0.heap.size + 1 + 1, 2, none⟩ = some (.slice aV nV cV) := hSw.cell 2); go_simp; try with_reducible rfl
      try simp only [Act.put, List.setIfInBounds_toArray, List.set_cons_zero, List.set_cons_succ]
      refine Go.Shr.wpAnyF_take 1 (oi := { dst := some 48, op := Go.Op.load 31 (Go.Operand.tmp 6), type := 31, pos := "law.go:36", after := #[{ on := 2, ground := Go.Ground.gcOnly Go.Departure.lateStores }], guard := none }) (v := ?g8rv2) rfl (by kernel_rfl) (fun _ _ _ h => h) (by assumption) (by rfl) ?g8ry2 ?g8rr2
      case g8ry2 => intro w hSw; (have q0 : w.cell? ⟨W0.heap.size + 1 + 1, 0, none⟩ = some (.slice aR j cR) := hSw.cell 0); (have q1 : w.cell? ⟨W0.heap.size + 1 + 1, 1, none⟩ = some (.slice aD j cD) := hSw.cell 1); (have q2 : w.cell? ⟨W0.heap.size + 1 + 1, 2, none⟩ = some (.slice aV nV cV) := hSw.cell 2); go_simp; try with_reducible rfl
      try simp only [Act.put, List.setIfInBounds_toArray, List.set_cons_zero, List.set_cons_succ]
      refine Go.Shr.wpAnyF_ready [2] (by kernel_rfl) (by simp) ?_
      refine Go.Shr.AllReadyF.cons 2 (o := { dst := none, op := Go.Op.store 28 (Go.Operand.tmp 4) (Go.Operand.tmp 47), type := 0, pos := "law.go:36", after := #[{ on := 0, ground := Go.Ground.data }, { on := 0, ground := Go.Ground.phase }, { on := 1, ground := Go.Ground.textOnly Go.Departure.lateStores }], guard := none }) rfl (fun K hK => ?g8ro3) ?g8rm3
      case g8rm3 => exact Go.Shr.AllReadyF.nil
      go_simp
      refine hK.out _ _ ?g8rs3 (fun hHeld => ?g8rt3)
      case g8rs3 => (try dsimp only); (first | exact HI.out.r2.drew | (repeat refine Rw.other ?_ (by simp only [ne_eq]; omega) _); exact hHeld)
      try dsimp only at hHeld
      clear hK K
      try simp only [Act.put, List.setIfInBounds_toArray, List.set_cons_zero, List.set_cons_succ]
      refine Go.Shr.wpAnyF_ready [3] (by kernel_rfl) (by simp) ?_
      refine Go.Shr.AllReadyF.last 3 (o := { dst := none, op := Go.Op.store 31 (Go.Operand.tmp 5) (Go.Operand.tmp 48), type := 0, pos := "law.go:36", after := #[{ on := 1, ground := Go.Ground.data }, { on := 2, ground := Go.Ground.chain }, { on := 0, ground := Go.Ground.phase }, { on := 1, ground := Go.Ground.phase }, { on := 2, ground := Go.Ground.phase }], guard := none }) rfl (by kernel_rfl) (fun K hK => ?g8ro4) ?g8rm4
      case g8rm4 => exact Go.Shr.AllReadyF.nil
      go_simp
      refine hK.out _ _ ?_
      clear hK K
      try simp only [Act.put, List.setIfInBounds_toArray, List.set_cons_zero, List.set_cons_succ]
      refine Go.Shr.wpAnyF_done (by kernel_rfl) ?_
      go_wp2_with fail
      have hjn : j = n := by omega
      have HT : l.take j = l := List.take_of_length_le (by omega)
      rw [HT] at HI
      have hoD : Own (W0.heap.size + 1 + 1 + 1) _ 3 1 aD j cD (ints (lvB l bs)) := ((((((((HI.out.oD.setBelow (p := ⟨W0.heap.size, 0, none⟩) (by simp only; omega) (.int .i64 0)).setBelow (p := ⟨W0.heap.size, 1, none⟩) (by simp only; omega) (.int .i64 0)).setBelow (p := ⟨W0.heap.size, 2, none⟩) (by simp only; omega) (.int .i64 1)).setBelow (p := ⟨W0.heap.size, 3, none⟩) (by simp only; omega) (.int .i64 0)).setBelow (p := ⟨W0.heap.size + 1, 0, none⟩) (by simp only; omega) (.slice aR j cR)).setBelow (p := ⟨W0.heap.size + 1, 1, none⟩) (by simp only; omega) (.slice aD j cD)).setBelow (p := ⟨W0.heap.size + 1, 2, none⟩) (by simp only; omega) (.slice aV nV cV)).drew)
      have hoV : Own (W0.heap.size + 1 + 1 + 1) _ 35 2 aV nV cV (vls (filtB l bs)) := ((((((((HI.out.oV.setBelow (p := ⟨W0.heap.size, 0, none⟩) (by simp only; omega) (.int .i64 0)).setBelow (p := ⟨W0.heap.size, 1, none⟩) (by simp only; omega) (.int .i64 0)).setBelow (p := ⟨W0.heap.size, 2, none⟩) (by simp only; omega) (.int .i64 1)).setBelow (p := ⟨W0.heap.size, 3, none⟩) (by simp only; omega) (.int .i64 0)).setBelow (p := ⟨W0.heap.size + 1, 0, none⟩) (by simp only; omega) (.slice aR j cR)).setBelow (p := ⟨W0.heap.size + 1, 1, none⟩) (by simp only; omega) (.slice aD j cD)).setBelow (p := ⟨W0.heap.size + 1, 2, none⟩) (by simp only; omega) (.slice aV nV cV)).drew)
      rw [← hjn]
      refine bodyPost_ret (v := .tuple #[.agg #[.int .i64 0, .int .i64 0, .int .i64 1, .int .i64 0], .agg #[.slice aR j cR, .slice aD j cD, .slice aV nV cV]]) (by simp [results, Try.results11, go_sem, k0, k1, k2, k3, m0, m1, m2]) rfl ⟨aR, j, cR, aD, cD, aV, nV, cV, rfl, ?_, ?_, ?_⟩
      · exact hoD.sl.mono (fun k h _ => h) (by decide)
      · exact hoV.sl.mono (fun k h _ => h) (by decide)
      · refine Below.drew ?_
        iterate 7 refine Below.setCell ?_ (by simp) _
        exact hb
end Go.Proofs.Ytnmlngpkhlafgaa
