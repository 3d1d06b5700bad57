/-
  The walk of May.
-/
import Derived.Test.YtnmlngpkhlafgaaStat8
set_option linter.unusedSimpArgs false
namespace Go.Proofs.Ytnmlngpkhlafgaa
open Go.RowKit Go.Shr
set_option maxHeartbeats 1000000 in
theorem may_v (k : Int) (s : St) (op : Int) (v : Vl) (w : World) : Calls Try.prog 19 #[.int .i64 k, s.v, .int .i64 op, .agg #[.int .i64 v.n, .string v.s]] w fun e w' => e = .returned (.bool (mayV k s op v)) ∧ Below w.heap.size w w' := by
  obtain ⟨n1, h1, ⟨a1, s1⟩, ⟨b1, t1⟩⟩ := s
  obtain ⟨a2, s2⟩ := v
  simp only [St.v]
  obtain ⟨cl, hcl⟩ : ∃ c, cmpV k ⟨a1, s1⟩ ⟨a2, s2⟩ = c := ⟨_, rfl⟩
  obtain ⟨ch, hch⟩ : ∃ c, cmpV k ⟨b1, t1⟩ ⟨a2, s2⟩ = c := ⟨_, rfl⟩
  have HM : Hid (mayV k ⟨n1, h1, ⟨a1, s1⟩, ⟨b1, t1⟩⟩ op ⟨a2, s2⟩ = (if op = 5 then decide (0 < n1) else if h1 = false then false else
      if op = 0 then decide (cl < 0) else if op = 2 then decide (0 ≤ ch) && decide (cl ≤ 0) else
      if op = 1 then decide (cl ≤ 0) else if op = 3 then decide (0 ≤ ch) else if op = 4 then decide (0 < ch) else false)) := Lib.hid (by rw [← hcl, ← hch]; rfl)
  generalize mayV k ⟨n1, h1, ⟨a1, s1⟩, ⟨b1, t1⟩⟩ op ⟨a2, s2⟩ = M at *
  have HCL := Lib.hid hcl; have HCH := Lib.hid hch; clear hcl hch
  by_cases h5 : op = 5
  · have h5b : (op == 5) = true := beq_iff_eq.2 h5
    rw [if_pos h5] at HM
    clear h5
    go_enter Try.func19, Try.ntmps19
    go_wp2_with fail
    go_ret
    exact ⟨ret_b HM.out.symm, by repeat (first | with_reducible exact Below.refl _ _ | refine ba ?_ _)⟩
  have h5b : (op == 5) = false := beq_eq_false_iff_ne.2 h5
  rw [if_neg h5] at HM
  cases h1
  · rw [if_pos rfl] at HM
    go_enter Try.func19, Try.ntmps19
    go_wp2_with fail
    go_ret
    exact ⟨ret_b HM.out.symm, by repeat (first | with_reducible exact Below.refl _ _ | refine ba ?_ _)⟩
  rw [if_neg (by decide)] at HM
  clear h5
  go_enter Try.func19, Try.ntmps19
  go_wp2_with fail
  obtain ⟨W1, hW⟩ : ∃ W1, ((w.alloc (.cells #[.int .i64 n1, .bool true, .int .i64 a1, .string s1, .int .i64 b1, .string t1] 37)).alloc (.cells #[.int .i64 a2, .string s2] 35)) = W1 := ⟨_, rfl⟩
  have hb : Below w.heap.size w W1 := by rw [← hW]; exact ba (ba (Below.refl _ _) _) _
  have hR0 : Rw W1 w.heap.size #[.int .i64 n1, .bool true, .int .i64 a1, .string s1, .int .i64 b1, .string t1] 37 := by rw [← hW]; exact (Rw.new w _ _).alloc _
  have hR1 : Rw W1 (w.heap.size + 1) #[.int .i64 a2, .string s2] 35 := by rw [← hW]; exact Rw.new' (by simp)
  rw [hW]; clear hW
  refine Go.Shr.wp_region_F (fun w' => Rw w' w.heap.size #[.int .i64 n1, .bool true, .int .i64 a1, .string s1, .int .i64 b1, .string t1] 37 ∧ Rw w' (w.heap.size + 1) #[.int .i64 a2, .string s2] 35) [] (by kernel_rfl) ?g9rgS (fun hHeld => ?g9rgR)
  case g9rgS => (try dsimp only); (first | exact ⟨hR0.drew, hR1.drew⟩ | exact ⟨hHeld.1.below hb1, hHeld.2.below hb1⟩ | exact ⟨hHeld.1.below hb2, hHeld.2.below hb2⟩)
  try dsimp only at hHeld
  refine Go.Shr.wpAnyF_take 0 (oi := { dst := some 19, op := Go.Op.move (Go.Operand.tmp 0), type := 3, pos := "stat.go:50", after := #[], guard := none }) (v := ?g9rv1) rfl (by kernel_rfl) (fun _ _ _ h => h) (by assumption) (by rfl) ?g9ry1 ?g9rr1
  case g9ry1 => intro w hSw; (rename_i w2; obtain ⟨g0, g1⟩ := hSw); (have q0 := g0.cell 2); (have q1 := g0.cell 3); (have q2 := g0.cell 4); (have q3 := g0.cell 5); (have q4 := g1.cell 0); (have q5 := g1.cell 1); (simp only [List.getElem?_toArray, List.getElem?_cons_zero, List.getElem?_cons_succ] at q0 q1 q2 q3 q4 q5); go_simp; try with_reducible rfl
  try simp only [Act.put, List.setIfInBounds_toArray, List.set_cons_zero, List.set_cons_succ]
  refine Go.Shr.wpAnyF_take 1 (oi := { dst := some 20, op := Go.Op.fieldAddr 37 (Go.Operand.tmp 5) 2, type := 0, pos := "stat.go:50", after := #[], guard := none }) (v := ?g9rv2) rfl (by kernel_rfl) (fun _ _ _ h => h) (by assumption) (by rfl) ?g9ry2 ?g9rr2
  case g9ry2 => intro w hSw; (rename_i w2; obtain ⟨g0, g1⟩ := hSw); (have q0 := g0.cell 2); (have q1 := g0.cell 3); (have q2 := g0.cell 4); (have q3 := g0.cell 5); (have q4 := g1.cell 0); (have q5 := g1.cell 1); (simp only [List.getElem?_toArray, List.getElem?_cons_zero, List.getElem?_cons_succ] at q0 q1 q2 q3 q4 q5); go_simp; try with_reducible rfl
  try simp only [Act.put, List.setIfInBounds_toArray, List.set_cons_zero, List.set_cons_succ]
  refine Go.Shr.wpAnyF_take 2 (oi := { dst := some 21, op := Go.Op.load 35 (Go.Operand.tmp 20), type := 35, pos := "stat.go:50", after := #[{ on := 1, ground := Go.Ground.data }], guard := none }) (v := ?g9rv3) rfl (by kernel_rfl) (fun _ _ _ h => h) (by assumption) (by rfl) ?g9ry3 ?g9rr3
  case g9ry3 => intro w hSw; (rename_i w2; obtain ⟨g0, g1⟩ := hSw); (have q0 := g0.cell 2); (have q1 := g0.cell 3); (have q2 := g0.cell 4); (have q3 := g0.cell 5); (have q4 := g1.cell 0); (have q5 := g1.cell 1); (simp only [List.getElem?_toArray, List.getElem?_cons_zero, List.getElem?_cons_succ] at q0 q1 q2 q3 q4 q5); go_simp; try with_reducible rfl
  try simp only [Act.put, List.setIfInBounds_toArray, List.set_cons_zero, List.set_cons_succ]
  refine Go.Shr.wpAnyF_take 3 (oi := { dst := some 22, op := Go.Op.load 35 (Go.Operand.tmp 7), type := 35, pos := "stat.go:50", after := #[], guard := none }) (v := ?g9rv4) rfl (by kernel_rfl) (fun _ _ _ h => h) (by assumption) (by rfl) ?g9ry4 ?g9rr4
  case g9ry4 => intro w hSw; (rename_i w2; obtain ⟨g0, g1⟩ := hSw); (have q0 := g0.cell 2); (have q1 := g0.cell 3); (have q2 := g0.cell 4); (have q3 := g0.cell 5); (have q4 := g1.cell 0); (have q5 := g1.cell 1); (simp only [List.getElem?_toArray, List.getElem?_cons_zero, List.getElem?_cons_succ] at q0 q1 q2 q3 q4 q5); go_simp; try with_reducible rfl
  try simp only [Act.put, List.setIfInBounds_toArray, List.set_cons_zero, List.set_cons_succ]
  refine Go.Shr.wpAnyF_take 5 (oi := { dst := some 24, op := Go.Op.move (Go.Operand.tmp 0), type := 3, pos := "stat.go:50", after := #[], guard := none }) (v := ?g9rv5) rfl (by kernel_rfl) (fun _ _ _ h => h) (by assumption) (by rfl) ?g9ry5 ?g9rr5
  case g9ry5 => intro w hSw; (rename_i w2; obtain ⟨g0, g1⟩ := hSw); (have q0 := g0.cell 2); (have q1 := g0.cell 3); (have q2 := g0.cell 4); (have q3 := g0.cell 5); (have q4 := g1.cell 0); (have q5 := g1.cell 1); (simp only [List.getElem?_toArray, List.getElem?_cons_zero, List.getElem?_cons_succ] at q0 q1 q2 q3 q4 q5); go_simp; try with_reducible rfl
  try simp only [Act.put, List.setIfInBounds_toArray, List.set_cons_zero, List.set_cons_succ]
  refine Go.Shr.wpAnyF_take 6 (oi := { dst := some 25, op := Go.Op.fieldAddr 37 (Go.Operand.tmp 5) 3, type := 0, pos := "stat.go:50", after := #[], guard := none }) (v := ?g9rv6) rfl (by kernel_rfl) (fun _ _ _ h => h) (by assumption) (by rfl) ?g9ry6 ?g9rr6
  case g9ry6 => intro w hSw; (rename_i w2; obtain ⟨g0, g1⟩ := hSw); (have q0 := g0.cell 2); (have q1 := g0.cell 3); (have q2 := g0.cell 4); (have q3 := g0.cell 5); (have q4 := g1.cell 0); (have q5 := g1.cell 1); (simp only [List.getElem?_toArray, List.getElem?_cons_zero, List.getElem?_cons_succ] at q0 q1 q2 q3 q4 q5); go_simp; try with_reducible rfl
  try simp only [Act.put, List.setIfInBounds_toArray, List.set_cons_zero, List.set_cons_succ]
  refine Go.Shr.wpAnyF_take 7 (oi := { dst := some 26, op := Go.Op.load 35 (Go.Operand.tmp 25), type := 35, pos := "stat.go:50", after := #[{ on := 6, ground := Go.Ground.data }], guard := none }) (v := ?g9rv7) rfl (by kernel_rfl) (fun _ _ _ h => h) (by assumption) (by rfl) ?g9ry7 ?g9rr7
  case g9ry7 => intro w hSw; (rename_i w2; obtain ⟨g0, g1⟩ := hSw); (have q0 := g0.cell 2); (have q1 := g0.cell 3); (have q2 := g0.cell 4); (have q3 := g0.cell 5); (have q4 := g1.cell 0); (have q5 := g1.cell 1); (simp only [List.getElem?_toArray, List.getElem?_cons_zero, List.getElem?_cons_succ] at q0 q1 q2 q3 q4 q5); go_simp; try with_reducible rfl
  try simp only [Act.put, List.setIfInBounds_toArray, List.set_cons_zero, List.set_cons_succ]
  refine Go.Shr.wpAnyF_take 8 (oi := { dst := some 27, op := Go.Op.load 35 (Go.Operand.tmp 7), type := 35, pos := "stat.go:50", after := #[], guard := none }) (v := ?g9rv8) rfl (by kernel_rfl) (fun _ _ _ h => h) (by assumption) (by rfl) ?g9ry8 ?g9rr8
  case g9ry8 => intro w hSw; (rename_i w2; obtain ⟨g0, g1⟩ := hSw); (have q0 := g0.cell 2); (have q1 := g0.cell 3); (have q2 := g0.cell 4); (have q3 := g0.cell 5); (have q4 := g1.cell 0); (have q5 := g1.cell 1); (simp only [List.getElem?_toArray, List.getElem?_cons_zero, List.getElem?_cons_succ] at q0 q1 q2 q3 q4 q5); go_simp; try with_reducible rfl
  try simp only [Act.put, List.setIfInBounds_toArray, List.set_cons_zero, List.set_cons_succ]
  refine Go.Shr.wpAnyF_ready [4] (by kernel_rfl) (by simp) ?_
  refine Go.Shr.AllReadyF.cons 4 (o := { dst := some 23, op := Go.Op.call { callee := Go.Callee.value (Go.Operand.func 20), args := #[Go.Operand.tmp 19, Go.Operand.tmp 21, Go.Operand.tmp 22], argTypes := #[3, 35, 35] }, type := 3, pos := "stat.go:50", after := #[{ on := 0, ground := Go.Ground.data }, { on := 2, ground := Go.Ground.data }, { on := 3, ground := Go.Ground.data }], guard := none }) rfl (fun K hK => ?g9ro9) ?g9rm9
  case g9rm9 => exact Go.Shr.AllReadyF.nil
  go_simp; refine (compare_v k ⟨a1, s1⟩ ⟨a2, s2⟩ _).mono ?_; rintro e w1 ⟨rfl, hb1⟩; rw [HCL.out]; dsimp only
  refine hK.out _ _ ?g9rs9 (fun hHeld => ?g9rt9)
  case g9rs9 => (try dsimp only); (first | exact ⟨hR0.drew, hR1.drew⟩ | exact ⟨hHeld.1.below hb1, hHeld.2.below hb1⟩ | exact ⟨hHeld.1.below hb2, hHeld.2.below hb2⟩)
  try dsimp only at hHeld
  clear hK K
  try simp only [Act.put, List.setIfInBounds_toArray, List.set_cons_zero, List.set_cons_succ]
  refine Go.Shr.wpAnyF_ready [9] (by kernel_rfl) (by simp) ?_
  refine Go.Shr.AllReadyF.cons 9 (o := { dst := some 28, op := Go.Op.call { callee := Go.Callee.value (Go.Operand.func 20), args := #[Go.Operand.tmp 24, Go.Operand.tmp 26, Go.Operand.tmp 27], argTypes := #[3, 35, 35] }, type := 3, pos := "stat.go:50", after := #[{ on := 5, ground := Go.Ground.data }, { on := 7, ground := Go.Ground.data }, { on := 8, ground := Go.Ground.data }, { on := 4, ground := Go.Ground.chain }], guard := none }) rfl (fun K hK => ?g9ro10) ?g9rm10
  case g9rm10 => exact Go.Shr.AllReadyF.nil
  go_simp; refine (compare_v k ⟨b1, t1⟩ ⟨a2, s2⟩ _).mono ?_; rintro e w2 ⟨rfl, hb2⟩; rw [HCH.out]; dsimp only
  refine hK.out _ _ ?g9rs10 (fun hHeld => ?g9rt10)
  case g9rs10 => (try dsimp only); (first | exact ⟨hR0.drew, hR1.drew⟩ | exact ⟨hHeld.1.below hb1, hHeld.2.below hb1⟩ | exact ⟨hHeld.1.below hb2, hHeld.2.below hb2⟩)
  try dsimp only at hHeld
  clear hK K
  try simp only [Act.put, List.setIfInBounds_toArray, List.set_cons_zero, List.set_cons_succ]
  refine Go.Shr.wpAnyF_take 10 (oi := { dst := some 9, op := Go.Op.assign (Go.Operand.tmp 23), type := 3, pos := "stat.go:50", after := #[{ on := 4, ground := Go.Ground.data }, { on := 9, ground := Go.Ground.chain }, { on := 0, ground := Go.Ground.phase }, { on := 1, ground := Go.Ground.phase }, { on := 2, ground := Go.Ground.phase }, { on := 3, ground := Go.Ground.phase }, { on := 4, ground := Go.Ground.phase }, { on := 5, ground := Go.Ground.textOnly Go.Departure.lateStores }, { on := 6, ground := Go.Ground.textOnly Go.Departure.lateStores }, { on := 7, ground := Go.Ground.textOnly Go.Departure.lateStores }, { on := 8, ground := Go.Ground.textOnly Go.Departure.lateStores }, { on := 9, ground := Go.Ground.textOnly Go.Departure.lateStoresUnsure }], guard := none }) (v := ?g9rv11) rfl (by kernel_rfl) (fun _ _ _ h => h) (by assumption) (by rfl) ?g9ry11 ?g9rr11
  case g9ry11 => intro w hSw; (rename_i w2; obtain ⟨g0, g1⟩ := hSw); (have q0 := g0.cell 2); (have q1 := g0.cell 3); (have q2 := g0.cell 4); (have q3 := g0.cell 5); (have q4 := g1.cell 0); (have q5 := g1.cell 1); (simp only [List.getElem?_toArray, List.getElem?_cons_zero, List.getElem?_cons_succ] at q0 q1 q2 q3 q4 q5); go_simp; try with_reducible rfl
  try simp only [Act.put, List.setIfInBounds_toArray, List.set_cons_zero, List.set_cons_succ]
  refine Go.Shr.wpAnyF_take 11 (oi := { dst := some 10, op := Go.Op.assign (Go.Operand.tmp 28), type := 3, pos := "stat.go:50", after := #[{ on := 9, ground := Go.Ground.data }, { on := 10, ground := Go.Ground.chain }, { on := 0, ground := Go.Ground.phase }, { on := 1, ground := Go.Ground.phase }, { on := 2, ground := Go.Ground.phase }, { on := 3, ground := Go.Ground.phase }, { on := 4, ground := Go.Ground.phase }, { on := 5, ground := Go.Ground.phase }, { on := 6, ground := Go.Ground.phase }, { on := 7, ground := Go.Ground.phase }, { on := 8, ground := Go.Ground.phase }, { on := 9, ground := Go.Ground.phase }, { on := 10, ground := Go.Ground.phase }], guard := none }) (v := ?g9rv12) rfl (by kernel_rfl) (fun _ _ _ h => h) (by assumption) (by rfl) ?g9ry12 ?g9rr12
  case g9ry12 => intro w hSw; (rename_i w2; obtain ⟨g0, g1⟩ := hSw); (have q0 := g0.cell 2); (have q1 := g0.cell 3); (have q2 := g0.cell 4); (have q3 := g0.cell 5); (have q4 := g1.cell 0); (have q5 := g1.cell 1); (simp only [List.getElem?_toArray, List.getElem?_cons_zero, List.getElem?_cons_succ] at q0 q1 q2 q3 q4 q5); go_simp; try with_reducible rfl
  try simp only [Act.put, List.setIfInBounds_toArray, List.set_cons_zero, List.set_cons_succ]
  refine Go.Shr.wpAnyF_done (by kernel_rfl) ?_
  have hB : Below w.heap.size w w2 := bt (bt hb.drew hb1) hb2
  clear hR0 hR1 hb1 hb2 hb HCL HCH
  have hop : op = 0 ∨ op = 2 ∨ op = 1 ∨ op = 3 ∨ op = 4 ∨ (op ≠ 0 ∧ op ≠ 2 ∧ op ≠ 1 ∧ op ≠ 3 ∧ op ≠ 4) := by omega
  rcases hop with rfl | rfl | rfl | rfl | rfl | ⟨o1, o2, o3, o4, o5⟩
  · rw [if_pos rfl] at HM
    go_wp2_with fail
    go_ret
    exact ⟨ret_b HM.out.symm, hB⟩
  · rw [if_neg (by decide), if_pos rfl] at HM
    by_cases hc : ch < 0
    · rw [show decide (0 ≤ ch) = false from decide_eq_false (by omega), Bool.false_and] at HM
      go_wp2_with fail
      go_ret
      exact ⟨ret_b HM.out.symm, hB⟩
    · rw [show decide (0 ≤ ch) = true from decide_eq_true (by omega), Bool.true_and] at HM
      go_wp2_with fail
      go_ret
      exact ⟨ret_b HM.out.symm, hB⟩
  · rw [if_neg (by decide), if_neg (by decide), if_pos rfl] at HM
    go_wp2_with fail
    go_ret
    exact ⟨ret_b HM.out.symm, hB⟩
  · rw [if_neg (by decide), if_neg (by decide), if_neg (by decide), if_pos rfl] at HM
    go_wp2_with fail
    go_ret
    exact ⟨ret_b HM.out.symm, hB⟩
  · rw [if_neg (by decide), if_neg (by decide), if_neg (by decide), if_neg (by decide), if_pos rfl] at HM
    go_wp2_with fail
    go_ret
    exact ⟨ret_b HM.out.symm, hB⟩
  · rw [if_neg o1, if_neg o2, if_neg o3, if_neg o4, if_neg o5] at HM
    have e1 : (op == 0) = false := beq_eq_false_iff_ne.2 o1
    have e2 : (op == 2) = false := beq_eq_false_iff_ne.2 o2
    have e3 : (op == 1) = false := beq_eq_false_iff_ne.2 o3
    have e4 : (op == 3) = false := beq_eq_false_iff_ne.2 o4
    have e5 : (op == 4) = false := beq_eq_false_iff_ne.2 o5
    clear o1 o2 o3 o4 o5
    go_wp2_with fail
    go_ret
    exact ⟨ret_b HM.out.symm, hB⟩
end Go.Proofs.Ytnmlngpkhlafgaa
