/-
  The walks of bools, of the document's Same.
-/
import Derived.Test.YtgpffcgkfgiodaaLaw7A
import Derived.Deep.CutRange
set_option linter.unusedSimpArgs false
namespace Go.Proofs.Ytgpffcgkfgiodaa
open Go.RowKit Go.Shr
set_option maxHeartbeats 400000 in
theorem bools_v (a b : Option Addr) (n ca cb' : Nat) (f g : Nat → Bool) (w : World) (hf : ∀ k, k < n → f k = g k) (ha : Sl (fun b => b < w.heap.size) w 1 a n ca (bls f n)) (hb : Sl (fun b => b < w.heap.size) w 1 b n cb' (bls g n)) :
    Calls Try.prog 18 #[.slice a n ca, .slice b n cb'] w fun e w' => e = .returned (.bool true) ∧ Below w.heap.size w w' := by
  have hnl := Nat.le_trans ha.le ha.max
  unfold maxLen at hnl
  have HA := Lib.hid ha; have HB := Lib.hid hb; have HF := Lib.hid hf
  clear ha hb hf
  go_enter Try.func18, Try.ntmps18
  go_wp2_with fail
  go_loopw [5] (fun iv wr => ∃ i : Nat, iv = .int .i64 (i : Int) ∧ i ≤ n ∧ Hid (Below w.heap.size w wr)) (fun iv _ => n - (intOf iv).toNat)
  case atStart => exact ⟨0, rfl, Nat.zero_le _, Lib.hid (b0 w)⟩
  case round =>
    obtain ⟨i, rfl, hi, HBE⟩ := hrel
    by_cases hlt : i < n
    · obtain ⟨ab, ao, rfl, hab, hac⟩ := HA.out.pos (by omega)
      obtain ⟨bb, bo, rfl, hbb, hbc⟩ := HB.out.pos (by omega)
      have p0 := cb HBE.out (hac _ _ (bls_get f hlt))
      have q0 := cb HBE.out (hbc _ _ (bls_get g hlt))
      rw [← HF.out i hlt] at q0
      generalize f i = v at *
      have HPQ := Lib.hid (And.intro p0 q0)
      have hbd := HBE.out.drew
      clear hac hbc
      go_wp2_with fail
      refine Go.Shr.wp_region_F (fun w' => w'.cell? ⟨ab, ao + i, none⟩ = some (.bool v) ∧ w'.cell? ⟨bb, bo + i, none⟩ = some (.bool v)) [] (by kernel_rfl) ?g18rgS (fun hHeld => ?g18rgR)
      case g18rgS => (try dsimp only); (exact HPQ.out)
      try dsimp only at hHeld
      refine Go.Shr.wpAnyF_take 0 (oi := { dst := some 17, op := Go.Op.move (Go.Operand.tmp 0), type := 32, pos := "law.go:44", after := #[], guard := none }) (v := ?g18rv1) rfl (by kernel_rfl) (fun _ _ _ h => h) (by assumption) (by rfl) ?g18ry1 ?g18rr1
      case g18ry1 => intro w hSw; obtain ⟨s1, s2⟩ := hSw; go_simp; try with_reducible rfl
      try simp only [Act.put, List.setIfInBounds_toArray, List.set_cons_zero, List.set_cons_succ]
      refine Go.Shr.wpAnyF_take 1 (oi := { dst := some 18, op := Go.Op.move (Go.Operand.tmp 5), type := 3, pos := "law.go:44", after := #[], guard := none }) (v := ?g18rv2) rfl (by kernel_rfl) (fun _ _ _ h => h) (by assumption) (by rfl) ?g18ry2 ?g18rr2
      case g18ry2 => intro w hSw; obtain ⟨s1, s2⟩ := hSw; go_simp; try with_reducible rfl
      try simp only [Act.put, List.setIfInBounds_toArray, List.set_cons_zero, List.set_cons_succ]
      refine Go.Shr.wpAnyF_take 2 (oi := { dst := some 19, op := Go.Op.indexAddr 32 (Go.Operand.tmp 17) (Go.Operand.tmp 18), type := 0, pos := "law.go:44", after := #[{ on := 0, ground := Go.Ground.data }, { on := 1, ground := Go.Ground.data }], guard := none }) (v := ?g18rv3) rfl (by kernel_rfl) (fun _ _ _ h => h) (by assumption) (by rfl) ?g18ry3 ?g18rr3
      case g18ry3 => intro w hSw; obtain ⟨s1, s2⟩ := hSw; go_simp; try with_reducible rfl
      try simp only [Act.put, List.setIfInBounds_toArray, List.set_cons_zero, List.set_cons_succ]
      refine Go.Shr.wpAnyF_take 3 (oi := { dst := some 20, op := Go.Op.load 4 (Go.Operand.tmp 19), type := 4, pos := "law.go:44", after := #[{ on := 2, ground := Go.Ground.data }], guard := none }) (v := ?g18rv4) rfl (by kernel_rfl) (fun _ _ _ h => h) (by assumption) (by rfl) ?g18ry4 ?g18rr4
      case g18ry4 => intro w hSw; obtain ⟨s1, s2⟩ := hSw; go_simp; try with_reducible rfl
      try simp only [Act.put, List.setIfInBounds_toArray, List.set_cons_zero, List.set_cons_succ]
      refine Go.Shr.wpAnyF_take 4 (oi := { dst := some 21, op := Go.Op.move (Go.Operand.tmp 1), type := 32, pos := "law.go:44", after := #[], guard := none }) (v := ?g18rv5) rfl (by kernel_rfl) (fun _ _ _ h => h) (by assumption) (by rfl) ?g18ry5 ?g18rr5
      case g18ry5 => intro w hSw; obtain ⟨s1, s2⟩ := hSw; go_simp; try with_reducible rfl
      try simp only [Act.put, List.setIfInBounds_toArray, List.set_cons_zero, List.set_cons_succ]
      refine Go.Shr.wpAnyF_take 5 (oi := { dst := some 22, op := Go.Op.move (Go.Operand.tmp 5), type := 3, pos := "law.go:44", after := #[], guard := none }) (v := ?g18rv6) rfl (by kernel_rfl) (fun _ _ _ h => h) (by assumption) (by rfl) ?g18ry6 ?g18rr6
      case g18ry6 => intro w hSw; obtain ⟨s1, s2⟩ := hSw; go_simp; try with_reducible rfl
      try simp only [Act.put, List.setIfInBounds_toArray, List.set_cons_zero, List.set_cons_succ]
      refine Go.Shr.wpAnyF_take 6 (oi := { dst := some 23, op := Go.Op.indexAddr 32 (Go.Operand.tmp 21) (Go.Operand.tmp 22), type := 0, pos := "law.go:44", after := #[{ on := 4, ground := Go.Ground.data }, { on := 5, ground := Go.Ground.data }], guard := none }) (v := ?g18rv7) rfl (by kernel_rfl) (fun _ _ _ h => h) (by assumption) (by rfl) ?g18ry7 ?g18rr7
      case g18ry7 => intro w hSw; obtain ⟨s1, s2⟩ := hSw; go_simp; try with_reducible rfl
      try simp only [Act.put, List.setIfInBounds_toArray, List.set_cons_zero, List.set_cons_succ]
      refine Go.Shr.wpAnyF_take 7 (oi := { dst := some 24, op := Go.Op.load 4 (Go.Operand.tmp 23), type := 4, pos := "law.go:44", after := #[{ on := 6, ground := Go.Ground.data }], guard := none }) (v := ?g18rv8) rfl (by kernel_rfl) (fun _ _ _ h => h) (by assumption) (by rfl) ?g18ry8 ?g18rr8
      case g18ry8 => intro w hSw; obtain ⟨s1, s2⟩ := hSw; go_simp; try with_reducible rfl
      try simp only [Act.put, List.setIfInBounds_toArray, List.set_cons_zero, List.set_cons_succ]
      refine Go.Shr.wpAnyF_take 8 (oi := { dst := some 25, op := Go.Op.binOp Go.BinOp.neq 4 (Go.Operand.tmp 20) (Go.Operand.tmp 24) 4, type := 4, pos := "law.go:44", after := #[{ on := 3, ground := Go.Ground.data }, { on := 7, ground := Go.Ground.data }], guard := none }) (v := ?g18rv9) rfl (by kernel_rfl) (fun _ _ _ h => h) (by assumption) (by rfl) ?g18ry9 ?g18rr9
      case g18ry9 => intro w hSw; obtain ⟨s1, s2⟩ := hSw; go_simp; (try simp only [bne_self_eq_false, beq_self_eq_true, Bool.not_true]); (try with_reducible rfl)
      try simp only [Act.put, List.setIfInBounds_toArray, List.set_cons_zero, List.set_cons_succ]
      refine Go.Shr.wpAnyF_done (by kernel_rfl) ?_
      go_wp2_with fail
      go_roundw
      case rel => exact ⟨i + 1, by go_num, by omega, Lib.hid hbd⟩
      case measure => simp [intOf]; omega
    · obtain rfl : i = n := by omega
      go_wp2_with fail
      go_ret
      exact ⟨rfl, HBE.out⟩
set_option maxHeartbeats 400000 in
theorem same5_v (a b : Option Addr) (ca cb' : Nat) (l : List Fl) (w : World) (ha : Sl (fun b => b < w.heap.size) w 4 a l.length ca (fls l)) (hb : Sl (fun b => b < w.heap.size) w 4 b l.length cb' (fls l)) :
    Calls Try.prog 19 #[.slice a l.length ca, .slice b l.length cb'] w fun e w' => e = .returned (.bool true) ∧ Below w.heap.size w w' := by
  have hnl := Nat.le_trans ha.le ha.max
  unfold maxLen at hnl
  have HA := Lib.hid ha; have HB := Lib.hid hb
  clear ha hb
  go_enter Try.func19, Try.ntmps19
  go_wp2_with fail
  go_loopw [5] (fun iv wr => ∃ i : Nat, iv = .int .i64 (i : Int) ∧ i ≤ l.length ∧ Hid (Below w.heap.size w wr)) (fun iv _ => l.length - (intOf iv).toNat)
  case atStart => exact ⟨0, rfl, Nat.zero_le _, Lib.hid (b0 w)⟩
  case round =>
    obtain ⟨i, rfl, hi, HBE⟩ := hrel
    by_cases hlt : i < l.length
    · obtain ⟨ab, ao, rfl, hab, hac⟩ := HA.out.pos (by omega)
      obtain ⟨bb, bo, rfl, hbb, hbc⟩ := HB.out.pos (by omega)
      obtain ⟨f0, f1, f2, f3⟩ := fls_get l i hlt
      have a0 := cb HBE.out (hac _ _ f0); have a1 := cb HBE.out (hac _ _ f1); have a2 := cb HBE.out (hac _ _ f2); have a3 := cb HBE.out (hac _ _ f3)
      have b0' := cb HBE.out (hbc _ _ f0); have b1 := cb HBE.out (hbc _ _ f1); have b2 := cb HBE.out (hbc _ _ f2); have b3 := cb HBE.out (hbc _ _ f3)
      rw [← Nat.add_assoc] at a1 a2 a3 b1 b2 b3
      generalize l[i] = x at *
      obtain ⟨nm, rp, kd, kk⟩ := x
      dsimp only at a0 a1 a2 a3 b0' b1 b2 b3
      have HA1 := Lib.hid (And.intro a0 (And.intro a1 (And.intro a2 a3)))
      have HA2 := Lib.hid (And.intro b0' (And.intro b1 (And.intro b2 b3)))
      have hbd := HBE.out.drew
      clear hac hbc f0 f1 f2 f3
      go_wp2_with fail
      refine Go.Shr.wp_region_F (fun w' => (w'.cell? ⟨ab, ao + i * 4, none⟩ = some (.string nm) ∧ w'.cell? ⟨ab, ao + i * 4 + 1, none⟩ = some (.int .i64 rp) ∧ w'.cell? ⟨ab, ao + i * 4 + 2, none⟩ = some (.int .i64 kd) ∧ w'.cell? ⟨ab, ao + i * 4 + 3, none⟩ = some (.int .i64 kk)) ∧ (w'.cell? ⟨bb, bo + i * 4, none⟩ = some (.string nm) ∧ w'.cell? ⟨bb, bo + i * 4 + 1, none⟩ = some (.int .i64 rp) ∧ w'.cell? ⟨bb, bo + i * 4 + 2, none⟩ = some (.int .i64 kd) ∧ w'.cell? ⟨bb, bo + i * 4 + 3, none⟩ = some (.int .i64 kk))) [] (by kernel_rfl) ?g19rgS (fun hHeld => ?g19rgR)
      case g19rgS => (try dsimp only); (exact ⟨HA1.out, HA2.out⟩)
      try dsimp only at hHeld
      refine Go.Shr.wpAnyF_take 0 (oi := { dst := some 17, op := Go.Op.move (Go.Operand.tmp 0), type := 25, pos := "ref.go:204", after := #[], guard := none }) (v := ?g19rv1) rfl (by kernel_rfl) (fun _ _ _ h => h) (by assumption) (by rfl) ?g19ry1 ?g19rr1
      case g19ry1 => intro w hSw; obtain ⟨⟨s1, s2, s3, s4⟩, s5, s6, s7, s8⟩ := hSw; go_simp; try with_reducible rfl
      try simp only [Act.put, List.setIfInBounds_toArray, List.set_cons_zero, List.set_cons_succ]
      refine Go.Shr.wpAnyF_take 1 (oi := { dst := some 18, op := Go.Op.move (Go.Operand.tmp 5), type := 3, pos := "ref.go:204", after := #[], guard := none }) (v := ?g19rv2) rfl (by kernel_rfl) (fun _ _ _ h => h) (by assumption) (by rfl) ?g19ry2 ?g19rr2
      case g19ry2 => intro w hSw; obtain ⟨⟨s1, s2, s3, s4⟩, s5, s6, s7, s8⟩ := hSw; go_simp; try with_reducible rfl
      try simp only [Act.put, List.setIfInBounds_toArray, List.set_cons_zero, List.set_cons_succ]
      refine Go.Shr.wpAnyF_take 2 (oi := { dst := some 19, op := Go.Op.indexAddr 25 (Go.Operand.tmp 17) (Go.Operand.tmp 18), type := 0, pos := "ref.go:204", after := #[{ on := 0, ground := Go.Ground.data }, { on := 1, ground := Go.Ground.data }], guard := none }) (v := ?g19rv3) rfl (by kernel_rfl) (fun _ _ _ h => h) (by assumption) (by rfl) ?g19ry3 ?g19rr3
      case g19ry3 => intro w hSw; obtain ⟨⟨s1, s2, s3, s4⟩, s5, s6, s7, s8⟩ := hSw; go_simp; try with_reducible rfl
      try simp only [Act.put, List.setIfInBounds_toArray, List.set_cons_zero, List.set_cons_succ]
      refine Go.Shr.wpAnyF_take 3 (oi := { dst := some 20, op := Go.Op.load 40 (Go.Operand.tmp 19), type := 40, pos := "ref.go:204", after := #[{ on := 2, ground := Go.Ground.data }], guard := none }) (v := ?g19rv4) rfl (by kernel_rfl) (fun _ _ _ h => h) (by assumption) (by rfl) ?g19ry4 ?g19rr4
      case g19ry4 => intro w hSw; obtain ⟨⟨s1, s2, s3, s4⟩, s5, s6, s7, s8⟩ := hSw; go_simp; try with_reducible rfl
      try simp only [Act.put, List.setIfInBounds_toArray, List.set_cons_zero, List.set_cons_succ]
      refine Go.Shr.wpAnyF_take 4 (oi := { dst := some 21, op := Go.Op.move (Go.Operand.tmp 1), type := 25, pos := "ref.go:204", after := #[], guard := none }) (v := ?g19rv5) rfl (by kernel_rfl) (fun _ _ _ h => h) (by assumption) (by rfl) ?g19ry5 ?g19rr5
      case g19ry5 => intro w hSw; obtain ⟨⟨s1, s2, s3, s4⟩, s5, s6, s7, s8⟩ := hSw; go_simp; try with_reducible rfl
      try simp only [Act.put, List.setIfInBounds_toArray, List.set_cons_zero, List.set_cons_succ]
      refine Go.Shr.wpAnyF_take 5 (oi := { dst := some 22, op := Go.Op.move (Go.Operand.tmp 5), type := 3, pos := "ref.go:204", after := #[], guard := none }) (v := ?g19rv6) rfl (by kernel_rfl) (fun _ _ _ h => h) (by assumption) (by rfl) ?g19ry6 ?g19rr6
      case g19ry6 => intro w hSw; obtain ⟨⟨s1, s2, s3, s4⟩, s5, s6, s7, s8⟩ := hSw; go_simp; try with_reducible rfl
      try simp only [Act.put, List.setIfInBounds_toArray, List.set_cons_zero, List.set_cons_succ]
      refine Go.Shr.wpAnyF_take 6 (oi := { dst := some 23, op := Go.Op.indexAddr 25 (Go.Operand.tmp 21) (Go.Operand.tmp 22), type := 0, pos := "ref.go:204", after := #[{ on := 4, ground := Go.Ground.data }, { on := 5, ground := Go.Ground.data }], guard := none }) (v := ?g19rv7) rfl (by kernel_rfl) (fun _ _ _ h => h) (by assumption) (by rfl) ?g19ry7 ?g19rr7
      case g19ry7 => intro w hSw; obtain ⟨⟨s1, s2, s3, s4⟩, s5, s6, s7, s8⟩ := hSw; go_simp; try with_reducible rfl
      try simp only [Act.put, List.setIfInBounds_toArray, List.set_cons_zero, List.set_cons_succ]
      refine Go.Shr.wpAnyF_take 7 (oi := { dst := some 24, op := Go.Op.load 40 (Go.Operand.tmp 23), type := 40, pos := "ref.go:204", after := #[{ on := 6, ground := Go.Ground.data }], guard := none }) (v := ?g19rv8) rfl (by kernel_rfl) (fun _ _ _ h => h) (by assumption) (by rfl) ?g19ry8 ?g19rr8
      case g19ry8 => intro w hSw; obtain ⟨⟨s1, s2, s3, s4⟩, s5, s6, s7, s8⟩ := hSw; go_simp; try with_reducible rfl
      try simp only [Act.put, List.setIfInBounds_toArray, List.set_cons_zero, List.set_cons_succ]
      refine Go.Shr.wpAnyF_take 8 (oi := { dst := some 25, op := Go.Op.binOp Go.BinOp.neq 40 (Go.Operand.tmp 20) (Go.Operand.tmp 24) 40, type := 4, pos := "ref.go:204", after := #[{ on := 3, ground := Go.Ground.data }, { on := 7, ground := Go.Ground.data }], guard := none }) (v := ?g19rv9) rfl (by kernel_rfl) (fun _ _ _ h => h) (by assumption) (by rfl) ?g19ry9 ?g19rr9
      case g19ry9 => intro w hSw; obtain ⟨⟨s1, s2, s3, s4⟩, s5, s6, s7, s8⟩ := hSw; go_simp; try with_reducible rfl
      try simp only [Act.put, List.setIfInBounds_toArray, List.set_cons_zero, List.set_cons_succ]
      refine Go.Shr.wpAnyF_done (by kernel_rfl) ?_
      go_wp2_with fail
      go_roundw
      case rel => exact ⟨i + 1, by go_num, by omega, Lib.hid hbd⟩
      case measure => simp [intOf]; omega
    · obtain rfl : i = l.length := by omega
      go_wp2_with fail
      go_ret
      exact ⟨rfl, HBE.out⟩
end Go.Proofs.Ytgpffcgkfgiodaa
