/-
  The walk of the document's Check, at schemas that are as it asks.
-/
import Derived.Test.YtgpffcgkfgiodaaDep7
import Derived.Test.YtgpffcgkfgiodaaMake8
import Derived.Test.YtgpffcgkfgiodaaSameP
import Derived.Deep.CutRange
import Derived.Deep.CutBlock
import Derived.IntWalk
set_option linter.unusedSimpArgs false
namespace Go.Proofs.Ytgpffcgkfgiodaa
open Go.RowKit Go.Shr
theorem sign_v (c : Nat) (h1 : 97 ≤ c) (h2 : c ≤ 122) (w : World) : Calls Try.prog 52 #[.int .u8 (c : Int)] w fun e w' => e = .returned (.bool true) ∧ w = w' := by
  have g1 : ((c : Int) ≥ 97) = True := by simp; omega
  have g2 : ((c : Int) ≤ 122) = True := by simp; omega
  go_enter Try.func52, Try.ntmps52
  go_wp2_with fail
  go_ret
  exact ⟨rfl, rfl⟩
set_option maxHeartbeats 400000 in
theorem name_v (c : UInt8) (h1 : 97 ≤ c.toNat) (h2 : c.toNat ≤ 122) (w : World) : Calls Try.prog 40 #[.string ⟨#[c]⟩] w fun e w' => e = .returned (.bool true) ∧ w = w' := by
  have hsz : (⟨#[c]⟩ : ByteArray).size = 1 := rfl
  have g1 : ¬ ((((⟨#[c]⟩ : ByteArray)[0]'Nat.one_pos).toNat : Int) < 97) := by show ¬ ((c.toNat : Int) < 97); omega
  have g2 : ¬ (122 < (((⟨#[c]⟩ : ByteArray)[0]'Nat.one_pos).toNat : Int)) := by show ¬ (122 < (c.toNat : Int)); omega
  go_enter Try.func40, Try.ntmps40
  go_wp2_with fail
  go_loopw [3] (fun iv wr => ∃ j : Nat, iv = .int .i64 (j : Int) ∧ j ≤ 1 ∧ Hid (w = wr)) (fun iv _ => 1 - (intOf iv).toNat)
  case atStart => exact ⟨0, rfl, by omega, Lib.hid rfl⟩
  case round =>
    obtain ⟨j, rfl, hj, HW⟩ := hrel
    by_cases hlt : j < 1
    · obtain rfl : j = 0 := by omega
      go_wp2_with fail
      refine (sign_v c.toNat h1 h2 wr).mono ?_
      rintro e w2 ⟨rfl, rfl⟩
      go_wp2_with fail
      go_roundw
      case rel => exact ⟨1, by go_num, by omega, HW⟩
      case measure => simp [intOf]
    · obtain rfl : j = 1 := by omega
      go_wp2_with fail
      go_ret
      exact ⟨rfl, HW.out⟩
set_option maxHeartbeats 1000000 in
theorem twice_v (sa pa : Option Addr) (sc pc : Nat) (l : List Fl) (P : List Int) (hP : P.length = l.length) (hnd : ∀ i j (hi : i < l.length) (hj : j < l.length), i ≠ j → l[i].name ≠ l[j].name) (i : Nat) (hi : i < l.length) (hll : l.length ≤ 1000) (w : World)
    (hs : Sl (fun b => b < w.heap.size) w 4 sa l.length sc (fls l)) (hp : Sl (fun b => b < w.heap.size) w 1 pa l.length pc (ints P)) :
    Calls Try.prog 41 #[.slice sa l.length sc, .slice pa l.length pc, .int .i64 (i : Int)] w fun e w' => e = .returned (.bool false) ∧ Below w.heap.size w w' := by
  have HS := Lib.hid hs; have HP := Lib.hid hp; have HN := Lib.hid hnd
  clear hs hp hnd
  go_enter Try.func41, Try.ntmps41
  go_wp2_with fail
  go_loopw [7] (fun iv wr => ∃ j : Nat, iv = .int .i64 (j : Int) ∧ j ≤ i ∧ Hid (Below w.heap.size w wr)) (fun iv _ => i - (intOf iv).toNat)
  case atStart => exact ⟨0, rfl, Nat.zero_le _, Lib.hid (b0 w)⟩
  case round =>
    obtain ⟨j, rfl, hj, HB⟩ := hrel
    have hszr := HB.out.size
    by_cases hlt : j < i
    · have hjl : j < l.length := by omega
      obtain ⟨sb, so, rfl, hsb, hsc⟩ := HS.out.pos (by omega)
      obtain ⟨pb, po, rfl, hpb, hpc⟩ := HP.out.pos (by omega)
      have p0 := cb HB.out (hpc _ _ (ints_get P j (by omega)))
      have p1 := cb HB.out (hpc _ _ (ints_get P i (by omega)))
      have s0 := cb HB.out (hsc _ _ (fls_get l j hjl).1)
      have s1 := cb HB.out (hsc _ _ (fls_get l i hi).1)
      have hne := HN.out j i hjl hi (by omega)
      have hnb : (l[j].name.toList == l[i].name.toList) = false := beq_eq_false_iff_ne.2 (fun h => hne (ba_ext h))
      generalize l[j].name = nj at *
      generalize l[i].name = ni at *
      generalize P[j] = a at *
      generalize P[i] = b at *
      have HC := Lib.hid (And.intro (And.intro p0 p1) (And.intro s0 s1))
      have HD := Lib.hid HB.out.drew
      clear hsc hpc hne
      go_wp2_with fail
      by_cases hab : a = b
      · subst hab
        refine Go.Shr.wp_region_F (fun w' => (w'.cell? ⟨pb, po + j, none⟩ = some (.int .i64 a) ∧ w'.cell? ⟨pb, po + i, none⟩ = some (.int .i64 a)) ∧ w'.cell? ⟨sb, so + j * 4, none⟩ = some (.string nj) ∧ w'.cell? ⟨sb, so + i * 4, none⟩ = some (.string ni)) [] (by kernel_rfl) ?g8rgS (fun hHeld => ?g8rgR)
        case g8rgS => (try dsimp only); (exact HC.out)
        try dsimp only at hHeld
        refine Go.Shr.wpAnyF_take 0 (oi := { dst := some 13, op := Go.Op.move (Go.Operand.tmp 1), type := 22, pos := "ref.go:68", after := #[], guard := none }) (v := ?g8rv1) rfl (by kernel_rfl) (fun _ _ _ h => h) (by assumption) (by rfl) ?g8ry1 ?g8rr1
        case g8ry1 => intro w hSw; obtain ⟨⟨s1, s2⟩, s3, s4⟩ := hSw; go_simp; try with_reducible rfl
        try simp only [Act.put, List.setIfInBounds_toArray, List.set_cons_zero, List.set_cons_succ]
        refine Go.Shr.wpAnyF_take 1 (oi := { dst := some 14, op := Go.Op.move (Go.Operand.tmp 7), type := 3, pos := "ref.go:68", after := #[], guard := none }) (v := ?g8rv2) rfl (by kernel_rfl) (fun _ _ _ h => h) (by assumption) (by rfl) ?g8ry2 ?g8rr2
        case g8ry2 => intro w hSw; obtain ⟨⟨s1, s2⟩, s3, s4⟩ := hSw; go_simp; try with_reducible rfl
        try simp only [Act.put, List.setIfInBounds_toArray, List.set_cons_zero, List.set_cons_succ]
        refine Go.Shr.wpAnyF_take 2 (oi := { dst := some 15, op := Go.Op.indexAddr 22 (Go.Operand.tmp 13) (Go.Operand.tmp 14), type := 0, pos := "ref.go:68", after := #[{ on := 0, ground := Go.Ground.data }, { on := 1, ground := Go.Ground.data }], guard := none }) (v := ?g8rv3) rfl (by kernel_rfl) (fun _ _ _ h => h) (by assumption) (by rfl) ?g8ry3 ?g8rr3
        case g8ry3 => intro w hSw; obtain ⟨⟨s1, s2⟩, s3, s4⟩ := hSw; go_simp; try with_reducible rfl
        try simp only [Act.put, List.setIfInBounds_toArray, List.set_cons_zero, List.set_cons_succ]
        refine Go.Shr.wpAnyF_take 3 (oi := { dst := some 16, op := Go.Op.load 3 (Go.Operand.tmp 15), type := 3, pos := "ref.go:68", after := #[{ on := 2, ground := Go.Ground.data }], guard := none }) (v := ?g8rv4) rfl (by kernel_rfl) (fun _ _ _ h => h) (by assumption) (by rfl) ?g8ry4 ?g8rr4
        case g8ry4 => intro w hSw; obtain ⟨⟨s1, s2⟩, s3, s4⟩ := hSw; go_simp; try with_reducible rfl
        try simp only [Act.put, List.setIfInBounds_toArray, List.set_cons_zero, List.set_cons_succ]
        refine Go.Shr.wpAnyF_take 4 (oi := { dst := some 17, op := Go.Op.move (Go.Operand.tmp 1), type := 22, pos := "ref.go:68", after := #[], guard := none }) (v := ?g8rv5) rfl (by kernel_rfl) (fun _ _ _ h => h) (by assumption) (by rfl) ?g8ry5 ?g8rr5
        case g8ry5 => intro w hSw; obtain ⟨⟨s1, s2⟩, s3, s4⟩ := hSw; go_simp; try with_reducible rfl
        try simp only [Act.put, List.setIfInBounds_toArray, List.set_cons_zero, List.set_cons_succ]
        refine Go.Shr.wpAnyF_take 5 (oi := { dst := some 18, op := Go.Op.move (Go.Operand.tmp 2), type := 3, pos := "ref.go:68", after := #[], guard := none }) (v := ?g8rv6) rfl (by kernel_rfl) (fun _ _ _ h => h) (by assumption) (by rfl) ?g8ry6 ?g8rr6
        case g8ry6 => intro w hSw; obtain ⟨⟨s1, s2⟩, s3, s4⟩ := hSw; go_simp; try with_reducible rfl
        try simp only [Act.put, List.setIfInBounds_toArray, List.set_cons_zero, List.set_cons_succ]
        refine Go.Shr.wpAnyF_take 6 (oi := { dst := some 19, op := Go.Op.indexAddr 22 (Go.Operand.tmp 17) (Go.Operand.tmp 18), type := 0, pos := "ref.go:68", after := #[{ on := 4, ground := Go.Ground.data }, { on := 5, ground := Go.Ground.data }], guard := none }) (v := ?g8rv7) rfl (by kernel_rfl) (fun _ _ _ h => h) (by assumption) (by rfl) ?g8ry7 ?g8rr7
        case g8ry7 => intro w hSw; obtain ⟨⟨s1, s2⟩, s3, s4⟩ := hSw; go_simp; try with_reducible rfl
        try simp only [Act.put, List.setIfInBounds_toArray, List.set_cons_zero, List.set_cons_succ]
        refine Go.Shr.wpAnyF_take 7 (oi := { dst := some 20, op := Go.Op.load 3 (Go.Operand.tmp 19), type := 3, pos := "ref.go:68", after := #[{ on := 6, ground := Go.Ground.data }], guard := none }) (v := ?g8rv8) rfl (by kernel_rfl) (fun _ _ _ h => h) (by assumption) (by rfl) ?g8ry8 ?g8rr8
        case g8ry8 => intro w hSw; obtain ⟨⟨s1, s2⟩, s3, s4⟩ := hSw; go_simp; try with_reducible rfl
        try simp only [Act.put, List.setIfInBounds_toArray, List.set_cons_zero, List.set_cons_succ]
        refine Go.Shr.wpAnyF_take 8 (oi := { dst := some 21, op := Go.Op.binOp Go.BinOp.eql 3 (Go.Operand.tmp 16) (Go.Operand.tmp 20) 3, type := 4, pos := "ref.go:68", after := #[{ on := 3, ground := Go.Ground.data }, { on := 7, ground := Go.Ground.data }], guard := none }) (v := ?g8rv9) rfl (by kernel_rfl) (fun _ _ _ h => h) (by assumption) (by rfl) ?g8ry9 ?g8rr9
        case g8ry9 => intro w hSw; obtain ⟨⟨s1, s2⟩, s3, s4⟩ := hSw; go_simp; try with_reducible rfl
        try simp only [Act.put, List.setIfInBounds_toArray, List.set_cons_zero, List.set_cons_succ]
        refine Go.Shr.wpAnyF_take 9 (oi := { dst := some 22, op := Go.Op.move (Go.Operand.tmp 21), type := 4, pos := "ref.go:68", after := #[{ on := 8, ground := Go.Ground.data }], guard := none }) (v := ?g8rv10) rfl (by kernel_rfl) (fun _ _ _ h => h) (by assumption) (by rfl) ?g8ry10 ?g8rr10
        case g8ry10 => intro w hSw; obtain ⟨⟨s1, s2⟩, s3, s4⟩ := hSw; go_simp; try with_reducible rfl
        try simp only [Act.put, List.setIfInBounds_toArray, List.set_cons_zero, List.set_cons_succ]
        first
          | refine Go.Shr.wpAnyF_skip 10 (oi := { dst := some 23, op := Go.Op.move (Go.Operand.tmp 0), type := 25, pos := "ref.go:68", after := #[{ on := 9, ground := Go.Ground.guard }], guard := some (9, true) }) rfl (by kernel_rfl) (fun _ _ _ h => h) (by assumption) (by rfl) ?_
          | (refine Go.Shr.wpAnyF_take 10 (oi := { dst := some 23, op := Go.Op.move (Go.Operand.tmp 0), type := 25, pos := "ref.go:68", after := #[{ on := 9, ground := Go.Ground.guard }], guard := some (9, true) }) (v := ?g8rv11) rfl (by kernel_rfl) (fun _ _ _ h => h) (by assumption) (by rfl) ?g8ry11 ?g8rr11
             case g8ry11 => intro w hSw; obtain ⟨⟨s1, s2⟩, s3, s4⟩ := hSw; go_simp; try with_reducible rfl)
        try simp only [Act.put, List.setIfInBounds_toArray, List.set_cons_zero, List.set_cons_succ]
        first
          | refine Go.Shr.wpAnyF_skip 11 (oi := { dst := some 24, op := Go.Op.move (Go.Operand.tmp 7), type := 3, pos := "ref.go:68", after := #[{ on := 9, ground := Go.Ground.guard }], guard := some (9, true) }) rfl (by kernel_rfl) (fun _ _ _ h => h) (by assumption) (by rfl) ?_
          | (refine Go.Shr.wpAnyF_take 11 (oi := { dst := some 24, op := Go.Op.move (Go.Operand.tmp 7), type := 3, pos := "ref.go:68", after := #[{ on := 9, ground := Go.Ground.guard }], guard := some (9, true) }) (v := ?g8rv12) rfl (by kernel_rfl) (fun _ _ _ h => h) (by assumption) (by rfl) ?g8ry12 ?g8rr12
             case g8ry12 => intro w hSw; obtain ⟨⟨s1, s2⟩, s3, s4⟩ := hSw; go_simp; try with_reducible rfl)
        try simp only [Act.put, List.setIfInBounds_toArray, List.set_cons_zero, List.set_cons_succ]
        first
          | refine Go.Shr.wpAnyF_skip 12 (oi := { dst := some 25, op := Go.Op.indexAddr 25 (Go.Operand.tmp 23) (Go.Operand.tmp 24), type := 0, pos := "ref.go:68", after := #[{ on := 10, ground := Go.Ground.data }, { on := 11, ground := Go.Ground.data }, { on := 9, ground := Go.Ground.guard }], guard := some (9, true) }) rfl (by kernel_rfl) (fun _ _ _ h => h) (by assumption) (by rfl) ?_
          | (refine Go.Shr.wpAnyF_take 12 (oi := { dst := some 25, op := Go.Op.indexAddr 25 (Go.Operand.tmp 23) (Go.Operand.tmp 24), type := 0, pos := "ref.go:68", after := #[{ on := 10, ground := Go.Ground.data }, { on := 11, ground := Go.Ground.data }, { on := 9, ground := Go.Ground.guard }], guard := some (9, true) }) (v := ?g8rv13) rfl (by kernel_rfl) (fun _ _ _ h => h) (by assumption) (by rfl) ?g8ry13 ?g8rr13
             case g8ry13 => intro w hSw; obtain ⟨⟨s1, s2⟩, s3, s4⟩ := hSw; go_simp; try with_reducible rfl)
        try simp only [Act.put, List.setIfInBounds_toArray, List.set_cons_zero, List.set_cons_succ]
        first
          | refine Go.Shr.wpAnyF_skip 13 (oi := { dst := some 26, op := Go.Op.fieldAddr 40 (Go.Operand.tmp 25) 0, type := 0, pos := "ref.go:68", after := #[{ on := 12, ground := Go.Ground.data }, { on := 9, ground := Go.Ground.guard }], guard := some (9, true) }) rfl (by kernel_rfl) (fun _ _ _ h => h) (by assumption) (by rfl) ?_
          | (refine Go.Shr.wpAnyF_take 13 (oi := { dst := some 26, op := Go.Op.fieldAddr 40 (Go.Operand.tmp 25) 0, type := 0, pos := "ref.go:68", after := #[{ on := 12, ground := Go.Ground.data }, { on := 9, ground := Go.Ground.guard }], guard := some (9, true) }) (v := ?g8rv14) rfl (by kernel_rfl) (fun _ _ _ h => h) (by assumption) (by rfl) ?g8ry14 ?g8rr14
             case g8ry14 => intro w hSw; obtain ⟨⟨s1, s2⟩, s3, s4⟩ := hSw; go_simp; try with_reducible rfl)
        try simp only [Act.put, List.setIfInBounds_toArray, List.set_cons_zero, List.set_cons_succ]
        first
          | refine Go.Shr.wpAnyF_skip 14 (oi := { dst := some 27, op := Go.Op.load 9 (Go.Operand.tmp 26), type := 9, pos := "ref.go:68", after := #[{ on := 13, ground := Go.Ground.data }, { on := 9, ground := Go.Ground.guard }], guard := some (9, true) }) rfl (by kernel_rfl) (fun _ _ _ h => h) (by assumption) (by rfl) ?_
          | (refine Go.Shr.wpAnyF_take 14 (oi := { dst := some 27, op := Go.Op.load 9 (Go.Operand.tmp 26), type := 9, pos := "ref.go:68", after := #[{ on := 13, ground := Go.Ground.data }, { on := 9, ground := Go.Ground.guard }], guard := some (9, true) }) (v := ?g8rv15) rfl (by kernel_rfl) (fun _ _ _ h => h) (by assumption) (by rfl) ?g8ry15 ?g8rr15
             case g8ry15 => intro w hSw; obtain ⟨⟨s1, s2⟩, s3, s4⟩ := hSw; go_simp; try with_reducible rfl)
        try simp only [Act.put, List.setIfInBounds_toArray, List.set_cons_zero, List.set_cons_succ]
        first
          | refine Go.Shr.wpAnyF_skip 15 (oi := { dst := some 28, op := Go.Op.move (Go.Operand.tmp 0), type := 25, pos := "ref.go:68", after := #[{ on := 9, ground := Go.Ground.guard }], guard := some (9, true) }) rfl (by kernel_rfl) (fun _ _ _ h => h) (by assumption) (by rfl) ?_
          | (refine Go.Shr.wpAnyF_take 15 (oi := { dst := some 28, op := Go.Op.move (Go.Operand.tmp 0), type := 25, pos := "ref.go:68", after := #[{ on := 9, ground := Go.Ground.guard }], guard := some (9, true) }) (v := ?g8rv16) rfl (by kernel_rfl) (fun _ _ _ h => h) (by assumption) (by rfl) ?g8ry16 ?g8rr16
             case g8ry16 => intro w hSw; obtain ⟨⟨s1, s2⟩, s3, s4⟩ := hSw; go_simp; try with_reducible rfl)
        try simp only [Act.put, List.setIfInBounds_toArray, List.set_cons_zero, List.set_cons_succ]
        first
          | refine Go.Shr.wpAnyF_skip 16 (oi := { dst := some 29, op := Go.Op.move (Go.Operand.tmp 2), type := 3, pos := "ref.go:68", after := #[{ on := 9, ground := Go.Ground.guard }], guard := some (9, true) }) rfl (by kernel_rfl) (fun _ _ _ h => h) (by assumption) (by rfl) ?_
          | (refine Go.Shr.wpAnyF_take 16 (oi := { dst := some 29, op := Go.Op.move (Go.Operand.tmp 2), type := 3, pos := "ref.go:68", after := #[{ on := 9, ground := Go.Ground.guard }], guard := some (9, true) }) (v := ?g8rv17) rfl (by kernel_rfl) (fun _ _ _ h => h) (by assumption) (by rfl) ?g8ry17 ?g8rr17
             case g8ry17 => intro w hSw; obtain ⟨⟨s1, s2⟩, s3, s4⟩ := hSw; go_simp; try with_reducible rfl)
        try simp only [Act.put, List.setIfInBounds_toArray, List.set_cons_zero, List.set_cons_succ]
        first
          | refine Go.Shr.wpAnyF_skip 17 (oi := { dst := some 30, op := Go.Op.indexAddr 25 (Go.Operand.tmp 28) (Go.Operand.tmp 29), type := 0, pos := "ref.go:68", after := #[{ on := 15, ground := Go.Ground.data }, { on := 16, ground := Go.Ground.data }, { on := 9, ground := Go.Ground.guard }], guard := some (9, true) }) rfl (by kernel_rfl) (fun _ _ _ h => h) (by assumption) (by rfl) ?_
          | (refine Go.Shr.wpAnyF_take 17 (oi := { dst := some 30, op := Go.Op.indexAddr 25 (Go.Operand.tmp 28) (Go.Operand.tmp 29), type := 0, pos := "ref.go:68", after := #[{ on := 15, ground := Go.Ground.data }, { on := 16, ground := Go.Ground.data }, { on := 9, ground := Go.Ground.guard }], guard := some (9, true) }) (v := ?g8rv18) rfl (by kernel_rfl) (fun _ _ _ h => h) (by assumption) (by rfl) ?g8ry18 ?g8rr18
             case g8ry18 => intro w hSw; obtain ⟨⟨s1, s2⟩, s3, s4⟩ := hSw; go_simp; try with_reducible rfl)
        try simp only [Act.put, List.setIfInBounds_toArray, List.set_cons_zero, List.set_cons_succ]
        first
          | refine Go.Shr.wpAnyF_skip 18 (oi := { dst := some 31, op := Go.Op.fieldAddr 40 (Go.Operand.tmp 30) 0, type := 0, pos := "ref.go:68", after := #[{ on := 17, ground := Go.Ground.data }, { on := 9, ground := Go.Ground.guard }], guard := some (9, true) }) rfl (by kernel_rfl) (fun _ _ _ h => h) (by assumption) (by rfl) ?_
          | (refine Go.Shr.wpAnyF_take 18 (oi := { dst := some 31, op := Go.Op.fieldAddr 40 (Go.Operand.tmp 30) 0, type := 0, pos := "ref.go:68", after := #[{ on := 17, ground := Go.Ground.data }, { on := 9, ground := Go.Ground.guard }], guard := some (9, true) }) (v := ?g8rv19) rfl (by kernel_rfl) (fun _ _ _ h => h) (by assumption) (by rfl) ?g8ry19 ?g8rr19
             case g8ry19 => intro w hSw; obtain ⟨⟨s1, s2⟩, s3, s4⟩ := hSw; go_simp; try with_reducible rfl)
        try simp only [Act.put, List.setIfInBounds_toArray, List.set_cons_zero, List.set_cons_succ]
        first
          | refine Go.Shr.wpAnyF_skip 19 (oi := { dst := some 32, op := Go.Op.load 9 (Go.Operand.tmp 31), type := 9, pos := "ref.go:68", after := #[{ on := 18, ground := Go.Ground.data }, { on := 9, ground := Go.Ground.guard }], guard := some (9, true) }) rfl (by kernel_rfl) (fun _ _ _ h => h) (by assumption) (by rfl) ?_
          | (refine Go.Shr.wpAnyF_take 19 (oi := { dst := some 32, op := Go.Op.load 9 (Go.Operand.tmp 31), type := 9, pos := "ref.go:68", after := #[{ on := 18, ground := Go.Ground.data }, { on := 9, ground := Go.Ground.guard }], guard := some (9, true) }) (v := ?g8rv20) rfl (by kernel_rfl) (fun _ _ _ h => h) (by assumption) (by rfl) ?g8ry20 ?g8rr20
             case g8ry20 => intro w hSw; obtain ⟨⟨s1, s2⟩, s3, s4⟩ := hSw; go_simp; try with_reducible rfl)
        try simp only [Act.put, List.setIfInBounds_toArray, List.set_cons_zero, List.set_cons_succ]
        first
          | refine Go.Shr.wpAnyF_skip 20 (oi := { dst := some 33, op := Go.Op.binOp Go.BinOp.eql 9 (Go.Operand.tmp 27) (Go.Operand.tmp 32) 9, type := 4, pos := "ref.go:68", after := #[{ on := 14, ground := Go.Ground.data }, { on := 19, ground := Go.Ground.data }, { on := 9, ground := Go.Ground.guard }], guard := some (9, true) }) rfl (by kernel_rfl) (fun _ _ _ h => h) (by assumption) (by rfl) ?_
          | (refine Go.Shr.wpAnyF_take 20 (oi := { dst := some 33, op := Go.Op.binOp Go.BinOp.eql 9 (Go.Operand.tmp 27) (Go.Operand.tmp 32) 9, type := 4, pos := "ref.go:68", after := #[{ on := 14, ground := Go.Ground.data }, { on := 19, ground := Go.Ground.data }, { on := 9, ground := Go.Ground.guard }], guard := some (9, true) }) (v := ?g8rv21) rfl (by kernel_rfl) (fun _ _ _ h => h) (by assumption) (by rfl) ?g8ry21 ?g8rr21
             case g8ry21 => intro w hSw; obtain ⟨⟨s1, s2⟩, s3, s4⟩ := hSw; go_simp; try with_reducible rfl)
        try simp only [Act.put, List.setIfInBounds_toArray, List.set_cons_zero, List.set_cons_succ]
        refine Go.Shr.wpAnyF_take 21 (oi := { dst := some 34, op := Go.Op.pick (Go.Operand.tmp 22) (Go.Operand.tmp 33) (Go.Operand.const (Go.Value.bool false)), type := 4, pos := "ref.go:68", after := #[{ on := 9, ground := Go.Ground.data }, { on := 20, ground := Go.Ground.data }], guard := none }) (v := ?g8rv22) rfl (by kernel_rfl) (fun _ _ _ h => h) (by assumption) (by rfl) ?g8ry22 ?g8rr22
        case g8ry22 => intro w hSw; obtain ⟨⟨s1, s2⟩, s3, s4⟩ := hSw; go_simp; try with_reducible rfl
        try simp only [Act.put, List.setIfInBounds_toArray, List.set_cons_zero, List.set_cons_succ]
        refine Go.Shr.wpAnyF_done (by kernel_rfl) ?_
        clear hHeld p0 p1 s0 s1
        go_wp2_with fail
        go_roundw
        case rel => exact ⟨j + 1, by go_num, by omega, HD⟩
        case measure => simp [intOf]; omega
      · have habb : (a == b) = false := beq_eq_false_iff_ne.2 hab
        refine Go.Shr.wp_region_F (fun w' => (w'.cell? ⟨pb, po + j, none⟩ = some (.int .i64 a) ∧ w'.cell? ⟨pb, po + i, none⟩ = some (.int .i64 b)) ∧ w'.cell? ⟨sb, so + j * 4, none⟩ = some (.string nj) ∧ w'.cell? ⟨sb, so + i * 4, none⟩ = some (.string ni)) [] (by kernel_rfl) ?g9rgS (fun hHeld => ?g9rgR)
        case g9rgS => (try dsimp only); (exact HC.out)
        try dsimp only at hHeld
        refine Go.Shr.wpAnyF_take 0 (oi := { dst := some 13, op := Go.Op.move (Go.Operand.tmp 1), type := 22, pos := "ref.go:68", after := #[], guard := none }) (v := ?g9rv1) rfl (by kernel_rfl) (fun _ _ _ h => h) (by assumption) (by rfl) ?g9ry1 ?g9rr1
        case g9ry1 => intro w hSw; obtain ⟨⟨s1, s2⟩, s3, s4⟩ := hSw; go_simp; try with_reducible rfl
        try simp only [Act.put, List.setIfInBounds_toArray, List.set_cons_zero, List.set_cons_succ]
        refine Go.Shr.wpAnyF_take 1 (oi := { dst := some 14, op := Go.Op.move (Go.Operand.tmp 7), type := 3, pos := "ref.go:68", after := #[], guard := none }) (v := ?g9rv2) rfl (by kernel_rfl) (fun _ _ _ h => h) (by assumption) (by rfl) ?g9ry2 ?g9rr2
        case g9ry2 => intro w hSw; obtain ⟨⟨s1, s2⟩, s3, s4⟩ := hSw; go_simp; try with_reducible rfl
        try simp only [Act.put, List.setIfInBounds_toArray, List.set_cons_zero, List.set_cons_succ]
        refine Go.Shr.wpAnyF_take 2 (oi := { dst := some 15, op := Go.Op.indexAddr 22 (Go.Operand.tmp 13) (Go.Operand.tmp 14), type := 0, pos := "ref.go:68", after := #[{ on := 0, ground := Go.Ground.data }, { on := 1, ground := Go.Ground.data }], guard := none }) (v := ?g9rv3) rfl (by kernel_rfl) (fun _ _ _ h => h) (by assumption) (by rfl) ?g9ry3 ?g9rr3
        case g9ry3 => intro w hSw; obtain ⟨⟨s1, s2⟩, s3, s4⟩ := hSw; go_simp; try with_reducible rfl
        try simp only [Act.put, List.setIfInBounds_toArray, List.set_cons_zero, List.set_cons_succ]
        refine Go.Shr.wpAnyF_take 3 (oi := { dst := some 16, op := Go.Op.load 3 (Go.Operand.tmp 15), type := 3, pos := "ref.go:68", after := #[{ on := 2, ground := Go.Ground.data }], guard := none }) (v := ?g9rv4) rfl (by kernel_rfl) (fun _ _ _ h => h) (by assumption) (by rfl) ?g9ry4 ?g9rr4
        case g9ry4 => intro w hSw; obtain ⟨⟨s1, s2⟩, s3, s4⟩ := hSw; go_simp; try with_reducible rfl
        try simp only [Act.put, List.setIfInBounds_toArray, List.set_cons_zero, List.set_cons_succ]
        refine Go.Shr.wpAnyF_take 4 (oi := { dst := some 17, op := Go.Op.move (Go.Operand.tmp 1), type := 22, pos := "ref.go:68", after := #[], guard := none }) (v := ?g9rv5) rfl (by kernel_rfl) (fun _ _ _ h => h) (by assumption) (by rfl) ?g9ry5 ?g9rr5
        case g9ry5 => intro w hSw; obtain ⟨⟨s1, s2⟩, s3, s4⟩ := hSw; go_simp; try with_reducible rfl
        try simp only [Act.put, List.setIfInBounds_toArray, List.set_cons_zero, List.set_cons_succ]
        refine Go.Shr.wpAnyF_take 5 (oi := { dst := some 18, op := Go.Op.move (Go.Operand.tmp 2), type := 3, pos := "ref.go:68", after := #[], guard := none }) (v := ?g9rv6) rfl (by kernel_rfl) (fun _ _ _ h => h) (by assumption) (by rfl) ?g9ry6 ?g9rr6
        case g9ry6 => intro w hSw; obtain ⟨⟨s1, s2⟩, s3, s4⟩ := hSw; go_simp; try with_reducible rfl
        try simp only [Act.put, List.setIfInBounds_toArray, List.set_cons_zero, List.set_cons_succ]
        refine Go.Shr.wpAnyF_take 6 (oi := { dst := some 19, op := Go.Op.indexAddr 22 (Go.Operand.tmp 17) (Go.Operand.tmp 18), type := 0, pos := "ref.go:68", after := #[{ on := 4, ground := Go.Ground.data }, { on := 5, ground := Go.Ground.data }], guard := none }) (v := ?g9rv7) rfl (by kernel_rfl) (fun _ _ _ h => h) (by assumption) (by rfl) ?g9ry7 ?g9rr7
        case g9ry7 => intro w hSw; obtain ⟨⟨s1, s2⟩, s3, s4⟩ := hSw; go_simp; try with_reducible rfl
        try simp only [Act.put, List.setIfInBounds_toArray, List.set_cons_zero, List.set_cons_succ]
        refine Go.Shr.wpAnyF_take 7 (oi := { dst := some 20, op := Go.Op.load 3 (Go.Operand.tmp 19), type := 3, pos := "ref.go:68", after := #[{ on := 6, ground := Go.Ground.data }], guard := none }) (v := ?g9rv8) rfl (by kernel_rfl) (fun _ _ _ h => h) (by assumption) (by rfl) ?g9ry8 ?g9rr8
        case g9ry8 => intro w hSw; obtain ⟨⟨s1, s2⟩, s3, s4⟩ := hSw; go_simp; try with_reducible rfl
        try simp only [Act.put, List.setIfInBounds_toArray, List.set_cons_zero, List.set_cons_succ]
        refine Go.Shr.wpAnyF_take 8 (oi := { dst := some 21, op := Go.Op.binOp Go.BinOp.eql 3 (Go.Operand.tmp 16) (Go.Operand.tmp 20) 3, type := 4, pos := "ref.go:68", after := #[{ on := 3, ground := Go.Ground.data }, { on := 7, ground := Go.Ground.data }], guard := none }) (v := ?g9rv9) rfl (by kernel_rfl) (fun _ _ _ h => h) (by assumption) (by rfl) ?g9ry9 ?g9rr9
        case g9ry9 => intro w hSw; obtain ⟨⟨s1, s2⟩, s3, s4⟩ := hSw; go_simp; try with_reducible rfl
        try simp only [Act.put, List.setIfInBounds_toArray, List.set_cons_zero, List.set_cons_succ]
        refine Go.Shr.wpAnyF_take 9 (oi := { dst := some 22, op := Go.Op.move (Go.Operand.tmp 21), type := 4, pos := "ref.go:68", after := #[{ on := 8, ground := Go.Ground.data }], guard := none }) (v := ?g9rv10) rfl (by kernel_rfl) (fun _ _ _ h => h) (by assumption) (by rfl) ?g9ry10 ?g9rr10
        case g9ry10 => intro w hSw; obtain ⟨⟨s1, s2⟩, s3, s4⟩ := hSw; go_simp; try with_reducible rfl
        try simp only [Act.put, List.setIfInBounds_toArray, List.set_cons_zero, List.set_cons_succ]
        first
          | refine Go.Shr.wpAnyF_skip 10 (oi := { dst := some 23, op := Go.Op.move (Go.Operand.tmp 0), type := 25, pos := "ref.go:68", after := #[{ on := 9, ground := Go.Ground.guard }], guard := some (9, true) }) rfl (by kernel_rfl) (fun _ _ _ h => h) (by assumption) (by rfl) ?_
          | (refine Go.Shr.wpAnyF_take 10 (oi := { dst := some 23, op := Go.Op.move (Go.Operand.tmp 0), type := 25, pos := "ref.go:68", after := #[{ on := 9, ground := Go.Ground.guard }], guard := some (9, true) }) (v := ?g9rv11) rfl (by kernel_rfl) (fun _ _ _ h => h) (by assumption) (by rfl) ?g9ry11 ?g9rr11
             case g9ry11 => intro w hSw; obtain ⟨⟨s1, s2⟩, s3, s4⟩ := hSw; go_simp; try with_reducible rfl)
        try simp only [Act.put, List.setIfInBounds_toArray, List.set_cons_zero, List.set_cons_succ]
        first
          | refine Go.Shr.wpAnyF_skip 11 (oi := { dst := some 24, op := Go.Op.move (Go.Operand.tmp 7), type := 3, pos := "ref.go:68", after := #[{ on := 9, ground := Go.Ground.guard }], guard := some (9, true) }) rfl (by kernel_rfl) (fun _ _ _ h => h) (by assumption) (by rfl) ?_
          | (refine Go.Shr.wpAnyF_take 11 (oi := { dst := some 24, op := Go.Op.move (Go.Operand.tmp 7), type := 3, pos := "ref.go:68", after := #[{ on := 9, ground := Go.Ground.guard }], guard := some (9, true) }) (v := ?g9rv12) rfl (by kernel_rfl) (fun _ _ _ h => h) (by assumption) (by rfl) ?g9ry12 ?g9rr12
             case g9ry12 => intro w hSw; obtain ⟨⟨s1, s2⟩, s3, s4⟩ := hSw; go_simp; try with_reducible rfl)
        try simp only [Act.put, List.setIfInBounds_toArray, List.set_cons_zero, List.set_cons_succ]
        first
          | refine Go.Shr.wpAnyF_skip 12 (oi := { dst := some 25, op := Go.Op.indexAddr 25 (Go.Operand.tmp 23) (Go.Operand.tmp 24), type := 0, pos := "ref.go:68", after := #[{ on := 10, ground := Go.Ground.data }, { on := 11, ground := Go.Ground.data }, { on := 9, ground := Go.Ground.guard }], guard := some (9, true) }) rfl (by kernel_rfl) (fun _ _ _ h => h) (by assumption) (by rfl) ?_
          | (refine Go.Shr.wpAnyF_take 12 (oi := { dst := some 25, op := Go.Op.indexAddr 25 (Go.Operand.tmp 23) (Go.Operand.tmp 24), type := 0, pos := "ref.go:68", after := #[{ on := 10, ground := Go.Ground.data }, { on := 11, ground := Go.Ground.data }, { on := 9, ground := Go.Ground.guard }], guard := some (9, true) }) (v := ?g9rv13) rfl (by kernel_rfl) (fun _ _ _ h => h) (by assumption) (by rfl) ?g9ry13 ?g9rr13
             case g9ry13 => intro w hSw; obtain ⟨⟨s1, s2⟩, s3, s4⟩ := hSw; go_simp; try with_reducible rfl)
        try simp only [Act.put, List.setIfInBounds_toArray, List.set_cons_zero, List.set_cons_succ]
        first
          | refine Go.Shr.wpAnyF_skip 13 (oi := { dst := some 26, op := Go.Op.fieldAddr 40 (Go.Operand.tmp 25) 0, type := 0, pos := "ref.go:68", after := #[{ on := 12, ground := Go.Ground.data }, { on := 9, ground := Go.Ground.guard }], guard := some (9, true) }) rfl (by kernel_rfl) (fun _ _ _ h => h) (by assumption) (by rfl) ?_
          | (refine Go.Shr.wpAnyF_take 13 (oi := { dst := some 26, op := Go.Op.fieldAddr 40 (Go.Operand.tmp 25) 0, type := 0, pos := "ref.go:68", after := #[{ on := 12, ground := Go.Ground.data }, { on := 9, ground := Go.Ground.guard }], guard := some (9, true) }) (v := ?g9rv14) rfl (by kernel_rfl) (fun _ _ _ h => h) (by assumption) (by rfl) ?g9ry14 ?g9rr14
             case g9ry14 => intro w hSw; obtain ⟨⟨s1, s2⟩, s3, s4⟩ := hSw; go_simp; try with_reducible rfl)
        try simp only [Act.put, List.setIfInBounds_toArray, List.set_cons_zero, List.set_cons_succ]
        first
          | refine Go.Shr.wpAnyF_skip 14 (oi := { dst := some 27, op := Go.Op.load 9 (Go.Operand.tmp 26), type := 9, pos := "ref.go:68", after := #[{ on := 13, ground := Go.Ground.data }, { on := 9, ground := Go.Ground.guard }], guard := some (9, true) }) rfl (by kernel_rfl) (fun _ _ _ h => h) (by assumption) (by rfl) ?_
          | (refine Go.Shr.wpAnyF_take 14 (oi := { dst := some 27, op := Go.Op.load 9 (Go.Operand.tmp 26), type := 9, pos := "ref.go:68", after := #[{ on := 13, ground := Go.Ground.data }, { on := 9, ground := Go.Ground.guard }], guard := some (9, true) }) (v := ?g9rv15) rfl (by kernel_rfl) (fun _ _ _ h => h) (by assumption) (by rfl) ?g9ry15 ?g9rr15
             case g9ry15 => intro w hSw; obtain ⟨⟨s1, s2⟩, s3, s4⟩ := hSw; go_simp; try with_reducible rfl)
        try simp only [Act.put, List.setIfInBounds_toArray, List.set_cons_zero, List.set_cons_succ]
        first
          | refine Go.Shr.wpAnyF_skip 15 (oi := { dst := some 28, op := Go.Op.move (Go.Operand.tmp 0), type := 25, pos := "ref.go:68", after := #[{ on := 9, ground := Go.Ground.guard }], guard := some (9, true) }) rfl (by kernel_rfl) (fun _ _ _ h => h) (by assumption) (by rfl) ?_
          | (refine Go.Shr.wpAnyF_take 15 (oi := { dst := some 28, op := Go.Op.move (Go.Operand.tmp 0), type := 25, pos := "ref.go:68", after := #[{ on := 9, ground := Go.Ground.guard }], guard := some (9, true) }) (v := ?g9rv16) rfl (by kernel_rfl) (fun _ _ _ h => h) (by assumption) (by rfl) ?g9ry16 ?g9rr16
             case g9ry16 => intro w hSw; obtain ⟨⟨s1, s2⟩, s3, s4⟩ := hSw; go_simp; try with_reducible rfl)
        try simp only [Act.put, List.setIfInBounds_toArray, List.set_cons_zero, List.set_cons_succ]
        first
          | refine Go.Shr.wpAnyF_skip 16 (oi := { dst := some 29, op := Go.Op.move (Go.Operand.tmp 2), type := 3, pos := "ref.go:68", after := #[{ on := 9, ground := Go.Ground.guard }], guard := some (9, true) }) rfl (by kernel_rfl) (fun _ _ _ h => h) (by assumption) (by rfl) ?_
          | (refine Go.Shr.wpAnyF_take 16 (oi := { dst := some 29, op := Go.Op.move (Go.Operand.tmp 2), type := 3, pos := "ref.go:68", after := #[{ on := 9, ground := Go.Ground.guard }], guard := some (9, true) }) (v := ?g9rv17) rfl (by kernel_rfl) (fun _ _ _ h => h) (by assumption) (by rfl) ?g9ry17 ?g9rr17
             case g9ry17 => intro w hSw; obtain ⟨⟨s1, s2⟩, s3, s4⟩ := hSw; go_simp; try with_reducible rfl)
        try simp only [Act.put, List.setIfInBounds_toArray, List.set_cons_zero, List.set_cons_succ]
        first
          | refine Go.Shr.wpAnyF_skip 17 (oi := { dst := some 30, op := Go.Op.indexAddr 25 (Go.Operand.tmp 28) (Go.Operand.tmp 29), type := 0, pos := "ref.go:68", after := #[{ on := 15, ground := Go.Ground.data }, { on := 16, ground := Go.Ground.data }, { on := 9, ground := Go.Ground.guard }], guard := some (9, true) }) rfl (by kernel_rfl) (fun _ _ _ h => h) (by assumption) (by rfl) ?_
          | (refine Go.Shr.wpAnyF_take 17 (oi := { dst := some 30, op := Go.Op.indexAddr 25 (Go.Operand.tmp 28) (Go.Operand.tmp 29), type := 0, pos := "ref.go:68", after := #[{ on := 15, ground := Go.Ground.data }, { on := 16, ground := Go.Ground.data }, { on := 9, ground := Go.Ground.guard }], guard := some (9, true) }) (v := ?g9rv18) rfl (by kernel_rfl) (fun _ _ _ h => h) (by assumption) (by rfl) ?g9ry18 ?g9rr18
             case g9ry18 => intro w hSw; obtain ⟨⟨s1, s2⟩, s3, s4⟩ := hSw; go_simp; try with_reducible rfl)
        try simp only [Act.put, List.setIfInBounds_toArray, List.set_cons_zero, List.set_cons_succ]
        first
          | refine Go.Shr.wpAnyF_skip 18 (oi := { dst := some 31, op := Go.Op.fieldAddr 40 (Go.Operand.tmp 30) 0, type := 0, pos := "ref.go:68", after := #[{ on := 17, ground := Go.Ground.data }, { on := 9, ground := Go.Ground.guard }], guard := some (9, true) }) rfl (by kernel_rfl) (fun _ _ _ h => h) (by assumption) (by rfl) ?_
          | (refine Go.Shr.wpAnyF_take 18 (oi := { dst := some 31, op := Go.Op.fieldAddr 40 (Go.Operand.tmp 30) 0, type := 0, pos := "ref.go:68", after := #[{ on := 17, ground := Go.Ground.data }, { on := 9, ground := Go.Ground.guard }], guard := some (9, true) }) (v := ?g9rv19) rfl (by kernel_rfl) (fun _ _ _ h => h) (by assumption) (by rfl) ?g9ry19 ?g9rr19
             case g9ry19 => intro w hSw; obtain ⟨⟨s1, s2⟩, s3, s4⟩ := hSw; go_simp; try with_reducible rfl)
        try simp only [Act.put, List.setIfInBounds_toArray, List.set_cons_zero, List.set_cons_succ]
        first
          | refine Go.Shr.wpAnyF_skip 19 (oi := { dst := some 32, op := Go.Op.load 9 (Go.Operand.tmp 31), type := 9, pos := "ref.go:68", after := #[{ on := 18, ground := Go.Ground.data }, { on := 9, ground := Go.Ground.guard }], guard := some (9, true) }) rfl (by kernel_rfl) (fun _ _ _ h => h) (by assumption) (by rfl) ?_
          | (refine Go.Shr.wpAnyF_take 19 (oi := { dst := some 32, op := Go.Op.load 9 (Go.Operand.tmp 31), type := 9, pos := "ref.go:68", after := #[{ on := 18, ground := Go.Ground.data }, { on := 9, ground := Go.Ground.guard }], guard := some (9, true) }) (v := ?g9rv20) rfl (by kernel_rfl) (fun _ _ _ h => h) (by assumption) (by rfl) ?g9ry20 ?g9rr20
             case g9ry20 => intro w hSw; obtain ⟨⟨s1, s2⟩, s3, s4⟩ := hSw; go_simp; try with_reducible rfl)
        try simp only [Act.put, List.setIfInBounds_toArray, List.set_cons_zero, List.set_cons_succ]
        first
          | refine Go.Shr.wpAnyF_skip 20 (oi := { dst := some 33, op := Go.Op.binOp Go.BinOp.eql 9 (Go.Operand.tmp 27) (Go.Operand.tmp 32) 9, type := 4, pos := "ref.go:68", after := #[{ on := 14, ground := Go.Ground.data }, { on := 19, ground := Go.Ground.data }, { on := 9, ground := Go.Ground.guard }], guard := some (9, true) }) rfl (by kernel_rfl) (fun _ _ _ h => h) (by assumption) (by rfl) ?_
          | (refine Go.Shr.wpAnyF_take 20 (oi := { dst := some 33, op := Go.Op.binOp Go.BinOp.eql 9 (Go.Operand.tmp 27) (Go.Operand.tmp 32) 9, type := 4, pos := "ref.go:68", after := #[{ on := 14, ground := Go.Ground.data }, { on := 19, ground := Go.Ground.data }, { on := 9, ground := Go.Ground.guard }], guard := some (9, true) }) (v := ?g9rv21) rfl (by kernel_rfl) (fun _ _ _ h => h) (by assumption) (by rfl) ?g9ry21 ?g9rr21
             case g9ry21 => intro w hSw; obtain ⟨⟨s1, s2⟩, s3, s4⟩ := hSw; go_simp; try with_reducible rfl)
        try simp only [Act.put, List.setIfInBounds_toArray, List.set_cons_zero, List.set_cons_succ]
        refine Go.Shr.wpAnyF_take 21 (oi := { dst := some 34, op := Go.Op.pick (Go.Operand.tmp 22) (Go.Operand.tmp 33) (Go.Operand.const (Go.Value.bool false)), type := 4, pos := "ref.go:68", after := #[{ on := 9, ground := Go.Ground.data }, { on := 20, ground := Go.Ground.data }], guard := none }) (v := ?g9rv22) rfl (by kernel_rfl) (fun _ _ _ h => h) (by assumption) (by rfl) ?g9ry22 ?g9rr22
        case g9ry22 => intro w hSw; obtain ⟨⟨s1, s2⟩, s3, s4⟩ := hSw; go_simp; try with_reducible rfl
        try simp only [Act.put, List.setIfInBounds_toArray, List.set_cons_zero, List.set_cons_succ]
        refine Go.Shr.wpAnyF_done (by kernel_rfl) ?_
        clear hHeld p0 p1 s0 s1
        go_wp2_with fail
        go_roundw
        case rel => exact ⟨j + 1, by go_num, by omega, HD⟩
        case measure => simp [intOf]; omega
    · obtain rfl : j = i := by omega
      go_wp2_with fail
      go_ret
      exact ⟨rfl, HB.out⟩
theorem sumK_take (l : List Fl) (j : Nat) (h : j < l.length) : sumK (l.take (j + 1)) = sumK (l.take j) + l[j].kids := by
  rw [List.take_succ_eq_append_getElem h, sumK_append]; simp [sumK]
theorem sumK_bd {l : List Fl} (h : ∀ f ∈ l, 0 ≤ f.kids ∧ f.kids ≤ 20) : 0 ≤ sumK l ∧ sumK l ≤ 20 * l.length := by
  induction l with
  | nil => simp [sumK]
  | cons f l ih =>
    have h1 := ih fun x hx => h x (by simp [hx])
    have h2 := h f (by simp)
    simp only [sumK, List.length_cons]
    push_cast
    omega
theorem nms_ne {l : List Fl} (h : Nms l) : ∀ i j (hi : i < l.length) (hj : j < l.length), i ≠ j → l[i].name ≠ l[j].name := by
  intro i j hi hj hne he
  have h2 := h.2
  rw [List.nodup_iff_pairwise_ne, List.pairwise_iff_getElem] at h2
  have key : ∀ a b (ha : a < l.length) (hb : b < l.length), a < b → l[a].name ≠ l[b].name := fun a b ha hb hab e => by
    have := h2 a b (by simpa using ha) (by simpa using hb) hab
    simp only [List.getElem_map] at this
    exact this (by rw [e])
  rcases Nat.lt_or_gt_of_ne hne with h3 | h3
  · exact key i j hi hj h3 he
  · exact key j i hj hi h3 he.symm
set_option maxHeartbeats 4000000 in
set_option maxRecDepth 100000 in
theorem rcheck_v (sa : Option Addr) (sc : Nat) (l : List Fl) (hk : CkOk l) (w : World) (hs : Sl (fun b => b < w.heap.size) w 4 sa l.length sc (fls l)) :
    Calls Try.prog 25 #[.slice sa l.length sc] w fun e w' => e = .returned (.int .i64 0) ∧ Below w.heap.size w w' := by
  have hpos := hk.pos
  have hmost := hk.most
  have hkids : ∀ f ∈ l, f.kids ≤ 1000 := fun f hf => by have := (hk.kid f hf).2.2.1; omega
  have HS := Lib.hid hs; have HK := Lib.hid hk
  clear hs hk
  go_enter Try.func25, Try.ntmps25
  go_wp2_with fail
  refine (refwalk_v sa l.length sc l w HS.out (by omega) hkids).mono ?_
  rintro e w1 ⟨aP, cP, aD, cD, rfl, hp, hd, _, hb⟩
  have HP := Lib.hid (hp.own.sl.mono (ok' := fun b => b < w1.heap.size) (fun k hk _ => hk) (by decide))
  have HD := Lib.hid (hd.own.sl.mono (ok' := fun b => b < w1.heap.size) (fun k hk _ => hk) (by decide))
  have HB1 := Lib.hid hb
  have HS1 := Lib.hid (slb HS.out hb)
  have hPl : (par l).length = l.length := par_length l
  have hDl : (dep l).length = l.length := depF_length l 0 []
  clear hp hd hb HS hkids
  go_wp2_with fail
  go_loopw [5, 6] (fun kv iv wr => ∃ j : Nat, kv = .int .i64 (sumK (l.take j)) ∧ iv = .int .i64 (j : Int) ∧ j ≤ l.length ∧ Hid (Below w1.heap.size w1 wr)) (fun _ iv _ => l.length - (intOf iv).toNat)
  case atStart => exact ⟨0, rfl, rfl, Nat.zero_le _, Lib.hid (b0 w1)⟩
  case round =>
    obtain ⟨j, rfl, rfl, hj, HB⟩ := hrel
    have hszr := HB.out.size
    by_cases hlt : j < l.length
    · obtain ⟨sb, so, rfl, hsb, hsc⟩ := HS1.out.pos (by omega)
      obtain ⟨pb, po, rfl, hpb, hpc⟩ := HP.out.pos (by omega)
      obtain ⟨db, do', rfl, hdb, hdc⟩ := HD.out.pos (by omega)
      obtain ⟨f0, f1, f2, f3⟩ := fls_get l j hlt
      have a0 := cb HB.out (hsc _ _ f0); have a1 := cb HB.out (hsc _ _ f1); have a2 := cb HB.out (hsc _ _ f2); have a3 := cb HB.out (hsc _ _ f3)
      rw [← Nat.add_assoc] at a1 a2 a3
      have p0 := cb HB.out (hpc _ _ (ints_get (par l) j (by omega)))
      have d0 := cb HB.out (hdc _ _ (ints_get (dep l) j (by omega)))
      have hm := List.getElem_mem hlt
      have hrk := HK.out.rk _ hm
      have hkd := HK.out.kid _ hm
      have hdp := (HK.out.dep _ (List.getElem_mem (show j < (dep l).length by omega))).2
      have hpp : 0 < j → 0 ≤ (par l)[j]'(by omega) := fun h => HK.out.par j h (by omega)
      have hrt : j = 0 → l[j].rep = 0 ∧ l[j].kind = 0 := fun h => by subst h; exact HK.out.root hlt
      obtain ⟨c, hc, hc1, hc2⟩ := HK.out.lts _ hm
      have hcn : l[j].name = ⟨#[c]⟩ := by
        have : l[j].name = ⟨l[j].name.data⟩ := rfl
        rw [this]; congr 1
        have h2 : l[j].name.data = l[j].name.data.toList.toArray := by simp
        rw [h2, hc]
      rw [hcn] at a0
      have HX := Lib.hid (sumK_take l j hlt)
      have hsb' := sumK_bd (l := l.take j) (fun f hf => by have := HK.out.kid f (List.mem_of_mem_take hf); omega)
      rw [List.length_take] at hsb'
      have HSU := Lib.hid hsb'
      have hsl1 : 0 ≤ sumK (l.take j) := hsb'.1
      have hsl2 : sumK (l.take j) ≤ 1000 := by omega
      have HTW := Lib.hid (fun w' (h : Below w1.heap.size w1 w') => twice_v (some ⟨sb, so, none⟩) (some ⟨pb, po, none⟩) sc cP l (par l) hPl (nms_ne HK.out.nms) j hlt (by omega) w' (slb HS1.out h) (slb HP.out h))
      generalize sumK (l.take j) = su at *
      generalize (par l)[j]'(by omega) = pj at *
      generalize (dep l)[j]'(by omega) = dj at *
      generalize l[j] = x at *
      obtain ⟨nm, rp, kd, kk⟩ := x
      dsimp only at a0 a1 a2 a3 hrk hkd hrt HX
      clear hsc hpc hdc f0 f1 f2 f3 hm hc hcn hsb'
      obtain ⟨hr1, hr2, hk1, hk2⟩ := hrk
      obtain ⟨hz1, hz2, hz3, hz4⟩ := hkd
      have n1 : ¬ dj > 8 := by omega
      have n2 : ¬ rp < 0 := by omega
      have n3 : ¬ rp > 2 := by omega
      have n4 : ¬ kd < 0 := by omega
      have n5 : ¬ kd > 4 := by omega
      have n6 : ¬ kk > 40 := by omega
      have hkc : (kd == 0) = true ∧ (kd != 0) = false ∧ ¬ kk < 1 ∨ (kd == 0) = false ∧ (kd != 0) = true ∧ (kk != 0) = false := by
        by_cases h : kd = 0
        · subst h; exact .inl ⟨rfl, rfl, by have := hz1 rfl; omega⟩
        · exact .inr ⟨by simp [h], by simp [h], by simp [hz2 h]⟩
      have HIN : Hid (IntKind.i64.wrap (su + kk) = su + kk) := Lib.hid (IntWalk.i64_in _ ⟨by omega, by omega⟩)
      by_cases h0 : j = 0
      · have hj0 : ¬ (j : Int) > 0 := by omega
        have hj0b : ((j : Int) == 0) = true := beq_iff_eq.2 (by omega)
        obtain ⟨rfl, rfl⟩ := hrt h0
        have hkk : ¬ kk < 1 := by have := hz1 rfl; omega
        have d1 := cb (ba (b0 wr) (.cells #[.string ⟨#[c]⟩, .int .i64 0, .int .i64 0, .int .i64 kk] 40)) d0
        clear hkc hz1 hz2 hpp hrt hdp h0
        go_wp2_with fail
        refine cgen (fun w2 hw2 => ?_)
        have hb2 : Below wr.heap.size wr w2 := by rw [hw2]; exact ba (b0 wr) _
        have r2 : Rw w2 wr.heap.size #[.string ⟨#[c]⟩, .int .i64 0, .int .i64 0, .int .i64 kk] 40 := by rw [hw2]; exact Rw.new wr _ _
        clear hw2
        refine (name_v c hc1 hc2 w2).mono ?_
        rintro e w3 ⟨rfl, rfl⟩
        have HB2 := Lib.hid (bt HB.out hb2)
        have z1 : w2.cell? ⟨wr.heap.size, 1, none⟩ = some (.int .i64 0) := r2.cell 1
        have z2 : w2.cell? ⟨wr.heap.size, 2, none⟩ = some (.int .i64 0) := r2.cell 2
        have z3 : w2.cell? ⟨wr.heap.size, 3, none⟩ = some (.int .i64 kk) := r2.cell 3
        have HW := HIN.out
        clear hb2 r2
        go_wp2_with fail
        clear HW
        go_roundw
        case rel => exact ⟨j + 1, by rw [HX.out], by go_num, by omega, HB2⟩
        case measure => simp [intOf]; omega
      · have hj0 : (j : Int) > 0 := by omega
        have hj0b : ((j : Int) == 0) = false := beq_eq_false_iff_ne.2 (by omega)
        have hpj : ¬ pj < 0 := by have := hpp (by omega); omega
        have d1 := cb (ba (b0 wr) (.cells #[.string ⟨#[c]⟩, .int .i64 rp, .int .i64 kd, .int .i64 kk] 40)) d0
        have p1 := cb (ba (b0 wr) (.cells #[.string ⟨#[c]⟩, .int .i64 rp, .int .i64 kd, .int .i64 kk] 40)) p0
        clear hz1 hz2 hpp hrt hdp h0
        go_wp2_with fail
        refine cgen (fun w2 hw2 => ?_)
        have hb2 : Below wr.heap.size wr w2 := by rw [hw2]; exact ba (b0 wr) _
        have r2 : Rw w2 wr.heap.size #[.string ⟨#[c]⟩, .int .i64 rp, .int .i64 kd, .int .i64 kk] 40 := by rw [hw2]; exact Rw.new wr _ _
        clear hw2
        refine (name_v c hc1 hc2 w2).mono ?_
        rintro e w3 ⟨rfl, rfl⟩
        have HB2 := Lib.hid (bt HB.out hb2)
        have R2 := Lib.hid r2
        clear hb2 r2
        go_wp2_with fail
        refine (HTW.out w2 HB2.out).mono ?_
        rintro e w3 ⟨rfl, hb3⟩
        have r3 := R2.out.below hb3
        have HB3 := Lib.hid (bt HB2.out hb3)
        have z1 : w3.cell? ⟨wr.heap.size, 1, none⟩ = some (.int .i64 rp) := r3.cell 1
        have z2 : w3.cell? ⟨wr.heap.size, 2, none⟩ = some (.int .i64 kd) := r3.cell 2
        have z3 : w3.cell? ⟨wr.heap.size, 3, none⟩ = some (.int .i64 kk) := r3.cell 3
        have HW := HIN.out
        clear hb3 r3
        rcases hkc with ⟨q1, q2, q3⟩ | ⟨q1, q2, q3⟩
        · go_wp2_with fail
          clear HW
          go_roundw
          case rel => exact ⟨j + 1, by rw [HX.out], by go_num, by omega, HB3⟩
          case measure => simp [intOf]; omega
        · go_wp2_with fail
          clear HW
          go_roundw
          case rel => exact ⟨j + 1, by rw [HX.out], by go_num, by omega, HB3⟩
          case measure => simp [intOf]; omega
    · obtain rfl : j = l.length := by omega
      have hsum : (sumK (l.take l.length) != (l.length : Int) - 1) = false := by rw [List.take_length, HK.out.sum]; simp
      generalize sumK (l.take l.length) = su at *
      go_wp2_with fail
      go_ret
      exact ⟨rfl, bt HB1.out HB.out⟩
end Go.Proofs.Ytgpffcgkfgiodaa
